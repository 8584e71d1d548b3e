/- The statements of layer 15 (book) hold: BookDoes. No conditions but the given ones. Part 4. -/
import Derived.Test.YtffdkniccaebmaaZD3
import Derived.RangeFuncRecord
import Derived.Test.YtffdkniccaebmaaProg
import Derived.KernelRfl
set_option linter.unusedVariables false
set_option linter.unusedSimpArgs false
section
section
set_option linter.unusedVariables false
namespace Vse
open Go Go.ChangeShapes
structure Rn where
 p : Nat → Bool
 cur : Nat → Nat
 to : Nat → Nat
 gT : Nat → Nat
 lent : Nat → Entry
 lp : Bool
def noE (_ : Nat) : Bool := false
def convV (R : Rn) (p : Bool) (a : Ty) (v : AV) : Option (List a.den) :=
 if keepOk p v && (!p || R.lp || (vcOf v).isEmpty) then match seen v ((vcOf v).map R.lent) with
  | some ⟨b, l⟩ => if b.inn noE false then castL ⟨b, l⟩ a else none
  | none => none
 else none
def convP (R : Rn) (p : Bool) (a : Ty) (e : Nat) (q : List PS) (x : PD q) : Option a.den :=
 if !p || R.lp then match R.lent e with
  | .box T z => match getP T z q x with
   | some t => if t.T.inn noE false then asW a t.T t.x else none
   | none => none
  | _ => none
 else none
def conv (R : Rn) : (W : Ty) → (T : Ty) → T.den → Option W.den
 | .prod a b, T, x => match T, x with
  | .prod c d, x => match conv R a c x.1 with
   | some y => match conv R b d x.2 with
    | some z => some (y, z)
    | none => none
   | none => none
  | _, _ => none
 | .vc t K, T, _ => match T with
  | .vc e g => if R.p e && decide (g = R.cur e) && decide (R.to e = t) && decide (R.gT t = K) then some () else none
  | _ => none
 | .mp t, T, _ => match T with
  | .mp e => if R.p e && decide (R.to e = t) then some () else none
  | _ => none
 | .ptr t p, T, x => match T, x with
  | .ptr e q, x => if R.p e && decide (R.to e = t) then (if h : q = p then some (h ▸ x) else none) else none
  | _, _ => none
 | .imm p f a, T, x => match T, x with
  | .nils, _ => if f then none else some []
  | .vc e g, u => if f then none else convV R p a (.v (.vc e g) u)
  | .sub e q, d => if f then none else convV R p a (.v (.sub e q) d)
  | .sv e q, d => if f then none else convV R p a (.v (.sv e q) d)
  | .tg q b, l => if f then none else convV R p a (.v (.tg q b) l)
  | .imm p' f' b, l => if (p' || !p) && (f' || !f) && b.inn noE false then castL ⟨b, l⟩ a else none
  | _, _ => none
 | .fn k c, T, x => match T, x with
  | .fn k' d, x => if k = k' then conv R c d x else none
  | _, _ => none
 | .ip p a, T, x => match T, x with
  | .ptr e q, x => convP R p a e q x
  | .ip p' b, y => if (p' || !p) && b.inn noE false then asW a b y else none
  | _, _ => none
 | W, T, x => if T.inn noE false then castT ⟨T, x⟩ W else none
structure CRel (R : Rn) (g g' : G) : Prop where
 fr : ∀ b o, g.fr b = some o → g'.fr b = some o
 gr : ∀ b o, g.gr b = some o → g'.gr b = some o
 bl : ∀ e, R.p e = true → g'.bl (R.to e) = g.bl e
 sz : ∀ e, R.p e = true → g'.sz (R.to e) = g.sz e
 sh : ∀ e, R.p e = true → match g.sh e with
  | .vec k s n => k = R.cur e ∧ g'.sh (R.to e) = .vec (R.gT (R.to e)) s n
  | .box s => g'.sh (R.to e) = .box s
  | .map => g'.sh (R.to e) = .map
  | .dead => g'.sh (R.to e) = .dead
  | .free => True
 lent : (∀ (v : AV) (p : Bool) (a : Ty) (l : List a.den) (rv : Value), convV R p a v = some l → VRep g v rv → VRep g' (.v (.imm p false a) l) rv) ∧
  ∀ (e : Nat) (q : List PS) (x : PD q) (p : Bool) (a : Ty) (y : a.den) (rv : Value), convP R p a e q x = some y → VRep g (.v (.ptr e q) x) rv → VRep g' (.v (.ip p a) y) rv
theorem CRel.agree {R : Rn} {g g' : G} (h : CRel R g g') : g.agree noE false g' := ⟨h.fr, fun _ => h.gr, fun e he => by cases he⟩
theorem castL_some {y : (a : Ty) × List a.den} {a : Ty} {l : List a.den} (h : castL y a = some l) : y = ⟨a, l⟩ := by
 obtain ⟨b, m⟩ := y
 unfold castL at h
 split at h
 ·rename_i he
  simp only at he
  subst he
  simp only [Option.some.injEq] at h
  subst h
  rfl
 ·cases h
theorem conv_sk {R : Rn} : ∀ (W T : Ty) (x : T.den) (y : W.den), conv R W T x = some y → W.sk = T.sk := by
 intro W
 have dflt : ∀ {W T : Ty} {x : T.den} {y : W.den}, (if T.inn noE false then castT ⟨T, x⟩ W else none) = some y → W.sk = T.sk := by
  intro W T x y h
  split at h
  ·have := castT_spec h
   simp only [TV.mk.injEq] at this
   rw [this.1]
  ·cases h
 induction W with
 | prod a b iha ihb =>
  intro T x y h
  cases T <;> simp only [conv] at h <;> try (cases h; done)
  split at h
  ·rename_i y1 h1
   split at h
   ·rename_i y2 h2
    simp only [Ty.sk]
    rw [iha _ _ _ h1, ihb _ _ _ h2]
   ·cases h
  ·cases h
 | vc t K => intro T x y h; cases T <;> simp only [conv] at h <;> first | (cases h; done) | rfl
 | ptr t p => intro T x y h; cases T <;> simp only [conv] at h <;> first | (cases h; done) | rfl
 | mp t => intro T x y h; cases T <;> simp only [conv] at h <;> first | (cases h; done) | rfl
 | imm p f a => intro T x y h; cases T <;> simp only [conv] at h <;> first | (cases h; done) | rfl
 | fn k c => intro T x y h; cases T <;> simp only [conv] at h <;> first | (cases h; done) | rfl
 | ip p a => intro T x y h; cases T <;> simp only [conv] at h <;> first | (cases h; done) | rfl
 | _ => intro T x y h; exact dflt h
theorem conv_agg {R : Rn} {W T : Ty} {x : T.den} {y : W.den} (h : conv R W T x = some y) : W.agg = T.agg := by
 unfold Ty.agg
 rw [conv_sk W T x y h]
theorem conv_Rep {R : Rn} {g g' : G} (hc : CRel R g g') : ∀ (W T : Ty) (x : T.den) (y : W.den) (cs : List Value), conv R W T x = some y → (Rep g T x cs → Rep g' W y cs) ∧ (Rep.RepC g T x cs → Rep.RepC g' W y cs) := by
 intro W
 have dflt : ∀ {W T : Ty} {x : T.den} {y : W.den} (cs : List Value), (if T.inn noE false then castT ⟨T, x⟩ W else none) = some y → (Rep g T x cs → Rep g' W y cs) ∧ (Rep.RepC g T x cs → Rep.RepC g' W y cs) := by
  intro W T x y cs h
  split at h
  ·rename_i hi
   have := castT_spec h
   simp only [TV.mk.injEq] at this
   obtain ⟨rfl, h2⟩ := this
   have h2 := eq_of_heq h2
   subst h2
   exact inn_Rep hc.agree T x cs hi
  ·cases h
 induction W with
 | prod a b iha ihb =>
  intro T x y cs h
  cases T <;> simp only [conv] at h <;> try (cases h; done)
  rename_i c d
  split at h
  ·rename_i y1 h1
   split at h
   ·rename_i y2 h2
    simp only [Option.some.injEq] at h
    subst h
    constructor
    ·rintro ⟨c1, c2, rfl, r1, r2⟩
     exact ⟨c1, c2, rfl, (iha _ _ _ _ h1).1 r1, (ihb _ _ _ _ h2).1 r2⟩
    ·rintro ⟨v, r, rfl, r1, r2⟩
     refine ⟨v, r, rfl, ?_, (ihb _ _ _ _ h2).2 r2⟩
     rw [conv_agg h1]
     split at r1
     ·rw [if_pos (by assumption)]
      obtain ⟨q, q1, q2⟩ := r1
      exact ⟨q, q1, (iha _ _ _ _ h1).1 q2⟩
     ·rw [if_neg (by assumption)]
      exact (iha _ _ _ _ h1).1 r1
   ·cases h
  ·cases h
 | vc t K =>
  intro T x y cs h
  cases T <;> simp only [conv] at h <;> try (cases h; done)
  rename_i e k
  split at h
  ·rename_i hh
   simp only [Bool.and_eq_true, decide_eq_true_eq] at hh
   obtain ⟨⟨⟨hp, hk⟩, ht⟩, hK⟩ := hh
   subst ht
   subst hK
   subst hk
   refine ⟨?_, fun hr => by simp [Rep.RepC] at hr⟩
   rintro ⟨h1, h2⟩
   refine ⟨h1, ?_⟩
   have hs := hc.sh e hp
   unfold G.vcr at h2 ⊢
   rw [hc.bl e hp, hc.sz e hp]
   cases he : g.sh e with
   | free => rw [he] at h2; exact h2.elim
   | dead => rw [he] at hs; simp only at hs; rw [hs]; trivial
   | box s => rw [he] at h2; exact h2.elim
   | map => rw [he] at h2; exact h2.elim
   | vec k s n =>
    rw [he] at hs h2
    simp only at hs h2
    rw [hs.2]
    simp only
    exact ⟨Nat.le_refl _, fun _ => h2.2 hs.1.symm⟩
  ·cases h
 | ptr t p =>
  intro T x y cs h
  cases T <;> simp only [conv] at h <;> try (cases h; done)
  rename_i e q
  split at h
  ·rename_i hh
   simp only [Bool.and_eq_true, decide_eq_true_eq] at hh
   obtain ⟨hp, ht⟩ := hh
   subst ht
   split at h
   ·rename_i hq
    subst hq
    simp only [Option.some.injEq] at h
    subst h
    refine ⟨?_, fun hr => by simp [Rep.RepC] at hr⟩
    rintro ⟨h1, h2⟩
    refine ⟨h1, ?_⟩
    have hs := hc.sh e hp
    unfold G.bxr at h2 ⊢
    rw [hc.bl e hp]
    cases he : g.sh e with
    | free => rw [he] at h2; exact h2.elim
    | dead => rw [he] at hs; simp only at hs; rw [hs]; trivial
    | vec k s n => rw [he] at h2; exact h2.elim
    | map => rw [he] at h2; exact h2.elim
    | box s =>
     rw [he] at hs h2
     simp only at hs h2
     rw [hs]
     exact h2
   ·cases h
  ·cases h
 | mp t =>
  intro T x y cs h
  cases T <;> simp only [conv] at h <;> try (cases h; done)
  rename_i e
  split at h
  ·rename_i hh
   simp only [Bool.and_eq_true, decide_eq_true_eq] at hh
   obtain ⟨hp, ht⟩ := hh
   subst ht
   refine ⟨?_, fun hr => by simp [Rep.RepC] at hr⟩
   rintro ⟨h1, h2⟩
   refine ⟨h1, ?_⟩
   have hs := hc.sh e hp
   unfold G.mpr at h2 ⊢
   rw [hc.bl e hp]
   cases he : g.sh e with
   | free => rw [he] at h2; exact h2.elim
   | dead => rw [he] at hs; simp only at hs; rw [hs]; trivial
   | vec k s n => rw [he] at h2; exact h2.elim
   | box s => rw [he] at h2; exact h2.elim
   | map =>
    rw [he] at hs h2
    simp only at hs h2
    rw [hs]
    exact h2
  ·cases h
 | imm p f a ih =>
  intro T x y cs h
  cases T <;> simp only [conv] at h <;> try (cases h; done)
  ·rename_i p' f' b
   split at h
   ·rename_i hh
    simp only [Bool.and_eq_true, Bool.or_eq_true, Bool.not_eq_true'] at hh
    obtain ⟨⟨hp, hf⟩, hb⟩ := hh
    have := castL_some h
    simp only [Sigma.mk.injEq] at this
    obtain ⟨rfl, h2⟩ := this
    have h2 := eq_of_heq h2
    subst h2
    refine ⟨?_, fun hr => by simp [Rep.RepC] at hr⟩
    rintro ⟨pv, cap, h1, h2, h3, h4⟩
    refine ⟨pv, cap, h1, h2, fun hx => h3 (hf.resolve_right (by simp [hx])), fun hne => ?_⟩
    obtain ⟨ad, vs, a1, a2, a3⟩ := h4 hne
    refine ⟨ad, vs, a1, repL_mono (fun z _ cs => (inn_Rep hc.agree b z cs hb).1) a2, ?_⟩
    rcases a3 with a3 | ⟨a3, a4⟩
    ·exact .inl (reads_mono hc.fr a3)
    ·exact .inr ⟨hp.resolve_left (by simp [a3]), reads_mono hc.gr a4⟩
   ·cases h
  ·rename_i e k
   refine ⟨?_, fun hr => by simp [Rep.RepC] at hr⟩
   intro hr
   split at h
   ·cases h
   ·rename_i hf
    have hf : f = false := by simpa using hf
    subst hf
    obtain ⟨v0, hv0⟩ : ∃ v0, cs = [v0] := by
     have := Rep_length _ _ _ hr
     match cs, this with
     | [v0], _ => exact ⟨v0, rfl⟩
    subst hv0
    have := hc.lent.1 _ _ _ _ v0 h ((VRep_v (by simp)).2 (TRep_of_leaf rfl hr))
    have := (VRep_v (by simp)).1 this
    unfold TRep at this
    rwa [if_neg (by simp [Ty.agg, Ty.sk, Sk.agg])] at this
  ·split at h
   ·cases h
   ·rename_i hf
    simp only [Option.some.injEq] at h
    subst h
    refine ⟨?_, fun hr => by simp [Rep.RepC] at hr⟩
    intro hr
    simp only [Rep] at hr
    subst hr
    exact ⟨none, 0, rfl, by simp, by simp [hf], fun h => absurd rfl h⟩
  ·rename_i e k
   refine ⟨?_, fun hr => by simp [Rep.RepC] at hr⟩
   intro hr
   split at h
   ·cases h
   ·rename_i hf
    have hf : f = false := by simpa using hf
    subst hf
    obtain ⟨v0, hv0⟩ : ∃ v0, cs = [v0] := by
     have := Rep_length _ _ _ hr
     match cs, this with
     | [v0], _ => exact ⟨v0, rfl⟩
    subst hv0
    have := hc.lent.1 _ _ _ _ v0 h ((VRep_v (by simp)).2 (TRep_of_leaf rfl hr))
    have := (VRep_v (by simp)).1 this
    unfold TRep at this
    rwa [if_neg (by simp [Ty.agg, Ty.sk, Sk.agg])] at this
  ·rename_i e k
   refine ⟨?_, fun hr => by simp [Rep.RepC] at hr⟩
   intro hr
   split at h
   ·cases h
   ·rename_i hf
    have hf : f = false := by simpa using hf
    subst hf
    obtain ⟨v0, hv0⟩ : ∃ v0, cs = [v0] := by
     have := Rep_length _ _ _ hr
     match cs, this with
     | [v0], _ => exact ⟨v0, rfl⟩
    subst hv0
    have := hc.lent.1 _ _ _ _ v0 h ((VRep_v (by simp)).2 (TRep_of_leaf rfl hr))
    have := (VRep_v (by simp)).1 this
    unfold TRep at this
    rwa [if_neg (by simp [Ty.agg, Ty.sk, Sk.agg])] at this
  ·rename_i e k
   refine ⟨?_, fun hr => by simp [Rep.RepC] at hr⟩
   intro hr
   split at h
   ·cases h
   ·rename_i hf
    have hf : f = false := by simpa using hf
    subst hf
    obtain ⟨v0, hv0⟩ : ∃ v0, cs = [v0] := by
     have := Rep_length _ _ _ hr
     match cs, this with
     | [v0], _ => exact ⟨v0, rfl⟩
    subst hv0
    have := hc.lent.1 _ _ _ _ v0 h ((VRep_v (by simp)).2 (TRep_of_leaf rfl hr))
    have := (VRep_v (by simp)).1 this
    unfold TRep at this
    rwa [if_neg (by simp [Ty.agg, Ty.sk, Sk.agg])] at this
 | ip p a ih =>
  intro T x y cs h
  cases T <;> simp only [conv] at h <;> try (cases h; done)
  ·refine ⟨?_, fun hr => by simp [Rep.RepC] at hr⟩
   intro hr
   obtain ⟨v0, hv0⟩ : ∃ v0, cs = [v0] := by
    have := Rep_length _ _ _ hr
    match cs, this with
    | [v0], _ => exact ⟨v0, rfl⟩
   subst hv0
   have := hc.lent.2 _ _ _ _ _ _ v0 h ((VRep_v (by simp)).2 (TRep_of_leaf rfl hr))
   have := (VRep_v (by simp)).1 this
   unfold TRep at this
   rwa [if_neg (by simp [Ty.agg, Ty.sk, Sk.agg])] at this
  ·refine ⟨?_, fun hr => by simp [Rep.RepC] at hr⟩
   split at h
   ·rename_i hh
    simp only [Bool.and_eq_true, Bool.or_eq_true, Bool.not_eq_true'] at hh
    rintro ⟨ad, vs, h1, h2, h3⟩
    refine ⟨ad, vs, h1, asW_Rep _ _ _ _ _ h ((inn_Rep hc.agree _ _ _ hh.2).1 h2), ?_⟩
    rcases h3 with h3 | ⟨h3, h4⟩
    ·exact .inl (reads_mono hc.fr h3)
    ·rcases hh.1 with q | q
     ·rw [q] at h3; cases h3
     ·exact .inr ⟨q, reads_mono hc.gr h4⟩
   ·cases h
 | fn k c ih =>
  intro T x y cs h
  cases T <;> simp only [conv] at h <;> try (cases h; done)
  rename_i k' d
  split at h
  ·rename_i hk
   subst hk
   refine ⟨?_, fun hr => by simp [Rep.RepC] at hr⟩
   rintro ⟨vs, h1, h2⟩
   exact ⟨vs, h1, (ih _ _ _ _ h).2 h2⟩
  ·cases h
 | _ => intro T x y cs h; exact dflt cs h
theorem conv_TRep {R : Rn} {g g' : G} (hc : CRel R g g') {W T : Ty} {x : T.den} {y : W.den} {v : Value} (h : conv R W T x = some y) (hr : TRep g T x v) : TRep g' W y v := by
 unfold TRep at hr ⊢
 rw [conv_agg h]
 split
 ·rw [if_pos (by assumption)] at hr; obtain ⟨cs, h1, h2⟩ := hr; exact ⟨cs, h1, (conv_Rep hc _ _ _ _ _ h).1 h2⟩
 ·rw [if_neg (by assumption)] at hr; exact (conv_Rep hc _ _ _ _ _ h).1 hr
theorem conv_und {R : Rn} {W T : Ty} {x : T.den} {y : W.den} (h : conv R W T x = some y) (hT : T = .und) : W = .und := by
 subst hT
 cases W <;> simp only [conv] at h <;> try (cases h; done)
 all_goals
  split at h
  ·have := castT_spec h
   simp only [TV.mk.injEq] at this
   first | rfl | (cases this.1)
  ·cases h
theorem conv_VRep {R : Rn} {g g' : G} (hc : CRel R g g') {W T : Ty} {x : T.den} {y : W.den} {v : Value} (h : conv R W T x = some y) (hr : VRep g (.v T x) v) : VRep g' (.v W y) v := by
 by_cases hT : T = .und
 ·have := conv_und h hT
  subst this
  trivial
 ·by_cases hW : W = .und
  ·subst hW; trivial
  ·exact (VRep_v hW).2 (conv_TRep hc h ((VRep_v hT).1 hr))
def EC (R : Rn) : Entry → Entry → Prop
 | .box T x, .box W y => conv R W T x = some y
 | .vec _ a l, .vec _ b m => (⟨a, l⟩ : (a : Ty) × List a.den) = ⟨b, m⟩ ∧ a.inn noE false = true
 | .map K V l, .map K' V' l' => (⟨K, V, l⟩ : (K : Ty) × (V : Ty) × List (K.den × V.den)) = ⟨K', V', l'⟩ ∧ (K.inn noE false = true ∧ V.inn noE false = true)
 | .dead, .dead => True
 | _, _ => False
noncomputable def G.rn (g : G) (H : Heap) (w : World) (p : Nat → Bool) (frz : Bool) (from_ : Nat → Nat) (H' : Heap) : G := { g with
 fr := fun b => open Classical in if (g.fr b).isSome then g.fr b else if frz = true ∧ ∃ e, p e = false ∧ (getE H e).live = true ∧ g.bl e = some b then w.heap[b]? else none
 sh := fun t => shp (getE H' t)
 bl := fun t => g.bl (from_ t)
 sz := fun t => g.sz (from_ t) }
theorem rn_fr {g : G} {H H' : Heap} {w : World} {p : Nat → Bool} {frz : Bool} {from_ : Nat → Nat} {b : Nat} {o : Obj} (h : g.fr b = some o) : (g.rn H w p frz from_ H').fr b = some o := by simp [G.rn, h]
theorem lent_view1 {g g' : G} {H : Heap} {w : World} (hI : HInv g H w) {R : Rn} (hR : ∀ e, R.lent e = getE H e ∨ R.lent e = .dead) (hfr : ∀ b o, g.fr b = some o → g'.fr b = some o) (hgr : ∀ b o, g.gr b = some o → g'.gr b = some o)
  (hblk : ∀ e b o, R.lent e = getE H e → (R.lent e).live = true → g.bl e = some b → w.heap[b]? = some o → g'.fr b = some o ∨ (R.lp = false ∧ g'.gr b = some o)) :
  ∀ (v : AV) (p : Bool) (a : Ty) (l : List a.den) (rv : Value), convV R p a v = some l → VRep g v rv → VRep g' (.v (.imm p false a) l) rv := by
 intro v p a l rv h hv
 have hag : g.agree noE false g' := ⟨hfr, fun _ => hgr, fun e he => by cases he⟩
 unfold convV at h
 split at h
 ·rename_i hc
  simp only [Bool.and_eq_true, Bool.or_eq_true, Bool.not_eq_true'] at hc
  obtain ⟨hk, hp⟩ := hc
  split at h
  ·rename_i b m hs
   split at h
   ·rename_i hb
    have := castL_some h
    simp only [Sigma.mk.injEq] at this
    obtain ⟨rfl, h2⟩ := this
    have h2 := eq_of_heq h2
    subst h2
    have hone : vcOf v = [] ∨ ∃ e, vcOf v = [e] := by
     unfold vcOf
     split
     ·exact .inr ⟨_, rfl⟩
     ·exact .inr ⟨_, rfl⟩
     ·exact .inr ⟨_, rfl⟩
     ·exact .inl rfl
    rcases hone with h0 | ⟨e, h0⟩
    ·have hs' : seen v (ents H (vcOf v)) = some ⟨b, m⟩ := by rw [h0] at hs ⊢; exact hs
     refine seen_view hI hv hs' hk hfr hgr (fun e bb o hvc => ?_) fun x cs => (inn_Rep hag b x cs hb).1
     rw [h0] at hvc; cases hvc
    ·have hlv : (R.lent e).live = true ∧ R.lent e = getE H e := by
      rcases hR e with hq | hq
      ·refine ⟨?_, hq⟩
       rw [h0] at hs
       simp only [List.map_cons, List.map_nil] at hs
       cases hE : R.lent e with
       | box => rfl
       | vec => rfl
       | map => rfl
       | itr => rfl
       | dead =>
        rw [hE] at hs
        unfold vcOf at h0
        split at h0
        ·simp [seen] at hs
        ·simp [seen] at hs
        ·simp [seen] at hs
        ·cases h0
       | free =>
        rw [hE] at hs
        unfold vcOf at h0
        split at h0
        ·simp [seen] at hs
        ·simp [seen] at hs
        ·simp [seen] at hs
        ·cases h0
      ·rw [h0] at hs
       simp only [List.map_cons, List.map_nil, hq] at hs
       unfold vcOf at h0
       split at h0
       ·simp [seen] at hs
       ·simp [seen] at hs
       ·simp [seen] at hs
       ·cases h0
     have hs' : seen v (ents H (vcOf v)) = some ⟨b, m⟩ := by
      rw [h0] at hs ⊢
      simp only [List.map_cons, List.map_nil, hlv.2] at hs
      exact hs
     refine seen_view hI hv hs' hk hfr hgr (fun e' bb o hvc hl hb' ho => ?_) fun x cs => (inn_Rep hag b x cs hb).1
     rw [h0] at hvc
     simp only [List.cons.injEq, and_true] at hvc
     subst hvc
     rcases hblk e bb o hlv.2 hlv.1 hb' ho with q | ⟨q1, q2⟩
     ·exact .inl q
     ·refine .inr ⟨?_, q2⟩
      rcases hp with (hp | hp) | hp
      ·exact hp
      ·rw [q1] at hp; cases hp
      ·rw [h0] at hp; cases hp
   ·cases h
  ·cases h
 ·cases h
theorem lent_view {g g' : G} {H : Heap} {w : World} (hI : HInv g H w) {R : Rn} (hR : ∀ e, R.lent e = getE H e ∨ R.lent e = .dead) (hfr : ∀ b o, g.fr b = some o → g'.fr b = some o) (hgr : ∀ b o, g.gr b = some o → g'.gr b = some o)
  (hblk : ∀ e b o, R.lent e = getE H e → (R.lent e).live = true → g.bl e = some b → w.heap[b]? = some o → g'.fr b = some o ∨ (R.lp = false ∧ g'.gr b = some o)) :
  (∀ (v : AV) (p : Bool) (a : Ty) (l : List a.den) (rv : Value), convV R p a v = some l → VRep g v rv → VRep g' (.v (.imm p false a) l) rv) ∧
  ∀ (e : Nat) (q : List PS) (x : PD q) (p : Bool) (a : Ty) (y : a.den) (rv : Value), convP R p a e q x = some y → VRep g (.v (.ptr e q) x) rv → VRep g' (.v (.ip p a) y) rv := by
 refine ⟨lent_view1 hI hR hfr hgr hblk, ?_⟩
 intro e q x p a y rv h hv
 have hag : g.agree noE false g' := ⟨hfr, fun _ => hgr, fun e he => by cases he⟩
 unfold convP at h
 split at h
 ·rename_i hp
  split at h
  ·rename_i T z hbox
   split at h
   ·rename_i t ht
    split at h
    ·rename_i hin
     have hE : R.lent e = getE H e := by
      rcases hR e with q | q
      ·exact q
      ·rw [q] at hbox; cases hbox
     have hlive : (R.lent e).live = true := by rw [hbox]; rfl
     have hent := hI.ent e
     rw [← hE, hbox] at hent
     obtain ⟨b, cs, tt, fz, w1, w2, w3, w4⟩ := hent
     have hv := (VRep_v (by simp)).1 hv
     have hsh : g.sh e = .box T.sk := by rw [hI.sh, ← hE, hbox]; rfl
     simp only [TRep, Ty.agg, Ty.sk, Sk.agg, Bool.false_eq_true, if_false, Rep, G.bxr, hsh] at hv
     obtain ⟨_, b', off, s', v1, v2, v3⟩ := hv
     simp only [List.cons.injEq, and_true] at v3
     subst v3
     rw [w1] at v1
     cases v1
     obtain ⟨p1, p2, p3⟩ := getP_rep T z q x cs.toList t off s' w4 ht v2
     refine (VRep_v (by simp)).2 (TRep_of_leaf rfl ?_)
     refine ⟨_, seg cs.toList off t.T.nc, rfl, asW_Rep _ _ _ _ _ h ((inn_Rep hag _ _ _ hin).1 p1), ?_⟩
     have hrd : ∀ F : Nat → Option Obj, F b = some (.cells cs tt fz) → reads F ⟨b, off, none⟩ (seg cs.toList off t.T.nc) := by
      intro F hF
      refine ⟨rfl, cs, tt, fz, hF, fun i v hv => ?_⟩
      unfold seg at hv
      have hi : i < t.T.nc := by
       have := (List.getElem?_eq_some_iff.1 hv).1
       rw [List.length_take] at this
       omega
      rw [List.getElem?_take_of_lt hi, List.getElem?_drop] at hv
      simpa using hv
     rcases hblk e b _ hE hlive w1 w2 with q | ⟨q1, q2⟩
     ·exact .inl (hrd _ q)
     ·refine .inr ⟨?_, hrd _ q2⟩
      simp only [Bool.or_eq_true, Bool.not_eq_true'] at hp
      rcases hp with hp | hp
      ·exact hp
      ·rw [q1] at hp; cases hp
    ·cases h
   ·cases h
  ·cases h
 ·cases h
theorem conv_inv {g : G} {H H' : Heap} {w : World} (hI : HInv g H w) {R : Rn} {q : Nat → Bool} {from_ : Nat → Nat}
  (h1 : ∀ e, R.p e = true → q (R.to e) = true ∧ from_ (R.to e) = e) (h2 : ∀ t, q t = true → R.p (from_ t) = true ∧ R.to (from_ t) = t)
  (hcur : ∀ e k a l, R.p e = true → getE H e = .vec k a l → k = R.cur e) (hgT : ∀ t K a l, q t = true → getE H' t = .vec K a l → R.gT t = K)
  (hE : ∀ t, q t = true → EC R (getE H (from_ t)) (getE H' t)) (hd : ∀ t, q t = false → (getE H' t).live = false) (frz : Bool) (hl : ∀ e, R.lent e = if frz && !(R.p e) then getE H e else .dead) :
  HInv (g.rn H w R.p frz from_ H') H' w ∧ CRel R g (g.rn H w R.p frz from_ H') := by
 have hrel : CRel R g (g.rn H w R.p frz from_ H') := by
  refine ⟨fun _ _ h => rn_fr h, fun _ _ h => h, fun e he => ?_, fun e he => ?_, fun e he => ?_, ?_⟩
  ·show g.bl (from_ (R.to e)) = _
   rw [(h1 e he).2]
  ·show g.sz (from_ (R.to e)) = _
   rw [(h1 e he).2]
  ·obtain ⟨hq, hf⟩ := h1 e he
   have hec := hE _ hq
   rw [hf] at hec
   rw [hI.sh e]
   show match shp (getE H e) with
    | .vec k s n => k = R.cur e ∧ shp (getE H' (R.to e)) = .vec (R.gT (R.to e)) s n
    | .box s => shp (getE H' (R.to e)) = .box s
    | .map => shp (getE H' (R.to e)) = .map
    | .dead => shp (getE H' (R.to e)) = .dead
    | .free => True
   cases hs : getE H e with
   | free => trivial
   | dead =>
    rw [hs] at hec
    cases ht : getE H' (R.to e) <;> rw [ht] at hec <;> first | rfl | (exact hec.elim)
   | box T x =>
    rw [hs] at hec
    cases ht : getE H' (R.to e) <;> rw [ht] at hec <;> try (exact hec.elim)
    simp only [shp]
    rw [conv_sk _ _ _ _ hec]
   | map K V l =>
    rw [hs] at hec
    cases ht : getE H' (R.to e) <;> rw [ht] at hec <;> first | rfl | (exact hec.elim)
   | itr s p =>
    rw [hs] at hec
    cases ht : getE H' (R.to e) <;> rw [ht] at hec <;> first | rfl | (exact hec.elim)
   | vec k a l =>
    rw [hs] at hec
    cases ht : getE H' (R.to e) <;> rw [ht] at hec <;> try (exact hec.elim)
    obtain ⟨hec, _⟩ := hec
    simp only [Sigma.mk.injEq] at hec
    obtain ⟨rfl, hll⟩ := hec
    have hll := eq_of_heq hll
    subst hll
    simp only [shp]
    exact ⟨hcur e _ _ _ he hs, by rw [hgT _ _ _ _ hq ht]⟩
  ·refine lent_view hI (fun e => ?_) (fun _ _ h => rn_fr h) (fun _ _ h => h) (fun e b o hq hlv hb ho => .inl ?_)
   ·rw [hl e]; split
    ·exact .inl rfl
    ·exact .inr rfl
   ·have hc : frz = true ∧ R.p e = false := by
     have := hl e
     by_cases hx : (frz && !(R.p e)) = true
     ·simpa using hx
     ·rw [if_neg hx] at this
      rw [this] at hlv
      cases hlv
    rw [hq] at hlv
    simp only [G.rn]
    rw [(hI.own e b hlv hb).1]
    simp only [Option.isSome_none, Bool.false_eq_true, if_false]
    rw [if_pos ⟨hc.1, e, hc.2, hlv, hb⟩]
    exact ho
 have hlive : ∀ t, (getE H' t).live = true → q t = true ∧ (getE H (from_ t)).live = true := by
  intro t ht
  cases hq : q t with
  | false => rw [hd t hq] at ht; cases ht
  | true =>
   refine ⟨rfl, ?_⟩
   have := hE t hq
   cases hs : getE H (from_ t) <;> cases ht' : getE H' t <;> rw [hs, ht'] at this <;> first | rfl | (exact this.elim) | (rw [ht'] at ht; cases ht)
 refine ⟨⟨fun e => rfl, fun b o h => ?_, hI.gr, ?_, ?_, fun b o o' h h' => ?_, ?_, hI.ext⟩, hrel⟩
 ·simp only [G.rn] at h
  split at h
  ·exact hI.fr b o h
  ·split at h
   ·exact h
   ·cases h
 ·intro t
  cases hq : q t with
  | false =>
   have := hd t hq
   cases ht : getE H' t <;> rw [ht] at this <;> first | trivial | (cases this)
  | true =>
   have hec := hE t hq
   have he := hI.ent (from_ t)
   cases ht : getE H' t with
   | free => trivial
   | dead => trivial
   | box W y =>
    rw [ht] at hec
    cases hs : getE H (from_ t) <;> rw [hs] at hec he <;> try (exact hec.elim)
    obtain ⟨b, cs, tt, fz, w1, w2, w3, w4⟩ := he
    exact ⟨b, cs, tt, fz, w1, w2, w3, (conv_Rep hrel _ _ _ _ _ hec).1 w4⟩
   | map K V l =>
    rw [ht] at hec
    cases hs : getE H (from_ t) <;> rw [hs] at hec he <;> try (exact hec.elim)
    obtain ⟨hec, hk, hv⟩ := hec
    simp only [Sigma.mk.injEq] at hec
    obtain ⟨rfl, hll⟩ := hec
    have hll := eq_of_heq hll
    simp only [Sigma.mk.injEq] at hll
    obtain ⟨rfl, hll⟩ := hll
    have hll := eq_of_heq hll
    subst hll
    obtain ⟨b, es, clock, w1, w2, w3⟩ := he
    exact ⟨b, es, clock, w1, w2, mapRep_mono (fun _ _ => inn_TRep hrel.agree hk) (fun _ _ => inn_TRep hrel.agree hv) w3⟩
   | itr s p =>
    rw [ht] at hec
    cases hs : getE H (from_ t) <;> rw [hs] at hec he <;> exact hec.elim
   | vec k a l =>
    rw [ht] at hec
    cases hs : getE H (from_ t) <;> rw [hs] at hec he <;> try (exact hec.elim)
    obtain ⟨hec, hin⟩ := hec
    simp only [Sigma.mk.injEq] at hec
    obtain ⟨rfl, hll⟩ := hec
    have hll := eq_of_heq hll
    subst hll
    rcases he with ⟨q1, q2⟩ | ⟨b', cs, tt, fz, vs, r, q1, q2, q3, q4, q5, q6, q7⟩
    ·exact .inl ⟨q1, q2⟩
    ·exact .inr ⟨b', cs, tt, fz, vs, r, q1, q2, q3, q4, q5, repL_mono (fun y _ cs => (inn_Rep hrel.agree _ y cs hin).1) q6, q7⟩
 ·intro t b hl' hb
  obtain ⟨q1, q2⟩ := hlive t hl'
  have hb : g.bl (from_ t) = some b := hb
  refine ⟨?_, (hI.own _ b q2 hb).2⟩
  simp only [G.rn]
  rw [(hI.own _ b q2 hb).1]
  simp only [Option.isSome_none, Bool.false_eq_true, if_false]
  rw [if_neg]
  rintro ⟨_, e, h3, h4, h5⟩
  have := hI.dis _ _ b q2 h4 hb h5
  rw [← this, (h2 t q1).1] at h3
  cases h3
 ·simp only [G.rn] at h
  split at h
  ·exact hI.sep b o o' h h'
  ·split at h
   ·rename_i hx
    obtain ⟨_, e, h3, h4, h5⟩ := hx
    have h' : g.gr b = some o' := h'
    rw [(hI.own e b h4 h5).2] at h'
    cases h'
   ·cases h
 ·intro t t' b hl1 hl2 hb1 hb2
  obtain ⟨q1, q2⟩ := hlive t hl1
  obtain ⟨q3, q4⟩ := hlive t' hl2
  have := hI.dis _ _ b q2 q4 hb1 hb2
  rw [← (h2 t q1).2, ← (h2 t' q3).2, this]
end Vse
end
section
set_option linter.unusedVariables false
namespace Vse
open Go Go.ChangeShapes
def genE : Entry → Nat
 | .vec k _ _ => k
 | _ => 0
def genY : Option ETy → Nat
 | some (.vec k _) => k
 | _ => 0
def idxOf : List Nat → Nat → Nat
 | [], _ => 0
 | x :: l, e => if x = e then 0 else idxOf l e + 1
def dedupN : List Nat → List Nat
 | [] => []
 | x :: l => x :: (dedupN l).filter fun y => !(y == x)
def decC (R : Rn) : (Fs : List ETy) → List Entry → Option (HD Fs)
 | [], [] => some ()
 | .dead :: l, _ :: h => decC R l h
 | .box W :: l, .box T x :: h => match conv R W T x with
  | some y => match decC R l h with
   | some r => some (y, r)
   | none => none
  | none => none
 | .vec _ a :: l, .vec _ b x :: h => if b.inn noE false then (match castL ⟨b, x⟩ a with
  | some y => match decC R l h with
   | some r => some (y, r)
   | none => none
  | none => none) else none
 | .map K V :: l, .map K' V' x :: h => if K'.inn noE false && V'.inn noE false then (match castM x K V with
  | some y => match decC R l h with
   | some r => some (y, r)
   | none => none
  | none => none) else none
 | _, _ => none
def liveY : Option ETy → Bool
 | some (.box _) => true
 | some (.vec _ _) => true
 | some (.map _ _) => true
 | _ => false
theorem decC_EC {R : Rn} : ∀ {Fs : List ETy} {h : List Entry} {y : HD Fs}, decC R Fs h = some y → h.length = Fs.length ∧ ∀ t, liveY Fs[t]? = true → EC R (getE h t) (getE (encH Fs y) t)
 | [], [], y, _ => ⟨rfl, fun t ht => by simp [liveY] at ht⟩
 | [], _ :: _, y, h => by simp [decC] at h
 | .free :: l, [], y, h => by simp [decC] at h
 | .free :: l, _ :: _, y, h => by simp [decC] at h
 | .dead :: l, [], y, h => by simp [decC] at h
 | .dead :: l, e :: hh, y, h => by
  simp only [decC] at h
  obtain ⟨q1, q2⟩ := decC_EC h
  refine ⟨by simp [q1], fun t ht => ?_⟩
  cases t with
  | zero => simp [liveY] at ht
  | succ t => exact q2 t (by simpa using ht)
 | .box W :: l, [], y, h => by simp [decC] at h
 | .box W :: l, e :: hh, y, h => by
  cases e <;> simp only [decC] at h <;> try (cases h; done)
  split at h
  ·rename_i z hz
   split at h
   ·rename_i r hr
    simp only [Option.some.injEq] at h
    subst h
    obtain ⟨q1, q2⟩ := decC_EC hr
    refine ⟨by simp [q1], fun t ht => ?_⟩
    cases t with
    | zero => exact hz
    | succ t => exact q2 t (by simpa using ht)
   ·cases h
  ·cases h
 | .vec k a :: l, [], y, h => by simp [decC] at h
 | .vec k a :: l, e :: hh, y, h => by
  cases e <;> simp only [decC] at h <;> try (cases h; done)
  split at h
  ·rename_i hi
   split at h
   ·rename_i z hz
    split at h
    ·rename_i r hr
     simp only [Option.some.injEq] at h
     subst h
     obtain ⟨q1, q2⟩ := decC_EC hr
     refine ⟨by simp [q1], fun t ht => ?_⟩
     cases t with
     | zero => exact ⟨castL_some hz, hi⟩
     | succ t => exact q2 t (by simpa using ht)
    ·cases h
   ·cases h
  ·cases h
 | .map K V :: l, [], y, h => by simp [decC] at h
 | .map K V :: l, e :: hh, y, h => by
  cases e <;> simp only [decC] at h <;> try (cases h; done)
  split at h
  ·rename_i hi
   simp only [Bool.and_eq_true] at hi
   split at h
   ·rename_i z hz
    split at h
    ·rename_i r hr
     simp only [Option.some.injEq] at h
     subst h
     obtain ⟨q1, q2⟩ := decC_EC hr
     refine ⟨by simp [q1], fun t ht => ?_⟩
     cases t with
     | zero => exact ⟨castM_some hz, hi⟩
     | succ t => exact q2 t (by simpa using ht)
    ·cases h
   ·cases h
  ·cases h
theorem encH_dead : ∀ {Fs : List ETy} {y : HD Fs} {t : Nat}, liveY Fs[t]? = false → (getE (encH Fs y) t).live = false
 | [], y, t, h => rfl
 | E :: l, y, 0, h => by cases E <;> simp [liveY] at h <;> rfl
 | E :: l, y, t + 1, h => by
  cases E <;> exact encH_dead (Fs := l) (by simpa using h)
theorem encH_gen : ∀ {Fs : List ETy} {y : HD Fs} {t K : Nat} {a : Ty} {l : List a.den}, getE (encH Fs y) t = .vec K a l → genY Fs[t]? = K
 | [], y, t, K, a, l, h => by simp [encH, getE] at h
 | E :: Es, y, 0, K, a, l, h => by
  cases E <;> simp [encH, getE] at h
  simp [genY, h.1]
 | E :: Es, y, t + 1, K, a, l, h => by
  have : genY Es[t]? = K := by
   cases E <;> exact encH_gen (Fs := Es) h
  simpa using this
structure PSpec where
 As : List Ty
 Rs : List Ty
 Es : List ETy
 Fs : List ETy
 inis : List (Nat × Nat × Ty)
abbrev PSpec.Out (S : PSpec) := HL S.Rs × HD S.Fs
def PSpec.news (S : PSpec) : Nat := S.Fs.length - S.Es.length
def convL (R : Rn) : (Ws : List Ty) → List TV → Option (HL Ws)
 | [], [] => some ()
 | W :: Ws, t :: ts => match conv R W t.T t.x with
  | some y => match convL R Ws ts with
   | some r => some (y, r)
   | none => none
  | none => none
 | _, _ => none
def convR (R : Rn) : (Ws : List Ty) → AV → Option (HL Ws)
 | [W], .v T x => match conv R W T x with
  | some y => some (y, ())
  | none => none
 | [_], .tup _ => none
 | Ws, .tup l => convL R Ws l
 | _, _ => none
theorem convL_rep {R : Rn} {g g' : G} (hc : CRel R g g') : ∀ {Ws : List Ty} {l : List TV} {y : HL Ws} {vs : List Value}, convL R Ws l = some y → tupRep g l vs → tupRep g' (tvs Ws y) vs
 | [], [], y, vs, _, hr => hr
 | [], _ :: _, y, vs, h, _ => by simp [convL] at h
 | W :: Ws, [], y, vs, h, _ => by simp [convL] at h
 | W :: Ws, t :: ts, y, vs, h, ⟨v, r, h1, h2, h3⟩ => by
  simp only [convL] at h
  split at h
  ·rename_i z hz
   split at h
   ·rename_i q hq
    simp only [Option.some.injEq] at h
    subst h
    exact ⟨v, r, h1, conv_TRep hc hz h2, convL_rep hc hq h3⟩
   ·cases h
  ·cases h
theorem convR_rep {R : Rn} {g g' : G} (hc : CRel R g g') {Ws : List Ty} {a : AV} {y : HL Ws} {v : Value} (h : convR R Ws a = some y) (hr : VRep g a v) : VRep g' (ofHL Ws y) v := by
 unfold convR at h
 split at h
 ·split at h
  ·rename_i z hz
   simp only [Option.some.injEq] at h
   subst h
   exact conv_VRep hc hz hr
  ·cases h
 ·cases h
 ·rename_i Ws' l hne
  obtain ⟨vs, rfl, hr⟩ := hr
  have := convL_rep hc h hr
  unfold ofHL
  split
  ·exact absurd rfl (hne _)
  ·exact ⟨vs, rfl, this⟩
 ·cases h
def unifU : Ty → Ty → List (Nat × Nat)
 | .vc i _, .vc e _ => [(e, i)]
 | .ptr i _, .ptr e _ => [(e, i)]
 | .mp i, .mp e => [(e, i)]
 | .prod a b, .prod c d => unifU a c ++ unifU b d
 | .fn _ a, .fn _ b => unifU a b
 | _, _ => []
def unifTs : List Ty → List TV → List (Nat × Nat)
 | W :: Ws, t :: ts => unifU t.T W ++ unifTs Ws ts
 | _, _ => []
def unifR : List Ty → AV → List (Nat × Nat)
 | [W], .v T _ => unifU T W
 | Ws, .tup l => unifTs Ws l
 | _, _ => []
def lookP (d : Nat) : List (Nat × Nat) → Nat
 | [] => d
 | (e, i) :: l => if e = d then i else lookP d l
def srcs (H : Heap) : List ETy → Nat → List (Nat × Nat) → List Nat
 | [], _, _ => []
 | .box W :: Fs, t, ps => lookP t ps :: srcs H Fs (t + 1) (ps ++ match getE H (lookP t ps) with
  | .box T _ => unifU T W
  | _ => [])
 | .vec _ _ :: Fs, t, ps => lookP t ps :: srcs H Fs (t + 1) ps
 | .map _ _ :: Fs, t, ps => lookP t ps :: srcs H Fs (t + 1) ps
 | _ :: Fs, t, ps => (H.length + t) :: srcs H Fs (t + 1) ps
def boxIds : List ETy → Nat → List (Nat × Nat)
 | [], _ => []
 | .box _ :: Es, t => (t, t) :: boxIds Es (t + 1)
 | _ :: Es, t => boxIds Es (t + 1)
def addNils : List (Nat × Nat × Ty) → St → St
 | [], st => st
 | (b, m, a) :: l, st => match addIniB b m 0 a st with
  | some st' => addNils l st'
  | none => addNils l st
def turnOk : ETy → ETy → Bool → Bool
 | .box _, .box _, same => same
 | .vec k _, .vec k' _, same => decide (k < k') || (decide (k = k') && same)
 | .box _, .dead, _ => true
 | .vec _ _, .dead, _ => true
 | .map _ _, .map _ _, same => same
 | .map _ _, .dead, _ => true
 | .dead, .dead, _ => true
 | _, _, _ => false
def turnsOk (H : Heap) : List ETy → List ETy → List Nat → Nat → Bool
 | [], _, _, _ => true
 | E :: Es, F :: Fs, s :: ss, t => turnOk E F (s == t && decide (genE (getE H s) = genY (some F))) && turnsOk H Es Fs ss (t + 1)
 | _, _, _, _ => false
def rnOf (Fs : List ETy) (H : Heap) (ss : List Nat) : Rn where
 p e := decide (idxOf ss e < Fs.length) && liveY Fs[idxOf ss e]? && decide (ss[idxOf ss e]? = some e)
 cur e := genE (getE H e)
 to e := idxOf ss e
 gT t := genY Fs[t]?
 lent e := if true && !(decide (idxOf ss e < Fs.length) && liveY Fs[idxOf ss e]? && decide (ss[idxOf ss e]? = some e)) then getE H e else .dead
 lp := true
def PSpec.norm (S : PSpec) (r0 : AV × Heap) : Option S.Out :=
 let r1 := sealR S.Rs r0
 let H := (addNils S.inis ⟨[], r1.2⟩).heap
 let ss := srcs H S.Fs 0 (unifR S.Rs r1.1 ++ boxIds S.Es 0)
 if turnsOk H S.Es S.Fs ss 0 && (List.range S.Fs.length).all fun t => !(liveY S.Fs[t]?) || decide (idxOf ss (ss.getD t 0) = t) then
  match convR (rnOf S.Fs H ss) S.Rs r1.1 with
  | some x => match decC (rnOf S.Fs H ss) S.Fs (ss.map (getE H)) with
   | some y => some (x, y)
   | none => none
  | none => none
 else none
def fnP (P : Program) (C : Ctx) (L : Loops) (S : PSpec) (fn : Func) (xs : HL S.As) (hs : HD S.Es) : Tr S.Out :=
 (fnK P C L fn (mkArgs S.As xs) (encH S.Es hs)).bind fun r => match S.norm r with
  | some d => .ret d
  | none => .fail
theorem addNils_rep {a : Act} {w : World} : ∀ {l : List (Nat × Nat × Ty)} {g : G} {st : St}, SRep g st a w → ∃ g', g.le g' ∧ SRep g' (addNils l st) a w
 | [], g, st, h => ⟨g, G.le.refl g, h⟩
 | (b, m, A) :: l, g, st, h => by
  simp only [addNils]
  split
  ·rename_i st' hs
   obtain ⟨g1, q1, q2⟩ := addIniB_rep h hs
   obtain ⟨g2, w1, w2⟩ := addNils_rep (l := l) q2
   exact ⟨g2, q1.trans w1, w2⟩
  ·exact addNils_rep h
theorem turnsOk_spec {H : Heap} : ∀ {Es Fs : List ETy} {ss : List Nat} {t0 : Nat}, turnsOk H Es Fs ss t0 = true → ∀ t, t < Es.length → ∃ E F s, Es[t]? = some E ∧ Fs[t]? = some F ∧ ss[t]? = some s ∧ turnOk E F (s == t0 + t && decide (genE (getE H s) = genY (some F))) = true
 | [], _, _, _, _, t, h => by simp at h
 | E :: Es, [], _, _, h, _, _ => by simp [turnsOk] at h
 | E :: Es, F :: Fs, [], _, h, _, _ => by simp [turnsOk] at h
 | E :: Es, F :: Fs, s :: ss, t0, h, t, ht => by
  simp only [turnsOk, Bool.and_eq_true] at h
  cases t with
  | zero => exact ⟨E, F, s, rfl, rfl, rfl, h.1⟩
  | succ t =>
   obtain ⟨E', F', s', a, b, c, d⟩ := turnsOk_spec h.2 t (by simpa using ht)
   exact ⟨E', F', s', by simpa using a, by simpa using b, by simpa using c, by rw [show t0 + (t + 1) = t0 + 1 + t by omega]; exact d⟩
theorem encH_shp : ∀ {Es : List ETy} {y : HD Es} {t : Nat} {E : ETy}, Es[t]? = some E → match E with
  | .box T => ∃ x, getE (encH Es y) t = .box T x
  | .vec k a => ∃ l, getE (encH Es y) t = .vec k a l
  | .map K V => ∃ l, getE (encH Es y) t = .map K V l
  | .dead => getE (encH Es y) t = .dead
  | .free => getE (encH Es y) t = .free
 | [], y, t, E, h => by simp at h
 | E0 :: l, y, 0, E, h => by
  simp only [List.getElem?_cons_zero, Option.some.injEq] at h
  subst h
  cases E0 <;> first | rfl | exact ⟨_, rfl⟩
 | E0 :: l, y, t + 1, E, h => by
  have h : l[t]? = some E := by simpa using h
  cases E0 <;> exact encH_shp (Es := l) h
theorem getE_map' (f : Nat → Entry) : ∀ (l : List Nat) (t : Nat), getE (l.map f) t = match l[t]? with | some s => f s | none => .free
 | [], t => rfl
 | s :: l, 0 => rfl
 | s :: l, t + 1 => by simpa only [List.map_cons, getE, List.getElem?_cons_succ] using getE_map' f l t
def isY (s : ESh) : Option ETy → Prop
 | some (.box _) => ∃ k, s = .box k
 | some (.vec k _) => ∃ a n, s = .vec k a n
 | some (.map _ _) => s = .map
 | some _ => True
 | none => s = .free
theorem ren_step {g gn : G} {H : Heap} {w : World} {E0 Fs : List ETy} {ss : List Nat} {y : HD Fs} (hle : g.le gn) (hI : HInv gn H w) (h0 : ∀ t, isY (g.sh t) E0[t]?)
  (hturn : turnsOk H E0 Fs ss 0 = true) (hall : ((List.range Fs.length).all fun t => !(liveY Fs[t]?) || decide (idxOf ss (ss.getD t 0) = t)) = true) (hy : decC (rnOf Fs H ss) Fs (ss.map (getE H)) = some y) :
  ∃ g3, g.le g3 ∧ HInv g3 (encH Fs y) w ∧ CRel (rnOf Fs H ss) gn g3 := by
 obtain ⟨hlen, hEC⟩ := decC_EC hy
 have hlen : ss.length = Fs.length := by simpa using hlen
 have hlv : ∀ t, liveY Fs[t]? = true → t < Fs.length := by
  intro t ht
  rcases Nat.lt_or_ge t Fs.length with h | h
  ·exact h
  ·rw [List.getElem?_eq_none h] at ht; cases ht
 have hidx : ∀ t, liveY Fs[t]? = true → idxOf ss (ss.getD t 0) = t := by
  intro t ht
  have := List.all_eq_true.1 hall t (List.mem_range.2 (hlv t ht))
  simpa [ht] using this
 have hgd : ∀ t, t < Fs.length → ss[t]? = some (ss.getD t 0) := by
  intro t ht
  rw [List.getD_eq_getElem?_getD, List.getElem?_eq_getElem (by omega)]
  rfl
 have key := conv_inv (R := rnOf Fs H ss) (q := fun t => liveY Fs[t]?) (from_ := fun t => ss.getD t 0) (H' := encH Fs y) hI
  (fun e he => by
   simp only [rnOf, Bool.and_eq_true, decide_eq_true_eq] at he
   refine ⟨he.1.2, ?_⟩
   simp only [rnOf, List.getD_eq_getElem?_getD, he.2, Option.getD_some])
  (fun t ht => by
   refine ⟨?_, hidx t ht⟩
   simp only [rnOf, hidx t ht, Bool.and_eq_true, decide_eq_true_eq]
   exact ⟨⟨hlv t ht, ht⟩, hgd t (hlv t ht)⟩)
  (fun e k a l he hE => by simp only [rnOf, hE, genE])
  (fun t K a l ht hE => encH_gen hE)
  (fun t ht => by
   have := hEC t ht
   rw [getE_map', hgd t (hlv t ht)] at this
   exact this)
  (fun t ht => encH_dead ht) true
  (fun e => rfl)
 obtain ⟨k1, k2⟩ := key
 refine ⟨_, ?_, k1, k2⟩
 refine ⟨fun b o h => rn_fr (hle.fr b o h), hle.gr, hle.ext, fun t => ?_⟩
 show Turn g (gn.rn H w _ true _ (encH Fs y)) t
 rcases Nat.lt_or_ge t E0.length with ht | ht
 ·obtain ⟨E, F, s, e1, e2, e3, e4⟩ := turnsOk_spec hturn t ht
  rw [Nat.zero_add] at e4
  have hs1 := h0 t
  rw [e1] at hs1
  have hs2 := encH_shp (y := y) e2
  have hsrc : ss.getD t 0 = s := by rw [List.getD_eq_getElem?_getD, e3]; rfl
  have same : (s == t) = true → liveY Fs[t]? = true → (∀ k s n, gn.sh t = .vec k s n → genY Fs[t]? = k) → (∀ k s n k' s' n', g.sh t = .vec k s n → gn.sh t = .vec k' s' n' → ¬ k < k') → g.sh t ≠ .free → Turn g (gn.rn H w (rnOf Fs H ss).p true (fun t => ss.getD t 0) (encH Fs y)) t := by
   intro hst hlt hg hno hnf
   have hst : s = t := by simpa using hst
   subst hst
   have hsm := k2.sh s (by
    simp only [rnOf, Bool.and_eq_true, decide_eq_true_eq]
    have := hidx s hlt
    rw [hsrc] at this
    rw [this]
    exact ⟨⟨hlv _ hlt, hlt⟩, e3⟩)
   have hto : (rnOf Fs H ss).to s = s := by
    have := hidx s hlt
    rw [hsrc] at this
    exact this
   rw [hto] at hsm
   have hb : (gn.rn H w (rnOf Fs H ss).p true (fun t => ss.getD t 0) (encH Fs y)).bl s = gn.bl s := by show gn.bl (ss.getD s 0) = _; rw [hsrc]
   have hz : (gn.rn H w (rnOf Fs H ss).p true (fun t => ss.getD t 0) (encH Fs y)).sz s = gn.sz s := by show gn.sz (ss.getD s 0) = _; rw [hsrc]
   have hsm' : gn.sh s = .free ∨ (gn.rn H w (rnOf Fs H ss).p true (fun t => ss.getD t 0) (encH Fs y)).sh s = gn.sh s := by
    cases hgs : gn.sh s with
    | free => exact .inl rfl
    | dead => rw [hgs] at hsm; exact .inr hsm
    | box q => rw [hgs] at hsm; exact .inr hsm
    | map => rw [hgs] at hsm; exact .inr hsm
    | vec k q n =>
     rw [hgs] at hsm
     refine .inr (hsm.2.trans ?_)
     show ESh.vec (genY Fs[s]?) q n = _
     rw [hg _ _ _ hgs]
   cases hle.ent s with
   | same a b c =>
    rcases hsm' with hf | hsm'
    ·exact absurd (a.symm.trans hf) hnf
    ·exact .same (hsm'.trans a) (hb.trans b) (hz.trans c)
   | dead a =>
    rcases hsm' with hf | hsm'
    ·rw [a] at hf; cases hf
    ·exact .dead (hsm'.trans a)
   | grew a b c => exact absurd c (hno _ _ _ _ _ _ a b)
   | new a => exact absurd a hnf
  have gone : F = .dead → Turn g (gn.rn H w (rnOf Fs H ss).p true (fun t => ss.getD t 0) (encH Fs y)) t := by
   rintro rfl
   refine .dead ?_
   show shp (getE (encH Fs y) t) = .dead
   rw [hs2]; rfl
  cases E with
  | free => cases F <;> simp [turnOk] at e4
  | dead => cases F <;> first | (simp [turnOk] at e4; done) | exact gone rfl
  | box T =>
   obtain ⟨k0, hg0⟩ := hs1
   cases F with
   | free => simp [turnOk] at e4
   | vec => simp [turnOk] at e4
   | map => simp [turnOk] at e4
   | dead => exact gone rfl
   | box W =>
    refine same (by simp only [turnOk, Bool.and_eq_true] at e4; exact e4.1) (by rw [e2]; rfl) ?_ ?_ (by rw [hg0]; simp)
    ·intro k s' n' hk
     cases hle.ent t with
     | same a b c => rw [a, hg0] at hk; cases hk
     | dead a => rw [a] at hk; cases hk
     | grew a b c => rw [hg0] at a; cases a
     | new a => rw [hg0] at a; cases a
    ·intro k s n k' s' n' hk
     rw [hg0] at hk; cases hk
  | map K V =>
   have hg0 : g.sh t = .map := hs1
   cases F with
   | free => simp [turnOk] at e4
   | vec => simp [turnOk] at e4
   | box => simp [turnOk] at e4
   | dead => exact gone rfl
   | map K' V' =>
    refine same (by simp only [turnOk, Bool.and_eq_true] at e4; exact e4.1) (by rw [e2]; rfl) ?_ ?_ (by rw [hg0]; simp)
    ·intro k s' n' hk
     cases hle.ent t with
     | same a b c => rw [a, hg0] at hk; cases hk
     | dead a => rw [a] at hk; cases hk
     | grew a b c => rw [hg0] at a; cases a
     | new a => rw [hg0] at a; cases a
    ·intro k s n k' s' n' hk
     rw [hg0] at hk; cases hk
  | vec k a =>
   obtain ⟨a0, n0, hg0⟩ := hs1
   cases F with
   | free => simp [turnOk] at e4
   | box => simp [turnOk] at e4
   | map => simp [turnOk] at e4
   | dead => exact gone rfl
   | vec k' b =>
    obtain ⟨y0, hy0⟩ := hs2
    simp only [turnOk, Bool.or_eq_true, Bool.and_eq_true, decide_eq_true_eq] at e4
    rcases e4 with e4 | ⟨e4, e5⟩
    ·refine .grew (s' := b.sk) (n' := y0.length) hg0 ?_ e4
     show shp (getE (encH Fs y) t) = _
     rw [hy0]; rfl
    ·subst e4
     have hlt : liveY Fs[t]? = true := by rw [e2]; rfl
     have hst : s = t := by simpa using e5.1
     have hgn : genE (getE H t) = k := by
      rw [hst] at e5
      exact e5.2
     have hgen : ∀ k1 s1 n1, gn.sh t = .vec k1 s1 n1 → k1 = k := by
      intro k1 s1 n1 hk
      have := hI.sh t
      rw [hk] at this
      cases hE : getE H t <;> rw [hE] at this hgn <;> simp only [shp] at this <;> cases this
      exact hgn
     refine same (by simpa using hst) hlt ?_ ?_ (by rw [hg0]; simp)
     ·intro k1 s1 n1 hk
      rw [e2]
      exact (hgen _ _ _ hk).symm
     ·intro q1 q2 q3 q4 q5 q6 hk hk' hlt2
      rw [hg0] at hk
      cases hk
      have := hgen _ _ _ hk'
      omega
 ·refine .new ?_
  have := h0 t
  rw [List.getElem?_eq_none ht] at this
  exact this
theorem isY_enc {Es : List ETy} {hs : HD Es} (t : Nat) : isY (shp (getE (encH Es hs) t)) Es[t]? := by
 rcases Nat.lt_or_ge t Es.length with ht | ht
 ·have h := encH_shp (y := hs) (List.getElem?_eq_getElem ht)
  rw [List.getElem?_eq_getElem ht]
  cases hE : Es[t] with
  | free => trivial
  | dead => trivial
  | box T => rw [hE] at h; obtain ⟨x, hx⟩ := h; rw [hx]; exact ⟨_, rfl⟩
  | vec k a => rw [hE] at h; obtain ⟨x, hx⟩ := h; rw [hx]; exact ⟨_, _, rfl⟩
  | map K V => rw [hE] at h; obtain ⟨x, hx⟩ := h; rw [hx]; rfl
 ·rw [List.getElem?_eq_none ht, getE_past _ (by rw [encH_length]; exact ht)]
  rfl
theorem pnorm_rep {S : PSpec} {g g2 : G} {hs : HD S.Es} {r : AV × Heap} {rv : Value} {w : World} {d : S.Out} (hsh : ∀ e, g.sh e = shp (getE (encH S.Es hs) e)) (hle : g.le g2) (hI : HInv g2 r.2 w) (hv : VRep g2 r.1 rv)
  (hn : S.norm r = some d) : ∃ g3, g.le g3 ∧ HInv g3 (encH S.Fs d.2) w ∧ VRep g3 (ofHL S.Rs d.1) rv := by
 unfold PSpec.norm at hn
 obtain ⟨gs, hle', hI, hv⟩ := sealR_rep S.Rs hI hv
 have hle := hle.trans hle'
 simp only at hn
 have h0 : SRep gs ⟨[], (sealR S.Rs r).2⟩ ⟨#[], gs.ext.2⟩ w := ⟨⟨rfl, fun i => ⟨#[], by simp [undef], rfl⟩⟩, hI, rfl⟩
 obtain ⟨gn, hle2, h1⟩ := addNils_rep (l := S.inis) h0
 have hI := h1.heap
 have hv := VRep_mono hle2 hv
 have hle := hle.trans hle2
 generalize (addNils S.inis ⟨[], (sealR S.Rs r).2⟩).heap = H at hn hI
 split at hn
 ·rename_i hok
  simp only [Bool.and_eq_true] at hok
  obtain ⟨hturn, hall⟩ := hok
  split at hn
  ·rename_i x hx
   split at hn
   ·rename_i y hy
    simp only [Option.some.injEq] at hn
    subst hn
    obtain ⟨g3, q1, q2, q3⟩ := ren_step hle hI (fun t => by rw [hsh]; exact isY_enc t) hturn hall hy
    exact ⟨g3, q1, q2, convR_rep q3 hx hv⟩
   ·cases hn
  ·cases hn
 ·cases hn
end Vse
end
section
set_option linter.unusedVariables false
namespace Vse
open Go Go.ChangeShapes
def lendT : Ty → Ty → List Nat
 | .imm false false _, .vc e _ => [e]
 | .imm false false _, .sub e _ => [e]
 | .imm false false _, .sv e _ => [e]
 | .ip false _, .ptr e _ => [e]
 | .prod a b, .prod c d => lendT a c ++ lendT b d
 | _, _ => []
def rootT : Ty → Ty → List Nat
 | .imm false false _, .vc _ _ => []
 | .imm false false _, .sub _ _ => []
 | .imm false false _, .sv _ _ => []
 | .ip false _, .ptr _ _ => []
 | .prod a b, .prod c d => rootT a c ++ rootT b d
 | _, T => T.ents
def lendVs : List Ty → List AV → List Nat
 | A :: As, .v T _ :: vs => lendT A T ++ lendVs As vs
 | _, _ => []
def rootVs : List Ty → List AV → List Nat
 | A :: As, .v T _ :: vs => rootT A T ++ rootVs As vs
 | _, _ => []
def convArgs (R : Rn) : (As : List Ty) → List AV → Option (HL As)
 | [], [] => some ()
 | A :: As, .v T x :: vs => match conv R A T x with
  | some y => match convArgs R As vs with
   | some r => some (y, r)
   | none => none
  | none => none
 | _, _ => none
theorem convArgs_rep {R : Rn} {g g' : G} (hc : CRel R g g') : ∀ {As : List Ty} {vs : List AV} {xs : HL As} {rvs : List Value}, convArgs R As vs = some xs → argsRep g vs rvs → argsRep g' (mkArgs As xs) rvs
 | [], [], xs, rvs, _, h => h
 | [], _ :: _, xs, rvs, h, _ => by simp [convArgs] at h
 | A :: As, [], xs, rvs, h, _ => by simp [convArgs] at h
 | A :: As, .tup _ :: vs, xs, rvs, h, _ => by simp [convArgs] at h
 | A :: As, .v T x :: vs, xs, rvs, h, ⟨r, rs, h1, h2, h3⟩ => by
  simp only [convArgs] at h
  split at h
  ·rename_i y hy
   split at h
   ·rename_i q hq
    simp only [Option.some.injEq] at h
    subst h
    exact ⟨r, rs, h1, conv_VRep hc hy h2, convArgs_rep hc hq h3⟩
   ·cases h
  ·cases h
def Ty.rnT (B : Rn) : Ty → Ty
 | .vc i _ => .vc (B.to i) (B.gT (B.to i))
 | .ptr i p => .ptr (B.to i) p
 | .mp i => .mp (B.to i)
 | .prod a b => .prod (a.rnT B) (b.rnT B)
 | .fn k c => .fn k (c.rnT B)
 | T => T
def backE (B : Rn) (K : Nat) : Entry → Option Entry
 | .box T x => match conv B (T.rnT B) T x with
  | some y => some (.box (T.rnT B) y)
  | none => none
 | .vec _ a l => if a.inn noE false then some (.vec K a l) else none
 | .map A V l => if A.inn noE false && V.inn noE false then some (.map A V l) else none
 | .dead => some .dead
 | .free => none
 | .itr _ _ => none
def backL (B : Rn) : List TV → Option (List TV)
 | [] => some []
 | t :: ts => match conv B (t.T.rnT B) t.T t.x with
  | some y => match backL B ts with
   | some r => some (⟨t.T.rnT B, y⟩ :: r)
   | none => none
  | none => none
def backV (B : Rn) : AV → Option AV
 | .v T x => match conv B (T.rnT B) T x with
  | some y => some (.v (T.rnT B) y)
  | none => none
 | .tup l => match backL B l with
  | some r => some (.tup r)
  | none => none
theorem backL_rep {R : Rn} {g g' : G} (hc : CRel R g g') : ∀ {l r : List TV} {vs : List Value}, backL R l = some r → tupRep g l vs → tupRep g' r vs
 | [], r, vs, h, hr => by simp only [backL, Option.some.injEq] at h; subst h; exact hr
 | t :: ts, r, vs, h, ⟨v, q, h1, h2, h3⟩ => by
  simp only [backL] at h
  split at h
  ·rename_i y hy
   split at h
   ·rename_i r' hr'
    simp only [Option.some.injEq] at h
    subst h
    exact ⟨v, q, h1, conv_TRep hc hy h2, backL_rep hc hr' h3⟩
   ·cases h
  ·cases h
theorem backV_rep {R : Rn} {g g' : G} (hc : CRel R g g') {a b : AV} {v : Value} (h : backV R a = some b) (hr : VRep g a v) : VRep g' b v := by
 cases a with
 | v T x =>
  simp only [backV] at h
  split at h
  ·rename_i y hy
   simp only [Option.some.injEq] at h
   subst h
   exact conv_VRep hc hy hr
  ·cases h
 | tup l =>
  simp only [backV] at h
  split at h
  ·rename_i r hr'
   simp only [Option.some.injEq] at h
   subst h
   obtain ⟨vs, rfl, hr⟩ := hr
   exact ⟨vs, rfl, backL_rep hc hr' hr⟩
  ·cases h
def rnIn (S : PSpec) (ids : List Nat) (get lentE : Nat → Entry) : Rn where
 p e := mem ids e
 cur e := genE (get e)
 to e := idxOf ids e
 gT t := genY S.Es[t]?
 lent := lentE
 lp := false
def rnOut (S : PSpec) (ids all : List Nat) (get : Nat → Entry) : Rn where
 p i := liveY S.Fs[i]? && decide (i < all.length)
 cur i := genY S.Fs[i]?
 to i := all.getD i 0
 gT e := if mem ids e then genE (get e) + (genY S.Fs[idxOf all e]? - genY S.Es[idxOf all e]?) else genY S.Fs[idxOf all e]?
 lent _ := .dead
 lp := false
def nodupI (l : List Nat) : Bool := (List.range l.length).all fun t => decide (idxOf l (l.getD t 0) = t)
def posOut (S : PSpec) (ids ids0 all : List Nat) (get : Nat → Entry) (fr : Nat) (r : S.Out) : Tr Out :=
 match backV (rnOut S ids all get) (ofHL S.Rs r.1) with
 | some v => if nodupI all && decide (all.length = S.Fs.length) && (all.all fun e => match backE (rnOut S ids all get) ((rnOut S ids all get).gT e) (getE (encH S.Fs r.2) (idxOf all e)) with
       | some E => E.inn (turned ids0 fr S.news) true
       | none => false) && v.inn (turned ids0 fr S.news) true then
   .ret (v, all.map fun e => (e, (backE (rnOut S ids all get) ((rnOut S ids all get).gT e) (getE (encH S.Fs r.2) (idxOf all e))).getD .dead)) else .fail
 | none => .fail
def posCore (S : PSpec) (pre : HL S.As → HD S.Es → Bool) (f : HL S.As → HD S.Es → S.Out) (le ids0 : List Nat) (el er : List Entry) (vs : List AV) (fr : Nat) : Tr Out :=
 if (le.all fun e => !mem ids0 e) && (ids0.all fun e => decide (e < fr)) && (er.all fun E => E.inn (mem ids0) false) && nodupI (dedupN ids0) && (S.Es.all fun E => liveY (some E)) then
  match convArgs (rnIn S (dedupN ids0) (putE ids0 er) (putE le el)) S.As vs with
  | some xs => match decC (rnIn S (dedupN ids0) (putE ids0 er) fun _ => .dead) S.Es ((dedupN ids0).map (putE ids0 er)) with
   | some hs => .chk (pre xs hs) (posOut S (dedupN ids0) ids0 (dedupN ids0 ++ List.range' fr S.news) (putE ids0 er) fr (f xs hs))
   | none => .fail
  | none => .fail
 else .fail
def CSpec.pos (S : PSpec) (pre : HL S.As → HD S.Es → Bool) (f : HL S.As → HD S.Es → S.Out) : CSpec :=
 ⟨S.news, fun vs H => lendVs S.As vs ++ reach 5 H (rootVs S.As vs), fun vs H => reach 5 H (rootVs S.As vs), fun vs es fr =>
  posCore S pre f (lendVs S.As vs) (reachE 5 (es.drop (lendVs S.As vs).length) (rootVs S.As vs)) (es.take (lendVs S.As vs).length) (es.drop (lendVs S.As vs).length) vs fr⟩
theorem dedupN_mem : ∀ (l : List Nat) (e : Nat), mem (dedupN l) e = mem l e
 | [], e => rfl
 | x :: l, e => by
  have ih := dedupN_mem l e
  rw [Bool.eq_iff_iff] at ih ⊢
  simp only [mem, List.contains_iff_mem] at ih ⊢
  simp only [dedupN, List.mem_cons, List.mem_filter, Bool.not_eq_true', beq_eq_false_iff_ne, ne_eq]
  constructor
  ·rintro (h | ⟨h, _⟩)
   ·exact .inl h
   ·exact .inr (ih.1 h)
  ·rintro (h | h)
   ·exact .inl h
   ·by_cases hx : e = x
    ·exact .inl hx
    ·exact .inr ⟨ih.2 h, hx⟩
theorem idxOf_mem : ∀ {l : List Nat} {e : Nat}, mem l e = true → idxOf l e < l.length ∧ l.getD (idxOf l e) 0 = e
 | [], e, h => by simp [mem] at h
 | x :: l, e, h => by
  simp only [idxOf]
  by_cases hx : x = e
  ·rw [if_pos hx]; exact ⟨by simp, by simpa using hx⟩
  ·rw [if_neg hx]
   have hx' : ¬ e = x := fun y => hx y.symm
   have : mem l e = true := by simpa [mem, hx'] using h
   obtain ⟨h1, h2⟩ := idxOf_mem this
   exact ⟨by simpa using h1, by simpa using h2⟩
theorem getD_mem {l : List Nat} {t : Nat} (h : t < l.length) : mem l (l.getD t 0) = true := by
 simp only [mem, List.contains_iff_mem]
 rw [List.getD_eq_getElem?_getD, List.getElem?_eq_getElem h]
 exact List.getElem_mem h
theorem nodupI_spec {l : List Nat} (h : nodupI l = true) {t : Nat} (ht : t < l.length) : idxOf l (l.getD t 0) = t := by
 have := List.all_eq_true.1 h t (List.mem_range.2 ht)
 simpa using this
theorem idxOf_append : ∀ {l m : List Nat} {e : Nat}, mem l e = true → idxOf (l ++ m) e = idxOf l e
 | [], m, e, h => by simp [mem] at h
 | x :: l, m, e, h => by
  simp only [List.cons_append, idxOf]
  by_cases hx : x = e
  ·rw [if_pos hx, if_pos hx]
  ·rw [if_neg hx, if_neg hx]
   have hx' : ¬ e = x := fun y => hx y.symm
   rw [idxOf_append (by simpa [mem, hx'] using h)]
theorem es_split (H : Heap) (le l2 : List Nat) : (ents H (le ++ l2)).take le.length = ents H le ∧ (ents H (le ++ l2)).drop le.length = ents H l2 := by
 rw [ents_append]
 constructor
 ·rw [← ents_length H le, List.take_left]
 ·rw [← ents_length H le, List.drop_left]
theorem pos_local (S : PSpec) (pre : HL S.As → HD S.Es → Bool) (f : HL S.As → HD S.Es → S.Out) : CLocal (CSpec.pos S pre f) where
 same vs H H' h := by
  have hr := reach_same 5 (rootVs S.As vs) (fun i hi => h i (by simp only [CSpec.pos, List.mem_append]; exact .inr hi))
  exact ⟨by simp only [CSpec.pos, hr], hr⟩
 turns vs H fr out h x hx := by
  simp only [CSpec.pos] at h
  rw [(es_split H _ _).1, (es_split H _ _).2, reach_reachE] at h
  unfold posCore at h
  split at h
  ·split at h
   ·split at h
    ·obtain ⟨_, h⟩ := Tr.chk_some h
     unfold posOut at h
     split at h
     ·split at h
      ·have := Tr.ret_some h
       subst this
       simp only [List.mem_map, List.mem_append, List.mem_range'] at hx
       obtain ⟨e, he, rfl⟩ := hx
       rcases he with he | ⟨i, hi, rfl⟩
       ·refine .inl ?_
        have := dedupN_mem (reach 5 H (rootVs S.As vs)) e
        rw [Bool.eq_iff_iff] at this
        simp only [mem, List.contains_iff_mem] at this
        exact this.1 he
       ·refine .inr ⟨by simp only; omega, ?_⟩
        show fr + 1 * i < fr + S.news
        omega
      ·exact (Tr.fail_some h).elim
     ·exact (Tr.fail_some h).elim
    ·exact (Tr.fail_some h).elim
   ·exact (Tr.fail_some h).elim
  ·exact (Tr.fail_some h).elim
def HD.ok : (Es : List ETy) → HD Es → Prop
 | [], _ => True
 | .free :: l, x => HD.ok l x
 | .dead :: l, x => HD.ok l x
 | .box T :: l, x => T.ok x.1 ∧ HD.ok l x.2
 | .vec _ a :: l, x => (∀ y ∈ x.1, a.ok y) ∧ HD.ok l x.2
 | .map K V :: l, x => (∀ y ∈ x.1, K.ok y.1 ∧ V.ok y.2) ∧ HD.ok l x.2
theorem mapRep_all {α β : Type} {R : α → Value → Prop} {S : β → Value → Prop} {p : α → Prop} {q : β → Prop} (hR : ∀ x v, R x v → p x) (hS : ∀ x v, S x v → q x) : ∀ {l : List (α × β)} {es : List MapEntry}, mapRep R S l es → ∀ y ∈ l, p y.1 ∧ q y.2
 | [], _, _, y, hy => by cases hy
 | x :: l, _, ⟨e, r, _, h2, h3, h4⟩, y, hy => by
  rcases List.mem_cons.1 hy with rfl | hy
  ·exact ⟨hR _ _ h2, hS _ _ h3⟩
  ·exact mapRep_all hR hS h4 y hy
theorem HD_ok_of {g : G} {w : World} : ∀ {Es : List ETy} {hs : HD Es} (k : Nat), (∀ t, ERep g (k + t) w (getE (encH Es hs) t)) → (∀ t, t < Es.length → liveY Es[t]? = true) → HD.ok Es hs
 | [], _, _, _, _ => trivial
 | .free :: l, hs, k, h, hl => by have := hl 0 (by simp); simp [liveY] at this
 | .dead :: l, hs, k, h, hl => by have := hl 0 (by simp); simp [liveY] at this
 | .box T :: l, hs, k, h, hl => by
  refine ⟨?_, HD_ok_of (k + 1) (fun t => by have := h (t + 1); rwa [show k + (t + 1) = k + 1 + t by omega] at this) fun t ht => by simpa using hl (t + 1) (by simpa using ht)⟩
  obtain ⟨b, cs, tt, fz, w1, w2, w3, w4⟩ := h 0
  exact Rep_ok _ _ _ w4
 | .vec K a :: l, hs, k, h, hl => by
  refine ⟨?_, HD_ok_of (k + 1) (fun t => by have := h (t + 1); rwa [show k + (t + 1) = k + 1 + t by omega] at this) fun t ht => by simpa using hl (t + 1) (by simpa using ht)⟩
  rcases h 0 with ⟨_, q⟩ | ⟨b', cs, tt, fz, vs, r, q1, q2, q3, q4, q5, q6, q7⟩
  ·intro y hy; rw [q] at hy; cases hy
  ·exact repL_all (fun x cs hx => Rep_ok _ _ _ hx) q6
 | .map K V :: l, hs, k, h, hl => by
  refine ⟨?_, HD_ok_of (k + 1) (fun t => by have := h (t + 1); rwa [show k + (t + 1) = k + 1 + t by omega] at this) fun t ht => by simpa using hl (t + 1) (by simpa using ht)⟩
  obtain ⟨b, es, clock, w1, w2, w3⟩ := h 0
  exact mapRep_all (fun _ _ hx => TRep_ok hx) (fun _ _ hx => TRep_ok hx) w3
theorem pos_back {S : PSpec} {g g' g3 : G} {H : Heap} {w w' : World} {ids0 ids : List Nat} {fr : Nat} {get : Nat → Entry} {hs : HD S.Es} {y : HD S.Fs} (hI : HInv g H w) (hids : ∀ e, mem ids0 e = true → e < fr)
  (hdm : ∀ e, mem ids e = mem ids0 e) (hget : ∀ e, get e = if mem ids0 e then getE H e else .dead) (hlen : ids.length = S.Es.length)
  (k1 : HInv g' (encH S.Es hs) w) (k2 : CRel (rnIn S ids get fun _ => .dead) (g.part H w ids0 fr) g') (hbl : ∀ e, mem ids e = true → g'.bl (idxOf ids e) = g.bl e ∧ g'.sz (idxOf ids e) = g.sz e) (hgr : g'.gr = (g.part H w ids0 fr).gr) (hfr : ∀ b o, g.fr b = some o → g'.fr b = some o) (hext : g'.ext = g.ext)
  (hle : g'.le g3) (hI3 : HInv g3 (encH S.Fs y) w')
  (d1 : nodupI (ids ++ List.range' fr S.news) = true) (d2 : (ids ++ List.range' fr S.news).length = S.Fs.length)
  (d3 : ∀ e, mem (ids ++ List.range' fr S.news) e = true → ∃ E, backE (rnOut S ids (ids ++ List.range' fr S.news) get) ((rnOut S ids (ids ++ List.range' fr S.news) get).gT e) (getE (encH S.Fs y) (idxOf (ids ++ List.range' fr S.news) e)) = some E ∧ E.inn (turned ids0 fr S.news) true = true)
  (hfree : ∀ e, fr ≤ e → e < fr + S.news → g.sh e = .free) (hin : ∀ e, mem (ids ++ List.range' fr S.news) e = true → e < H.length) :
  ∃ g4 g5, g.le g5 ∧ HInv g5 (upd H ((ids ++ List.range' fr S.news).map fun e => (e, (backE (rnOut S ids (ids ++ List.range' fr S.news) get) ((rnOut S ids (ids ++ List.range' fr S.news) get).gT e) (getE (encH S.Fs y) (idxOf (ids ++ List.range' fr S.news) e))).getD .dead))) w' ∧
   CRel (rnOut S ids (ids ++ List.range' fr S.news) get) g3 g4 ∧ g4.agree (turned ids0 fr S.news) true g5 := by
 have hallt : ∀ e, mem (ids ++ List.range' fr S.news) e = turned ids0 fr S.news e := by
  intro e
  show (ids ++ List.range' fr S.news).contains e = _
  rw [mem_turned]
  simp only [turned, hdm]
 generalize hall : ids ++ List.range' fr S.news = all at *
 generalize hB : rnOut S ids all get = B at *
 let H1 : Heap := (List.range (fr + S.news)).map fun e => if mem all e then (backE B (B.gT e) (getE (encH S.Fs y) (idxOf all e))).getD .dead else .dead
 have hget1 : ∀ e, getE H1 e = if e < fr + S.news then (if mem all e then (backE B (B.gT e) (getE (encH S.Fs y) (idxOf all e))).getD .dead else .dead) else .free := by
  intro e
  show getE ((List.range (fr + S.news)).map _) e = _
  rw [List.range_eq_range', getE_map]
  simp
 have hlt : ∀ e, mem all e = true → e < fr + S.news := by
  intro e he
  rw [hallt] at he
  simp only [turned, Bool.or_eq_true, Bool.and_eq_true, decide_eq_true_eq] at he
  rcases he with he | he
  ·have := hids e he; omega
  ·exact he.2
 have hm1 : ∀ e, mem all e = true → ∃ E, backE B (B.gT e) (getE (encH S.Fs y) (idxOf all e)) = some E ∧ getE H1 e = E ∧ E.inn (turned ids0 fr S.news) true = true := by
  intro e he
  obtain ⟨E, e1, e2⟩ := d3 e he
  exact ⟨E, e1, by rw [hget1, if_pos (hlt e he), if_pos he, e1]; rfl, e2⟩
 have hlvF : ∀ t, liveY S.Fs[t]? = true → t < S.Fs.length := by
  intro t ht
  rcases Nat.lt_or_ge t S.Fs.length with h | h
  ·exact h
  ·rw [List.getElem?_eq_none h] at ht; cases ht
 have hBp : ∀ i, B.p i = (liveY S.Fs[i]? && decide (i < all.length)) := fun i => by rw [← hB]; rfl
 have hBcur : ∀ i, B.cur i = genY S.Fs[i]? := fun i => by rw [← hB]; rfl
 have hBto : ∀ i, B.to i = all.getD i 0 := fun i => by rw [← hB]; rfl
 have hBgT : ∀ e, B.gT e = if mem ids e then genE (get e) + (genY S.Fs[idxOf all e]? - genY S.Es[idxOf all e]?) else genY S.Fs[idxOf all e]? := fun e => by rw [← hB]; rfl
 have key := conv_inv (R := B) (q := fun e => mem all e && liveY S.Fs[idxOf all e]?) (from_ := idxOf all) (H' := H1) hI3
  (fun i hi => by
   rw [hBp] at hi
   simp only [Bool.and_eq_true, decide_eq_true_eq] at hi
   have hx := nodupI_spec d1 hi.2
   rw [hBto, hx]
   simp only [Bool.and_eq_true]
   exact ⟨⟨getD_mem hi.2, hi.1⟩, trivial⟩)
  (fun e he => by
   simp only [Bool.and_eq_true] at he
   obtain ⟨w1, w2⟩ := idxOf_mem he.1
   rw [hBp, hBto]
   simp only [Bool.and_eq_true, decide_eq_true_eq]
   exact ⟨⟨he.2, w1⟩, w2⟩)
  (fun i k a l hi hE => by rw [hBcur]; exact (encH_gen hE).symm)
  (fun e K a l he hE => by
   simp only [Bool.and_eq_true] at he
   obtain ⟨E, e1, e2, _⟩ := hm1 e he.1
   rw [e2] at hE
   subst hE
   cases hx : getE (encH S.Fs y) (idxOf all e) with
   | free => rw [hx] at e1; simp [backE] at e1
   | dead => rw [hx] at e1; simp [backE] at e1
   | box T x => rw [hx] at e1; simp only [backE] at e1; split at e1 <;> simp at e1
   | map A V m => rw [hx] at e1; simp only [backE] at e1; split at e1 <;> simp at e1
   | itr s p => rw [hx] at e1; simp [backE] at e1
   | vec k b m => rw [hx] at e1; simp only [backE] at e1; split at e1 <;> simp at e1; exact e1.1)
  (fun e he => by
   simp only [Bool.and_eq_true] at he
   obtain ⟨E, e1, e2, _⟩ := hm1 e he.1
   rw [e2]
   cases hx : getE (encH S.Fs y) (idxOf all e) with
   | free => rw [hx] at e1; simp [backE] at e1
   | dead => rw [hx] at e1; simp only [backE, Option.some.injEq] at e1; subst e1; trivial
   | box T x =>
    rw [hx] at e1
    simp only [backE] at e1
    split at e1
    ·rename_i z hz
     simp only [Option.some.injEq] at e1
     subst e1
     exact hz
    ·cases e1
   | map A V m =>
    rw [hx] at e1
    simp only [backE] at e1
    split at e1
    ·rename_i hin
     simp only [Option.some.injEq] at e1
     subst e1
     simp only [Bool.and_eq_true] at hin
     exact ⟨rfl, hin⟩
    ·cases e1
   | itr s p => rw [hx] at e1; simp [backE] at e1
   | vec k b m =>
    rw [hx] at e1
    simp only [backE] at e1
    split at e1
    ·rename_i hin
     simp only [Option.some.injEq] at e1
     subst e1
     exact ⟨rfl, hin⟩
    ·cases e1)
  (fun e he => by
   by_cases hm : mem all e = true
   ·obtain ⟨E, e1, e2, _⟩ := hm1 e hm
    rw [e2]
    simp only [hm, Bool.true_and] at he
    have hdd := encH_dead (y := y) he
    cases hx : getE (encH S.Fs y) (idxOf all e) with
    | free => rw [hx] at e1; simp [backE] at e1
    | dead => rw [hx] at e1; simp only [backE, Option.some.injEq] at e1; subst e1; rfl
    | box T x => rw [hx] at hdd; cases hdd
    | vec k b m => rw [hx] at hdd; cases hdd
    | map A V m => rw [hx] at hdd; cases hdd
    | itr s p => rw [hx] at hdd; cases hdd
   ·rw [hget1, if_neg hm]
    split <;> rfl)
  false
  (fun e => by rw [← hB]; rfl)
 obtain ⟨k3, k4⟩ := key
 generalize hg1 : g3.rn (encH S.Fs y) w' B.p false (idxOf all) H1 = g1 at k3 k4
 have hbl1 : ∀ e, g1.bl e = g3.bl (idxOf all e) ∧ g1.sz e = g3.sz (idxOf all e) := fun e => by rw [← hg1]; exact ⟨rfl, rfl⟩
 have hle1 : (g.part H w ids0 fr).le g1 := by
  refine ⟨fun b o h => k4.fr b o (hle.fr b o (hfr b o h)), ?_, ?_, fun e => ?_⟩
  ·rw [← hg1]; exact hle.gr.trans hgr
  ·rw [← hg1]; exact hle.ext.trans hext
  ·rcases Nat.lt_or_ge e fr with hef | hef
   ·by_cases hm : mem ids0 e = true
    ·have hm' : mem ids e = true := by rw [hdm]; exact hm
     have hma : mem all e = true := by rw [hallt]; simp [turned, hm]
     have hidx : idxOf all e = idxOf ids e := by rw [← hall]; exact idxOf_append hm'
     have hp : (g.part H w ids0 fr).sh e = g.sh e := by simp [G.part, hef, hm]
     have hp2 : (g.part H w ids0 fr).bl e = g.bl e := rfl
     have hp3 : (g.part H w ids0 fr).sz e = g.sz e := rfl
     have s1 := k2.sh e hm'
     rw [hp] at s1
     have hto : (rnIn S ids get fun _ => Entry.dead).to e = idxOf ids e := rfl
     have hgt : ∀ t, (rnIn S ids get fun _ => Entry.dead).gT t = genY S.Es[t]? := fun _ => rfl
     have hcu : (rnIn S ids get fun _ => Entry.dead).cur e = genE (get e) := rfl
     rw [hto, hgt, hcu] at s1
     have hsh1 : g1.sh e = shp (getE H1 e) := k3.sh e
     obtain ⟨hb0, hz0⟩ := hbl e hm'
     obtain ⟨hb1, hz1⟩ := hbl1 e
     rw [hidx] at hb1 hz1
     obtain ⟨E, e1, e2, _⟩ := hm1 e hma
     rw [hidx] at e1
     have hnow : match g3.sh (idxOf ids e) with
       | .vec k s n => k = genY S.Fs[idxOf ids e]? ∧ g1.sh e = .vec (B.gT e) s n
       | .box s => g1.sh e = .box s
       | .map => g1.sh e = .map
       | .dead => g1.sh e = .dead
       | .free => False := by
      rw [hI3.sh, hsh1, e2]
      cases hx : getE (encH S.Fs y) (idxOf ids e) with
      | free => rw [hx] at e1; simp [backE] at e1
      | dead => rw [hx] at e1; simp only [backE, Option.some.injEq] at e1; subst e1; rfl
      | box T x =>
       rw [hx] at e1
       simp only [backE] at e1
       split at e1
       ·rename_i z hz
        simp only [Option.some.injEq] at e1
        subst e1
        simp only [shp]
        rw [conv_sk _ _ _ _ hz]
       ·cases e1
      | map A V m =>
       rw [hx] at e1
       simp only [backE] at e1
       split at e1
       ·simp only [Option.some.injEq] at e1
        subst e1
        rfl
       ·cases e1
      | itr s p => rw [hx] at e1; simp [backE] at e1
      | vec k b m =>
       rw [hx] at e1
       simp only [backE] at e1
       split at e1
       ·simp only [Option.some.injEq] at e1
        subst e1
        exact ⟨(encH_gen hx).symm, rfl⟩
       ·cases e1
     have hgTe : B.gT e = genE (get e) + (genY S.Fs[idxOf ids e]? - genY S.Es[idxOf ids e]?) := by rw [hBgT, if_pos hm', hidx]
     cases hle.ent (idxOf ids e) with
     | same a b c =>
      cases hg0 : g.sh e with
      | free => exact .new (hp.trans hg0)
      | dead =>
       rw [hg0] at s1
       simp only at s1
       rw [a, s1] at hnow
       exact .dead hnow
      | box s =>
       rw [hg0] at s1
       simp only at s1
       rw [a, s1] at hnow
       exact .same (hnow.trans (hp.trans hg0).symm) (hb1.trans (b.trans (hb0.trans hp2.symm))) (hz1.trans (c.trans (hz0.trans hp3.symm)))
      | map =>
       rw [hg0] at s1
       simp only at s1
       rw [a, s1] at hnow
       exact .same (hnow.trans (hp.trans hg0).symm) (hb1.trans (b.trans (hb0.trans hp2.symm))) (hz1.trans (c.trans (hz0.trans hp3.symm)))
      | vec k s n =>
       rw [hg0] at s1
       simp only at s1
       rw [a, s1.2] at hnow
       simp only at hnow
       refine .same (hnow.2.trans ((?_ : ESh.vec (B.gT e) s n = .vec k s n).trans (hp.trans hg0).symm)) (hb1.trans (b.trans (hb0.trans hp2.symm))) (hz1.trans (c.trans (hz0.trans hp3.symm)))
       rw [hgTe, ← hnow.1, Nat.sub_self, Nat.add_zero, ← s1.1]
     | dead a =>
      rw [a] at hnow
      exact .dead hnow
     | grew a b c =>
      rename_i k0 sa na k' sb nb
      rw [b] at hnow
      simp only at hnow
      cases hg0 : g.sh e with
      | free => exact .new (hp.trans hg0)
      | dead => rw [hg0] at s1; simp only at s1; rw [s1] at a; cases a
      | box s => rw [hg0] at s1; simp only at s1; rw [s1] at a; cases a
      | map => rw [hg0] at s1; simp only at s1; rw [s1] at a; cases a
      | vec k s n =>
       rw [hg0] at s1
       simp only at s1
       rw [s1.2] at a
       simp only [ESh.vec.injEq] at a
       refine .grew (hp.trans hg0) hnow.2 ?_
       rw [hgTe, ← hnow.1, s1.1]
       omega
     | new a =>
      cases hg0 : g.sh e with
      | free => exact .new (hp.trans hg0)
      | dead => rw [hg0] at s1; simp only at s1; rw [s1] at a; cases a
      | box s => rw [hg0] at s1; simp only at s1; rw [s1] at a; cases a
      | map => rw [hg0] at s1; simp only at s1; rw [s1] at a; cases a
      | vec k s n => rw [hg0] at s1; simp only at s1; rw [s1.2] at a; cases a
    ·refine .dead ?_
     rw [k3.sh, hget1, if_pos (by omega), if_neg]
     ·rfl
     ·rw [hallt]
      have : decide (fr ≤ e) = false := by simpa using hef
      simp [turned, hm, this]
   ·exact .new (by simp [G.part, Nat.not_lt.2 hef])
 have hupd : (all.map fun e => (e, (backE B (B.gT e) (getE (encH S.Fs y) (idxOf all e))).getD .dead)) = all.map fun e => (e, getE H1 e) := by
  refine List.map_congr_left fun e he => ?_
  have he : mem all e = true := by simpa [mem] using he
  rw [hget1, if_pos (hlt e he), if_pos he]
 obtain ⟨z1, z2, z3⟩ := join_inv (N := S.news) (H2 := upd H (all.map fun e => (e, getE H1 e))) hI hids hfree hle1 k3
  (fun e he => by
   obtain ⟨E, e1, e2, e3⟩ := hm1 e (by rw [hallt]; exact he)
   rw [e2]; exact e3)
  (fun e => by
   rw [getE_upd_map H1 all H e (fun i hi => hin i (by simpa [mem] using hi))]
   have := hallt e
   unfold mem at this
   rw [this])
 refine ⟨g1, _, z1, ?_, k4, z3⟩
 rw [hupd]
 exact z2
theorem pos_soundX {P : Program} {k : Nat} {fnX : List AV → Heap → Tr (AV × Heap)} (henter : ∀ (args : Array Value) (w : World), (callFunc k args).run P w = .ok (.enter k args) w)
  (hX : ∀ {g : G} {H H' : Heap} {w : World} {vs : List AV} {rvs : List Value} {v : AV}, HInv g H w → argsRep g vs rvs → (fnX vs H).eval = some (v, H') → Calls P k rvs.toArray w fun e w' => ∃ rv g', e = .returned rv ∧ g.le g' ∧ HInv g' H' w' ∧ VRep g' v rv)
  {S : PSpec} {pre : HL S.As → HD S.Es → Bool} {f : HL S.As → HD S.Es → S.Out}
  (h1 : ∀ xs hs, HL.ok S.As xs → HD.ok S.Es hs → pre xs hs = true → ((fnX (mkArgs S.As xs) (encH S.Es hs)).bind fun r => match S.norm r with
   | some d => .ret d
   | none => .fail).eval = some (f xs hs)) :
  CSound P k (CSpec.pos S pre f) ∧ CLocal (CSpec.pos S pre f) := by
 refine ⟨⟨henter, ?_⟩, pos_local S pre f⟩
 intro g H w vs rvs fr out hI hargs hfree he
 simp only [CSpec.pos] at he hfree
 rw [(es_split H _ _).1, (es_split H _ _).2, reach_reachE] at he
 generalize hids0 : reach 5 H (rootVs S.As vs) = ids0 at he
 generalize hle0 : lendVs S.As vs = le at he
 unfold posCore at he
 split at he
 ·rename_i hc
  simp only [Bool.and_eq_true] at hc
  obtain ⟨⟨⟨⟨c1, c2⟩, c3⟩, c4⟩, c5⟩ := hc
  have hget : ∀ e, putE ids0 (ents H ids0) e = if mem ids0 e then getE H e else .dead := fun e => putE_ents H ids0 e
  have hlent : ∀ e, putE le (ents H le) e = if mem le e then getE H e else .dead := fun e => putE_ents H le e
  generalize putE ids0 (ents H ids0) = get at he hget
  generalize putE le (ents H le) = lentE at he hlent
  have hdm := dedupN_mem ids0
  generalize dedupN ids0 = ids at he hdm c4
  have hids : ∀ e, mem ids0 e = true → e < fr := fun e he => by
   have := List.all_eq_true.1 c2 e (by simpa [mem] using he)
   simpa using this
  have hcl := ents_all c3
  have hnl : ∀ e, mem le e = true → mem ids0 e = false := fun e he => by
   have := List.all_eq_true.1 c1 e (by simpa [mem] using he)
   simpa using this
  have hEs : ∀ t, t < S.Es.length → liveY S.Es[t]? = true := fun t ht => by
   rw [List.getElem?_eq_getElem ht]
   exact List.all_eq_true.1 c5 _ (List.getElem_mem ht)
  split at he
  ·rename_i xs hxs
   split at he
   ·rename_i hs hhs
    obtain ⟨hp, he⟩ := Tr.chk_some he
    obtain ⟨hlen, hEC⟩ := decC_EC hhs
    have hlen : ids.length = S.Es.length := by simpa using hlen
    have hpi := part_inv (n := fr) hI hids hcl
    have hfrom : ∀ t, t < ids.length → ids[t]? = some (ids.getD t 0) := by
     intro t ht
     rw [List.getD_eq_getElem?_getD, List.getElem?_eq_getElem ht]
     rfl
    have hgp : ∀ e, mem ids0 e = true → getE (partH ids0 H fr) e = getE H e := fun e he => by
     rw [getE_partH, if_pos (hids e he), if_pos he]
    have key := conv_inv (R := rnIn S ids get fun _ => .dead) (q := fun t => decide (t < ids.length)) (from_ := fun t => ids.getD t 0) (H' := encH S.Es hs) hpi
     (fun e he => by
      have he : mem ids e = true := he
      obtain ⟨w1, w2⟩ := idxOf_mem he
      exact ⟨decide_eq_true w1, w2⟩)
     (fun t ht => by
      have ht : t < ids.length := by simpa using ht
      exact ⟨getD_mem ht, nodupI_spec c4 ht⟩)
     (fun e k a l he hE => by
      have he : mem ids0 e = true := by rw [← hdm]; exact he
      rw [hgp e he] at hE
      show k = genE (get e)
      rw [hget, if_pos he, hE]; rfl)
     (fun t K a l ht hE => encH_gen hE)
     (fun t ht => by
      have ht : t < ids.length := by simpa using ht
      have := hEC t (hEs t (by omega))
      rw [getE_map', hfrom t ht] at this
      have hm : mem ids0 (ids.getD t 0) = true := by rw [← hdm]; exact getD_mem ht
      rw [hgp _ hm]
      simp only [hget, if_pos hm] at this
      exact this)
     (fun t ht => by
      have ht : ¬ t < ids.length := by simpa using ht
      rw [getE_past _ (by rw [encH_length]; omega)]
      rfl)
     false
     (fun e => rfl)
    obtain ⟨k1, k2⟩ := key
    generalize hg' : (g.part H w ids0 fr).rn (partH ids0 H fr) w (rnIn S ids get fun _ => .dead).p false (fun t => ids.getD t 0) (encH S.Es hs) = g' at k1 k2
    have hsh' : ∀ t, g'.sh t = shp (getE (encH S.Es hs) t) := k1.sh
    have hrel : CRel (rnIn S ids get lentE) g g' := by
     refine ⟨k2.fr, fun b o h => k2.gr b o (part_gr_mono h), k2.bl, k2.sz, fun e he => ?_, ?_⟩
     ·have hm : mem ids0 e = true := by rw [← hdm]; exact he
      have := k2.sh e he
      have hp : (g.part H w ids0 fr).sh e = g.sh e := by simp [G.part, hids e hm, hm]
      rw [hp] at this
      exact this
     ·refine lent_view (H := H) hI (fun e => ?_) (fun b o h => k2.fr b o h) (fun b o h => k2.gr b o (part_gr_mono h)) (fun e b o hq hlv hb ho => .inr ⟨rfl, ?_⟩)
      ·show lentE e = _ ∨ lentE e = _
       rw [hlent]; split
       ·exact .inl rfl
       ·exact .inr rfl
      ·have hq : lentE e = getE H e := hq
       have hlv : (lentE e).live = true := hlv
       have hm : mem le e = true := by
        rw [hlent] at hlv
        by_cases h : mem le e = true
        ·exact h
        ·rw [if_neg h] at hlv; cases hlv
       rw [hq] at hlv
       refine k2.gr b o ?_
       rw [part_gr_lent hI (hnl e hm) hlv hb]
       exact ho
    have hargs' := convArgs_rep hrel hxs hargs
    have hx := args_ok hargs'
    have hh : HD.ok S.Es hs := HD_ok_of 0 (fun t => by rw [Nat.zero_add]; exact k1.ent t) hEs
    have hev := h1 xs hs hx hh hp
    obtain ⟨r, q1, q2⟩ := Tr.bind_some hev
    split at q2
    ·rename_i dd hnorm
     have := Tr.ret_some q2
     subst this
     unfold posOut at he
     split at he
     ·rename_i v hv0
      split at he
      ·rename_i hd
       have := Tr.ret_some he
       subst this
       simp only [Bool.and_eq_true, decide_eq_true_eq] at hd
       obtain ⟨⟨⟨d1, d2⟩, d3⟩, d4⟩ := hd
       refine (hX k1 hargs' q1).mono ?_
       rintro e w' ⟨rv, g1, rfl, hle, hI1, hv⟩
       obtain ⟨g3, w1, w2, w3⟩ := pnorm_rep hsh' hle hI1 hv hnorm
       have hbl : ∀ e, mem ids e = true → g'.bl (idxOf ids e) = g.bl e ∧ g'.sz (idxOf ids e) = g.sz e := fun e he => by
        rw [← hg']
        show g.bl (ids.getD (idxOf ids e) 0) = _ ∧ g.sz (ids.getD (idxOf ids e) 0) = _
        rw [(idxOf_mem he).2]
        exact ⟨rfl, rfl⟩
       obtain ⟨g4, g5, z1, z2, z3, z4⟩ := pos_back hI hids hdm hget hlen k1 k2 hbl (by rw [← hg']; rfl) (by rw [← hg']; exact fun b o h => rn_fr h) (by rw [← hg']; rfl) w1 w2 d1 d2
        (fun e he => by
         have := List.all_eq_true.1 d3 e (by simpa [mem] using he)
         split at this
         ·rename_i E hE; exact ⟨E, hE, this⟩
         ·cases this)
        (fun e he1 he2 => by rw [hI.sh, freeAt_get hfree e he1 he2]; rfl)
        (fun e he => by
         have he : e ∈ ids ++ List.range' fr S.news := by simpa [mem] using he
         rw [List.mem_append] at he
         rcases he with he | he
         ·have he : mem ids e = true := by simpa [mem] using he
          obtain ⟨v1, v2⟩ := idxOf_mem he
          have := hEC (idxOf ids e) (hEs _ (by omega))
          rw [getE_map', hfrom _ v1] at this
          simp only at this
          rw [v2, hget, if_pos (by rw [← hdm]; exact he)] at this
          refine lt_of_live (H := H) ?_
          have hly := hEs (idxOf ids e) (by omega)
          have hlv : (getE (encH S.Es hs) (idxOf ids e)).live = true := by
           have hq := encH_shp (y := hs) (List.getElem?_eq_getElem (l := S.Es) (i := idxOf ids e) (by omega))
           rw [List.getElem?_eq_getElem (by omega)] at hly
           cases hE : S.Es[idxOf ids e] with
           | free => rw [hE] at hly; cases hly
           | dead => rw [hE] at hly; cases hly
           | box T => rw [hE] at hq; obtain ⟨x, hx⟩ := hq; rw [hx]; rfl
           | vec k a => rw [hE] at hq; obtain ⟨x, hx⟩ := hq; rw [hx]; rfl
           | map K V => rw [hE] at hq; obtain ⟨x, hx⟩ := hq; rw [hx]; rfl
          cases h1 : getE H e <;> cases h2 : getE (encH S.Es hs) (idxOf ids e) <;> rw [h1, h2] at this <;> first | rfl | (exact this.elim) | (rw [h2] at hlv; cases hlv)
         ·rcases freeAt_lt hfree with h | h
          ·rw [h] at he; simp at he
          ·rw [List.mem_range'] at he
           obtain ⟨i, hi, rfl⟩ := he
           omega)
       exact ⟨rv, g5, rfl, z1, z2, inn_VRep z4 d4 (backV_rep z3 hv0 w3)⟩
      ·exact (Tr.fail_some he).elim
     ·exact (Tr.fail_some he).elim
    ·exact (Tr.fail_some q2).elim
   ·exact (Tr.fail_some he).elim
  ·exact (Tr.fail_some he).elim
 ·exact (Tr.fail_some he).elim
theorem pos_sound {P : Program} {C : Ctx} {L : Loops} (hC : CtxSound P C ∧ CtxLocal C) {k : Nat} {fn : Func} (hf : P.funcs[k]? = some fn) (hside : ((fn.name == "runtime.NumGoroutine") == false && fn.body.isSome) = true)
  (hl : ∀ b ∈ loopsOf (bodyOf fn), LoopOK P L b) {S : PSpec} {pre : HL S.As → HD S.Es → Bool} {f : HL S.As → HD S.Es → S.Out}
  (h1 : ∀ xs hs, HL.ok S.As xs → HD.ok S.Es hs → pre xs hs = true → (fnP P C L S fn xs hs).eval = some (f xs hs)) :
  CSound P k (CSpec.pos S pre f) ∧ CLocal (CSpec.pos S pre f) := by
 simp only [Bool.and_eq_true, beq_iff_eq] at hside
 obtain ⟨hname, hb⟩ := hside
 obtain ⟨body, hb⟩ := Option.isSome_iff_exists.1 hb
 have hl : LoopsOK P L body := by
  refine loopsOK_all ?_
  unfold bodyOf at hl
  rw [hb] at hl
  exact hl
 exact pos_soundX (fnX := fnK P C L fn) (fun args w => callFunc_enter hf hname hb args w) (fun hI hargs he => fn_sound hC.1 hC.2 hf hb hl hI hargs (fnK_ok he)) h1
end Vse
end
section
set_option linter.unusedVariables false
namespace Vse
open Go Go.ChangeShapes
def addIniW (b K : Nat) (a : Ty) (st : St) : Option St :=
 match getE st.heap b with
 | .box T x => match getP T x [] () with
  | some t => if t.T = .nils then (match setP T x [] () ⟨.vc st.heap.length K, ()⟩ with
   | some r => if (poff T.sk [] ()).isSome then some ⟨st.env, setE st.heap b (.box r.T r.x) ++ [.vec K a []]⟩ else none
   | none => none) else none
  | none => none
 | _ => none
theorem addIniW_rep {g : G} {st st' : St} {a : Act} {w : World} {b K : Nat} {A : Ty} (h : SRep g st a w) (hs : addIniW b K A st = some st') : ∃ g', g.le g' ∧ SRep g' st' a w := by
 unfold addIniW at hs
 split at hs
 ·rename_i T x hE
  split at hs
  ·rename_i t ht
   split at hs
   ·rename_i hn
    split at hs
    ·rename_i r hr
     split at hs
     ·rename_i hp
      simp only [Option.some.injEq] at hs
      subst hs
      obtain ⟨⟨off, s⟩, hpo⟩ := Option.isSome_iff_exists.1 hp
      have hlive : (getE st.heap b).live = true := by rw [hE]; rfl
      have hlt := lt_of_live hlive
      have hw : HInv g (st.heap ++ frees 1) w := h.heap.widen 1
      obtain ⟨g1, q1, q2, q3, q4⟩ := hw.nilVec (e := st.heap.length) (k := K) (a := A) (by simp [frees]) (.inl (getE_append_one _))
      rw [setE_append_one] at q2
      have hE1 : getE (st.heap ++ [.vec K A []]) b = .box T x := by
       have : getE (setE (st.heap ++ frees 1) st.heap.length (.vec K A [])) b = .box T x := by
        rw [getE_setE, if_neg (fun h => by omega), getE_append_frees, hE]
       rwa [setE_append_one] at this
      have hent := q2.ent b
      rw [hE1] at hent
      obtain ⟨bb, cs, tt, fz, w1, w2, w3, w4⟩ := hent
      obtain ⟨p1, p2, p3⟩ := getP_rep T x [] () cs.toList t off s w4 ht hpo
      obtain ⟨T', y⟩ := t
      simp only at hn
      subst hn
      simp only [Rep] at p1
      have hnew : Rep g1 (.vc st.heap.length K) () [.slice none 0 0] := by
       simp only [Rep, G.vcr, q3]
       exact ⟨⟨_, rfl, rfl⟩, Nat.le_refl _, fun _ => .inl ⟨q4, trivial, none, rfl⟩⟩
      obtain ⟨s1, s2, s3, s4⟩ := setP_rep T x [] () cs.toList [.slice none 0 0] ⟨.vc st.heap.length K, ()⟩ r off s w4 hr hpo hnew
      have hsame : splice cs.toList off [.slice none 0 0] = cs.toList := by
       rw [← p1]
       exact splice_same p3
      rw [hsame] at s3
      have hI2 := q2.setBox hE1 w1 w2 w3 s2 s3
      rw [setRow_self w bb cs tt fz w2, setE_append _ _ _ _ hlt] at hI2
      exact ⟨g1, q1, h.env.mono q1, hI2, h.defers.trans (congrArg Prod.snd q1.ext).symm⟩
     ·cases hs
    ·cases hs
   ·cases hs
  ·cases hs
 ·cases hs
def addIniP (b : Nat) (p : List PS) (K : Nat) (a : Ty) (st : St) : Option St :=
 match getE st.heap b with
 | .box T x => match getP T x p (pd0 p) with
  | some t => if t.T = .nils then (match setP T x p (pd0 p) ⟨.vc st.heap.length K, ()⟩ with
   | some r => if (poff T.sk p (pd0 p)).isSome then some ⟨st.env, setE st.heap b (.box r.T r.x) ++ [.vec K a []]⟩ else none
   | none => none) else none
  | none => none
 | _ => none
theorem addIniP_rep {g : G} {st st' : St} {a : Act} {w : World} {b : Nat} {p : List PS} {K : Nat} {A : Ty} (h : SRep g st a w) (hs : addIniP b p K A st = some st') : ∃ g', g.le g' ∧ SRep g' st' a w := by
 unfold addIniP at hs
 split at hs
 ·rename_i T x hE
  split at hs
  ·rename_i t ht
   split at hs
   ·rename_i hn
    split at hs
    ·rename_i r hr
     split at hs
     ·rename_i hp
      simp only [Option.some.injEq] at hs
      subst hs
      obtain ⟨⟨off, s⟩, hpo⟩ := Option.isSome_iff_exists.1 hp
      have hlive : (getE st.heap b).live = true := by rw [hE]; rfl
      have hlt := lt_of_live hlive
      have hw : HInv g (st.heap ++ frees 1) w := h.heap.widen 1
      obtain ⟨g1, q1, q2, q3, q4⟩ := hw.nilVec (e := st.heap.length) (k := K) (a := A) (by simp [frees]) (.inl (getE_append_one _))
      rw [setE_append_one] at q2
      have hE1 : getE (st.heap ++ [.vec K A []]) b = .box T x := by
       have : getE (setE (st.heap ++ frees 1) st.heap.length (.vec K A [])) b = .box T x := by
        rw [getE_setE, if_neg (fun h => by omega), getE_append_frees, hE]
       rwa [setE_append_one] at this
      have hent := q2.ent b
      rw [hE1] at hent
      obtain ⟨bb, cs, tt, fz, w1, w2, w3, w4⟩ := hent
      obtain ⟨p1, p2, p3⟩ := getP_rep T x p (pd0 p) cs.toList t off s w4 ht hpo
      obtain ⟨T', y⟩ := t
      simp only at hn
      subst hn
      simp only [Rep] at p1
      have hnew : Rep g1 (.vc st.heap.length K) () [.slice none 0 0] := by
       simp only [Rep, G.vcr, q3]
       exact ⟨⟨_, rfl, rfl⟩, Nat.le_refl _, fun _ => .inl ⟨q4, trivial, none, rfl⟩⟩
      obtain ⟨s1, s2, s3, s4⟩ := setP_rep T x p (pd0 p) cs.toList [.slice none 0 0] ⟨.vc st.heap.length K, ()⟩ r off s w4 hr hpo hnew
      have hsame : splice cs.toList off [.slice none 0 0] = cs.toList := by
       rw [← p1]
       exact splice_same p3
      rw [hsame] at s3
      have hI2 := q2.setBox hE1 w1 w2 w3 s2 s3
      rw [setRow_self w bb cs tt fz w2, setE_append _ _ _ _ hlt] at hI2
      exact ⟨g1, q1, h.env.mono q1, hI2, h.defers.trans (congrArg Prod.snd q1.ext).symm⟩
     ·cases hs
    ·cases hs
   ·cases hs
  ·cases hs
 ·cases hs
inductive IniT
 | slot (s : Nat) (a : Ty)
 | fld (b m : Nat) (a : Ty)
 | all (b : Nat) (a : Ty)
 | pth (b : Nat) (p : List PS) (a : Ty)
def addNilsT : List IniT → St → St
 | [], st => st
 | .slot s a :: l, st => match addIni [s] [.vec 0 a] st with
  | some st' => addNilsT l st'
  | none => addNilsT l st
 | .fld b m a :: l, st => match addIniB b m 0 a st with
  | some st' => addNilsT l st'
  | none => addNilsT l st
 | .all b a :: l, st => match addIniW b 0 a st with
  | some st' => addNilsT l st'
  | none => addNilsT l st
 | .pth b p a :: l, st => match addIniP b p 0 a st with
  | some st' => addNilsT l st'
  | none => addNilsT l st
theorem addNilsT_rep {a : Act} {w : World} : ∀ {l : List IniT} {g : G} {st : St}, SRep g st a w → ∃ g', g.le g' ∧ SRep g' (addNilsT l st) a w
 | [], g, st, h => ⟨g, G.le.refl g, h⟩
 | .slot s A :: l, g, st, h => by
  simp only [addNilsT]
  split
  ·rename_i st' hs
   obtain ⟨g1, q1, q2⟩ := addIni_rep h hs
   obtain ⟨g2, w1, w2⟩ := addNilsT_rep (l := l) q2
   exact ⟨g2, q1.trans w1, w2⟩
  ·exact addNilsT_rep h
 | .fld b m A :: l, g, st, h => by
  simp only [addNilsT]
  split
  ·rename_i st' hs
   obtain ⟨g1, q1, q2⟩ := addIniB_rep h hs
   obtain ⟨g2, w1, w2⟩ := addNilsT_rep (l := l) q2
   exact ⟨g2, q1.trans w1, w2⟩
  ·exact addNilsT_rep h
 | .all b A :: l, g, st, h => by
  simp only [addNilsT]
  split
  ·rename_i st' hs
   obtain ⟨g1, q1, q2⟩ := addIniW_rep h hs
   obtain ⟨g2, w1, w2⟩ := addNilsT_rep (l := l) q2
   exact ⟨g2, q1.trans w1, w2⟩
  ·exact addNilsT_rep h
 | .pth b p A :: l, g, st, h => by
  simp only [addNilsT]
  split
  ·rename_i st' hs
   obtain ⟨g1, q1, q2⟩ := addIniP_rep h hs
   obtain ⟨g2, w1, w2⟩ := addNilsT_rep (l := l) q2
   exact ⟨g2, q1.trans w1, w2⟩
  ·exact addNilsT_rep h
def unifS : List Nat → List Ty → List AV → List (Nat × Nat)
 | k :: ks, T :: Ts, env => (match getV env k with
  | .v U _ => unifU U T
  | .tup _ => []) ++ unifS ks Ts env
 | _, _, _ => []
def convEnv (R : Rn) : List Nat → List Ty → Nat → List AV → List AV
 | _, _, _, [] => []
 | k :: ks, T :: Ts, i, a :: l => if i = k then (match a with
   | .v U x => match conv R T U x with
    | some y => .v T y
    | none => AV.und
   | .tup _ => AV.und) :: convEnv R ks Ts (i + 1) l else AV.und :: convEnv R (k :: ks) (T :: Ts) (i + 1) l
 | _, _, i, _ :: l => AV.und :: convEnv R [] [] (i + 1) l
theorem convEnv_length (R : Rn) : ∀ (l : List AV) (ks : List Nat) (Ts : List Ty) (i : Nat), (convEnv R ks Ts i l).length = l.length
 | [], ks, Ts, i => by cases ks <;> cases Ts <;> rfl
 | a :: l, ks, Ts, i => by
  cases ks with
  | nil => cases Ts <;> simp [convEnv, convEnv_length R l]
  | cons k ks =>
   cases Ts with
   | nil => simp [convEnv, convEnv_length R l]
   | cons T Ts => simp only [convEnv]; split <;> simp [convEnv_length R l]
theorem convEnv_get {R : Rn} {g g' : G} (hc : CRel R g g') : ∀ (l : List AV) (ks : List Nat) (Ts : List Ty) (i j : Nat) (rv : Value), VRep g (getV l j) rv → VRep g' (getV (convEnv R ks Ts i l) j) rv
 | [], ks, Ts, i, j, rv, h => by
  have h : VRep g AV.none rv := h
  have : getV (convEnv R ks Ts i []) j = AV.none := by cases ks <;> cases Ts <;> rfl
  rw [this]
  obtain ⟨vs, h1, h2⟩ := h
  exact ⟨vs, h1, h2⟩
 | a :: l, ks, Ts, i, j, rv, h => by
  have rest : ∀ (a' : AV) (ks' : List Nat) (Ts' : List Ty), (j = 0 → VRep g' a' rv) → VRep g' (getV (a' :: convEnv R ks' Ts' (i + 1) l) j) rv := by
   intro a' ks' Ts' h0
   cases j with
   | zero => exact h0 rfl
   | succ j => exact convEnv_get hc l ks' Ts' (i + 1) j rv h
  cases ks with
  | nil => cases Ts <;> exact rest _ _ _ fun _ => trivial
  | cons k ks =>
   cases Ts with
   | nil => exact rest _ _ _ fun _ => trivial
   | cons T Ts =>
    simp only [convEnv]
    split
    ·refine rest _ _ _ fun hj => ?_
     subst hj
     have h : VRep g a rv := h
     cases a with
     | v U x =>
      simp only
      split
      ·rename_i y hy
       exact conv_VRep hc hy h
      ·trivial
     | tup l => trivial
    ·exact rest _ _ _ fun _ => trivial
def renTo (E0 : List ETy) (inis : List IniT) (live : List Nat) (Ts : List Ty) (Es : List ETy) (nt : Nat) (st0 : St) : Option (HL Ts × HD Es) :=
 let st := addNilsT inis st0
 let ss := srcs st.heap Es 0 (unifS live Ts st.env ++ boxIds E0 0)
 if turnsOk st.heap E0 Es ss 0 && ((List.range Es.length).all fun t => !(liveY Es[t]?) || decide (idxOf ss (ss.getD t 0) = t)) && decide (st.env.length = nt) then
  match decE live Ts 0 (convEnv (rnOf Es st.heap ss) live Ts 0 st.env) with
  | some xs => match decC (rnOf Es st.heap ss) Es (ss.map (getE st.heap)) with
   | some hs => some (xs, hs)
   | none => none
  | none => none
 else none
theorem renTo_rep {E0 : List ETy} {inis : List IniT} {live : List Nat} {Ts : List Ty} {Es : List ETy} {nt : Nat} {st : St} {d : HL Ts × HD Es} {g gn : G} {a : Act} {w : World} (hle : g.le gn) (h : SRep gn st a w) (h0 : ∀ t, isY (g.sh t) E0[t]?)
  (hn : renTo E0 inis live Ts Es nt st = some d) : ∃ g3, g.le g3 ∧ SRep g3 (encS live Ts Es nt d.1 d.2) a w := by
 unfold renTo at hn
 obtain ⟨g1, hle1, h1⟩ := addNilsT_rep (l := inis) h
 simp only at hn
 generalize addNilsT inis st = st at hn h1
 split at hn
 ·rename_i hok
  simp only [Bool.and_eq_true, decide_eq_true_eq] at hok
  obtain ⟨⟨hturn, hall⟩, hnt⟩ := hok
  split at hn
  ·rename_i xs hxs
   split at hn
   ·rename_i hs hhs
    simp only [Option.some.injEq] at hn
    subst hn
    obtain ⟨g3, q1, q2, q3⟩ := ren_step (hle.trans hle1) h1.heap h0 hturn hall hhs
    refine ⟨g3, q1, ?_, q2, h1.defers.trans (congrArg Prod.snd ((hle.trans hle1).ext.trans q1.ext.symm))⟩
    have he : EnvRep g3 (convEnv (rnOf Es st.heap (srcs st.heap Es 0 (unifS live Ts st.env ++ boxIds E0 0))) live Ts 0 st.env) a :=
     ⟨by rw [convEnv_length]; exact h1.env.1, fun i => convEnv_get q3 _ _ _ _ _ _ (h1.env.2 i)⟩
    have hk := keepE_rep he live
    rw [decE_some hxs, convEnv_length, hnt] at hk
    exact hk
   ·cases hn
  ·cases hn
 ·cases hn
def heapIs : List ETy → Heap → Bool
 | [], [] => true
 | .box _ :: Es, .box _ _ :: H => heapIs Es H
 | .vec k _ :: Es, .vec k' _ _ :: H => decide (k = k') && heapIs Es H
 | .map _ _ :: Es, .map _ _ _ :: H => heapIs Es H
 | .dead :: Es, _ :: H => heapIs Es H
 | _, _ => false
theorem heapIs_isY : ∀ {Es : List ETy} {H : Heap}, heapIs Es H = true → ∀ t, isY (shp (getE H t)) Es[t]?
 | [], [], _, t => by simp [getE, shp, isY]
 | [], _ :: _, h, t => by simp [heapIs] at h
 | E :: Es, [], h, t => by cases E <;> simp [heapIs] at h
 | E :: Es, e :: H, h, t => by
  cases E with
  | free => cases e <;> simp [heapIs] at h
  | dead =>
   have h : heapIs Es H = true := by cases e <;> simpa only [heapIs] using h
   cases t with
   | zero => trivial
   | succ t => exact heapIs_isY h t
  | box T =>
   cases e <;> simp only [heapIs] at h <;> try (cases h; done)
   cases t with
   | zero => exact ⟨_, rfl⟩
   | succ t => exact heapIs_isY h t
  | vec k a =>
   cases e <;> simp only [heapIs, Bool.and_eq_true, decide_eq_true_eq] at h <;> try (cases h; done)
   cases t with
   | zero => obtain ⟨rfl, _⟩ := h; exact ⟨_, _, rfl⟩
   | succ t => exact heapIs_isY h.2 t
  | map K V =>
   cases e <;> simp only [heapIs] at h <;> try (cases h; done)
   cases t with
   | zero => rfl
   | succ t => exact heapIs_isY h t
structure RSpec where
 live : List Nat
 nt : Nat
 Ts : List Ty
 Es : List ETy
 E0 : List ETy
 inis : List IniT
 outs : Ex → List Nat × List Ty × List ETy
def RSpec.enc (S : RSpec) (xs : HL S.Ts) (hs : HD S.Es) : St := encS S.live S.Ts S.Es S.nt xs hs
abbrev RSpec.End (S : RSpec) := (HL S.Ts × HD S.Es) ⊕ (Ex × St)
def RSpec.outSt (S : RSpec) (x : Ex) (st : St) : Option St :=
 match renTo S.E0 S.inis (S.outs x).1 (S.outs x).2.1 (S.outs x).2.2 S.nt st with
 | some d => some (encS (S.outs x).1 (S.outs x).2.1 (S.outs x).2.2 S.nt d.1 d.2)
 | none => none
def RSpec.round (S : RSpec) (body : St → Tr (Ex × St)) (xs : HL S.Ts) (hs : HD S.Es) : Tr S.End :=
 (body (S.enc xs hs)).bind fun r => match r.1 with
  | .normal => match renTo S.E0 S.inis S.live S.Ts S.Es S.nt r.2 with
   | some d => .ret (.inl d)
   | none => .fail
  | x => match S.outSt x r.2 with
   | some st => .ret (.inr (x, st))
   | none => .fail
def RSpec.many (S : RSpec) (body : St → Tr (Ex × St)) : Nat → HL S.Ts → HD S.Es → Option (Ex × St)
 | 0, _, _ => none
 | n + 1, xs, hs => match (S.round body xs hs).eval with
  | some (.inl d) => S.many body n d.1 d.2
  | some (.inr r) => some r
  | none => none
def RSpec.fn (S : RSpec) (F : HL S.Ts → HD S.Es → Tr (Ex × St)) (st : St) : Tr (Ex × St) :=
 if heapIs S.E0 st.heap then
  match renTo S.E0 S.inis S.live S.Ts S.Es S.nt st with
  | some d => F d.1 d.2
  | none => .fail
 else .fail
section
variable {P : Program} {C : Ctx} {L : Loops}
theorem rmany_sound {rd : Option Nat} (hC : CtxSound P C ∧ CtxLocal C) {c : Code} (hl : LoopsOK P L c) (S : RSpec) {n : Nat} {g g0 : G} {xs : HL S.Ts} {hs : HD S.Es} {st' : St} {a : Act} {w : World} {x : Ex}
  {Q : Exit → Act → World → Prop} (h0 : ∀ t, isY (g.sh t) S.E0[t]?) (hle0 : g.le g0) (hr : SRep g0 (S.enc xs hs) a w) (he : S.many (bodyK P C L c) n xs hs = some (x, st'))
  (hn : ∀ g' a' w', g.le g' → SRep g' st' a' w' → Q x.out a' w') : (Code.loop c).wpIn (FW rd) 0 P Q a w := by
 refine wpIn_loop_ghost (fun m a w => ∃ g1 xs hs, g.le g1 ∧ SRep g1 (S.enc xs hs) a w ∧ S.many (bodyK P C L c) m xs hs = some (x, st')) n ⟨g0, xs, hs, hle0, hr, he⟩ ?_
 rintro m a w ⟨g1, xs, hs, hle, hs1, he1⟩
 cases m with
 | zero => cases he1
 | succ m =>
  simp only [RSpec.many] at he1
  have key : ∀ r, (S.round (bodyK P C L c) xs hs).eval = some r → ∃ y s2, (bodyK P C L c (S.enc xs hs)).eval = some (y, s2) ∧ (match y with
    | .normal => match renTo S.E0 S.inis S.live S.Ts S.Es S.nt s2 with
     | some d => (Tr.ret (.inl d) : Tr S.End)
     | none => .fail
    | x => match S.outSt x s2 with
     | some st => .ret (.inr (x, st))
     | none => .fail).eval = some r := by
   intro r hr
   obtain ⟨⟨y, s2⟩, h1, h2⟩ := Tr.bind_some hr
   exact ⟨y, s2, h1, h2⟩
  have exit : ∀ {y : Ex} {s2 : St} {r : S.End}, (match S.outSt y s2 with
        | some st => (Tr.ret (.inr (y, st)) : Tr S.End)
        | none => .fail).eval = some r → ∃ d, r = .inr (y, encS (S.outs y).1 (S.outs y).2.1 (S.outs y).2.2 S.nt d.1 d.2) ∧ renTo S.E0 S.inis (S.outs y).1 (S.outs y).2.1 (S.outs y).2.2 S.nt s2 = some d := by
   intro y s2 r h
   unfold RSpec.outSt at h
   cases hd : renTo S.E0 S.inis (S.outs y).1 (S.outs y).2.1 (S.outs y).2.2 S.nt s2 with
   | none => rw [hd] at h; exact (Tr.fail_some h).elim
   | some d => rw [hd] at h; exact ⟨d, (Tr.ret_some h).symm, rfl⟩
  split at he1
  ·rename_i d hd
   obtain ⟨y, s2, h1, h2⟩ := key _ hd
   refine code_sound hC.1 hC.2 c hl hs1 (bodyK_ok h1) ?_
   intro g2 a' w' hle2 hs2
   cases y with
   | normal =>
    simp only at h2
    split at h2
    ·rename_i d' hd'
     have := Tr.ret_some h2
     simp only [Sum.inl.injEq] at this
     subst this
     obtain ⟨g3, q1, q2⟩ := renTo_rep (hle.trans hle2) hs2 h0 hd'
     exact ⟨m, Nat.lt_succ_self m, g3, _, _, q1, q2, he1⟩
    ·exact (Tr.fail_some h2).elim
   | exit i => obtain ⟨_, h3, _⟩ := exit h2; cases h3
   | ret => obtain ⟨_, h3, _⟩ := exit h2; cases h3
  ·rename_i r hd
   simp only [Option.some.injEq] at he1
   subst he1
   obtain ⟨y, s2, h1, h2⟩ := key _ hd
   refine code_sound hC.1 hC.2 c hl hs1 (bodyK_ok h1) ?_
   intro g2 a' w' hle2 hs2
   cases y with
   | normal =>
    simp only at h2
    split at h2
    ·have := Tr.ret_some h2; cases this
    ·exact (Tr.fail_some h2).elim
   | exit i =>
    obtain ⟨d, h3, h4⟩ := exit h2
    simp only [Sum.inr.injEq, Prod.mk.injEq] at h3
    obtain ⟨rfl, rfl⟩ := h3
    obtain ⟨g3, q1, q2⟩ := renTo_rep (hle.trans hle2) hs2 h0 h4
    exact hn _ _ _ q1 q2
   | ret =>
    obtain ⟨d, h3, h4⟩ := exit h2
    simp only [Sum.inr.injEq, Prod.mk.injEq] at h3
    obtain ⟨rfl, rfl⟩ := h3
    obtain ⟨g3, q1, q2⟩ := renTo_rep (hle.trans hle2) hs2 h0 h4
    exact hn _ _ _ q1 q2
  ·cases he1
theorem rloop_ok {L' : Loops} (hC : CtxSound P C ∧ CtxLocal C) {c : Code} (hl : LoopsOK P L' c) (S : RSpec) {F : HL S.Ts → HD S.Es → Tr (Ex × St)} {i : Nat}
  (hi : firstReg c = some i) (hL : ∀ st, L i st = S.fn F st) (key : ∀ xs hs r, (F xs hs).eval = some r → ∃ n, S.many (bodyK P C L' c) n xs hs = some r) : LoopOK P L c := by
 intro j hj rd g st a w x st' Q hs he hn
 rw [hi] at hj
 cases hj
 rw [hL] at he
 unfold RSpec.fn at he
 split at he
 ·rename_i hh
  have h0 : ∀ t, isY (g.sh t) S.E0[t]? := fun t => by rw [hs.heap.sh]; exact heapIs_isY hh t
  split at he
  ·rename_i d hd
   obtain ⟨n, hm⟩ := key _ _ _ he
   obtain ⟨g3, q1, q2⟩ := renTo_rep (G.le.refl g) hs h0 hd
   exact rmany_sound hC hl S h0 q1 q2 hm hn
  ·exact (Tr.fail_some he).elim
 ·exact (Tr.fail_some he).elim
theorem rmany_inl {S : RSpec} {body : St → Tr (Ex × St)} {xs : HL S.Ts} {hs : HD S.Es} {d : HL S.Ts × HD S.Es} (h : (S.round body xs hs).eval = some (.inl d)) (n : Nat) : S.many body (n + 1) xs hs = S.many body n d.1 d.2 := by
 simp only [RSpec.many, h]
theorem rmany_inr {S : RSpec} {body : St → Tr (Ex × St)} {xs : HL S.Ts} {hs : HD S.Es} {r : Ex × St} (h : (S.round body xs hs).eval = some (.inr r)) (n : Nat) : S.many body (n + 1) xs hs = some r := by
 simp only [RSpec.many, h]
end
end Vse
end
section
set_option linter.unusedVariables false
namespace Vse
open Go Go.ChangeShapes
def CSpec.two (sel : List AV → List Entry → Option Bool) (c d : CSpec) : CSpec :=
 ⟨max c.new d.new, c.ids, c.wr, fun vs es fr => match sel vs es with
  | some b => .ite b (c.core vs es fr) (d.core vs es fr)
  | none => .fail⟩
theorem freeAt_less {H : Heap} : ∀ {n m fr : Nat}, m ≤ n → freeAt H fr n = true → freeAt H fr m = true
 | _, 0, _, _, _ => rfl
 | 0, m + 1, _, h, _ => by omega
 | n + 1, m + 1, fr, h, hf => by
  simp only [freeAt, Bool.and_eq_true] at hf ⊢
  exact ⟨hf.1, freeAt_less (by omega) hf.2⟩
theorem two_sound {P : Program} {k : Nat} {c d : CSpec} (sel : List AV → List Entry → Option Bool) (hi : c.ids = d.ids) (hw : c.wr = d.wr) (hc : CSound P k c ∧ CLocal c) (hd : CSound P k d ∧ CLocal d) : CSound P k (CSpec.two sel c d) ∧ CLocal (CSpec.two sel c d) := by
 refine ⟨⟨hc.1.enter, ?_⟩, ⟨hc.2.same, ?_⟩⟩
 ·intro g H w vs rvs fr out hI ha hf he
  simp only [CSpec.two] at he hf
  split at he
  ·rename_i b _
   rcases Tr.ite_some he with ⟨_, he⟩ | ⟨_, he⟩
   ·exact hc.1.calls g H w vs rvs fr out hI ha (freeAt_less (Nat.le_max_left _ _) hf) he
   ·rw [hi] at he
    exact hd.1.calls g H w vs rvs fr out hI ha (freeAt_less (Nat.le_max_right _ _) hf) he
  ·exact (Tr.fail_some he).elim
 ·intro vs H fr out he x hx
  simp only [CSpec.two] at he ⊢
  split at he
  ·rename_i b _
   rcases Tr.ite_some he with ⟨_, he⟩ | ⟨_, he⟩
   ·rcases hc.2.turns vs H fr out he x hx with h | h
    ·exact .inl h
    ·exact .inr ⟨h.1, Nat.lt_of_lt_of_le h.2 (Nat.add_le_add_left (Nat.le_max_left _ _) _)⟩
   ·rw [hi] at he
    rcases hd.2.turns vs H fr out he x hx with h | h
    ·rw [hw]; exact .inl h
    ·exact .inr ⟨h.1, Nat.lt_of_lt_of_le h.2 (Nat.add_le_add_left (Nat.le_max_right _ _) _)⟩
  ·exact (Tr.fail_some he).elim
def posSel (S : PSpec) (sel : HL S.As → HD S.Es → Bool) (vs : List AV) (es : List Entry) : Option Bool :=
 let le := lendVs S.As vs
 let ids0 := reachE 5 (es.drop le.length) (rootVs S.As vs)
 match convArgs (rnIn S (dedupN ids0) (putE ids0 (es.drop le.length)) (putE le (es.take le.length))) S.As vs with
 | some xs => match decC (rnIn S (dedupN ids0) (putE ids0 (es.drop le.length)) fun _ => .dead) S.Es ((dedupN ids0).map (putE ids0 (es.drop le.length))) with
  | some hs => some (sel xs hs)
  | none => none
 | none => none
end Vse
end
section
set_option linter.unusedVariables false
namespace Vse
open Go Go.ChangeShapes
open Go.RowKit in
theorem law_callsT {H : Type} {enc : TypeId × Value → H} {P : Program} {C : Ctx} {L : Loops} (hC : CtxSound P C ∧ CtxLocal C) (hlaid : laidOutB P = true) {k : Nat} {fn : Func} (hf : P.funcs[k]? = some fn)
  {n : Nat} {As : List Ty} (hside : (fn.body.isSome && (fn.params.toList.all fun t => P.readableRec t && decide (t < P.types.size))) = true) (hl : ∀ b ∈ loopsOf (bodyOf fn), LoopOK P L b) (hAs : argTys P n fn.params.toList = some As)
  {tb : TypeId} (hres : fn.resultTypes = #[tb]) (hbool : P.underlying tb = some .bool)
  {s : ChangeSpec} (hs : s.vars = [] ∧ ∀ ds : List (DataW H), ds.length = fn.params.toList.length → s.fn H ds = { results := [.lit (.bool true)], args := ds })
  (h1 : ∀ xs, HL.wf As xs → HL.sz As xs → nrm (fnK P C L fn (mkArgs As xs) []) = some (.v .bool true))
  {W : World} {base : Nat} {args : Array Value} {ds gs : List (DataW H)} {before : List MemPlace} {apart fresh handsOn again : Bool}
  (hval : ∀ (j : Nat) (t : TypeId) (v : Value), fn.params[j]? = some t → args[j]? = some v → Value.okWide P W .any base t v)
  (hW : DataW.Whole enc P fn.params.toList s.vars apart W args.toList ds gs before)
  (hz : (DataW.weightsEach P (fn.params.toList ++ s.plain.varTypes P) (ds ++ gs)).all (· ≤ reachBytes) = true) :
  Calls P k args W fun e W' => ∃ v, e = .returned v ∧ s.post enc P fn apart fresh handsOn again W args v W' := by
 simp only [Bool.and_eq_true] at hside
 obtain ⟨body, hb⟩ := Option.isSome_iff_exists.1 hside.1
 have hl : LoopsOK P L body := by
  refine loopsOK_all ?_
  unfold bodyOf at hl
  rw [hb] at hl
  exact hl
 exact law_callsZ hC hlaid hf hb hl hAs hside.2 hres hbool hs (fun xs hx hxz => nrmK (h1 xs hx hxz)) hval hW hz
theorem slpE {P : Program} {C : Ctx} {L : Loops} (hC : CtxSound P C ∧ CtxLocal C) {k : Nat} {fn : Func} (hf : P.funcs[k]? = some fn) {As Rs : List Ty} {pre : HL As → Bool} {f : HL As → HL Rs}
  (hside : ((fn.name == "runtime.NumGoroutine") == false && fn.body.isSome && (As.all fun A => A.still false) && stillL Rs) = true)
  (hl : ∀ b ∈ loopsOf (bodyOf fn), LoopOK P L b)
  (h1 : ∀ xs, HL.ok As xs → pre xs = true → nrm (fnS P C L Rs fn (mkArgs As xs)) = some (ofHL Rs (f xs))) :
  CSound P k (CSpec.slp As pre Rs f) ∧ CLocal (CSpec.slp As pre Rs f) := by
 simp only [Bool.and_eq_true, beq_iff_eq] at hside
 obtain ⟨⟨⟨hname, hb⟩, hA⟩, hR⟩ := hside
 obtain ⟨body, hb⟩ := Option.isSome_iff_exists.1 hb
 have hl : LoopsOK P L body := by
  refine loopsOK_all ?_
  unfold bodyOf at hl
  rw [hb] at hl
  exact hl
 refine ⟨⟨fun args w => callFunc_enter hf hname hb args w, ?_⟩, slp_local As pre Rs f⟩
 intro g H w vs rvs fr out hI hargs _ he
 simp only [CSpec.slp] at he
 rw [takeE_takeAs] at he
 split at he
 ·rename_i xs hxs
  obtain ⟨hp, he⟩ := Tr.chk_some he
  have := Tr.ret_some he
  subst this
  have hargs' := takeAs_rep hI hA hargs hxs
  have hx := args_ok hargs'
  obtain ⟨H', h5⟩ := nrm_some (h1 xs hx hp)
  obtain ⟨r, h6, h7⟩ := Tr.bind_some h5
  have h7 := Tr.ret_some h7
  refine (fn_sound hC.1 hC.2 hf hb hl (lend_inv hI) hargs' (fnK_ok h6)).mono ?_
  rintro e w' ⟨rv, g', rfl, hle, hI', hv⟩
  obtain ⟨g1, s1, s2, s3⟩ := sealR_rep Rs (r := r) hI' hv
  rw [h7] at s2 s3
  obtain ⟨g'', q1, q2, q3⟩ := lend_back hI (hle.trans s1) s2
  exact ⟨rv, g'', rfl, q1, q2, still_VRep q3 (ofHL_still hR _) s3⟩
 ·exact (Tr.fail_some he).elim
theorem slpE1 {P : Program} {C : Ctx} {L : Loops} (hC : CtxSound P C ∧ CtxLocal C) {k : Nat} {fn : Func} (hf : P.funcs[k]? = some fn) {As : List Ty} {R : Ty} {pre : HL As → Bool} {f : HL As → R.den}
  (hside : ((fn.name == "runtime.NumGoroutine") == false && fn.body.isSome && (As.all fun A => A.still false) && stillL [R]) = true)
  (hl : ∀ b ∈ loopsOf (bodyOf fn), LoopOK P L b)
  (h1 : ∀ xs, HL.ok As xs → pre xs = true → nrm (fnS P C L [R] fn (mkArgs As xs)) = some (.v R (f xs))) :
  CSound P k (CSpec.slp1 As pre R f) ∧ CLocal (CSpec.slp1 As pre R f) := slpE hC hf hside hl h1
theorem noLoopsL {P : Program} {L : Loops} {fn : Func} (h : loopsOf (bodyOf fn) = []) : ∀ b ∈ loopsOf (bodyOf fn), LoopOK P L b := by rw [h]; intro b hb; cases hb
theorem loops1 {P : Program} {L : Loops} {fn : Func} {b : Code} (h : loopsOf (bodyOf fn) = [b]) (h1 : LoopOK P L b) : ∀ b ∈ loopsOf (bodyOf fn), LoopOK P L b := by
 rw [h]; intro c hc; rw [List.mem_singleton.1 hc]; exact h1
theorem loops2 {P : Program} {L : Loops} {fn : Func} {b c : Code} (h : loopsOf (bodyOf fn) = [b, c]) (h1 : LoopOK P L b) (h2 : LoopOK P L c) : ∀ b ∈ loopsOf (bodyOf fn), LoopOK P L b := by
 rw [h]; intro d hd
 simp only [List.mem_cons, List.not_mem_nil, or_false] at hd
 rcases hd with rfl | rfl
 ·exact h1
 ·exact h2
theorem chk_eval {α : Type} {b : Bool} (h : b = true) (t : Tr α) : (Tr.chk b t).eval = t.eval := by rw [h]; rfl
theorem ite_t {α : Type} {b : Bool} (h : b = true) (t e : Tr α) : (Tr.ite b t e).eval = t.eval := by rw [h]; rfl
theorem ite_f {α : Type} {b : Bool} (h : b = false) (t e : Tr α) : (Tr.ite b t e).eval = e.eval := by rw [h]; rfl
end Vse
end
section
set_option linter.unusedVariables false
namespace Vse
open Go Go.ChangeShapes
end Vse
end
section
set_option linter.unusedVariables false
namespace Vse
open Go Go.ChangeShapes
theorem G.leD.trans {g g' g'' : G} (h : g.leD g') (h' : g'.leD g'') : g.leD g'' :=
 ⟨fun b o x => h'.fr b o (h.fr b o x), h'.gr.trans h.gr, h'.ext.trans h.ext, fun e => (h.ent e).trans (h'.ent e)⟩
theorem G.leD.refl (g : G) : g.leD g := (G.le.refl g).d
theorem run_ok {P : Program} {C : Ctx} {L : Loops} (hC : CtxSound P C ∧ CtxLocal C) (c : Code) (hl : LoopsOK P L c) : RunOK P (run P C L c) c :=
 fun hs hm h1 hn => code_sound hC.1 hC.2 c hl hs h1 fun g' a' w' hle hs' => hn g' a' w' hle.d hs' (by rw [hle.ext]; exact hm.mono hle)
def G.lenl (g : G) (l r : Nat) (o : Loop) : G := { g with
 gr := fun b => if b = l then some (.loop o) else if b = r then some (.deferred (some [])) else g.gr b }
structure Going (g0 g : G) (H : Heap) (w : World) (l r : Nat) (o : Loop) : Prop where
 le : g0.leD g
 ds : g.ext.2 = []
 inv : HInv (g.lenl l r o) H w
 new : g0.gr l = none ∧ g0.gr r = none ∧ l ≠ r
theorem Going.c {g0 g : G} {H : Heap} {w : World} {l r : Nat} {o : Loop} (h : Going g0 g H w l r o) : g.leC (g.lenl l r o) := by
 obtain ⟨n1, n2, _⟩ := h.new
 refine ⟨fun b _ _ _ hb => hb, fun b cs t fz hb => ?_, fun e => .same rfl rfl rfl⟩
 have hg : g0.gr b = some (.cells cs t fz) := by rw [← h.le.gr]; exact hb
 have h1 : b ≠ l := by rintro rfl; rw [n1] at hg; cases hg
 have h2 : b ≠ r := by rintro rfl; rw [n2] at hg; cases hg
 simp only [G.lenl, if_neg h1, if_neg h2]
 exact hb
theorem lenl_c (g : G) (l r : Nat) (o : Loop) : (g.lenl l r o).leC g := by
 refine ⟨fun b _ _ _ hb => hb, fun b cs t fz hb => ?_, fun e => .same rfl rfl rfl⟩
 simp only [G.lenl] at hb
 split at hb
 ·cases hb
 ·split at hb
  ·cases hb
  ·exact hb
theorem EnvRep.c {g g' : G} (h : g.leC g') {env : List AV} {a : Act} (hr : EnvRep g env a) : EnvRep g' env a := ⟨hr.1, fun i => VRep_monoC h (hr.2 i)⟩
theorem Going.piece {P : Program} {C : Ctx} {L : Loops} {rd : Option Nat} (hC : CtxSound P C ∧ CtxLocal C) {c : Code} (hl : LoopsOK P L c) {g0 g : G} {env : List AV} {H : Heap} {w : World} {l r : Nat} {o : Loop} {a : Act} {x : Ex} {st' : St} {Q : Exit → Act → World → Prop}
  (h : Going g0 g H w l r o) (he : EnvRep g env a) (hd : a.defers = []) (hrun : (run P C L c ⟨env, H⟩).eval = some (x, st'))
  (hn : ∀ g' a' w', Going g0 g' st'.heap w' l r o → g.leD g' → EnvRep g' st'.env a' → a'.defers = [] → Q x.out a' w') : c.wpIn (FW rd) 0 P Q a w := by
 refine code_sound hC.1 hC.2 c hl (g := g.lenl l r o) ⟨he.c h.c, h.inv, by show a.defers = g.ext.2; rw [hd, h.ds]⟩ hrun ?_
 intro g2 a' w' hle hs
 have hgr : g2.gr = (g.lenl l r o).gr := hle.gr
 have hext : g2.ext = g.ext := hle.ext
 let g' : G := { g2 with gr := g.gr }
 have hg' : g'.lenl l r o = g2 := by
  cases g2
  simp only [G.lenl, g'] at hgr ⊢
  simp only [hgr]
 have hD : g.leD g' := ⟨hle.fr, rfl, by show g2.ext.1 = g.ext.1; rw [hext], fun e => by
  cases hle.ent e with
  | same a b c => exact .same a b c
  | dead a => exact .dead a
  | grew a b c => exact .grew a b c
  | new a => exact .new a⟩
 refine hn g' a' w' ⟨h.le.trans hD, by show g2.ext.2 = []; rw [hext]; exact h.ds, by rw [hg']; exact hs.heap, h.new⟩ hD ?_ ?_
 ·have := lenl_c g' l r o
  rw [hg'] at this
  exact hs.env.c this
 ·rw [hs.defers, hext]; exact h.ds
theorem Going.put {g0 g : G} {H : Heap} {w : World} {l r : Nat} {o : Loop} (h : Going g0 g H w l r o) (o' : Loop) : Going g0 g H (w.putObj l (.loop o')) l r o' := by
 have hl : w.heap[l]? = some (.loop o) := h.inv.gr l _ (by simp [G.lenl])
 have hlt : l < w.heap.size := (Array.getElem?_eq_some_iff.1 hl).1
 have hother : ∀ b, b ≠ l → (w.putObj l (.loop o')).heap[b]? = w.heap[b]? := fun b hb => World.putObj_heap_other hb
 have hc : (g.lenl l r o).leC (g.lenl l r o') := by
  refine ⟨fun b _ _ _ hb => hb, fun b cs t fz hb => ?_, fun e => .same rfl rfl rfl⟩
  simp only [G.lenl] at hb ⊢
  split at hb
  ·cases hb
  ·rename_i hn; rw [if_neg hn]; exact hb
 refine ⟨h.le, h.ds, ⟨h.inv.sh, fun b ob hb => ?_, fun b ob hb => ?_, fun e => ?_, fun e b hlv hb => ?_, fun b o1 o2 hb hb' => ?_, h.inv.dis, h.inv.ext⟩, h.new⟩
 ·have hne : b ≠ l := by
   rintro rfl
   exact h.inv.sep _ _ _ hb (by simp [G.lenl] : (g.lenl b r o).gr b = some (.loop o))
  rw [hother b hne]
  exact h.inv.fr b ob hb
 ·simp only [G.lenl] at hb
  by_cases hbl : b = l
  ·rw [if_pos hbl] at hb
   subst hbl
   cases hb
   exact World.putObj_heap_same hlt
  ·rw [hother b hbl]
   refine h.inv.gr b ob ?_
   simp only [G.lenl]
   rw [if_neg hbl] at hb ⊢
   exact hb
 ·have := ERep_monoC hc (e := e) rfl rfl (h.inv.ent e)
  cases hlv : (getE H e).live with
  | false => cases hE : getE H e <;> simp only [hE] at hlv ⊢ <;> first | trivial | cases hlv
  | true =>
   refine ERep_world (fun b hb ob ho => ?_) this
   have h2 := (h.inv.own e b hlv hb).2
   have hne : b ≠ l := by rintro rfl; simp [G.lenl] at h2
   rw [hother b hne]
   exact ho
 ·obtain ⟨h1, h2⟩ := h.inv.own e b hlv hb
  refine ⟨h1, ?_⟩
  have hne : b ≠ l := by rintro rfl; simp [G.lenl] at h2
  simp only [G.lenl] at h2 ⊢
  rw [if_neg hne] at h2 ⊢
  exact h2
 ·by_cases hbl : b = l
  ·subst hbl
   exact h.inv.sep _ _ _ hb (by simp [G.lenl] : (g.lenl b r o).gr b = some (.loop o))
  ·refine h.inv.sep b o1 o2 hb ?_
   simp only [G.lenl] at hb' ⊢
   rw [if_neg hbl] at hb' ⊢
   exact hb'
theorem Going.row {g0 g : G} {H : Heap} {w : World} {l r : Nat} {o : Loop} (h : Going g0 g H w l r o) : w.heap[l]? = some (.loop o) := h.inv.gr l _ (by simp [G.lenl])
theorem Going.round {P : Program} {C : Ctx} {L : Loops} (hC : CtxSound P C ∧ CtxLocal C) {asg body : Code} (hl1 : LoopsOK P L asg) (hl2 : LoopsOK P L body) {g0 g : G} {env : List AV} {H : Heap} {w : World} {l r : Nat} {o : Loop} {f : FuncId} {tmps : Array Value}
  (h : Going g0 g H w l r o) (ho : o.state = .ready) (he : EnvRep g env { tmps := tmps, defers := [] }) {st1 st2 : St} {x : Ex} (h1 : (run P C L asg ⟨env, H⟩).eval = some (.normal, st1)) (h2 : (run P C L body st1).eval = some (x, st2))
  {R : Ending → World → Prop} (hx : x = .normal ∨ ∃ id, x = .exit id)
  (hn : ∀ g' w' a2, g.leD g' → EnvRep g' st2.env a2 → a2.defers = [] → (x = .normal → Going g0 g' st2.heap w' l r { o with state := .ready, pending := none } → R (.returned (.bool true)) w') ∧
   (∀ id, x = .exit id → Going g0 g' st2.heap w' l r { o with state := .done, pending := some (.exit id) } → R (.returned (.bool false)) w')) :
  RoundIn (FW none) 0 P l f tmps asg body w R := by
 refine roundIn_of_wpIn trivial ?_
 refine Going.piece (rd := some l) hC hl1 h he rfl h1 ?_
 intro g1 a1 w1 hg1 hD1 he1 hd1
 simp only [Ex.out, Exit.then]
 refine ⟨_, run_beginRound hg1.row ho, ?_⟩
 refine Going.piece (rd := some l) hC hl2 (hg1.put { o with state := .busy }) he1 hd1 h2 ?_
 intro g2 a2 w2 hg2 hD2 he2 hd2
 rcases hx with rfl | ⟨id, rfl⟩
 ·refine ⟨_, _, run_endRound none hg2.row, ?_⟩
  exact (hn g2 _ a2 (hD1.trans hD2) he2 hd2).1 rfl (hg2.put _)
 ·refine ⟨_, _, run_endRound (some (.exit id)) hg2.row, ?_⟩
  exact (hn g2 _ a2 (hD1.trans hD2) he2 hd2).2 id rfl (hg2.put _)
end Vse
end
section
set_option linter.unusedVariables false
namespace Vse
open Go
theorem ofInt_nat (k m : Nat) : BitVec.ofInt k (m : Int) = BitVec.ofNat k m := by
 apply BitVec.eq_of_toNat_eq
 simp [BitVec.toNat_ofNat]
theorem wrap_nat {k : IntKind} {m : Nat} (h : (m : Int) ≤ k.max) : k.wrap (m : Int) = m := by
 cases k <;> simp [IntKind.wrap, IntKind.max, IntKind.signed, IntKind.bits] at h ⊢ <;> (try split) <;> omega
theorem max_lt {k : IntKind} {m : Nat} (h : (m : Int) ≤ k.max) : m < 2 ^ k.bits := by
 cases k <;> simp [IntKind.max, IntKind.signed, IntKind.bits] at h ⊢ <;> omega
theorem orI_nat {k : IntKind} {m n : Nat} (hm : (m : Int) ≤ k.max) (hn : (n : Int) ≤ k.max) (h : ((m ||| n : Nat) : Int) ≤ k.max) : orI k m n = ((m ||| n : Nat) : Int) := by
 unfold orI
 rw [ofInt_nat, ofInt_nat, BitVec.toNat_or, BitVec.toNat_ofNat, BitVec.toNat_ofNat, Nat.mod_eq_of_lt (max_lt hm), Nat.mod_eq_of_lt (max_lt hn), wrap_nat h]
theorem max_i64 : IntKind.i64.max = 9223372036854775807 := by decide
theorem max_u8 : IntKind.u8.max = 255 := by decide
theorem max_u32 : IntKind.u32.max = 4294967295 := by decide
def IsB (x : Int) : Prop := 0 ≤ x ∧ x < 256
theorem IsB.nat {x : Int} (h : IsB x) : ∃ n : Nat, x = n ∧ n < 256 := ⟨x.toNat, by unfold IsB at h; omega, by unfold IsB at h; omega⟩
end Vse
end
end
section
set_option linter.unusedVariables false
set_option maxRecDepth 100000
namespace Go.Proofs.Ytffdkniccaebmaa.Fld
open Go Vse Go.Proofs
abbrev i64 : Ty := .int .i64
abbrev u8 : Ty := .int .u8
abbrev bs : Ty := .imm false false u8
abbrev bt : Ty := .imm true false u8
abbrev w (x : Int) : Int := IntKind.i64.wrap x
abbrev wb (x : Int) : Int := IntKind.u8.wrap x
abbrev wu (x : Int) : Int := IntKind.u64.wrap x
theorem w_id {x : Int} (h : -9223372036854775808 ≤ x) (h' : x ≤ 9223372036854775807) : w x = x := by
 simp [IntKind.wrap, IntKind.signed, IntKind.bits]
 split <;> omega
theorem nil_sound : CtxSound Try.prog (ctx []) ∧ CtxLocal (ctx []) := ctx_sound trivial
def S19 : LSpec := ⟨[0, 1, 5], [4], 26, [bs, bs, i64], []⟩
noncomputable def b19 : Code := loopAt Try.f35 0
def G19 (xs : HL S19.Ts) (hs : HD S19.Es) : Tr S19.End :=
 let a := xs.1
 let b := xs.2.1
 let i := xs.2.2.1
 .ite (decide (i < (a.length : Int))) (.chk (inArr i a.length) (.chk (inArr i b.length) (.ite (a.getD i.toNat 0 != b.getD i.toNat 0)
  (.ret (.inr (.ret, encS [4] [.bool] [] 26 (false, ()) ()))) (.ret (.inl ((a, b, w (i + 1), ()), ()))))))
  (.ret (.inr (.exit 0, encS [] [] [] 26 () ())))
theorem r19 (a b : List Int) (i : Int) : (S19.round (bodyK Try.prog (ctx []) L0 b19) (a, b, i, ()) ()).eval = (G19 (a, b, i, ()) ()).eval := by kernel_rfl
def F19 (xs : HL S19.Ts) (hs : HD S19.Es) : Tr (Ex × St) :=
 .chk (decide (xs.2.2.1 = (0 : Int)) && (decide (xs.1.length = xs.2.1.length) && decide (xs.1.length ≤ 9223372036854775807)))
  (.ite (decide (xs.1 = xs.2.1)) (.ret (.exit 0, encS [] [] [] 26 () ())) (.ret (.ret, encS [4] [.bool] [] 26 (false, ()) ())))
def L19 : Loops := fun j st => if j = 4 then S19.fn F19 st else .fail
theorem k19 (a b : List Int) (hab : a.length = b.length) (hm : a.length ≤ 9223372036854775807) : ∀ (m k : Nat), k + m = a.length → S19.many (bodyK Try.prog (ctx []) L0 b19) (m + 1) (a, b, (k : Int), ()) () =
  if a.drop k = b.drop k then some (.exit 0, encS [] [] [] 26 () ()) else some (.ret, encS [4] [.bool] [] 26 (false, ()) ())
 | 0, k, h => by
  have e1 : a.drop k = [] := List.drop_eq_nil_of_le (by omega)
  have e2 : b.drop k = [] := List.drop_eq_nil_of_le (by omega)
  rw [e1, e2, if_pos rfl]
  refine many_inr ((r19 a b k).trans ?_) 0
  simp only [G19, Tr.eval, decide_eq_false (show ¬ ((k : Int) < (a.length : Int)) by omega)]
 | m + 1, k, h => by
  have h1 : k < a.length := by omega
  have h2 : k < b.length := by omega
  have i1 : inArr (k : Int) a.length = true := by simp [inArr]; omega
  have i2 : inArr (k : Int) b.length = true := by simp [inArr]; omega
  have g1 : a.getD k 0 = a[k] := by rw [List.getD_eq_getElem?_getD, List.getElem?_eq_getElem h1]; rfl
  have g2 : b.getD k 0 = b[k] := by rw [List.getD_eq_getElem?_getD, List.getElem?_eq_getElem h2]; rfl
  have hiff : a.drop k = b.drop k ↔ a[k] = b[k] ∧ a.drop (k + 1) = b.drop (k + 1) := by
   rw [List.drop_eq_getElem_cons h1, List.drop_eq_getElem_cons h2, List.cons.injEq]
  by_cases hk : a[k] = b[k]
  ·refine (many_inl (d := ((a, b, ((k + 1 : Nat) : Int), ()), ())) ((r19 a b k).trans ?_) (m + 1)).trans ((k19 a b hab hm m (k + 1) (by omega)).trans ?_)
   ·simp only [G19, Tr.eval, Tr.chk, decide_eq_true (show ((k : Int) < (a.length : Int)) by omega), i1, i2, Int.toNat_natCast, g1, g2, hk, bne_self_eq_false]
    rw [w_id (by omega) (by omega)]; rfl
   ·by_cases hd : a.drop (k + 1) = b.drop (k + 1)
    ·rw [if_pos hd, if_pos (hiff.2 ⟨hk, hd⟩)]
    ·rw [if_neg hd, if_neg fun h => hd (hiff.1 h).2]
  ·rw [if_neg fun h => hk (hiff.1 h).1]
   refine many_inr ((r19 a b k).trans ?_) (m + 1)
   have : (a[k] != b[k]) = true := by simp [hk]
   simp only [G19, Tr.eval, Tr.chk, decide_eq_true (show ((k : Int) < (a.length : Int)) by omega), i1, i2, Int.toNat_natCast, g1, g2, this]
theorem l19 : LoopOK Try.prog L19 b19 :=
 loop_ok (L := L19) (L' := L0) nil_sound (loopsOK_of (by kernel_rfl)) S19 (by kernel_rfl) (F := F19) (i := 4) (by kernel_rfl) (fun _ => rfl) fun xs hs r h => by
  obtain ⟨a, b, i, u⟩ := xs
  obtain ⟨h1, h2⟩ := Tr.chk_some h
  simp only [Bool.and_eq_true, decide_eq_true_eq] at h1
  obtain ⟨e1, e2, e3⟩ := h1
  have e1 : i = ((0 : Nat) : Int) := e1
  subst e1
  refine ⟨_, (k19 a b e2 e3 a.length 0 (by omega)).trans ?_⟩
  simp only [List.drop_zero]
  rcases Tr.ite_some h2 with ⟨hd, h2⟩ | ⟨hd, h2⟩
  ·rw [if_pos (of_decide_eq_true hd), Tr.ret_some h2]
  ·rw [if_neg (of_decide_eq_false hd), Tr.ret_some h2]
def sameI (a b : List Int) : Bool := decide (a = b)
def s19 : CSpec := .sl1 [bs, bs] .bool fun x => sameI x.1 x.2.1
theorem r19f (a b : List Int) : (fnS Try.prog (ctx []) L19 [.bool] Try.f35 (mkArgs [bs, bs] (a, b, ()))).fold1 .bool =
  bif ((a.length : Int) != (b.length : Int)) then false else (bif decide (a = b) then true else false) := by kernel_rfl
theorem f19f (a b : List Int) : (fnS Try.prog (ctx []) L19 [.bool] Try.f35 (mkArgs [bs, bs] (a, b, ()))).fine [.bool] =
  ((decide (a.length = b.length) && decide (a.length ≤ 9223372036854775807)) || ((a.length : Int) != (b.length : Int))) := by kernel_rfl
theorem ok19 : CSound Try.prog 35 s19 ∧ CLocal s19 :=
 sl_ok1 (L := L19) nil_sound Try.func35 (by kernel_rfl) (fun b hb => by
  have : loopsOf (bodyOf Try.f35) = [b19] := by kernel_rfl
  rw [this] at hb
  rw [List.mem_singleton.1 hb]
  exact l19) (fun xs hx => by
   obtain ⟨a, b, u⟩ := xs
   have hl : List.length (α := Int) a ≤ 9223372036854775807 := hx.1.1
   refine (f19f a b).trans ?_
   by_cases h : List.length (α := Int) a = List.length (α := Int) b
   ·simp [h] at hl ⊢; omega
   ·simp; omega) (fun xs hx => by
   obtain ⟨a, b, u⟩ := xs
   refine (r19f a b).trans ?_
   show _ = decide (a = b)
   by_cases h : List.length (α := Int) a = List.length (α := Int) b
   ·have : ((List.length (α := Int) a : Int) != (List.length (α := Int) b : Int)) = false := by simp [h]
    rw [this]
    cases decide (a = b) <;> rfl
   ·have : ((List.length (α := Int) a : Int) != (List.length (α := Int) b : Int)) = true := by simp; omega
    rw [this]
    have hne : decide (a = b) = false := decide_eq_false (by rintro rfl; exact h rfl)
    rw [hne]; rfl)
def s58 : CSpec := .slp1 [.imm false true u8] (fun x => decide (List.length (α := Int) x.1 ≤ 140737488355328)) bt fun x => x.1
theorem f58 (a : List Int) : (fnS Try.prog (ctx []) L0 [bt] Try.f86 (mkArgs [.imm false true u8] (a, ()))).fine [bt] = (room (([] : List Int).length + a.length) 1 || false) := by kernel_rfl
theorem r58 (a : List Int) : (fnS Try.prog (ctx []) L0 [bt] Try.f86 (mkArgs [.imm false true u8] (a, ()))).fold1 bt = a := by kernel_rfl
theorem ok58 : CSound Try.prog 86 s58 ∧ CLocal s58 :=
 slp_ok1 (L := L0) nil_sound Try.func86 (by kernel_rfl) (fun b hb => by
  have : loopsOf (bodyOf Try.f86) = [] := by kernel_rfl
  rw [this] at hb; cases hb) (fun xs hx hp => by
   refine (f58 xs.1).trans ?_
   have hp := of_decide_eq_true hp
   simp only [room, Bool.or_false, decide_eq_true_eq, List.length_nil]
   omega) (fun xs hx hp => r58 xs.1)
end Go.Proofs.Ytffdkniccaebmaa.Fld
end
section
set_option linter.unusedVariables false
set_option maxRecDepth 100000
namespace Go.Proofs.Ytffdkniccaebmaa.Fld
open Go Vse Go.Proofs
abbrev t16 : Ty := .arr 16 u8
theorem len8 {l : List Int} (h : l.length = 8) : ∃ x0 x1 x2 x3 x4 x5 x6 x7, l = [x0, x1, x2, x3, x4, x5, x6, x7] := by
 match l, h with
 | [x0, x1, x2, x3, x4, x5, x6, x7], _ => exact ⟨_, _, _, _, _, _, _, _, rfl⟩
theorem len16 {l : List Int} (h : l.length = 16) : ∃ x0 x1 x2 x3 x4 x5 x6 x7 x8 x9 xa xb xc xd xe xf, l = [x0, x1, x2, x3, x4, x5, x6, x7, x8, x9, xa, xb, xc, xd, xe, xf] := by
 match l, h with
 | [x0, x1, x2, x3, x4, x5, x6, x7, x8, x9, xa, xb, xc, xd, xe, xf], _ => exact ⟨_, _, _, _, _, _, _, _, _, _, _, _, _, _, _, _, rfl⟩
def S29 : LSpec := ⟨[4, 10, 11, 12], [4], 23, [i64, bs, i64, i64], []⟩
noncomputable def b29 : Code := loopAt Try.f82 0
def take1 (a : List Int) : Int := a.foldl (fun v c => orI .i64 (shlI .i64 v 8) (w c)) 0
def F29 (xs : HL S29.Ts) (hs : HD S29.Es) : Tr (Ex × St) :=
 .chk (decide (xs.1 = (0 : Int)) && (decide (List.length (α := Int) xs.2.1 = 8) && (decide (xs.2.2.1 = (8 : Int)) && decide (xs.2.2.2.1 = (0 : Int))))) (.ret (.exit 0, encS [4] [i64] [] 23 (take1 xs.2.1, ()) ()))
def L29 : Loops := fun j st => if j = 5 then S29.fn F29 st else .fail
theorem k29 (x0 x1 x2 x3 x4 x5 x6 x7 : Int) : S29.many (bodyK Try.prog (ctx []) L0 b29) 9 ((0 : Int), [x0, x1, x2, x3, x4, x5, x6, x7], (8 : Int), (0 : Int), ()) () =
  some (.exit 0, encS [4] [i64] [] 23 (take1 [x0, x1, x2, x3, x4, x5, x6, x7], ()) ()) := by kernel_rfl
theorem l29 : LoopOK Try.prog L29 b29 :=
 loop_ok (L := L29) (L' := L0) nil_sound (loopsOK_of (by kernel_rfl)) S29 (by kernel_rfl) (F := F29) (i := 5) (by kernel_rfl) (fun _ => rfl) fun xs hs r h => by
  obtain ⟨n, a, m, i, u⟩ := xs
  obtain ⟨h1, h2⟩ := Tr.chk_some h
  have := Tr.ret_some h2
  simp only [Bool.and_eq_true, decide_eq_true_eq] at h1
  obtain ⟨e1, e2, e3, e4⟩ := h1
  have e1 : n = (0 : Int) := e1
  have e3 : m = (8 : Int) := e3
  have e4 : i = (0 : Int) := e4
  subst e1; subst e3; subst e4
  obtain ⟨x0, x1, x2, x3, x4, x5, x6, x7, rfl⟩ := len8 e2
  exact ⟨9, (k29 ..).trans (congrArg some this)⟩
def s29 : CSpec := .sl [bs] [i64, i64] fun x => bif decide (List.length (α := Int) x.1 = 8) then (take1 x.1, 0, ()) else (0, 3, ())
theorem r29 (a : List Int) : (fnS Try.prog (ctx []) L29 [i64, i64] Try.f82 (mkArgs [bs] (a, ()))).fold [i64, i64] = bif ((a.length : Int) != 8) then (0, 3, ()) else (take1 a, 0, ()) := by kernel_rfl
theorem f29 (a : List Int) : (fnS Try.prog (ctx []) L29 [i64, i64] Try.f82 (mkArgs [bs] (a, ()))).fine [i64, i64] =
 ((decide (a.length = 8) && (decide ((a.length : Int) = 8) && true)) || ((a.length : Int) != 8)) := by kernel_rfl
theorem ne8 (a : List Int) (k : Nat) : ((a.length : Int) != (k : Int)) = !decide (a.length = k) := by
 by_cases h : a.length = k
 ·simp [h]
 ·simp only [h, decide_false, Bool.not_false, bne_iff_ne, ne_eq]; omega
theorem ok29 : CSound Try.prog 82 s29 ∧ CLocal s29 :=
 sl_ok (L := L29) nil_sound Try.func82 (by kernel_rfl) (fun b hb => by
  have : loopsOf (bodyOf Try.f82) = [b29] := by kernel_rfl
  rw [this] at hb
  rw [List.mem_singleton.1 hb]
  exact l29) (fun xs hx => by
   refine (f29 xs.1).trans ?_
   rw [show (8 : Int) = ((8 : Nat) : Int) from rfl, ne8]
   by_cases h : List.length (α := Int) xs.1 = 8 <;> simp [h]) (fun xs hx => by
   refine (r29 xs.1).trans ?_
   rw [show (8 : Int) = ((8 : Nat) : Int) from rfl, ne8]
   show _ = bif decide (List.length (α := Int) xs.1 = 8) then (take1 xs.1, (0 : Int), ()) else ((0 : Int), (3 : Int), ())
   cases decide (List.length (α := Int) xs.1 = 8) <;> rfl)
abbrev u64 : Ty := .int .u64
def S30 : LSpec := ⟨[0, 4, 5], [4], 23, [bs, u64, i64], []⟩
noncomputable def b30 : Code := loopAt Try.f97 0
def take2 (a : List Int) : Int := a.foldl (fun v c => wu (wu (256 * v) + wu c)) 0
def F30 (xs : HL S30.Ts) (hs : HD S30.Es) : Tr (Ex × St) :=
 .chk (decide (List.length (α := Int) xs.1 = 8) && (decide (xs.2.1 = (0 : Int)) && decide (xs.2.2.1 = (0 : Int)))) (.ret (.exit 0, encS [4] [u64] [] 23 (take2 xs.1, ()) ()))
def L30 : Loops := fun j st => if j = 5 then S30.fn F30 st else .fail
theorem k30 (x0 x1 x2 x3 x4 x5 x6 x7 : Int) : S30.many (bodyK Try.prog (ctx []) L0 b30) 9 ([x0, x1, x2, x3, x4, x5, x6, x7], (0 : Int), (0 : Int), ()) () =
  some (.exit 0, encS [4] [u64] [] 23 (take2 [x0, x1, x2, x3, x4, x5, x6, x7], ()) ()) := by kernel_rfl
theorem l30 : LoopOK Try.prog L30 b30 :=
 loop_ok (L := L30) (L' := L0) nil_sound (loopsOK_of (by kernel_rfl)) S30 (by kernel_rfl) (F := F30) (i := 5) (by kernel_rfl) (fun _ => rfl) fun xs hs r h => by
  obtain ⟨a, n, i, u⟩ := xs
  obtain ⟨h1, h2⟩ := Tr.chk_some h
  have := Tr.ret_some h2
  simp only [Bool.and_eq_true, decide_eq_true_eq] at h1
  obtain ⟨e2, e1, e4⟩ := h1
  have e1 : n = (0 : Int) := e1
  have e4 : i = (0 : Int) := e4
  subst e1; subst e4
  obtain ⟨x0, x1, x2, x3, x4, x5, x6, x7, rfl⟩ := len8 e2
  exact ⟨9, (k30 ..).trans (congrArg some this)⟩
def s30 : CSpec := .sl [bs] [i64, i64] fun x => bif decide (List.length (α := Int) x.1 = 8) then (w (take2 x.1), 0, ()) else (0, 3, ())
theorem r30 (a : List Int) : (fnS Try.prog (ctx []) L30 [i64, i64] Try.f97 (mkArgs [bs] (a, ()))).fold [i64, i64] = bif ((a.length : Int) != 8) then (0, 3, ()) else (w (take2 a), 0, ()) := by kernel_rfl
theorem f30 (a : List Int) : (fnS Try.prog (ctx []) L30 [i64, i64] Try.f97 (mkArgs [bs] (a, ()))).fine [i64, i64] = ((decide (a.length = 8) && true) || ((a.length : Int) != 8)) := by kernel_rfl
theorem ok30 : CSound Try.prog 97 s30 ∧ CLocal s30 :=
 sl_ok (L := L30) nil_sound Try.func97 (by kernel_rfl) (fun b hb => by
  have : loopsOf (bodyOf Try.f97) = [b30] := by kernel_rfl
  rw [this] at hb
  rw [List.mem_singleton.1 hb]
  exact l30) (fun xs hx => by
   refine (f30 xs.1).trans ?_
   rw [show (8 : Int) = ((8 : Nat) : Int) from rfl, ne8]
   by_cases h : List.length (α := Int) xs.1 = 8 <;> simp [h]) (fun xs hx => by
   refine (r30 xs.1).trans ?_
   rw [show (8 : Int) = ((8 : Nat) : Int) from rfl, ne8]
   show _ = bif decide (List.length (α := Int) xs.1 = 8) then (w (take2 xs.1), (0 : Int), ()) else ((0 : Int), (3 : Int), ())
   cases decide (List.length (α := Int) xs.1 = 8) <;> rfl)
def z16 : List Int := List.replicate 16 0
def wordI (a : List Int) : HL [t16, i64] := bif decide (a.length = 16) then (a, 0, ()) else (z16, 3, ())
def s31 : CSpec := .sl [bs] [t16, i64] fun x => wordI x.1
theorem r31 (a : List Int) : (fnS Try.prog (ctx []) L0 [t16, i64] Try.f84 (mkArgs [bs] (a, ()))).fold [t16, i64] = bif ((a.length : Int) != 16) then (z16, 3, ()) else (a.take 16, 0, ()) := by kernel_rfl
theorem f31 (a : List Int) : (fnS Try.prog (ctx []) L0 [t16, i64] Try.f84 (mkArgs [bs] (a, ()))).fine [t16, i64] = (decide (16 ≤ a.length) || ((a.length : Int) != 16)) := by kernel_rfl
theorem ok31 : CSound Try.prog 84 s31 ∧ CLocal s31 :=
 sl_ok (L := L0) nil_sound Try.func84 (by kernel_rfl) (fun b hb => by
  have : loopsOf (bodyOf Try.f84) = [] := by kernel_rfl
  rw [this] at hb; cases hb) (fun xs hx => by
   refine (f31 xs.1).trans ?_
   rw [show (16 : Int) = ((16 : Nat) : Int) from rfl, ne8]
   by_cases h : List.length (α := Int) xs.1 = 16 <;> simp [h]) (fun xs hx => by
   refine (r31 xs.1).trans ?_
   rw [show (16 : Int) = ((16 : Nat) : Int) from rfl, ne8]
   show _ = wordI xs.1
   unfold wordI
   by_cases h : List.length (α := Int) xs.1 = 16
   ·have : List.take (α := Int) 16 xs.1 = xs.1 := List.take_of_length_le (by omega)
    rw [decide_eq_true h, this]; rfl
   ·rw [decide_eq_false h]; rfl)
abbrev pt (e : Nat) : Ty := .ptr e []
def S32 : LSpec := ⟨[0, 2, 4, 5], [2, 4], 22, [bs, pt 0, pt 1, i64], [.box t16, .box t16]⟩
noncomputable def b32 : Code := loopAt Try.f96 0
def F32 (xs : HL S32.Ts) (hs : HD S32.Es) : Tr (Ex × St) :=
 .chk (decide (List.length (α := Int) xs.1 = 16) && (decide (xs.2.2.2.1 = (0 : Int)) && decide (List.length (α := Int) hs.2.1 = 16))) (.ret (.exit 0, encS [2, 4] [pt 0, pt 1] S32.Es 22 ((), (), ()) (hs.1, xs.1, ())))
def L32 : Loops := fun j st => if j = 5 then S32.fn F32 st else .fail
theorem k32 (r : List Int) (x0 x1 x2 x3 x4 x5 x6 x7 x8 x9 xa xb xc xd xe xf y0 y1 y2 y3 y4 y5 y6 y7 y8 y9 ya yb yc yd ye yf : Int) :
  S32.many (bodyK Try.prog (ctx []) L0 b32) 17 ([x0, x1, x2, x3, x4, x5, x6, x7, x8, x9, xa, xb, xc, xd, xe, xf], (), (), (0 : Int), ()) (r, [y0, y1, y2, y3, y4, y5, y6, y7, y8, y9, ya, yb, yc, yd, ye, yf], ()) =
  some (.exit 0, encS [2, 4] [pt 0, pt 1] S32.Es 22 ((), (), ()) (r, [x0, x1, x2, x3, x4, x5, x6, x7, x8, x9, xa, xb, xc, xd, xe, xf], ())) := by kernel_rfl
theorem l32 : LoopOK Try.prog L32 b32 :=
 loop_ok (L := L32) (L' := L0) nil_sound (loopsOK_of (by kernel_rfl)) S32 (by kernel_rfl) (F := F32) (i := 5) (by kernel_rfl) (fun _ => rfl) fun xs hs r h => by
  obtain ⟨a, u1, u2, i, u⟩ := xs
  obtain ⟨r0, o, u3⟩ := hs
  obtain ⟨h1, h2⟩ := Tr.chk_some h
  have := Tr.ret_some h2
  simp only [Bool.and_eq_true, decide_eq_true_eq] at h1
  obtain ⟨e2, e4, e5⟩ := h1
  have e4 : i = (0 : Int) := e4
  subst e4
  obtain ⟨x0, x1, x2, x3, x4, x5, x6, x7, x8, x9, xa, xb, xc, xd, xe, xf, rfl⟩ := len16 e2
  obtain ⟨y0, y1, y2, y3, y4, y5, y6, y7, y8, y9, ya, yb, yc, yd, ye, yf, rfl⟩ := len16 e5
  exact ⟨17, (k32 ..).trans (congrArg some this)⟩
def s32 : CSpec := .sl [bs] [t16, i64] fun x => wordI x.1
theorem r32 (a : List Int) : (fnS Try.prog (ctx []) L32 [t16, i64] Try.f96 (mkArgs [bs] (a, ()))).fold [t16, i64] = bif ((a.length : Int) != 16) then (z16, 3, ()) else (a, 0, ()) := by kernel_rfl
theorem f32 (a : List Int) : (fnS Try.prog (ctx []) L32 [t16, i64] Try.f96 (mkArgs [bs] (a, ()))).fine [t16, i64] = ((decide (a.length = 16) && true) || ((a.length : Int) != 16)) := by kernel_rfl
theorem ok32 : CSound Try.prog 96 s32 ∧ CLocal s32 :=
 sl_ok (L := L32) nil_sound Try.func96 (by kernel_rfl) (fun b hb => by
  have : loopsOf (bodyOf Try.f96) = [b32] := by kernel_rfl
  rw [this] at hb
  rw [List.mem_singleton.1 hb]
  exact l32) (fun xs hx => by
   refine (f32 xs.1).trans ?_
   rw [show (16 : Int) = ((16 : Nat) : Int) from rfl, ne8]
   by_cases h : List.length (α := Int) xs.1 = 16 <;> simp [h]) (fun xs hx => by
   refine (r32 xs.1).trans ?_
   rw [show (16 : Int) = ((16 : Nat) : Int) from rfl, ne8]
   show _ = wordI xs.1
   unfold wordI
   cases decide (List.length (α := Int) xs.1 = 16) <;> rfl)
def S34 : VSpec := ⟨⟨[0, 3, 4], [3], 18, [i64, .vc 0 1, i64], [.vec 1 u8]⟩, [3]⟩
noncomputable def b34 : Code := loopAt Try.f83 0
def byte1 (n : Int) (k : Int) : Int := wb (shrI .i64 n k)
def num1 (n : Int) : List Int := [byte1 n 56, byte1 n 48, byte1 n 40, byte1 n 32, byte1 n 24, byte1 n 16, byte1 n 8, byte1 n 0]
def F34 (xs : HL S34.Ts) (hs : HD S34.Es) : Tr (Ex × St) :=
 .chk (decide (xs.2.2.1 = (7 : Int)) && decide (List.length (α := Int) hs.1 = 0)) (.ret (.exit 0, encS [3] [.vc 0 1] [.vec 1 u8] 18 ((), ()) (num1 xs.1, ())))
def L34 : Loops := fun j st => if j = 3 then S34.fn F34 st else .fail
theorem k34 (n : Int) : S34.many (bodyK Try.prog (ctx []) L0 b34) 9 (n, (), (7 : Int), ()) (([] : List Int), ()) = some (.exit 0, encS [3] [.vc 0 1] [.vec 1 u8] 18 ((), ()) (num1 n, ())) := by kernel_rfl
end Go.Proofs.Ytffdkniccaebmaa.Fld
end
section
set_option linter.unusedVariables false
set_option maxRecDepth 100000
namespace Go.Proofs.Ytffdkniccaebmaa.Fld
open Go Vse Go.Proofs
theorem l34 : LoopOK Try.prog L34 b34 :=
 vloop_ok (L := L34) (L' := L0) nil_sound (loopsOK_of (by kernel_rfl)) S34 (F := F34) (i := 3) (by kernel_rfl) (fun _ => rfl) fun xs hs r h => by
  obtain ⟨n, u1, i, u⟩ := xs
  obtain ⟨l, u2⟩ := hs
  obtain ⟨h1, h2⟩ := Tr.chk_some h
  have := Tr.ret_some h2
  simp only [Bool.and_eq_true, decide_eq_true_eq] at h1
  obtain ⟨e1, e2⟩ := h1
  have e1 : i = (7 : Int) := e1
  have e2 : l = [] := List.eq_nil_of_length_eq_zero e2
  subst e1; subst e2
  exact ⟨9, (k34 n).trans (congrArg some this)⟩
def s34 : CSpec := .sl1 [i64] bt fun x => num1 x.1
theorem ok34 : CSound Try.prog 83 s34 ∧ CLocal s34 :=
 sl_ok1 (L := L34) nil_sound Try.func83 (by kernel_rfl) (fun b hb => by
  have : loopsOf (bodyOf Try.f83) = [b34] := by kernel_rfl
  rw [this] at hb
  rw [List.mem_singleton.1 hb]
  exact l34) (fun xs hx => by kernel_rfl) (fun xs hx => by kernel_rfl)
def S35 : LSpec := ⟨[3, 4, 5], [4], 22, [u64, .vc 0 0, i64], [.vec 0 u8]⟩
noncomputable def b35 : Code := loopAt Try.f99 0
def dv (u : Int) : Int := wu (u.tdiv 256)
def lo (u : Int) : Int := wb (u.tmod 256)
def num2 (u : Int) : List Int := [lo (dv (dv (dv (dv (dv (dv (dv u))))))), lo (dv (dv (dv (dv (dv (dv u)))))), lo (dv (dv (dv (dv (dv u))))), lo (dv (dv (dv (dv u)))), lo (dv (dv (dv u))), lo (dv (dv u)), lo (dv u), lo u]
def F35 (xs : HL S35.Ts) (hs : HD S35.Es) : Tr (Ex × St) :=
 .chk (decide (xs.2.2.1 = (7 : Int)) && decide (List.length (α := Int) hs.1 = 8)) (.ret (.exit 0, encS [4] [.vc 0 0] [.vec 0 u8] 22 ((), ()) (num2 xs.1, ())))
def L35 : Loops := fun j st => if j = 4 then S35.fn F35 st else .fail
theorem k35 (n y0 y1 y2 y3 y4 y5 y6 y7 : Int) : S35.many (bodyK Try.prog (ctx []) L0 b35) 9 (n, (), (7 : Int), ()) ([y0, y1, y2, y3, y4, y5, y6, y7], ()) = some (.exit 0, encS [4] [.vc 0 0] [.vec 0 u8] 22 ((), ()) (num2 n, ())) := by kernel_rfl
theorem l35 : LoopOK Try.prog L35 b35 :=
 loop_ok (L := L35) (L' := L0) nil_sound (loopsOK_of (by kernel_rfl)) S35 (by kernel_rfl) (F := F35) (i := 4) (by kernel_rfl) (fun _ => rfl) fun xs hs r h => by
  obtain ⟨n, u1, i, u⟩ := xs
  obtain ⟨l, u2⟩ := hs
  obtain ⟨h1, h2⟩ := Tr.chk_some h
  have := Tr.ret_some h2
  simp only [Bool.and_eq_true, decide_eq_true_eq] at h1
  obtain ⟨e1, e2⟩ := h1
  have e1 : i = (7 : Int) := e1
  subst e1
  obtain ⟨x0, x1, x2, x3, x4, x5, x6, x7, rfl⟩ := len8 e2
  exact ⟨9, (k35 ..).trans (congrArg some this)⟩
def s35 : CSpec := .sl1 [i64] bt fun x => num2 (wu x.1)
theorem ok35 : CSound Try.prog 99 s35 ∧ CLocal s35 :=
 sl_ok1 (L := L35) nil_sound Try.func99 (by kernel_rfl) (fun b hb => by
  have : loopsOf (bodyOf Try.f99) = [b35] := by kernel_rfl
  rw [this] at hb
  rw [List.mem_singleton.1 hb]
  exact l35) (fun xs hx => by kernel_rfl) (fun xs hx => by kernel_rfl)
def badC (c : Int) : Bool := bif (bif decide (c < 97) then true else decide (c > 122)) then (bif decide (c < 48) then true else decide (c > 57)) else false
def S36 : LSpec := ⟨[0, 6, 7, 8], [0, 2], 34, [.str, .imm true true u8, i64, i64], []⟩
noncomputable def b36 : Code := loopAt Try.f85 0
def G36 (xs : HL S36.Ts) (hs : HD S36.Es) : Tr S36.End :=
 let a := xs.2.1
 let i := xs.2.2.2.1
 let c := List.getD (α := Int) a i.toNat 0
 let B : Tr S36.End := .ret (.inr (.ret, encS [0, 2] [.str, .bool] [] 34 (xs.1, false, ()) ()))
 let N : Tr S36.End := .ret (.inl ((xs.1, a, xs.2.2.1, w (i + 1), ()), ()))
 let X : Tr S36.End := .ite (decide (c < 48)) B (.ite (decide (c > 57)) B N)
 .ite (decide (i < xs.2.2.1)) (.chk (inArr i (List.length (α := Int) a)) (.ite (decide (c < 97)) X (.ite (decide (c > 122)) X N)))
  (.ret (.inr (.exit 0, encS [0] [.str] [] 34 (xs.1, ()) ())))
theorem r36 (s : ByteArray) (a : List Int) (n i : Int) : (S36.round (bodyK Try.prog (ctx []) L0 b36) (s, a, n, i, ()) ()).eval = (G36 (s, a, n, i, ()) ()).eval := by kernel_rfl
def okN (a : List Int) : Bool := a.all fun c => !badC c
def F36 (xs : HL S36.Ts) (hs : HD S36.Es) : Tr (Ex × St) :=
 .chk (decide (xs.2.2.2.1 = (0 : Int)) && (decide (xs.2.2.1 = (List.length (α := Int) xs.2.1 : Int)) && decide (List.length (α := Int) xs.2.1 ≤ 9223372036854775807)))
  (.ite (okN xs.2.1) (.ret (.exit 0, encS [0] [.str] [] 34 (xs.1, ()) ())) (.ret (.ret, encS [0, 2] [.str, .bool] [] 34 (xs.1, false, ()) ())))
noncomputable def L36 : Loops := fun j st => if j = 2 then S36.fn F36 st else .fail
theorem g36 (s : ByteArray) (a : List Int) (k : Nat) (hk : k < a.length) : (G36 (s, a, (a.length : Int), (k : Int), ()) ()).eval =
  bif badC a[k] then some (.inr (.ret, encS [0, 2] [.str, .bool] [] 34 (s, false, ()) ())) else some (.inl ((s, a, (a.length : Int), w ((k : Int) + 1), ()), ())) := by
 have i1 : inArr (k : Int) (List.length (α := Int) a) = true := by simp [inArr]; omega
 have g1 : List.getD (α := Int) a k 0 = a[k] := by rw [List.getD_eq_getElem?_getD, List.getElem?_eq_getElem hk]; rfl
 simp only [G36, Tr.eval, Tr.chk, decide_eq_true (show ((k : Int) < (a.length : Int)) by omega), i1, Int.toNat_natCast, g1, badC]
 cases decide (a[k] < 97) <;> cases decide (a[k] > 122) <;> cases decide (a[k] < 48) <;> cases decide (a[k] > 57) <;> rfl
theorem k36 (s : ByteArray) (a : List Int) (hm : a.length ≤ 9223372036854775807) : ∀ (m k : Nat), k + m = a.length → S36.many (bodyK Try.prog (ctx []) L0 b36) (m + 1) (s, a, (a.length : Int), (k : Int), ()) () =
  bif okN (a.drop k) then some (.exit 0, encS [0] [.str] [] 34 (s, ()) ()) else some (.ret, encS [0, 2] [.str, .bool] [] 34 (s, false, ()) ())
 | 0, k, h => by
  have e1 : a.drop k = [] := List.drop_eq_nil_of_le (by omega)
  rw [e1]
  refine many_inr ((r36 s a _ k).trans ?_) 0
  simp only [G36, Tr.eval, decide_eq_false (show ¬ ((k : Int) < (a.length : Int)) by omega)]
 | m + 1, k, h => by
  have h1 : k < a.length := by omega
  rw [List.drop_eq_getElem_cons h1]
  simp only [okN, List.all_cons]
  have hg := (r36 s a (a.length : Int) k).trans (g36 s a k h1)
  cases hb : badC a[k] with
  | true =>
   rw [hb] at hg
   exact many_inr hg (m + 1)
  | false =>
   rw [hb] at hg
   refine (many_inl hg (m + 1)).trans ?_
   rw [w_id (by omega) (by omega)]
   have := k36 s a hm m (k + 1) (by omega)
   simpa [okN] using this
theorem l36 : LoopOK Try.prog L36 b36 :=
 loop_ok (L := L36) (L' := L0) nil_sound (loopsOK_of (by kernel_rfl)) S36 (by kernel_rfl) (F := F36) (i := 2) (by kernel_rfl) (fun _ => rfl) fun xs hs r h => by
  obtain ⟨s, a, n, i, u⟩ := xs
  obtain ⟨h1, h2⟩ := Tr.chk_some h
  simp only [Bool.and_eq_true, decide_eq_true_eq] at h1
  obtain ⟨e1, e2, e3⟩ := h1
  have e1 : i = ((0 : Nat) : Int) := e1
  have e2 : n = (List.length (α := Int) a : Int) := e2
  subst e1; subst e2
  refine ⟨_, (k36 s a e3 (List.length (α := Int) a) 0 (by omega)).trans ?_⟩
  simp only [List.drop_zero]
  rcases Tr.ite_some h2 with ⟨hd, h2⟩ | ⟨hd, h2⟩
  ·have hd : okN a = true := hd
   rw [hd, ← Tr.ret_some h2]; rfl
  ·have hd : okN a = false := hd
   rw [hd, ← Tr.ret_some h2]; rfl
def nameI (s : ByteArray) : Bool := okN (strBytes s) && (decide (1 ≤ s.size) && decide (s.size ≤ 20))
def s36 : CSpec := .sl1 [.str] .bool fun x => nameI x.1
theorem r36f (s : ByteArray) : (fnS Try.prog (ctx []) L36 [.bool] Try.f85 (mkArgs [.str] (s, ()))).fold1 .bool =
  bif okN (strBytes s) then (bif (s != ByteArray.empty) then decide ((s.size : Int) ≤ 20) else false) else false := by kernel_rfl
theorem f36f (s : ByteArray) : (fnS Try.prog (ctx []) L36 [.bool] Try.f85 (mkArgs [.str] (s, ()))).fine [.bool] =
  (decide (((strBytes s).length : Int) = ((strBytes s).length : Int)) && decide ((strBytes s).length ≤ 9223372036854775807)) := by kernel_rfl
def S37 : LSpec := ⟨[0, 3], [0, 2], 42, [.str, i64], []⟩
noncomputable def b37 : Code := loopAt Try.f100 0
def G37 (xs : HL S37.Ts) (hs : HD S37.Es) : Tr S37.End :=
 let s : ByteArray := xs.1
 let i := xs.2.1
 let c : Int := ((s.data.getD i.toNat 0).toNat : Int)
 let B : Tr S37.End := .ret (.inr (.ret, encS [0, 2] [.str, .bool] [] 42 (s, false, ()) ()))
 let N : Tr S37.End := .ret (.inl ((s, w (i + 1), ()), ()))
 let D : Tr S37.End := .chk (inArr i s.size) (.ite (decide (c ≥ 48)) (.chk (inArr i s.size) (.ite (!decide (c ≤ 57)) B N)) B)
 .ite (decide (i < (s.size : Int))) (.chk (inArr i s.size) (.ite (decide (c ≥ 97)) (.chk (inArr i s.size) (.ite (!decide (c ≤ 122)) D N)) D))
  (.ret (.inr (.exit 0, encS [0] [.str] [] 42 (s, ()) ())))
theorem r37 (s : ByteArray) (i : Int) : (S37.round (bodyK Try.prog (ctx []) L0 b37) (s, i, ()) ()).eval = (G37 (s, i, ()) ()).eval := by kernel_rfl
end Go.Proofs.Ytffdkniccaebmaa.Fld
end
section
set_option linter.unusedVariables false
set_option maxRecDepth 100000
namespace Go.Proofs.Ytffdkniccaebmaa.Fld
open Go Vse Go.Proofs
theorem strBytes_length (s : ByteArray) : (strBytes s).length = s.size := by simp [strBytes]
theorem strBytes_get (s : ByteArray) {k : Nat} (h : k < s.size) : (strBytes s)[k]'(by rw [strBytes_length]; exact h) = ((s.data.getD k 0).toNat : Int) := by
 have h' : k < s.data.size := h
 simp [strBytes, Array.getD_eq_getD_getElem?, Array.getElem?_eq_getElem h']
theorem name_size (s : ByteArray) : (s != ByteArray.empty) = decide (1 ≤ s.size) := by
 by_cases h : s.size = 0
 ·have : s = ByteArray.empty := by
   apply ByteArray.ext
   exact Array.eq_empty_of_size_eq_zero h
  subst this; rfl
 ·have hne : s ≠ ByteArray.empty := by rintro rfl; exact h rfl
  have h1 : 1 ≤ s.size := by omega
  rw [decide_eq_true h1]
  cases hb : (s != ByteArray.empty) with
  | true => rfl
  | false =>
   exfalso
   have hb : (s == ByteArray.empty) = true := by simpa [bne] using hb
   rw [beq_toListBytes, ByteArray.toList_eq, ByteArray.toList_eq] at hb
   have hb := eq_of_beq hb
   have h2 : s.data.toList.length = 0 := by rw [hb]; rfl
   exact h (by simpa using h2)
theorem ok36 : CSound Try.prog 85 s36 ∧ CLocal s36 :=
 sl_ok1 (L := L36) nil_sound Try.func85 (by kernel_rfl) (fun b hb => by
  have : loopsOf (bodyOf Try.f85) = [b36] := by kernel_rfl
  rw [this] at hb
  rw [List.mem_singleton.1 hb]
  exact l36) (fun xs hx => by
   refine (f36f xs.1).trans ?_
   have h1 : ByteArray.size xs.1 ≤ 9223372036854775807 := hx.1
   have h2 := strBytes_length xs.1
   simp only [decide_true, Bool.true_and, decide_eq_true_eq]
   omega) (fun xs hx => by
   refine (r36f xs.1).trans ?_
   show _ = nameI xs.1
   unfold nameI
   rw [name_size]
   have : decide ((ByteArray.size xs.1 : Int) ≤ 20) = decide (ByteArray.size xs.1 ≤ 20) := decide_eq_decide.2 (by omega)
   rw [this]
   cases okN (strBytes xs.1) <;> cases decide (1 ≤ ByteArray.size xs.1) <;> rfl)
def F37 (xs : HL S37.Ts) (hs : HD S37.Es) : Tr (Ex × St) :=
 .chk (decide (xs.2.1 = (0 : Int)) && decide (ByteArray.size xs.1 ≤ 9223372036854775807))
  (.ite (okN (strBytes xs.1)) (.ret (.exit 0, encS [0] [.str] [] 42 (xs.1, ()) ())) (.ret (.ret, encS [0, 2] [.str, .bool] [] 42 (xs.1, false, ()) ())))
noncomputable def L37 : Loops := fun j st => if j = 2 then S37.fn F37 st else .fail
theorem g37 (s : ByteArray) (k : Nat) (hk : k < s.size) (c : Int) (hc : ((s.data.getD k 0).toNat : Int) = c) : (G37 (s, (k : Int), ()) ()).eval =
  bif badC c then some (.inr (.ret, encS [0, 2] [.str, .bool] [] 42 (s, false, ()) ())) else some (.inl ((s, w ((k : Int) + 1), ()), ())) := by
 have i1 : inArr (k : Int) s.size = true := by simp [inArr]; omega
 simp only [G37, Tr.eval, Tr.chk, decide_eq_true (show ((k : Int) < (s.size : Int)) by omega), i1, Int.toNat_natCast, hc, badC]
 have e1 : decide (c ≥ 97) = !decide (c < 97) := by by_cases h : c < 97 <;> simp [h] <;> omega
 have e2 : decide (c ≤ 122) = !decide (c > 122) := by by_cases h : c > 122 <;> simp [h] <;> omega
 have e3 : decide (c ≥ 48) = !decide (c < 48) := by by_cases h : c < 48 <;> simp [h] <;> omega
 have e4 : decide (c ≤ 57) = !decide (c > 57) := by by_cases h : c > 57 <;> simp [h] <;> omega
 rw [e1, e2, e3, e4]
 cases decide (c < 97) <;> cases decide (c > 122) <;> cases decide (c < 48) <;> cases decide (c > 57) <;> rfl
theorem k37 (s : ByteArray) (hm : s.size ≤ 9223372036854775807) : ∀ (m k : Nat), k + m = s.size → S37.many (bodyK Try.prog (ctx []) L0 b37) (m + 1) (s, (k : Int), ()) () =
  bif okN ((strBytes s).drop k) then some (.exit 0, encS [0] [.str] [] 42 (s, ()) ()) else some (.ret, encS [0, 2] [.str, .bool] [] 42 (s, false, ()) ())
 | 0, k, h => by
  have e1 : (strBytes s).drop k = [] := List.drop_eq_nil_of_le (by rw [strBytes_length]; omega)
  rw [e1]
  refine many_inr ((r37 s k).trans ?_) 0
  simp only [G37, Tr.eval, decide_eq_false (show ¬ ((k : Int) < (s.size : Int)) by omega)]
 | m + 1, k, h => by
  have h1 : k < s.size := by omega
  have h1' : k < (strBytes s).length := by rw [strBytes_length]; exact h1
  rw [List.drop_eq_getElem_cons h1']
  simp only [okN, List.all_cons]
  have hg := (r37 s k).trans (g37 s k h1 _ (strBytes_get s h1).symm)
  cases hb : badC (strBytes s)[k] with
  | true =>
   rw [hb] at hg
   exact many_inr hg (m + 1)
  | false =>
   rw [hb] at hg
   refine (many_inl hg (m + 1)).trans ?_
   rw [w_id (by omega) (by omega)]
   have := k37 s hm m (k + 1) (by omega)
   simpa [okN] using this
theorem l37 : LoopOK Try.prog L37 b37 :=
 loop_ok (L := L37) (L' := L0) nil_sound (loopsOK_of (by kernel_rfl)) S37 (by kernel_rfl) (F := F37) (i := 2) (by kernel_rfl) (fun _ => rfl) fun xs hs r h => by
  obtain ⟨s, i, u⟩ := xs
  obtain ⟨h1, h2⟩ := Tr.chk_some h
  simp only [Bool.and_eq_true, decide_eq_true_eq] at h1
  obtain ⟨e1, e3⟩ := h1
  have e1 : i = ((0 : Nat) : Int) := e1
  subst e1
  refine ⟨_, (k37 s e3 (ByteArray.size s) 0 (by omega)).trans ?_⟩
  simp only [List.drop_zero]
  rcases Tr.ite_some h2 with ⟨hd, h2⟩ | ⟨hd, h2⟩
  ·have hd : okN (strBytes s) = true := hd
   rw [hd, ← Tr.ret_some h2]; rfl
  ·have hd : okN (strBytes s) = false := hd
   rw [hd, ← Tr.ret_some h2]; rfl
def s37 : CSpec := .sl1 [.str] .bool fun x => nameI x.1
theorem r37f (s : ByteArray) : (fnS Try.prog (ctx []) L37 [.bool] Try.f100 (mkArgs [.str] (s, ()))).fold1 .bool =
  bif okN (strBytes s) then (bif decide ((s.size : Int) ≥ 1) then decide ((s.size : Int) ≤ 20) else false) else false := by kernel_rfl
theorem f37f (s : ByteArray) : (fnS Try.prog (ctx []) L37 [.bool] Try.f100 (mkArgs [.str] (s, ()))).fine [.bool] = decide (s.size ≤ 9223372036854775807) := by kernel_rfl
theorem ok37 : CSound Try.prog 100 s37 ∧ CLocal s37 :=
 sl_ok1 (L := L37) nil_sound Try.func100 (by kernel_rfl) (fun b hb => by
  have : loopsOf (bodyOf Try.f100) = [b37] := by kernel_rfl
  rw [this] at hb
  rw [List.mem_singleton.1 hb]
  exact l37) (fun xs hx => by
   refine (f37f xs.1).trans ?_
   exact decide_eq_true hx.1) (fun xs hx => by
   refine (r37f xs.1).trans ?_
   show _ = nameI xs.1
   unfold nameI
   have e1 : decide ((ByteArray.size xs.1 : Int) ≤ 20) = decide (ByteArray.size xs.1 ≤ 20) := decide_eq_decide.2 (by omega)
   have e2 : decide ((ByteArray.size xs.1 : Int) ≥ 1) = decide (1 ≤ ByteArray.size xs.1) := decide_eq_decide.2 (by omega)
   rw [e1, e2]
   cases okN (strBytes xs.1) <;> cases decide (1 ≤ ByteArray.size xs.1) <;> rfl)
abbrev ls : Ty := .imm false false bt
abbrev lt : Ty := .imm true false bt
end Go.Proofs.Ytffdkniccaebmaa.Fld
end
section
set_option linter.unusedVariables false
set_option maxRecDepth 100000
namespace Go.Proofs.Ytffdkniccaebmaa.Fld
open Go Vse Go.Proofs
theorem getD_cons {α : Type} {l : List α} {k : Nat} (h : k < l.length) (d : α) : l.getD k d = l[k] := by rw [List.getD_eq_getElem?_getD, List.getElem?_eq_getElem h]; rfl
end Go.Proofs.Ytffdkniccaebmaa.Fld
end
section
set_option linter.unusedVariables false
set_option maxRecDepth 100000
namespace Go.Proofs.Ytffdkniccaebmaa.Fld
open Go Vse Go.Proofs
def hd1 (p : List Int) : List Int := [wb (shrI .i64 (p.length : Int) 8), wb (p.length : Int)]
def hd2 (p : List Int) : List Int := [wb (w ((p.length : Int).tdiv 256)), wb ((p.length : Int).tmod 256)]
def putG (hd : List Int → List Int) : List (List Int) → List Int → Bool × List Int
 | [], o => (true, o)
 | p :: r, o => bif decide ((p.length : Int) > 500) then (false, o) else putG hd r (o ++ hd p ++ p)
def S25 : VSpec := ⟨⟨[4, 10, 11, 12], [2, 3, 4], 33, [.vc 0 1, ls, i64, i64], [.vec 1 u8]⟩, [4]⟩
noncomputable def b25 : Code := loopAt Try.f37 0
def out25 (o : List Int) : Ex × St := (.exit 0, encS [4] [.vc 0 1] [.vec 1 u8] 33 ((), ()) (o, ()))
def ret25 (o : List Int) : Ex × St := (.ret, encS [2, 3, 4] [.nils, i64, .vc 0 1] [.vec 1 u8] 33 ((), (7 : Int), (), ()) (o, ()))
def G25 (xs : HL S25.Ts) (hs : HD S25.Es) : Tr S25.toLSpec.End :=
 let l : List (List Int) := xs.2.1
 let n := xs.2.2.1
 let i := xs.2.2.2.1
 let o : List Int := hs.1
 let p : List Int := l.getD i.toNat []
 .ite (decide (i < n)) (.chk (inArr i l.length) (.ite (decide ((p.length : Int) > 500)) (.ret (.inr (ret25 o)))
  (.chk (room (o.length + 2) 1) (.chk (room ((o ++ hd1 p).length + p.length) 1) (.ret (.inl (((), l, n, w (i + 1), ()), ((o ++ hd1 p) ++ p, ()))))))))
  (.ret (.inr (out25 o)))
theorem r25 (l : List (List Int)) (n i : Int) (o : List Int) : (S25.round (bodyK Try.prog (ctx []) L0 b25) ((), l, n, i, ()) (o, ())).eval = (G25 ((), l, n, i, ()) (o, ())).eval := by kernel_rfl
def end25 (r : Bool × List Int) : Ex × St := bif r.1 then out25 r.2 else ret25 r.2
theorem k25 (l : List (List Int)) (hl : l.length ≤ 20) : ∀ (m k : Nat) (o : List Int), k + m = l.length → o.length ≤ 502 * k →
  S25.many (bodyK Try.prog (ctx []) L0 b25) (m + 1) ((), l, (l.length : Int), (k : Int), ()) (o, ()) = some (end25 (putG hd1 (l.drop k) o))
 | 0, k, o, h, ho => by
  have e1 : l.drop k = [] := List.drop_eq_nil_of_le (by omega)
  rw [e1]
  refine vmany_inr ((r25 l _ k o).trans ?_) 0
  simp only [G25, Tr.eval, decide_eq_false (show ¬ ((k : Int) < (l.length : Int)) by omega)]
  rfl
 | m + 1, k, o, h, ho => by
  have h1 : k < l.length := by omega
  rw [List.drop_eq_getElem_cons h1]
  have i1 : inArr (k : Int) l.length = true := by simp [inArr]; omega
  have g1 : l.getD k [] = l[k] := getD_cons h1 []
  simp only [putG]
  by_cases hn : (l[k].length : Int) > 500
  ·rw [decide_eq_true hn]
   refine vmany_inr ((r25 l _ k o).trans ?_) (m + 1)
   simp only [G25, Tr.eval, Tr.chk, decide_eq_true (show ((k : Int) < (l.length : Int)) by omega), i1, Int.toNat_natCast, g1, decide_eq_true hn]
   rfl
  ·rw [decide_eq_false hn]
   have hh : (hd1 l[k]).length = 2 := rfl
   have q1 : room (o.length + 2) 1 = true := by simp only [room, decide_eq_true_eq]; omega
   have q2 : room ((o ++ hd1 l[k]).length + l[k].length) 1 = true := by simp only [room, decide_eq_true_eq, List.length_append, hh]; omega
   refine (vmany_inl (d := (((), l, (l.length : Int), ((k + 1 : Nat) : Int), ()), (o ++ hd1 l[k] ++ l[k], ()))) ((r25 l _ k o).trans ?_) (m + 1)).trans
    (k25 l hl m (k + 1) (o ++ hd1 l[k] ++ l[k]) (by omega) (by simp only [List.length_append, hh]; omega))
   simp only [G25, Tr.eval, Tr.chk, decide_eq_true (show ((k : Int) < (l.length : Int)) by omega), i1, Int.toNat_natCast, g1, decide_eq_false hn, q1, q2]
   rw [w_id (by omega) (by omega)]
   rfl
def F25 (xs : HL S25.Ts) (hs : HD S25.Es) : Tr (Ex × St) :=
 .chk (decide (xs.2.2.1 = (List.length (α := List Int) xs.2.1 : Int)) && (decide (xs.2.2.2.1 = (0 : Int)) && (decide (List.length (α := Int) hs.1 = 0) && decide (List.length (α := List Int) xs.2.1 ≤ 20))))
  (.ite (putG hd1 xs.2.1 []).1 (.ret (out25 (putG hd1 xs.2.1 []).2)) (.ret (ret25 (putG hd1 xs.2.1 []).2)))
noncomputable def L25 : Loops := fun j st => if j = 5 then S25.fn F25 st else .fail
theorem l25 : LoopOK Try.prog L25 b25 :=
 vloop_ok (L := L25) (L' := L0) nil_sound (loopsOK_of (by kernel_rfl)) S25 (F := F25) (i := 5) (by kernel_rfl) (fun _ => rfl) fun xs hs r h => by
  obtain ⟨u1, l, n, i, u⟩ := xs
  obtain ⟨o, u2⟩ := hs
  obtain ⟨h1, h2⟩ := Tr.chk_some h
  simp only [Bool.and_eq_true, decide_eq_true_eq] at h1
  obtain ⟨e1, e2, e3, e4⟩ := h1
  have e1 : n = (List.length (α := List Int) l : Int) := e1
  have e2 : i = ((0 : Nat) : Int) := e2
  have e3 : o = [] := List.eq_nil_of_length_eq_zero e3
  subst e1; subst e2; subst e3
  refine ⟨_, (k25 l e4 (List.length (α := List Int) l) 0 [] (Nat.zero_add _) (Nat.zero_le _)).trans ?_⟩
  simp only [List.drop_zero, end25]
  rcases Tr.ite_some h2 with ⟨hd, h2⟩ | ⟨hd, h2⟩
  ·have hd : (putG hd1 l []).1 = true := hd
   rw [hd, ← Tr.ret_some h2]; rfl
  ·have hd : (putG hd1 l []).1 = false := hd
   rw [hd, ← Tr.ret_some h2]; rfl
def putI (hd : List Int → List Int) (l : List (List Int)) : HL [bt, i64] :=
 bif decide ((l.length : Int) > 20) then ([], 7, ()) else (bif (putG hd l []).1 then ((putG hd l []).2, 0, ()) else ([], 7, ()))
def s25 : CSpec := .sl [ls] [bt, i64] fun x => putI hd1 x.1
theorem r25f (l : List (List Int)) : (fnS Try.prog (ctx []) L25 [bt, i64] Try.f37 (mkArgs [ls] (l, ()))).fold [bt, i64] = putI hd1 l := by kernel_rfl
theorem f25f (l : List (List Int)) : (fnS Try.prog (ctx []) L25 [bt, i64] Try.f37 (mkArgs [ls] (l, ()))).fine [bt, i64] =
  ((decide ((l.length : Int) = (l.length : Int)) && decide (l.length ≤ 20)) || decide ((l.length : Int) > 20)) := by kernel_rfl
theorem ok25 : CSound Try.prog 37 s25 ∧ CLocal s25 :=
 sl_ok (L := L25) nil_sound Try.func37 (by kernel_rfl) (fun b hb => by
  have : loopsOf (bodyOf Try.f37) = [b25] := by kernel_rfl
  rw [this] at hb
  rw [List.mem_singleton.1 hb]
  exact l25) (fun xs hx => by
   refine (f25f xs.1).trans ?_
   simp; omega) (fun xs hx => r25f xs.1)
def S26 : VSpec := ⟨⟨[0, 4, 5], [2, 3, 4], 38, [ls, .vc 0 1, i64], [.vec 1 u8]⟩, [4]⟩
noncomputable def b26 : Code := loopAt Try.f98 0
def out26 (o : List Int) : Ex × St := (.exit 0, encS [4] [.vc 0 1] [.vec 1 u8] 38 ((), ()) (o, ()))
def ret26 (o : List Int) : Ex × St := (.ret, encS [2, 3, 4] [.nils, i64, .vc 0 1] [.vec 1 u8] 38 ((), (7 : Int), (), ()) (o, ()))
def G26 (xs : HL S26.Ts) (hs : HD S26.Es) : Tr S26.toLSpec.End :=
 let l : List (List Int) := xs.1
 let i := xs.2.2.1
 let o : List Int := hs.1
 let p : List Int := l.getD i.toNat []
 .ite (decide (i < (l.length : Int))) (.chk (inArr i l.length) (.ite (decide ((p.length : Int) > 500)) (.ret (.inr (ret26 o)))
  (.chk (room (o.length + 2) 1) (.chk (inArr i l.length) (.chk (room ((o ++ hd2 p).length + p.length) 1) (.ret (.inl ((l, (), w (i + 1), ()), ((o ++ hd2 p) ++ p, ())))))))))
  (.ret (.inr (out26 o)))
theorem r26 (l : List (List Int)) (i : Int) (o : List Int) : (S26.round (bodyK Try.prog (ctx []) L0 b26) (l, (), i, ()) (o, ())).eval = (G26 (l, (), i, ()) (o, ())).eval := by kernel_rfl
end Go.Proofs.Ytffdkniccaebmaa.Fld
end
section
set_option linter.unusedVariables false
set_option maxRecDepth 100000
namespace Go.Proofs.Ytffdkniccaebmaa.Fld
open Go Vse Go.Proofs
def end26 (r : Bool × List Int) : Ex × St := bif r.1 then out26 r.2 else ret26 r.2
theorem k26 (l : List (List Int)) (hl : l.length ≤ 20) : ∀ (m k : Nat) (o : List Int), k + m = l.length → o.length ≤ 502 * k →
  S26.many (bodyK Try.prog (ctx []) L0 b26) (m + 1) (l, (), (k : Int), ()) (o, ()) = some (end26 (putG hd2 (l.drop k) o))
 | 0, k, o, h, ho => by
  have e1 : l.drop k = [] := List.drop_eq_nil_of_le (by omega)
  rw [e1]
  refine vmany_inr ((r26 l k o).trans ?_) 0
  simp only [G26, Tr.eval, decide_eq_false (show ¬ ((k : Int) < (l.length : Int)) by omega)]
  rfl
 | m + 1, k, o, h, ho => by
  have h1 : k < l.length := by omega
  rw [List.drop_eq_getElem_cons h1]
  have i1 : inArr (k : Int) l.length = true := by simp [inArr]; omega
  have g1 : l.getD k [] = l[k] := getD_cons h1 []
  simp only [putG]
  by_cases hn : (l[k].length : Int) > 500
  ·rw [decide_eq_true hn]
   refine vmany_inr ((r26 l k o).trans ?_) (m + 1)
   simp only [G26, Tr.eval, Tr.chk, decide_eq_true (show ((k : Int) < (l.length : Int)) by omega), i1, Int.toNat_natCast, g1, decide_eq_true hn]
   rfl
  ·rw [decide_eq_false hn]
   have hh : (hd2 l[k]).length = 2 := rfl
   have q1 : room (o.length + 2) 1 = true := by simp only [room, decide_eq_true_eq]; omega
   have q2 : room ((o ++ hd2 l[k]).length + l[k].length) 1 = true := by simp only [room, decide_eq_true_eq, List.length_append, hh]; omega
   refine (vmany_inl (d := ((l, (), ((k + 1 : Nat) : Int), ()), (o ++ hd2 l[k] ++ l[k], ()))) ((r26 l k o).trans ?_) (m + 1)).trans
    (k26 l hl m (k + 1) (o ++ hd2 l[k] ++ l[k]) (by omega) (by simp only [List.length_append, hh]; omega))
   simp only [G26, Tr.eval, Tr.chk, decide_eq_true (show ((k : Int) < (l.length : Int)) by omega), i1, Int.toNat_natCast, g1, decide_eq_false hn, q1, q2]
   rw [w_id (by omega) (by omega)]
   rfl
def F26 (xs : HL S26.Ts) (hs : HD S26.Es) : Tr (Ex × St) :=
 .chk (decide (xs.2.2.1 = (0 : Int)) && (decide (List.length (α := Int) hs.1 = 0) && decide (List.length (α := List Int) xs.1 ≤ 20)))
  (.ite (putG hd2 xs.1 []).1 (.ret (out26 (putG hd2 xs.1 []).2)) (.ret (ret26 (putG hd2 xs.1 []).2)))
noncomputable def L26 : Loops := fun j st => if j = 5 then S26.fn F26 st else .fail
theorem l26 : LoopOK Try.prog L26 b26 :=
 vloop_ok (L := L26) (L' := L0) nil_sound (loopsOK_of (by kernel_rfl)) S26 (F := F26) (i := 5) (by kernel_rfl) (fun _ => rfl) fun xs hs r h => by
  obtain ⟨l, u1, i, u⟩ := xs
  obtain ⟨o, u2⟩ := hs
  obtain ⟨h1, h2⟩ := Tr.chk_some h
  simp only [Bool.and_eq_true, decide_eq_true_eq] at h1
  obtain ⟨e2, e3, e4⟩ := h1
  have e2 : i = ((0 : Nat) : Int) := e2
  have e3 : o = [] := List.eq_nil_of_length_eq_zero e3
  subst e2; subst e3
  refine ⟨_, (k26 l e4 (List.length (α := List Int) l) 0 [] (Nat.zero_add _) (Nat.zero_le _)).trans ?_⟩
  simp only [List.drop_zero, end26]
  rcases Tr.ite_some h2 with ⟨hd, h2⟩ | ⟨hd, h2⟩
  ·have hd : (putG hd2 l []).1 = true := hd
   rw [hd, ← Tr.ret_some h2]; rfl
  ·have hd : (putG hd2 l []).1 = false := hd
   rw [hd, ← Tr.ret_some h2]; rfl
def s26 : CSpec := .sl [ls] [bt, i64] fun x => putI hd2 x.1
theorem r26f (l : List (List Int)) : (fnS Try.prog (ctx []) L26 [bt, i64] Try.f98 (mkArgs [ls] (l, ()))).fold [bt, i64] = putI hd2 l := by kernel_rfl
theorem f26f (l : List (List Int)) : (fnS Try.prog (ctx []) L26 [bt, i64] Try.f98 (mkArgs [ls] (l, ()))).fine [bt, i64] = (decide (l.length ≤ 20) || decide ((l.length : Int) > 20)) := by kernel_rfl
theorem ok26 : CSound Try.prog 98 s26 ∧ CLocal s26 :=
 sl_ok (L := L26) nil_sound Try.func98 (by kernel_rfl) (fun b hb => by
  have : loopsOf (bodyOf Try.f98) = [b26] := by kernel_rfl
  rw [this] at hb
  rw [List.mem_singleton.1 hb]
  exact l26) (fun xs hx => by
   refine (f26f xs.1).trans ?_
   simp; omega) (fun xs hx => r26f xs.1)
def CS : List (Nat × CSpec) := [(86, s58)]
theorem CS_sound : CtxSound Try.prog (ctx CS) ∧ CtxLocal (ctx CS) := ctx_sound ⟨ok58, trivial⟩
def S27 : VSpec := ⟨⟨[0, 4], [2, 3, 4], 48, [bs, .vc 0 1], [.vec 1 bt]⟩, [4]⟩
noncomputable def b27 : Code := loopAt Try.f38 0
def out27 (o : List (List Int)) : Ex × St := (.exit 0, encS [4] [.vc 0 1] [.vec 1 bt] 48 ((), ()) (o, ()))
def ret27 (c : Int) (o : List (List Int)) : Ex × St := (.ret, encS [2, 3, 4] [.nils, i64, .vc 0 1] [.vec 1 bt] 48 ((), c, (), ()) (o, ()))
def from_ (b : List Int) (k : Int) : List Int := (b.take (b.length : Int).toNat).drop k.toNat
def G27 (xs : HL S27.Ts) (hs : HD S27.Es) : Tr S27.toLSpec.End :=
 let b : List Int := xs.1
 let o : List (List Int) := hs.1
 let n : Int := orI .i64 (shlI .i64 (w (b.getD 0 0)) 8) (w (b.getD 1 0))
 let c := from_ b 2
 let d := (c.take n.toNat).drop 0
 let Z : Tr S27.toLSpec.End := .ret (.inl ((from_ c n, (), ()), (o ++ [d], ())))
 let Y : Tr S27.toLSpec.End := .chk (decide (0 ≤ n) && decide (n ≤ (c.length : Int))) (.chk (decide (d.length ≤ 140737488355328)) (.chk (room (o.length + 1) 24)
  (.chk (decide (0 ≤ n) && (decide (n ≤ (c.length : Int)) && decide ((c.length : Int) ≤ (c.length : Int)))) Z)))
 let X : Tr S27.toLSpec.End := .ite (decide (n > 500)) (.ret (.inr (ret27 7 o))) (.ite ((o.length : Int) == 20) (.ret (.inr (ret27 7 o))) (.ite (decide (n > (c.length : Int))) (.ret (.inr (ret27 2 o))) Y))
 let V : Tr S27.toLSpec.End := .chk (inArr 0 b.length) (.chk (inArr 1 b.length) (.chk (decide ((2 : Int) ≤ (b.length : Int)) && decide ((b.length : Int) ≤ (b.length : Int))) X))
 .ite (decide ((b.length : Int) > 0)) (.ite (decide ((b.length : Int) < 2)) (.ret (.inr (ret27 2 o))) V) (.ret (.inr (out27 o)))
theorem r27 (b : List Int) (o : List (List Int)) : (S27.round (bodyK Try.prog (ctx CS) L0 b27) (b, (), ()) (o, ())).eval = (G27 (b, (), ()) (o, ())).eval := by kernel_rfl
end Go.Proofs.Ytffdkniccaebmaa.Fld
end
section
set_option linter.unusedVariables false
set_option maxRecDepth 100000
namespace Go.Proofs.Ytffdkniccaebmaa.Fld
open Go Vse Go.Proofs
def lenN (b : List Int) : Int := 256 * b.getD 0 0 + b.getD 1 0
def splitG : Nat → List Int → List (List Int) → Int × List (List Int)
 | 0, _, o => (0, o)
 | f + 1, b, o => bif decide (b.length > 0) then (bif decide (b.length < 2) then (2, o) else (bif decide (lenN b > 500) then (7, o) else (bif decide (o.length = 20) then (7, o) else
   (bif decide (lenN b > ((b.drop 2).length : Int)) then (2, o) else splitG f ((b.drop 2).drop (lenN b).toNat) (o ++ [(b.drop 2).take (lenN b).toNat]))))) else (0, o)
def Bytes (b : List Int) : Prop := ∀ x ∈ b, 0 ≤ x ∧ x < 256
theorem bytes_get {b : List Int} (h : Bytes b) (i : Nat) : 0 ≤ b.getD i 0 ∧ b.getD i 0 < 256 := by
 rw [List.getD_eq_getElem?_getD]
 cases hx : b[i]? with
 | none => exact ⟨by simp, by simp⟩
 | some x => exact h x (List.mem_of_getElem? hx)
theorem bytes_drop {b : List Int} (h : Bytes b) (k : Nat) : Bytes (b.drop k) := fun x hx => h x (List.mem_of_mem_drop hx)
theorem or_bytes {x y : Int} (hx : 0 ≤ x ∧ x < 256) (hy : 0 ≤ y ∧ y < 256) : orI .i64 (shlI .i64 (w x) 8) (w y) = 256 * x + y := by
 obtain ⟨m, rfl⟩ : ∃ m : Nat, x = m := ⟨x.toNat, by omega⟩
 obtain ⟨n, rfl⟩ : ∃ n : Nat, y = n := ⟨y.toNat, by omega⟩
 have hm : m < 256 := by omega
 have hn : n < 256 := by omega
 rw [w_id (by omega) (by omega), w_id (by omega) (by omega)]
 have e1 : shlI .i64 (m : Int) 8 = ((m * 256 : Nat) : Int) := by
  show w ((m : Int) * 2 ^ 8) = _
  rw [w_id (by omega) (by omega)]
  omega
 rw [e1]
 have hor : m * 256 ||| n = m * 256 + n := by
  have := Nat.shiftLeft_add_eq_or_of_lt (b := n) (i := 8) (by omega) m
  rw [Nat.shiftLeft_eq] at this
  exact this.symm
 rw [orI_nat (by rw [max_i64]; omega) (by rw [max_i64]; omega) (by rw [hor, max_i64]; omega), hor]
 omega
def end27 (r : Int × List (List Int)) : Ex × St := bif decide (r.1 = 0) then out27 r.2 else ret27 r.1 r.2
theorem from_drop (b : List Int) {k : Int} (hk : 0 ≤ k) : from_ b k = b.drop k.toNat := by
 unfold from_
 rw [Int.toNat_natCast, List.take_of_length_le (Nat.le_refl _)]
theorem k27 : ∀ (f : Nat) (b : List Int) (o : List (List Int)), Bytes b → b.length ≤ f → f ≤ 140737488355328 → o.length ≤ 20 →
  S27.many (bodyK Try.prog (ctx CS) L0 b27) (f + 1) (b, (), ()) (o, ()) = some (end27 (splitG (f + 1) b o))
 | 0, b, o, hb, hf, hm, ho => by
  have : b = [] := List.eq_nil_of_length_eq_zero (by omega)
  subst this
  exact vmany_inr ((r27 [] o).trans rfl) 0
 | f + 1, b, o, hb, hf, hm, ho => by
  have h0 := bytes_get hb 0
  have h1 := bytes_get hb 1
  have hn : orI .i64 (shlI .i64 (w (b.getD 0 0)) 8) (w (b.getD 1 0)) = lenN b := or_bytes h0 h1
  have hn0 : 0 ≤ lenN b := by unfold lenN; omega
  have hd2 : from_ b 2 = b.drop 2 := from_drop b (by decide)
  rw [splitG]
  by_cases c0 : b.length > 0
  ·rw [decide_eq_true c0]
   by_cases c1 : b.length < 2
   ·rw [decide_eq_true c1]
    refine vmany_inr ((r27 b o).trans ?_) (f + 1)
    simp only [G27, Tr.eval, decide_eq_true (show (b.length : Int) > 0 by omega), decide_eq_true (show (b.length : Int) < 2 by omega)]
    rfl
   ·rw [decide_eq_false c1]
    have i0 : inArr 0 b.length = true := by simp [inArr]; omega
    have i1 : inArr 1 b.length = true := by simp [inArr]; omega
    have hg : (G27 (b, (), ()) (o, ())).eval = bif decide (lenN b > 500) then some (.inr (ret27 7 o)) else (bif decide (o.length = 20) then some (.inr (ret27 7 o)) else
      (bif decide (lenN b > ((b.drop 2).length : Int)) then some (.inr (ret27 2 o)) else some (.inl (((b.drop 2).drop (lenN b).toNat, (), ()), (o ++ [(b.drop 2).take (lenN b).toNat], ()))))) := by
     have e2 : ((o.length : Int) == 20) = decide (o.length = 20) := by by_cases h : o.length = 20 <;> simp [h] <;> omega
     simp only [G27, Tr.eval, Tr.chk, decide_eq_true (show (b.length : Int) > 0 by omega), decide_eq_false (show ¬ (b.length : Int) < 2 by omega), i0, i1,
      decide_eq_true (show (2 : Int) ≤ (b.length : Int) by omega), decide_eq_true (Int.le_refl (b.length : Int)), Bool.and_self, hn, hd2, e2, List.drop_zero]
     by_cases q1 : lenN b > 500
     ·simp only [decide_eq_true q1, cond_true]
     ·by_cases q2 : o.length = 20
      ·simp only [decide_eq_false q1, decide_eq_true q2, cond_true, cond_false]
      ·by_cases q3 : lenN b > ((b.drop 2).length : Int)
       ·simp only [decide_eq_false q1, decide_eq_false q2, decide_eq_true q3, cond_true, cond_false]
       ·have hl : (b.drop 2).length ≤ b.length := by rw [List.length_drop]; omega
        have hle : lenN b ≤ ((b.drop 2).length : Int) := by omega
        have hto : ((b.drop 2).take (lenN b).toNat).length ≤ 140737488355328 := by rw [List.length_take]; omega
        have hro : room (o.length + 1) 24 = true := by simp only [room, decide_eq_true_eq]; omega
        have hfr : from_ (b.drop 2) (lenN b) = (b.drop 2).drop (lenN b).toNat := from_drop _ hn0
        simp only [decide_eq_false q1, decide_eq_false q2, decide_eq_false q3, cond_false, decide_eq_true hn0, decide_eq_true hle, decide_eq_true hto, hro, hfr, decide_eq_true (Int.le_refl ((b.drop 2).length : Int)), Bool.and_self, Bool.and_true]
    by_cases q1 : lenN b > 500
    ·rw [decide_eq_true q1] at hg ⊢
     exact vmany_inr ((r27 b o).trans hg) (f + 1)
    ·rw [decide_eq_false q1] at hg ⊢
     by_cases q2 : o.length = 20
     ·rw [decide_eq_true q2] at hg ⊢
      exact vmany_inr ((r27 b o).trans hg) (f + 1)
     ·rw [decide_eq_false q2] at hg ⊢
      by_cases q3 : lenN b > ((b.drop 2).length : Int)
      ·rw [decide_eq_true q3] at hg ⊢
       exact vmany_inr ((r27 b o).trans hg) (f + 1)
      ·rw [decide_eq_false q3] at hg ⊢
       exact (vmany_inl ((r27 b o).trans hg) (f + 1)).trans (k27 f _ _ (bytes_drop (bytes_drop hb 2) _) (by rw [List.length_drop, List.length_drop]; omega) (by omega) (by simp; omega))
  ·rw [decide_eq_false c0]
   refine vmany_inr ((r27 b o).trans ?_) (f + 1)
   simp only [G27, Tr.eval, decide_eq_false (show ¬ (b.length : Int) > 0 by omega)]
   rfl
def F27 (xs : HL S27.Ts) (hs : HD S27.Es) : Tr (Ex × St) :=
 let b : List Int := xs.1
 let r := splitG (b.length + 1) b []
 .chk (decide (List.length (α := List Int) hs.1 = 0) && (decide (b.length ≤ 140737488355328) && b.all fun x => decide (0 ≤ x) && decide (x < 256)))
  (.ite (decide (r.1 = 0)) (.ret (out27 r.2)) (.ret (ret27 r.1 r.2)))
noncomputable def L27 : Loops := fun j st => if j = 2 then S27.fn F27 st else .fail
theorem bytes_all {b : List Int} (h : (b.all fun x => decide (0 ≤ x) && decide (x < 256)) = true) : Bytes b := fun x hx => by simpa using List.all_eq_true.1 h x hx
theorem all_bytes {b : List Int} (h : Bytes b) : (b.all fun x => decide (0 ≤ x) && decide (x < 256)) = true := List.all_eq_true.2 fun x hx => by simpa using h x hx
theorem l27 : LoopOK Try.prog L27 b27 :=
 vloop_ok (L := L27) (L' := L0) CS_sound (loopsOK_of (by kernel_rfl)) S27 (F := F27) (i := 2) (by kernel_rfl) (fun _ => rfl) fun xs hs r h => by
  obtain ⟨b, u1, u⟩ := xs
  obtain ⟨o, u2⟩ := hs
  obtain ⟨h1, h2⟩ := Tr.chk_some h
  simp only [Bool.and_eq_true, decide_eq_true_eq] at h1
  obtain ⟨e1, e2, e3⟩ := h1
  have e1 : o = [] := List.eq_nil_of_length_eq_zero e1
  subst e1
  have hb : Bytes b := bytes_all (by simpa using e3)
  refine ⟨_, (k27 (List.length (α := Int) b) b [] hb (Nat.le_refl _) e2 (by simp)).trans ?_⟩
  simp only [end27]
  rcases Tr.ite_some h2 with ⟨hd, h2⟩ | ⟨hd, h2⟩
  ·rw [hd, ← Tr.ret_some h2]; rfl
  ·rw [hd, ← Tr.ret_some h2]; rfl
def preB (b : List Int) : Bool := decide (b.length ≤ 140737488355328)
def splitI (b : List Int) : HL [lt, i64] := let r := splitG (b.length + 1) b []; bif decide (r.1 = 0) then (r.2, 0, ()) else ([], r.1, ())
def s27 : CSpec := .slp [bs] (fun x => preB x.1) [lt, i64] fun x => splitI x.1
theorem r27f (b : List Int) : (fnS Try.prog (ctx CS) L27 [lt, i64] Try.f38 (mkArgs [bs] (b, ()))).fold [lt, i64] = splitI b := by kernel_rfl
theorem f27f (b : List Int) : (fnS Try.prog (ctx CS) L27 [lt, i64] Try.f38 (mkArgs [bs] (b, ()))).fine [lt, i64] = (decide (b.length ≤ 140737488355328) && b.all fun x => decide (0 ≤ x) && decide (x < 256)) := by kernel_rfl
theorem bytes_ok {b : List Int} (h : (Ty.imm false false u8).ok b) : Bytes b := fun x hx => by
 have := inK_iff.1 (h.2 x hx)
 have h1 : IntKind.u8.min = 0 := by decide
 have h2 := max_u8
 omega
theorem ok27 : CSound Try.prog 38 s27 ∧ CLocal s27 :=
 slp_sound (L := L27) CS_sound Try.func38 (by kernel_rfl) (fun b hb => by
  have : loopsOf (bodyOf Try.f38) = [b27] := by kernel_rfl
  rw [this] at hb
  rw [List.mem_singleton.1 hb]
  exact l27) (fun xs hx hp => by
   refine (f27f xs.1).trans ?_
   rw [show decide (List.length (α := Int) xs.1 ≤ 140737488355328) = true from hp]
   exact all_bytes (bytes_ok hx.1)) (fun xs hx hp => r27f xs.1)
def S28 : VSpec := ⟨⟨[0, 4, 5], [2, 3, 4], 61, [bs, .vc 0 1, i64], [.vec 1 bt]⟩, [4]⟩
noncomputable def b28 : Code := loopAt Try.f95 0
def out28 (o : List (List Int)) : Ex × St := (.exit 0, encS [4] [.vc 0 1] [.vec 1 bt] 61 ((), ()) (o, ()))
def ret28 (c : Int) (o : List (List Int)) : Ex × St := (.ret, encS [2, 3, 4] [.nils, i64, .vc 0 1] [.vec 1 bt] 61 ((), c, (), ()) (o, ()))
def G28 (xs : HL S28.Ts) (hs : HD S28.Es) : Tr S28.toLSpec.End :=
 let b : List Int := xs.1
 let i : Int := xs.2.2.1
 let o : List (List Int) := hs.1
 let n : Int := w (w (256 * w (b.getD i.toNat 0)) + w (b.getD (w (i + 1)).toNat 0))
 let lo := w (i + 2)
 let hi := w (lo + n)
 let d := (b.take hi.toNat).drop lo.toNat
 let Z : Tr S28.toLSpec.End := .ret (.inl ((b, (), hi, ()), (o ++ [([] : List Int) ++ d], ())))
 let Y : Tr S28.toLSpec.End := .chk (decide (0 ≤ lo) && (decide (lo ≤ hi) && decide (hi ≤ (b.length : Int)))) (.chk (room (([] : List Int).length + d.length) 1) (.chk (room (o.length + 1) 24) Z))
 let X : Tr S28.toLSpec.End := .ite (decide (n > 500)) (.ret (.inr (ret28 7 o))) (.ite ((o.length : Int) == 20) (.ret (.inr (ret28 7 o))) (.ite (decide (w (w ((b.length : Int) - i) - 2) < n)) (.ret (.inr (ret28 2 o))) Y))
 let V : Tr S28.toLSpec.End := .chk (inArr i b.length) (.chk (inArr (w (i + 1)) b.length) X)
 .ite (decide (i < (b.length : Int))) (.ite (decide (w ((b.length : Int) - i) < 2)) (.ret (.inr (ret28 2 o))) V) (.ret (.inr (out28 o)))
theorem r28 (b : List Int) (i : Int) (o : List (List Int)) : (S28.round (bodyK Try.prog (ctx CS) L0 b28) (b, (), i, ()) (o, ())).eval = (G28 (b, (), i, ()) (o, ())).eval := by kernel_rfl
end Go.Proofs.Ytffdkniccaebmaa.Fld
end
section
set_option linter.unusedVariables false
set_option maxRecDepth 100000
namespace Go.Proofs.Ytffdkniccaebmaa.Fld
open Go Vse Go.Proofs
theorem getD_drop (b : List Int) (k j : Nat) : (b.drop k).getD j 0 = b.getD (k + j) 0 := by
 rw [List.getD_eq_getElem?_getD, List.getD_eq_getElem?_getD, List.getElem?_drop]
def end28 (r : Int × List (List Int)) : Ex × St := bif decide (r.1 = 0) then out28 r.2 else ret28 r.1 r.2
theorem k28 (b : List Int) (hb : Bytes b) (hm : b.length ≤ 140737488355328) : ∀ (f k : Nat) (o : List (List Int)), b.length ≤ k + f → k ≤ b.length → o.length ≤ 20 →
  S28.many (bodyK Try.prog (ctx CS) L0 b28) (f + 1) (b, (), (k : Int), ()) (o, ()) = some (end28 (splitG (f + 1) (b.drop k) o))
 | 0, k, o, hf, hk, ho => by
  have e : b.drop k = [] := List.drop_eq_nil_of_le (by omega)
  rw [e]
  refine vmany_inr ((r28 b k o).trans ?_) 0
  simp only [G28, Tr.eval, decide_eq_false (show ¬ ((k : Int) < (b.length : Int)) by omega)]
  rfl
 | f + 1, k, o, hf, hk, ho => by
  have h0 := bytes_get hb k
  have h1 := bytes_get hb (k + 1)
  have hlen : (b.drop k).length = b.length - k := List.length_drop
  have hlen2 : ((b.drop k).drop 2).length = b.length - k - 2 := by rw [List.length_drop, hlen]
  have hN : lenN (b.drop k) = 256 * b.getD k 0 + b.getD (k + 1) 0 := by unfold lenN; rw [getD_drop, getD_drop]; rfl
  have hn0 : 0 ≤ lenN (b.drop k) := by omega
  have hn1 : lenN (b.drop k) < 65536 := by omega
  rw [splitG]
  by_cases c0 : (b.drop k).length > 0
  ·rw [decide_eq_true c0]
   have hki : (k : Int) < (b.length : Int) := by omega
   by_cases c1 : (b.drop k).length < 2
   ·rw [decide_eq_true c1]
    refine vmany_inr ((r28 b k o).trans ?_) (f + 1)
    simp only [G28, Tr.eval, decide_eq_true hki]
    rw [w_id (x := (b.length : Int) - (k : Int)) (by omega) (by omega), decide_eq_true (show (b.length : Int) - (k : Int) < 2 by omega)]
    rfl
   ·rw [decide_eq_false c1]
    have i0 : inArr (k : Int) b.length = true := by simp [inArr]; omega
    have i1 : inArr ((k + 1 : Nat) : Int) b.length = true := by simp [inArr]; omega
    have wk1 : w ((k : Int) + 1) = ((k + 1 : Nat) : Int) := by rw [w_id (by omega) (by omega)]; omega
    have hn : w (w (256 * w (b.getD k 0)) + w (b.getD (k + 1) 0)) = lenN (b.drop k) := by
     rw [w_id (x := b.getD k 0) (by omega) (by omega), w_id (x := b.getD (k + 1) 0) (by omega) (by omega), w_id (x := 256 * b.getD k 0) (by omega) (by omega), w_id (by omega) (by omega), hN]
    have hlo : w ((k : Int) + 2) = ((k + 2 : Nat) : Int) := by rw [w_id (by omega) (by omega)]; omega
    have hhi : w (((k + 2 : Nat) : Int) + lenN (b.drop k)) = ((k + 2 + (lenN (b.drop k)).toNat : Nat) : Int) := by rw [w_id (by omega) (by omega)]; omega
    have hd : (b.take (k + 2 + (lenN (b.drop k)).toNat)).drop (k + 2) = ((b.drop k).drop 2).take (lenN (b.drop k)).toNat := by
     rw [List.drop_take, List.drop_drop]
     congr 1
     omega
    have hnx : b.drop (k + 2 + (lenN (b.drop k)).toNat) = ((b.drop k).drop 2).drop (lenN (b.drop k)).toNat := by
     rw [List.drop_drop, List.drop_drop]
     congr 1
     omega
    have hg : (G28 (b, (), (k : Int), ()) (o, ())).eval = bif decide (lenN (b.drop k) > 500) then some (.inr (ret28 7 o)) else (bif decide (o.length = 20) then some (.inr (ret28 7 o)) else
      (bif decide (lenN (b.drop k) > (((b.drop k).drop 2).length : Int)) then some (.inr (ret28 2 o)) else
       some (.inl ((b, (), ((k + 2 + (lenN (b.drop k)).toNat : Nat) : Int), ()), (o ++ [((b.drop k).drop 2).take (lenN (b.drop k)).toNat], ()))))) := by
     have e2 : ((o.length : Int) == 20) = decide (o.length = 20) := by by_cases h : o.length = 20 <;> simp [h] <;> omega
     simp only [G28, Tr.eval, Tr.chk, decide_eq_true hki, i0, wk1, i1, Int.toNat_natCast, hn, hlo, hhi, e2, hd]
     rw [w_id (x := (b.length : Int) - (k : Int)) (by omega) (by omega), decide_eq_false (show ¬ (b.length : Int) - (k : Int) < 2 by omega), w_id (by omega) (by omega)]
     by_cases q1 : lenN (b.drop k) > 500
     ·simp only [decide_eq_true q1, cond_true]
     ·by_cases q2 : o.length = 20
      ·simp only [decide_eq_false q1, decide_eq_true q2, cond_true, cond_false]
      ·by_cases q3 : lenN (b.drop k) > (((b.drop k).drop 2).length : Int)
       ·simp only [decide_eq_false q1, decide_eq_false q2, decide_eq_true q3, decide_eq_true (show (b.length : Int) - (k : Int) - 2 < lenN (b.drop k) by omega), cond_true, cond_false]
       ·have hle : ((k + 2 + (lenN (b.drop k)).toNat : Nat) : Int) ≤ (b.length : Int) := by omega
        have hto : room (([] : List Int).length + (((b.drop k).drop 2).take (lenN (b.drop k)).toNat).length) 1 = true := by simp only [room, decide_eq_true_eq, List.length_take, List.length_nil]; omega
        have hro : room (o.length + 1) 24 = true := by simp only [room, decide_eq_true_eq]; omega
        simp only [decide_eq_false q1, decide_eq_false q2, decide_eq_false q3, decide_eq_false (show ¬ (b.length : Int) - (k : Int) - 2 < lenN (b.drop k) by omega), cond_false,
         decide_eq_true (show (0 : Int) ≤ ((k + 2 : Nat) : Int) by omega), decide_eq_true (show ((k + 2 : Nat) : Int) ≤ ((k + 2 + (lenN (b.drop k)).toNat : Nat) : Int) by omega), decide_eq_true hle, hto, hro, Bool.and_self, List.nil_append]
    by_cases q1 : lenN (b.drop k) > 500
    ·rw [decide_eq_true q1] at hg ⊢
     exact vmany_inr ((r28 b k o).trans hg) (f + 1)
    ·rw [decide_eq_false q1] at hg ⊢
     by_cases q2 : o.length = 20
     ·rw [decide_eq_true q2] at hg ⊢
      exact vmany_inr ((r28 b k o).trans hg) (f + 1)
     ·rw [decide_eq_false q2] at hg ⊢
      by_cases q3 : lenN (b.drop k) > (((b.drop k).drop 2).length : Int)
      ·rw [decide_eq_true q3] at hg ⊢
       exact vmany_inr ((r28 b k o).trans hg) (f + 1)
      ·rw [decide_eq_false q3] at hg ⊢
       refine (vmany_inl ((r28 b k o).trans hg) (f + 1)).trans ?_
       have := k28 b hb hm f (k + 2 + (lenN (b.drop k)).toNat) (o ++ [((b.drop k).drop 2).take (lenN (b.drop k)).toNat]) (by omega) (by omega) (by simp; omega)
       rw [hnx] at this
       exact this
  ·rw [decide_eq_false c0]
   refine vmany_inr ((r28 b k o).trans ?_) (f + 1)
   simp only [G28, Tr.eval, decide_eq_false (show ¬ (k : Int) < (b.length : Int) by omega)]
   rfl
def F28 (xs : HL S28.Ts) (hs : HD S28.Es) : Tr (Ex × St) :=
 let b : List Int := xs.1
 let r := splitG (b.length + 1) b []
 .chk (decide (xs.2.2.1 = (0 : Int)) && (decide (List.length (α := List Int) hs.1 = 0) && (decide (b.length ≤ 140737488355328) && b.all fun x => decide (0 ≤ x) && decide (x < 256))))
  (.ite (decide (r.1 = 0)) (.ret (out28 r.2)) (.ret (ret28 r.1 r.2)))
noncomputable def L28 : Loops := fun j st => if j = 3 then S28.fn F28 st else .fail
theorem l28 : LoopOK Try.prog L28 b28 :=
 vloop_ok (L := L28) (L' := L0) CS_sound (loopsOK_of (by kernel_rfl)) S28 (F := F28) (i := 3) (by kernel_rfl) (fun _ => rfl) fun xs hs r h => by
  obtain ⟨b, u1, i, u⟩ := xs
  obtain ⟨o, u2⟩ := hs
  obtain ⟨h1, h2⟩ := Tr.chk_some h
  simp only [Bool.and_eq_true, decide_eq_true_eq] at h1
  obtain ⟨e0, e1, e2, e3⟩ := h1
  have e0 : i = ((0 : Nat) : Int) := e0
  have e1 : o = [] := List.eq_nil_of_length_eq_zero e1
  subst e0; subst e1
  have hb : Bytes b := bytes_all (by simpa using e3)
  refine ⟨_, (k28 b hb e2 (List.length (α := Int) b) 0 [] (by omega) (Nat.zero_le _) (by simp)).trans ?_⟩
  simp only [end28, List.drop_zero]
  rcases Tr.ite_some h2 with ⟨hd, h2⟩ | ⟨hd, h2⟩
  ·rw [hd, ← Tr.ret_some h2]; rfl
  ·rw [hd, ← Tr.ret_some h2]; rfl
def s28 : CSpec := .slp [bs] (fun x => preB x.1) [lt, i64] fun x => splitI x.1
theorem r28f (b : List Int) : (fnS Try.prog (ctx CS) L28 [lt, i64] Try.f95 (mkArgs [bs] (b, ()))).fold [lt, i64] = splitI b := by kernel_rfl
theorem f28f (b : List Int) : (fnS Try.prog (ctx CS) L28 [lt, i64] Try.f95 (mkArgs [bs] (b, ()))).fine [lt, i64] = (decide (b.length ≤ 140737488355328) && b.all fun x => decide (0 ≤ x) && decide (x < 256)) := by kernel_rfl
theorem ok28 : CSound Try.prog 95 s28 ∧ CLocal s28 :=
 slp_sound (L := L28) CS_sound Try.func95 (by kernel_rfl) (fun b hb => by
  have : loopsOf (bodyOf Try.f95) = [b28] := by kernel_rfl
  rw [this] at hb
  rw [List.mem_singleton.1 hb]
  exact l28) (fun xs hx hp => by
   refine (f28f xs.1).trans ?_
   rw [show decide (List.length (α := Int) xs.1 ≤ 140737488355328) = true from hp]
   exact all_bytes (bytes_ok hx.1)) (fun xs hx hp => r28f xs.1)
end Go.Proofs.Ytffdkniccaebmaa.Fld
end
section
set_option linter.unusedVariables false
set_option maxRecDepth 100000
namespace Go.Proofs.Ytffdkniccaebmaa.Fld
open Go Vse Go.Proofs
theorem wb_mod (x : Int) : wb x = x % 256 := by
 simp [IntKind.wrap, IntKind.signed, IntKind.bits]
theorem wu_mod (x : Int) : wu x = x % 18446744073709551616 := by
 simp [IntKind.wrap, IntKind.signed, IntKind.bits]
theorem w_congr {x y : Int} (h : x % 18446744073709551616 = y % 18446744073709551616) : w x = w y := by
 simp [IntKind.wrap, IntKind.signed, IntKind.bits, h]
theorem w_mod (x : Int) : w x % 18446744073709551616 = x % 18446744073709551616 := by
 simp [IntKind.wrap, IntKind.signed, IntKind.bits]
 split <;> omega
theorem or_step (v c : Int) (hc : 0 ≤ c ∧ c < 256) : orI .i64 (shlI .i64 v 8) (w c) = w (256 * v + c) := by
 have e1 : shlI .i64 v 8 = w (v * 256) := rfl
 have e2 : orI .i64 (w (v * 256)) (w c) = w (((w (v * 256) % 18446744073709551616).toNat ||| (w c % 18446744073709551616).toNat : Nat) : Int) := by
  show w _ = w _
  congr 1
 rw [e1, e2, w_mod, w_mod]
 obtain ⟨n, rfl⟩ : ∃ n : Nat, c = n := ⟨c.toNat, by omega⟩
 obtain ⟨m, hm⟩ : ∃ m : Nat, v % 72057594037927936 = m := ⟨(v % 72057594037927936).toNat, by omega⟩
 have h1 : (v * 256 % 18446744073709551616).toNat = m * 256 := by omega
 have h2 : ((n : Int) % 18446744073709551616).toNat = n := by omega
 have hor : m * 256 ||| n = m * 256 + n := by
  have := Nat.shiftLeft_add_eq_or_of_lt (b := n) (i := 8) (by omega) m
  rw [Nat.shiftLeft_eq] at this
  exact this.symm
 rw [h1, h2, hor]
 refine w_congr ?_
 omega
theorem take_fold : ∀ (a : List Int) (v1 v2 : Int), Bytes a → v1 = w v2 → a.foldl (fun v c => orI .i64 (shlI .i64 v 8) (w c)) v1 = w (a.foldl (fun v c => wu (wu (256 * v) + wu c)) v2)
 | [], v1, v2, _, h => h
 | c :: a, v1, v2, hb, h => by
  have hc := hb c (by simp)
  simp only [List.foldl_cons]
  refine take_fold a _ _ (fun x hx => hb x (by simp [hx])) ?_
  rw [or_step v1 c hc, h]
  refine w_congr ?_
  have := w_mod v2
  rw [wu_mod, wu_mod, wu_mod]
  omega
theorem take_same {a : List Int} (hb : Bytes a) : take1 a = w (take2 a) := take_fold a 0 0 hb rfl
theorem m0 (n : Int) : n / 1 % 256 = n % 18446744073709551616 % 256 := by omega
theorem m1 (n : Int) : n / 256 % 256 = n % 18446744073709551616 / 256 % 256 := by omega
theorem m2 (n : Int) : n / 65536 % 256 = n % 18446744073709551616 / 65536 % 256 := by omega
theorem m3 (n : Int) : n / 16777216 % 256 = n % 18446744073709551616 / 16777216 % 256 := by omega
theorem m4 (n : Int) : n / 4294967296 % 256 = n % 18446744073709551616 / 4294967296 % 256 := by omega
theorem m5 (n : Int) : n / 1099511627776 % 256 = n % 18446744073709551616 / 1099511627776 % 256 := by omega
theorem m6 (n : Int) : n / 281474976710656 % 256 = n % 18446744073709551616 / 281474976710656 % 256 := by omega
theorem m7 (n : Int) : n / 72057594037927936 % 256 = n % 18446744073709551616 / 72057594037927936 % 256 := by omega
theorem d2 (n : Int) : n / 256 / 256 = n / 65536 := by omega
theorem d3 (n : Int) : n / 65536 / 256 = n / 16777216 := by omega
theorem d4 (n : Int) : n / 16777216 / 256 = n / 4294967296 := by omega
theorem d5 (n : Int) : n / 4294967296 / 256 = n / 1099511627776 := by omega
theorem d6 (n : Int) : n / 1099511627776 / 256 = n / 281474976710656 := by omega
theorem d7 (n : Int) : n / 281474976710656 / 256 = n / 72057594037927936 := by omega
theorem dv_div {u : Int} (h : 0 ≤ u) (h' : u < 18446744073709551616) : dv u = u / 256 := by
 unfold dv
 rw [wu_mod, Int.tdiv_eq_ediv_of_nonneg h]
 omega
theorem lo_mod {u : Int} (h : 0 ≤ u) : lo u = u % 256 := by
 unfold lo
 rw [wb_mod, Int.tmod_eq_emod_of_nonneg h]
 omega
theorem div_in {u : Int} (h : 0 ≤ u) (h' : u < 18446744073709551616) (d : Int) (hd : 0 < d) : 0 ≤ u / d ∧ u / d < 18446744073709551616 := by
 refine ⟨Int.ediv_nonneg h (by omega), ?_⟩
 exact Int.lt_of_le_of_lt (Int.ediv_le_self _ h) h'
theorem byte_div (n k d : Int) (hk : (2 : Int) ^ (min k.toNat IntKind.i64.bits) = d) (hd : 0 < d) : byte1 n k = n / d % 256 := by
 unfold byte1 shrI
 rw [hk, wb_mod, Int.fdiv_eq_ediv_of_nonneg _ (by omega)]
theorem num_same (n : Int) : num1 n = num2 (wu n) := by
 have h0 : 0 ≤ wu n := by rw [wu_mod]; omega
 have h1 : wu n < 18446744073709551616 := by rw [wu_mod]; omega
 have e1 : dv (wu n) = wu n / 256 := dv_div h0 h1
 have i1 := div_in h0 h1 256 (by decide)
 have e2 : dv (wu n / 256) = wu n / 65536 := (dv_div i1.1 i1.2).trans (d2 _)
 have i2 := div_in h0 h1 65536 (by decide)
 have e3 : dv (wu n / 65536) = wu n / 16777216 := (dv_div i2.1 i2.2).trans (d3 _)
 have i3 := div_in h0 h1 16777216 (by decide)
 have e4 : dv (wu n / 16777216) = wu n / 4294967296 := (dv_div i3.1 i3.2).trans (d4 _)
 have i4 := div_in h0 h1 4294967296 (by decide)
 have e5 : dv (wu n / 4294967296) = wu n / 1099511627776 := (dv_div i4.1 i4.2).trans (d5 _)
 have i5 := div_in h0 h1 1099511627776 (by decide)
 have e6 : dv (wu n / 1099511627776) = wu n / 281474976710656 := (dv_div i5.1 i5.2).trans (d6 _)
 have i6 := div_in h0 h1 281474976710656 (by decide)
 have e7 : dv (wu n / 281474976710656) = wu n / 72057594037927936 := (dv_div i6.1 i6.2).trans (d7 _)
 have i7 := div_in h0 h1 72057594037927936 (by decide)
 unfold num1 num2
 rw [byte_div n 56 72057594037927936 rfl (by decide), byte_div n 48 281474976710656 rfl (by decide), byte_div n 40 1099511627776 rfl (by decide), byte_div n 32 4294967296 rfl (by decide), byte_div n 24 16777216 rfl (by decide), byte_div n 16 65536 rfl (by decide), byte_div n 8 256 rfl (by decide), byte_div n 0 1 rfl (by decide)]
 rw [e1, e2, e3, e4, e5, e6, e7, lo_mod i7.1, lo_mod i6.1, lo_mod i5.1, lo_mod i4.1, lo_mod i3.1, lo_mod i2.1, lo_mod i1.1, lo_mod h0, wu_mod]
 rw [m7 n, m6 n, m5 n, m4 n, m3 n, m2 n, m1 n, m0 n]
theorem digit (n d e : Int) (h : n / d / 256 = n / e) : n / d = 256 * (n / e) + n / d % 256 := by
 rw [← h]; omega
theorem digits (n : Int) : (256 * (256 * (256 * (256 * (256 * (256 * (256 * (256 * 0 + n / 72057594037927936 % 256) + n / 281474976710656 % 256) + n / 1099511627776 % 256) + n / 4294967296 % 256) + n / 16777216 % 256) + n / 65536 % 256) + n / 256 % 256) + n / 1 % 256) % 18446744073709551616 = n % 18446744073709551616 := by
 have a0 := digit n 1 256 (by rw [Int.ediv_one])
 have a1 := digit n 256 65536 (d2 n)
 have a2 := digit n 65536 16777216 (d3 n)
 have a3 := digit n 16777216 4294967296 (d4 n)
 have a4 := digit n 4294967296 1099511627776 (d5 n)
 have a5 := digit n 1099511627776 281474976710656 (d6 n)
 have a6 := digit n 281474976710656 72057594037927936 (d7 n)
 have a7 := digit n 72057594037927936 (72057594037927936 * 256) (by rw [Int.ediv_ediv_of_nonneg (by decide)])
 rw [Int.ediv_one] at a0 ⊢
 generalize n / 256 % 256 = x1 at *
 generalize n / 65536 % 256 = x2 at *
 generalize n / 16777216 % 256 = x3 at *
 generalize n / 4294967296 % 256 = x4 at *
 generalize n / 1099511627776 % 256 = x5 at *
 generalize n / 281474976710656 % 256 = x6 at *
 generalize n / 72057594037927936 % 256 = x7 at *
 generalize n % 256 = x0 at *
 generalize n / (72057594037927936 * 256) = q8 at *
 generalize n / 72057594037927936 = q7 at *
 generalize n / 281474976710656 = q6 at *
 generalize n / 1099511627776 = q5 at *
 generalize n / 4294967296 = q4 at *
 generalize n / 16777216 = q3 at *
 generalize n / 65536 = q2 at *
 generalize n / 256 = q1 at *
 subst a7; subst a6; subst a5; subst a4; subst a3; subst a2; subst a1
 rw [a0]
 omega
theorem take_num (n : Int) (h : -9223372036854775808 ≤ n ∧ n ≤ 9223372036854775807) : take1 (num1 n) = n := by
 have hnum : num1 n = [n / 72057594037927936 % 256, n / 281474976710656 % 256, n / 1099511627776 % 256, n / 4294967296 % 256, n / 16777216 % 256, n / 65536 % 256, n / 256 % 256, n / 1 % 256] := by
  unfold num1
  rw [byte_div n 56 72057594037927936 rfl (by decide), byte_div n 48 281474976710656 rfl (by decide), byte_div n 40 1099511627776 rfl (by decide), byte_div n 32 4294967296 rfl (by decide), byte_div n 24 16777216 rfl (by decide), byte_div n 16 65536 rfl (by decide), byte_div n 8 256 rfl (by decide), byte_div n 0 1 rfl (by decide)]
 have hf : ∀ (a : List Int) (v : Int), Bytes a → a.foldl (fun v c => orI .i64 (shlI .i64 v 8) (w c)) (w v) = w (a.foldl (fun v c => 256 * v + c) v) := by
  intro a
  induction a with
  | nil => intro v _; rfl
  | cons c a ih =>
   intro v hb
   simp only [List.foldl_cons]
   rw [or_step (w v) c (hb c (by simp))]
   have : w (256 * w v + c) = w (256 * v + c) := w_congr (by have := w_mod v; omega)
   rw [this]
   exact ih _ fun x hx => hb x (by simp [hx])
 have hb : Bytes (num1 n) := by
  rw [hnum]
  intro x hx
  simp only [List.mem_cons, List.not_mem_nil, or_false] at hx
  have g : ∀ y : Int, 0 ≤ y % 256 ∧ y % 256 < 256 := fun y => by omega
  rcases hx with rfl | rfl | rfl | rfl | rfl | rfl | rfl | rfl <;> exact g _
 have := hf (num1 n) 0 hb
 have h0 : w 0 = 0 := by decide
 rw [h0] at this
 unfold take1
 rw [this, hnum]
 simp only [List.foldl_cons, List.foldl_nil]
 rw [w_congr (y := n) (digits n), w_id h.1 h.2]
end Go.Proofs.Ytffdkniccaebmaa.Fld
end
section
set_option linter.unusedVariables false
set_option maxRecDepth 100000
namespace Go.Proofs.Ytffdkniccaebmaa.Fld
open Go Vse Go.Proofs
theorem hd1_eq {p : List Int} (h : p.length ≤ 500) : hd1 p = [(p.length : Int) / 256, (p.length : Int) % 256] := by
 unfold hd1
 have e : shrI .i64 (p.length : Int) 8 = (p.length : Int) / 256 := by
  show (p.length : Int).fdiv (2 ^ 8) = _
  rw [Int.fdiv_eq_ediv_of_nonneg _ (by decide)]; rfl
 rw [e, wb_mod, wb_mod]
 congr 1
 omega
theorem hd2_eq {p : List Int} (h : p.length ≤ 500) : hd2 p = [(p.length : Int) / 256, (p.length : Int) % 256] := by
 unfold hd2
 rw [Int.tdiv_eq_ediv_of_nonneg (by omega), Int.tmod_eq_emod_of_nonneg (by omega), w_id (by omega) (by omega), wb_mod, wb_mod]
 congr 1
 ·omega
 ·congr 1
  omega
theorem putG_same : ∀ (l : List (List Int)) (o : List Int), putG hd1 l o = putG hd2 l o
 | [], o => rfl
 | p :: r, o => by
  simp only [putG]
  by_cases h : (p.length : Int) > 500
  ·rw [decide_eq_true h]; rfl
  ·rw [decide_eq_false h]
   have h : p.length ≤ 500 := by omega
   rw [hd1_eq h, hd2_eq h]
   exact putG_same r _
theorem putI_same (l : List (List Int)) : putI hd1 l = putI hd2 l := by
 unfold putI
 rw [putG_same]
def encL : List (List Int) → List Int
 | [] => []
 | p :: r => hd1 p ++ p ++ encL r
theorem putG_ok : ∀ (l : List (List Int)) (o b : List Int), putG hd1 l o = (true, b) → (∀ p ∈ l, p.length ≤ 500) ∧ b = o ++ encL l
 | [], o, b, h => by
  simp only [putG, Prod.mk.injEq, true_and] at h
  subst h
  exact ⟨by simp, by simp [encL]⟩
 | p :: r, o, b, h => by
  simp only [putG] at h
  by_cases hp : (p.length : Int) > 500
  ·rw [decide_eq_true hp] at h; cases h
  ·rw [decide_eq_false hp] at h
   obtain ⟨h1, h2⟩ := putG_ok r _ b h
   refine ⟨fun q hq => ?_, by rw [h2]; simp [encL, List.append_assoc]⟩
   rcases List.mem_cons.1 hq with rfl | hq
   ·omega
   ·exact h1 q hq
theorem putG_enc : ∀ (l : List (List Int)) (o : List Int), (∀ p ∈ l, p.length ≤ 500) → putG hd1 l o = (true, o ++ encL l)
 | [], o, _ => by simp [putG, encL]
 | p :: r, o, h => by
  have hp := h p (by simp)
  simp only [putG, decide_eq_false (show ¬ (p.length : Int) > 500 by omega), cond_false]
  rw [putG_enc r _ fun q hq => h q (by simp [hq])]
  simp [encL, List.append_assoc]
theorem split_enc : ∀ (l : List (List Int)) (o : List (List Int)) (f : Nat), (∀ p ∈ l, p.length ≤ 500) → o.length + l.length ≤ 20 → (encL l).length < f → splitG f (encL l) o = (0, o ++ l)
 | [], o, f, _, _, hf => by
  cases f with
  | zero => omega
  | succ f => simp [splitG, encL]
 | p :: r, o, f, h, ho, hf => by
  have hp := h p (by simp)
  have e := hd1_eq hp
  have hh : (hd1 p).length = 2 := rfl
  simp only [List.length_cons] at ho
  cases f with
  | zero => omega
  | succ f =>
   have hb : encL (p :: r) = (p.length : Int) / 256 :: (p.length : Int) % 256 :: (p ++ encL r) := by simp [encL, e]
   have hl : (encL (p :: r)).length = p.length + (encL r).length + 2 := by rw [hb]; simp
   have hn : lenN (encL (p :: r)) = (p.length : Int) := by
    rw [hb]; unfold lenN
    simp only [List.getD_cons_zero, List.getD_cons_succ]
    omega
   have hd : (encL (p :: r)).drop 2 = p ++ encL r := by rw [hb]; rfl
   rw [splitG, decide_eq_true (show (encL (p :: r)).length > 0 by omega), decide_eq_false (show ¬ (encL (p :: r)).length < 2 by omega), hn, hd, decide_eq_false (show ¬ (p.length : Int) > 500 by omega),
    decide_eq_false (show ¬ o.length = 20 by omega), decide_eq_false (show ¬ (p.length : Int) > ((p ++ encL r).length : Int) by rw [List.length_append]; omega)]
   simp only [cond_true, cond_false, Int.toNat_natCast, List.drop_left, List.take_left]
   rw [split_enc r (o ++ [p]) f (fun q hq => h q (by simp [hq])) (by simp; omega) (by omega)]
   simp
theorem put_split {l : List (List Int)} {x : List Int} (h : putI hd1 l = (x, 0, ())) : splitI x = (l, 0, ()) := by
 unfold putI at h
 by_cases h1 : (l.length : Int) > 20
 ·rw [decide_eq_true h1] at h; simp at h
 ·rw [decide_eq_false h1] at h
  cases hp : (putG hd1 l []).1 with
  | false => rw [hp] at h; simp at h
  | true =>
   rw [hp] at h
   simp only [cond_false, cond_true, Prod.mk.injEq, and_true] at h
   obtain ⟨q1, q2⟩ := putG_ok l [] (putG hd1 l []).2 (by rw [← hp])
   rw [h] at q2
   simp only [List.nil_append] at q2
   subst q2
   have := split_enc l [] ((encL l).length + 1) q1 (by simp; omega) (by omega)
   unfold splitI
   rw [this]
   rfl
end Go.Proofs.Ytffdkniccaebmaa.Fld
end
section
set_option linter.unusedVariables false
set_option maxRecDepth 100000
namespace Go.Proofs.Ytffdkniccaebmaa.Gen
open Go Vse Go.Proofs
abbrev i64 : Ty := .int .i64
abbrev u8 : Ty := .int .u8
abbrev bs : Ty := .imm false false u8
abbrev bt : Ty := .imm true false u8
abbrev w (x : Int) : Int := IntKind.i64.wrap x
abbrev wb (x : Int) : Int := IntKind.u8.wrap x
abbrev wu (x : Int) : Int := IntKind.u64.wrap x
theorem w_id {x : Int} (h : -9223372036854775808 ≤ x) (h' : x ≤ 9223372036854775807) : w x = x := by
 simp [IntKind.wrap, IntKind.signed, IntKind.bits]
 split <;> omega
theorem nil_sound : CtxSound Try.prog (ctx []) ∧ CtxLocal (ctx []) := ctx_sound trivial
abbrev ls : Ty := .imm false false bt
abbrev lt : Ty := .imm true false bt
theorem getD_cons {α : Type} {l : List α} {k : Nat} (h : k < l.length) (d : α) : l.getD k d = l[k] := by rw [List.getD_eq_getElem?_getD, List.getElem?_eq_getElem h]; rfl
end Go.Proofs.Ytffdkniccaebmaa.Gen
end

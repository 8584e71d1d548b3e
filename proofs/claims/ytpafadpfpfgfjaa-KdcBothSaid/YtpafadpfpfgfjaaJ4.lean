/- The statements of layer 16 (kdc) hold: KdcBoth. No conditions but the given ones. Part 4. -/
import Derived.Test.YtpafadpfpfgfjaaJ3
import Derived.RangeFuncRecord
import Derived.Test.YtpafadpfpfgfjaaProg
import Derived.KernelRfl
import Derived.Sort.Row
set_option linter.unusedVariables false
set_option linter.unusedSimpArgs false
section
section
set_option linter.unusedVariables false
namespace Vse
open Go Go.ChangeShapes
structure Rn where
 p : Nat → Bool
 cur : Nat → Nat
 to : Nat → Nat
 gT : Nat → Nat
 lent : Nat → Entry
 lp : Bool
def noE (_ : Nat) : Bool := false
def convV (R : Rn) (p : Bool) (a : Ty) (v : AV) : Option (List a.den) :=
 if keepOk p v && (!p || R.lp || (vcOf v).isEmpty) then match seen v ((vcOf v).map R.lent) with
  | some ⟨b, l⟩ => if b.inn noE false then castL ⟨b, l⟩ a else none
  | none => none
 else none
def convP (R : Rn) (p : Bool) (a : Ty) (e : Nat) (q : List PS) (x : PD q) : Option a.den :=
 if !p || R.lp then match R.lent e with
  | .box T z => match getP T z q x with
   | some t => if t.T.inn noE false then asW a t.T t.x else none
   | none => none
  | _ => none
 else none
def conv (R : Rn) : (W : Ty) → (T : Ty) → T.den → Option W.den
 | .prod a b, T, x => match T, x with
  | .prod c d, x => match conv R a c x.1 with
   | some y => match conv R b d x.2 with
    | some z => some (y, z)
    | none => none
   | none => none
  | _, _ => none
 | .vc t K, T, _ => match T with
  | .vc e g => if R.p e && decide (g = R.cur e) && decide (R.to e = t) && decide (R.gT t = K) then some () else none
  | _ => none
 | .mp t, T, _ => match T with
  | .mp e => if R.p e && decide (R.to e = t) then some () else none
  | _ => none
 | .ptr t p, T, x => match T, x with
  | .ptr e q, x => if R.p e && decide (R.to e = t) then (if h : q = p then some (h ▸ x) else none) else none
  | _, _ => none
 | .imm p f a, T, x => match T, x with
  | .nils, _ => if f then none else some []
  | .vc e g, u => if f then none else convV R p a (.v (.vc e g) u)
  | .sub e q, d => if f then none else convV R p a (.v (.sub e q) d)
  | .sv e q, d => if f then none else convV R p a (.v (.sv e q) d)
  | .tg q b, l => if f then none else convV R p a (.v (.tg q b) l)
  | .imm p' f' b, l => if (p' || !p) && (f' || !f) && b.inn noE false then castL ⟨b, l⟩ a else none
  | _, _ => none
 | .fn k c, T, x => match T, x with
  | .fn k' d, x => if k = k' then conv R c d x else none
  | _, _ => none
 | .ip p a, T, x => match T, x with
  | .ptr e q, x => convP R p a e q x
  | .ip p' b, y => if (p' || !p) && b.inn noE false then asW a b y else none
  | _, _ => none
 | W, T, x => if T.inn noE false then castT ⟨T, x⟩ W else none
structure CRel (R : Rn) (g g' : G) : Prop where
 fr : ∀ b o, g.fr b = some o → g'.fr b = some o
 gr : ∀ b o, g.gr b = some o → g'.gr b = some o
 bl : ∀ e, R.p e = true → g'.bl (R.to e) = g.bl e
 sz : ∀ e, R.p e = true → g'.sz (R.to e) = g.sz e
 sh : ∀ e, R.p e = true → match g.sh e with
  | .vec k s n => k = R.cur e ∧ g'.sh (R.to e) = .vec (R.gT (R.to e)) s n
  | .box s => g'.sh (R.to e) = .box s
  | .map => g'.sh (R.to e) = .map
  | .dead => g'.sh (R.to e) = .dead
  | .free => True
 lent : (∀ (v : AV) (p : Bool) (a : Ty) (l : List a.den) (rv : Value), convV R p a v = some l → VRep g v rv → VRep g' (.v (.imm p false a) l) rv) ∧
  ∀ (e : Nat) (q : List PS) (x : PD q) (p : Bool) (a : Ty) (y : a.den) (rv : Value), convP R p a e q x = some y → VRep g (.v (.ptr e q) x) rv → VRep g' (.v (.ip p a) y) rv
theorem CRel.agree {R : Rn} {g g' : G} (h : CRel R g g') : g.agree noE false g' := ⟨h.fr, fun _ => h.gr, fun e he => by cases he⟩
theorem castL_some {y : (a : Ty) × List a.den} {a : Ty} {l : List a.den} (h : castL y a = some l) : y = ⟨a, l⟩ := by
 obtain ⟨b, m⟩ := y
 unfold castL at h
 split at h
 ·rename_i he
  simp only at he
  subst he
  simp only [Option.some.injEq] at h
  subst h
  rfl
 ·cases h
theorem conv_sk {R : Rn} : ∀ (W T : Ty) (x : T.den) (y : W.den), conv R W T x = some y → W.sk = T.sk := by
 intro W
 have dflt : ∀ {W T : Ty} {x : T.den} {y : W.den}, (if T.inn noE false then castT ⟨T, x⟩ W else none) = some y → W.sk = T.sk := by
  intro W T x y h
  split at h
  ·have := castT_spec h
   simp only [TV.mk.injEq] at this
   rw [this.1]
  ·cases h
 induction W with
 | prod a b iha ihb =>
  intro T x y h
  cases T <;> simp only [conv] at h <;> try (cases h; done)
  split at h
  ·rename_i y1 h1
   split at h
   ·rename_i y2 h2
    simp only [Ty.sk]
    rw [iha _ _ _ h1, ihb _ _ _ h2]
   ·cases h
  ·cases h
 | vc t K => intro T x y h; cases T <;> simp only [conv] at h <;> first | (cases h; done) | rfl
 | ptr t p => intro T x y h; cases T <;> simp only [conv] at h <;> first | (cases h; done) | rfl
 | mp t => intro T x y h; cases T <;> simp only [conv] at h <;> first | (cases h; done) | rfl
 | imm p f a => intro T x y h; cases T <;> simp only [conv] at h <;> first | (cases h; done) | rfl
 | fn k c => intro T x y h; cases T <;> simp only [conv] at h <;> first | (cases h; done) | rfl
 | ip p a => intro T x y h; cases T <;> simp only [conv] at h <;> first | (cases h; done) | rfl
 | _ => intro T x y h; exact dflt h
theorem conv_agg {R : Rn} {W T : Ty} {x : T.den} {y : W.den} (h : conv R W T x = some y) : W.agg = T.agg := by
 unfold Ty.agg
 rw [conv_sk W T x y h]
theorem conv_Rep {R : Rn} {g g' : G} (hc : CRel R g g') : ∀ (W T : Ty) (x : T.den) (y : W.den) (cs : List Value), conv R W T x = some y → (Rep g T x cs → Rep g' W y cs) ∧ (Rep.RepC g T x cs → Rep.RepC g' W y cs) := by
 intro W
 have dflt : ∀ {W T : Ty} {x : T.den} {y : W.den} (cs : List Value), (if T.inn noE false then castT ⟨T, x⟩ W else none) = some y → (Rep g T x cs → Rep g' W y cs) ∧ (Rep.RepC g T x cs → Rep.RepC g' W y cs) := by
  intro W T x y cs h
  split at h
  ·rename_i hi
   have := castT_spec h
   simp only [TV.mk.injEq] at this
   obtain ⟨rfl, h2⟩ := this
   have h2 := eq_of_heq h2
   subst h2
   exact inn_Rep hc.agree T x cs hi
  ·cases h
 induction W with
 | prod a b iha ihb =>
  intro T x y cs h
  cases T <;> simp only [conv] at h <;> try (cases h; done)
  rename_i c d
  split at h
  ·rename_i y1 h1
   split at h
   ·rename_i y2 h2
    simp only [Option.some.injEq] at h
    subst h
    constructor
    ·rintro ⟨c1, c2, rfl, r1, r2⟩
     exact ⟨c1, c2, rfl, (iha _ _ _ _ h1).1 r1, (ihb _ _ _ _ h2).1 r2⟩
    ·rintro ⟨v, r, rfl, r1, r2⟩
     refine ⟨v, r, rfl, ?_, (ihb _ _ _ _ h2).2 r2⟩
     rw [conv_agg h1]
     split at r1
     ·rw [if_pos (by assumption)]
      obtain ⟨q, q1, q2⟩ := r1
      exact ⟨q, q1, (iha _ _ _ _ h1).1 q2⟩
     ·rw [if_neg (by assumption)]
      exact (iha _ _ _ _ h1).1 r1
   ·cases h
  ·cases h
 | vc t K =>
  intro T x y cs h
  cases T <;> simp only [conv] at h <;> try (cases h; done)
  rename_i e k
  split at h
  ·rename_i hh
   simp only [Bool.and_eq_true, decide_eq_true_eq] at hh
   obtain ⟨⟨⟨hp, hk⟩, ht⟩, hK⟩ := hh
   subst ht
   subst hK
   subst hk
   refine ⟨?_, fun hr => by simp [Rep.RepC] at hr⟩
   rintro ⟨h1, h2⟩
   refine ⟨h1, ?_⟩
   have hs := hc.sh e hp
   unfold G.vcr at h2 ⊢
   rw [hc.bl e hp, hc.sz e hp]
   cases he : g.sh e with
   | free => rw [he] at h2; exact h2.elim
   | dead => rw [he] at hs; simp only at hs; rw [hs]; trivial
   | box s => rw [he] at h2; exact h2.elim
   | map => rw [he] at h2; exact h2.elim
   | vec k s n =>
    rw [he] at hs h2
    simp only at hs h2
    rw [hs.2]
    simp only
    exact ⟨Nat.le_refl _, fun _ => h2.2 hs.1.symm⟩
  ·cases h
 | ptr t p =>
  intro T x y cs h
  cases T <;> simp only [conv] at h <;> try (cases h; done)
  rename_i e q
  split at h
  ·rename_i hh
   simp only [Bool.and_eq_true, decide_eq_true_eq] at hh
   obtain ⟨hp, ht⟩ := hh
   subst ht
   split at h
   ·rename_i hq
    subst hq
    simp only [Option.some.injEq] at h
    subst h
    refine ⟨?_, fun hr => by simp [Rep.RepC] at hr⟩
    rintro ⟨h1, h2⟩
    refine ⟨h1, ?_⟩
    have hs := hc.sh e hp
    unfold G.bxr at h2 ⊢
    rw [hc.bl e hp]
    cases he : g.sh e with
    | free => rw [he] at h2; exact h2.elim
    | dead => rw [he] at hs; simp only at hs; rw [hs]; trivial
    | vec k s n => rw [he] at h2; exact h2.elim
    | map => rw [he] at h2; exact h2.elim
    | box s =>
     rw [he] at hs h2
     simp only at hs h2
     rw [hs]
     exact h2
   ·cases h
  ·cases h
 | mp t =>
  intro T x y cs h
  cases T <;> simp only [conv] at h <;> try (cases h; done)
  rename_i e
  split at h
  ·rename_i hh
   simp only [Bool.and_eq_true, decide_eq_true_eq] at hh
   obtain ⟨hp, ht⟩ := hh
   subst ht
   refine ⟨?_, fun hr => by simp [Rep.RepC] at hr⟩
   rintro ⟨h1, h2⟩
   refine ⟨h1, ?_⟩
   have hs := hc.sh e hp
   unfold G.mpr at h2 ⊢
   rw [hc.bl e hp]
   cases he : g.sh e with
   | free => rw [he] at h2; exact h2.elim
   | dead => rw [he] at hs; simp only at hs; rw [hs]; trivial
   | vec k s n => rw [he] at h2; exact h2.elim
   | box s => rw [he] at h2; exact h2.elim
   | map =>
    rw [he] at hs h2
    simp only at hs h2
    rw [hs]
    exact h2
  ·cases h
 | imm p f a ih =>
  intro T x y cs h
  cases T <;> simp only [conv] at h <;> try (cases h; done)
  ·rename_i p' f' b
   split at h
   ·rename_i hh
    simp only [Bool.and_eq_true, Bool.or_eq_true, Bool.not_eq_true'] at hh
    obtain ⟨⟨hp, hf⟩, hb⟩ := hh
    have := castL_some h
    simp only [Sigma.mk.injEq] at this
    obtain ⟨rfl, h2⟩ := this
    have h2 := eq_of_heq h2
    subst h2
    refine ⟨?_, fun hr => by simp [Rep.RepC] at hr⟩
    rintro ⟨pv, cap, h1, h2, h3, h4⟩
    refine ⟨pv, cap, h1, h2, fun hx => h3 (hf.resolve_right (by simp [hx])), fun hne => ?_⟩
    obtain ⟨ad, vs, a1, a2, a3⟩ := h4 hne
    refine ⟨ad, vs, a1, repL_mono (fun z _ cs => (inn_Rep hc.agree b z cs hb).1) a2, ?_⟩
    rcases a3 with a3 | ⟨a3, a4⟩
    ·exact .inl (reads_mono hc.fr a3)
    ·exact .inr ⟨hp.resolve_left (by simp [a3]), reads_mono hc.gr a4⟩
   ·cases h
  ·rename_i e k
   refine ⟨?_, fun hr => by simp [Rep.RepC] at hr⟩
   intro hr
   split at h
   ·cases h
   ·rename_i hf
    have hf : f = false := by simpa using hf
    subst hf
    obtain ⟨v0, hv0⟩ : ∃ v0, cs = [v0] := by
     have := Rep_length _ _ _ hr
     match cs, this with
     | [v0], _ => exact ⟨v0, rfl⟩
    subst hv0
    have := hc.lent.1 _ _ _ _ v0 h ((VRep_v (by simp)).2 (TRep_of_leaf rfl hr))
    have := (VRep_v (by simp)).1 this
    unfold TRep at this
    rwa [if_neg (by simp [Ty.agg, Ty.sk, Sk.agg])] at this
  ·split at h
   ·cases h
   ·rename_i hf
    simp only [Option.some.injEq] at h
    subst h
    refine ⟨?_, fun hr => by simp [Rep.RepC] at hr⟩
    intro hr
    simp only [Rep] at hr
    subst hr
    exact ⟨none, 0, rfl, by simp, by simp [hf], fun h => absurd rfl h⟩
  ·rename_i e k
   refine ⟨?_, fun hr => by simp [Rep.RepC] at hr⟩
   intro hr
   split at h
   ·cases h
   ·rename_i hf
    have hf : f = false := by simpa using hf
    subst hf
    obtain ⟨v0, hv0⟩ : ∃ v0, cs = [v0] := by
     have := Rep_length _ _ _ hr
     match cs, this with
     | [v0], _ => exact ⟨v0, rfl⟩
    subst hv0
    have := hc.lent.1 _ _ _ _ v0 h ((VRep_v (by simp)).2 (TRep_of_leaf rfl hr))
    have := (VRep_v (by simp)).1 this
    unfold TRep at this
    rwa [if_neg (by simp [Ty.agg, Ty.sk, Sk.agg])] at this
  ·rename_i e k
   refine ⟨?_, fun hr => by simp [Rep.RepC] at hr⟩
   intro hr
   split at h
   ·cases h
   ·rename_i hf
    have hf : f = false := by simpa using hf
    subst hf
    obtain ⟨v0, hv0⟩ : ∃ v0, cs = [v0] := by
     have := Rep_length _ _ _ hr
     match cs, this with
     | [v0], _ => exact ⟨v0, rfl⟩
    subst hv0
    have := hc.lent.1 _ _ _ _ v0 h ((VRep_v (by simp)).2 (TRep_of_leaf rfl hr))
    have := (VRep_v (by simp)).1 this
    unfold TRep at this
    rwa [if_neg (by simp [Ty.agg, Ty.sk, Sk.agg])] at this
  ·rename_i e k
   refine ⟨?_, fun hr => by simp [Rep.RepC] at hr⟩
   intro hr
   split at h
   ·cases h
   ·rename_i hf
    have hf : f = false := by simpa using hf
    subst hf
    obtain ⟨v0, hv0⟩ : ∃ v0, cs = [v0] := by
     have := Rep_length _ _ _ hr
     match cs, this with
     | [v0], _ => exact ⟨v0, rfl⟩
    subst hv0
    have := hc.lent.1 _ _ _ _ v0 h ((VRep_v (by simp)).2 (TRep_of_leaf rfl hr))
    have := (VRep_v (by simp)).1 this
    unfold TRep at this
    rwa [if_neg (by simp [Ty.agg, Ty.sk, Sk.agg])] at this
 | ip p a ih =>
  intro T x y cs h
  cases T <;> simp only [conv] at h <;> try (cases h; done)
  ·refine ⟨?_, fun hr => by simp [Rep.RepC] at hr⟩
   intro hr
   obtain ⟨v0, hv0⟩ : ∃ v0, cs = [v0] := by
    have := Rep_length _ _ _ hr
    match cs, this with
    | [v0], _ => exact ⟨v0, rfl⟩
   subst hv0
   have := hc.lent.2 _ _ _ _ _ _ v0 h ((VRep_v (by simp)).2 (TRep_of_leaf rfl hr))
   have := (VRep_v (by simp)).1 this
   unfold TRep at this
   rwa [if_neg (by simp [Ty.agg, Ty.sk, Sk.agg])] at this
  ·refine ⟨?_, fun hr => by simp [Rep.RepC] at hr⟩
   split at h
   ·rename_i hh
    simp only [Bool.and_eq_true, Bool.or_eq_true, Bool.not_eq_true'] at hh
    rintro ⟨ad, vs, h1, h2, h3⟩
    refine ⟨ad, vs, h1, asW_Rep _ _ _ _ _ h ((inn_Rep hc.agree _ _ _ hh.2).1 h2), ?_⟩
    rcases h3 with h3 | ⟨h3, h4⟩
    ·exact .inl (reads_mono hc.fr h3)
    ·rcases hh.1 with q | q
     ·rw [q] at h3; cases h3
     ·exact .inr ⟨q, reads_mono hc.gr h4⟩
   ·cases h
 | fn k c ih =>
  intro T x y cs h
  cases T <;> simp only [conv] at h <;> try (cases h; done)
  rename_i k' d
  split at h
  ·rename_i hk
   subst hk
   refine ⟨?_, fun hr => by simp [Rep.RepC] at hr⟩
   rintro ⟨vs, h1, h2⟩
   exact ⟨vs, h1, (ih _ _ _ _ h).2 h2⟩
  ·cases h
 | _ => intro T x y cs h; exact dflt cs h
theorem conv_TRep {R : Rn} {g g' : G} (hc : CRel R g g') {W T : Ty} {x : T.den} {y : W.den} {v : Value} (h : conv R W T x = some y) (hr : TRep g T x v) : TRep g' W y v := by
 unfold TRep at hr ⊢
 rw [conv_agg h]
 split
 ·rw [if_pos (by assumption)] at hr; obtain ⟨cs, h1, h2⟩ := hr; exact ⟨cs, h1, (conv_Rep hc _ _ _ _ _ h).1 h2⟩
 ·rw [if_neg (by assumption)] at hr; exact (conv_Rep hc _ _ _ _ _ h).1 hr
theorem conv_und {R : Rn} {W T : Ty} {x : T.den} {y : W.den} (h : conv R W T x = some y) (hT : T = .und) : W = .und := by
 subst hT
 cases W <;> simp only [conv] at h <;> try (cases h; done)
 all_goals
  split at h
  ·have := castT_spec h
   simp only [TV.mk.injEq] at this
   first | rfl | (cases this.1)
  ·cases h
theorem conv_VRep {R : Rn} {g g' : G} (hc : CRel R g g') {W T : Ty} {x : T.den} {y : W.den} {v : Value} (h : conv R W T x = some y) (hr : VRep g (.v T x) v) : VRep g' (.v W y) v := by
 by_cases hT : T = .und
 ·have := conv_und h hT
  subst this
  trivial
 ·by_cases hW : W = .und
  ·subst hW; trivial
  ·exact (VRep_v hW).2 (conv_TRep hc h ((VRep_v hT).1 hr))
def EC (R : Rn) : Entry → Entry → Prop
 | .box T x, .box W y => conv R W T x = some y
 | .vec _ a l, .vec _ b m => (⟨a, l⟩ : (a : Ty) × List a.den) = ⟨b, m⟩ ∧ a.inn noE false = true
 | .map K V l, .map K' V' l' => (⟨K, V, l⟩ : (K : Ty) × (V : Ty) × List (K.den × V.den)) = ⟨K', V', l'⟩ ∧ (K.inn noE false = true ∧ V.inn noE false = true)
 | .dead, .dead => True
 | _, _ => False
noncomputable def G.rn (g : G) (H : Heap) (w : World) (p : Nat → Bool) (frz : Bool) (from_ : Nat → Nat) (H' : Heap) : G := { g with
 fr := fun b => open Classical in if (g.fr b).isSome then g.fr b else if frz = true ∧ ∃ e, p e = false ∧ (getE H e).live = true ∧ g.bl e = some b then w.heap[b]? else none
 sh := fun t => shp (getE H' t)
 bl := fun t => g.bl (from_ t)
 sz := fun t => g.sz (from_ t) }
theorem rn_fr {g : G} {H H' : Heap} {w : World} {p : Nat → Bool} {frz : Bool} {from_ : Nat → Nat} {b : Nat} {o : Obj} (h : g.fr b = some o) : (g.rn H w p frz from_ H').fr b = some o := by simp [G.rn, h]
theorem lent_view1 {g g' : G} {H : Heap} {w : World} (hI : HInv g H w) {R : Rn} (hR : ∀ e, R.lent e = getE H e ∨ R.lent e = .dead) (hfr : ∀ b o, g.fr b = some o → g'.fr b = some o) (hgr : ∀ b o, g.gr b = some o → g'.gr b = some o)
  (hblk : ∀ e b o, R.lent e = getE H e → (R.lent e).live = true → g.bl e = some b → w.heap[b]? = some o → g'.fr b = some o ∨ (R.lp = false ∧ g'.gr b = some o)) :
  ∀ (v : AV) (p : Bool) (a : Ty) (l : List a.den) (rv : Value), convV R p a v = some l → VRep g v rv → VRep g' (.v (.imm p false a) l) rv := by
 intro v p a l rv h hv
 have hag : g.agree noE false g' := ⟨hfr, fun _ => hgr, fun e he => by cases he⟩
 unfold convV at h
 split at h
 ·rename_i hc
  simp only [Bool.and_eq_true, Bool.or_eq_true, Bool.not_eq_true'] at hc
  obtain ⟨hk, hp⟩ := hc
  split at h
  ·rename_i b m hs
   split at h
   ·rename_i hb
    have := castL_some h
    simp only [Sigma.mk.injEq] at this
    obtain ⟨rfl, h2⟩ := this
    have h2 := eq_of_heq h2
    subst h2
    have hone : vcOf v = [] ∨ ∃ e, vcOf v = [e] := by
     unfold vcOf
     split
     ·exact .inr ⟨_, rfl⟩
     ·exact .inr ⟨_, rfl⟩
     ·exact .inr ⟨_, rfl⟩
     ·exact .inl rfl
    rcases hone with h0 | ⟨e, h0⟩
    ·have hs' : seen v (ents H (vcOf v)) = some ⟨b, m⟩ := by rw [h0] at hs ⊢; exact hs
     refine seen_view hI hv hs' hk hfr hgr (fun e bb o hvc => ?_) fun x cs => (inn_Rep hag b x cs hb).1
     rw [h0] at hvc; cases hvc
    ·have hlv : (R.lent e).live = true ∧ R.lent e = getE H e := by
      rcases hR e with hq | hq
      ·refine ⟨?_, hq⟩
       rw [h0] at hs
       simp only [List.map_cons, List.map_nil] at hs
       cases hE : R.lent e with
       | box => rfl
       | vec => rfl
       | map => rfl
       | itr => rfl
       | dead =>
        rw [hE] at hs
        unfold vcOf at h0
        split at h0
        ·simp [seen] at hs
        ·simp [seen] at hs
        ·simp [seen] at hs
        ·cases h0
       | free =>
        rw [hE] at hs
        unfold vcOf at h0
        split at h0
        ·simp [seen] at hs
        ·simp [seen] at hs
        ·simp [seen] at hs
        ·cases h0
      ·rw [h0] at hs
       simp only [List.map_cons, List.map_nil, hq] at hs
       unfold vcOf at h0
       split at h0
       ·simp [seen] at hs
       ·simp [seen] at hs
       ·simp [seen] at hs
       ·cases h0
     have hs' : seen v (ents H (vcOf v)) = some ⟨b, m⟩ := by
      rw [h0] at hs ⊢
      simp only [List.map_cons, List.map_nil, hlv.2] at hs
      exact hs
     refine seen_view hI hv hs' hk hfr hgr (fun e' bb o hvc hl hb' ho => ?_) fun x cs => (inn_Rep hag b x cs hb).1
     rw [h0] at hvc
     simp only [List.cons.injEq, and_true] at hvc
     subst hvc
     rcases hblk e bb o hlv.2 hlv.1 hb' ho with q | ⟨q1, q2⟩
     ·exact .inl q
     ·refine .inr ⟨?_, q2⟩
      rcases hp with (hp | hp) | hp
      ·exact hp
      ·rw [q1] at hp; cases hp
      ·rw [h0] at hp; cases hp
   ·cases h
  ·cases h
 ·cases h
theorem lent_view {g g' : G} {H : Heap} {w : World} (hI : HInv g H w) {R : Rn} (hR : ∀ e, R.lent e = getE H e ∨ R.lent e = .dead) (hfr : ∀ b o, g.fr b = some o → g'.fr b = some o) (hgr : ∀ b o, g.gr b = some o → g'.gr b = some o)
  (hblk : ∀ e b o, R.lent e = getE H e → (R.lent e).live = true → g.bl e = some b → w.heap[b]? = some o → g'.fr b = some o ∨ (R.lp = false ∧ g'.gr b = some o)) :
  (∀ (v : AV) (p : Bool) (a : Ty) (l : List a.den) (rv : Value), convV R p a v = some l → VRep g v rv → VRep g' (.v (.imm p false a) l) rv) ∧
  ∀ (e : Nat) (q : List PS) (x : PD q) (p : Bool) (a : Ty) (y : a.den) (rv : Value), convP R p a e q x = some y → VRep g (.v (.ptr e q) x) rv → VRep g' (.v (.ip p a) y) rv := by
 refine ⟨lent_view1 hI hR hfr hgr hblk, ?_⟩
 intro e q x p a y rv h hv
 have hag : g.agree noE false g' := ⟨hfr, fun _ => hgr, fun e he => by cases he⟩
 unfold convP at h
 split at h
 ·rename_i hp
  split at h
  ·rename_i T z hbox
   split at h
   ·rename_i t ht
    split at h
    ·rename_i hin
     have hE : R.lent e = getE H e := by
      rcases hR e with q | q
      ·exact q
      ·rw [q] at hbox; cases hbox
     have hlive : (R.lent e).live = true := by rw [hbox]; rfl
     have hent := hI.ent e
     rw [← hE, hbox] at hent
     obtain ⟨b, cs, tt, fz, w1, w2, w3, w4⟩ := hent
     have hv := (VRep_v (by simp)).1 hv
     have hsh : g.sh e = .box T.sk := by rw [hI.sh, ← hE, hbox]; rfl
     simp only [TRep, Ty.agg, Ty.sk, Sk.agg, Bool.false_eq_true, if_false, Rep, G.bxr, hsh] at hv
     obtain ⟨_, b', off, s', v1, v2, v3⟩ := hv
     simp only [List.cons.injEq, and_true] at v3
     subst v3
     rw [w1] at v1
     cases v1
     obtain ⟨p1, p2, p3⟩ := getP_rep T z q x cs.toList t off s' w4 ht v2
     refine (VRep_v (by simp)).2 (TRep_of_leaf rfl ?_)
     refine ⟨_, seg cs.toList off t.T.nc, rfl, asW_Rep _ _ _ _ _ h ((inn_Rep hag _ _ _ hin).1 p1), ?_⟩
     have hrd : ∀ F : Nat → Option Obj, F b = some (.cells cs tt fz) → reads F ⟨b, off, none⟩ (seg cs.toList off t.T.nc) := by
      intro F hF
      refine ⟨rfl, cs, tt, fz, hF, fun i v hv => ?_⟩
      unfold seg at hv
      have hi : i < t.T.nc := by
       have := (List.getElem?_eq_some_iff.1 hv).1
       rw [List.length_take] at this
       omega
      rw [List.getElem?_take_of_lt hi, List.getElem?_drop] at hv
      simpa using hv
     rcases hblk e b _ hE hlive w1 w2 with q | ⟨q1, q2⟩
     ·exact .inl (hrd _ q)
     ·refine .inr ⟨?_, hrd _ q2⟩
      simp only [Bool.or_eq_true, Bool.not_eq_true'] at hp
      rcases hp with hp | hp
      ·exact hp
      ·rw [q1] at hp; cases hp
    ·cases h
   ·cases h
  ·cases h
 ·cases h
theorem conv_inv {g : G} {H H' : Heap} {w : World} (hI : HInv g H w) {R : Rn} {q : Nat → Bool} {from_ : Nat → Nat}
  (h1 : ∀ e, R.p e = true → q (R.to e) = true ∧ from_ (R.to e) = e) (h2 : ∀ t, q t = true → R.p (from_ t) = true ∧ R.to (from_ t) = t)
  (hcur : ∀ e k a l, R.p e = true → getE H e = .vec k a l → k = R.cur e) (hgT : ∀ t K a l, q t = true → getE H' t = .vec K a l → R.gT t = K)
  (hE : ∀ t, q t = true → EC R (getE H (from_ t)) (getE H' t)) (hd : ∀ t, q t = false → (getE H' t).live = false) (frz : Bool) (hl : ∀ e, R.lent e = if frz && !(R.p e) then getE H e else .dead) :
  HInv (g.rn H w R.p frz from_ H') H' w ∧ CRel R g (g.rn H w R.p frz from_ H') := by
 have hrel : CRel R g (g.rn H w R.p frz from_ H') := by
  refine ⟨fun _ _ h => rn_fr h, fun _ _ h => h, fun e he => ?_, fun e he => ?_, fun e he => ?_, ?_⟩
  ·show g.bl (from_ (R.to e)) = _
   rw [(h1 e he).2]
  ·show g.sz (from_ (R.to e)) = _
   rw [(h1 e he).2]
  ·obtain ⟨hq, hf⟩ := h1 e he
   have hec := hE _ hq
   rw [hf] at hec
   rw [hI.sh e]
   show match shp (getE H e) with
    | .vec k s n => k = R.cur e ∧ shp (getE H' (R.to e)) = .vec (R.gT (R.to e)) s n
    | .box s => shp (getE H' (R.to e)) = .box s
    | .map => shp (getE H' (R.to e)) = .map
    | .dead => shp (getE H' (R.to e)) = .dead
    | .free => True
   cases hs : getE H e with
   | free => trivial
   | dead =>
    rw [hs] at hec
    cases ht : getE H' (R.to e) <;> rw [ht] at hec <;> first | rfl | (exact hec.elim)
   | box T x =>
    rw [hs] at hec
    cases ht : getE H' (R.to e) <;> rw [ht] at hec <;> try (exact hec.elim)
    simp only [shp]
    rw [conv_sk _ _ _ _ hec]
   | map K V l =>
    rw [hs] at hec
    cases ht : getE H' (R.to e) <;> rw [ht] at hec <;> first | rfl | (exact hec.elim)
   | itr s p =>
    rw [hs] at hec
    cases ht : getE H' (R.to e) <;> rw [ht] at hec <;> first | rfl | (exact hec.elim)
   | vec k a l =>
    rw [hs] at hec
    cases ht : getE H' (R.to e) <;> rw [ht] at hec <;> try (exact hec.elim)
    obtain ⟨hec, _⟩ := hec
    simp only [Sigma.mk.injEq] at hec
    obtain ⟨rfl, hll⟩ := hec
    have hll := eq_of_heq hll
    subst hll
    simp only [shp]
    exact ⟨hcur e _ _ _ he hs, by rw [hgT _ _ _ _ hq ht]⟩
  ·refine lent_view hI (fun e => ?_) (fun _ _ h => rn_fr h) (fun _ _ h => h) (fun e b o hq hlv hb ho => .inl ?_)
   ·rw [hl e]; split
    ·exact .inl rfl
    ·exact .inr rfl
   ·have hc : frz = true ∧ R.p e = false := by
     have := hl e
     by_cases hx : (frz && !(R.p e)) = true
     ·simpa using hx
     ·rw [if_neg hx] at this
      rw [this] at hlv
      cases hlv
    rw [hq] at hlv
    simp only [G.rn]
    rw [(hI.own e b hlv hb).1]
    simp only [Option.isSome_none, Bool.false_eq_true, if_false]
    rw [if_pos ⟨hc.1, e, hc.2, hlv, hb⟩]
    exact ho
 have hlive : ∀ t, (getE H' t).live = true → q t = true ∧ (getE H (from_ t)).live = true := by
  intro t ht
  cases hq : q t with
  | false => rw [hd t hq] at ht; cases ht
  | true =>
   refine ⟨rfl, ?_⟩
   have := hE t hq
   cases hs : getE H (from_ t) <;> cases ht' : getE H' t <;> rw [hs, ht'] at this <;> first | rfl | (exact this.elim) | (rw [ht'] at ht; cases ht)
 refine ⟨⟨fun e => rfl, fun b o h => ?_, hI.gr, ?_, ?_, fun b o o' h h' => ?_, ?_, hI.ext⟩, hrel⟩
 ·simp only [G.rn] at h
  split at h
  ·exact hI.fr b o h
  ·split at h
   ·exact h
   ·cases h
 ·intro t
  cases hq : q t with
  | false =>
   have := hd t hq
   cases ht : getE H' t <;> rw [ht] at this <;> first | trivial | (cases this)
  | true =>
   have hec := hE t hq
   have he := hI.ent (from_ t)
   cases ht : getE H' t with
   | free => trivial
   | dead => trivial
   | box W y =>
    rw [ht] at hec
    cases hs : getE H (from_ t) <;> rw [hs] at hec he <;> try (exact hec.elim)
    obtain ⟨b, cs, tt, fz, w1, w2, w3, w4⟩ := he
    exact ⟨b, cs, tt, fz, w1, w2, w3, (conv_Rep hrel _ _ _ _ _ hec).1 w4⟩
   | map K V l =>
    rw [ht] at hec
    cases hs : getE H (from_ t) <;> rw [hs] at hec he <;> try (exact hec.elim)
    obtain ⟨hec, hk, hv⟩ := hec
    simp only [Sigma.mk.injEq] at hec
    obtain ⟨rfl, hll⟩ := hec
    have hll := eq_of_heq hll
    simp only [Sigma.mk.injEq] at hll
    obtain ⟨rfl, hll⟩ := hll
    have hll := eq_of_heq hll
    subst hll
    obtain ⟨b, es, clock, w1, w2, w3⟩ := he
    exact ⟨b, es, clock, w1, w2, mapRep_mono (fun _ _ => inn_TRep hrel.agree hk) (fun _ _ => inn_TRep hrel.agree hv) w3⟩
   | itr s p =>
    rw [ht] at hec
    cases hs : getE H (from_ t) <;> rw [hs] at hec he <;> exact hec.elim
   | vec k a l =>
    rw [ht] at hec
    cases hs : getE H (from_ t) <;> rw [hs] at hec he <;> try (exact hec.elim)
    obtain ⟨hec, hin⟩ := hec
    simp only [Sigma.mk.injEq] at hec
    obtain ⟨rfl, hll⟩ := hec
    have hll := eq_of_heq hll
    subst hll
    rcases he with ⟨q1, q2⟩ | ⟨b', cs, tt, fz, vs, r, q1, q2, q3, q4, q5, q6, q7⟩
    ·exact .inl ⟨q1, q2⟩
    ·exact .inr ⟨b', cs, tt, fz, vs, r, q1, q2, q3, q4, q5, repL_mono (fun y _ cs => (inn_Rep hrel.agree _ y cs hin).1) q6, q7⟩
 ·intro t b hl' hb
  obtain ⟨q1, q2⟩ := hlive t hl'
  have hb : g.bl (from_ t) = some b := hb
  refine ⟨?_, (hI.own _ b q2 hb).2⟩
  simp only [G.rn]
  rw [(hI.own _ b q2 hb).1]
  simp only [Option.isSome_none, Bool.false_eq_true, if_false]
  rw [if_neg]
  rintro ⟨_, e, h3, h4, h5⟩
  have := hI.dis _ _ b q2 h4 hb h5
  rw [← this, (h2 t q1).1] at h3
  cases h3
 ·simp only [G.rn] at h
  split at h
  ·exact hI.sep b o o' h h'
  ·split at h
   ·rename_i hx
    obtain ⟨_, e, h3, h4, h5⟩ := hx
    have h' : g.gr b = some o' := h'
    rw [(hI.own e b h4 h5).2] at h'
    cases h'
   ·cases h
 ·intro t t' b hl1 hl2 hb1 hb2
  obtain ⟨q1, q2⟩ := hlive t hl1
  obtain ⟨q3, q4⟩ := hlive t' hl2
  have := hI.dis _ _ b q2 q4 hb1 hb2
  rw [← (h2 t q1).2, ← (h2 t' q3).2, this]
end Vse
end
section
set_option linter.unusedVariables false
namespace Vse
open Go Go.ChangeShapes
def genE : Entry → Nat
 | .vec k _ _ => k
 | _ => 0
def genY : Option ETy → Nat
 | some (.vec k _) => k
 | _ => 0
def idxOf : List Nat → Nat → Nat
 | [], _ => 0
 | x :: l, e => if x = e then 0 else idxOf l e + 1
def dedupN : List Nat → List Nat
 | [] => []
 | x :: l => x :: (dedupN l).filter fun y => !(y == x)
def decC (R : Rn) : (Fs : List ETy) → List Entry → Option (HD Fs)
 | [], [] => some ()
 | .dead :: l, _ :: h => decC R l h
 | .box W :: l, .box T x :: h => match conv R W T x with
  | some y => match decC R l h with
   | some r => some (y, r)
   | none => none
  | none => none
 | .vec _ a :: l, .vec _ b x :: h => if b.inn noE false then (match castL ⟨b, x⟩ a with
  | some y => match decC R l h with
   | some r => some (y, r)
   | none => none
  | none => none) else none
 | .map K V :: l, .map K' V' x :: h => if K'.inn noE false && V'.inn noE false then (match castM x K V with
  | some y => match decC R l h with
   | some r => some (y, r)
   | none => none
  | none => none) else none
 | _, _ => none
def liveY : Option ETy → Bool
 | some (.box _) => true
 | some (.vec _ _) => true
 | some (.map _ _) => true
 | _ => false
theorem decC_EC {R : Rn} : ∀ {Fs : List ETy} {h : List Entry} {y : HD Fs}, decC R Fs h = some y → h.length = Fs.length ∧ ∀ t, liveY Fs[t]? = true → EC R (getE h t) (getE (encH Fs y) t)
 | [], [], y, _ => ⟨rfl, fun t ht => by simp [liveY] at ht⟩
 | [], _ :: _, y, h => by simp [decC] at h
 | .free :: l, [], y, h => by simp [decC] at h
 | .free :: l, _ :: _, y, h => by simp [decC] at h
 | .dead :: l, [], y, h => by simp [decC] at h
 | .dead :: l, e :: hh, y, h => by
  simp only [decC] at h
  obtain ⟨q1, q2⟩ := decC_EC h
  refine ⟨by simp [q1], fun t ht => ?_⟩
  cases t with
  | zero => simp [liveY] at ht
  | succ t => exact q2 t (by simpa using ht)
 | .box W :: l, [], y, h => by simp [decC] at h
 | .box W :: l, e :: hh, y, h => by
  cases e <;> simp only [decC] at h <;> try (cases h; done)
  split at h
  ·rename_i z hz
   split at h
   ·rename_i r hr
    simp only [Option.some.injEq] at h
    subst h
    obtain ⟨q1, q2⟩ := decC_EC hr
    refine ⟨by simp [q1], fun t ht => ?_⟩
    cases t with
    | zero => exact hz
    | succ t => exact q2 t (by simpa using ht)
   ·cases h
  ·cases h
 | .vec k a :: l, [], y, h => by simp [decC] at h
 | .vec k a :: l, e :: hh, y, h => by
  cases e <;> simp only [decC] at h <;> try (cases h; done)
  split at h
  ·rename_i hi
   split at h
   ·rename_i z hz
    split at h
    ·rename_i r hr
     simp only [Option.some.injEq] at h
     subst h
     obtain ⟨q1, q2⟩ := decC_EC hr
     refine ⟨by simp [q1], fun t ht => ?_⟩
     cases t with
     | zero => exact ⟨castL_some hz, hi⟩
     | succ t => exact q2 t (by simpa using ht)
    ·cases h
   ·cases h
  ·cases h
 | .map K V :: l, [], y, h => by simp [decC] at h
 | .map K V :: l, e :: hh, y, h => by
  cases e <;> simp only [decC] at h <;> try (cases h; done)
  split at h
  ·rename_i hi
   simp only [Bool.and_eq_true] at hi
   split at h
   ·rename_i z hz
    split at h
    ·rename_i r hr
     simp only [Option.some.injEq] at h
     subst h
     obtain ⟨q1, q2⟩ := decC_EC hr
     refine ⟨by simp [q1], fun t ht => ?_⟩
     cases t with
     | zero => exact ⟨castM_some hz, hi⟩
     | succ t => exact q2 t (by simpa using ht)
    ·cases h
   ·cases h
  ·cases h
theorem encH_dead : ∀ {Fs : List ETy} {y : HD Fs} {t : Nat}, liveY Fs[t]? = false → (getE (encH Fs y) t).live = false
 | [], y, t, h => rfl
 | E :: l, y, 0, h => by cases E <;> simp [liveY] at h <;> rfl
 | E :: l, y, t + 1, h => by
  cases E <;> exact encH_dead (Fs := l) (by simpa using h)
theorem encH_gen : ∀ {Fs : List ETy} {y : HD Fs} {t K : Nat} {a : Ty} {l : List a.den}, getE (encH Fs y) t = .vec K a l → genY Fs[t]? = K
 | [], y, t, K, a, l, h => by simp [encH, getE] at h
 | E :: Es, y, 0, K, a, l, h => by
  cases E <;> simp [encH, getE] at h
  simp [genY, h.1]
 | E :: Es, y, t + 1, K, a, l, h => by
  have : genY Es[t]? = K := by
   cases E <;> exact encH_gen (Fs := Es) h
  simpa using this
structure PSpec where
 As : List Ty
 Rs : List Ty
 Es : List ETy
 Fs : List ETy
 inis : List (Nat × Nat × Ty)
abbrev PSpec.Out (S : PSpec) := HL S.Rs × HD S.Fs
def PSpec.news (S : PSpec) : Nat := S.Fs.length - S.Es.length
def convL (R : Rn) : (Ws : List Ty) → List TV → Option (HL Ws)
 | [], [] => some ()
 | W :: Ws, t :: ts => match conv R W t.T t.x with
  | some y => match convL R Ws ts with
   | some r => some (y, r)
   | none => none
  | none => none
 | _, _ => none
def convR (R : Rn) : (Ws : List Ty) → AV → Option (HL Ws)
 | [W], .v T x => match conv R W T x with
  | some y => some (y, ())
  | none => none
 | [_], .tup _ => none
 | Ws, .tup l => convL R Ws l
 | _, _ => none
theorem convL_rep {R : Rn} {g g' : G} (hc : CRel R g g') : ∀ {Ws : List Ty} {l : List TV} {y : HL Ws} {vs : List Value}, convL R Ws l = some y → tupRep g l vs → tupRep g' (tvs Ws y) vs
 | [], [], y, vs, _, hr => hr
 | [], _ :: _, y, vs, h, _ => by simp [convL] at h
 | W :: Ws, [], y, vs, h, _ => by simp [convL] at h
 | W :: Ws, t :: ts, y, vs, h, ⟨v, r, h1, h2, h3⟩ => by
  simp only [convL] at h
  split at h
  ·rename_i z hz
   split at h
   ·rename_i q hq
    simp only [Option.some.injEq] at h
    subst h
    exact ⟨v, r, h1, conv_TRep hc hz h2, convL_rep hc hq h3⟩
   ·cases h
  ·cases h
theorem convR_rep {R : Rn} {g g' : G} (hc : CRel R g g') {Ws : List Ty} {a : AV} {y : HL Ws} {v : Value} (h : convR R Ws a = some y) (hr : VRep g a v) : VRep g' (ofHL Ws y) v := by
 unfold convR at h
 split at h
 ·split at h
  ·rename_i z hz
   simp only [Option.some.injEq] at h
   subst h
   exact conv_VRep hc hz hr
  ·cases h
 ·cases h
 ·rename_i Ws' l hne
  obtain ⟨vs, rfl, hr⟩ := hr
  have := convL_rep hc h hr
  unfold ofHL
  split
  ·exact absurd rfl (hne _)
  ·exact ⟨vs, rfl, this⟩
 ·cases h
def unifU : Ty → Ty → List (Nat × Nat)
 | .vc i _, .vc e _ => [(e, i)]
 | .ptr i _, .ptr e _ => [(e, i)]
 | .mp i, .mp e => [(e, i)]
 | .prod a b, .prod c d => unifU a c ++ unifU b d
 | .fn _ a, .fn _ b => unifU a b
 | _, _ => []
def unifTs : List Ty → List TV → List (Nat × Nat)
 | W :: Ws, t :: ts => unifU t.T W ++ unifTs Ws ts
 | _, _ => []
def unifR : List Ty → AV → List (Nat × Nat)
 | [W], .v T _ => unifU T W
 | Ws, .tup l => unifTs Ws l
 | _, _ => []
def lookP (d : Nat) : List (Nat × Nat) → Nat
 | [] => d
 | (e, i) :: l => if e = d then i else lookP d l
def srcs (H : Heap) : List ETy → Nat → List (Nat × Nat) → List Nat
 | [], _, _ => []
 | .box W :: Fs, t, ps => lookP t ps :: srcs H Fs (t + 1) (ps ++ match getE H (lookP t ps) with
  | .box T _ => unifU T W
  | _ => [])
 | .vec _ _ :: Fs, t, ps => lookP t ps :: srcs H Fs (t + 1) ps
 | .map _ _ :: Fs, t, ps => lookP t ps :: srcs H Fs (t + 1) ps
 | _ :: Fs, t, ps => (H.length + t) :: srcs H Fs (t + 1) ps
def boxIds : List ETy → Nat → List (Nat × Nat)
 | [], _ => []
 | .box _ :: Es, t => (t, t) :: boxIds Es (t + 1)
 | _ :: Es, t => boxIds Es (t + 1)
def addNils : List (Nat × Nat × Ty) → St → St
 | [], st => st
 | (b, m, a) :: l, st => match addIniB b m 0 a st with
  | some st' => addNils l st'
  | none => addNils l st
def turnOk : ETy → ETy → Bool → Bool
 | .box _, .box _, same => same
 | .vec k _, .vec k' _, same => decide (k < k') || (decide (k = k') && same)
 | .box _, .dead, _ => true
 | .vec _ _, .dead, _ => true
 | .map _ _, .map _ _, same => same
 | .map _ _, .dead, _ => true
 | .dead, .dead, _ => true
 | _, _, _ => false
def turnsOk (H : Heap) : List ETy → List ETy → List Nat → Nat → Bool
 | [], _, _, _ => true
 | E :: Es, F :: Fs, s :: ss, t => turnOk E F (s == t && decide (genE (getE H s) = genY (some F))) && turnsOk H Es Fs ss (t + 1)
 | _, _, _, _ => false
def rnOf (Fs : List ETy) (H : Heap) (ss : List Nat) : Rn where
 p e := decide (idxOf ss e < Fs.length) && liveY Fs[idxOf ss e]? && decide (ss[idxOf ss e]? = some e)
 cur e := genE (getE H e)
 to e := idxOf ss e
 gT t := genY Fs[t]?
 lent e := if true && !(decide (idxOf ss e < Fs.length) && liveY Fs[idxOf ss e]? && decide (ss[idxOf ss e]? = some e)) then getE H e else .dead
 lp := true
def PSpec.norm (S : PSpec) (r0 : AV × Heap) : Option S.Out :=
 let r1 := sealR S.Rs r0
 let H := (addNils S.inis ⟨[], r1.2⟩).heap
 let ss := srcs H S.Fs 0 (unifR S.Rs r1.1 ++ boxIds S.Es 0)
 if turnsOk H S.Es S.Fs ss 0 && (List.range S.Fs.length).all fun t => !(liveY S.Fs[t]?) || decide (idxOf ss (ss.getD t 0) = t) then
  match convR (rnOf S.Fs H ss) S.Rs r1.1 with
  | some x => match decC (rnOf S.Fs H ss) S.Fs (ss.map (getE H)) with
   | some y => some (x, y)
   | none => none
  | none => none
 else none
def fnP (P : Program) (C : Ctx) (L : Loops) (S : PSpec) (fn : Func) (xs : HL S.As) (hs : HD S.Es) : Tr S.Out :=
 (fnK P C L fn (mkArgs S.As xs) (encH S.Es hs)).bind fun r => match S.norm r with
  | some d => .ret d
  | none => .fail
theorem addNils_rep {a : Act} {w : World} : ∀ {l : List (Nat × Nat × Ty)} {g : G} {st : St}, SRep g st a w → ∃ g', g.le g' ∧ SRep g' (addNils l st) a w
 | [], g, st, h => ⟨g, G.le.refl g, h⟩
 | (b, m, A) :: l, g, st, h => by
  simp only [addNils]
  split
  ·rename_i st' hs
   obtain ⟨g1, q1, q2⟩ := addIniB_rep h hs
   obtain ⟨g2, w1, w2⟩ := addNils_rep (l := l) q2
   exact ⟨g2, q1.trans w1, w2⟩
  ·exact addNils_rep h
theorem turnsOk_spec {H : Heap} : ∀ {Es Fs : List ETy} {ss : List Nat} {t0 : Nat}, turnsOk H Es Fs ss t0 = true → ∀ t, t < Es.length → ∃ E F s, Es[t]? = some E ∧ Fs[t]? = some F ∧ ss[t]? = some s ∧ turnOk E F (s == t0 + t && decide (genE (getE H s) = genY (some F))) = true
 | [], _, _, _, _, t, h => by simp at h
 | E :: Es, [], _, _, h, _, _ => by simp [turnsOk] at h
 | E :: Es, F :: Fs, [], _, h, _, _ => by simp [turnsOk] at h
 | E :: Es, F :: Fs, s :: ss, t0, h, t, ht => by
  simp only [turnsOk, Bool.and_eq_true] at h
  cases t with
  | zero => exact ⟨E, F, s, rfl, rfl, rfl, h.1⟩
  | succ t =>
   obtain ⟨E', F', s', a, b, c, d⟩ := turnsOk_spec h.2 t (by simpa using ht)
   exact ⟨E', F', s', by simpa using a, by simpa using b, by simpa using c, by rw [show t0 + (t + 1) = t0 + 1 + t by omega]; exact d⟩
theorem encH_shp : ∀ {Es : List ETy} {y : HD Es} {t : Nat} {E : ETy}, Es[t]? = some E → match E with
  | .box T => ∃ x, getE (encH Es y) t = .box T x
  | .vec k a => ∃ l, getE (encH Es y) t = .vec k a l
  | .map K V => ∃ l, getE (encH Es y) t = .map K V l
  | .dead => getE (encH Es y) t = .dead
  | .free => getE (encH Es y) t = .free
 | [], y, t, E, h => by simp at h
 | E0 :: l, y, 0, E, h => by
  simp only [List.getElem?_cons_zero, Option.some.injEq] at h
  subst h
  cases E0 <;> first | rfl | exact ⟨_, rfl⟩
 | E0 :: l, y, t + 1, E, h => by
  have h : l[t]? = some E := by simpa using h
  cases E0 <;> exact encH_shp (Es := l) h
theorem getE_map' (f : Nat → Entry) : ∀ (l : List Nat) (t : Nat), getE (l.map f) t = match l[t]? with | some s => f s | none => .free
 | [], t => rfl
 | s :: l, 0 => rfl
 | s :: l, t + 1 => by simpa only [List.map_cons, getE, List.getElem?_cons_succ] using getE_map' f l t
def isY (s : ESh) : Option ETy → Prop
 | some (.box _) => ∃ k, s = .box k
 | some (.vec k _) => ∃ a n, s = .vec k a n
 | some (.map _ _) => s = .map
 | some _ => True
 | none => s = .free
theorem ren_step {g gn : G} {H : Heap} {w : World} {E0 Fs : List ETy} {ss : List Nat} {y : HD Fs} (hle : g.le gn) (hI : HInv gn H w) (h0 : ∀ t, isY (g.sh t) E0[t]?)
  (hturn : turnsOk H E0 Fs ss 0 = true) (hall : ((List.range Fs.length).all fun t => !(liveY Fs[t]?) || decide (idxOf ss (ss.getD t 0) = t)) = true) (hy : decC (rnOf Fs H ss) Fs (ss.map (getE H)) = some y) :
  ∃ g3, g.le g3 ∧ HInv g3 (encH Fs y) w ∧ CRel (rnOf Fs H ss) gn g3 := by
 obtain ⟨hlen, hEC⟩ := decC_EC hy
 have hlen : ss.length = Fs.length := by simpa using hlen
 have hlv : ∀ t, liveY Fs[t]? = true → t < Fs.length := by
  intro t ht
  rcases Nat.lt_or_ge t Fs.length with h | h
  ·exact h
  ·rw [List.getElem?_eq_none h] at ht; cases ht
 have hidx : ∀ t, liveY Fs[t]? = true → idxOf ss (ss.getD t 0) = t := by
  intro t ht
  have := List.all_eq_true.1 hall t (List.mem_range.2 (hlv t ht))
  simpa [ht] using this
 have hgd : ∀ t, t < Fs.length → ss[t]? = some (ss.getD t 0) := by
  intro t ht
  rw [List.getD_eq_getElem?_getD, List.getElem?_eq_getElem (by omega)]
  rfl
 have key := conv_inv (R := rnOf Fs H ss) (q := fun t => liveY Fs[t]?) (from_ := fun t => ss.getD t 0) (H' := encH Fs y) hI
  (fun e he => by
   simp only [rnOf, Bool.and_eq_true, decide_eq_true_eq] at he
   refine ⟨he.1.2, ?_⟩
   simp only [rnOf, List.getD_eq_getElem?_getD, he.2, Option.getD_some])
  (fun t ht => by
   refine ⟨?_, hidx t ht⟩
   simp only [rnOf, hidx t ht, Bool.and_eq_true, decide_eq_true_eq]
   exact ⟨⟨hlv t ht, ht⟩, hgd t (hlv t ht)⟩)
  (fun e k a l he hE => by simp only [rnOf, hE, genE])
  (fun t K a l ht hE => encH_gen hE)
  (fun t ht => by
   have := hEC t ht
   rw [getE_map', hgd t (hlv t ht)] at this
   exact this)
  (fun t ht => encH_dead ht) true
  (fun e => rfl)
 obtain ⟨k1, k2⟩ := key
 refine ⟨_, ?_, k1, k2⟩
 refine ⟨fun b o h => rn_fr (hle.fr b o h), hle.gr, hle.ext, fun t => ?_⟩
 show Turn g (gn.rn H w _ true _ (encH Fs y)) t
 rcases Nat.lt_or_ge t E0.length with ht | ht
 ·obtain ⟨E, F, s, e1, e2, e3, e4⟩ := turnsOk_spec hturn t ht
  rw [Nat.zero_add] at e4
  have hs1 := h0 t
  rw [e1] at hs1
  have hs2 := encH_shp (y := y) e2
  have hsrc : ss.getD t 0 = s := by rw [List.getD_eq_getElem?_getD, e3]; rfl
  have same : (s == t) = true → liveY Fs[t]? = true → (∀ k s n, gn.sh t = .vec k s n → genY Fs[t]? = k) → (∀ k s n k' s' n', g.sh t = .vec k s n → gn.sh t = .vec k' s' n' → ¬ k < k') → g.sh t ≠ .free → Turn g (gn.rn H w (rnOf Fs H ss).p true (fun t => ss.getD t 0) (encH Fs y)) t := by
   intro hst hlt hg hno hnf
   have hst : s = t := by simpa using hst
   subst hst
   have hsm := k2.sh s (by
    simp only [rnOf, Bool.and_eq_true, decide_eq_true_eq]
    have := hidx s hlt
    rw [hsrc] at this
    rw [this]
    exact ⟨⟨hlv _ hlt, hlt⟩, e3⟩)
   have hto : (rnOf Fs H ss).to s = s := by
    have := hidx s hlt
    rw [hsrc] at this
    exact this
   rw [hto] at hsm
   have hb : (gn.rn H w (rnOf Fs H ss).p true (fun t => ss.getD t 0) (encH Fs y)).bl s = gn.bl s := by show gn.bl (ss.getD s 0) = _; rw [hsrc]
   have hz : (gn.rn H w (rnOf Fs H ss).p true (fun t => ss.getD t 0) (encH Fs y)).sz s = gn.sz s := by show gn.sz (ss.getD s 0) = _; rw [hsrc]
   have hsm' : gn.sh s = .free ∨ (gn.rn H w (rnOf Fs H ss).p true (fun t => ss.getD t 0) (encH Fs y)).sh s = gn.sh s := by
    cases hgs : gn.sh s with
    | free => exact .inl rfl
    | dead => rw [hgs] at hsm; exact .inr hsm
    | box q => rw [hgs] at hsm; exact .inr hsm
    | map => rw [hgs] at hsm; exact .inr hsm
    | vec k q n =>
     rw [hgs] at hsm
     refine .inr (hsm.2.trans ?_)
     show ESh.vec (genY Fs[s]?) q n = _
     rw [hg _ _ _ hgs]
   cases hle.ent s with
   | same a b c =>
    rcases hsm' with hf | hsm'
    ·exact absurd (a.symm.trans hf) hnf
    ·exact .same (hsm'.trans a) (hb.trans b) (hz.trans c)
   | dead a =>
    rcases hsm' with hf | hsm'
    ·rw [a] at hf; cases hf
    ·exact .dead (hsm'.trans a)
   | grew a b c => exact absurd c (hno _ _ _ _ _ _ a b)
   | new a => exact absurd a hnf
  have gone : F = .dead → Turn g (gn.rn H w (rnOf Fs H ss).p true (fun t => ss.getD t 0) (encH Fs y)) t := by
   rintro rfl
   refine .dead ?_
   show shp (getE (encH Fs y) t) = .dead
   rw [hs2]; rfl
  cases E with
  | free => cases F <;> simp [turnOk] at e4
  | dead => cases F <;> first | (simp [turnOk] at e4; done) | exact gone rfl
  | box T =>
   obtain ⟨k0, hg0⟩ := hs1
   cases F with
   | free => simp [turnOk] at e4
   | vec => simp [turnOk] at e4
   | map => simp [turnOk] at e4
   | dead => exact gone rfl
   | box W =>
    refine same (by simp only [turnOk, Bool.and_eq_true] at e4; exact e4.1) (by rw [e2]; rfl) ?_ ?_ (by rw [hg0]; simp)
    ·intro k s' n' hk
     cases hle.ent t with
     | same a b c => rw [a, hg0] at hk; cases hk
     | dead a => rw [a] at hk; cases hk
     | grew a b c => rw [hg0] at a; cases a
     | new a => rw [hg0] at a; cases a
    ·intro k s n k' s' n' hk
     rw [hg0] at hk; cases hk
  | map K V =>
   have hg0 : g.sh t = .map := hs1
   cases F with
   | free => simp [turnOk] at e4
   | vec => simp [turnOk] at e4
   | box => simp [turnOk] at e4
   | dead => exact gone rfl
   | map K' V' =>
    refine same (by simp only [turnOk, Bool.and_eq_true] at e4; exact e4.1) (by rw [e2]; rfl) ?_ ?_ (by rw [hg0]; simp)
    ·intro k s' n' hk
     cases hle.ent t with
     | same a b c => rw [a, hg0] at hk; cases hk
     | dead a => rw [a] at hk; cases hk
     | grew a b c => rw [hg0] at a; cases a
     | new a => rw [hg0] at a; cases a
    ·intro k s n k' s' n' hk
     rw [hg0] at hk; cases hk
  | vec k a =>
   obtain ⟨a0, n0, hg0⟩ := hs1
   cases F with
   | free => simp [turnOk] at e4
   | box => simp [turnOk] at e4
   | map => simp [turnOk] at e4
   | dead => exact gone rfl
   | vec k' b =>
    obtain ⟨y0, hy0⟩ := hs2
    simp only [turnOk, Bool.or_eq_true, Bool.and_eq_true, decide_eq_true_eq] at e4
    rcases e4 with e4 | ⟨e4, e5⟩
    ·refine .grew (s' := b.sk) (n' := y0.length) hg0 ?_ e4
     show shp (getE (encH Fs y) t) = _
     rw [hy0]; rfl
    ·subst e4
     have hlt : liveY Fs[t]? = true := by rw [e2]; rfl
     have hst : s = t := by simpa using e5.1
     have hgn : genE (getE H t) = k := by
      rw [hst] at e5
      exact e5.2
     have hgen : ∀ k1 s1 n1, gn.sh t = .vec k1 s1 n1 → k1 = k := by
      intro k1 s1 n1 hk
      have := hI.sh t
      rw [hk] at this
      cases hE : getE H t <;> rw [hE] at this hgn <;> simp only [shp] at this <;> cases this
      exact hgn
     refine same (by simpa using hst) hlt ?_ ?_ (by rw [hg0]; simp)
     ·intro k1 s1 n1 hk
      rw [e2]
      exact (hgen _ _ _ hk).symm
     ·intro q1 q2 q3 q4 q5 q6 hk hk' hlt2
      rw [hg0] at hk
      cases hk
      have := hgen _ _ _ hk'
      omega
 ·refine .new ?_
  have := h0 t
  rw [List.getElem?_eq_none ht] at this
  exact this
theorem isY_enc {Es : List ETy} {hs : HD Es} (t : Nat) : isY (shp (getE (encH Es hs) t)) Es[t]? := by
 rcases Nat.lt_or_ge t Es.length with ht | ht
 ·have h := encH_shp (y := hs) (List.getElem?_eq_getElem ht)
  rw [List.getElem?_eq_getElem ht]
  cases hE : Es[t] with
  | free => trivial
  | dead => trivial
  | box T => rw [hE] at h; obtain ⟨x, hx⟩ := h; rw [hx]; exact ⟨_, rfl⟩
  | vec k a => rw [hE] at h; obtain ⟨x, hx⟩ := h; rw [hx]; exact ⟨_, _, rfl⟩
  | map K V => rw [hE] at h; obtain ⟨x, hx⟩ := h; rw [hx]; rfl
 ·rw [List.getElem?_eq_none ht, getE_past _ (by rw [encH_length]; exact ht)]
  rfl
theorem pnorm_rep {S : PSpec} {g g2 : G} {hs : HD S.Es} {r : AV × Heap} {rv : Value} {w : World} {d : S.Out} (hsh : ∀ e, g.sh e = shp (getE (encH S.Es hs) e)) (hle : g.le g2) (hI : HInv g2 r.2 w) (hv : VRep g2 r.1 rv)
  (hn : S.norm r = some d) : ∃ g3, g.le g3 ∧ HInv g3 (encH S.Fs d.2) w ∧ VRep g3 (ofHL S.Rs d.1) rv := by
 unfold PSpec.norm at hn
 obtain ⟨gs, hle', hI, hv⟩ := sealR_rep S.Rs hI hv
 have hle := hle.trans hle'
 simp only at hn
 have h0 : SRep gs ⟨[], (sealR S.Rs r).2⟩ ⟨#[], gs.ext.2⟩ w := ⟨⟨rfl, fun i => ⟨#[], by simp [undef], rfl⟩⟩, hI, rfl⟩
 obtain ⟨gn, hle2, h1⟩ := addNils_rep (l := S.inis) h0
 have hI := h1.heap
 have hv := VRep_mono hle2 hv
 have hle := hle.trans hle2
 generalize (addNils S.inis ⟨[], (sealR S.Rs r).2⟩).heap = H at hn hI
 split at hn
 ·rename_i hok
  simp only [Bool.and_eq_true] at hok
  obtain ⟨hturn, hall⟩ := hok
  split at hn
  ·rename_i x hx
   split at hn
   ·rename_i y hy
    simp only [Option.some.injEq] at hn
    subst hn
    obtain ⟨g3, q1, q2, q3⟩ := ren_step hle hI (fun t => by rw [hsh]; exact isY_enc t) hturn hall hy
    exact ⟨g3, q1, q2, convR_rep q3 hx hv⟩
   ·cases hn
  ·cases hn
 ·cases hn
end Vse
end
section
set_option linter.unusedVariables false
namespace Vse
open Go Go.ChangeShapes
def lendT : Ty → Ty → List Nat
 | .imm false false _, .vc e _ => [e]
 | .imm false false _, .sub e _ => [e]
 | .imm false false _, .sv e _ => [e]
 | .ip false _, .ptr e _ => [e]
 | .prod a b, .prod c d => lendT a c ++ lendT b d
 | _, _ => []
def rootT : Ty → Ty → List Nat
 | .imm false false _, .vc _ _ => []
 | .imm false false _, .sub _ _ => []
 | .imm false false _, .sv _ _ => []
 | .ip false _, .ptr _ _ => []
 | .prod a b, .prod c d => rootT a c ++ rootT b d
 | _, T => T.ents
def lendVs : List Ty → List AV → List Nat
 | A :: As, .v T _ :: vs => lendT A T ++ lendVs As vs
 | _, _ => []
def rootVs : List Ty → List AV → List Nat
 | A :: As, .v T _ :: vs => rootT A T ++ rootVs As vs
 | _, _ => []
def convArgs (R : Rn) : (As : List Ty) → List AV → Option (HL As)
 | [], [] => some ()
 | A :: As, .v T x :: vs => match conv R A T x with
  | some y => match convArgs R As vs with
   | some r => some (y, r)
   | none => none
  | none => none
 | _, _ => none
theorem convArgs_rep {R : Rn} {g g' : G} (hc : CRel R g g') : ∀ {As : List Ty} {vs : List AV} {xs : HL As} {rvs : List Value}, convArgs R As vs = some xs → argsRep g vs rvs → argsRep g' (mkArgs As xs) rvs
 | [], [], xs, rvs, _, h => h
 | [], _ :: _, xs, rvs, h, _ => by simp [convArgs] at h
 | A :: As, [], xs, rvs, h, _ => by simp [convArgs] at h
 | A :: As, .tup _ :: vs, xs, rvs, h, _ => by simp [convArgs] at h
 | A :: As, .v T x :: vs, xs, rvs, h, ⟨r, rs, h1, h2, h3⟩ => by
  simp only [convArgs] at h
  split at h
  ·rename_i y hy
   split at h
   ·rename_i q hq
    simp only [Option.some.injEq] at h
    subst h
    exact ⟨r, rs, h1, conv_VRep hc hy h2, convArgs_rep hc hq h3⟩
   ·cases h
  ·cases h
def Ty.rnT (B : Rn) : Ty → Ty
 | .vc i _ => .vc (B.to i) (B.gT (B.to i))
 | .ptr i p => .ptr (B.to i) p
 | .mp i => .mp (B.to i)
 | .prod a b => .prod (a.rnT B) (b.rnT B)
 | .fn k c => .fn k (c.rnT B)
 | T => T
def backE (B : Rn) (K : Nat) : Entry → Option Entry
 | .box T x => match conv B (T.rnT B) T x with
  | some y => some (.box (T.rnT B) y)
  | none => none
 | .vec _ a l => if a.inn noE false then some (.vec K a l) else none
 | .map A V l => if A.inn noE false && V.inn noE false then some (.map A V l) else none
 | .dead => some .dead
 | .free => none
 | .itr _ _ => none
def backL (B : Rn) : List TV → Option (List TV)
 | [] => some []
 | t :: ts => match conv B (t.T.rnT B) t.T t.x with
  | some y => match backL B ts with
   | some r => some (⟨t.T.rnT B, y⟩ :: r)
   | none => none
  | none => none
def backV (B : Rn) : AV → Option AV
 | .v T x => match conv B (T.rnT B) T x with
  | some y => some (.v (T.rnT B) y)
  | none => none
 | .tup l => match backL B l with
  | some r => some (.tup r)
  | none => none
theorem backL_rep {R : Rn} {g g' : G} (hc : CRel R g g') : ∀ {l r : List TV} {vs : List Value}, backL R l = some r → tupRep g l vs → tupRep g' r vs
 | [], r, vs, h, hr => by simp only [backL, Option.some.injEq] at h; subst h; exact hr
 | t :: ts, r, vs, h, ⟨v, q, h1, h2, h3⟩ => by
  simp only [backL] at h
  split at h
  ·rename_i y hy
   split at h
   ·rename_i r' hr'
    simp only [Option.some.injEq] at h
    subst h
    exact ⟨v, q, h1, conv_TRep hc hy h2, backL_rep hc hr' h3⟩
   ·cases h
  ·cases h
theorem backV_rep {R : Rn} {g g' : G} (hc : CRel R g g') {a b : AV} {v : Value} (h : backV R a = some b) (hr : VRep g a v) : VRep g' b v := by
 cases a with
 | v T x =>
  simp only [backV] at h
  split at h
  ·rename_i y hy
   simp only [Option.some.injEq] at h
   subst h
   exact conv_VRep hc hy hr
  ·cases h
 | tup l =>
  simp only [backV] at h
  split at h
  ·rename_i r hr'
   simp only [Option.some.injEq] at h
   subst h
   obtain ⟨vs, rfl, hr⟩ := hr
   exact ⟨vs, rfl, backL_rep hc hr' hr⟩
  ·cases h
def rnIn (S : PSpec) (ids : List Nat) (get lentE : Nat → Entry) : Rn where
 p e := mem ids e
 cur e := genE (get e)
 to e := idxOf ids e
 gT t := genY S.Es[t]?
 lent := lentE
 lp := false
def rnOut (S : PSpec) (ids all : List Nat) (get : Nat → Entry) : Rn where
 p i := liveY S.Fs[i]? && decide (i < all.length)
 cur i := genY S.Fs[i]?
 to i := all.getD i 0
 gT e := if mem ids e then genE (get e) + (genY S.Fs[idxOf all e]? - genY S.Es[idxOf all e]?) else genY S.Fs[idxOf all e]?
 lent _ := .dead
 lp := false
def nodupI (l : List Nat) : Bool := (List.range l.length).all fun t => decide (idxOf l (l.getD t 0) = t)
def posOut (S : PSpec) (ids ids0 all : List Nat) (get : Nat → Entry) (fr : Nat) (r : S.Out) : Tr Out :=
 match backV (rnOut S ids all get) (ofHL S.Rs r.1) with
 | some v => if nodupI all && decide (all.length = S.Fs.length) && (all.all fun e => match backE (rnOut S ids all get) ((rnOut S ids all get).gT e) (getE (encH S.Fs r.2) (idxOf all e)) with
       | some E => E.inn (turned ids0 fr S.news) true
       | none => false) && v.inn (turned ids0 fr S.news) true then
   .ret (v, all.map fun e => (e, (backE (rnOut S ids all get) ((rnOut S ids all get).gT e) (getE (encH S.Fs r.2) (idxOf all e))).getD .dead)) else .fail
 | none => .fail
def posCore (S : PSpec) (pre : HL S.As → HD S.Es → Bool) (f : HL S.As → HD S.Es → S.Out) (le ids0 : List Nat) (el er : List Entry) (vs : List AV) (fr : Nat) : Tr Out :=
 if (le.all fun e => !mem ids0 e) && (ids0.all fun e => decide (e < fr)) && (er.all fun E => E.inn (mem ids0) false) && nodupI (dedupN ids0) && (S.Es.all fun E => liveY (some E)) then
  match convArgs (rnIn S (dedupN ids0) (putE ids0 er) (putE le el)) S.As vs with
  | some xs => match decC (rnIn S (dedupN ids0) (putE ids0 er) fun _ => .dead) S.Es ((dedupN ids0).map (putE ids0 er)) with
   | some hs => .chk (pre xs hs) (posOut S (dedupN ids0) ids0 (dedupN ids0 ++ List.range' fr S.news) (putE ids0 er) fr (f xs hs))
   | none => .fail
  | none => .fail
 else .fail
def CSpec.pos (S : PSpec) (pre : HL S.As → HD S.Es → Bool) (f : HL S.As → HD S.Es → S.Out) : CSpec :=
 ⟨S.news, fun vs H => lendVs S.As vs ++ reach 5 H (rootVs S.As vs), fun vs H => reach 5 H (rootVs S.As vs), fun vs es fr =>
  posCore S pre f (lendVs S.As vs) (reachE 5 (es.drop (lendVs S.As vs).length) (rootVs S.As vs)) (es.take (lendVs S.As vs).length) (es.drop (lendVs S.As vs).length) vs fr⟩
theorem dedupN_mem : ∀ (l : List Nat) (e : Nat), mem (dedupN l) e = mem l e
 | [], e => rfl
 | x :: l, e => by
  have ih := dedupN_mem l e
  rw [Bool.eq_iff_iff] at ih ⊢
  simp only [mem, List.contains_iff_mem] at ih ⊢
  simp only [dedupN, List.mem_cons, List.mem_filter, Bool.not_eq_true', beq_eq_false_iff_ne, ne_eq]
  constructor
  ·rintro (h | ⟨h, _⟩)
   ·exact .inl h
   ·exact .inr (ih.1 h)
  ·rintro (h | h)
   ·exact .inl h
   ·by_cases hx : e = x
    ·exact .inl hx
    ·exact .inr ⟨ih.2 h, hx⟩
theorem idxOf_mem : ∀ {l : List Nat} {e : Nat}, mem l e = true → idxOf l e < l.length ∧ l.getD (idxOf l e) 0 = e
 | [], e, h => by simp [mem] at h
 | x :: l, e, h => by
  simp only [idxOf]
  by_cases hx : x = e
  ·rw [if_pos hx]; exact ⟨by simp, by simpa using hx⟩
  ·rw [if_neg hx]
   have hx' : ¬ e = x := fun y => hx y.symm
   have : mem l e = true := by simpa [mem, hx'] using h
   obtain ⟨h1, h2⟩ := idxOf_mem this
   exact ⟨by simpa using h1, by simpa using h2⟩
theorem getD_mem {l : List Nat} {t : Nat} (h : t < l.length) : mem l (l.getD t 0) = true := by
 simp only [mem, List.contains_iff_mem]
 rw [List.getD_eq_getElem?_getD, List.getElem?_eq_getElem h]
 exact List.getElem_mem h
theorem nodupI_spec {l : List Nat} (h : nodupI l = true) {t : Nat} (ht : t < l.length) : idxOf l (l.getD t 0) = t := by
 have := List.all_eq_true.1 h t (List.mem_range.2 ht)
 simpa using this
theorem idxOf_append : ∀ {l m : List Nat} {e : Nat}, mem l e = true → idxOf (l ++ m) e = idxOf l e
 | [], m, e, h => by simp [mem] at h
 | x :: l, m, e, h => by
  simp only [List.cons_append, idxOf]
  by_cases hx : x = e
  ·rw [if_pos hx, if_pos hx]
  ·rw [if_neg hx, if_neg hx]
   have hx' : ¬ e = x := fun y => hx y.symm
   rw [idxOf_append (by simpa [mem, hx'] using h)]
theorem es_split (H : Heap) (le l2 : List Nat) : (ents H (le ++ l2)).take le.length = ents H le ∧ (ents H (le ++ l2)).drop le.length = ents H l2 := by
 rw [ents_append]
 constructor
 ·rw [← ents_length H le, List.take_left]
 ·rw [← ents_length H le, List.drop_left]
theorem pos_local (S : PSpec) (pre : HL S.As → HD S.Es → Bool) (f : HL S.As → HD S.Es → S.Out) : CLocal (CSpec.pos S pre f) where
 same vs H H' h := by
  have hr := reach_same 5 (rootVs S.As vs) (fun i hi => h i (by simp only [CSpec.pos, List.mem_append]; exact .inr hi))
  exact ⟨by simp only [CSpec.pos, hr], hr⟩
 turns vs H fr out h x hx := by
  simp only [CSpec.pos] at h
  rw [(es_split H _ _).1, (es_split H _ _).2, reach_reachE] at h
  unfold posCore at h
  split at h
  ·split at h
   ·split at h
    ·obtain ⟨_, h⟩ := Tr.chk_some h
     unfold posOut at h
     split at h
     ·split at h
      ·have := Tr.ret_some h
       subst this
       simp only [List.mem_map, List.mem_append, List.mem_range'] at hx
       obtain ⟨e, he, rfl⟩ := hx
       rcases he with he | ⟨i, hi, rfl⟩
       ·refine .inl ?_
        have := dedupN_mem (reach 5 H (rootVs S.As vs)) e
        rw [Bool.eq_iff_iff] at this
        simp only [mem, List.contains_iff_mem] at this
        exact this.1 he
       ·refine .inr ⟨by simp only; omega, ?_⟩
        show fr + 1 * i < fr + S.news
        omega
      ·exact (Tr.fail_some h).elim
     ·exact (Tr.fail_some h).elim
    ·exact (Tr.fail_some h).elim
   ·exact (Tr.fail_some h).elim
  ·exact (Tr.fail_some h).elim
def HD.ok : (Es : List ETy) → HD Es → Prop
 | [], _ => True
 | .free :: l, x => HD.ok l x
 | .dead :: l, x => HD.ok l x
 | .box T :: l, x => T.ok x.1 ∧ HD.ok l x.2
 | .vec _ a :: l, x => (∀ y ∈ x.1, a.ok y) ∧ HD.ok l x.2
 | .map K V :: l, x => (∀ y ∈ x.1, K.ok y.1 ∧ V.ok y.2) ∧ HD.ok l x.2
theorem mapRep_all {α β : Type} {R : α → Value → Prop} {S : β → Value → Prop} {p : α → Prop} {q : β → Prop} (hR : ∀ x v, R x v → p x) (hS : ∀ x v, S x v → q x) : ∀ {l : List (α × β)} {es : List MapEntry}, mapRep R S l es → ∀ y ∈ l, p y.1 ∧ q y.2
 | [], _, _, y, hy => by cases hy
 | x :: l, _, ⟨e, r, _, h2, h3, h4⟩, y, hy => by
  rcases List.mem_cons.1 hy with rfl | hy
  ·exact ⟨hR _ _ h2, hS _ _ h3⟩
  ·exact mapRep_all hR hS h4 y hy
theorem HD_ok_of {g : G} {w : World} : ∀ {Es : List ETy} {hs : HD Es} (k : Nat), (∀ t, ERep g (k + t) w (getE (encH Es hs) t)) → (∀ t, t < Es.length → liveY Es[t]? = true) → HD.ok Es hs
 | [], _, _, _, _ => trivial
 | .free :: l, hs, k, h, hl => by have := hl 0 (by simp); simp [liveY] at this
 | .dead :: l, hs, k, h, hl => by have := hl 0 (by simp); simp [liveY] at this
 | .box T :: l, hs, k, h, hl => by
  refine ⟨?_, HD_ok_of (k + 1) (fun t => by have := h (t + 1); rwa [show k + (t + 1) = k + 1 + t by omega] at this) fun t ht => by simpa using hl (t + 1) (by simpa using ht)⟩
  obtain ⟨b, cs, tt, fz, w1, w2, w3, w4⟩ := h 0
  exact Rep_ok _ _ _ w4
 | .vec K a :: l, hs, k, h, hl => by
  refine ⟨?_, HD_ok_of (k + 1) (fun t => by have := h (t + 1); rwa [show k + (t + 1) = k + 1 + t by omega] at this) fun t ht => by simpa using hl (t + 1) (by simpa using ht)⟩
  rcases h 0 with ⟨_, q⟩ | ⟨b', cs, tt, fz, vs, r, q1, q2, q3, q4, q5, q6, q7⟩
  ·intro y hy; rw [q] at hy; cases hy
  ·exact repL_all (fun x cs hx => Rep_ok _ _ _ hx) q6
 | .map K V :: l, hs, k, h, hl => by
  refine ⟨?_, HD_ok_of (k + 1) (fun t => by have := h (t + 1); rwa [show k + (t + 1) = k + 1 + t by omega] at this) fun t ht => by simpa using hl (t + 1) (by simpa using ht)⟩
  obtain ⟨b, es, clock, w1, w2, w3⟩ := h 0
  exact mapRep_all (fun _ _ hx => TRep_ok hx) (fun _ _ hx => TRep_ok hx) w3
theorem pos_back {S : PSpec} {g g' g3 : G} {H : Heap} {w w' : World} {ids0 ids : List Nat} {fr : Nat} {get : Nat → Entry} {hs : HD S.Es} {y : HD S.Fs} (hI : HInv g H w) (hids : ∀ e, mem ids0 e = true → e < fr)
  (hdm : ∀ e, mem ids e = mem ids0 e) (hget : ∀ e, get e = if mem ids0 e then getE H e else .dead) (hlen : ids.length = S.Es.length)
  (k1 : HInv g' (encH S.Es hs) w) (k2 : CRel (rnIn S ids get fun _ => .dead) (g.part H w ids0 fr) g') (hbl : ∀ e, mem ids e = true → g'.bl (idxOf ids e) = g.bl e ∧ g'.sz (idxOf ids e) = g.sz e) (hgr : g'.gr = (g.part H w ids0 fr).gr) (hfr : ∀ b o, g.fr b = some o → g'.fr b = some o) (hext : g'.ext = g.ext)
  (hle : g'.le g3) (hI3 : HInv g3 (encH S.Fs y) w')
  (d1 : nodupI (ids ++ List.range' fr S.news) = true) (d2 : (ids ++ List.range' fr S.news).length = S.Fs.length)
  (d3 : ∀ e, mem (ids ++ List.range' fr S.news) e = true → ∃ E, backE (rnOut S ids (ids ++ List.range' fr S.news) get) ((rnOut S ids (ids ++ List.range' fr S.news) get).gT e) (getE (encH S.Fs y) (idxOf (ids ++ List.range' fr S.news) e)) = some E ∧ E.inn (turned ids0 fr S.news) true = true)
  (hfree : ∀ e, fr ≤ e → e < fr + S.news → g.sh e = .free) (hin : ∀ e, mem (ids ++ List.range' fr S.news) e = true → e < H.length) :
  ∃ g4 g5, g.le g5 ∧ HInv g5 (upd H ((ids ++ List.range' fr S.news).map fun e => (e, (backE (rnOut S ids (ids ++ List.range' fr S.news) get) ((rnOut S ids (ids ++ List.range' fr S.news) get).gT e) (getE (encH S.Fs y) (idxOf (ids ++ List.range' fr S.news) e))).getD .dead))) w' ∧
   CRel (rnOut S ids (ids ++ List.range' fr S.news) get) g3 g4 ∧ g4.agree (turned ids0 fr S.news) true g5 := by
 have hallt : ∀ e, mem (ids ++ List.range' fr S.news) e = turned ids0 fr S.news e := by
  intro e
  show (ids ++ List.range' fr S.news).contains e = _
  rw [mem_turned]
  simp only [turned, hdm]
 generalize hall : ids ++ List.range' fr S.news = all at *
 generalize hB : rnOut S ids all get = B at *
 let H1 : Heap := (List.range (fr + S.news)).map fun e => if mem all e then (backE B (B.gT e) (getE (encH S.Fs y) (idxOf all e))).getD .dead else .dead
 have hget1 : ∀ e, getE H1 e = if e < fr + S.news then (if mem all e then (backE B (B.gT e) (getE (encH S.Fs y) (idxOf all e))).getD .dead else .dead) else .free := by
  intro e
  show getE ((List.range (fr + S.news)).map _) e = _
  rw [List.range_eq_range', getE_map]
  simp
 have hlt : ∀ e, mem all e = true → e < fr + S.news := by
  intro e he
  rw [hallt] at he
  simp only [turned, Bool.or_eq_true, Bool.and_eq_true, decide_eq_true_eq] at he
  rcases he with he | he
  ·have := hids e he; omega
  ·exact he.2
 have hm1 : ∀ e, mem all e = true → ∃ E, backE B (B.gT e) (getE (encH S.Fs y) (idxOf all e)) = some E ∧ getE H1 e = E ∧ E.inn (turned ids0 fr S.news) true = true := by
  intro e he
  obtain ⟨E, e1, e2⟩ := d3 e he
  exact ⟨E, e1, by rw [hget1, if_pos (hlt e he), if_pos he, e1]; rfl, e2⟩
 have hlvF : ∀ t, liveY S.Fs[t]? = true → t < S.Fs.length := by
  intro t ht
  rcases Nat.lt_or_ge t S.Fs.length with h | h
  ·exact h
  ·rw [List.getElem?_eq_none h] at ht; cases ht
 have hBp : ∀ i, B.p i = (liveY S.Fs[i]? && decide (i < all.length)) := fun i => by rw [← hB]; rfl
 have hBcur : ∀ i, B.cur i = genY S.Fs[i]? := fun i => by rw [← hB]; rfl
 have hBto : ∀ i, B.to i = all.getD i 0 := fun i => by rw [← hB]; rfl
 have hBgT : ∀ e, B.gT e = if mem ids e then genE (get e) + (genY S.Fs[idxOf all e]? - genY S.Es[idxOf all e]?) else genY S.Fs[idxOf all e]? := fun e => by rw [← hB]; rfl
 have key := conv_inv (R := B) (q := fun e => mem all e && liveY S.Fs[idxOf all e]?) (from_ := idxOf all) (H' := H1) hI3
  (fun i hi => by
   rw [hBp] at hi
   simp only [Bool.and_eq_true, decide_eq_true_eq] at hi
   have hx := nodupI_spec d1 hi.2
   rw [hBto, hx]
   simp only [Bool.and_eq_true]
   exact ⟨⟨getD_mem hi.2, hi.1⟩, trivial⟩)
  (fun e he => by
   simp only [Bool.and_eq_true] at he
   obtain ⟨w1, w2⟩ := idxOf_mem he.1
   rw [hBp, hBto]
   simp only [Bool.and_eq_true, decide_eq_true_eq]
   exact ⟨⟨he.2, w1⟩, w2⟩)
  (fun i k a l hi hE => by rw [hBcur]; exact (encH_gen hE).symm)
  (fun e K a l he hE => by
   simp only [Bool.and_eq_true] at he
   obtain ⟨E, e1, e2, _⟩ := hm1 e he.1
   rw [e2] at hE
   subst hE
   cases hx : getE (encH S.Fs y) (idxOf all e) with
   | free => rw [hx] at e1; simp [backE] at e1
   | dead => rw [hx] at e1; simp [backE] at e1
   | box T x => rw [hx] at e1; simp only [backE] at e1; split at e1 <;> simp at e1
   | map A V m => rw [hx] at e1; simp only [backE] at e1; split at e1 <;> simp at e1
   | itr s p => rw [hx] at e1; simp [backE] at e1
   | vec k b m => rw [hx] at e1; simp only [backE] at e1; split at e1 <;> simp at e1; exact e1.1)
  (fun e he => by
   simp only [Bool.and_eq_true] at he
   obtain ⟨E, e1, e2, _⟩ := hm1 e he.1
   rw [e2]
   cases hx : getE (encH S.Fs y) (idxOf all e) with
   | free => rw [hx] at e1; simp [backE] at e1
   | dead => rw [hx] at e1; simp only [backE, Option.some.injEq] at e1; subst e1; trivial
   | box T x =>
    rw [hx] at e1
    simp only [backE] at e1
    split at e1
    ·rename_i z hz
     simp only [Option.some.injEq] at e1
     subst e1
     exact hz
    ·cases e1
   | map A V m =>
    rw [hx] at e1
    simp only [backE] at e1
    split at e1
    ·rename_i hin
     simp only [Option.some.injEq] at e1
     subst e1
     simp only [Bool.and_eq_true] at hin
     exact ⟨rfl, hin⟩
    ·cases e1
   | itr s p => rw [hx] at e1; simp [backE] at e1
   | vec k b m =>
    rw [hx] at e1
    simp only [backE] at e1
    split at e1
    ·rename_i hin
     simp only [Option.some.injEq] at e1
     subst e1
     exact ⟨rfl, hin⟩
    ·cases e1)
  (fun e he => by
   by_cases hm : mem all e = true
   ·obtain ⟨E, e1, e2, _⟩ := hm1 e hm
    rw [e2]
    simp only [hm, Bool.true_and] at he
    have hdd := encH_dead (y := y) he
    cases hx : getE (encH S.Fs y) (idxOf all e) with
    | free => rw [hx] at e1; simp [backE] at e1
    | dead => rw [hx] at e1; simp only [backE, Option.some.injEq] at e1; subst e1; rfl
    | box T x => rw [hx] at hdd; cases hdd
    | vec k b m => rw [hx] at hdd; cases hdd
    | map A V m => rw [hx] at hdd; cases hdd
    | itr s p => rw [hx] at hdd; cases hdd
   ·rw [hget1, if_neg hm]
    split <;> rfl)
  false
  (fun e => by rw [← hB]; rfl)
 obtain ⟨k3, k4⟩ := key
 generalize hg1 : g3.rn (encH S.Fs y) w' B.p false (idxOf all) H1 = g1 at k3 k4
 have hbl1 : ∀ e, g1.bl e = g3.bl (idxOf all e) ∧ g1.sz e = g3.sz (idxOf all e) := fun e => by rw [← hg1]; exact ⟨rfl, rfl⟩
 have hle1 : (g.part H w ids0 fr).le g1 := by
  refine ⟨fun b o h => k4.fr b o (hle.fr b o (hfr b o h)), ?_, ?_, fun e => ?_⟩
  ·rw [← hg1]; exact hle.gr.trans hgr
  ·rw [← hg1]; exact hle.ext.trans hext
  ·rcases Nat.lt_or_ge e fr with hef | hef
   ·by_cases hm : mem ids0 e = true
    ·have hm' : mem ids e = true := by rw [hdm]; exact hm
     have hma : mem all e = true := by rw [hallt]; simp [turned, hm]
     have hidx : idxOf all e = idxOf ids e := by rw [← hall]; exact idxOf_append hm'
     have hp : (g.part H w ids0 fr).sh e = g.sh e := by simp [G.part, hef, hm]
     have hp2 : (g.part H w ids0 fr).bl e = g.bl e := rfl
     have hp3 : (g.part H w ids0 fr).sz e = g.sz e := rfl
     have s1 := k2.sh e hm'
     rw [hp] at s1
     have hto : (rnIn S ids get fun _ => Entry.dead).to e = idxOf ids e := rfl
     have hgt : ∀ t, (rnIn S ids get fun _ => Entry.dead).gT t = genY S.Es[t]? := fun _ => rfl
     have hcu : (rnIn S ids get fun _ => Entry.dead).cur e = genE (get e) := rfl
     rw [hto, hgt, hcu] at s1
     have hsh1 : g1.sh e = shp (getE H1 e) := k3.sh e
     obtain ⟨hb0, hz0⟩ := hbl e hm'
     obtain ⟨hb1, hz1⟩ := hbl1 e
     rw [hidx] at hb1 hz1
     obtain ⟨E, e1, e2, _⟩ := hm1 e hma
     rw [hidx] at e1
     have hnow : match g3.sh (idxOf ids e) with
       | .vec k s n => k = genY S.Fs[idxOf ids e]? ∧ g1.sh e = .vec (B.gT e) s n
       | .box s => g1.sh e = .box s
       | .map => g1.sh e = .map
       | .dead => g1.sh e = .dead
       | .free => False := by
      rw [hI3.sh, hsh1, e2]
      cases hx : getE (encH S.Fs y) (idxOf ids e) with
      | free => rw [hx] at e1; simp [backE] at e1
      | dead => rw [hx] at e1; simp only [backE, Option.some.injEq] at e1; subst e1; rfl
      | box T x =>
       rw [hx] at e1
       simp only [backE] at e1
       split at e1
       ·rename_i z hz
        simp only [Option.some.injEq] at e1
        subst e1
        simp only [shp]
        rw [conv_sk _ _ _ _ hz]
       ·cases e1
      | map A V m =>
       rw [hx] at e1
       simp only [backE] at e1
       split at e1
       ·simp only [Option.some.injEq] at e1
        subst e1
        rfl
       ·cases e1
      | itr s p => rw [hx] at e1; simp [backE] at e1
      | vec k b m =>
       rw [hx] at e1
       simp only [backE] at e1
       split at e1
       ·simp only [Option.some.injEq] at e1
        subst e1
        exact ⟨(encH_gen hx).symm, rfl⟩
       ·cases e1
     have hgTe : B.gT e = genE (get e) + (genY S.Fs[idxOf ids e]? - genY S.Es[idxOf ids e]?) := by rw [hBgT, if_pos hm', hidx]
     cases hle.ent (idxOf ids e) with
     | same a b c =>
      cases hg0 : g.sh e with
      | free => exact .new (hp.trans hg0)
      | dead =>
       rw [hg0] at s1
       simp only at s1
       rw [a, s1] at hnow
       exact .dead hnow
      | box s =>
       rw [hg0] at s1
       simp only at s1
       rw [a, s1] at hnow
       exact .same (hnow.trans (hp.trans hg0).symm) (hb1.trans (b.trans (hb0.trans hp2.symm))) (hz1.trans (c.trans (hz0.trans hp3.symm)))
      | map =>
       rw [hg0] at s1
       simp only at s1
       rw [a, s1] at hnow
       exact .same (hnow.trans (hp.trans hg0).symm) (hb1.trans (b.trans (hb0.trans hp2.symm))) (hz1.trans (c.trans (hz0.trans hp3.symm)))
      | vec k s n =>
       rw [hg0] at s1
       simp only at s1
       rw [a, s1.2] at hnow
       simp only at hnow
       refine .same (hnow.2.trans ((?_ : ESh.vec (B.gT e) s n = .vec k s n).trans (hp.trans hg0).symm)) (hb1.trans (b.trans (hb0.trans hp2.symm))) (hz1.trans (c.trans (hz0.trans hp3.symm)))
       rw [hgTe, ← hnow.1, Nat.sub_self, Nat.add_zero, ← s1.1]
     | dead a =>
      rw [a] at hnow
      exact .dead hnow
     | grew a b c =>
      rename_i k0 sa na k' sb nb
      rw [b] at hnow
      simp only at hnow
      cases hg0 : g.sh e with
      | free => exact .new (hp.trans hg0)
      | dead => rw [hg0] at s1; simp only at s1; rw [s1] at a; cases a
      | box s => rw [hg0] at s1; simp only at s1; rw [s1] at a; cases a
      | map => rw [hg0] at s1; simp only at s1; rw [s1] at a; cases a
      | vec k s n =>
       rw [hg0] at s1
       simp only at s1
       rw [s1.2] at a
       simp only [ESh.vec.injEq] at a
       refine .grew (hp.trans hg0) hnow.2 ?_
       rw [hgTe, ← hnow.1, s1.1]
       omega
     | new a =>
      cases hg0 : g.sh e with
      | free => exact .new (hp.trans hg0)
      | dead => rw [hg0] at s1; simp only at s1; rw [s1] at a; cases a
      | box s => rw [hg0] at s1; simp only at s1; rw [s1] at a; cases a
      | map => rw [hg0] at s1; simp only at s1; rw [s1] at a; cases a
      | vec k s n => rw [hg0] at s1; simp only at s1; rw [s1.2] at a; cases a
    ·refine .dead ?_
     rw [k3.sh, hget1, if_pos (by omega), if_neg]
     ·rfl
     ·rw [hallt]
      have : decide (fr ≤ e) = false := by simpa using hef
      simp [turned, hm, this]
   ·exact .new (by simp [G.part, Nat.not_lt.2 hef])
 have hupd : (all.map fun e => (e, (backE B (B.gT e) (getE (encH S.Fs y) (idxOf all e))).getD .dead)) = all.map fun e => (e, getE H1 e) := by
  refine List.map_congr_left fun e he => ?_
  have he : mem all e = true := by simpa [mem] using he
  rw [hget1, if_pos (hlt e he), if_pos he]
 obtain ⟨z1, z2, z3⟩ := join_inv (N := S.news) (H2 := upd H (all.map fun e => (e, getE H1 e))) hI hids hfree hle1 k3
  (fun e he => by
   obtain ⟨E, e1, e2, e3⟩ := hm1 e (by rw [hallt]; exact he)
   rw [e2]; exact e3)
  (fun e => by
   rw [getE_upd_map H1 all H e (fun i hi => hin i (by simpa [mem] using hi))]
   have := hallt e
   unfold mem at this
   rw [this])
 refine ⟨g1, _, z1, ?_, k4, z3⟩
 rw [hupd]
 exact z2
theorem pos_soundX {P : Program} {k : Nat} {fnX : List AV → Heap → Tr (AV × Heap)} (henter : ∀ (args : Array Value) (w : World), (callFunc k args).run P w = .ok (.enter k args) w)
  (hX : ∀ {g : G} {H H' : Heap} {w : World} {vs : List AV} {rvs : List Value} {v : AV}, HInv g H w → argsRep g vs rvs → (fnX vs H).eval = some (v, H') → Calls P k rvs.toArray w fun e w' => ∃ rv g', e = .returned rv ∧ g.le g' ∧ HInv g' H' w' ∧ VRep g' v rv)
  {S : PSpec} {pre : HL S.As → HD S.Es → Bool} {f : HL S.As → HD S.Es → S.Out}
  (h1 : ∀ xs hs, HL.ok S.As xs → HD.ok S.Es hs → pre xs hs = true → ((fnX (mkArgs S.As xs) (encH S.Es hs)).bind fun r => match S.norm r with
   | some d => .ret d
   | none => .fail).eval = some (f xs hs)) :
  CSound P k (CSpec.pos S pre f) ∧ CLocal (CSpec.pos S pre f) := by
 refine ⟨⟨henter, ?_⟩, pos_local S pre f⟩
 intro g H w vs rvs fr out hI hargs hfree he
 simp only [CSpec.pos] at he hfree
 rw [(es_split H _ _).1, (es_split H _ _).2, reach_reachE] at he
 generalize hids0 : reach 5 H (rootVs S.As vs) = ids0 at he
 generalize hle0 : lendVs S.As vs = le at he
 unfold posCore at he
 split at he
 ·rename_i hc
  simp only [Bool.and_eq_true] at hc
  obtain ⟨⟨⟨⟨c1, c2⟩, c3⟩, c4⟩, c5⟩ := hc
  have hget : ∀ e, putE ids0 (ents H ids0) e = if mem ids0 e then getE H e else .dead := fun e => putE_ents H ids0 e
  have hlent : ∀ e, putE le (ents H le) e = if mem le e then getE H e else .dead := fun e => putE_ents H le e
  generalize putE ids0 (ents H ids0) = get at he hget
  generalize putE le (ents H le) = lentE at he hlent
  have hdm := dedupN_mem ids0
  generalize dedupN ids0 = ids at he hdm c4
  have hids : ∀ e, mem ids0 e = true → e < fr := fun e he => by
   have := List.all_eq_true.1 c2 e (by simpa [mem] using he)
   simpa using this
  have hcl := ents_all c3
  have hnl : ∀ e, mem le e = true → mem ids0 e = false := fun e he => by
   have := List.all_eq_true.1 c1 e (by simpa [mem] using he)
   simpa using this
  have hEs : ∀ t, t < S.Es.length → liveY S.Es[t]? = true := fun t ht => by
   rw [List.getElem?_eq_getElem ht]
   exact List.all_eq_true.1 c5 _ (List.getElem_mem ht)
  split at he
  ·rename_i xs hxs
   split at he
   ·rename_i hs hhs
    obtain ⟨hp, he⟩ := Tr.chk_some he
    obtain ⟨hlen, hEC⟩ := decC_EC hhs
    have hlen : ids.length = S.Es.length := by simpa using hlen
    have hpi := part_inv (n := fr) hI hids hcl
    have hfrom : ∀ t, t < ids.length → ids[t]? = some (ids.getD t 0) := by
     intro t ht
     rw [List.getD_eq_getElem?_getD, List.getElem?_eq_getElem ht]
     rfl
    have hgp : ∀ e, mem ids0 e = true → getE (partH ids0 H fr) e = getE H e := fun e he => by
     rw [getE_partH, if_pos (hids e he), if_pos he]
    have key := conv_inv (R := rnIn S ids get fun _ => .dead) (q := fun t => decide (t < ids.length)) (from_ := fun t => ids.getD t 0) (H' := encH S.Es hs) hpi
     (fun e he => by
      have he : mem ids e = true := he
      obtain ⟨w1, w2⟩ := idxOf_mem he
      exact ⟨decide_eq_true w1, w2⟩)
     (fun t ht => by
      have ht : t < ids.length := by simpa using ht
      exact ⟨getD_mem ht, nodupI_spec c4 ht⟩)
     (fun e k a l he hE => by
      have he : mem ids0 e = true := by rw [← hdm]; exact he
      rw [hgp e he] at hE
      show k = genE (get e)
      rw [hget, if_pos he, hE]; rfl)
     (fun t K a l ht hE => encH_gen hE)
     (fun t ht => by
      have ht : t < ids.length := by simpa using ht
      have := hEC t (hEs t (by omega))
      rw [getE_map', hfrom t ht] at this
      have hm : mem ids0 (ids.getD t 0) = true := by rw [← hdm]; exact getD_mem ht
      rw [hgp _ hm]
      simp only [hget, if_pos hm] at this
      exact this)
     (fun t ht => by
      have ht : ¬ t < ids.length := by simpa using ht
      rw [getE_past _ (by rw [encH_length]; omega)]
      rfl)
     false
     (fun e => rfl)
    obtain ⟨k1, k2⟩ := key
    generalize hg' : (g.part H w ids0 fr).rn (partH ids0 H fr) w (rnIn S ids get fun _ => .dead).p false (fun t => ids.getD t 0) (encH S.Es hs) = g' at k1 k2
    have hsh' : ∀ t, g'.sh t = shp (getE (encH S.Es hs) t) := k1.sh
    have hrel : CRel (rnIn S ids get lentE) g g' := by
     refine ⟨k2.fr, fun b o h => k2.gr b o (part_gr_mono h), k2.bl, k2.sz, fun e he => ?_, ?_⟩
     ·have hm : mem ids0 e = true := by rw [← hdm]; exact he
      have := k2.sh e he
      have hp : (g.part H w ids0 fr).sh e = g.sh e := by simp [G.part, hids e hm, hm]
      rw [hp] at this
      exact this
     ·refine lent_view (H := H) hI (fun e => ?_) (fun b o h => k2.fr b o h) (fun b o h => k2.gr b o (part_gr_mono h)) (fun e b o hq hlv hb ho => .inr ⟨rfl, ?_⟩)
      ·show lentE e = _ ∨ lentE e = _
       rw [hlent]; split
       ·exact .inl rfl
       ·exact .inr rfl
      ·have hq : lentE e = getE H e := hq
       have hlv : (lentE e).live = true := hlv
       have hm : mem le e = true := by
        rw [hlent] at hlv
        by_cases h : mem le e = true
        ·exact h
        ·rw [if_neg h] at hlv; cases hlv
       rw [hq] at hlv
       refine k2.gr b o ?_
       rw [part_gr_lent hI (hnl e hm) hlv hb]
       exact ho
    have hargs' := convArgs_rep hrel hxs hargs
    have hx := args_ok hargs'
    have hh : HD.ok S.Es hs := HD_ok_of 0 (fun t => by rw [Nat.zero_add]; exact k1.ent t) hEs
    have hev := h1 xs hs hx hh hp
    obtain ⟨r, q1, q2⟩ := Tr.bind_some hev
    split at q2
    ·rename_i dd hnorm
     have := Tr.ret_some q2
     subst this
     unfold posOut at he
     split at he
     ·rename_i v hv0
      split at he
      ·rename_i hd
       have := Tr.ret_some he
       subst this
       simp only [Bool.and_eq_true, decide_eq_true_eq] at hd
       obtain ⟨⟨⟨d1, d2⟩, d3⟩, d4⟩ := hd
       refine (hX k1 hargs' q1).mono ?_
       rintro e w' ⟨rv, g1, rfl, hle, hI1, hv⟩
       obtain ⟨g3, w1, w2, w3⟩ := pnorm_rep hsh' hle hI1 hv hnorm
       have hbl : ∀ e, mem ids e = true → g'.bl (idxOf ids e) = g.bl e ∧ g'.sz (idxOf ids e) = g.sz e := fun e he => by
        rw [← hg']
        show g.bl (ids.getD (idxOf ids e) 0) = _ ∧ g.sz (ids.getD (idxOf ids e) 0) = _
        rw [(idxOf_mem he).2]
        exact ⟨rfl, rfl⟩
       obtain ⟨g4, g5, z1, z2, z3, z4⟩ := pos_back hI hids hdm hget hlen k1 k2 hbl (by rw [← hg']; rfl) (by rw [← hg']; exact fun b o h => rn_fr h) (by rw [← hg']; rfl) w1 w2 d1 d2
        (fun e he => by
         have := List.all_eq_true.1 d3 e (by simpa [mem] using he)
         split at this
         ·rename_i E hE; exact ⟨E, hE, this⟩
         ·cases this)
        (fun e he1 he2 => by rw [hI.sh, freeAt_get hfree e he1 he2]; rfl)
        (fun e he => by
         have he : e ∈ ids ++ List.range' fr S.news := by simpa [mem] using he
         rw [List.mem_append] at he
         rcases he with he | he
         ·have he : mem ids e = true := by simpa [mem] using he
          obtain ⟨v1, v2⟩ := idxOf_mem he
          have := hEC (idxOf ids e) (hEs _ (by omega))
          rw [getE_map', hfrom _ v1] at this
          simp only at this
          rw [v2, hget, if_pos (by rw [← hdm]; exact he)] at this
          refine lt_of_live (H := H) ?_
          have hly := hEs (idxOf ids e) (by omega)
          have hlv : (getE (encH S.Es hs) (idxOf ids e)).live = true := by
           have hq := encH_shp (y := hs) (List.getElem?_eq_getElem (l := S.Es) (i := idxOf ids e) (by omega))
           rw [List.getElem?_eq_getElem (by omega)] at hly
           cases hE : S.Es[idxOf ids e] with
           | free => rw [hE] at hly; cases hly
           | dead => rw [hE] at hly; cases hly
           | box T => rw [hE] at hq; obtain ⟨x, hx⟩ := hq; rw [hx]; rfl
           | vec k a => rw [hE] at hq; obtain ⟨x, hx⟩ := hq; rw [hx]; rfl
           | map K V => rw [hE] at hq; obtain ⟨x, hx⟩ := hq; rw [hx]; rfl
          cases h1 : getE H e <;> cases h2 : getE (encH S.Es hs) (idxOf ids e) <;> rw [h1, h2] at this <;> first | rfl | (exact this.elim) | (rw [h2] at hlv; cases hlv)
         ·rcases freeAt_lt hfree with h | h
          ·rw [h] at he; simp at he
          ·rw [List.mem_range'] at he
           obtain ⟨i, hi, rfl⟩ := he
           omega)
       exact ⟨rv, g5, rfl, z1, z2, inn_VRep z4 d4 (backV_rep z3 hv0 w3)⟩
      ·exact (Tr.fail_some he).elim
     ·exact (Tr.fail_some he).elim
    ·exact (Tr.fail_some q2).elim
   ·exact (Tr.fail_some he).elim
  ·exact (Tr.fail_some he).elim
 ·exact (Tr.fail_some he).elim
theorem pos_sound {P : Program} {C : Ctx} {L : Loops} (hC : CtxSound P C ∧ CtxLocal C) {k : Nat} {fn : Func} (hf : P.funcs[k]? = some fn) (hside : ((fn.name == "runtime.NumGoroutine") == false && fn.body.isSome) = true)
  (hl : ∀ b ∈ loopsOf (bodyOf fn), LoopOK P L b) {S : PSpec} {pre : HL S.As → HD S.Es → Bool} {f : HL S.As → HD S.Es → S.Out}
  (h1 : ∀ xs hs, HL.ok S.As xs → HD.ok S.Es hs → pre xs hs = true → (fnP P C L S fn xs hs).eval = some (f xs hs)) :
  CSound P k (CSpec.pos S pre f) ∧ CLocal (CSpec.pos S pre f) := by
 simp only [Bool.and_eq_true, beq_iff_eq] at hside
 obtain ⟨hname, hb⟩ := hside
 obtain ⟨body, hb⟩ := Option.isSome_iff_exists.1 hb
 have hl : LoopsOK P L body := by
  refine loopsOK_all ?_
  unfold bodyOf at hl
  rw [hb] at hl
  exact hl
 exact pos_soundX (fnX := fnK P C L fn) (fun args w => callFunc_enter hf hname hb args w) (fun hI hargs he => fn_sound hC.1 hC.2 hf hb hl hI hargs (fnK_ok he)) h1
end Vse
end
section
set_option linter.unusedVariables false
namespace Vse
open Go Go.ChangeShapes
def addIniW (b K : Nat) (a : Ty) (st : St) : Option St :=
 match getE st.heap b with
 | .box T x => match getP T x [] () with
  | some t => if t.T = .nils then (match setP T x [] () ⟨.vc st.heap.length K, ()⟩ with
   | some r => if (poff T.sk [] ()).isSome then some ⟨st.env, setE st.heap b (.box r.T r.x) ++ [.vec K a []]⟩ else none
   | none => none) else none
  | none => none
 | _ => none
theorem addIniW_rep {g : G} {st st' : St} {a : Act} {w : World} {b K : Nat} {A : Ty} (h : SRep g st a w) (hs : addIniW b K A st = some st') : ∃ g', g.le g' ∧ SRep g' st' a w := by
 unfold addIniW at hs
 split at hs
 ·rename_i T x hE
  split at hs
  ·rename_i t ht
   split at hs
   ·rename_i hn
    split at hs
    ·rename_i r hr
     split at hs
     ·rename_i hp
      simp only [Option.some.injEq] at hs
      subst hs
      obtain ⟨⟨off, s⟩, hpo⟩ := Option.isSome_iff_exists.1 hp
      have hlive : (getE st.heap b).live = true := by rw [hE]; rfl
      have hlt := lt_of_live hlive
      have hw : HInv g (st.heap ++ frees 1) w := h.heap.widen 1
      obtain ⟨g1, q1, q2, q3, q4⟩ := hw.nilVec (e := st.heap.length) (k := K) (a := A) (by simp [frees]) (.inl (getE_append_one _))
      rw [setE_append_one] at q2
      have hE1 : getE (st.heap ++ [.vec K A []]) b = .box T x := by
       have : getE (setE (st.heap ++ frees 1) st.heap.length (.vec K A [])) b = .box T x := by
        rw [getE_setE, if_neg (fun h => by omega), getE_append_frees, hE]
       rwa [setE_append_one] at this
      have hent := q2.ent b
      rw [hE1] at hent
      obtain ⟨bb, cs, tt, fz, w1, w2, w3, w4⟩ := hent
      obtain ⟨p1, p2, p3⟩ := getP_rep T x [] () cs.toList t off s w4 ht hpo
      obtain ⟨T', y⟩ := t
      simp only at hn
      subst hn
      simp only [Rep] at p1
      have hnew : Rep g1 (.vc st.heap.length K) () [.slice none 0 0] := by
       simp only [Rep, G.vcr, q3]
       exact ⟨⟨_, rfl, rfl⟩, Nat.le_refl _, fun _ => .inl ⟨q4, trivial, trivial⟩⟩
      obtain ⟨s1, s2, s3, s4⟩ := setP_rep T x [] () cs.toList [.slice none 0 0] ⟨.vc st.heap.length K, ()⟩ r off s w4 hr hpo hnew
      have hsame : splice cs.toList off [.slice none 0 0] = cs.toList := by
       rw [← p1]
       exact splice_same p3
      rw [hsame] at s3
      have hI2 := q2.setBox hE1 w1 w2 w3 s2 s3
      rw [setRow_self w bb cs tt fz w2, setE_append _ _ _ _ hlt] at hI2
      exact ⟨g1, q1, h.env.mono q1, hI2, h.defers.trans (congrArg Prod.snd q1.ext).symm⟩
     ·cases hs
    ·cases hs
   ·cases hs
  ·cases hs
 ·cases hs
inductive IniT
 | slot (s : Nat) (a : Ty)
 | fld (b m : Nat) (a : Ty)
 | all (b : Nat) (a : Ty)
def addNilsT : List IniT → St → St
 | [], st => st
 | .slot s a :: l, st => match addIni [s] [.vec 0 a] st with
  | some st' => addNilsT l st'
  | none => addNilsT l st
 | .fld b m a :: l, st => match addIniB b m 0 a st with
  | some st' => addNilsT l st'
  | none => addNilsT l st
 | .all b a :: l, st => match addIniW b 0 a st with
  | some st' => addNilsT l st'
  | none => addNilsT l st
theorem addNilsT_rep {a : Act} {w : World} : ∀ {l : List IniT} {g : G} {st : St}, SRep g st a w → ∃ g', g.le g' ∧ SRep g' (addNilsT l st) a w
 | [], g, st, h => ⟨g, G.le.refl g, h⟩
 | .slot s A :: l, g, st, h => by
  simp only [addNilsT]
  split
  ·rename_i st' hs
   obtain ⟨g1, q1, q2⟩ := addIni_rep h hs
   obtain ⟨g2, w1, w2⟩ := addNilsT_rep (l := l) q2
   exact ⟨g2, q1.trans w1, w2⟩
  ·exact addNilsT_rep h
 | .fld b m A :: l, g, st, h => by
  simp only [addNilsT]
  split
  ·rename_i st' hs
   obtain ⟨g1, q1, q2⟩ := addIniB_rep h hs
   obtain ⟨g2, w1, w2⟩ := addNilsT_rep (l := l) q2
   exact ⟨g2, q1.trans w1, w2⟩
  ·exact addNilsT_rep h
 | .all b A :: l, g, st, h => by
  simp only [addNilsT]
  split
  ·rename_i st' hs
   obtain ⟨g1, q1, q2⟩ := addIniW_rep h hs
   obtain ⟨g2, w1, w2⟩ := addNilsT_rep (l := l) q2
   exact ⟨g2, q1.trans w1, w2⟩
  ·exact addNilsT_rep h
def unifS : List Nat → List Ty → List AV → List (Nat × Nat)
 | k :: ks, T :: Ts, env => (match getV env k with
  | .v U _ => unifU U T
  | .tup _ => []) ++ unifS ks Ts env
 | _, _, _ => []
def convEnv (R : Rn) : List Nat → List Ty → Nat → List AV → List AV
 | _, _, _, [] => []
 | k :: ks, T :: Ts, i, a :: l => if i = k then (match a with
   | .v U x => match conv R T U x with
    | some y => .v T y
    | none => AV.und
   | .tup _ => AV.und) :: convEnv R ks Ts (i + 1) l else AV.und :: convEnv R (k :: ks) (T :: Ts) (i + 1) l
 | _, _, i, _ :: l => AV.und :: convEnv R [] [] (i + 1) l
theorem convEnv_length (R : Rn) : ∀ (l : List AV) (ks : List Nat) (Ts : List Ty) (i : Nat), (convEnv R ks Ts i l).length = l.length
 | [], ks, Ts, i => by cases ks <;> cases Ts <;> rfl
 | a :: l, ks, Ts, i => by
  cases ks with
  | nil => cases Ts <;> simp [convEnv, convEnv_length R l]
  | cons k ks =>
   cases Ts with
   | nil => simp [convEnv, convEnv_length R l]
   | cons T Ts => simp only [convEnv]; split <;> simp [convEnv_length R l]
theorem convEnv_get {R : Rn} {g g' : G} (hc : CRel R g g') : ∀ (l : List AV) (ks : List Nat) (Ts : List Ty) (i j : Nat) (rv : Value), VRep g (getV l j) rv → VRep g' (getV (convEnv R ks Ts i l) j) rv
 | [], ks, Ts, i, j, rv, h => by
  have h : VRep g AV.none rv := h
  have : getV (convEnv R ks Ts i []) j = AV.none := by cases ks <;> cases Ts <;> rfl
  rw [this]
  obtain ⟨vs, h1, h2⟩ := h
  exact ⟨vs, h1, h2⟩
 | a :: l, ks, Ts, i, j, rv, h => by
  have rest : ∀ (a' : AV) (ks' : List Nat) (Ts' : List Ty), (j = 0 → VRep g' a' rv) → VRep g' (getV (a' :: convEnv R ks' Ts' (i + 1) l) j) rv := by
   intro a' ks' Ts' h0
   cases j with
   | zero => exact h0 rfl
   | succ j => exact convEnv_get hc l ks' Ts' (i + 1) j rv h
  cases ks with
  | nil => cases Ts <;> exact rest _ _ _ fun _ => trivial
  | cons k ks =>
   cases Ts with
   | nil => exact rest _ _ _ fun _ => trivial
   | cons T Ts =>
    simp only [convEnv]
    split
    ·refine rest _ _ _ fun hj => ?_
     subst hj
     have h : VRep g a rv := h
     cases a with
     | v U x =>
      simp only
      split
      ·rename_i y hy
       exact conv_VRep hc hy h
      ·trivial
     | tup l => trivial
    ·exact rest _ _ _ fun _ => trivial
def renTo (E0 : List ETy) (inis : List IniT) (live : List Nat) (Ts : List Ty) (Es : List ETy) (nt : Nat) (st0 : St) : Option (HL Ts × HD Es) :=
 let st := addNilsT inis st0
 let ss := srcs st.heap Es 0 (unifS live Ts st.env ++ boxIds E0 0)
 if turnsOk st.heap E0 Es ss 0 && ((List.range Es.length).all fun t => !(liveY Es[t]?) || decide (idxOf ss (ss.getD t 0) = t)) && decide (st.env.length = nt) then
  match decE live Ts 0 (convEnv (rnOf Es st.heap ss) live Ts 0 st.env) with
  | some xs => match decC (rnOf Es st.heap ss) Es (ss.map (getE st.heap)) with
   | some hs => some (xs, hs)
   | none => none
  | none => none
 else none
theorem renTo_rep {E0 : List ETy} {inis : List IniT} {live : List Nat} {Ts : List Ty} {Es : List ETy} {nt : Nat} {st : St} {d : HL Ts × HD Es} {g gn : G} {a : Act} {w : World} (hle : g.le gn) (h : SRep gn st a w) (h0 : ∀ t, isY (g.sh t) E0[t]?)
  (hn : renTo E0 inis live Ts Es nt st = some d) : ∃ g3, g.le g3 ∧ SRep g3 (encS live Ts Es nt d.1 d.2) a w := by
 unfold renTo at hn
 obtain ⟨g1, hle1, h1⟩ := addNilsT_rep (l := inis) h
 simp only at hn
 generalize addNilsT inis st = st at hn h1
 split at hn
 ·rename_i hok
  simp only [Bool.and_eq_true, decide_eq_true_eq] at hok
  obtain ⟨⟨hturn, hall⟩, hnt⟩ := hok
  split at hn
  ·rename_i xs hxs
   split at hn
   ·rename_i hs hhs
    simp only [Option.some.injEq] at hn
    subst hn
    obtain ⟨g3, q1, q2, q3⟩ := ren_step (hle.trans hle1) h1.heap h0 hturn hall hhs
    refine ⟨g3, q1, ?_, q2, h1.defers.trans (congrArg Prod.snd ((hle.trans hle1).ext.trans q1.ext.symm))⟩
    have he : EnvRep g3 (convEnv (rnOf Es st.heap (srcs st.heap Es 0 (unifS live Ts st.env ++ boxIds E0 0))) live Ts 0 st.env) a :=
     ⟨by rw [convEnv_length]; exact h1.env.1, fun i => convEnv_get q3 _ _ _ _ _ _ (h1.env.2 i)⟩
    have hk := keepE_rep he live
    rw [decE_some hxs, convEnv_length, hnt] at hk
    exact hk
   ·cases hn
  ·cases hn
 ·cases hn
def heapIs : List ETy → Heap → Bool
 | [], [] => true
 | .box _ :: Es, .box _ _ :: H => heapIs Es H
 | .vec k _ :: Es, .vec k' _ _ :: H => decide (k = k') && heapIs Es H
 | .map _ _ :: Es, .map _ _ _ :: H => heapIs Es H
 | .dead :: Es, _ :: H => heapIs Es H
 | _, _ => false
theorem heapIs_isY : ∀ {Es : List ETy} {H : Heap}, heapIs Es H = true → ∀ t, isY (shp (getE H t)) Es[t]?
 | [], [], _, t => by simp [getE, shp, isY]
 | [], _ :: _, h, t => by simp [heapIs] at h
 | E :: Es, [], h, t => by cases E <;> simp [heapIs] at h
 | E :: Es, e :: H, h, t => by
  cases E with
  | free => cases e <;> simp [heapIs] at h
  | dead =>
   have h : heapIs Es H = true := by cases e <;> simpa only [heapIs] using h
   cases t with
   | zero => trivial
   | succ t => exact heapIs_isY h t
  | box T =>
   cases e <;> simp only [heapIs] at h <;> try (cases h; done)
   cases t with
   | zero => exact ⟨_, rfl⟩
   | succ t => exact heapIs_isY h t
  | vec k a =>
   cases e <;> simp only [heapIs, Bool.and_eq_true, decide_eq_true_eq] at h <;> try (cases h; done)
   cases t with
   | zero => obtain ⟨rfl, _⟩ := h; exact ⟨_, _, rfl⟩
   | succ t => exact heapIs_isY h.2 t
  | map K V =>
   cases e <;> simp only [heapIs] at h <;> try (cases h; done)
   cases t with
   | zero => rfl
   | succ t => exact heapIs_isY h t
structure RSpec where
 live : List Nat
 nt : Nat
 Ts : List Ty
 Es : List ETy
 E0 : List ETy
 inis : List IniT
 outs : Ex → List Nat × List Ty × List ETy
def RSpec.enc (S : RSpec) (xs : HL S.Ts) (hs : HD S.Es) : St := encS S.live S.Ts S.Es S.nt xs hs
abbrev RSpec.End (S : RSpec) := (HL S.Ts × HD S.Es) ⊕ (Ex × St)
def RSpec.outSt (S : RSpec) (x : Ex) (st : St) : Option St :=
 match renTo S.E0 S.inis (S.outs x).1 (S.outs x).2.1 (S.outs x).2.2 S.nt st with
 | some d => some (encS (S.outs x).1 (S.outs x).2.1 (S.outs x).2.2 S.nt d.1 d.2)
 | none => none
def RSpec.round (S : RSpec) (body : St → Tr (Ex × St)) (xs : HL S.Ts) (hs : HD S.Es) : Tr S.End :=
 (body (S.enc xs hs)).bind fun r => match r.1 with
  | .normal => match renTo S.E0 S.inis S.live S.Ts S.Es S.nt r.2 with
   | some d => .ret (.inl d)
   | none => .fail
  | x => match S.outSt x r.2 with
   | some st => .ret (.inr (x, st))
   | none => .fail
def RSpec.many (S : RSpec) (body : St → Tr (Ex × St)) : Nat → HL S.Ts → HD S.Es → Option (Ex × St)
 | 0, _, _ => none
 | n + 1, xs, hs => match (S.round body xs hs).eval with
  | some (.inl d) => S.many body n d.1 d.2
  | some (.inr r) => some r
  | none => none
def RSpec.fn (S : RSpec) (F : HL S.Ts → HD S.Es → Tr (Ex × St)) (st : St) : Tr (Ex × St) :=
 if heapIs S.E0 st.heap then
  match renTo S.E0 S.inis S.live S.Ts S.Es S.nt st with
  | some d => F d.1 d.2
  | none => .fail
 else .fail
section
variable {P : Program} {C : Ctx} {L : Loops}
theorem rmany_sound {rd : Option Nat} (hC : CtxSound P C ∧ CtxLocal C) {c : Code} (hl : LoopsOK P L c) (S : RSpec) {n : Nat} {g g0 : G} {xs : HL S.Ts} {hs : HD S.Es} {st' : St} {a : Act} {w : World} {x : Ex}
  {Q : Exit → Act → World → Prop} (h0 : ∀ t, isY (g.sh t) S.E0[t]?) (hle0 : g.le g0) (hr : SRep g0 (S.enc xs hs) a w) (he : S.many (bodyK P C L c) n xs hs = some (x, st'))
  (hn : ∀ g' a' w', g.le g' → SRep g' st' a' w' → Q x.out a' w') : (Code.loop c).wpIn (FW rd) 0 P Q a w := by
 refine wpIn_loop_ghost (fun m a w => ∃ g1 xs hs, g.le g1 ∧ SRep g1 (S.enc xs hs) a w ∧ S.many (bodyK P C L c) m xs hs = some (x, st')) n ⟨g0, xs, hs, hle0, hr, he⟩ ?_
 rintro m a w ⟨g1, xs, hs, hle, hs1, he1⟩
 cases m with
 | zero => cases he1
 | succ m =>
  simp only [RSpec.many] at he1
  have key : ∀ r, (S.round (bodyK P C L c) xs hs).eval = some r → ∃ y s2, (bodyK P C L c (S.enc xs hs)).eval = some (y, s2) ∧ (match y with
    | .normal => match renTo S.E0 S.inis S.live S.Ts S.Es S.nt s2 with
     | some d => (Tr.ret (.inl d) : Tr S.End)
     | none => .fail
    | x => match S.outSt x s2 with
     | some st => .ret (.inr (x, st))
     | none => .fail).eval = some r := by
   intro r hr
   obtain ⟨⟨y, s2⟩, h1, h2⟩ := Tr.bind_some hr
   exact ⟨y, s2, h1, h2⟩
  have exit : ∀ {y : Ex} {s2 : St} {r : S.End}, (match S.outSt y s2 with
        | some st => (Tr.ret (.inr (y, st)) : Tr S.End)
        | none => .fail).eval = some r → ∃ d, r = .inr (y, encS (S.outs y).1 (S.outs y).2.1 (S.outs y).2.2 S.nt d.1 d.2) ∧ renTo S.E0 S.inis (S.outs y).1 (S.outs y).2.1 (S.outs y).2.2 S.nt s2 = some d := by
   intro y s2 r h
   unfold RSpec.outSt at h
   cases hd : renTo S.E0 S.inis (S.outs y).1 (S.outs y).2.1 (S.outs y).2.2 S.nt s2 with
   | none => rw [hd] at h; exact (Tr.fail_some h).elim
   | some d => rw [hd] at h; exact ⟨d, (Tr.ret_some h).symm, rfl⟩
  split at he1
  ·rename_i d hd
   obtain ⟨y, s2, h1, h2⟩ := key _ hd
   refine code_sound hC.1 hC.2 c hl hs1 (bodyK_ok h1) ?_
   intro g2 a' w' hle2 hs2
   cases y with
   | normal =>
    simp only at h2
    split at h2
    ·rename_i d' hd'
     have := Tr.ret_some h2
     simp only [Sum.inl.injEq] at this
     subst this
     obtain ⟨g3, q1, q2⟩ := renTo_rep (hle.trans hle2) hs2 h0 hd'
     exact ⟨m, Nat.lt_succ_self m, g3, _, _, q1, q2, he1⟩
    ·exact (Tr.fail_some h2).elim
   | exit i => obtain ⟨_, h3, _⟩ := exit h2; cases h3
   | ret => obtain ⟨_, h3, _⟩ := exit h2; cases h3
  ·rename_i r hd
   simp only [Option.some.injEq] at he1
   subst he1
   obtain ⟨y, s2, h1, h2⟩ := key _ hd
   refine code_sound hC.1 hC.2 c hl hs1 (bodyK_ok h1) ?_
   intro g2 a' w' hle2 hs2
   cases y with
   | normal =>
    simp only at h2
    split at h2
    ·have := Tr.ret_some h2; cases this
    ·exact (Tr.fail_some h2).elim
   | exit i =>
    obtain ⟨d, h3, h4⟩ := exit h2
    simp only [Sum.inr.injEq, Prod.mk.injEq] at h3
    obtain ⟨rfl, rfl⟩ := h3
    obtain ⟨g3, q1, q2⟩ := renTo_rep (hle.trans hle2) hs2 h0 h4
    exact hn _ _ _ q1 q2
   | ret =>
    obtain ⟨d, h3, h4⟩ := exit h2
    simp only [Sum.inr.injEq, Prod.mk.injEq] at h3
    obtain ⟨rfl, rfl⟩ := h3
    obtain ⟨g3, q1, q2⟩ := renTo_rep (hle.trans hle2) hs2 h0 h4
    exact hn _ _ _ q1 q2
  ·cases he1
theorem rloop_ok {L' : Loops} (hC : CtxSound P C ∧ CtxLocal C) {c : Code} (hl : LoopsOK P L' c) (S : RSpec) {F : HL S.Ts → HD S.Es → Tr (Ex × St)} {i : Nat}
  (hi : firstReg c = some i) (hL : ∀ st, L i st = S.fn F st) (key : ∀ xs hs r, (F xs hs).eval = some r → ∃ n, S.many (bodyK P C L' c) n xs hs = some r) : LoopOK P L c := by
 intro j hj rd g st a w x st' Q hs he hn
 rw [hi] at hj
 cases hj
 rw [hL] at he
 unfold RSpec.fn at he
 split at he
 ·rename_i hh
  have h0 : ∀ t, isY (g.sh t) S.E0[t]? := fun t => by rw [hs.heap.sh]; exact heapIs_isY hh t
  split at he
  ·rename_i d hd
   obtain ⟨n, hm⟩ := key _ _ _ he
   obtain ⟨g3, q1, q2⟩ := renTo_rep (G.le.refl g) hs h0 hd
   exact rmany_sound hC hl S h0 q1 q2 hm hn
  ·exact (Tr.fail_some he).elim
 ·exact (Tr.fail_some he).elim
theorem rmany_inl {S : RSpec} {body : St → Tr (Ex × St)} {xs : HL S.Ts} {hs : HD S.Es} {d : HL S.Ts × HD S.Es} (h : (S.round body xs hs).eval = some (.inl d)) (n : Nat) : S.many body (n + 1) xs hs = S.many body n d.1 d.2 := by
 simp only [RSpec.many, h]
theorem rmany_inr {S : RSpec} {body : St → Tr (Ex × St)} {xs : HL S.Ts} {hs : HD S.Es} {r : Ex × St} (h : (S.round body xs hs).eval = some (.inr r)) (n : Nat) : S.many body (n + 1) xs hs = some r := by
 simp only [RSpec.many, h]
end
end Vse
end
section
set_option linter.unusedVariables false
namespace Vse
open Go Go.ChangeShapes
def CSpec.two (sel : List AV → List Entry → Option Bool) (c d : CSpec) : CSpec :=
 ⟨max c.new d.new, c.ids, c.wr, fun vs es fr => match sel vs es with
  | some b => .ite b (c.core vs es fr) (d.core vs es fr)
  | none => .fail⟩
theorem freeAt_less {H : Heap} : ∀ {n m fr : Nat}, m ≤ n → freeAt H fr n = true → freeAt H fr m = true
 | _, 0, _, _, _ => rfl
 | 0, m + 1, _, h, _ => by omega
 | n + 1, m + 1, fr, h, hf => by
  simp only [freeAt, Bool.and_eq_true] at hf ⊢
  exact ⟨hf.1, freeAt_less (by omega) hf.2⟩
theorem two_sound {P : Program} {k : Nat} {c d : CSpec} (sel : List AV → List Entry → Option Bool) (hi : c.ids = d.ids) (hw : c.wr = d.wr) (hc : CSound P k c ∧ CLocal c) (hd : CSound P k d ∧ CLocal d) : CSound P k (CSpec.two sel c d) ∧ CLocal (CSpec.two sel c d) := by
 refine ⟨⟨hc.1.enter, ?_⟩, ⟨hc.2.same, ?_⟩⟩
 ·intro g H w vs rvs fr out hI ha hf he
  simp only [CSpec.two] at he hf
  split at he
  ·rename_i b _
   rcases Tr.ite_some he with ⟨_, he⟩ | ⟨_, he⟩
   ·exact hc.1.calls g H w vs rvs fr out hI ha (freeAt_less (Nat.le_max_left _ _) hf) he
   ·rw [hi] at he
    exact hd.1.calls g H w vs rvs fr out hI ha (freeAt_less (Nat.le_max_right _ _) hf) he
  ·exact (Tr.fail_some he).elim
 ·intro vs H fr out he x hx
  simp only [CSpec.two] at he ⊢
  split at he
  ·rename_i b _
   rcases Tr.ite_some he with ⟨_, he⟩ | ⟨_, he⟩
   ·rcases hc.2.turns vs H fr out he x hx with h | h
    ·exact .inl h
    ·exact .inr ⟨h.1, Nat.lt_of_lt_of_le h.2 (Nat.add_le_add_left (Nat.le_max_left _ _) _)⟩
   ·rw [hi] at he
    rcases hd.2.turns vs H fr out he x hx with h | h
    ·rw [hw]; exact .inl h
    ·exact .inr ⟨h.1, Nat.lt_of_lt_of_le h.2 (Nat.add_le_add_left (Nat.le_max_right _ _) _)⟩
  ·exact (Tr.fail_some he).elim
end Vse
end
section
set_option linter.unusedVariables false
namespace Vse
open Go Go.ChangeShapes
open Go.RowKit in
theorem law_callsT {H : Type} {enc : TypeId × Value → H} {P : Program} {C : Ctx} {L : Loops} (hC : CtxSound P C ∧ CtxLocal C) (hlaid : laidOutB P = true) {k : Nat} {fn : Func} (hf : P.funcs[k]? = some fn)
  {n : Nat} {As : List Ty} (hside : (fn.body.isSome && (fn.params.toList.all fun t => P.readableRec t && decide (t < P.types.size))) = true) (hl : ∀ b ∈ loopsOf (bodyOf fn), LoopOK P L b) (hAs : argTys P n fn.params.toList = some As)
  {tb : TypeId} (hres : fn.resultTypes = #[tb]) (hbool : P.underlying tb = some .bool)
  {s : ChangeSpec} (hs : s.vars = [] ∧ ∀ ds : List (DataW H), ds.length = fn.params.toList.length → s.fn H ds = { results := [.lit (.bool true)], args := ds })
  (h1 : ∀ xs, HL.wf As xs → HL.sz As xs → nrm (fnK P C L fn (mkArgs As xs) []) = some (.v .bool true))
  {W : World} {base : Nat} {args : Array Value} {ds gs : List (DataW H)} {before : List MemPlace} {apart fresh handsOn again : Bool}
  (hval : ∀ (j : Nat) (t : TypeId) (v : Value), fn.params[j]? = some t → args[j]? = some v → Value.okWide P W .any base t v)
  (hW : DataW.Whole enc P fn.params.toList s.vars apart W args.toList ds gs before)
  (hz : (DataW.weightsEach P (fn.params.toList ++ s.plain.varTypes P) (ds ++ gs)).all (· ≤ reachBytes) = true) :
  Calls P k args W fun e W' => ∃ v, e = .returned v ∧ s.post enc P fn apart fresh handsOn again W args v W' := by
 simp only [Bool.and_eq_true] at hside
 obtain ⟨body, hb⟩ := Option.isSome_iff_exists.1 hside.1
 have hl : LoopsOK P L body := by
  refine loopsOK_all ?_
  unfold bodyOf at hl
  rw [hb] at hl
  exact hl
 exact law_callsZ hC hlaid hf hb hl hAs hside.2 hres hbool hs (fun xs hx hxz => nrmK (h1 xs hx hxz)) hval hW hz
theorem slpE {P : Program} {C : Ctx} {L : Loops} (hC : CtxSound P C ∧ CtxLocal C) {k : Nat} {fn : Func} (hf : P.funcs[k]? = some fn) {As Rs : List Ty} {pre : HL As → Bool} {f : HL As → HL Rs}
  (hside : ((fn.name == "runtime.NumGoroutine") == false && fn.body.isSome && (As.all fun A => A.still false) && stillL Rs) = true)
  (hl : ∀ b ∈ loopsOf (bodyOf fn), LoopOK P L b)
  (h1 : ∀ xs, HL.ok As xs → pre xs = true → nrm (fnS P C L Rs fn (mkArgs As xs)) = some (ofHL Rs (f xs))) :
  CSound P k (CSpec.slp As pre Rs f) ∧ CLocal (CSpec.slp As pre Rs f) := by
 simp only [Bool.and_eq_true, beq_iff_eq] at hside
 obtain ⟨⟨⟨hname, hb⟩, hA⟩, hR⟩ := hside
 obtain ⟨body, hb⟩ := Option.isSome_iff_exists.1 hb
 have hl : LoopsOK P L body := by
  refine loopsOK_all ?_
  unfold bodyOf at hl
  rw [hb] at hl
  exact hl
 refine ⟨⟨fun args w => callFunc_enter hf hname hb args w, ?_⟩, slp_local As pre Rs f⟩
 intro g H w vs rvs fr out hI hargs _ he
 simp only [CSpec.slp] at he
 rw [takeE_takeAs] at he
 split at he
 ·rename_i xs hxs
  obtain ⟨hp, he⟩ := Tr.chk_some he
  have := Tr.ret_some he
  subst this
  have hargs' := takeAs_rep hI hA hargs hxs
  have hx := args_ok hargs'
  obtain ⟨H', h5⟩ := nrm_some (h1 xs hx hp)
  obtain ⟨r, h6, h7⟩ := Tr.bind_some h5
  have h7 := Tr.ret_some h7
  refine (fn_sound hC.1 hC.2 hf hb hl (lend_inv hI) hargs' (fnK_ok h6)).mono ?_
  rintro e w' ⟨rv, g', rfl, hle, hI', hv⟩
  obtain ⟨g1, s1, s2, s3⟩ := sealR_rep Rs (r := r) hI' hv
  rw [h7] at s2 s3
  obtain ⟨g'', q1, q2, q3⟩ := lend_back hI (hle.trans s1) s2
  exact ⟨rv, g'', rfl, q1, q2, still_VRep q3 (ofHL_still hR _) s3⟩
 ·exact (Tr.fail_some he).elim
theorem slpE1 {P : Program} {C : Ctx} {L : Loops} (hC : CtxSound P C ∧ CtxLocal C) {k : Nat} {fn : Func} (hf : P.funcs[k]? = some fn) {As : List Ty} {R : Ty} {pre : HL As → Bool} {f : HL As → R.den}
  (hside : ((fn.name == "runtime.NumGoroutine") == false && fn.body.isSome && (As.all fun A => A.still false) && stillL [R]) = true)
  (hl : ∀ b ∈ loopsOf (bodyOf fn), LoopOK P L b)
  (h1 : ∀ xs, HL.ok As xs → pre xs = true → nrm (fnS P C L [R] fn (mkArgs As xs)) = some (.v R (f xs))) :
  CSound P k (CSpec.slp1 As pre R f) ∧ CLocal (CSpec.slp1 As pre R f) := slpE hC hf hside hl h1
theorem noLoopsL {P : Program} {L : Loops} {fn : Func} (h : loopsOf (bodyOf fn) = []) : ∀ b ∈ loopsOf (bodyOf fn), LoopOK P L b := by rw [h]; intro b hb; cases hb
theorem loops1 {P : Program} {L : Loops} {fn : Func} {b : Code} (h : loopsOf (bodyOf fn) = [b]) (h1 : LoopOK P L b) : ∀ b ∈ loopsOf (bodyOf fn), LoopOK P L b := by
 rw [h]; intro c hc; rw [List.mem_singleton.1 hc]; exact h1
theorem chk_eval {α : Type} {b : Bool} (h : b = true) (t : Tr α) : (Tr.chk b t).eval = t.eval := by rw [h]; rfl
theorem ite_t {α : Type} {b : Bool} (h : b = true) (t e : Tr α) : (Tr.ite b t e).eval = t.eval := by rw [h]; rfl
theorem ite_f {α : Type} {b : Bool} (h : b = false) (t e : Tr α) : (Tr.ite b t e).eval = e.eval := by rw [h]; rfl
end Vse
end
section
set_option linter.unusedVariables false
namespace Vse
open Go Go.ChangeShapes
def orL (b : St → Bool) (x y : St → Tr (Ex × St)) (st : St) : Tr (Ex × St) := match b st with | true => x st | false => y st
theorem loopOK_or {P : Program} {L L1 L2 : Loops} {c : Code} {i : Nat} (hi : firstReg c = some i) {b : St → Bool} {x y : St → Tr (Ex × St)} (hL : ∀ st, L i st = orL b x y st)
  (h1 : ∀ st, L1 i st = x st) (h2 : ∀ st, L2 i st = y st) (k1 : LoopOK P L1 c) (k2 : LoopOK P L2 c) : LoopOK P L c := by
 intro j hj rd g st a w z st' Q hs he hn
 have hij : j = i := by rw [hi] at hj; cases hj; rfl
 subst hij
 rw [hL] at he
 unfold orL at he
 split at he
 ·exact k1 j hi rd g st a w z st' Q hs (by rw [h1]; exact he) hn
 ·exact k2 j hi rd g st a w z st' Q hs (by rw [h2]; exact he) hn
end Vse
end
section
set_option linter.unusedVariables false
namespace Vse
open Go Go.ChangeShapes
def runR (P : Program) (C : Ctx) (L R : Loops) : Code → St → Tr (Ex × St)
 | .seq a b, st => (runR P C L R a st).bind fun r => match r with
  | (.normal, s) => runR P C L R b s
  | r => .ret r
 | .block id c, st => (runR P C L R c st).bind fun r => match r with
  | (.exit i, s) => if i = id then .ret (.normal, s) else .ret (.exit i, s)
  | r => .ret r
 | .rangeFunc _ _ x _, st => match firstReg x with
  | some i => R i st
  | none => .fail
 | c, st => run P C L c st
def RngsOK (P : Program) (R : Loops) : Code → Prop
 | .seq a b => RngsOK P R a ∧ RngsOK P R b
 | .block _ c => RngsOK P R c
 | .rangeFunc g ps x y => ∀ i, firstReg x = some i → RunOK P (R i) (.rangeFunc g ps x y)
 | _ => True
theorem G.leD.trans {g g' g'' : G} (h : g.leD g') (h' : g'.leD g'') : g.leD g'' :=
 ⟨fun b o x => h'.fr b o (h.fr b o x), h'.gr.trans h.gr, h'.ext.trans h.ext, fun e => (h.ent e).trans (h'.ent e)⟩
theorem G.leD.refl (g : G) : g.leD g := (G.le.refl g).d
theorem run_ok {P : Program} {C : Ctx} {L : Loops} (hC : CtxSound P C ∧ CtxLocal C) (c : Code) (hl : LoopsOK P L c) : RunOK P (run P C L c) c :=
 fun hs hm h1 hn => code_sound hC.1 hC.2 c hl hs h1 fun g' a' w' hle hs' => hn g' a' w' hle.d hs' (by rw [hle.ext]; exact hm.mono hle)
theorem runR_ok {P : Program} {C : Ctx} {L R : Loops} (hC : CtxSound P C ∧ CtxLocal C) : ∀ (c : Code), LoopsOK P L c → RngsOK P R c → RunOK P (runR P C L R c) c := by
 intro c
 induction c with
 | seq p q ihp ihq =>
  intro hl hr g st st' a w x Q hs hm he hn
  obtain ⟨r, h1, h2⟩ := Tr.bind_some (show ((runR P C L R p st).bind fun r => match r with | (.normal, s) => runR P C L R q s | r => .ret r).eval = _ from he)
  obtain ⟨y, s⟩ := r
  refine wpIn_seq (ihp hl.1 hr.1 hs hm h1 fun g' a' w' hle hs' hm' => ?_)
  cases y with
  | normal =>
   simp only [Ex.out, Exit.then]
   exact ihq hl.2 hr.2 hs' hm' h2 fun g'' a'' w'' hle' hs'' hm'' => hn g'' a'' w'' (hle.trans hle') hs'' hm''
  | exit i =>
   have := Tr.ret_some h2
   simp only [Prod.mk.injEq] at this
   obtain ⟨rfl, rfl⟩ := this
   exact hn g' a' w' hle hs' hm'
  | ret =>
   have := Tr.ret_some h2
   simp only [Prod.mk.injEq] at this
   obtain ⟨rfl, rfl⟩ := this
   exact hn g' a' w' hle hs' hm'
 | block id p ihp =>
  intro hl hr g st st' a w x Q hs hm he hn
  obtain ⟨r, h1, h2⟩ := Tr.bind_some (show ((runR P C L R p st).bind fun r => match r with | (.exit i, s) => if i = id then .ret (.normal, s) else .ret (.exit i, s) | r => .ret r).eval = _ from he)
  obtain ⟨y, s⟩ := r
  refine wpIn_block (ihp hl hr hs hm h1 fun g' a' w' hle hs' hm' => ?_)
  cases y with
  | normal =>
   have := Tr.ret_some h2
   simp only [Prod.mk.injEq] at this
   obtain ⟨rfl, rfl⟩ := this
   exact hn g' a' w' hle hs' hm'
  | exit i =>
   simp only [Ex.out, Exit.inBlock]
   simp only at h2
   split at h2
   ·rename_i hi
    have := Tr.ret_some h2
    simp only [Prod.mk.injEq] at this
    obtain ⟨rfl, rfl⟩ := this
    rw [if_pos hi]
    exact hn g' a' w' hle hs' hm'
   ·rename_i hi
    have := Tr.ret_some h2
    simp only [Prod.mk.injEq] at this
    obtain ⟨rfl, rfl⟩ := this
    rw [if_neg hi]
    exact hn g' a' w' hle hs' hm'
  | ret =>
   have := Tr.ret_some h2
   simp only [Prod.mk.injEq] at this
   obtain ⟨rfl, rfl⟩ := this
   exact hn g' a' w' hle hs' hm'
 | rangeFunc g ps x y =>
  intro hl hr g1 st st' a w z Q hs hm he hn
  simp only [runR] at he
  split at he
  ·rename_i i hi
   exact hr i hi hs hm he hn
  ·exact (Tr.fail_some he).elim
 | _ => intro hl _; exact run_ok hC _ hl
def G.lenl (g : G) (l r : Nat) (o : Loop) : G := { g with
 gr := fun b => if b = l then some (.loop o) else if b = r then some (.deferred (some [])) else g.gr b }
structure Going (g0 g : G) (H : Heap) (w : World) (l r : Nat) (o : Loop) : Prop where
 le : g0.leD g
 ds : g.ext.2 = []
 inv : HInv (g.lenl l r o) H w
 new : g0.gr l = none ∧ g0.gr r = none ∧ l ≠ r
theorem Going.c {g0 g : G} {H : Heap} {w : World} {l r : Nat} {o : Loop} (h : Going g0 g H w l r o) : g.leC (g.lenl l r o) := by
 obtain ⟨n1, n2, _⟩ := h.new
 refine ⟨fun b _ _ _ hb => hb, fun b cs t fz hb => ?_, fun e => .same rfl rfl rfl⟩
 have hg : g0.gr b = some (.cells cs t fz) := by rw [← h.le.gr]; exact hb
 have h1 : b ≠ l := by rintro rfl; rw [n1] at hg; cases hg
 have h2 : b ≠ r := by rintro rfl; rw [n2] at hg; cases hg
 simp only [G.lenl, if_neg h1, if_neg h2]
 exact hb
theorem lenl_c (g : G) (l r : Nat) (o : Loop) : (g.lenl l r o).leC g := by
 refine ⟨fun b _ _ _ hb => hb, fun b cs t fz hb => ?_, fun e => .same rfl rfl rfl⟩
 simp only [G.lenl] at hb
 split at hb
 ·cases hb
 ·split at hb
  ·cases hb
  ·exact hb
theorem EnvRep.c {g g' : G} (h : g.leC g') {env : List AV} {a : Act} (hr : EnvRep g env a) : EnvRep g' env a := ⟨hr.1, fun i => VRep_monoC h (hr.2 i)⟩
theorem Going.piece {P : Program} {C : Ctx} {L : Loops} {rd : Option Nat} (hC : CtxSound P C ∧ CtxLocal C) {c : Code} (hl : LoopsOK P L c) {g0 g : G} {env : List AV} {H : Heap} {w : World} {l r : Nat} {o : Loop} {a : Act} {x : Ex} {st' : St} {Q : Exit → Act → World → Prop}
  (h : Going g0 g H w l r o) (he : EnvRep g env a) (hd : a.defers = []) (hrun : (run P C L c ⟨env, H⟩).eval = some (x, st'))
  (hn : ∀ g' a' w', Going g0 g' st'.heap w' l r o → g.leD g' → EnvRep g' st'.env a' → a'.defers = [] → Q x.out a' w') : c.wpIn (FW rd) 0 P Q a w := by
 refine code_sound hC.1 hC.2 c hl (g := g.lenl l r o) ⟨he.c h.c, h.inv, by show a.defers = g.ext.2; rw [hd, h.ds]⟩ hrun ?_
 intro g2 a' w' hle hs
 have hgr : g2.gr = (g.lenl l r o).gr := hle.gr
 have hext : g2.ext = g.ext := hle.ext
 let g' : G := { g2 with gr := g.gr }
 have hg' : g'.lenl l r o = g2 := by
  cases g2
  simp only [G.lenl, g'] at hgr ⊢
  simp only [hgr]
 have hD : g.leD g' := ⟨hle.fr, rfl, by show g2.ext.1 = g.ext.1; rw [hext], fun e => by
  cases hle.ent e with
  | same a b c => exact .same a b c
  | dead a => exact .dead a
  | grew a b c => exact .grew a b c
  | new a => exact .new a⟩
 refine hn g' a' w' ⟨h.le.trans hD, by show g2.ext.2 = []; rw [hext]; exact h.ds, by rw [hg']; exact hs.heap, h.new⟩ hD ?_ ?_
 ·have := lenl_c g' l r o
  rw [hg'] at this
  exact hs.env.c this
 ·rw [hs.defers, hext]; exact h.ds
theorem Going.put {g0 g : G} {H : Heap} {w : World} {l r : Nat} {o : Loop} (h : Going g0 g H w l r o) (o' : Loop) : Going g0 g H (w.putObj l (.loop o')) l r o' := by
 have hl : w.heap[l]? = some (.loop o) := h.inv.gr l _ (by simp [G.lenl])
 have hlt : l < w.heap.size := (Array.getElem?_eq_some_iff.1 hl).1
 have hother : ∀ b, b ≠ l → (w.putObj l (.loop o')).heap[b]? = w.heap[b]? := fun b hb => World.putObj_heap_other hb
 have hc : (g.lenl l r o).leC (g.lenl l r o') := by
  refine ⟨fun b _ _ _ hb => hb, fun b cs t fz hb => ?_, fun e => .same rfl rfl rfl⟩
  simp only [G.lenl] at hb ⊢
  split at hb
  ·cases hb
  ·rename_i hn; rw [if_neg hn]; exact hb
 refine ⟨h.le, h.ds, ⟨h.inv.sh, fun b ob hb => ?_, fun b ob hb => ?_, fun e => ?_, fun e b hlv hb => ?_, fun b o1 o2 hb hb' => ?_, h.inv.dis, h.inv.ext⟩, h.new⟩
 ·have hne : b ≠ l := by
   rintro rfl
   exact h.inv.sep _ _ _ hb (by simp [G.lenl] : (g.lenl b r o).gr b = some (.loop o))
  rw [hother b hne]
  exact h.inv.fr b ob hb
 ·simp only [G.lenl] at hb
  by_cases hbl : b = l
  ·rw [if_pos hbl] at hb
   subst hbl
   cases hb
   exact World.putObj_heap_same hlt
  ·rw [hother b hbl]
   refine h.inv.gr b ob ?_
   simp only [G.lenl]
   rw [if_neg hbl] at hb ⊢
   exact hb
 ·have := ERep_monoC hc (e := e) rfl rfl (h.inv.ent e)
  cases hlv : (getE H e).live with
  | false => cases hE : getE H e <;> simp only [hE] at hlv ⊢ <;> first | trivial | cases hlv
  | true =>
   refine ERep_world (fun b hb ob ho => ?_) this
   have h2 := (h.inv.own e b hlv hb).2
   have hne : b ≠ l := by rintro rfl; simp [G.lenl] at h2
   rw [hother b hne]
   exact ho
 ·obtain ⟨h1, h2⟩ := h.inv.own e b hlv hb
  refine ⟨h1, ?_⟩
  have hne : b ≠ l := by rintro rfl; simp [G.lenl] at h2
  simp only [G.lenl] at h2 ⊢
  rw [if_neg hne] at h2 ⊢
  exact h2
 ·by_cases hbl : b = l
  ·subst hbl
   exact h.inv.sep _ _ _ hb (by simp [G.lenl] : (g.lenl b r o).gr b = some (.loop o))
  ·refine h.inv.sep b o1 o2 hb ?_
   simp only [G.lenl] at hb' ⊢
   rw [if_neg hbl] at hb' ⊢
   exact hb'
theorem Going.row {g0 g : G} {H : Heap} {w : World} {l r : Nat} {o : Loop} (h : Going g0 g H w l r o) : w.heap[l]? = some (.loop o) := h.inv.gr l _ (by simp [G.lenl])
theorem Going.round {P : Program} {C : Ctx} {L : Loops} (hC : CtxSound P C ∧ CtxLocal C) {asg body : Code} (hl1 : LoopsOK P L asg) (hl2 : LoopsOK P L body) {g0 g : G} {env : List AV} {H : Heap} {w : World} {l r : Nat} {o : Loop} {f : FuncId} {tmps : Array Value}
  (h : Going g0 g H w l r o) (ho : o.state = .ready) (he : EnvRep g env { tmps := tmps, defers := [] }) {st1 st2 : St} {x : Ex} (h1 : (run P C L asg ⟨env, H⟩).eval = some (.normal, st1)) (h2 : (run P C L body st1).eval = some (x, st2))
  {R : Ending → World → Prop} (hx : x = .normal ∨ ∃ id, x = .exit id)
  (hn : ∀ g' w' a2, g.leD g' → EnvRep g' st2.env a2 → a2.defers = [] → (x = .normal → Going g0 g' st2.heap w' l r { o with state := .ready, pending := none } → R (.returned (.bool true)) w') ∧
   (∀ id, x = .exit id → Going g0 g' st2.heap w' l r { o with state := .done, pending := some (.exit id) } → R (.returned (.bool false)) w')) :
  RoundIn (FW none) 0 P l f tmps asg body w R := by
 refine roundIn_of_wpIn trivial ?_
 refine Going.piece (rd := some l) hC hl1 h he rfl h1 ?_
 intro g1 a1 w1 hg1 hD1 he1 hd1
 simp only [Ex.out, Exit.then]
 refine ⟨_, run_beginRound hg1.row ho, ?_⟩
 refine Going.piece (rd := some l) hC hl2 (hg1.put { o with state := .busy }) he1 hd1 h2 ?_
 intro g2 a2 w2 hg2 hD2 he2 hd2
 rcases hx with rfl | ⟨id, rfl⟩
 ·refine ⟨_, _, run_endRound none hg2.row, ?_⟩
  exact (hn g2 _ a2 (hD1.trans hD2) he2 hd2).1 rfl (hg2.put _)
 ·refine ⟨_, _, run_endRound (some (.exit id)) hg2.row, ?_⟩
  exact (hn g2 _ a2 (hD1.trans hD2) he2 hd2).2 id rfl (hg2.put _)
theorem Going.ren {g0 g : G} {st : St} {w : World} {l r : Nat} {o : Loop} {a : Act} {E0 : List ETy} {inis : List IniT} {live : List Nat} {Ts : List Ty} {Es : List ETy} {nt : Nat} {d : HL Ts × HD Es} (h : Going g0 g st.heap w l r o) (hds : g0.ext.2 = []) (he : EnvRep g st.env a) (hd : a.defers = [])
  (h0 : ∀ t, isY (g0.sh t) E0[t]?) (hn : renTo E0 inis live Ts Es nt st = some d) : ∃ g3, Going g0 g3 (encS live Ts Es nt d.1 d.2).heap w l r o ∧ EnvRep g3 (encS live Ts Es nt d.1 d.2).env a := by
 have hle : (g0.lenl l r o).le (g.lenl l r o) := by
  refine ⟨h.le.fr, ?_, ?_, fun e => ?_⟩
  ·simp only [G.lenl, h.le.gr]
  ·show g.ext = g0.ext
   exact Prod.ext h.le.ext (h.ds.trans hds.symm)
  ·cases h.le.ent e with
   | same a b c => exact .same a b c
   | dead a => exact .dead a
   | grew a b c => exact .grew a b c
   | new a => exact .new a
 obtain ⟨g2, q1, q2⟩ := renTo_rep (g := g0.lenl l r o) hle ⟨he.c h.c, h.inv, by show a.defers = g.ext.2; rw [hd, h.ds]⟩ h0 hn
 have hgr : g2.gr = (g0.lenl l r o).gr := q1.gr
 have hext : g2.ext = g0.ext := q1.ext
 let g' : G := { g2 with gr := g0.gr }
 have hg' : g'.lenl l r o = g2 := by
  cases g2
  simp only [G.lenl, g'] at hgr ⊢
  simp only [hgr]
 refine ⟨g', ⟨⟨q1.fr, rfl, by show g2.ext.1 = g0.ext.1; rw [hext], fun e => ?_⟩, by show g2.ext.2 = []; rw [hext]; exact hds, by rw [hg']; exact q2.heap, h.new⟩, ?_⟩
 ·cases q1.ent e with
  | same a b c => exact .same a b c
  | dead a => exact .dead a
  | grew a b c => exact .grew a b c
  | new a => exact .new a
 ·have := lenl_c g' l r o
  rw [hg'] at this
  exact q2.env.c this
end Vse
end
section
set_option linter.unusedVariables false
namespace Vse
open Go
theorem ofInt_nat (k m : Nat) : BitVec.ofInt k (m : Int) = BitVec.ofNat k m := by
 apply BitVec.eq_of_toNat_eq
 simp [BitVec.toNat_ofNat]
theorem wrap_nat {k : IntKind} {m : Nat} (h : (m : Int) ≤ k.max) : k.wrap (m : Int) = m := by
 cases k <;> simp [IntKind.wrap, IntKind.max, IntKind.signed, IntKind.bits] at h ⊢ <;> (try split) <;> omega
theorem max_lt {k : IntKind} {m : Nat} (h : (m : Int) ≤ k.max) : m < 2 ^ k.bits := by
 cases k <;> simp [IntKind.max, IntKind.signed, IntKind.bits] at h ⊢ <;> omega
theorem xorI_nat {k : IntKind} {m n : Nat} (hm : (m : Int) ≤ k.max) (hn : (n : Int) ≤ k.max) (h : ((m ^^^ n : Nat) : Int) ≤ k.max) : xorI k m n = ((m ^^^ n : Nat) : Int) := by
 unfold xorI
 rw [ofInt_nat, ofInt_nat, BitVec.toNat_xor, BitVec.toNat_ofNat, BitVec.toNat_ofNat, Nat.mod_eq_of_lt (max_lt hm), Nat.mod_eq_of_lt (max_lt hn), wrap_nat h]
theorem andI_nat {k : IntKind} {m n : Nat} (hm : (m : Int) ≤ k.max) (hn : (n : Int) ≤ k.max) : andI k m n = ((m &&& n : Nat) : Int) := by
 unfold andI
 have h : ((m &&& n : Nat) : Int) ≤ k.max := by have := Nat.and_le_left (n := m) (m := n); omega
 rw [ofInt_nat, ofInt_nat, BitVec.toNat_and, BitVec.toNat_ofNat, BitVec.toNat_ofNat, Nat.mod_eq_of_lt (max_lt hm), Nat.mod_eq_of_lt (max_lt hn), wrap_nat h]
theorem orI_nat {k : IntKind} {m n : Nat} (hm : (m : Int) ≤ k.max) (hn : (n : Int) ≤ k.max) (h : ((m ||| n : Nat) : Int) ≤ k.max) : orI k m n = ((m ||| n : Nat) : Int) := by
 unfold orI
 rw [ofInt_nat, ofInt_nat, BitVec.toNat_or, BitVec.toNat_ofNat, BitVec.toNat_ofNat, Nat.mod_eq_of_lt (max_lt hm), Nat.mod_eq_of_lt (max_lt hn), wrap_nat h]
theorem max_i64 : IntKind.i64.max = 9223372036854775807 := by decide
theorem max_u8 : IntKind.u8.max = 255 := by decide
theorem max_u64 : IntKind.u64.max = 18446744073709551615 := by decide
def IsB (x : Int) : Prop := 0 ≤ x ∧ x < 256
theorem IsB.nat {x : Int} (h : IsB x) : ∃ n : Nat, x = n ∧ n < 256 := ⟨x.toNat, by unfold IsB at h; omega, by unfold IsB at h; omega⟩
theorem isB_nat {n : Nat} (h : n < 256) : IsB (n : Int) := by unfold IsB; omega
theorem xor_lt256 {m n : Nat} (hm : m < 256) (hn : n < 256) : m ^^^ n < 256 := Nat.xor_lt_two_pow (n := 8) hm hn
theorem xorI_u8 {m n : Nat} (hm : m < 256) (hn : n < 256) : xorI .u8 m n = ((m ^^^ n : Nat) : Int) := by
 have := xor_lt256 hm hn
 refine xorI_nat ?_ ?_ ?_ <;> rw [max_u8] <;> omega
end Vse
end
end
section
set_option linter.unusedVariables false
set_option maxRecDepth 100000
namespace Go.Proofs.Ytpafadpfpfgfjaa.Gen
open Go Vse Go.Proofs
abbrev i64 : Ty := .int .i64
abbrev u8 : Ty := .int .u8
abbrev bs : Ty := .imm false false u8
abbrev bt : Ty := .imm true false u8
abbrev w (x : Int) : Int := IntKind.i64.wrap x
abbrev wb (x : Int) : Int := IntKind.u8.wrap x
abbrev wu (x : Int) : Int := IntKind.u64.wrap x
theorem w_id {x : Int} (h : -9223372036854775808 ≤ x) (h' : x ≤ 9223372036854775807) : w x = x := by
 simp [IntKind.wrap, IntKind.signed, IntKind.bits]
 split <;> omega
theorem nil_sound : CtxSound Try.prog (ctx []) ∧ CtxLocal (ctx []) := ctx_sound trivial
abbrev ls : Ty := .imm false false bt
abbrev lt : Ty := .imm true false bt
theorem getD_cons {α : Type} {l : List α} {k : Nat} (h : k < l.length) (d : α) : l.getD k d = l[k] := by rw [List.getD_eq_getElem?_getD, List.getElem?_eq_getElem h]; rfl
end Go.Proofs.Ytpafadpfpfgfjaa.Gen
end
section
section
set_option linter.unusedVariables false
set_option maxRecDepth 100000
namespace Go.Proofs.Ytpafadpfpfgfjaa.Sha
open Go Vse Go.Proofs Gen
abbrev u32 : Ty := .int .u32
abbrev u64 : Ty := .int .u64
abbrev w3 (x : Int) : Int := IntKind.u32.wrap x
abbrev a8 : Ty := .arr 8 u32
abbrev a64 : Ty := .arr 64 u32
abbrev d32 : Ty := .arr 32 u8
def rotF (x k : Int) : Int := orI .u32 (shlI .u32 x (andI .u64 (IntKind.u64.wrap k) 31)) (shrI .u32 x (IntKind.u64.wrap (32 - andI .u64 (IntKind.u64.wrap k) 31)))
def s55 : CSpec := .fn1 [u32, i64] u32 fun x => rotF x.1 x.2.1
theorem ok55 : CSound Try.prog 152 s55 ∧ CLocal s55 := fn_ok1 nil_sound Try.func152 (by kernel_rfl) (fun xs _ => by kernel_rfl) (fun xs _ => by kernel_rfl)
def c53 (r : Int → Int → Int) : List (Nat × CSpec) := [(152, .fn1 [u32, i64] u32 fun x => r x.1 x.2.1)]
def turnE (r : Int → Int → Int) (n a b v : Int) : Int := xorI .u32 (xorI .u32 (r n (w (0 - a))) (r n (w (0 - b)))) v
theorem c53_sound : CtxSound Try.prog (ctx (c53 rotF)) ∧ CtxLocal (ctx (c53 rotF)) := ctx_sound ⟨ok55, trivial⟩
def turnF : Int → Int → Int → Int → Int := turnE rotF
def s53 : CSpec := .fn1 [u32, i64, i64, u32] u32 fun x => turnF x.1 x.2.1 x.2.2.1 x.2.2.2.1
theorem k53f (r : Int → Int → Int) (n a b v : Int) : (fnK Try.prog (ctx (c53 r)) L0 Try.f150 (mkArgs [u32, i64, i64, u32] (n, a, b, v, ())) []).fine [u32] = true := by kernel_rfl
theorem k53 (r : Int → Int → Int) (n a b v : Int) : (fnK Try.prog (ctx (c53 r)) L0 Try.f150 (mkArgs [u32, i64, i64, u32] (n, a, b, v, ())) []).fold1 u32 = turnE r n a b v := by kernel_rfl
theorem ok53 : CSound Try.prog 150 s53 ∧ CLocal s53 := fn_ok1 c53_sound Try.func150 (by kernel_rfl) (fun xs _ => k53f rotF xs.1 xs.2.1 xs.2.2.1 xs.2.2.2.1) (fun xs _ => k53 rotF xs.1 xs.2.1 xs.2.2.1 xs.2.2.2.1)
def consts : List Int := [
 0x428a2f98, 0x71374491, 0xb5c0fbcf, 0xe9b5dba5, 0x3956c25b, 0x59f111f1, 0x923f82a4, 0xab1c5ed5,
 0xd807aa98, 0x12835b01, 0x243185be, 0x550c7dc3, 0x72be5d74, 0x80deb1fe, 0x9bdc06a7, 0xc19bf174,
 0xe49b69c1, 0xefbe4786, 0x0fc19dc6, 0x240ca1cc, 0x2de92c6f, 0x4a7484aa, 0x5cb0a9dc, 0x76f988da,
 0x983e5152, 0xa831c66d, 0xb00327c8, 0xbf597fc7, 0xc6e00bf3, 0xd5a79147, 0x06ca6351, 0x14292967,
 0x27b70a85, 0x2e1b2138, 0x4d2c6dfc, 0x53380d13, 0x650a7354, 0x766a0abb, 0x81c2c92e, 0x92722c85,
 0xa2bfe8a1, 0xa81a664b, 0xc24b8b70, 0xc76c51a3, 0xd192e819, 0xd6990624, 0xf40e3585, 0x106aa070,
 0x19a4c116, 0x1e376c08, 0x2748774c, 0x34b0bcb5, 0x391c0cb3, 0x4ed8aa4a, 0x5b9cca4f, 0x682e6ff3,
 0x748f82ee, 0x78a5636f, 0x84c87814, 0x8cc70208, 0x90befffa, 0xa4506ceb, 0xbef9a3f7, 0xc67178f2]
def s54 : CSpec := .fn1 [] a64 fun _ => consts
theorem ok54 : CSound Try.prog 151 s54 ∧ CLocal s54 := fn_ok1 nil_sound Try.func151 (by kernel_rfl) (fun xs _ => by kernel_rfl) (fun xs _ => by kernel_rfl)
abbrev Tu := Int → Int → Int → Int → Int
def cM (r : Int → Int → Int) (t : Tu) (ks : List Int) : List (Nat × CSpec) :=
 [(152, .fn1 [u32, i64] u32 fun x => r x.1 x.2.1), (150, .fn1 [u32, i64, i64, u32] u32 fun x => t x.1 x.2.1 x.2.2.1 x.2.2.2.1), (151, .fn1 [] a64 fun _ => ks)]
theorem cM_sound : CtxSound Try.prog (ctx (cM rotF turnF consts)) ∧ CtxLocal (ctx (cM rotF turnF consts)) := ctx_sound ⟨ok55, ok53, ok54, trivial⟩
noncomputable def bM1 : Code := loopAt Try.f140 0
noncomputable def bM2 : Code := ((loopsOf bM1)[0]?).getD .skip
noncomputable def bM3 : Code := loopAt Try.f140 1
noncomputable def bM4 : Code := loopAt Try.f140 2
abbrev eM : List ETy := [.box a8, .box a8, .box a64]
def SM2 : RSpec := ⟨[1, 2, 4, 5, 6, 20, 31, 32, 33], 157, [bs, .ptr 0 [], .ptr 1 [], .ptr 2 [], i64, i64, bs, i64, i64], eM, eM, [], fun _ => ([1, 2, 4, 5, 20], [bs, .ptr 0 [], .ptr 1 [], .ptr 2 [], i64], eM)⟩
def put1 (v : List Int) (k c : Int) : List Int := v.set k.toNat (orI .u32 (shlI .u32 (v.getD k.toNat 0) 8) (w3 c))
def GM2 (b : List Int) (k i : Int) (q : List Int) (n j : Int) (s r v : List Int) : Tr SM2.End :=
 .ite (decide (j < n)) (.chk (inArr j q.length) (.chk (inArrK .i64 k 64) (.chk (inArrK .i64 k 64) (.ret (.inl ((b, (), (), (), k, i, q, n, w (j + 1), ()), (s, r, put1 v k (q.getD j.toNat 0), ())))))))
  (.ret (.inr (.exit 2, encS [1, 2, 4, 5, 20] [bs, .ptr 0 [], .ptr 1 [], .ptr 2 [], i64] eM 157 (b, (), (), (), i, ()) (s, r, v, ()))))
theorem rM2 (r0 : Int → Int → Int) (t : Tu) (ks : List Int) (b : List Int) (k i : Int) (q : List Int) (n j : Int) (s r v : List Int) :
  (SM2.round (bodyK Try.prog (ctx (cM r0 t ks)) L0 bM2) (b, (), (), (), k, i, q, n, j, ()) (s, r, v, ())).eval = (GM2 b k i q n j s r v).eval := by kernel_rfl
end Go.Proofs.Ytpafadpfpfgfjaa.Sha
end
section
set_option linter.unusedVariables false
set_option maxRecDepth 100000
namespace Go.Proofs.Ytpafadpfpfgfjaa.Sha
open Go Vse Go.Proofs Gen
def cM2 (k : Int) (q : List Int) (n j : Int) : Bool := decide (j = 0) && (decide (n = 4) && (decide (q.length = 4) && inArrK .i64 k 64))
def put4 (v : List Int) (k : Int) (q : List Int) : List Int := q.foldl (fun v c => put1 v k c) v
def FM2 (c : Int → List Int → Int → Int → Bool) (p : List Int → Int → List Int → List Int) (xs : HL SM2.Ts) (hs : HD SM2.Es) : Tr (Ex × St) :=
 .chk (c xs.2.2.2.2.1 xs.2.2.2.2.2.2.1 xs.2.2.2.2.2.2.2.1 xs.2.2.2.2.2.2.2.2.1)
  (.ret (.exit 2, encS [1, 2, 4, 5, 20] [bs, .ptr 0 [], .ptr 1 [], .ptr 2 [], i64] eM 157 (xs.1, (), (), (), xs.2.2.2.2.2.1, ()) (hs.1, hs.2.1, p hs.2.2.1 xs.2.2.2.2.1 xs.2.2.2.2.2.2.1, ())))
def SM1 : RSpec := ⟨[1, 2, 4, 5, 20], 157, [bs, .ptr 0 [], .ptr 1 [], .ptr 2 [], i64], eM, eM, [], fun _ => ([2, 4, 5], [.ptr 0 [], .ptr 1 [], .ptr 2 []], eM)⟩
def LM2 (c : Int → List Int → Int → Int → Bool) (p : List Int → Int → List Int → List Int) : Loops := fun j st => if j = 7 then SM2.fn (FM2 c p) st else .fail
def step2 (t : Tu) (v : List Int) (i : Int) : List Int :=
 v.set i.toNat (w3 (w3 (w3 (v.getD (w (i - 16)).toNat 0 + v.getD (w (i - 7)).toNat 0) + t (v.getD (w (i - 15)).toNat 0) 7 18 (shrI .u32 (v.getD (w (i - 15)).toNat 0) 3)) + t (v.getD (w (i - 2)).toNat 0) 17 19 (shrI .u32 (v.getD (w (i - 2)).toNat 0) 10)))
def GM1 (c : Int → List Int → Int → Int → Bool) (p : List Int → Int → List Int → List Int) (t : Tu) (b : List Int) (i : Int) (s r v : List Int) : Tr SM1.End :=
 let lo := w (4 * i)
 let hi := w (w (4 * i) + 4)
 let q := (b.take hi.toNat).drop lo.toNat
 .ite (decide (i < 64)) (.ite (decide (i < 16))
   (.chk (decide (0 ≤ lo) && (decide (lo ≤ hi) && decide (hi ≤ (b.length : Int)))) (.chk (c i q (q.length : Int) 0) (.ret (.inl ((b, (), (), (), w (i + 1), ()), (s, r, p v i q, ()))))))
   (.chk (inArrK .i64 (w (i - 15)) 64) (.chk (inArrK .i64 (w (i - 2)) 64) (.chk (inArrK .i64 (w (i - 16)) 64) (.chk (inArrK .i64 (w (i - 7)) 64) (.chk (inArrK .i64 i 64)
    (.ret (.inl ((b, (), (), (), w (i + 1), ()), (s, r, step2 t v i, ()))))))))))
  (.ret (.inr (.exit 0, encS [2, 4, 5] [.ptr 0 [], .ptr 1 [], .ptr 2 []] eM 157 ((), (), (), ()) (s, r, v, ()))))
theorem rM1 (r0 : Int → Int → Int) (t : Tu) (ks : List Int) (c : Int → List Int → Int → Int → Bool) (p : List Int → Int → List Int → List Int) (b : List Int) (i : Int) (s r v : List Int) :
  (SM1.round (bodyK Try.prog (ctx (cM r0 t ks)) (LM2 c p) bM1) (b, (), (), (), i, ()) (s, r, v, ())).eval = (GM1 c p t b i s r v).eval := by kernel_rfl
abbrev eM3 : List ETy := [.box a8, .box a8, .box a64, .box a8]
def SM3 : RSpec := ⟨[2, 4, 5, 11, 78, 79], 157, [.ptr 0 [], .ptr 1 [], .ptr 2 [], .ptr 3 [], a64, i64], eM3, eM3, [], fun _ => ([2, 4, 11], [.ptr 0 [], .ptr 1 [], .ptr 3 []], [.box a8, .box a8, .dead, .box a8])⟩
def shift7 (l : List Int) : List Int := l.take 1 ++ (overL ((l.drop 1).take 7) ((l.drop 0).take 7) ++ l.drop (1 + 7))
def tF (r : Int → Int → Int) (t : Tu) (l : List Int) (k x : Int) : Int :=
 let e := l.getD 4 0
 w3 (w3 (w3 (w3 (l.getD 7 0 + t e 6 11 (r e (-25))) + xorI .u32 (andI .u32 e (l.getD 5 0)) (andI .u32 (xorI .u32 4294967295 e) (l.getD 6 0))) + k) + x)
def uF (r : Int → Int → Int) (t : Tu) (l : List Int) : Int :=
 let a := l.getD 0 0
 w3 (t a 2 13 (r a (-22)) + xorI .u32 (xorI .u32 (andI .u32 a (l.getD 1 0)) (andI .u32 a (l.getD 2 0))) (andI .u32 (l.getD 1 0) (l.getD 2 0)))
def round1 (r : Int → Int → Int) (t : Tu) (l : List Int) (k x : Int) : List Int :=
 ((shift7 l).set 0 (w3 (tF r t l k x + uF r t l))).set 4 (w3 ((shift7 l).getD 4 0 + tF r t l k x))
def GM3 (r0 : Int → Int → Int) (t : Tu) (ks : List Int) (i : Int) (s r v l : List Int) : Tr SM3.End :=
 .ite (decide (i < 64)) (.chk (inArrK .i64 i 64) (.chk (inArrK .i64 i 64) (.ret (.inl (((), (), (), (), ks, w (i + 1), ()), (s, r, v, round1 r0 t l (ks.getD i.toNat 0) (v.getD i.toNat 0), ()))))))
  (.ret (.inr (.exit 4, encS [2, 4, 11] [.ptr 0 [], .ptr 1 [], .ptr 3 []] [.box a8, .box a8, .dead, .box a8] 157 ((), (), (), ()) (s, r, l, ()))))
theorem rM3 (r0 : Int → Int → Int) (t : Tu) (ks0 ks : List Int) (i : Int) (s r v l : List Int) :
  (SM3.round (bodyK Try.prog (ctx (cM r0 t ks0)) L0 bM3) ((), (), (), (), ks, i, ()) (s, r, v, l, ())).eval = (GM3 r0 t ks i s r v l).eval := by kernel_rfl
def SM4 : RSpec := ⟨[2, 4, 144, 145], 157, [.ptr 0 [], .ptr 1 [], a8, i64], [.box a8, .box a8, .dead, .dead], [.box a8, .box a8, .dead, .box a8], [], fun _ => ([2, 4], [.ptr 0 [], .ptr 1 []], [.box a8, .box a8, .dead, .dead])⟩
def GM4 (l : List Int) (i : Int) (s r : List Int) : Tr SM4.End :=
 .ite (decide (i < 8)) (.chk (inArrK .i64 i 8) (.chk (inArrK .i64 i 8) (.chk (inArrK .i64 i 8) (.ret (.inl (((), (), l, w (i + 1), ()), (s.set i.toNat (w3 (s.getD i.toNat 0 + l.getD i.toNat 0)), r, ())))))))
  (.ret (.inr (.exit 6, encS [2, 4] [.ptr 0 [], .ptr 1 []] [.box a8, .box a8, .dead, .dead] 157 ((), (), ()) (s, r, ()))))
theorem rM4 (r0 : Int → Int → Int) (t : Tu) (ks0 l : List Int) (i : Int) (s r : List Int) :
  (SM4.round (bodyK Try.prog (ctx (cM r0 t ks0)) L0 bM4) ((), (), l, i, ()) (s, r, ())).eval = (GM4 l i s r).eval := by kernel_rfl
end Go.Proofs.Ytpafadpfpfgfjaa.Sha
end
section
set_option linter.unusedVariables false
set_option maxRecDepth 100000
namespace Go.Proofs.Ytpafadpfpfgfjaa.Sha
open Go Vse Go.Proofs Gen
theorem inArrK64 {i : Int} {n : Nat} (hn : (n : Int) ≤ 9223372036854775807) (h0 : 0 ≤ i) (h1 : i < (n : Int)) : inArrK .i64 i n = true := by
 have e : (decide (0 ≤ IntKind.i64.min) && decide (IntKind.i64.max < (n : Int))) = false := by
  have : decide (0 ≤ IntKind.i64.min) = false := by decide
  rw [this]; rfl
 unfold inArrK
 rw [e]
 simp only [inArr, Bool.and_eq_true, decide_eq_true_eq]
 exact ⟨h0, h1⟩
theorem getD_cons {α : Type} {l : List α} {k : Nat} (h : k < l.length) (d : α) : l.getD k d = l[k] := by rw [List.getD_eq_getElem?_getD, List.getElem?_eq_getElem h]; rfl
abbrev CM : Ctx := ctx (cM rotF turnF consts)
theorem mM2 (b : List Int) (k i : Int) (q : List Int) (s r : List Int) (hq : (q.length : Int) ≤ 9223372036854775807) (hk : inArrK .i64 k 64 = true) : ∀ (m j : Nat) (v : List Int), j + m = q.length →
  SM2.many (bodyK Try.prog CM L0 bM2) (m + 1) (b, (), (), (), k, i, q, (q.length : Int), (j : Int), ()) (s, r, v, ()) = some (.exit 2, encS [1, 2, 4, 5, 20] [bs, .ptr 0 [], .ptr 1 [], .ptr 2 [], i64] eM 157 (b, (), (), (), i, ()) (s, r, put4 v k (q.drop j), ()))
 | 0, j, v, h => by
  rw [List.drop_eq_nil_of_le (by omega)]
  refine rmany_inr ((rM2 rotF turnF consts b k i q _ j s r v).trans ?_) 0
  simp only [GM2, Tr.eval, decide_eq_false (show ¬ ((j : Int) < (q.length : Int)) by omega)]
  rfl
 | m + 1, j, v, h => by
  have h1 : j < q.length := by omega
  have i1 : inArr (j : Int) q.length = true := by simp [inArr]; omega
  rw [List.drop_eq_getElem_cons h1]
  refine (rmany_inl (d := ((b, (), (), (), k, i, q, (q.length : Int), ((j + 1 : Nat) : Int), ()), (s, r, put1 v k q[j], ()))) ((rM2 rotF turnF consts b k i q _ j s r v).trans ?_) (m + 1)).trans (mM2 b k i q s r hq hk m (j + 1) _ (by omega))
  simp only [GM2, Tr.eval, Tr.chk, decide_eq_true (show ((j : Int) < (q.length : Int)) by omega), i1, hk, Int.toNat_natCast, getD_cons h1]
  rw [w_id (by omega) (by omega)]
  rfl
theorem lM2 : LoopOK Try.prog (LM2 cM2 put4) bM2 :=
 rloop_ok (L := LM2 cM2 put4) (L' := L0) cM_sound (loopsOK_of (by kernel_rfl)) SM2 (F := FM2 cM2 put4) (i := 7) (by kernel_rfl) (fun _ => rfl) fun xs hs r h => by
  obtain ⟨b, u1, u2, u3, k, i, q, n, j, u4⟩ := xs
  obtain ⟨s, r', v, u5⟩ := hs
  obtain ⟨h1, h2⟩ := Tr.chk_some h
  simp only [cM2, Bool.and_eq_true, decide_eq_true_eq] at h1
  obtain ⟨e1, e2, e3, e4⟩ := h1
  have e1 : j = ((0 : Nat) : Int) := e1
  have e2 : n = ((List.length (α := Int) q : Nat) : Int) := by rw [e3]; exact e2
  subst e1; subst e2
  exact ⟨_, (mM2 b k i q s r' (by rw [e3]; decide) e4 (List.length (α := Int) q) 0 v (by omega)).trans (congrArg some (Tr.ret_some h2))⟩
def part4 (b : List Int) (i : Nat) : List Int := (b.take (4 * i + 4)).drop (4 * i)
def schedL (t : Tu) (b : List Int) : Nat → Nat → List Int → List Int
 | _, 0, v => v
 | i, m + 1, v => schedL t b (i + 1) m (if i < 16 then put4 v (i : Int) (part4 b i) else step2 t v (i : Int))
def schedF (b v : List Int) : List Int := schedL turnF b 0 64 v
theorem mM1 (b : List Int) (hb : b.length = 64) (s r : List Int) : ∀ (m i : Nat) (v : List Int), i + m = 64 →
  SM1.many (bodyK Try.prog CM (LM2 cM2 put4) bM1) (m + 1) (b, (), (), (), (i : Int), ()) (s, r, v, ()) = some (.exit 0, encS [2, 4, 5] [.ptr 0 [], .ptr 1 [], .ptr 2 []] eM 157 ((), (), (), ()) (s, r, schedL turnF b i m v, ()))
 | 0, i, v, h => by
  refine rmany_inr ((rM1 rotF turnF consts cM2 put4 b i s r v).trans ?_) 0
  simp only [GM1, Tr.eval, decide_eq_false (show ¬ ((i : Int) < 64) by omega)]
  rfl
 | m + 1, i, v, h => by
  refine (rmany_inl (d := ((b, (), (), (), ((i + 1 : Nat) : Int), ()), (s, r, (if i < 16 then put4 v (i : Int) (part4 b i) else step2 turnF v (i : Int)), ()))) ((rM1 rotF turnF consts cM2 put4 b i s r v).trans ?_) (m + 1)).trans (mM1 b hb s r m (i + 1) _ (by omega))
  have w0 : w ((i : Int) + 1) = ((i + 1 : Nat) : Int) := (w_id (by omega) (by omega)).trans (by omega)
  by_cases hi : i < 16
  ·have w1 : w (4 * (i : Int)) = ((4 * i : Nat) : Int) := (w_id (by omega) (by omega)).trans (by omega)
   have w2 : w (((4 * i : Nat) : Int) + 4) = ((4 * i + 4 : Nat) : Int) := (w_id (by omega) (by omega)).trans (by omega)
   have hlen : ((b.take (4 * i + 4)).drop (4 * i)).length = 4 := by rw [List.length_drop, List.length_take]; omega
   have hc : (decide (0 ≤ ((4 * i : Nat) : Int)) && (decide (((4 * i : Nat) : Int) ≤ ((4 * i + 4 : Nat) : Int)) && decide (((4 * i + 4 : Nat) : Int) ≤ (b.length : Int)))) = true := by
    simp only [Bool.and_eq_true, decide_eq_true_eq]; omega
   have hc2 : cM2 (i : Int) ((b.take (4 * i + 4)).drop (4 * i)) (((b.take (4 * i + 4)).drop (4 * i)).length : Int) 0 = true := by
    simp only [cM2, hlen, inArrK64 (i := (i : Int)) (n := 64) (by omega) (by omega) (by omega)]; decide
   simp only [GM1, w1, w2, Int.toNat_natCast, Tr.eval, Tr.chk, decide_eq_true (show ((i : Int) < 64) by omega), decide_eq_true (show ((i : Int) < 16) by omega), hc, hc2, w0, if_pos hi]
   rfl
  ·have j1 : w ((i : Int) - 15) = ((i - 15 : Nat) : Int) := (w_id (by omega) (by omega)).trans (by omega)
   have j2 : w ((i : Int) - 2) = ((i - 2 : Nat) : Int) := (w_id (by omega) (by omega)).trans (by omega)
   have j3 : w ((i : Int) - 16) = ((i - 16 : Nat) : Int) := (w_id (by omega) (by omega)).trans (by omega)
   have j4 : w ((i : Int) - 7) = ((i - 7 : Nat) : Int) := (w_id (by omega) (by omega)).trans (by omega)
   have ok : ∀ k : Nat, k < 64 → inArrK .i64 (k : Int) 64 = true := fun k hk => inArrK64 (by omega) (by omega) (by omega)
   simp only [GM1, Tr.eval, Tr.chk, decide_eq_true (show ((i : Int) < 64) by omega), decide_eq_false (show ¬ ((i : Int) < 16) by omega), j1, j2, j3, j4, ok (i - 15) (by omega), ok (i - 2) (by omega), ok (i - 16) (by omega), ok (i - 7) (by omega), ok i (by omega), w0, if_neg hi]
def cM1 (b : List Int) (i : Int) : Bool := decide (i = 0) && decide (b.length = 64)
def FM1 (c : List Int → Int → Bool) (S : List Int → List Int → List Int) (xs : HL SM1.Ts) (hs : HD SM1.Es) : Tr (Ex × St) :=
 .chk (c xs.1 xs.2.2.2.2.1) (.ret (.exit 0, encS [2, 4, 5] [.ptr 0 [], .ptr 1 [], .ptr 2 []] eM 157 ((), (), (), ()) (hs.1, hs.2.1, S xs.1 hs.2.2.1, ())))
def roundsL (t : Tu) (r : Int → Int → Int) (ks v : List Int) : Nat → Nat → List Int → List Int
 | _, 0, l => l
 | i, m + 1, l => roundsL t r ks v (i + 1) m (round1 r t l (ks.getD i 0) (v.getD i 0))
def roundsF (ks v l : List Int) : List Int := roundsL turnF rotF ks v 0 64 l
def FM3 (S : List Int → List Int → List Int → List Int) (xs : HL SM3.Ts) (hs : HD SM3.Es) : Tr (Ex × St) :=
 .chk (decide (xs.2.2.2.2.2.1 = (0 : Int))) (.ret (.exit 4, encS [2, 4, 11] [.ptr 0 [], .ptr 1 [], .ptr 3 []] [.box a8, .box a8, .dead, .box a8] 157 ((), (), (), ()) (hs.1, hs.2.1, S xs.2.2.2.2.1 hs.2.2.1 hs.2.2.2.1, ())))
def addL (l : List Int) : Nat → Nat → List Int → List Int
 | _, 0, s => s
 | i, m + 1, s => addL l (i + 1) m (s.set i (w3 (s.getD i 0 + l.getD i 0)))
def addF (l s : List Int) : List Int := addL l 0 8 s
def FM4 (S : List Int → List Int → List Int) (xs : HL SM4.Ts) (hs : HD SM4.Es) : Tr (Ex × St) :=
 .chk (decide (xs.2.2.2.1 = (0 : Int))) (.ret (.exit 6, encS [2, 4] [.ptr 0 [], .ptr 1 []] [.box a8, .box a8, .dead, .dead] 157 ((), (), ()) (S xs.2.2.1 hs.1, hs.2.1, ())))
def LM (c2 : Int → List Int → Int → Int → Bool) (p2 : List Int → Int → List Int → List Int) (c1 : List Int → Int → Bool) (S1 : List Int → List Int → List Int) (S3 : List Int → List Int → List Int → List Int) (S4 : List Int → List Int → List Int) : Loops := fun j st =>
 if j = 7 then SM2.fn (FM2 c2 p2) st else if j = 3 then SM1.fn (FM1 c1 S1) st else if j = 16 then SM3.fn (FM3 S3) st else if j = 25 then SM4.fn (FM4 S4) st else .fail
abbrev LMF : Loops := LM cM2 put4 cM1 schedF roundsF addF
theorem lM1 : LoopOK Try.prog LMF bM1 :=
 rloop_ok (L := LMF) (L' := LM2 cM2 put4) cM_sound (loopsOK_all fun b hb => by
  have : loopsOf bM1 = [bM2] := by kernel_rfl
  rw [this] at hb
  rw [List.mem_singleton.1 hb]
  exact lM2) SM1 (F := FM1 cM1 schedF) (i := 3) (by kernel_rfl) (fun _ => rfl) fun xs hs r h => by
  obtain ⟨b, u1, u2, u3, i, u4⟩ := xs
  obtain ⟨s, r', v, u5⟩ := hs
  obtain ⟨h1, h2⟩ := Tr.chk_some h
  simp only [cM1, Bool.and_eq_true, decide_eq_true_eq] at h1
  obtain ⟨e1, e2⟩ := h1
  have e1 : i = ((0 : Nat) : Int) := e1
  subst e1
  exact ⟨_, (mM1 b e2 s r' 64 0 v (by omega)).trans (congrArg some (Tr.ret_some h2))⟩
theorem mM3 (ks s r v : List Int) : ∀ (m i : Nat) (l : List Int), i + m = 64 →
  SM3.many (bodyK Try.prog CM L0 bM3) (m + 1) ((), (), (), (), ks, (i : Int), ()) (s, r, v, l, ()) = some (.exit 4, encS [2, 4, 11] [.ptr 0 [], .ptr 1 [], .ptr 3 []] [.box a8, .box a8, .dead, .box a8] 157 ((), (), (), ()) (s, r, roundsL turnF rotF ks v i m l, ()))
 | 0, i, l, h => by
  refine rmany_inr ((rM3 rotF turnF consts ks i s r v l).trans ?_) 0
  simp only [GM3, Tr.eval, decide_eq_false (show ¬ ((i : Int) < 64) by omega)]
  rfl
 | m + 1, i, l, h => by
  refine (rmany_inl (d := (((), (), (), (), ks, ((i + 1 : Nat) : Int), ()), (s, r, v, round1 rotF turnF l (ks.getD i 0) (v.getD i 0), ()))) ((rM3 rotF turnF consts ks i s r v l).trans ?_) (m + 1)).trans (mM3 ks s r v m (i + 1) _ (by omega))
  have w0 : w ((i : Int) + 1) = ((i + 1 : Nat) : Int) := (w_id (by omega) (by omega)).trans (by omega)
  simp only [GM3, Tr.eval, Tr.chk, decide_eq_true (show ((i : Int) < 64) by omega), inArrK64 (i := (i : Int)) (n := 64) (by omega) (by omega) (by omega), w0, Int.toNat_natCast]
theorem lM3 : LoopOK Try.prog LMF bM3 :=
 rloop_ok (L := LMF) (L' := L0) cM_sound (loopsOK_of (by kernel_rfl)) SM3 (F := FM3 roundsF) (i := 16) (by kernel_rfl) (fun _ => rfl) fun xs hs r h => by
  obtain ⟨u1, u2, u3, u4, ks, i, u6⟩ := xs
  obtain ⟨s, r', v, l, u5⟩ := hs
  obtain ⟨h1, h2⟩ := Tr.chk_some h
  have e1 : i = ((0 : Nat) : Int) := of_decide_eq_true h1
  subst e1
  exact ⟨_, (mM3 ks s r' v 64 0 l (by omega)).trans (congrArg some (Tr.ret_some h2))⟩
theorem mM4 (l r : List Int) : ∀ (m i : Nat) (s : List Int), i + m = 8 →
  SM4.many (bodyK Try.prog CM L0 bM4) (m + 1) ((), (), l, (i : Int), ()) (s, r, ()) = some (.exit 6, encS [2, 4] [.ptr 0 [], .ptr 1 []] [.box a8, .box a8, .dead, .dead] 157 ((), (), ()) (addL l i m s, r, ()))
 | 0, i, s, h => by
  refine rmany_inr ((rM4 rotF turnF consts l i s r).trans ?_) 0
  simp only [GM4, Tr.eval, decide_eq_false (show ¬ ((i : Int) < 8) by omega)]
  rfl
 | m + 1, i, s, h => by
  refine (rmany_inl (d := (((), (), l, ((i + 1 : Nat) : Int), ()), (s.set i (w3 (s.getD i 0 + l.getD i 0)), r, ()))) ((rM4 rotF turnF consts l i s r).trans ?_) (m + 1)).trans (mM4 l r m (i + 1) _ (by omega))
  have w0 : w ((i : Int) + 1) = ((i + 1 : Nat) : Int) := (w_id (by omega) (by omega)).trans (by omega)
  simp only [GM4, Tr.eval, Tr.chk, decide_eq_true (show ((i : Int) < 8) by omega), inArrK64 (i := (i : Int)) (n := 8) (by omega) (by omega) (by omega), w0, Int.toNat_natCast]
theorem lM4 : LoopOK Try.prog LMF bM4 :=
 rloop_ok (L := LMF) (L' := L0) cM_sound (loopsOK_of (by kernel_rfl)) SM4 (F := FM4 addF) (i := 25) (by kernel_rfl) (fun _ => rfl) fun xs hs r h => by
  obtain ⟨u1, u2, l, i, u6⟩ := xs
  obtain ⟨s, r', u5⟩ := hs
  obtain ⟨h1, h2⟩ := Tr.chk_some h
  have e1 : i = ((0 : Nat) : Int) := of_decide_eq_true h1
  subst e1
  exact ⟨_, (mM4 l r' 8 0 s (by omega)).trans (congrArg some (Tr.ret_some h2))⟩
def zeros64 : List Int := [0, 0, 0, 0, 0, 0, 0, 0, 0, 0, 0, 0, 0, 0, 0, 0, 0, 0, 0, 0, 0, 0, 0, 0, 0, 0, 0, 0, 0, 0, 0, 0, 0, 0, 0, 0, 0, 0, 0, 0, 0, 0, 0, 0, 0, 0, 0, 0, 0, 0, 0, 0, 0, 0, 0, 0, 0, 0, 0, 0, 0, 0, 0, 0]
def mixF (s b : List Int) : List Int := addF (roundsF consts (schedF b zeros64) s) s
def s42 : CSpec := .slp1 [a8, bs] (fun x => decide (List.length (α := Int) x.2.1 = 64)) a8 fun x => mixF x.1 x.2.1
theorem k42 (r0 : Int → Int → Int) (t : Tu) (ks : List Int) (c2 : Int → List Int → Int → Int → Bool) (p2 : List Int → Int → List Int → List Int) (c1 : List Int → Int → Bool) (S1 : List Int → List Int → List Int) (S3 : List Int → List Int → List Int → List Int) (S4 : List Int → List Int → List Int) (s b : List Int) :
  (fnS Try.prog (ctx (cM r0 t ks)) (LM c2 p2 c1 S1 S3 S4) [a8] Try.f140 (mkArgs [a8, bs] (s, b, ()))).fold1 a8 = S4 (S3 ks (S1 b zeros64) s) s := by kernel_rfl
theorem f42 (r0 : Int → Int → Int) (t : Tu) (ks : List Int) (c2 : Int → List Int → Int → Int → Bool) (p2 : List Int → Int → List Int → List Int) (c1 : List Int → Int → Bool) (S1 : List Int → List Int → List Int) (S3 : List Int → List Int → List Int → List Int) (S4 : List Int → List Int → List Int) (s b : List Int) :
  (fnS Try.prog (ctx (cM r0 t ks)) (LM c2 p2 c1 S1 S3 S4) [a8] Try.f140 (mkArgs [a8, bs] (s, b, ()))).fine [a8] = c1 b 0 := by kernel_rfl
theorem ok42 : CSound Try.prog 140 s42 ∧ CLocal s42 :=
 slp_ok1 (L := LMF) cM_sound Try.func140 (by kernel_rfl) (fun b hb => by
  have : loopsOf (bodyOf Try.f140) = [bM1, bM3, bM4] := by kernel_rfl
  rw [this] at hb
  simp only [List.mem_cons, List.not_mem_nil, or_false] at hb
  rcases hb with rfl | rfl | rfl
  ·exact lM1
  ·exact lM3
  ·exact lM4) (fun xs hx hp => by
   refine (f42 _ _ _ _ _ _ _ _ _ xs.1 xs.2.1).trans ?_
   have hp : decide (List.length (α := Int) xs.2.1 = 64) = true := hp
   simp only [cM1, hp]
   rfl) (fun xs hx hp => k42 _ _ _ _ _ _ _ _ _ xs.1 xs.2.1)
end Go.Proofs.Ytpafadpfpfgfjaa.Sha
end
section
set_option linter.unusedVariables false
set_option maxRecDepth 100000
namespace Go.Proofs.Ytpafadpfpfgfjaa.Sha
open Go Vse Go.Proofs Gen
abbrev hT : Ty := .prod a8 (.prod bt (.prod u64 .unit))
abbrev Hs := List Int × List Int × Int × Unit
abbrev wu (x : Int) : Int := IntKind.u64.wrap x
abbrev wb (x : Int) : Int := IntKind.u8.wrap x
def init : List Int := [1779033703, 3144134277, 1013904242, 2773480762, 1359893119, 2600822924, 528734635, 1541459225]
abbrev nH : PSpec := ⟨[], [.ptr 0 []], [], [.box hT], []⟩
def s19 : CSpec := .pos nH (fun _ _ => true) fun _ _ => (((), ()), ((init, [], 0, ()), ()))
theorem ok19 : CSound Try.prog 123 s19 ∧ CLocal s19 := pos_sound (L := L0) nil_sound Try.func123 (by kernel_rfl) (noLoopsL (by kernel_rfl)) fun xs hs _ _ _ => by kernel_rfl
abbrev Mx := List Int → List Int → List Int
def c42 (m : Mx) : List (Nat × CSpec) := [(140, .slp1 [a8, bs] (fun x => decide (List.length (α := Int) x.2.1 = 64)) a8 fun x => m x.1 x.2.1)]
theorem c42_sound : CtxSound Try.prog (ctx (c42 mixF)) ∧ CtxLocal (ctx (c42 mixF)) := ctx_sound ⟨ok42, trivial⟩
noncomputable def bW : Code := loopAt Try.f124 0
def SW : RSpec := ⟨[0, 4], 53, [.ptr 0 [], bt], [.box hT, .dead], [.box hT, .dead], [], fun _ => ([0, 4], [.ptr 0 [], bt], [.box hT, .dead])⟩
def GW (m : Mx) (all s rest : List Int) (many : Int) : Tr SW.End :=
 .ite (decide ((all.length : Int) ≥ 64)) (.chk (decide (64 ≤ (all.length : Int))) (.chk (decide (((all.take 64).drop 0).length = 64)) (.chk (decide (64 ≤ (all.length : Int)) && decide ((all.length : Int) ≤ (all.length : Int)))
   (.ret (.inl (((), ((all.take (all.length : Int).toNat).drop 64), ()), ((m s ((all.take 64).drop 0), rest, many, ()), ())))))))
  (.ret (.inr (.exit 0, encS [0, 4] [.ptr 0 [], bt] [.box hT, .dead] 53 ((), all, ()) ((s, rest, many, ()), ()))))
theorem rW (m : Mx) (all s rest : List Int) (many : Int) : (SW.round (bodyK Try.prog (ctx (c42 m)) L0 bW) ((), all, ()) ((s, rest, many, ()), ())).eval = (GW m all s rest many).eval := by kernel_rfl
def FW (A : List Int → List Int → List Int × List Int) (xs : HL SW.Ts) (hs : HD SW.Es) : Tr (Ex × St) :=
 .ret (.exit 0, encS [0, 4] [.ptr 0 [], bt] [.box hT, .dead] 53 ((), (A hs.1.1 xs.2.1).2, ()) (((A hs.1.1 xs.2.1).1, hs.1.2.1, hs.1.2.2.1, ()), ()))
def LW (A : List Int → List Int → List Int × List Int) : Loops := fun j st => if j = 2 then SW.fn (FW A) st else .fail
abbrev wS (As Rs : List Ty) : PSpec := ⟨.ptr 0 [] :: As, Rs, [.box hT], [.box hT], []⟩
def G20 (A : List Int → List Int → List Int × List Int) (b s rest : List Int) (many : Int) : Tr (wS [bs] []).Out :=
 let r := (rest.take (rest.length : Int).toNat).drop (0 : Int).toNat
 let P (all : List Int) : Tr (wS [bs] []).Out := .chk (Vse.room (([] : List Int).length + (A s all).2.length) 1) (.ret ((), (((A s all).1, [] ++ (A s all).2, wu (many + wu (b.length : Int)), ()), ())))
 .chk (decide ((0 : Int) ≤ 0) && (decide ((0 : Int) ≤ (rest.length : Int)) && (decide ((rest.length : Int) = (rest.length : Int)) && decide ((rest.length : Int) ≤ (rest.length : Int)))))
  (.ite (decide (b.length = 0)) (P r) (.chk (Vse.room (r.length + b.length) 1) (P (r ++ b))))
theorem k20 (m : Mx) (A : List Int → List Int → List Int × List Int) (b s rest : List Int) (many : Int) :
  (fnP Try.prog (ctx (c42 m)) (LW A) (wS [bs] []) Try.f124 ((), b, ()) ((s, rest, many, ()), ())).eval = (G20 A b s rest many).eval := by kernel_rfl
abbrev Wr := List Int → Hs → Hs
def c20 (W : Wr) (p : List Int → Hs → Bool) : List (Nat × CSpec) := [(124, .pos (wS [bs] []) (fun xs d => p xs.2.1 d.1) fun xs d => ((), (W xs.2.1 d.1, ())))]
noncomputable def bS1 : Code := loopAt Try.f126 0
noncomputable def bS2 : Code := loopAt Try.f126 1
noncomputable def bS3 : Code := loopAt Try.f126 2
abbrev eS (k : Nat) : List ETy := [.box hT, .box d32, .box hT, .vec k u8]
def SS1 : RSpec := ⟨[0, 2, 3, 4], 68, [.ptr 0 [], .ptr 1 [], .ptr 2 [], .vc 3 1], eS 1, eS 0, [], fun _ => ([0, 2, 3, 4], [.ptr 0 [], .ptr 1 [], .ptr 2 [], .vc 3 1], eS 1)⟩
def GS1 (h l : Hs) (o f : List Int) : Tr SS1.End :=
 .ite ((w (w ((h.2.1.length : Int) + (f.length : Int)) + 8)).tmod 64 != 0) (.chk (Vse.room (f.length + [(0 : Int)].length) 1) (.ret (.inl (((), (), (), (), ()), (h, o, l, f ++ [0], ())))))
  (.ret (.inr (.exit 0, encS [0, 2, 3, 4] [.ptr 0 [], .ptr 1 [], .ptr 2 [], .vc 3 1] (eS 1) 68 ((), (), (), (), ()) (h, o, l, f, ()))))
theorem rS1 (W : Wr) (p : List Int → Hs → Bool) (h l : Hs) (o f : List Int) : (SS1.round (bodyK Try.prog (ctx (c20 W p)) L0 bS1) ((), (), (), (), ()) (h, o, l, f, ())).eval = (GS1 h l o f).eval := by kernel_rfl
def SS2 : RSpec := ⟨[0, 2, 3, 4, 5], 68, [.ptr 0 [], .ptr 1 [], .ptr 2 [], .vc 3 2, i64], eS 2, eS 1, [], fun _ => ([0, 2, 3, 4], [.ptr 0 [], .ptr 1 [], .ptr 2 [], .vc 3 2], eS 2)⟩
def GS2 (h l : Hs) (o f : List Int) (i : Int) : Tr SS2.End :=
 .ite (decide (i ≥ 0)) (.chk (decide (0 ≤ w (8 * i))) (.chk (Vse.room (f.length + [(0 : Int)].length) 1) (.ret (.inl (((), (), (), (), w (i - 1), ()), (h, o, l, f ++ [wb (shrI .u64 (shlI .u64 h.2.2.1 3) (w (8 * i)))], ()))))))
  (.ret (.inr (.exit 2, encS [0, 2, 3, 4] [.ptr 0 [], .ptr 1 [], .ptr 2 [], .vc 3 2] (eS 2) 68 ((), (), (), (), ()) (h, o, l, f, ()))))
theorem rS2 (W : Wr) (p : List Int → Hs → Bool) (h l : Hs) (o f : List Int) (i : Int) : (SS2.round (bodyK Try.prog (ctx (c20 W p)) L0 bS2) ((), (), (), (), i, ()) (h, o, l, f, ())).eval = (GS2 h l o f i).eval := by kernel_rfl
abbrev eS3 : List ETy := [.box hT, .box d32, .box hT, .dead, .box d32]
def SS3 : RSpec := ⟨[2, 3, 6, 50], 68, [.ptr 1 [], .ptr 2 [], .ptr 4 [], i64], eS3, [.box hT, .box d32, .box hT, .vec 2 u8, .box d32], [], fun _ => ([2, 6], [.ptr 1 [], .ptr 4 []], [.box hT, .box d32, .dead, .dead, .box d32])⟩
def GS3 (h l : Hs) (o q : List Int) (i : Int) : Tr SS3.End :=
 .ite (decide (i < 32)) (.chk (inArrK .i64 (w (i.tdiv 4)) 8) (.chk (decide (0 ≤ w (8 * w (3 - i.tmod 4)))) (.chk (inArrK .i64 i 32)
   (.ret (.inl (((), (), (), w (i + 1), ()), (h, o, l, q.set i.toNat (wb (shrI .u32 (l.1.getD (w (i.tdiv 4)).toNat 0) (w (8 * w (3 - i.tmod 4))))), ())))))))
  (.ret (.inr (.exit 4, encS [2, 6] [.ptr 1 [], .ptr 4 []] [.box hT, .box d32, .dead, .dead, .box d32] 68 ((), (), ()) (h, o, q, ()))))
theorem rS3 (W : Wr) (p : List Int → Hs → Bool) (h l : Hs) (o q : List Int) (i : Int) : (SS3.round (bodyK Try.prog (ctx (c20 W p)) L0 bS3) ((), (), (), i, ()) (h, o, l, q, ())).eval = (GS3 h l o q i).eval := by kernel_rfl
end Go.Proofs.Ytpafadpfpfgfjaa.Sha
end
section
set_option linter.unusedVariables false
set_option maxRecDepth 100000
namespace Go.Proofs.Ytpafadpfpfgfjaa.Sha
open Go Vse Go.Proofs Gen
abbrev CW : Ctx := ctx (c42 mixF)
def absorb (m : Mx) : Nat → List Int → List Int → List Int × List Int
 | 0, s, all => (s, all)
 | n + 1, s, all => absorb m n (m s (all.take 64)) (all.drop 64)
def absF (s all : List Int) : List Int × List Int := absorb mixF (all.length / 64) s all
theorem mW : ∀ (n : Nat) (all s rest : List Int) (many : Int), all.length / 64 = n →
  SW.many (bodyK Try.prog CW L0 bW) (n + 1) ((), all, ()) ((s, rest, many, ()), ()) = some (.exit 0, encS [0, 4] [.ptr 0 [], bt] [.box hT, .dead] 53 ((), (absorb mixF n s all).2, ()) (((absorb mixF n s all).1, rest, many, ()), ()))
 | 0, all, s, rest, many, h => by
  refine rmany_inr ((rW mixF all s rest many).trans ?_) 0
  simp only [GW, Tr.eval, decide_eq_false (show ¬ ((all.length : Int) ≥ 64) by omega)]
  rfl
 | n + 1, all, s, rest, many, h => by
  have hl : 64 ≤ all.length := by omega
  refine (rmany_inl (d := (((), all.drop 64, ()), ((mixF s (all.take 64), rest, many, ()), ()))) ((rW mixF all s rest many).trans ?_) (n + 1)).trans (mW n _ _ rest many (by rw [List.length_drop]; omega))
  have h1 : decide ((all.take 64).length = 64) = true := by
   rw [List.length_take]; simp; omega
  have h2 : (decide (64 ≤ (all.length : Int)) && decide ((all.length : Int) ≤ (all.length : Int))) = true := by
   simp only [Bool.and_eq_true, decide_eq_true_eq]; omega
  simp only [GW, Tr.eval, Tr.chk, decide_eq_true (show ((all.length : Int) ≥ 64) by omega), decide_eq_true (show (64 ≤ (all.length : Int)) by omega), h1, Int.toNat_natCast, List.drop_zero, List.take_length, Bool.true_and, decide_eq_true (Int.le_refl (all.length : Int))]
theorem lW : LoopOK Try.prog (LW absF) bW :=
 rloop_ok (L := LW absF) (L' := L0) c42_sound (loopsOK_of (by kernel_rfl)) SW (F := FW absF) (i := 2) (by kernel_rfl) (fun _ => rfl) fun xs hs r h => by
  obtain ⟨u1, all, u2⟩ := xs
  obtain ⟨⟨s, rest, many, u3⟩, u4⟩ := hs
  exact ⟨_, (mW (List.length (α := Int) all / 64) all s rest many rfl).trans (congrArg some (Tr.ret_some h))⟩
def writeF (b : List Int) (h : Hs) : Hs := ((absF h.1 (h.2.1 ++ b)).1, (absF h.1 (h.2.1 ++ b)).2, wu (h.2.2.1 + wu (b.length : Int)), ())
def writeP (b : List Int) (h : Hs) : Bool := decide (h.2.1.length + b.length ≤ 100000000000000)
def s20 : CSpec := .pos (wS [bs] []) (fun xs d => writeP xs.2.1 d.1) fun xs d => ((), (writeF xs.2.1 d.1, ()))
theorem absorb_rest (m : Mx) : ∀ (n : Nat) (s all : List Int), (absorb m n s all).2 = all.drop (64 * n)
 | 0, s, all => by simp [absorb]
 | n + 1, s, all => by
  rw [absorb, absorb_rest m n, List.drop_drop]
  congr 1
  omega
theorem G20_eq (b s rest : List Int) (many : Int) (h : writeP b (s, rest, many, ()) = true) : (G20 absF b s rest many).eval = some ((), (writeF b (s, rest, many, ()), ())) := by
 have h : rest.length + b.length ≤ 100000000000000 := of_decide_eq_true h
 have h0 : (decide ((0 : Int) ≤ 0) && (decide ((0 : Int) ≤ (rest.length : Int)) && (decide ((rest.length : Int) = (rest.length : Int)) && decide ((rest.length : Int) ≤ (rest.length : Int))))) = true := by simp
 have hr : (rest.take (rest.length : Int).toNat).drop (0 : Int).toNat = rest := by
  rw [Int.toNat_natCast, List.take_length]
  exact List.drop_zero
 have hp : ∀ all : List Int, all.length ≤ 100000000000000 → Vse.room (([] : List Int).length + (absF s all).2.length) 1 = true := by
  intro all hall
  have : (absF s all).2.length ≤ all.length := by unfold absF; rw [absorb_rest, List.length_drop]; omega
  simp only [Vse.room, decide_eq_true_eq, List.length_nil]; omega
 unfold G20
 simp only
 refine (chk_eval (by simp) _).trans ?_
 rw [hr]
 by_cases hb : b.length = 0
 ·have hb0 : b = [] := List.eq_nil_of_length_eq_zero hb
  subst hb0
  rw [ite_t (decide_eq_true (show ([] : List Int).length = 0 from rfl)), chk_eval (hp rest (by omega))]
  simp only [Tr.eval, List.nil_append, writeF, List.append_nil]
 ·have hroom : Vse.room (rest.length + b.length) 1 = true := by simp only [Vse.room, decide_eq_true_eq]; omega
  rw [ite_f (decide_eq_false hb), chk_eval hroom, chk_eval (hp (rest ++ b) (by rw [List.length_append]; omega))]
  simp only [Tr.eval, List.nil_append, writeF]
theorem ok20 : CSound Try.prog 124 s20 ∧ CLocal s20 :=
 pos_sound (L := LW absF) c42_sound Try.func124 (by kernel_rfl) (loops1 (by kernel_rfl) lW) fun xs hs _ _ hp => by
  obtain ⟨u, b, u'⟩ := xs
  obtain ⟨⟨s, rest, many, u1⟩, u2⟩ := hs
  exact (k20 mixF absF b s rest many).trans (G20_eq b s rest many hp)
abbrev CS : Ctx := ctx (c20 writeF writeP)
theorem c20_sound : CtxSound Try.prog CS ∧ CtxLocal CS := ctx_sound ⟨ok20, trivial⟩
def padN (n : Nat) : Nat := (64 - (n + 8) % 64) % 64
def smallI (h : Hs) (f : List Int) : Bool := decide (h.2.1.length ≤ 1000000) && decide (f.length ≤ 1000000)
def padL (h : Hs) (f : List Int) : List Int := f ++ List.replicate (padN (h.2.1.length + f.length)) 0
def FS1 (c : Hs → List Int → Bool) (P : Hs → List Int → List Int) (xs : HL SS1.Ts) (hs : HD SS1.Es) : Tr (Ex × St) :=
 .chk (c hs.1 hs.2.2.2.1) (.ret (.exit 0, encS [0, 2, 3, 4] [.ptr 0 [], .ptr 1 [], .ptr 2 [], .vc 3 1] (eS 1) 68 ((), (), (), (), ()) (hs.1, hs.2.1, hs.2.2.1, P hs.1 hs.2.2.2.1, ())))
def tailB (h : Hs) (i : Nat) : Int := wb (shrI .u64 (shlI .u64 h.2.2.1 3) (w (8 * (i : Int))))
def tail8 (h : Hs) : List Int := [tailB h 7, tailB h 6, tailB h 5, tailB h 4, tailB h 3, tailB h 2, tailB h 1, tailB h 0]
def FS2 (c : List Int → Int → Bool) (P : Hs → List Int) (xs : HL SS2.Ts) (hs : HD SS2.Es) : Tr (Ex × St) :=
 .chk (c hs.2.2.2.1 xs.2.2.2.2.1) (.ret (.exit 2, encS [0, 2, 3, 4] [.ptr 0 [], .ptr 1 [], .ptr 2 [], .vc 3 2] (eS 2) 68 ((), (), (), (), ()) (hs.1, hs.2.1, hs.2.2.1, hs.2.2.2.1 ++ P hs.1, ())))
def outB (s : List Int) (i : Nat) : Int := wb (shrI .u32 (s.getD (i / 4) 0) (8 * (3 - (i % 4 : Nat))))
def outL (s : List Int) : Nat → Nat → List Int → List Int
 | _, 0, q => q
 | i, m + 1, q => outL s (i + 1) m (q.set i (outB s i))
def outF (s q : List Int) : List Int := outL s 0 32 q
def FS3 (P : List Int → List Int → List Int) (xs : HL SS3.Ts) (hs : HD SS3.Es) : Tr (Ex × St) :=
 .chk (decide (xs.2.2.2.1 = (0 : Int))) (.ret (.exit 4, encS [2, 6] [.ptr 1 [], .ptr 4 []] [.box hT, .box d32, .dead, .dead, .box d32] 68 ((), (), ()) (hs.1, hs.2.1, P hs.2.2.1.1 hs.2.2.2.1, ())))
def LS (c1 : Hs → List Int → Bool) (P1 : Hs → List Int → List Int) (c2 : List Int → Int → Bool) (P2 : Hs → List Int) (P3 : List Int → List Int → List Int) : Loops := fun j st =>
 if j = 3 then SS1.fn (FS1 c1 P1) st else if j = 6 then SS2.fn (FS2 c2 P2) st else if j = 12 then SS3.fn (FS3 P3) st else .fail
def small2 (f : List Int) (i : Int) : Bool := decide (i = 7) && decide (f.length ≤ 10000000)
abbrev LSF : Loops := LS smallI padL small2 tail8 outF
theorem rep_snoc (n : Nat) (f : List Int) : (f ++ [0]) ++ List.replicate n 0 = f ++ List.replicate (n + 1) 0 := by
 rw [List.append_assoc]; rfl
theorem mS1 (h l : Hs) (o : List Int) (hr : h.2.1.length ≤ 1000000) : ∀ (m : Nat) (f : List Int), f.length ≤ 2000000 - m → m ≤ 64 → padN (h.2.1.length + f.length) = m →
  SS1.many (bodyK Try.prog CS L0 bS1) (m + 1) ((), (), (), (), ()) (h, o, l, f, ()) = some (.exit 0, encS [0, 2, 3, 4] [.ptr 0 [], .ptr 1 [], .ptr 2 [], .vc 3 1] (eS 1) 68 ((), (), (), (), ()) (h, o, l, f ++ List.replicate m 0, ()))
 | 0, f, hf, h64, hp => by
  refine rmany_inr ((rS1 writeF writeP h l o f).trans ?_) 0
  have e1 : w ((h.2.1.length : Int) + (f.length : Int)) = ((h.2.1.length + f.length : Nat) : Int) := (w_id (by omega) (by omega)).trans (by omega)
  have e2 : w (((h.2.1.length + f.length : Nat) : Int) + 8) = ((h.2.1.length + f.length + 8 : Nat) : Int) := (w_id (by omega) (by omega)).trans (by omega)
  have e3 : ((h.2.1.length + f.length + 8 : Nat) : Int).tmod 64 = 0 := by
   unfold padN at hp
   have : (h.2.1.length + f.length + 8) % 64 = 0 := by omega
   rw [Int.tmod_eq_emod_of_nonneg (by omega)]
   omega
  simp only [GS1, e1, e2, e3, Tr.eval, bne_self_eq_false, List.replicate_zero, List.append_nil]
 | m + 1, f, hf, h64, hp => by
  refine (rmany_inl (d := (((), (), (), (), ()), (h, o, l, f ++ [0], ()))) ((rS1 writeF writeP h l o f).trans ?_) (m + 1)).trans ((mS1 h l o hr m (f ++ [0]) (by simp; omega) (by omega) (by unfold padN at hp ⊢; simp only [List.length_append, List.length_singleton]; omega)).trans ?_)
  ·have e1 : w ((h.2.1.length : Int) + (f.length : Int)) = ((h.2.1.length + f.length : Nat) : Int) := (w_id (by omega) (by omega)).trans (by omega)
   have e2 : w (((h.2.1.length + f.length : Nat) : Int) + 8) = ((h.2.1.length + f.length + 8 : Nat) : Int) := (w_id (by omega) (by omega)).trans (by omega)
   have e3 : (((h.2.1.length + f.length + 8 : Nat) : Int).tmod 64 != 0) = true := by
    unfold padN at hp
    have : (h.2.1.length + f.length + 8) % 64 ≠ 0 := by omega
    rw [Int.tmod_eq_emod_of_nonneg (by omega), bne_iff_ne]
    omega
   have e4 : Vse.room (f.length + [(0 : Int)].length) 1 = true := by simp only [Vse.room, decide_eq_true_eq, List.length_singleton]; omega
   simp only [GS1, e1, e2, e3, e4, Tr.eval, Tr.chk]
  ·rw [rep_snoc]
theorem lS1 : LoopOK Try.prog LSF bS1 :=
 rloop_ok (L := LSF) (L' := L0) c20_sound (loopsOK_of (by kernel_rfl)) SS1 (F := FS1 smallI padL) (i := 3) (by kernel_rfl) (fun _ => rfl) fun xs hs r h => by
  obtain ⟨u1, u2, u3, u4, u5⟩ := xs
  obtain ⟨hh, o, l, f, u6⟩ := hs
  obtain ⟨h1, h2⟩ := Tr.chk_some h
  simp only [smallI, Bool.and_eq_true, decide_eq_true_eq] at h1
  obtain ⟨e1, e2⟩ := h1
  exact ⟨_, (mS1 hh l o e1 _ f (by have : padN (hh.2.1.length + List.length (α := Int) f) < 64 := Nat.mod_lt _ (by omega); omega) (by have : padN (hh.2.1.length + List.length (α := Int) f) < 64 := Nat.mod_lt _ (by omega); omega) rfl).trans (congrArg some (Tr.ret_some h2))⟩
theorem mS2 (h l : Hs) (o : List Int) : ∀ (m : Nat) (f : List Int), f.length ≤ 20000000 - m → m ≤ 8 →
  SS2.many (bodyK Try.prog CS L0 bS2) (m + 1) ((), (), (), (), ((m : Int) - 1), ()) (h, o, l, f, ()) = some (.exit 2, encS [0, 2, 3, 4] [.ptr 0 [], .ptr 1 [], .ptr 2 [], .vc 3 2] (eS 2) 68 ((), (), (), (), ()) (h, o, l, f ++ (tail8 h).drop (8 - m), ()))
 | 0, f, hf, h8 => by
  refine rmany_inr ((rS2 writeF writeP h l o f _).trans ?_) 0
  have : (tail8 h).drop (8 - 0) = [] := rfl
  rw [this, List.append_nil]
  rfl
 | m + 1, f, hf, h8 => by
  have e1 : ((m + 1 : Nat) : Int) - 1 = (m : Int) := by omega
  rw [e1]
  refine (rmany_inl (d := (((), (), (), (), (m : Int) - 1, ()), (h, o, l, f ++ [tailB h m], ()))) ((rS2 writeF writeP h l o f _).trans ?_) (m + 1)).trans ((mS2 h l o m (f ++ [tailB h m]) (by simp; omega) (by omega)).trans ?_)
  ·have e2 : decide (0 ≤ w (8 * (m : Int))) = true := decide_eq_true (by rw [w_id (by omega) (by omega)]; omega)
   have e4 : Vse.room (f.length + [(0 : Int)].length) 1 = true := by simp only [Vse.room, decide_eq_true_eq, List.length_singleton]; omega
   simp only [GS2, Tr.eval, Tr.chk, decide_eq_true (show ((m : Int) ≥ 0) by omega), e2, e4]
   rw [w_id (x := (m : Int) - 1) (by omega) (by omega)]
   rfl
  ·have : (tail8 h).drop (8 - (m + 1)) = tailB h m :: (tail8 h).drop (8 - m) := by
    match m, h8 with
    | 0, _ => rfl
    | 1, _ => rfl
    | 2, _ => rfl
    | 3, _ => rfl
    | 4, _ => rfl
    | 5, _ => rfl
    | 6, _ => rfl
    | 7, _ => rfl
   rw [this, List.append_assoc]
   rfl
theorem lS2 : LoopOK Try.prog LSF bS2 :=
 rloop_ok (L := LSF) (L' := L0) c20_sound (loopsOK_of (by kernel_rfl)) SS2 (F := FS2 small2 tail8) (i := 6) (by kernel_rfl) (fun _ => rfl) fun xs hs r h => by
  obtain ⟨u1, u2, u3, u4, i, u5⟩ := xs
  obtain ⟨hh, o, l, f, u6⟩ := hs
  obtain ⟨h1, h2⟩ := Tr.chk_some h
  simp only [small2, Bool.and_eq_true, decide_eq_true_eq] at h1
  obtain ⟨e1, e2⟩ := h1
  have e1 : i = ((8 : Nat) : Int) - 1 := e1
  subst e1
  exact ⟨_, (mS2 hh l o 8 f (by omega) (by omega)).trans (congrArg some (Tr.ret_some h2))⟩
theorem mS3 (h l : Hs) (o : List Int) : ∀ (m i : Nat) (q : List Int), i + m = 32 →
  SS3.many (bodyK Try.prog CS L0 bS3) (m + 1) ((), (), (), (i : Int), ()) (h, o, l, q, ()) = some (.exit 4, encS [2, 6] [.ptr 1 [], .ptr 4 []] [.box hT, .box d32, .dead, .dead, .box d32] 68 ((), (), ()) (h, o, outL l.1 i m q, ()))
 | 0, i, q, hi => by
  refine rmany_inr ((rS3 writeF writeP h l o q i).trans ?_) 0
  simp only [GS3, Tr.eval, decide_eq_false (show ¬ ((i : Int) < 32) by omega)]
  rfl
 | m + 1, i, q, hi => by
  refine (rmany_inl (d := (((), (), (), ((i + 1 : Nat) : Int), ()), (h, o, l, q.set i (outB l.1 i), ()))) ((rS3 writeF writeP h l o q i).trans ?_) (m + 1)).trans (mS3 h l o m (i + 1) _ (by omega))
  have d4 : ((i : Nat) : Int).tdiv 4 = ((i / 4 : Nat) : Int) := by rw [Int.tdiv_eq_ediv_of_nonneg (by omega)]; omega
  have m4 : ((i : Nat) : Int).tmod 4 = ((i % 4 : Nat) : Int) := by rw [Int.tmod_eq_emod_of_nonneg (by omega)]; omega
  have w1 : w ((i / 4 : Nat) : Int) = ((i / 4 : Nat) : Int) := w_id (by omega) (by omega)
  have w2 : w (3 - ((i % 4 : Nat) : Int)) = 3 - ((i % 4 : Nat) : Int) := w_id (by omega) (by omega)
  have w3' : w (8 * (3 - ((i % 4 : Nat) : Int))) = 8 * (3 - ((i % 4 : Nat) : Int)) := w_id (by omega) (by omega)
  have w4 : w ((i : Int) + 1) = ((i + 1 : Nat) : Int) := (w_id (by omega) (by omega)).trans (by omega)
  simp only [GS3, Tr.eval, Tr.chk, decide_eq_true (show ((i : Int) < 32) by omega), d4, m4, w1, w2, w3', w4, inArrK64 (i := ((i / 4 : Nat) : Int)) (n := 8) (by omega) (by omega) (by omega), decide_eq_true (show 0 ≤ 8 * (3 - ((i % 4 : Nat) : Int)) by omega),
   inArrK64 (i := (i : Int)) (n := 32) (by omega) (by omega) (by omega), Int.toNat_natCast]
  rfl
theorem lS3 : LoopOK Try.prog LSF bS3 :=
 rloop_ok (L := LSF) (L' := L0) c20_sound (loopsOK_of (by kernel_rfl)) SS3 (F := FS3 outF) (i := 12) (by kernel_rfl) (fun _ => rfl) fun xs hs r h => by
  obtain ⟨u1, u2, u3, i, u5⟩ := xs
  obtain ⟨hh, o, l, q, u6⟩ := hs
  obtain ⟨h1, h2⟩ := Tr.chk_some h
  have e1 : i = ((0 : Nat) : Int) := of_decide_eq_true h1
  subst e1
  exact ⟨_, (mS3 hh l o 32 0 q (by omega)).trans (congrArg some (Tr.ret_some h2))⟩
def zeros32 : List Int := [0, 0, 0, 0, 0, 0, 0, 0, 0, 0, 0, 0, 0, 0, 0, 0, 0, 0, 0, 0, 0, 0, 0, 0, 0, 0, 0, 0, 0, 0, 0, 0]
def G21 (W : Wr) (p : List Int → Hs → Bool) (c1 : Hs → List Int → Bool) (P1 : Hs → List Int → List Int) (c2 : List Int → Int → Bool) (P2 : Hs → List Int) (P3 : List Int → List Int → List Int) (h : Hs) : Tr (wS [] [d32]).Out :=
 .chk (c1 h [128]) (.chk (c2 (P1 h [128]) 7) (.chk (p (P1 h [128] ++ P2 h) (h.1, h.2.1, 0, ())) (.ret ((P3 (W (P1 h [128] ++ P2 h) (h.1, h.2.1, 0, ())).1 zeros32, ()), (h, ())))))
theorem k21 (W : Wr) (p : List Int → Hs → Bool) (c1 : Hs → List Int → Bool) (P1 : Hs → List Int → List Int) (c2 : List Int → Int → Bool) (P2 : Hs → List Int) (P3 : List Int → List Int → List Int) (h : Hs) :
  (fnP Try.prog (ctx (c20 W p)) (LS c1 P1 c2 P2 P3) (wS [] [d32]) Try.f126 ((), ()) (h, ())).eval = (G21 W p c1 P1 c2 P2 P3 h).eval := by kernel_rfl
def fillF (h : Hs) : List Int := padL h [128] ++ tail8 h
def sumH (h : Hs) : List Int := outF (writeF (fillF h) (h.1, h.2.1, 0, ())).1 zeros32
def s21 : CSpec := .pos (wS [] [d32]) (fun _ d => decide (d.1.2.1.length ≤ 1000000)) fun _ d => ((sumH d.1, ()), d)
theorem padN_lt (n : Nat) : padN n < 64 := Nat.mod_lt _ (by omega)
theorem G21_eq (h : Hs) (hr : h.2.1.length ≤ 1000000) : (G21 writeF writeP smallI padL small2 tail8 outF h).eval = some ((sumH h, ()), (h, ())) := by
 have hp := padN_lt (h.2.1.length + 1)
 have hl : (padL h [128]).length = 1 + padN (h.2.1.length + 1) := by simp [padL]; omega
 have e1 : smallI h [128] = true := by simp only [smallI, Bool.and_eq_true, decide_eq_true_eq]; exact ⟨hr, by decide⟩
 have e2 : small2 (padL h [128]) 7 = true := by simp only [small2, Bool.and_eq_true, decide_eq_true_eq, hl]; exact ⟨trivial, by omega⟩
 have e3 : writeP (padL h [128] ++ tail8 h) (h.1, h.2.1, 0, ()) = true := by
  have : (tail8 h).length = 8 := rfl
  simp only [writeP, decide_eq_true_eq, List.length_append, hl, this]; omega
 simp only [G21, Tr.chk, e1, e2, e3, Tr.eval]
 rfl
theorem ok21 : CSound Try.prog 126 s21 ∧ CLocal s21 :=
 pos_sound (L := LSF) c20_sound Try.func126 (by kernel_rfl) (fun b hb => by
  have : loopsOf (bodyOf Try.f126) = [bS1, bS2, bS3] := by kernel_rfl
  rw [this] at hb
  simp only [List.mem_cons, List.not_mem_nil, or_false] at hb
  rcases hb with rfl | rfl | rfl
  ·exact lS1
  ·exact lS2
  ·exact lS3) fun xs hs _ _ hp => by
  obtain ⟨u, u'⟩ := xs
  obtain ⟨h, u2⟩ := hs
  exact (k21 writeF writeP smallI padL small2 tail8 outF h).trans (G21_eq h (of_decide_eq_true hp))
def c16 (i : Hs) (W : Wr) (p : List Int → Hs → Bool) (q : Hs → Bool) (S : Hs → List Int) : List (Nat × CSpec) :=
 [(123, .pos nH (fun _ _ => true) fun _ _ => (((), ()), (i, ()))), (124, .pos (wS [bs] []) (fun xs d => p xs.2.1 d.1) fun xs d => ((), (W xs.2.1 d.1, ()))), (126, .pos (wS [] [d32]) (fun _ d => q d.1) fun _ d => ((S d.1, ()), d))]
def h0 : Hs := (init, [], 0, ())
def restP (h : Hs) : Bool := decide (h.2.1.length ≤ 1000000)
theorem c16_sound : CtxSound Try.prog (ctx (c16 h0 writeF writeP restP sumH)) ∧ CtxLocal (ctx (c16 h0 writeF writeP restP sumH)) := ctx_sound ⟨ok19, ok20, ok21, trivial⟩
def shaF (b : List Int) : List Int := sumH (writeF b h0)
def shaP (b : List Int) : Bool := decide (b.length ≤ 100000000000000)
def s16 : CSpec := .slp1 [bs] (fun x => shaP x.1) d32 fun x => shaF x.1
def T16 (i : Hs) (W : Wr) (p : List Int → Hs → Bool) (q : Hs → Bool) (S : Hs → List Int) (b : List Int) : Tr AV := .chk (p b i) (.chk (q (W b i)) (.ret (.v d32 (S (W b i)))))
theorem k16 (i : Hs) (W : Wr) (p : List Int → Hs → Bool) (q : Hs → Bool) (S : Hs → List Int) (b : List Int) : nrm (fnS Try.prog (ctx (c16 i W p q S)) L0 [d32] Try.f97 (mkArgs [bs] (b, ()))) = (T16 i W p q S b).eval := by kernel_rfl
theorem abs_rest (s all : List Int) : (absF s all).2.length = all.length % 64 := by
 unfold absF
 rw [absorb_rest, List.length_drop]
 omega
theorem ok16 : CSound Try.prog 97 s16 ∧ CLocal s16 :=
 slpE1 (L := L0) c16_sound Try.func97 (by kernel_rfl) (noLoopsL (by kernel_rfl)) fun xs hx hp => by
  obtain ⟨b, u⟩ := xs
  have hp : List.length (α := Int) b ≤ 100000000000000 := of_decide_eq_true hp
  have e1 : writeP b h0 = true := decide_eq_true (by show 0 + List.length (α := Int) b ≤ _; omega)
  have e2 : restP (writeF b h0) = true := decide_eq_true (by
   show (absF h0.1 (h0.2.1 ++ b)).2.length ≤ 1000000
   rw [abs_rest]
   omega)
  have e3 : (T16 h0 writeF writeP restP sumH b).eval = some (.v d32 (shaF b)) := by
   unfold T16 shaF
   rw [chk_eval e1, chk_eval e2, Tr.eval]
  exact (k16 h0 writeF writeP restP sumH b).trans e3
end Go.Proofs.Ytpafadpfpfgfjaa.Sha
end
section
set_option linter.unusedVariables false
set_option maxRecDepth 100000
namespace Go.Proofs.Ytpafadpfpfgfjaa.Sha
open Go Vse Go.Proofs Gen
abbrev nt : Ty := .imm true false u32
abbrev eF (k : Nat) : List ETy := [.vec k u8, .dead, .dead, .dead]
def SF1 : RSpec := ⟨[0, 3], 38, [bs, .vc 0 3], eF 3, eF 2, [], fun _ => ([0, 3], [bs, .vc 0 3], eF 3)⟩
def SF2 : RSpec := ⟨[3, 4, 5, 6], 38, [.vc 0 4, u64, u64, i64], eF 4, eF 3, [], fun _ => ([3], [.vc 0 4], eF 4)⟩
def GF2 (f : List Int) (n u i : Int) : Tr SF2.End :=
 .ite (decide (i < 8)) (.ite (decide (u = 0)) .fail (.chk (Vse.room (f.length + [(0 : Int)].length) 1) (.ret (.inl (((), n, wu (u.tdiv 256), w (i + 1), ()), (f ++ [wb ((wu (n.tdiv u)).tmod 256)], ()))))))
  (.ret (.inr (.exit 2, encS [3] [.vc 0 4] (eF 4) 38 ((), ()) (f, ()))))
end Go.Proofs.Ytpafadpfpfgfjaa.Sha
end
section
set_option linter.unusedVariables false
set_option maxRecDepth 100000
namespace Go.Proofs.Ytpafadpfpfgfjaa.Sha
open Go Vse Go.Proofs Gen
def FF1 (c : List Int → Bool) (P : List Int → List Int) (xs : HL SF1.Ts) (hs : HD SF1.Es) : Tr (Ex × St) :=
 .chk (c hs.1) (.ret (.exit 0, encS [0, 3] [bs, .vc 0 3] (eF 3) 38 (xs.1, (), ()) (P hs.1, ())))
def FF2 (c : List Int → Int → Int → Bool) (T : Int → List Int) (xs : HL SF2.Ts) (hs : HD SF2.Es) : Tr (Ex × St) :=
 .chk (c hs.1 xs.2.2.1 xs.2.2.2.1) (.ret (.exit 2, encS [3] [.vc 0 4] (eF 4) 38 ((), ()) (hs.1 ++ T xs.2.1, ())))
def LF (c1 : List Int → Bool) (P : List Int → List Int) (c2 : List Int → Int → Int → Bool) (T : Int → List Int) : Loops := fun j st => if j = 2 then SF1.fn (FF1 c1 P) st else if j = 7 then SF2.fn (FF2 c2 T) st else .fail
theorem inArr_nat {k n : Nat} (h : k < n) : inArr (k : Int) n = true := by simp only [inArr, Bool.and_eq_true, decide_eq_true_eq]; omega
end Go.Proofs.Ytpafadpfpfgfjaa.Sha
end
section
set_option linter.unusedVariables false
set_option maxRecDepth 100000
namespace Go.Proofs.Ytpafadpfpfgfjaa.Sha
open Go Vse Go.Proofs Gen
end Go.Proofs.Ytpafadpfpfgfjaa.Sha
end
end
section
section
set_option linter.unusedVariables false
set_option maxRecDepth 100000
namespace Go.Proofs.Ytpafadpfpfgfjaa.Sha
open Go Vse Go.Proofs Gen
end Go.Proofs.Ytpafadpfpfgfjaa.Sha
end
section
set_option linter.unusedVariables false
set_option maxRecDepth 100000
namespace Go.Proofs.Ytpafadpfpfgfjaa.Sha
open Go Vse Go.Proofs Gen
theorem absF_short {s all : List Int} (h : all.length < 64) : absF s all = (s, all) := by
 unfold absF
 rw [Nat.div_eq_of_lt h]
 rfl
theorem absF_long {s all : List Int} (h : 64 ≤ all.length) : absF s all = absF (mixF s (all.take 64)) (all.drop 64) := by
 unfold absF
 have : all.length / 64 = (all.drop 64).length / 64 + 1 := by rw [List.length_drop]; omega
 rw [this, absorb]
theorem absF_append : ∀ (n : Nat) (s y x : List Int), y.length / 64 = n → absF (absF s y).1 ((absF s y).2 ++ x) = absF s (y ++ x)
 | 0, s, y, x, h => by rw [absF_short (s := s) (all := y) (by omega)]
 | n + 1, s, y, x, h => by
  have hy : 64 ≤ y.length := by omega
  rw [absF_long (s := s) hy, absF_append n _ _ x (by rw [List.length_drop]; omega), absF_long (s := s) (all := y ++ x) (by rw [List.length_append]; omega)]
  rw [List.take_append_of_le_length hy, List.drop_append_of_le_length hy]
def hashOf (y : List Int) : Hs := writeF y h0
theorem wu_id {x : Int} (h : 0 ≤ x) (h' : x ≤ 18446744073709551615) : wu x = x := by
 simp [IntKind.wrap, IntKind.signed, IntKind.bits]
 omega
theorem write_chain {y x : List Int} (h : y.length + x.length ≤ 1000000000000) : writeF x (hashOf y) = hashOf (y ++ x) := by
 unfold hashOf writeF h0
 simp only [List.nil_append]
 rw [absF_append _ init y x rfl]
 have : wu (wu (0 + wu (y.length : Int)) + wu (x.length : Int)) = wu (0 + wu ((y ++ x).length : Int)) := by
  rw [List.length_append]
  rw [wu_id (x := (y.length : Int)) (by omega) (by omega), wu_id (x := (x.length : Int)) (by omega) (by omega), wu_id (x := 0 + (y.length : Int)) (by omega) (by omega), wu_id (by omega) (by omega), wu_id (x := ((y.length + x.length : Nat) : Int)) (by omega) (by omega), wu_id (by omega) (by omega)]
  omega
 rw [this]
theorem hash_rest (y : List Int) : (hashOf y).2.1.length < 64 := by
 show (absF h0.1 (h0.2.1 ++ y)).2.length < 64
 rw [abs_rest]
 exact Nat.mod_lt _ (by omega)
theorem hash_restP (y : List Int) : restP (hashOf y) = true := decide_eq_true (by have := hash_rest y; omega)
theorem shaF_hash (y : List Int) : shaF y = sumH (hashOf y) := rfl
def tot (l : List (List Int)) : Nat := (l.map List.length).sum
def zP (l : List (List Int)) (h : Hs) : Hs := l.foldl (fun h x => writeF x h) h
theorem zP_hash : ∀ (l : List (List Int)) (y : List Int), y.length + tot l ≤ 1000000000 → zP l (hashOf y) = hashOf (y ++ l.flatten)
 | [], y, _ => by simp [zP]
 | x :: l, y, h => by
  simp only [tot, List.map_cons, List.sum_cons] at h
  have := zP_hash l (y ++ x) (by simp only [tot, List.length_append]; omega)
  simp only [zP, List.foldl_cons] at this ⊢
  rw [write_chain (by omega), this]
  simp
theorem getElem_tot : ∀ (l : List (List Int)) (k : Nat) (h : k < l.length), l[k].length ≤ tot l
 | x :: l, 0, h => by simp [tot]
 | x :: l, k + 1, h => by
  have := getElem_tot l k (by simpa using h)
  simp only [tot, List.map_cons, List.sum_cons, List.getElem_cons_succ] at this ⊢
  omega
end Go.Proofs.Ytpafadpfpfgfjaa.Sha
end
section
set_option linter.unusedVariables false
set_option maxRecDepth 100000
namespace Go.Proofs.Ytpafadpfpfgfjaa.Sha
open Go Vse Go.Proofs Gen
def U (x : Int) : Prop := 0 ≤ x ∧ x < 4294967296
def Bytes (l : List Int) : Prop := ∀ x ∈ l, 0 ≤ x ∧ x < 256
theorem wb_mod (x : Int) : wb x = x % 256 := by
 simp [IntKind.wrap, IntKind.signed, IntKind.bits]
theorem U.nat {x : Int} (h : U x) : ∃ n : Nat, x = n ∧ n < 4294967296 := ⟨x.toNat, by have := h.1; omega, by have := h.1; have := h.2; omega⟩
end Go.Proofs.Ytpafadpfpfgfjaa.Sha
end
section
set_option linter.unusedVariables false
set_option maxRecDepth 100000
namespace Go.Proofs.Ytpafadpfpfgfjaa.Sha
open Go Vse Go.Proofs Gen
end Go.Proofs.Ytpafadpfpfgfjaa.Sha
end
end
section
section
set_option linter.unusedVariables false
set_option maxRecDepth 100000
namespace Go.Proofs.Ytpafadpfpfgfjaa.Mac
open Go Vse Go.Proofs Gen Sha
abbrev d64 : Ty := .arr 64 u8
def z64 : List Int := List.replicate 64 0
def cS (S : List Int → List Int) (p : List Int → Bool) : List (Nat × CSpec) := [(97, .slp1 [bs] (fun x => p x.1) d32 fun x => S x.1)]
theorem cS_sound : CtxSound Try.prog (ctx (cS shaF shaP)) ∧ CtxLocal (ctx (cS shaF shaP)) := ctx_sound ⟨ok16, trivial⟩
noncomputable def bF : Code := loopAt Try.f125 0
def SF : RSpec := ⟨[1, 6, 17], 28, [u8, .ptr 0 [], i64], [.box d64], [.box d64], [], fun _ => ([6], [.ptr 0 []], [.box d64])⟩
def GF (by_ i : Int) (q : List Int) : Tr SF.End :=
 .ite (decide (i < 64)) (.chk (inArrK .i64 i 64) (.chk (inArrK .i64 i 64) (.ret (.inl ((by_, (), w (i + 1), ()), (q.set i.toNat (xorI .u8 (q.getD i.toNat 0) by_), ()))))))
  (.ret (.inr (.exit 0, encS [6] [.ptr 0 []] [.box d64] 28 ((), ()) (q, ()))))
theorem rF (S : List Int → List Int) (p : List Int → Bool) (by_ i : Int) (q : List Int) : (SF.round (bodyK Try.prog (ctx (cS S p)) L0 bF) (by_, (), i, ()) (q, ())).eval = (GF by_ i q).eval := by kernel_rfl
def SF2 : RSpec := ⟨[1, 6, 17], 28, [u8, .ptr 1 [], i64], [.box d32, .box d64], [.box d32, .box d64], [], fun _ => ([6], [.ptr 1 []], [.box d32, .box d64])⟩
def GF2 (by_ i : Int) (d q : List Int) : Tr SF2.End :=
 .ite (decide (i < 64)) (.chk (inArrK .i64 i 64) (.chk (inArrK .i64 i 64) (.ret (.inl ((by_, (), w (i + 1), ()), (d, q.set i.toNat (xorI .u8 (q.getD i.toNat 0) by_), ()))))))
  (.ret (.inr (.exit 0, encS [6] [.ptr 1 []] [.box d32, .box d64] 28 ((), ()) (d, q, ()))))
theorem rF2 (S : List Int → List Int) (p : List Int → Bool) (by_ i : Int) (d q : List Int) : (SF2.round (bodyK Try.prog (ctx (cS S p)) L0 bF) (by_, (), i, ()) (d, q, ())).eval = (GF2 by_ i d q).eval := by kernel_rfl
def FF (c : Int → List Int → Bool) (X : Int → List Int → List Int) (xs : HL SF.Ts) (hs : HD SF.Es) : Tr (Ex × St) :=
 .chk (c xs.2.2.1 hs.1) (.ret (.exit 0, encS [6] [.ptr 0 []] [.box d64] 28 ((), ()) (X xs.1 hs.1, ())))
def FF2 (c : Int → List Int → Bool) (X : Int → List Int → List Int) (xs : HL SF2.Ts) (hs : HD SF2.Es) : Tr (Ex × St) :=
 .chk (c xs.2.2.1 hs.2.1) (.ret (.exit 0, encS [6] [.ptr 1 []] [.box d32, .box d64] 28 ((), ()) (hs.1, X xs.1 hs.2.1, ())))
def LF (c : Int → List Int → Bool) (X : Int → List Int → List Int) : Loops := fun j st => if j = 7 then orL (fun st => heapIs SF.E0 st.heap) (SF.fn (FF c X)) (SF2.fn (FF2 c X)) st else .fail
abbrev all (n : Nat) (l : List Int) : List Int := (l.drop 0).take n
abbrev nF : PSpec := ⟨[bs, u8], [bt], [], [], []⟩
def TF (S : List Int → List Int) (p : List Int → Bool) (c : Int → List Int → Bool) (X : Int → List Int → List Int) (key : List Int) (by_ : Int) : Tr nF.Out :=
 let go (k : List Int) : Tr nF.Out := .chk (c 0 (overL z64 k ++ [])) (.ret ((all 64 (X by_ (overL z64 k ++ [])), ()), ()))
 .ite (decide ((key.length : Int) > 64)) (.chk (p key) (go (all 32 (S key)))) (go key)
theorem tF (S : List Int → List Int) (p : List Int → Bool) (c : Int → List Int → Bool) (X : Int → List Int → List Int) (key : List Int) (by_ : Int) :
  (fnP Try.prog (ctx (cS S p)) (LF c X) nF Try.f125 (key, by_, ()) ()).eval = (TF S p c X key by_).eval := by kernel_rfl
def cM (i : Hs) (W : Wr) (p : List Int → Hs → Bool) (q : Hs → Bool) (D : Hs → List Int) (F : List Int → Int → List Int) (pf : List Int → Bool) : List (Nat × CSpec) :=
 [(123, .pos nH (fun _ _ => true) fun _ _ => (((), ()), (i, ()))), (124, .pos (wS [bs] []) (fun xs d => p xs.2.1 d.1) fun xs d => ((), (W xs.2.1 d.1, ()))), (126, .pos (wS [] [d32]) (fun _ d => q d.1) fun _ d => ((D d.1, ()), d)),
  (125, .pos nF (fun xs _ => pf xs.1) fun xs _ => ((F xs.1 xs.2.1, ()), ()))]
noncomputable def bM : Code := loopAt Try.f94 0
abbrev eM : List ETy := [.box d32, .box hT, .box hT]
def SM : RSpec := ⟨[0, 4, 5, 6, 16, 17, 18], 37, [bs, .ptr 0 [], .ptr 1 [], .ptr 2 [], ls, i64, i64], eM, eM, [], fun _ => ([0, 4, 5, 6], [bs, .ptr 0 [], .ptr 1 [], .ptr 2 []], eM)⟩
def GM (W : Wr) (p : List Int → Hs → Bool) (key : List Int) (l : List (List Int)) (n i : Int) (o : List Int) (h h' : Hs) : Tr SM.End :=
 .ite (decide (i < n)) (.chk (inArr i l.length) (.chk (p (l.getD i.toNat []) h) (.ret (.inl ((key, (), (), (), l, n, w (i + 1), ()), (o, W (l.getD i.toNat []) h, h', ()))))))
  (.ret (.inr (.exit 0, encS [0, 4, 5, 6] [bs, .ptr 0 [], .ptr 1 [], .ptr 2 []] eM 37 (key, (), (), (), ()) (o, h, h', ()))))
theorem rM (i0 : Hs) (W : Wr) (p : List Int → Hs → Bool) (q : Hs → Bool) (D : Hs → List Int) (F : List Int → Int → List Int) (pf : List Int → Bool) (key : List Int) (l : List (List Int)) (n i : Int) (o : List Int) (h h' : Hs) :
  (SM.round (bodyK Try.prog (ctx (cM i0 W p q D F pf)) L0 bM) (key, (), (), (), l, n, i, ()) (o, h, h', ())).eval = (GM W p key l n i o h h').eval := by kernel_rfl
def FM (c : List (List Int) → Int → Int → Hs → Bool) (Z : List (List Int) → Hs → Hs) (xs : HL SM.Ts) (hs : HD SM.Es) : Tr (Ex × St) :=
 .chk (c xs.2.2.2.2.1 xs.2.2.2.2.2.1 xs.2.2.2.2.2.2.1 hs.2.1) (.ret (.exit 0, encS [0, 4, 5, 6] [bs, .ptr 0 [], .ptr 1 [], .ptr 2 []] eM 37 (xs.1, (), (), (), ()) (hs.1, Z xs.2.2.2.2.1 hs.2.1, hs.2.2.1, ())))
def LM (c : List (List Int) → Int → Int → Hs → Bool) (Z : List (List Int) → Hs → Hs) : Loops := fun j st => if j = 4 then SM.fn (FM c Z) st else .fail
def TM (i : Hs) (W : Wr) (p : List Int → Hs → Bool) (q : Hs → Bool) (D : Hs → List Int) (F : List Int → Int → List Int) (pf : List Int → Bool) (c : List (List Int) → Int → Int → Hs → Bool) (Z : List (List Int) → Hs → Hs) (key : List Int) (l : List (List Int)) : Tr AV :=
 let h1 := Z l (W (F key 54) i)
 let h2 := W (F key 92) i
 .chk (pf key) (.chk (p (F key 54) i) (.chk (c l (l.length : Int) 0 (W (F key 54) i)) (.chk (q h1) (.chk (pf key) (.chk (p (F key 92) i) (.chk (p (all 32 (D h1)) h2) (.chk (q (W (all 32 (D h1)) h2)) (.ret (.v d32 (D (W (all 32 (D h1)) h2)))))))))))
theorem tM (i : Hs) (W : Wr) (p : List Int → Hs → Bool) (q : Hs → Bool) (D : Hs → List Int) (F : List Int → Int → List Int) (pf : List Int → Bool) (c : List (List Int) → Int → Int → Hs → Bool) (Z : List (List Int) → Hs → Hs) (key : List Int) (l : List (List Int)) :
  nrm (fnS Try.prog (ctx (cM i W p q D F pf)) (LM c Z) [d32] Try.f94 (mkArgs [bs, ls] (key, l, ()))) = (TM i W p q D F pf c Z key l).eval := by kernel_rfl
end Go.Proofs.Ytpafadpfpfgfjaa.Mac
end
section
set_option linter.unusedVariables false
set_option maxRecDepth 100000
namespace Go.Proofs.Ytpafadpfpfgfjaa.Mac
open Go Vse Go.Proofs Gen Sha
def xorF (by_ : Int) (q : List Int) : List Int := q.map fun x => xorI .u8 x by_
def mid (f : Int → Int) (q : List Int) (i : Nat) : List Int := (q.take i).map f ++ q.drop i
theorem mid_get (f : Int → Int) {q : List Int} {i : Nat} (h : i < q.length) : (mid f q i).getD i 0 = q[i] := by
 have hl : ((q.take i).map f).length = i := by rw [List.length_map, List.length_take]; omega
 unfold mid
 rw [List.getD_eq_getElem?_getD, List.getElem?_append_right (by omega), hl, Nat.sub_self, List.getElem?_drop, Nat.add_zero, List.getElem?_eq_getElem h]
 rfl
theorem mid_step (f : Int → Int) {q : List Int} {i : Nat} (h : i < q.length) : (mid f q i).set i (f ((mid f q i).getD i 0)) = mid f q (i + 1) := by
 have hl : ((q.take i).map f).length = i := by rw [List.length_map, List.length_take]; omega
 rw [mid_get f h]
 unfold mid
 rw [List.set_append_right _ _ (by omega), hl, Nat.sub_self, List.drop_eq_getElem_cons h, List.set_cons_zero, ← List.take_append_getElem h, List.map_append, List.append_assoc]
 rfl
theorem mid_all (f : Int → Int) (q : List Int) : mid f q q.length = q.map f := by
 unfold mid
 rw [List.take_length, List.drop_length, List.append_nil]
def cF (i : Int) (q : List Int) : Bool := decide (i = 0) && decide (q.length = 64)
theorem mF (by_ : Int) (q : List Int) (hq : q.length = 64) : ∀ (m i : Nat), i + m = 64 →
  SF.many (bodyK Try.prog (ctx (cS shaF shaP)) L0 bF) (m + 1) (by_, (), (i : Int), ()) (mid (fun x => xorI .u8 x by_) q i, ()) = some (.exit 0, encS [6] [.ptr 0 []] [.box d64] 28 ((), ()) (xorF by_ q, ()))
 | 0, i, h => by
  refine rmany_inr ((rF shaF shaP by_ i _).trans ?_) 0
  have : i = q.length := by omega
  subst this
  rw [mid_all]
  simp only [GF, Tr.eval, decide_eq_false (show ¬ ((q.length : Int) < 64) by omega)]
  rfl
 | m + 1, i, h => by
  refine (rmany_inl (d := ((by_, (), ((i + 1 : Nat) : Int), ()), (mid (fun x => xorI .u8 x by_) q (i + 1), ()))) ((rF shaF shaP by_ i _).trans ?_) (m + 1)).trans (mF by_ q hq m (i + 1) (by omega))
  have w0 : w ((i : Int) + 1) = ((i + 1 : Nat) : Int) := (w_id (by omega) (by omega)).trans (by omega)
  unfold GF
  rw [ite_t (decide_eq_true (show ((i : Int) < 64) by omega)), chk_eval (inArrK64 (by omega) (by omega) (by omega)), chk_eval (inArrK64 (by omega) (by omega) (by omega)), w0, Int.toNat_natCast, mid_step _ (by omega)]
  rfl
theorem mF2 (by_ : Int) (d q : List Int) (hq : q.length = 64) : ∀ (m i : Nat), i + m = 64 →
  SF2.many (bodyK Try.prog (ctx (cS shaF shaP)) L0 bF) (m + 1) (by_, (), (i : Int), ()) (d, mid (fun x => xorI .u8 x by_) q i, ()) = some (.exit 0, encS [6] [.ptr 1 []] [.box d32, .box d64] 28 ((), ()) (d, xorF by_ q, ()))
 | 0, i, h => by
  refine rmany_inr ((rF2 shaF shaP by_ i d _).trans ?_) 0
  have : i = q.length := by omega
  subst this
  rw [mid_all]
  simp only [GF2, Tr.eval, decide_eq_false (show ¬ ((q.length : Int) < 64) by omega)]
  rfl
 | m + 1, i, h => by
  refine (rmany_inl (d := ((by_, (), ((i + 1 : Nat) : Int), ()), (d, mid (fun x => xorI .u8 x by_) q (i + 1), ()))) ((rF2 shaF shaP by_ i d _).trans ?_) (m + 1)).trans (mF2 by_ d q hq m (i + 1) (by omega))
  have w0 : w ((i : Int) + 1) = ((i + 1 : Nat) : Int) := (w_id (by omega) (by omega)).trans (by omega)
  unfold GF2
  rw [ite_t (decide_eq_true (show ((i : Int) < 64) by omega)), chk_eval (inArrK64 (by omega) (by omega) (by omega)), chk_eval (inArrK64 (by omega) (by omega) (by omega)), w0, Int.toNat_natCast, mid_step _ (by omega)]
  rfl
theorem lF1 : LoopOK Try.prog (fun j st => if j = 7 then SF.fn (FF cF xorF) st else .fail) bF :=
 rloop_ok (L := fun j st => if j = 7 then SF.fn (FF cF xorF) st else .fail) (L' := L0) cS_sound (loopsOK_of (by kernel_rfl)) SF (F := FF cF xorF) (i := 7) (by kernel_rfl) (fun _ => rfl) fun xs hs r h => by
  obtain ⟨by_, u1, i, u2⟩ := xs
  obtain ⟨q, u3⟩ := hs
  obtain ⟨h1, h2⟩ := Tr.chk_some h
  simp only [cF, Bool.and_eq_true, decide_eq_true_eq] at h1
  obtain ⟨e1, e2⟩ := h1
  have e1 : i = ((0 : Nat) : Int) := e1
  subst e1
  exact ⟨_, (mF by_ q e2 64 0 (by omega)).trans (congrArg some (Tr.ret_some h2))⟩
theorem lF2 : LoopOK Try.prog (fun j st => if j = 7 then SF2.fn (FF2 cF xorF) st else .fail) bF :=
 rloop_ok (L := fun j st => if j = 7 then SF2.fn (FF2 cF xorF) st else .fail) (L' := L0) cS_sound (loopsOK_of (by kernel_rfl)) SF2 (F := FF2 cF xorF) (i := 7) (by kernel_rfl) (fun _ => rfl) fun xs hs r h => by
  obtain ⟨by_, u1, i, u2⟩ := xs
  obtain ⟨d, q, u3⟩ := hs
  obtain ⟨h1, h2⟩ := Tr.chk_some h
  simp only [cF, Bool.and_eq_true, decide_eq_true_eq] at h1
  obtain ⟨e1, e2⟩ := h1
  have e1 : i = ((0 : Nat) : Int) := e1
  subst e1
  exact ⟨_, (mF2 by_ d q e2 64 0 (by omega)).trans (congrArg some (Tr.ret_some h2))⟩
theorem lF : LoopOK Try.prog (LF cF xorF) bF := loopOK_or (i := 7) (by kernel_rfl) (fun _ => rfl) (fun _ => rfl) (fun _ => rfl) lF1 lF2
def keyF (key : List Int) : List Int := overL z64 (if (key.length : Int) > 64 then all 32 (shaF key) else key) ++ []
def fillK (key : List Int) (by_ : Int) : List Int := all 64 (xorF by_ (keyF key))
def s45 : CSpec := .pos nF (fun xs _ => shaP xs.1) fun xs _ => ((fillK xs.1 xs.2.1, ()), ())
theorem overL_len {α : Type} (l m : List α) : (overL l m).length = l.length := by
 unfold overL
 rw [List.length_append, List.length_take, List.length_drop]
 omega
theorem keyF_len (key : List Int) : (keyF key).length = 64 := by
 unfold keyF
 rw [List.append_nil, overL_len]
 rfl
theorem TF_eq (key : List Int) (by_ : Int) (hp : shaP key = true) : (TF shaF shaP cF xorF key by_).eval = some ((fillK key by_, ()), ()) := by
 have hc : cF 0 (keyF key) = true := by simp only [cF, keyF_len, decide_true, Bool.and_self]
 unfold TF
 by_cases h : (key.length : Int) > 64
 ·have hk : keyF key = overL z64 (all 32 (shaF key)) ++ [] := by unfold keyF; rw [if_pos h]
  rw [ite_t (decide_eq_true h), chk_eval hp]
  simp only
  rw [← hk, chk_eval hc]
  rfl
 ·have hk : keyF key = overL z64 key ++ [] := by unfold keyF; rw [if_neg h]
  rw [ite_f (decide_eq_false h)]
  simp only
  rw [← hk, chk_eval hc]
  rfl
theorem ok45 : CSound Try.prog 125 s45 ∧ CLocal s45 :=
 pos_sound (L := LF cF xorF) cS_sound Try.func125 (by kernel_rfl) (loops1 (by kernel_rfl) lF) fun xs hs _ _ hp => by
  obtain ⟨key, by_, u⟩ := xs
  exact (tF shaF shaP cF xorF key by_).trans (TF_eq key by_ hp)
abbrev CMF : Ctx := ctx (cM h0 writeF writeP restP sumH fillK shaP)
theorem cM_sound : CtxSound Try.prog CMF ∧ CtxLocal CMF := ctx_sound ⟨ok19, ok20, ok21, ok45, trivial⟩
def cM1 (l : List (List Int)) (n i : Int) (h : Hs) : Bool := decide (n = (l.length : Int)) && (decide (i = 0) && (decide (h.2.1.length ≤ 1000000) && (decide (tot l ≤ 1000000) && decide (l.length ≤ 1000000))))
theorem rest_le (x : List Int) (h : Hs) : (writeF x h).2.1.length ≤ 1000000 := by
 show (absF h.1 (h.2.1 ++ x)).2.length ≤ 1000000
 rw [abs_rest]; omega
theorem mM (key : List Int) (l : List (List Int)) (hl : l.length ≤ 1000000) (ht : tot l ≤ 1000000) (o : List Int) (h' : Hs) : ∀ (m k : Nat) (h : Hs), k + m = l.length → h.2.1.length ≤ 1000000 →
  SM.many (bodyK Try.prog CMF L0 bM) (m + 1) (key, (), (), (), l, (l.length : Int), (k : Int), ()) (o, h, h', ()) = some (.exit 0, encS [0, 4, 5, 6] [bs, .ptr 0 [], .ptr 1 [], .ptr 2 []] eM 37 (key, (), (), (), ()) (o, zP (l.drop k) h, h', ()))
 | 0, k, h, hk, hr => by
  refine rmany_inr ((rM h0 writeF writeP restP sumH fillK shaP key l l.length k o h h').trans ?_) 0
  rw [List.drop_eq_nil_of_le (by omega)]
  simp only [GM, Tr.eval, decide_eq_false (show ¬ ((k : Int) < (l.length : Int)) by omega)]
  rfl
 | m + 1, k, h, hk, hr => by
  have h1 : k < l.length := by omega
  have g1 : l.getD k [] = l[k] := Gen.getD_cons h1 []
  have hle := getElem_tot l k h1
  refine (rmany_inl (d := ((key, (), (), (), l, (l.length : Int), ((k + 1 : Nat) : Int), ()), (o, writeF l[k] h, h', ()))) ((rM h0 writeF writeP restP sumH fillK shaP key l l.length k o h h').trans ?_) (m + 1)).trans
   ((mM key l hl ht o h' m (k + 1) (writeF l[k] h) (by omega) (rest_le _ _)).trans ?_)
  ·have w0 : w ((k : Int) + 1) = ((k + 1 : Nat) : Int) := (w_id (by omega) (by omega)).trans (by omega)
   have e1 : writeP l[k] h = true := decide_eq_true (by omega)
   unfold GM
   simp only [Int.toNat_natCast, g1]
   rw [ite_t (decide_eq_true (show ((k : Int) < (l.length : Int)) by omega)), chk_eval (inArr_nat h1), chk_eval e1, w0]
   rfl
  ·rw [List.drop_eq_getElem_cons h1]
   simp only [zP, List.foldl_cons]
theorem lM : LoopOK Try.prog (LM cM1 zP) bM :=
 rloop_ok (L := LM cM1 zP) (L' := L0) cM_sound (loopsOK_of (by kernel_rfl)) SM (F := FM cM1 zP) (i := 4) (by kernel_rfl) (fun _ => rfl) fun xs hs r h => by
  obtain ⟨key, u1, u2, u3, l, n, i, u4⟩ := xs
  obtain ⟨o, hh, h', u5⟩ := hs
  obtain ⟨h1, h2⟩ := Tr.chk_some h
  simp only [cM1, Bool.and_eq_true, decide_eq_true_eq] at h1
  obtain ⟨e1, e2, e3, e4, e5⟩ := h1
  have e1 : n = ((List.length (α := List Int) l : Nat) : Int) := e1
  have e2 : i = ((0 : Nat) : Int) := e2
  subst e1; subst e2
  have := mM key l e5 e4 o h' (List.length (α := List Int) l) 0 hh (by omega) e3
  rw [List.drop_zero] at this
  exact ⟨_, this.trans (congrArg some (Tr.ret_some h2))⟩
def macF (key b : List Int) : List Int := shaF (fillK key 92 ++ all 32 (shaF (fillK key 54 ++ b)))
def macP (key : List Int) (l : List (List Int)) : Bool := decide (key.length ≤ 1000000) && (decide (tot l ≤ 1000000) && decide (l.length ≤ 1000000))
def s29 : CSpec := .slp1 [bs, ls] (fun x => macP x.1 x.2.1) d32 fun x => macF x.1 (List.flatten (α := Int) x.2.1)
theorem fillK_len (key : List Int) (by_ : Int) : (fillK key by_).length = 64 := by
 unfold fillK all xorF
 rw [List.length_take, List.length_drop, List.length_map, keyF_len]
 rfl
theorem all_le (n : Nat) (l : List Int) : (all n l).length ≤ n := by unfold all; rw [List.length_take]; omega
theorem TM_eq {key : List Int} {l : List (List Int)} (hp : macP key l = true) : (TM h0 writeF writeP restP sumH fillK shaP cM1 zP key l).eval = some (.v d32 (macF key l.flatten)) := by
 simp only [macP, Bool.and_eq_true, decide_eq_true_eq] at hp
 obtain ⟨p1, p2, p3⟩ := hp
 have f1 := fillK_len key 54
 have f2 := fillK_len key 92
 have hw : ∀ x, writeF x h0 = hashOf x := fun _ => rfl
 have hz : zP l (hashOf (fillK key 54)) = hashOf (fillK key 54 ++ l.flatten) := zP_hash l _ (by omega)
 have ha := all_le 32 (shaF (fillK key 54 ++ l.flatten))
 have hch : writeF (all 32 (shaF (fillK key 54 ++ l.flatten))) (hashOf (fillK key 92)) = hashOf (fillK key 92 ++ all 32 (shaF (fillK key 54 ++ l.flatten))) := write_chain (by omega)
 have k1 : shaP key = true := decide_eq_true (by omega)
 have k2 : ∀ by_, writeP (fillK key by_) h0 = true := fun by_ => decide_eq_true (by have := fillK_len key by_; show 0 + _ ≤ _; omega)
 have k3 : cM1 l (l.length : Int) 0 (hashOf (fillK key 54)) = true := by
  have := hash_rest (fillK key 54)
  simp only [cM1, Bool.and_eq_true, decide_eq_true_eq, true_and]
  omega
 have k4 : writeP (all 32 (shaF (fillK key 54 ++ l.flatten))) (hashOf (fillK key 92)) = true := decide_eq_true (by have := hash_rest (fillK key 92); omega)
 unfold TM
 simp only [hw, hz]
 rw [chk_eval k1, chk_eval (k2 54), chk_eval k3, chk_eval (hash_restP _), chk_eval k1, chk_eval (k2 92), ← shaF_hash, chk_eval k4, hch, chk_eval (hash_restP _), ← shaF_hash]
 rfl
theorem ok29 : CSound Try.prog 94 s29 ∧ CLocal s29 :=
 slpE1 (L := LM cM1 zP) cM_sound Try.func94 (by kernel_rfl) (loops1 (by kernel_rfl) lM) fun xs hx hp => by
  obtain ⟨key, l, u⟩ := xs
  exact (tM h0 writeF writeP restP sumH fillK shaP cM1 zP key l).trans (TM_eq hp)
end Go.Proofs.Ytpafadpfpfgfjaa.Mac
end
section
set_option linter.unusedVariables false
set_option maxRecDepth 100000
namespace Go.Proofs.Ytpafadpfpfgfjaa.Mac
open Go Vse Go.Proofs Gen
open Sha hiding wb wu getD_cons
abbrev Mc := List Int → List (List Int) → List Int
abbrev Pc := List Int → List (List Int) → Bool
def cN (p : Pc) (M : Mc) : List (Nat × CSpec) := [(94, .slp1 [bs, ls] (fun x => p x.1 x.2.1) d32 fun x => M x.1 x.2.1)]
abbrev nE : PSpec := ⟨[bs, .str, i64], [bt, i64], [], [], []⟩
noncomputable def bE : Code := loopAt Try.f122 0
def SE : RSpec := ⟨[0, 1, 2, 8, 9, 10], 40, [bs, .str, i64, .vc 0 0, bt, u8], [.vec 0 u8], [], [.slot 8 u8], fun _ => ([2, 8], [i64, .vc 0 0], [.vec 0 u8])⟩
def GE (p : Pc) (M : Mc) (key : List Int) (s : ByteArray) (many : Int) (last : List Int) (n : Int) (out : List Int) : Tr SE.End :=
 let d : List Int := all 32 (M key [last, strBytes s, [n]])
 .ite (decide ((out.length : Int) < many)) (.chk (p key [last, strBytes s, [n]]) (.chk (Vse.room (out.length + d.length) 1) (.ret (.inl ((key, s, many, (), d, wb (n + 1), ()), (out ++ d, ()))))))
  (.ret (.inr (.exit 0, encS [2, 8] [i64, .vc 0 0] [.vec 0 u8] 40 (many, (), ()) (out, ()))))
theorem rE (p : Pc) (M : Mc) (key : List Int) (s : ByteArray) (many : Int) (last : List Int) (n : Int) (out : List Int) :
  (SE.round (bodyK Try.prog (ctx (cN p M)) L0 bE) (key, s, many, (), last, n, ()) (out, ())).eval = (GE p M key s many last n out).eval := by kernel_rfl
def FE (c : List Int → ByteArray → Int → List Int → Int → List Int → Bool) (X : List Int → ByteArray → Int → List Int) (xs : HL SE.Ts) (hs : HD SE.Es) : Tr (Ex × St) :=
 .chk (c xs.1 xs.2.1 xs.2.2.1 xs.2.2.2.2.1 xs.2.2.2.2.2.1 hs.1) (.ret (.exit 0, encS [2, 8] [i64, .vc 0 0] [.vec 0 u8] 40 (xs.2.2.1, (), ()) (X xs.1 xs.2.1 xs.2.2.1, ())))
def LE (c : List Int → ByteArray → Int → List Int → Int → List Int → Bool) (X : List Int → ByteArray → Int → List Int) : Loops := fun j st => if j = 5 then SE.fn (FE c X) st else .fail
def TE (c : List Int → ByteArray → Int → List Int → Int → List Int → Bool) (X : List Int → ByteArray → Int → List Int) (key : List Int) (s : ByteArray) (many : Int) : Tr nE.Out :=
 let bad : Tr nE.Out := .ret (([], 1, ()), ())
 let out : List Int := X key s many
 .ite (decide (many < 0)) bad (.ite (decide (many > 8160)) bad (.chk (c key s many [] 1 []) (.chk (decide ((0 : Int) ≤ 0) && (decide (0 ≤ many) && (decide (many = many) && decide (many ≤ (out.length : Int))))) (.ret (((out.take many.toNat).drop (0 : Int).toNat, 0, ()), ())))))
theorem tE (p : Pc) (M : Mc) (c : List Int → ByteArray → Int → List Int → Int → List Int → Bool) (X : List Int → ByteArray → Int → List Int) (key : List Int) (s : ByteArray) (many : Int) :
  (fnP Try.prog (ctx (cN p M)) (LE c X) nE Try.f122 (key, s, many, ()) ()).eval = (TE c X key s many).eval := by kernel_rfl
noncomputable def bQ : Code := loopAt Try.f95 0
def SQ : RSpec := ⟨[1, 5, 13, 14, 15], 31, [bs, u8, bs, i64, i64], [], [], [], fun _ => ([5], [u8], [])⟩
def GQ (b : List Int) (u : Int) (a : List Int) (n i : Int) : Tr SQ.End :=
 .ite (decide (i < n)) (.chk (inArr i a.length) (.chk (inArr i b.length) (.ret (.inl ((b, orI .u8 u (xorI .u8 (a.getD i.toNat 0) (b.getD i.toNat 0)), a, n, w (i + 1), ()), ())))))
  (.ret (.inr (.exit 0, encS [5] [u8] [] 31 (u, ()) ())))
theorem rQ (b : List Int) (u : Int) (a : List Int) (n i : Int) : (SQ.round (bodyK Try.prog (ctx []) L0 bQ) (b, u, a, n, i, ()) ()).eval = (GQ b u a n i).eval := by kernel_rfl
def FQ (c : List Int → Int → List Int → Int → Int → Bool) (X : List Int → List Int → Int) (xs : HL SQ.Ts) (hs : HD SQ.Es) : Tr (Ex × St) :=
 .chk (c xs.1 xs.2.1 xs.2.2.1 xs.2.2.2.1 xs.2.2.2.2.1) (.ret (.exit 0, encS [5] [u8] [] 31 (X xs.2.2.1 xs.1, ()) ()))
def LQ (c : List Int → Int → List Int → Int → Int → Bool) (X : List Int → List Int → Int) : Loops := fun j st => if j = 5 then SQ.fn (FQ c X) st else .fail
def TQ (c : List Int → Int → List Int → Int → Int → Bool) (X : List Int → List Int → Int) (a b : List Int) : Tr AV :=
 .ite ((a.length : Int) != (b.length : Int)) (.ret (.v .bool false)) (.chk (c b 0 a (a.length : Int) 0) (.ret (.v .bool (X a b == 0))))
theorem tQ (c : List Int → Int → List Int → Int → Int → Bool) (X : List Int → List Int → Int) (a b : List Int) :
  nrm (fnS Try.prog (ctx []) (LQ c X) [.bool] Try.f95 (mkArgs [bs, bs] (a, b, ()))) = (TQ c X a b).eval := by kernel_rfl
end Go.Proofs.Ytpafadpfpfgfjaa.Mac
end
section
set_option linter.unusedVariables false
set_option maxRecDepth 100000
namespace Go.Proofs.Ytpafadpfpfgfjaa.Mac
open Go Vse Go.Proofs Gen
open Sha hiding wb wu getD_cons
end Go.Proofs.Ytpafadpfpfgfjaa.Mac
end
section
set_option linter.unusedVariables false
set_option maxRecDepth 100000
namespace Go.Proofs.Ytpafadpfpfgfjaa.Mac
open Go Vse Go.Proofs Gen
open Sha hiding wb wu getD_cons
theorem outL_len (s : List Int) : ∀ (m i : Nat) (q : List Int), (outL s i m q).length = q.length
 | 0, i, q => rfl
 | m + 1, i, q => by rw [outL, outL_len s m, List.length_set]
theorem outF_len (s q : List Int) : (outF s q).length = q.length := outL_len s 32 0 q
theorem shaF_len (b : List Int) : (shaF b).length = 32 := by
 rw [shaF_hash]
 unfold sumH
 rw [outF_len]
 rfl
theorem macF_len (key b : List Int) : (macF key b).length = 32 := shaF_len _
theorem all_id {n : Nat} {l : List Int} (h : l.length = n) : all n l = l := by
 subst h
 unfold all
 rw [List.drop_zero, List.take_length]
abbrev macL : Mc := fun k l => macF k (List.flatten l)
abbrev CN : Ctx := ctx (cN macP macL)
theorem cN_sound : CtxSound Try.prog CN ∧ CtxLocal CN := ctx_sound ⟨ok29, trivial⟩
def blkE (key : List Int) (s : ByteArray) (last : List Int) (n : Int) : List Int := macF key [last, strBytes s, [n]].flatten
def expL (key : List Int) (s : ByteArray) (many : Int) : Nat → List Int → Int → List Int → List Int
 | 0, _, _, out => out
 | f + 1, last, n, out => if (out.length : Int) < many then expL key s many f (blkE key s last n) (wb (n + 1)) (out ++ blkE key s last n) else out
def expX (key : List Int) (s : ByteArray) (many : Int) : List Int := expL key s many 255 [] 1 []
def cE1 (key : List Int) (s : ByteArray) (many : Int) (last : List Int) (n : Int) (out : List Int) : Bool :=
 decide (last = []) && (decide (n = 1) && (decide (out = []) && (decide (many ≤ 8160) && (decide (key.length ≤ 1000000) && decide (s.size ≤ 100000)))))
theorem mE {key : List Int} {s : ByteArray} (hk : key.length ≤ 1000000) (hs : s.size ≤ 100000) (many : Int) (hm : many ≤ 8160) : ∀ (f : Nat) (last : List Int) (n : Int) (out : List Int), many ≤ (out.length : Int) + 32 * f → last.length ≤ 32 →
  SE.many (bodyK Try.prog CN L0 bE) (f + 1) (key, s, many, (), last, n, ()) (out, ()) = some (.exit 0, encS [2, 8] [i64, .vc 0 0] [.vec 0 u8] 40 (many, (), ()) (expL key s many f last n out, ()))
 | 0, last, n, out, h, hl => by
  refine rmany_inr ((rE macP macL key s many last n out).trans ?_) 0
  unfold GE
  rw [ite_f (decide_eq_false (by omega))]
  rfl
 | f + 1, last, n, out, h, hl => by
  by_cases hc : (out.length : Int) < many
  ·have hb : all 32 (macL key [last, strBytes s, [n]]) = blkE key s last n := all_id (macF_len _ _)
   have hbl : (blkE key s last n).length = 32 := macF_len _ _
   refine (rmany_inl (d := ((key, s, many, (), blkE key s last n, wb (n + 1), ()), (out ++ blkE key s last n, ()))) ((rE macP macL key s many last n out).trans ?_) (f + 1)).trans
    ((mE hk hs many hm f (blkE key s last n) (wb (n + 1)) (out ++ blkE key s last n) (by rw [List.length_append, hbl]; omega) (by omega)).trans ?_)
   ·have e1 : macP key [last, strBytes s, [n]] = true := by
     have := strBytes_len s
     simp only [macP, tot, List.map_cons, List.map_nil, List.sum_cons, List.sum_nil, List.length_cons, List.length_nil, Bool.and_eq_true, decide_eq_true_eq]
     omega
    have e2 : Vse.room (out.length + (blkE key s last n).length) 1 = true := by simp only [Vse.room, decide_eq_true_eq]; omega
    unfold GE
    simp only [hb]
    rw [ite_t (decide_eq_true hc), chk_eval e1, chk_eval e2]
    rfl
   ·simp only [expL]
    rw [if_pos hc]
  ·refine rmany_inr ((rE macP macL key s many last n out).trans ?_) (f + 1)
   unfold GE
   rw [ite_f (decide_eq_false hc)]
   simp only [expL]
   rw [if_neg hc]
   rfl
theorem lE : LoopOK Try.prog (LE cE1 expX) bE :=
 rloop_ok (L := LE cE1 expX) (L' := L0) cN_sound (loopsOK_of (by kernel_rfl)) SE (F := FE cE1 expX) (i := 5) (by kernel_rfl) (fun _ => rfl) fun xs hs r h => by
  obtain ⟨key, s, many, u1, last, n, u2⟩ := xs
  obtain ⟨out, u3⟩ := hs
  obtain ⟨h1, h2⟩ := Tr.chk_some h
  simp only [cE1, Bool.and_eq_true, decide_eq_true_eq] at h1
  obtain ⟨e1, e2, e3, e4, e5, e6⟩ := h1
  subst e1; subst e2; subst e3
  exact ⟨_, (mE e5 e6 many e4 255 [] 1 [] (by rw [List.length_nil]; omega) (by simp)).trans (congrArg some (Tr.ret_some h2))⟩
theorem expL_len (key : List Int) (s : ByteArray) (many : Int) : ∀ (f : Nat) (last : List Int) (n : Int) (out : List Int), many ≤ (out.length : Int) + 32 * f → many ≤ ((expL key s many f last n out).length : Int)
 | 0, last, n, out, h => by simp only [expL]; omega
 | f + 1, last, n, out, h => by
  simp only [expL]
  by_cases hc : (out.length : Int) < many
  ·have hbl : (blkE key s last n).length = 32 := macF_len _ _
   rw [if_pos hc]
   exact expL_len key s many f _ _ _ (by rw [List.length_append, hbl]; omega)
  ·rw [if_neg hc]; omega
def expP (key : List Int) (s : ByteArray) : Bool := decide (key.length ≤ 1000000) && decide (s.size ≤ 100000)
def expF (key : List Int) (s : ByteArray) (many : Int) : List Int × Int × Unit := if many < 0 ∨ many > 8160 then ([], 1, ()) else ((expX key s many).take many.toNat, 0, ())
def s30 : CSpec := .pos nE (fun xs _ => expP xs.1 xs.2.1) fun xs _ => (expF xs.1 xs.2.1 xs.2.2.1, ())
theorem TE_eq {key : List Int} {s : ByteArray} (hp : expP key s = true) (many : Int) : (TE cE1 expX key s many).eval = some (expF key s many, ()) := by
 simp only [expP, Bool.and_eq_true, decide_eq_true_eq] at hp
 unfold TE expF
 simp only
 by_cases h1 : many < 0
 ·rw [ite_t (decide_eq_true h1), if_pos (.inl h1)]; rfl
 rw [ite_f (decide_eq_false h1)]
 by_cases h2 : many > 8160
 ·rw [ite_t (decide_eq_true h2), if_pos (.inr h2)]; rfl
 rw [ite_f (decide_eq_false h2), if_neg (by omega)]
 have e1 : cE1 key s many [] 1 [] = true := by
  simp only [cE1, Bool.and_eq_true, decide_eq_true_eq, true_and]
  omega
 have e2 := expL_len key s many 255 [] 1 [] (by rw [List.length_nil]; omega)
 have e3 : (decide ((0 : Int) ≤ 0) && (decide (0 ≤ many) && (decide True && decide (many ≤ ((expX key s many).length : Int))))) = true := by
  simp only [Bool.and_eq_true, decide_eq_true_eq, true_and]
  exact ⟨by omega, by omega, e2⟩
 rw [chk_eval e1, chk_eval e3]
 show some ((((expX key s many).take many.toNat).drop 0, (0 : Int), ()), ()) = _
 rw [List.drop_zero]
theorem ok30 : CSound Try.prog 122 s30 ∧ CLocal s30 :=
 pos_sound (L := LE cE1 expX) cN_sound Try.func122 (by kernel_rfl) (loops1 (by kernel_rfl) lE) fun xs hs _ _ hp => by
  obtain ⟨key, s, many, u⟩ := xs
  exact (tE macP macL cE1 expX key s many).trans (TE_eq hp many)
def orF : List Int → List Int → Int → Int
 | x :: a, y :: b, u => orF a b (orI .u8 u (xorI .u8 x y))
 | _, _, u => u
def cQ (b : List Int) (u : Int) (a : List Int) (n i : Int) : Bool := decide (u = 0) && (decide (n = (a.length : Int)) && (decide (i = 0) && (decide (a.length = b.length) && decide (a.length ≤ 9223372036854775807))))
def orX (a b : List Int) : Int := orF a b 0
theorem mQ (a b : List Int) (hab : a.length = b.length) (hm : a.length ≤ 9223372036854775807) : ∀ (m k : Nat) (u : Int), k + m = a.length →
  SQ.many (bodyK Try.prog (ctx []) L0 bQ) (m + 1) (b, u, a, (a.length : Int), (k : Int), ()) () = some (.exit 0, encS [5] [u8] [] 31 (orF (a.drop k) (b.drop k) u, ()) ())
 | 0, k, u, h => by
  refine rmany_inr ((rQ b u a a.length k).trans ?_) 0
  unfold GQ
  rw [ite_f (decide_eq_false (by omega)), List.drop_eq_nil_of_le (by omega : a.length ≤ k)]
  rfl
 | m + 1, k, u, h => by
  have h1 : k < a.length := by omega
  have h2 : k < b.length := by omega
  have w0 : w ((k : Int) + 1) = ((k + 1 : Nat) : Int) := (w_id (by omega) (by omega)).trans (by omega)
  have g1 : a.getD k 0 = a[k] := Gen.getD_cons h1 0
  have g2 : b.getD k 0 = b[k] := Gen.getD_cons h2 0
  refine (rmany_inl (d := ((b, orI .u8 u (xorI .u8 a[k] b[k]), a, (a.length : Int), ((k + 1 : Nat) : Int), ()), ())) ((rQ b u a a.length k).trans ?_) (m + 1)).trans ((mQ a b hab hm m (k + 1) _ (by omega)).trans ?_)
  ·unfold GQ
   rw [ite_t (decide_eq_true (show (k : Int) < (a.length : Int) by omega)), chk_eval (inArr_nat h1), chk_eval (inArr_nat h2), Int.toNat_natCast, g1, g2, w0]
   rfl
  ·rw [List.drop_eq_getElem_cons h1, List.drop_eq_getElem_cons h2]
   rfl
theorem lQ : LoopOK Try.prog (LQ cQ orX) bQ :=
 rloop_ok (L := LQ cQ orX) (L' := L0) nil_sound (loopsOK_of (by kernel_rfl)) SQ (F := FQ cQ orX) (i := 5) (by kernel_rfl) (fun _ => rfl) fun xs hs r h => by
  obtain ⟨b, u, a, n, i, u1⟩ := xs
  obtain ⟨h1, h2⟩ := Tr.chk_some h
  simp only [cQ, Bool.and_eq_true, decide_eq_true_eq] at h1
  obtain ⟨e1, e2, e3, e4, e5⟩ := h1
  have e2 : n = ((List.length (α := Int) a : Nat) : Int) := e2
  have e3 : i = ((0 : Nat) : Int) := e3
  subst e1; subst e2; subst e3
  exact ⟨_, (mQ a b e4 e5 (List.length (α := Int) a) 0 0 (by omega)).trans (congrArg some (Tr.ret_some h2))⟩
def eqF (a b : List Int) : Bool := bif (a.length : Int) != (b.length : Int) then false else orX a b == 0
def s31 : CSpec := .slp1 [bs, bs] (fun _ => true) .bool fun x => eqF x.1 x.2.1
theorem ok31 : CSound Try.prog 95 s31 ∧ CLocal s31 :=
 slpE1 (L := LQ cQ orX) nil_sound Try.func95 (by kernel_rfl) (loops1 (by kernel_rfl) lQ) fun xs hx hp => by
  obtain ⟨a, b, u⟩ := xs
  have hl : List.length (α := Int) a ≤ 9223372036854775807 := hx.1.1
  refine (tQ cQ orX a b).trans ?_
  have : (TQ cQ orX a b).eval = some (.v .bool (eqF a b)) := by
   unfold TQ eqF
   by_cases h : List.length (α := Int) a = List.length (α := Int) b
   ·have e1 : ((List.length (α := Int) a : Int) != (List.length (α := Int) b : Int)) = false := by simp [h]
    have e2 : cQ b 0 a (List.length (α := Int) a : Int) 0 = true := by
     simp only [cQ, Bool.and_eq_true, decide_eq_true_eq, true_and]
     exact ⟨h, hl⟩
    rw [ite_f e1, chk_eval e2, e1]
    rfl
   ·have e1 : ((List.length (α := Int) a : Int) != (List.length (α := Int) b : Int)) = true := by simp; omega
    rw [ite_t e1, e1]
    rfl
  exact this
end Go.Proofs.Ytpafadpfpfgfjaa.Mac
end
section
set_option linter.unusedVariables false
set_option maxRecDepth 100000
namespace Go.Proofs.Ytpafadpfpfgfjaa.Mac
open Go Vse Go.Proofs Gen
open Sha hiding wb wu getD_cons
end Go.Proofs.Ytpafadpfpfgfjaa.Mac
end
section
set_option linter.unusedVariables false
set_option maxRecDepth 100000
namespace Go.Proofs.Ytpafadpfpfgfjaa.Mac
open Go Vse Go.Proofs Gen
open Sha hiding wb wu getD_cons
end Go.Proofs.Ytpafadpfpfgfjaa.Mac
end
section
set_option linter.unusedVariables false
set_option maxRecDepth 100000
namespace Go.Proofs.Ytpafadpfpfgfjaa.Mac
open Go Vse Go.Proofs Gen
open Sha hiding wb wu getD_cons
theorem wb_byte (x : Int) : 0 ≤ wb x ∧ wb x < 256 := by rw [show wb x = x % 256 from wb_mod x]; omega
theorem bytes_append {a b : List Int} (ha : Bytes a) (hb : Bytes b) : Bytes (a ++ b) := fun x hx => by
 rcases List.mem_append.1 hx with h | h
 ·exact ha x h
 ·exact hb x h
theorem bytes_set {l : List Int} (h : Bytes l) (i : Nat) (x : Int) : Bytes (l.set i (wb x)) := fun y hy => by
 rcases List.mem_or_eq_of_mem_set hy with h' | rfl
 ·exact h y h'
 ·exact wb_byte x
theorem bytes_outL (s : List Int) : ∀ (m i : Nat) (q : List Int), Bytes q → Bytes (outL s i m q)
 | 0, i, q, h => h
 | m + 1, i, q, h => by
  rw [outL]
  exact bytes_outL s m (i + 1) _ (bytes_set h i _)
theorem bytes_sha (b : List Int) : Bytes (shaF b) := by
 rw [shaF_hash]
 unfold sumH outF
 refine bytes_outL _ _ _ _ fun x hx => ?_
 have : ∀ x ∈ zeros32, x = 0 := by decide
 rw [this x hx]
 omega
theorem bytes_mac (key b : List Int) : Bytes (macF key b) := bytes_sha _
theorem xor_zero {m n : Nat} : m ^^^ n = 0 ↔ m = n := by
 constructor
 ·intro h
  have e : m ^^^ (m ^^^ n) = n := by rw [← Nat.xor_assoc, Nat.xor_self, Nat.zero_xor]
  rw [h, Nat.xor_zero] at e
  exact e
 ·rintro rfl
  exact Nat.xor_self m
theorem xor_self (x : Int) : xorI .u8 x x = 0 := by
 unfold xorI
 rw [BitVec.xor_self]
 rfl
theorem orF_self : ∀ a : List Int, orF a a 0 = 0
 | [] => rfl
 | x :: a => by
  show orF a a (orI .u8 0 (xorI .u8 x x)) = 0
  rw [xor_self]
  exact orF_self a
theorem eqF_self (a : List Int) : eqF a a = true := by
 unfold eqF orX
 rw [orF_self, bne_self_eq_false]
 rfl
end Go.Proofs.Ytpafadpfpfgfjaa.Mac
end
end
section
section
set_option linter.unusedVariables false
namespace Vse
open Go Go.ChangeShapes
def rngsOf : Code → List (Operand × Array Tmp × Code × Code)
 | .seq a b => rngsOf a ++ rngsOf b
 | .block _ c => rngsOf c
 | .rangeFunc g ps x y => [(g, ps, x, y)]
 | _ => []
theorem rngsOK_all {P : Program} {R : Loops} : ∀ {c : Code}, (∀ t ∈ rngsOf c, ∀ i, firstReg t.2.2.1 = some i → RunOK P (R i) (.rangeFunc t.1 t.2.1 t.2.2.1 t.2.2.2)) → RngsOK P R c := by
 intro c
 induction c with
 | seq a b iha ihb => intro h; exact ⟨iha fun t ht => h t (List.mem_append_left _ ht), ihb fun t ht => h t (List.mem_append_right _ ht)⟩
 | block id c ih => intro h; exact ih h
 | rangeFunc g ps x y => intro h; exact fun i hi => h (g, ps, x, y) (List.mem_singleton.2 rfl) i hi
 | _ => intro _; trivial
def fnSX (P : Program) (rn : St → Tr (Ex × St)) (Rs : List Ty) (fn : Func) (args : List AV) : Tr (AV × Heap) := (fnTX P rn fn args []).bind fun r => .ret (sealR Rs r)
theorem slpX {P : Program} {k : Nat} {fn : Func} (hf : P.funcs[k]? = some fn) {rn : St → Tr (Ex × St)} (hrn : RunOK P rn (bodyOf fn)) {As Rs : List Ty} {pre : HL As → Bool} {f : HL As → HL Rs}
  (hside : ((fn.name == "runtime.NumGoroutine") == false && fn.body.isSome && (As.all fun A => A.still false) && stillL Rs) = true)
  (h1 : ∀ xs, HL.ok As xs → pre xs = true → nrm (fnSX P rn Rs fn (mkArgs As xs)) = some (ofHL Rs (f xs))) :
  CSound P k (CSpec.slp As pre Rs f) ∧ CLocal (CSpec.slp As pre Rs f) := by
 simp only [Bool.and_eq_true, beq_iff_eq] at hside
 obtain ⟨⟨⟨hname, hb⟩, hA⟩, hR⟩ := hside
 obtain ⟨body, hb⟩ := Option.isSome_iff_exists.1 hb
 have hrn : RunOK P rn body := by
  unfold bodyOf at hrn
  rw [hb] at hrn
  exact hrn
 refine ⟨⟨fun args w => callFunc_enter hf hname hb args w, ?_⟩, slp_local As pre Rs f⟩
 intro g H w vs rvs fr out hI hargs _ he
 simp only [CSpec.slp] at he
 rw [takeE_takeAs] at he
 split at he
 ·rename_i xs hxs
  obtain ⟨hp, he⟩ := Tr.chk_some he
  have := Tr.ret_some he
  subst this
  have hargs' := takeAs_rep hI hA hargs hxs
  have hx := args_ok hargs'
  obtain ⟨H', h5⟩ := nrm_some (h1 xs hx hp)
  obtain ⟨r, h6, h7⟩ := Tr.bind_some h5
  have h7 := Tr.ret_some h7
  refine (fn_soundX hf hb hrn (lend_inv hI) hargs' h6).mono ?_
  rintro e w' ⟨rv, g', rfl, hle, hI', hv⟩
  obtain ⟨g1, s1, s2, s3⟩ := sealR_rep Rs (r := r) hI' hv
  rw [h7] at s2 s3
  obtain ⟨g'', q1, q2, q3⟩ := lend_back hI (hle.trans s1) s2
  exact ⟨rv, g'', rfl, q1, q2, still_VRep q3 (ofHL_still hR _) s3⟩
 ·exact (Tr.fail_some he).elim
theorem slpX1 {P : Program} {k : Nat} {fn : Func} (hf : P.funcs[k]? = some fn) {rn : St → Tr (Ex × St)} (hrn : RunOK P rn (bodyOf fn)) {As : List Ty} {R : Ty} {pre : HL As → Bool} {f : HL As → R.den}
  (hside : ((fn.name == "runtime.NumGoroutine") == false && fn.body.isSome && (As.all fun A => A.still false) && stillL [R]) = true)
  (h1 : ∀ xs, HL.ok As xs → pre xs = true → nrm (fnSX P rn [R] fn (mkArgs As xs)) = some (.v R (f xs))) :
  CSound P k (CSpec.slp1 As pre R f) ∧ CLocal (CSpec.slp1 As pre R f) := slpX hf hrn hside h1
end Vse
end
section
set_option linter.unusedVariables false
namespace Vse
open Go Go.ChangeShapes
section
variable {P : Program} {C : Ctx} {L : Loops} {g : G} {H : Heap} {w : World}
def idsQ (H : Heap) (v : AV) : List Nat :=
 match v with
 | .v (.vc e g) u => match getE H e with
  | .vec _ (.vc e' _) _ => [e, e']
  | .vec _ (.sub e' _) _ => [e, e']
  | _ => [e]
 | v => vcOf v
def allTake (b a : Ty) (E : Entry) : List a.den → Option (List (List b.den))
 | [] => some []
 | x :: l => match takeA (.imm false false b) (.v a x) [E] with
  | some y => match allTake b a E l with
   | some r => some (y :: r)
   | none => none
  | none => none
def takeN (b : Ty) (v : AV) (es : List Entry) : Option (List (List b.den)) :=
 match v with
 | .v (.vc e g) u => match es with
  | [.vec g' a l, E] => if g = g' then allTake b a E l else none
  | es => takeA (.imm false false (.imm false false b)) (.v (.vc e g) u) es
 | v => takeA (.imm false false (.imm false false b)) v es
theorem allTake_rep (hI : HInv g H w) {b a : Ty} (hb : b.still false = true) {e : Nat} (ha : (∃ k, a = .vc e k) ∨ ∃ p, a = .sub e p) : ∀ {l : List a.den} {L : List (List b.den)} {vs : List Value}, allTake b a (getE H e) l = some L → repL (Rep g a) l vs →
  repL (Rep (g.lend H w) (.imm false false b)) L vs ∧ L.length = l.length
 | [], L, vs, h, hr => by
  simp only [allTake, Option.some.injEq] at h
  subst h
  exact ⟨hr, rfl⟩
 | x :: l, L, vs, h, hr => by
  simp only [allTake] at h
  split at h
  ·rename_i y hy
   split at h
   ·rename_i r hrr
    simp only [Option.some.injEq] at h
    subst h
    obtain ⟨c1, c2, rfl, h1, h2⟩ := hr
    obtain ⟨q1, q2⟩ := allTake_rep hI hb ha hrr h2
    have hone : ∃ v1, c1 = [v1] := by
     rcases ha with ⟨k, rfl⟩ | ⟨p, rfl⟩
     ·obtain ⟨⟨v1, h0, _⟩, _⟩ := h1
      exact ⟨v1, h0⟩
     ·obtain ⟨⟨v1, h0, _⟩, _⟩ := h1
      exact ⟨v1, h0⟩
    obtain ⟨v1, rfl⟩ := hone
    have hv : VRep g (.v a x) v1 := by
     rcases ha with ⟨k, rfl⟩ | ⟨p, rfl⟩
     ·refine (VRep_v (by simp)).2 ?_
      simpa only [TRep, Ty.agg, Ty.sk, Sk.agg, Bool.false_eq_true, if_false] using h1
     ·refine (VRep_v (by simp)).2 ?_
      simpa only [TRep, Ty.agg, Ty.sk, Sk.agg, Bool.false_eq_true, if_false] using h1
    have hvc : ents H (vcOf (.v a x)) = [getE H e] := by
     rcases ha with ⟨k, rfl⟩ | ⟨p, rfl⟩ <;> rfl
    have := takeA_rep (A := .imm false false b) hI (by simpa [Ty.still] using hb) hv (by rw [hvc]; exact hy)
    have := (VRep_v (by simp)).1 this
    simp only [TRep, Ty.agg, Ty.sk, Sk.agg, Bool.false_eq_true, if_false] at this
    exact ⟨⟨[v1], c2, rfl, this, q1⟩, by simp only [List.length_cons, q2]⟩
   ·cases h
  ·cases h
theorem takeN_rep (hI : HInv g H w) {b : Ty} (hb : b.still false = true) {v : AV} {rv : Value} {L : List (List b.den)} (hv : VRep g v rv) (h : takeN b v (ents H (idsQ H v)) = some L) : VRep (g.lend H w) (.v (.imm false false (.imm false false b)) L) rv := by
 have hb2 : (Ty.imm false false (Ty.imm false false b)).still false = true := by simpa [Ty.still] using hb
 have old : ents H (idsQ H v) = ents H (vcOf v) → takeA (.imm false false (.imm false false b)) v (ents H (vcOf v)) = some L → VRep (g.lend H w) (.v (.imm false false (.imm false false b)) L) rv := fun _ h => takeA_rep hI hb2 hv h
 have nest : ∀ {e k e' : Nat} {u : Unit} {k' : Nat} {a : Ty} {l : List a.den}, v = .v (.vc e k) u → getE H e = .vec k' a l → ((∃ j, a = .vc e' j) ∨ ∃ p, a = .sub e' p) → k = k' → allTake b a (getE H e') l = some L → VRep (g.lend H w) (.v (.imm false false (.imm false false b)) L) rv := by
  rintro e k e' u k' a l rfl hE ha rfl hL
  have he := hI.ent e
  rw [hE] at he
  have hlive : (getE H e).live = true := by rw [hE]; rfl
  have hv := (VRep_v (by simp)).1 hv
  simp only [TRep, Ty.agg, Ty.sk, Sk.agg, Bool.false_eq_true, if_false, Rep, G.vcr, hI.sh, hE, shp] at hv
  obtain ⟨_, _, hv⟩ := hv
  refine (VRep_v (by simp)).2 ?_
  simp only [TRep, Ty.agg, Ty.sk, Sk.agg, Bool.false_eq_true, if_false]
  unfold Rep
  rcases hv trivial with ⟨hb0, h0, hh⟩ | ⟨bl, cap, hbl, hh, hcap, _⟩
  ·have hl0 : l = [] := List.eq_nil_of_length_eq_zero h0
   subst hl0
   simp only [allTake, Option.some.injEq] at hL
   subst hL
   exact ⟨none, 0, hh, by simp, by simp, by simp⟩
  ·rcases he with ⟨q1, _⟩ | ⟨b', cs, t, fz, vs, r, q1, q2, q3, q4, q5, q6, q7⟩
   ·rw [hbl] at q1; cases q1
   rw [hbl] at q1
   cases q1
   obtain ⟨p1, p2⟩ := allTake_rep hI hb ha hL q6
   have hgr : (g.lend H w).gr bl = some (.cells cs t fz) := by
    simp only [G.lend]
    rw [(hI.own _ _ hlive hbl).2]
    simp only [Option.isSome_none, Bool.false_eq_true, if_false]
    rw [if_pos ⟨e, hlive, hbl⟩]
    exact q2
   have hrd : reads (g.lend H w).gr ⟨bl, 0, none⟩ vs := by
    refine ⟨rfl, cs, t, fz, hgr, fun i v hi => ?_⟩
    have hj : i < vs.length := (List.getElem?_eq_some_iff.1 hi).1
    have : cs.toList[i]? = some v := by rw [q5, List.getElem?_append_left hj]; exact hi
    simpa using this
   exact ⟨_, cap, by rw [p2]; exact hh, by rw [p2]; exact hcap, by simp, fun _ => ⟨_, vs, rfl, p1, .inr ⟨rfl, hrd⟩⟩⟩
 unfold takeN at h
 split at h
 ·rename_i e k u
  cases hE : getE H e with
  | vec k' a l =>
   have hcase : ((∃ e', (∃ j, a = .vc e' j) ∨ ∃ p, a = .sub e' p) ∧ ∃ e', idsQ H (.v (.vc e k) u) = [e, e'] ∧ ((∃ j, a = .vc e' j) ∨ ∃ p, a = .sub e' p)) ∨ idsQ H (.v (.vc e k) u) = [e] := by
    unfold idsQ
    simp only [hE]
    split
    ·rename_i e' j l' heq
     simp only [Entry.vec.injEq] at heq
     exact .inl ⟨⟨e', .inl ⟨j, heq.2.1⟩⟩, e', rfl, .inl ⟨j, heq.2.1⟩⟩
    ·rename_i e' p l' heq
     simp only [Entry.vec.injEq] at heq
     exact .inl ⟨⟨e', .inr ⟨p, heq.2.1⟩⟩, e', rfl, .inr ⟨p, heq.2.1⟩⟩
    ·exact .inr rfl
   rcases hcase with ⟨_, e', hids, ha⟩ | hids
   ·rw [hids] at h
    simp only [ents, hE] at h
    split at h
    ·rename_i hk
     exact nest rfl hE ha hk h
    ·cases h
   ·rw [hids] at h
    simp only [ents] at h
    exact takeA_rep hI hb2 hv (by simpa [vcOf, ents] using h)
  | _ =>
   have hids : idsQ H (.v (.vc e k) u) = [e] := by unfold idsQ; simp only [hE]
   rw [hids] at h
   simp only [ents, hE] at h
   exact takeA_rep hI hb2 hv (by simpa [vcOf, ents, hE] using h)
 ·rename_i hnv
  have hids : idsQ H v = vcOf v := by
   unfold idsQ
   split
   ·rename_i e k u; exact (hnv e k u rfl).elim
   ·rfl
  rw [hids] at h
  exact takeA_rep hI hb2 hv h
def CSpec.slq (A b : Ty) (pre : A.den → List (List b.den) → Bool) (R : Ty) (f : A.den → List (List b.den) → R.den) : CSpec :=
 ⟨0, fun vs H => match vs with | [v1, v2] => vcOf v1 ++ idsQ H v2 | _ => [], fun _ _ => [],
  fun vs es _ => match vs with
  | [v1, v2] => match takeA A v1 (es.take (vcOf v1).length) with
   | some x => match takeN b v2 (es.drop (vcOf v1).length) with
    | some y => .chk (pre x y) (.ret (.v R (f x y), []))
    | none => .fail
   | none => .fail
  | _ => .fail⟩
theorem idsQ_same {H H' : Heap} {v : AV} (h : ∀ i ∈ idsQ H v, getE H' i = getE H i) : idsQ H' v = idsQ H v := by
 unfold idsQ at h ⊢
 split
 ·rename_i e k u
  have he : getE H' e = getE H e := by
   refine h e ?_
   simp only
   split <;> simp
  simp only [he]
 ·rfl
theorem slq_local (A b : Ty) (pre : A.den → List (List b.den) → Bool) (R : Ty) (f : A.den → List (List b.den) → R.den) : CLocal (CSpec.slq A b pre R f) where
 same vs H H' h := by
  refine ⟨?_, rfl⟩
  simp only [CSpec.slq] at h ⊢
  split
  ·rename_i v1 v2
   rw [idsQ_same fun i hi => h i (List.mem_append_right _ hi)]
  ·rfl
 turns vs H fr out h x hx := by
  simp only [CSpec.slq] at h
  split at h
  ·split at h
   ·split at h
    ·obtain ⟨_, h⟩ := Tr.chk_some h
     have := Tr.ret_some h
     subst this
     simp at hx
    ·exact (Tr.fail_some h).elim
   ·exact (Tr.fail_some h).elim
  ·exact (Tr.fail_some h).elim
theorem slqE1 (hC : CtxSound P C ∧ CtxLocal C) {k : Nat} {fn : Func} (hf : P.funcs[k]? = some fn) {A b R : Ty} {pre : A.den → List (List b.den) → Bool} {f : A.den → List (List b.den) → R.den}
  (hside : ((fn.name == "runtime.NumGoroutine") == false && fn.body.isSome && (A.still false && b.still false) && stillL [R]) = true)
  (hl : ∀ b ∈ loopsOf (bodyOf fn), LoopOK P L b)
  (h1 : ∀ x y, A.ok x → pre x y = true → nrm (fnS P C L [R] fn (mkArgs [A, .imm false false (.imm false false b)] (x, y, ()))) = some (.v R (f x y))) :
  CSound P k (CSpec.slq A b pre R f) ∧ CLocal (CSpec.slq A b pre R f) := by
 simp only [Bool.and_eq_true, beq_iff_eq] at hside
 obtain ⟨⟨⟨hname, hb⟩, hA, hbb⟩, hR⟩ := hside
 obtain ⟨body, hb⟩ := Option.isSome_iff_exists.1 hb
 have hl : LoopsOK P L body := by
  refine loopsOK_all ?_
  unfold bodyOf at hl
  rw [hb] at hl
  exact hl
 refine ⟨⟨fun args w => callFunc_enter hf hname hb args w, ?_⟩, slq_local A b pre R f⟩
 intro g H w vs rvs fr out hI hargs _ he
 simp only [CSpec.slq] at he
 split at he
 ·rename_i v1 v2
  obtain ⟨r1, rs, rfl, hv1, r2, rs2, rfl, hv2, hr3⟩ := hargs
  have hr3 : rs2 = [] := hr3
  subst hr3
  have e1 : (ents H (vcOf v1 ++ idsQ H v2)).take (vcOf v1).length = ents H (vcOf v1) := by rw [ents_append, ← ents_length H (vcOf v1), List.take_left]
  have e2 : (ents H (vcOf v1 ++ idsQ H v2)).drop (vcOf v1).length = ents H (idsQ H v2) := by rw [ents_append, ← ents_length H (vcOf v1), List.drop_left]
  rw [e1, e2] at he
  split at he
  ·rename_i x hx
   split at he
   ·rename_i y hy
    obtain ⟨hp, he⟩ := Tr.chk_some he
    have := Tr.ret_some he
    subst this
    have a1 := takeA_rep hI hA hv1 hx
    have a2 := takeN_rep hI hbb hv2 hy
    have hargs' : argsRep (g.lend H w) (mkArgs [A, .imm false false (.imm false false b)] (x, y, ())) [r1, r2] := ⟨r1, [r2], rfl, a1, r2, [], rfl, a2, rfl⟩
    have hx := args_ok hargs'
    obtain ⟨H', h5⟩ := nrm_some (h1 x y hx.1 hp)
    obtain ⟨r, h6, h7⟩ := Tr.bind_some h5
    have h7 := Tr.ret_some h7
    refine (fn_sound hC.1 hC.2 hf hb hl (lend_inv hI) hargs' (fnK_ok h6)).mono ?_
    rintro e w' ⟨rv, g', rfl, hle, hI', hv⟩
    obtain ⟨g1, s1, s2, s3⟩ := sealR_rep [R] (r := r) hI' hv
    rw [h7] at s2 s3
    obtain ⟨g'', q1, q2, q3⟩ := lend_back hI (hle.trans s1) s2
    exact ⟨rv, g'', rfl, q1, q2, still_VRep q3 (ofHL_still hR (f x y, ())) s3⟩
   ·exact (Tr.fail_some he).elim
  ·exact (Tr.fail_some he).elim
 ·exact (Tr.fail_some he).elim
end
end Vse
end
section
set_option linter.unusedVariables false
namespace Vse
open Go Go.Sort
section
variable {P : Program} {g : G} {H : Heap} {w : World}
end
end Vse
end
end
section
set_option linter.unusedVariables false
set_option maxRecDepth 100000
namespace Go.Proofs.Ytpafadpfpfgfjaa.Mac
open Go Vse Go.Proofs Gen Sha
abbrev lq : Ty := .imm false false bs
def SMq : RSpec := ⟨[0, 4, 5, 6, 16, 17, 18], 37, [bs, .ptr 0 [], .ptr 1 [], .ptr 2 [], lq, i64, i64], eM, eM, [], fun _ => ([0, 4, 5, 6], [bs, .ptr 0 [], .ptr 1 [], .ptr 2 []], eM)⟩
theorem rMq (i0 : Hs) (W : Wr) (p : List Int → Hs → Bool) (q : Hs → Bool) (D : Hs → List Int) (F : List Int → Int → List Int) (pf : List Int → Bool) (key : List Int) (l : List (List Int)) (n i : Int) (o : List Int) (h h' : Hs) :
  (SMq.round (bodyK Try.prog (ctx (cM i0 W p q D F pf)) L0 bM) (key, (), (), (), l, n, i, ()) (o, h, h', ())).eval = (GM W p key l n i o h h' : Tr SM.End).eval := by kernel_rfl
def FMq (c : List (List Int) → Int → Int → Hs → Bool) (Z : List (List Int) → Hs → Hs) (xs : HL SMq.Ts) (hs : HD SMq.Es) : Tr (Ex × St) :=
 .chk (c xs.2.2.2.2.1 xs.2.2.2.2.2.1 xs.2.2.2.2.2.2.1 hs.2.1) (.ret (.exit 0, encS [0, 4, 5, 6] [bs, .ptr 0 [], .ptr 1 [], .ptr 2 []] eM 37 (xs.1, (), (), (), ()) (hs.1, Z xs.2.2.2.2.1 hs.2.1, hs.2.2.1, ())))
def LMq (c : List (List Int) → Int → Int → Hs → Bool) (Z : List (List Int) → Hs → Hs) : Loops := fun j st => if j = 4 then SMq.fn (FMq c Z) st else .fail
theorem tMq (i : Hs) (W : Wr) (p : List Int → Hs → Bool) (q : Hs → Bool) (D : Hs → List Int) (F : List Int → Int → List Int) (pf : List Int → Bool) (c : List (List Int) → Int → Int → Hs → Bool) (Z : List (List Int) → Hs → Hs) (key : List Int) (l : List (List Int)) :
  nrm (fnS Try.prog (ctx (cM i W p q D F pf)) (LMq c Z) [d32] Try.f94 (mkArgs [bs, lq] (key, l, ()))) = (TM i W p q D F pf c Z key l).eval := by kernel_rfl
theorem mMq (key : List Int) (l : List (List Int)) (hl : l.length ≤ 1000000) (ht : tot l ≤ 1000000) (o : List Int) (h' : Hs) : ∀ (m k : Nat) (h : Hs), k + m = l.length → h.2.1.length ≤ 1000000 →
  SMq.many (bodyK Try.prog CMF L0 bM) (m + 1) (key, (), (), (), l, (l.length : Int), (k : Int), ()) (o, h, h', ()) = some (.exit 0, encS [0, 4, 5, 6] [bs, .ptr 0 [], .ptr 1 [], .ptr 2 []] eM 37 (key, (), (), (), ()) (o, zP (l.drop k) h, h', ()))
 | 0, k, h, hk, hr => by
  refine rmany_inr ((rMq h0 writeF writeP restP sumH fillK shaP key l l.length k o h h').trans ?_) 0
  rw [List.drop_eq_nil_of_le (by omega)]
  simp only [GM, Tr.eval, decide_eq_false (show ¬ ((k : Int) < (l.length : Int)) by omega)]
  rfl
 | m + 1, k, h, hk, hr => by
  have h1 : k < l.length := by omega
  have g1 : l.getD k [] = l[k] := Gen.getD_cons h1 []
  have hle := getElem_tot l k h1
  refine (rmany_inl (d := ((key, (), (), (), l, (l.length : Int), ((k + 1 : Nat) : Int), ()), (o, writeF l[k] h, h', ()))) ((rMq h0 writeF writeP restP sumH fillK shaP key l l.length k o h h').trans ?_) (m + 1)).trans
   ((mMq key l hl ht o h' m (k + 1) (writeF l[k] h) (by omega) (rest_le _ _)).trans ?_)
  ·have w0 : w ((k : Int) + 1) = ((k + 1 : Nat) : Int) := (w_id (by omega) (by omega)).trans (by omega)
   have e1 : writeP l[k] h = true := decide_eq_true (by omega)
   unfold GM
   simp only [Int.toNat_natCast, g1]
   rw [ite_t (decide_eq_true (show ((k : Int) < (l.length : Int)) by omega)), chk_eval (inArr_nat h1), chk_eval e1, w0]
   rfl
  ·rw [List.drop_eq_getElem_cons h1]
   simp only [zP, List.foldl_cons]
theorem lMq : LoopOK Try.prog (LMq cM1 zP) bM :=
 rloop_ok (L := LMq cM1 zP) (L' := L0) cM_sound (loopsOK_of (by kernel_rfl)) SMq (F := FMq cM1 zP) (i := 4) (by kernel_rfl) (fun _ => rfl) fun xs hs r h => by
  obtain ⟨key, u1, u2, u3, l, n, i, u4⟩ := xs
  obtain ⟨o, hh, h', u5⟩ := hs
  obtain ⟨h1, h2⟩ := Tr.chk_some h
  simp only [cM1, Bool.and_eq_true, decide_eq_true_eq] at h1
  obtain ⟨e1, e2, e3, e4, e5⟩ := h1
  have e1 : n = ((List.length (α := List Int) l : Nat) : Int) := e1
  have e2 : i = ((0 : Nat) : Int) := e2
  subst e1; subst e2
  have := mMq key l e5 e4 o h' (List.length (α := List Int) l) 0 hh (by omega) e3
  rw [List.drop_zero] at this
  exact ⟨_, this.trans (congrArg some (Tr.ret_some h2))⟩
def s29q : CSpec := .slq bs u8 (fun k l => macP k l) d32 fun k l => macF k (List.flatten (α := Int) l)
theorem ok29q : CSound Try.prog 94 s29q ∧ CLocal s29q :=
 slqE1 (L := LMq cM1 zP) cM_sound Try.func94 (by kernel_rfl) (loops1 (by kernel_rfl) lMq) fun key l hx hp =>
  (tMq h0 writeF writeP restP sumH fillK shaP cM1 zP key l).trans (TM_eq hp)
end Go.Proofs.Ytpafadpfpfgfjaa.Mac
end
section
set_option linter.unusedVariables false
set_option maxRecDepth 100000
namespace Go.Proofs.Ytpafadpfpfgfjaa.Seal
open Go Vse Go.Proofs Gen
abbrev w16 : Ty := .arr 16 u8
abbrev d32 : Ty := .arr 32 u8
abbrev Fl := List Int → List Int → List Int → List Int
abbrev Pb := List Int → Bool
abbrev Mq := List Int → List (List Int) → List Int
abbrev Pm := List Int → List (List Int) → Bool
def cS (P : Pb) (F : Fl) (pm : Pm) (M : Mq) : List (Nat × CSpec) := [(96, .slp1 [w16, w16, bs] (fun x => P x.2.2.1) bt fun x => F x.1 x.2.1 x.2.2.1), (94, .slq bs u8 (fun k l => pm k l) d32 fun k l => M k l)]
abbrev nS : PSpec := ⟨[w16, bs, .ptr 0 [], .ptr 1 []], [bt, i64], [.box bs, .box w16], [.dead, .dead], []⟩
abbrev all (n : Nat) (l : List Int) : List Int := (l.drop 0).take n
def TS (P : Pb) (F : Fl) (pm : Pm) (M : Mq) (hide seals plain first : List Int) : Tr nS.Out :=
 let a := all 16 first
 let fl := F hide first plain
 let d := fun l => all 32 (M seals [l])
 .ite (decide ((plain.length : Int) > 1000)) (.ret (([], 7, ()), ()))
  (.chk (P plain) (.ite (decide (fl.length = 0))
   (.chk (pm seals [a]) (.ite (decide ((d a).length = 0)) (.ret ((a, 0, ()), ())) (.chk (Vse.room (a.length + (d a).length) 1) (.ret ((a ++ d a, 0, ()), ())))))
   (.chk (Vse.room (a.length + fl.length) 1) (.chk (pm seals [a ++ fl]) (.chk (Vse.room ((a ++ fl).length + (d (a ++ fl)).length) 1) (.ret ((a ++ fl ++ d (a ++ fl), 0, ()), ())))))))
theorem tS (P : Pb) (F : Fl) (pm : Pm) (M : Mq) (hide seals plain first : List Int) :
  (fnP Try.prog (ctx (cS P F pm M)) L0 nS Try.f110 (hide, seals, (), (), ()) (plain, first, ())).eval = (TS P F pm M hide seals plain first).eval := by kernel_rfl
def cO (P : Pb) (F : Fl) (pm : Pm) (M : Mq) (Q : List Int → List Int → Bool) : List (Nat × CSpec) :=
 [(95, .slp1 [bs, bs] (fun _ => true) .bool fun x => Q x.1 x.2.1), (96, .slp1 [w16, w16, bs] (fun x => P x.2.2.1) bt fun x => F x.1 x.2.1 x.2.2.1), (94, .slq bs u8 (fun k l => pm k l) d32 fun k l => M k l)]
abbrev nO : PSpec := ⟨[w16, bs, .ptr 0 []], [bt, i64], [.box bs], [.dead], []⟩
def cut (l : List Int) (lo hi : Int) : List Int := (l.take hi.toNat).drop lo.toNat
def cutOK (l : List Int) (lo hi : Int) : Bool := decide (0 ≤ lo) && (decide (lo ≤ hi) && decide (hi ≤ (l.length : Int)))
def TO (P : Pb) (F : Fl) (pm : Pm) (M : Mq) (Q : List Int → List Int → Bool) (hide seals b : List Int) : Tr nO.Out :=
 let bad := fun n : Int => (.ret (([], n, ()), ()) : Tr nO.Out)
 let front := cut b 0 (w ((b.length : Int) - 32))
 let x := cut front 0 16
 let y := cut front 16 (front.length : Int)
 .ite (decide ((b.length : Int) < 48)) (bad 2) (.ite (decide ((b.length : Int) > 1048)) (bad 7) (.chk (cutOK b 0 (w ((b.length : Int) - 32))) (.chk (cutOK front 0 16) (.chk (cutOK front 16 (front.length : Int))
  (.chk (pm seals [x, y]) (.chk (cutOK b (front.length : Int) (b.length : Int)) (.ite (!Q (all 32 (M seals [x, y])) (cut b (front.length : Int) (b.length : Int))) (bad 6)
   (.chk (cutOK front 0 16) (.chk (decide (16 ≤ x.length)) (.chk (cutOK front 16 (front.length : Int)) (.chk (P y) (.ret ((F hide (x.take 16) y, 0, ()), ())))))))))))))
theorem tO (P : Pb) (F : Fl) (pm : Pm) (M : Mq) (Q : List Int → List Int → Bool) (hide seals b : List Int) :
  (fnP Try.prog (ctx (cO P F pm M Q)) L0 nO Try.f93 (hide, seals, (), ()) (b, ())).eval = (TO P F pm M Q hide seals b).eval := by kernel_rfl
abbrev kS : Nat := 110
abbrev kO : Nat := 93
abbrev fS : Ty := .fn kS (.prod (.ptr 0 []) (.prod (.ptr 1 []) .unit))
abbrev fO : Ty := .fn kO (.prod (.ptr 0 []) .unit)
abbrev Ef := List Int → ByteArray → Int → List Int × Int × Unit
abbrev Pe := List Int → ByteArray → Bool
abbrev nE : PSpec := ⟨[bs, .str, i64], [bt, i64], [], [], []⟩
abbrev Rs := List Int × Int × Unit
def cWS (E : Ef) (pe : Pe) (S : List Int → List Int → List Int → List Int → Rs) (ps : List Int → List Int → List Int → List Int → Bool) : List (Nat × CSpec) :=
 [(122, .pos nE (fun xs _ => pe xs.1 xs.2.1) fun xs _ => (E xs.1 xs.2.1 xs.2.2.1, ())), (110, .pos nS (fun xs hs => ps xs.1 xs.2.1 hs.1 hs.2.1) fun xs hs => (S xs.1 xs.2.1 hs.1 hs.2.1, ()))]
abbrev nWS : PSpec := ⟨[w16, .str, fS], [bt, i64], [.box bs, .box w16], [.dead, .dead], []⟩
def cWO (E : Ef) (pe : Pe) (O : List Int → List Int → List Int → Rs) (po : List Int → List Int → List Int → Bool) : List (Nat × CSpec) :=
 [(122, .pos nE (fun xs _ => pe xs.1 xs.2.1) fun xs _ => (E xs.1 xs.2.1 xs.2.2.1, ())), (93, .pos nO (fun xs hs => po xs.1 xs.2.1 hs.1) fun xs hs => (O xs.1 xs.2.1 hs.1, ()))]
abbrev nWO : PSpec := ⟨[w16, .str, fO], [bt, i64], [.box bs], [.dead], []⟩
def pur : ByteArray := ⟨#[98, 97, 114, 116, 105, 122, 97, 110, 32]⟩
def TW {α : Type} (E : Ef) (pe : Pe) (key : List Int) (s : ByteArray) (out : Rs → α) (p : List Int → List Int → Bool) (D : List Int → List Int → Rs) : Tr α :=
 let r := E (all 16 key) (pur ++ s) 48
 let hide := (cut r.1 0 16).take 16
 let seals := cut r.1 16 (r.1.length : Int)
 .ite (s == ByteArray.empty) (.ret (out ([], 1, ()))) (.ite (decide ((s.size : Int) > 40)) (.ret (out ([], 1, ()))) (.chk (decide (9 + s.size ≤ 9223372036854775807)) (.chk (pe (all 16 key) (pur ++ s))
  (.ite (r.2.1 != 0) (.ret (out ([], r.2.1, ()))) (.chk (cutOK r.1 0 16) (.chk (decide (16 ≤ (cut r.1 0 16).length)) (.chk (cutOK r.1 16 (r.1.length : Int)) (.chk (p hide seals) (.ret (out (D hide seals)))))))))))
theorem tWS (E : Ef) (pe : Pe) (S : List Int → List Int → List Int → List Int → Rs) (ps : List Int → List Int → List Int → List Int → Bool) (key : List Int) (s : ByteArray) (plain first : List Int) :
  (fnP Try.prog (ctx (cWS E pe S ps)) L0 nWS Try.f92 (key, s, ((), (), ()), ()) (plain, first, ())).eval = (TW E pe key s (fun r => (r, ())) (fun h k => ps h k plain first) (fun h k => S h k plain first) : Tr nWS.Out).eval := by kernel_rfl
theorem tWO (E : Ef) (pe : Pe) (O : List Int → List Int → List Int → Rs) (po : List Int → List Int → List Int → Bool) (key : List Int) (s : ByteArray) (b : List Int) :
  (fnP Try.prog (ctx (cWO E pe O po)) L0 nWO Try.f92 (key, s, ((), ()), ()) (b, ())).eval = (TW E pe key s (fun r => (r, ())) (fun h k => po h k b) (fun h k => O h k b) : Tr nWO.Out).eval := by kernel_rfl
def cSe (W : List Int → ByteArray → List Int → List Int → Rs) (pw : List Int → ByteArray → List Int → List Int → Bool) : List (Nat × CSpec) := [(92, .pos nWS (fun xs hs => pw xs.1 xs.2.1 hs.1 hs.2.1) fun xs hs => (W xs.1 xs.2.1 hs.1 hs.2.1, ()))]
abbrev nSe : PSpec := ⟨[w16, .str, w16, bs], [bt, i64], [], [], []⟩
theorem tSe (W : List Int → ByteArray → List Int → List Int → Rs) (pw : List Int → ByteArray → List Int → List Int → Bool) (key : List Int) (s : ByteArray) (first plain : List Int) :
  (fnP Try.prog (ctx (cSe W pw)) L0 nSe Try.f81 (key, s, first, plain, ()) ()).eval = (.chk (pw key s plain first) (.ret (W key s plain first, ())) : Tr nSe.Out).eval := by kernel_rfl
def cOp (W : List Int → ByteArray → List Int → Rs) (pw : List Int → ByteArray → List Int → Bool) : List (Nat × CSpec) := [(92, .pos nWO (fun xs hs => pw xs.1 xs.2.1 hs.1) fun xs hs => (W xs.1 xs.2.1 hs.1, ()))]
abbrev nOp : PSpec := ⟨[w16, .str, bs], [bt, i64], [], [], []⟩
theorem tOp (W : List Int → ByteArray → List Int → Rs) (pw : List Int → ByteArray → List Int → Bool) (key : List Int) (s : ByteArray) (b : List Int) :
  (fnP Try.prog (ctx (cOp W pw)) L0 nOp Try.f63 (key, s, b, ()) ()).eval = (.chk (pw key s b) (.ret (W key s b, ())) : Tr nOp.Out).eval := by kernel_rfl
end Go.Proofs.Ytpafadpfpfgfjaa.Seal
end

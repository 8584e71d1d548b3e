/- Values and entries under other names: one machine for what a called function is given, and for what it leaves. Nothing here is about one program. -/
import Derived.Test.YtodjkocikflmnaaE35
set_option linter.unusedVariables false
namespace Vse
open Go Go.ChangeShapes

/-- other names: which entries have one ('p'), their growth ('cur'), their name ('to'), a name's growth ('gT'); what lent own slices hold -/
structure Rn where
  p : Nat → Bool
  cur : Nat → Nat
  to : Nat → Nat
  gT : Nat → Nat
  lent : Nat → Entry

def noE (_ : Nat) : Bool := false

/-- a value, under other names, as a wanted type -/
def conv (R : Rn) : (W : Ty) → (T : Ty) → T.den → Option W.den
  | .prod a b, T, x => match T, x with
    | .prod c d, x => match conv R a c x.1 with
      | some y => match conv R b d x.2 with
        | some z => some (y, z)
        | none => none
      | none => none
    | _, _ => none
  | .vc t K, T, _ => match T with
    | .vc e g => if R.p e && decide (g = R.cur e) && decide (R.to e = t) && decide (R.gT t = K) then some () else none
    | _ => none
  | .ptr t p, T, x => match T, x with
    | .ptr e q, x => if R.p e && decide (R.to e = t) then (if h : q = p then some (h ▸ x) else none) else none
    | _, _ => none
  | .imm p f a, T, x => match T, x with
    | .nils, _ => if f then none else some []
    | .vc e g, _ => match p, f with
      | false, false => match R.lent e with
        | .vec k b l => if k = g && b.inn noE false then castL ⟨b, l⟩ a else none
        | _ => none
      | _, _ => none
    | .imm p' f' b, l => if (p' || !p) && (f' || !f) && b.inn noE false then castL ⟨b, l⟩ a else none
    | _, _ => none
  | .fn k c, T, x => match T, x with
    | .fn k' d, x => if k = k' then conv R c d x else none
    | _, _ => none
  | W, T, x => if T.inn noE false then castT ⟨T, x⟩ W else none

structure CRel (R : Rn) (g g' : G) : Prop where
  fr : ∀ b o, g.fr b = some o → g'.fr b = some o
  gr : ∀ b o, g.gr b = some o → g'.gr b = some o
  bl : ∀ e, R.p e = true → g'.bl (R.to e) = g.bl e
  sz : ∀ e, R.p e = true → g'.sz (R.to e) = g.sz e
  sh : ∀ e, R.p e = true → match g.sh e with
    | .vec k s n => k = R.cur e ∧ g'.sh (R.to e) = .vec (R.gT (R.to e)) s n
    | .box s => g'.sh (R.to e) = .box s
    | .dead => g'.sh (R.to e) = .dead
    | .free => True
  lent : ∀ e k a l, R.lent e = .vec k a l → a.inn noE false = true → ∀ cs, Rep g (.vc e k) () cs → Rep g' (.imm false false a) l cs

theorem CRel.agree {R : Rn} {g g' : G} (h : CRel R g g') : g.agree noE false g' := ⟨h.fr, fun _ => h.gr, fun e he => by cases he⟩

theorem castL_some {y : (a : Ty) × List a.den} {a : Ty} {l : List a.den} (h : castL y a = some l) : y = ⟨a, l⟩ := by
  obtain ⟨b, m⟩ := y
  unfold castL at h
  split at h
  · rename_i he
    simp only at he
    subst he
    simp only [Option.some.injEq] at h
    subst h
    rfl
  · cases h

theorem conv_sk {R : Rn} : ∀ (W T : Ty) (x : T.den) (y : W.den), conv R W T x = some y → W.sk = T.sk := by
  intro W
  have dflt : ∀ {W T : Ty} {x : T.den} {y : W.den}, (if T.inn noE false then castT ⟨T, x⟩ W else none) = some y → W.sk = T.sk := by
    intro W T x y h
    split at h
    · have := castT_spec h
      simp only [TV.mk.injEq] at this
      rw [this.1]
    · cases h
  induction W with
  | prod a b iha ihb =>
    intro T x y h
    cases T <;> simp only [conv] at h <;> try (cases h; done)
    split at h
    · rename_i y1 h1
      split at h
      · rename_i y2 h2
        simp only [Ty.sk]
        rw [iha _ _ _ h1, ihb _ _ _ h2]
      · cases h
    · cases h
  | vc t K => intro T x y h; cases T <;> simp only [conv] at h <;> first | (cases h; done) | rfl
  | ptr t p => intro T x y h; cases T <;> simp only [conv] at h <;> first | (cases h; done) | rfl
  | imm p f a => intro T x y h; cases T <;> simp only [conv] at h <;> first | (cases h; done) | rfl
  | fn k c => intro T x y h; cases T <;> simp only [conv] at h <;> first | (cases h; done) | rfl
  | _ => intro T x y h; exact dflt h

theorem conv_agg {R : Rn} {W T : Ty} {x : T.den} {y : W.den} (h : conv R W T x = some y) : W.agg = T.agg := by
  unfold Ty.agg
  rw [conv_sk W T x y h]

theorem conv_Rep {R : Rn} {g g' : G} (hc : CRel R g g') : ∀ (W T : Ty) (x : T.den) (y : W.den) (cs : List Value), conv R W T x = some y → (Rep g T x cs → Rep g' W y cs) ∧ (Rep.RepC g T x cs → Rep.RepC g' W y cs) := by
  intro W
  have dflt : ∀ {W T : Ty} {x : T.den} {y : W.den} (cs : List Value), (if T.inn noE false then castT ⟨T, x⟩ W else none) = some y → (Rep g T x cs → Rep g' W y cs) ∧ (Rep.RepC g T x cs → Rep.RepC g' W y cs) := by
    intro W T x y cs h
    split at h
    · rename_i hi
      have := castT_spec h
      simp only [TV.mk.injEq] at this
      obtain ⟨rfl, h2⟩ := this
      have h2 := eq_of_heq h2
      subst h2
      exact inn_Rep hc.agree T x cs hi
    · cases h
  induction W with
  | prod a b iha ihb =>
    intro T x y cs h
    cases T <;> simp only [conv] at h <;> try (cases h; done)
    rename_i c d
    split at h
    · rename_i y1 h1
      split at h
      · rename_i y2 h2
        simp only [Option.some.injEq] at h
        subst h
        constructor
        · rintro ⟨c1, c2, rfl, r1, r2⟩
          exact ⟨c1, c2, rfl, (iha _ _ _ _ h1).1 r1, (ihb _ _ _ _ h2).1 r2⟩
        · rintro ⟨v, r, rfl, r1, r2⟩
          refine ⟨v, r, rfl, ?_, (ihb _ _ _ _ h2).2 r2⟩
          rw [conv_agg h1]
          split at r1
          · rw [if_pos (by assumption)]
            obtain ⟨q, q1, q2⟩ := r1
            exact ⟨q, q1, (iha _ _ _ _ h1).1 q2⟩
          · rw [if_neg (by assumption)]
            exact (iha _ _ _ _ h1).1 r1
      · cases h
    · cases h
  | vc t K =>
    intro T x y cs h
    cases T <;> simp only [conv] at h <;> try (cases h; done)
    rename_i e k
    split at h
    · rename_i hh
      simp only [Bool.and_eq_true, decide_eq_true_eq] at hh
      obtain ⟨⟨⟨hp, hk⟩, ht⟩, hK⟩ := hh
      subst ht
      subst hK
      subst hk
      refine ⟨?_, fun hr => by simp [Rep.RepC] at hr⟩
      rintro ⟨h1, h2⟩
      refine ⟨h1, ?_⟩
      have hs := hc.sh e hp
      unfold G.vcr at h2 ⊢
      rw [hc.bl e hp, hc.sz e hp]
      cases he : g.sh e with
      | free => rw [he] at h2; exact h2.elim
      | dead => rw [he] at hs; simp only at hs; rw [hs]; trivial
      | box s => rw [he] at h2; exact h2.elim
      | vec k s n =>
        rw [he] at hs h2
        simp only at hs h2
        rw [hs.2]
        simp only
        exact ⟨Nat.le_refl _, fun _ => h2.2 hs.1.symm⟩
    · cases h
  | ptr t p =>
    intro T x y cs h
    cases T <;> simp only [conv] at h <;> try (cases h; done)
    rename_i e q
    split at h
    · rename_i hh
      simp only [Bool.and_eq_true, decide_eq_true_eq] at hh
      obtain ⟨hp, ht⟩ := hh
      subst ht
      split at h
      · rename_i hq
        subst hq
        simp only [Option.some.injEq] at h
        subst h
        refine ⟨?_, fun hr => by simp [Rep.RepC] at hr⟩
        rintro ⟨h1, h2⟩
        refine ⟨h1, ?_⟩
        have hs := hc.sh e hp
        unfold G.bxr at h2 ⊢
        rw [hc.bl e hp]
        cases he : g.sh e with
        | free => rw [he] at h2; exact h2.elim
        | dead => rw [he] at hs; simp only at hs; rw [hs]; trivial
        | vec k s n => rw [he] at h2; exact h2.elim
        | box s =>
          rw [he] at hs h2
          simp only at hs h2
          rw [hs]
          exact h2
      · cases h
    · cases h
  | imm p f a ih =>
    intro T x y cs h
    cases T <;> simp only [conv] at h <;> try (cases h; done)
    · rename_i p' f' b
      split at h
      · rename_i hh
        simp only [Bool.and_eq_true, Bool.or_eq_true, Bool.not_eq_true'] at hh
        obtain ⟨⟨hp, hf⟩, hb⟩ := hh
        have := castL_some h
        simp only [Sigma.mk.injEq] at this
        obtain ⟨rfl, h2⟩ := this
        have h2 := eq_of_heq h2
        subst h2
        refine ⟨?_, fun hr => by simp [Rep.RepC] at hr⟩
        rintro ⟨pv, cap, h1, h2, h3, h4⟩
        refine ⟨pv, cap, h1, h2, fun hx => h3 (hf.resolve_right (by simp [hx])), fun hne => ?_⟩
        obtain ⟨ad, vs, a1, a2, a3⟩ := h4 hne
        refine ⟨ad, vs, a1, repL_mono (fun z _ cs => (inn_Rep hc.agree b z cs hb).1) a2, ?_⟩
        rcases a3 with a3 | ⟨a3, a4⟩
        · exact .inl (reads_mono hc.fr a3)
        · exact .inr ⟨hp.resolve_left (by simp [a3]), reads_mono hc.gr a4⟩
      · cases h
    · split at h
      · cases h
      · rename_i hf
        simp only [Option.some.injEq] at h
        subst h
        refine ⟨?_, fun hr => by simp [Rep.RepC] at hr⟩
        intro hr
        simp only [Rep] at hr
        subst hr
        exact ⟨none, 0, rfl, by simp, by simp [hf], fun h => absurd rfl h⟩
    · rename_i e k
      refine ⟨?_, fun hr => by simp [Rep.RepC] at hr⟩
      intro hr
      split at h
      · split at h
        · rename_i k' b l hl
          split at h
          · rename_i hk
            simp only [Bool.and_eq_true, decide_eq_true_eq] at hk
            obtain ⟨rfl, hb⟩ := hk
            have := castL_some h
            simp only [Sigma.mk.injEq] at this
            obtain ⟨rfl, h2⟩ := this
            have h2 := eq_of_heq h2
            subst h2
            exact hc.lent e _ _ _ hl hb cs hr
          · cases h
        · cases h
      · cases h
  | fn k c ih =>
    intro T x y cs h
    cases T <;> simp only [conv] at h <;> try (cases h; done)
    rename_i k' d
    split at h
    · rename_i hk
      subst hk
      refine ⟨?_, fun hr => by simp [Rep.RepC] at hr⟩
      rintro ⟨vs, h1, h2⟩
      exact ⟨vs, h1, (ih _ _ _ _ h).2 h2⟩
    · cases h
  | _ => intro T x y cs h; exact dflt cs h

theorem conv_TRep {R : Rn} {g g' : G} (hc : CRel R g g') {W T : Ty} {x : T.den} {y : W.den} {v : Value} (h : conv R W T x = some y) (hr : TRep g T x v) : TRep g' W y v := by
  unfold TRep at hr ⊢
  rw [conv_agg h]
  split
  · rw [if_pos (by assumption)] at hr; obtain ⟨cs, h1, h2⟩ := hr; exact ⟨cs, h1, (conv_Rep hc _ _ _ _ _ h).1 h2⟩
  · rw [if_neg (by assumption)] at hr; exact (conv_Rep hc _ _ _ _ _ h).1 hr

theorem conv_und {R : Rn} {W T : Ty} {x : T.den} {y : W.den} (h : conv R W T x = some y) (hT : T = .und) : W = .und := by
  subst hT
  cases W <;> simp only [conv] at h <;> try (cases h; done)
  all_goals
    split at h
    · have := castT_spec h
      simp only [TV.mk.injEq] at this
      first | rfl | (cases this.1)
    · cases h

theorem conv_VRep {R : Rn} {g g' : G} (hc : CRel R g g') {W T : Ty} {x : T.den} {y : W.den} {v : Value} (h : conv R W T x = some y) (hr : VRep g (.v T x) v) : VRep g' (.v W y) v := by
  by_cases hT : T = .und
  · have := conv_und h hT
    subst this
    trivial
  · by_cases hW : W = .und
    · subst hW; trivial
    · exact (VRep_v hW).2 (conv_TRep hc h ((VRep_v hT).1 hr))

/-! entries -/

/-- an entry under its other name -/
def EC (R : Rn) : Entry → Entry → Prop
  | .box T x, .box W y => conv R W T x = some y
  | .vec _ a l, .vec _ b m => (⟨a, l⟩ : (a : Ty) × List a.den) = ⟨b, m⟩ ∧ a.inn noE false = true
  | .dead, .dead => True
  | _, _ => False

def G.rn (g : G) (from_ : Nat → Nat) (H' : Heap) : G := { g with
  sh := fun t => shp (getE H' t)
  bl := fun t => g.bl (from_ t)
  sz := fun t => g.sz (from_ t) }

theorem conv_inv {g : G} {H H' : Heap} {w : World} (hI : HInv g H w) {R : Rn} {q : Nat → Bool} {from_ : Nat → Nat}
    (h1 : ∀ e, R.p e = true → q (R.to e) = true ∧ from_ (R.to e) = e) (h2 : ∀ t, q t = true → R.p (from_ t) = true ∧ R.to (from_ t) = t)
    (hcur : ∀ e k a l, R.p e = true → getE H e = .vec k a l → k = R.cur e) (hgT : ∀ t K a l, q t = true → getE H' t = .vec K a l → R.gT t = K)
    (hE : ∀ t, q t = true → EC R (getE H (from_ t)) (getE H' t)) (hd : ∀ t, q t = false → (getE H' t).live = false) (hl : ∀ e, (R.lent e).live = false) :
    HInv (g.rn from_ H') H' w ∧ CRel R g (g.rn from_ H') := by
  have hrel : CRel R g (g.rn from_ H') := by
    refine ⟨fun _ _ h => h, fun _ _ h => h, fun e he => ?_, fun e he => ?_, fun e he => ?_, fun e k a l hle => ?_⟩
    · show g.bl (from_ (R.to e)) = _
      rw [(h1 e he).2]
    · show g.sz (from_ (R.to e)) = _
      rw [(h1 e he).2]
    · obtain ⟨hq, hf⟩ := h1 e he
      have hec := hE _ hq
      rw [hf] at hec
      rw [hI.sh e]
      show match shp (getE H e) with
        | .vec k s n => k = R.cur e ∧ shp (getE H' (R.to e)) = .vec (R.gT (R.to e)) s n
        | .box s => shp (getE H' (R.to e)) = .box s
        | .dead => shp (getE H' (R.to e)) = .dead
        | .free => True
      cases hs : getE H e with
      | free => trivial
      | dead =>
        rw [hs] at hec
        cases ht : getE H' (R.to e) <;> rw [ht] at hec <;> first | rfl | (exact hec.elim)
      | box T x =>
        rw [hs] at hec
        cases ht : getE H' (R.to e) <;> rw [ht] at hec <;> try (exact hec.elim)
        simp only [shp]
        rw [conv_sk _ _ _ _ hec]
      | vec k a l =>
        rw [hs] at hec
        cases ht : getE H' (R.to e) <;> rw [ht] at hec <;> try (exact hec.elim)
        obtain ⟨hec, _⟩ := hec
        simp only [Sigma.mk.injEq] at hec
        obtain ⟨rfl, hll⟩ := hec
        have hll := eq_of_heq hll
        subst hll
        simp only [shp]
        exact ⟨hcur e _ _ _ he hs, by rw [hgT _ _ _ _ hq ht]⟩
    · have := hl e
      rw [hle] at this
      cases this
  have hlive : ∀ t, (getE H' t).live = true → q t = true ∧ (getE H (from_ t)).live = true := by
    intro t ht
    cases hq : q t with
    | false => rw [hd t hq] at ht; cases ht
    | true =>
      refine ⟨rfl, ?_⟩
      have := hE t hq
      cases hs : getE H (from_ t) <;> cases ht' : getE H' t <;> rw [hs, ht'] at this <;> first | rfl | (exact this.elim) | (rw [ht'] at ht; cases ht)
  refine ⟨⟨fun e => rfl, hI.fr, hI.gr, ?_, ?_, hI.sep, ?_, hI.ext⟩, hrel⟩
  · intro t
    cases hq : q t with
    | false =>
      have := hd t hq
      cases ht : getE H' t <;> rw [ht] at this <;> first | trivial | (cases this)
    | true =>
      have hec := hE t hq
      have he := hI.ent (from_ t)
      cases ht : getE H' t with
      | free => trivial
      | dead => trivial
      | box W y =>
        rw [ht] at hec
        cases hs : getE H (from_ t) <;> rw [hs] at hec he <;> try (exact hec.elim)
        obtain ⟨b, cs, tt, fz, w1, w2, w3, w4⟩ := he
        exact ⟨b, cs, tt, fz, w1, w2, w3, (conv_Rep hrel _ _ _ _ _ hec).1 w4⟩
      | vec k a l =>
        rw [ht] at hec
        cases hs : getE H (from_ t) <;> rw [hs] at hec he <;> try (exact hec.elim)
        obtain ⟨hec, hin⟩ := hec
        simp only [Sigma.mk.injEq] at hec
        obtain ⟨rfl, hll⟩ := hec
        have hll := eq_of_heq hll
        subst hll
        rcases he with ⟨q1, q2⟩ | ⟨b', cs, tt, fz, vs, r, q1, q2, q3, q4, q5, q6, q7⟩
        · exact .inl ⟨q1, q2⟩
        · exact .inr ⟨b', cs, tt, fz, vs, r, q1, q2, q3, q4, q5, repL_mono (fun y _ cs => (inn_Rep hrel.agree _ y cs hin).1) q6, q7⟩
  · intro t b hl' hb
    exact hI.own _ b (hlive t hl').2 hb
  · intro t t' b hl1 hl2 hb1 hb2
    obtain ⟨q1, q2⟩ := hlive t hl1
    obtain ⟨q3, q4⟩ := hlive t' hl2
    have := hI.dis _ _ b q2 q4 hb1 hb2
    rw [← (h2 t q1).2, ← (h2 t' q3).2, this]

end Vse

/- Loops in which own slices grow. Nothing here is about one program. -/
import Derived.Test.YtodjkocikflmnaaE30
set_option linter.unusedVariables false
namespace Vse
open Go

/-! an entry's growths counted anew -/

def Ty.off (e : Nat) : Ty → Bool
  | .prod a b => a.off e && b.off e
  | .arr _ a => a.off e
  | .imm _ _ a => a.off e
  | .ip _ a => a.off e
  | .fn _ c => c.off e
  | .vc i _ | .sv i _ | .vp i _ _ | .sub i _ | .ptr i _ => decide (i ≠ e)
  | _ => true

structure G.bar (e : Nat) (g g' : G) : Prop where
  fr : g'.fr = g.fr
  gr : g'.gr = g.gr
  ext : g'.ext = g.ext
  bl : g'.bl = g.bl
  sz : g'.sz = g.sz
  sh : ∀ i, i ≠ e → g'.sh i = g.sh i

theorem off_Rep {e : Nat} {g g' : G} (h : g.bar e g') : ∀ (T : Ty) (x : T.den) (cs : List Value), T.off e = true → (Rep g T x cs → Rep g' T x cs) ∧ (Rep.RepC g T x cs → Rep.RepC g' T x cs) := by
  intro T
  induction T with
  | bool | int | str | und | nils | nilp | nilm | nilf | nili | mp | it | ch => intro x cs _; exact ⟨fun hr => hr, fun hr => by simp [Rep.RepC] at hr⟩
  | unit => intro x cs _; exact ⟨fun hr => hr, fun hr => hr⟩
  | prod a b iha ihb =>
    intro x cs hs
    simp only [Ty.off, Bool.and_eq_true] at hs
    constructor
    · rintro ⟨c1, c2, rfl, h1, h2⟩
      exact ⟨c1, c2, rfl, (iha _ _ hs.1).1 h1, (ihb _ _ hs.2).1 h2⟩
    · rintro ⟨v, r, rfl, h1, h2⟩
      refine ⟨v, r, rfl, ?_, (ihb _ _ hs.2).2 h2⟩
      split at h1
      · obtain ⟨cs, hv, hr⟩ := h1; rw [if_pos (by assumption)]; exact ⟨cs, hv, (iha _ _ hs.1).1 hr⟩
      · rw [if_neg (by assumption)]; exact (iha _ _ hs.1).1 h1
  | arr k a iha =>
    intro x cs hs
    exact ⟨fun hr => ⟨hr.1, repL_mono (fun y _ cs => (iha y cs hs).1) hr.2⟩, fun hr => by simp [Rep.RepC] at hr⟩
  | imm q f a iha =>
    intro x cs hs
    refine ⟨?_, fun hr => by simp [Rep.RepC] at hr⟩
    rintro ⟨pv, cap, h1, h2, h3, h4⟩
    refine ⟨pv, cap, h1, h2, h3, fun hne => ?_⟩
    obtain ⟨ad, vs, a1, a2, a3⟩ := h4 hne
    refine ⟨ad, vs, a1, repL_mono (fun y _ cs => (iha y cs hs).1) a2, ?_⟩
    rw [h.fr, h.gr]; exact a3
  | ip q a iha =>
    intro x cs hs
    refine ⟨?_, fun hr => by simp [Rep.RepC] at hr⟩
    rintro ⟨ad, vs, h1, h2, h3⟩
    refine ⟨ad, vs, h1, (iha _ _ hs).1 h2, ?_⟩
    rw [h.fr, h.gr]; exact h3
  | vc i gn =>
    intro x cs hs
    simp only [Ty.off, decide_eq_true_eq] at hs
    exact ⟨fun hr => by simpa only [Rep, G.vcr, h.sh i hs, h.bl, h.sz] using hr, fun hr => by simp [Rep.RepC] at hr⟩
  | sv i gn =>
    intro x cs hs
    simp only [Ty.off, decide_eq_true_eq] at hs
    exact ⟨fun hr => by simpa only [Rep, G.vcr, h.sh i hs, h.bl, h.sz] using hr, fun hr => by simp [Rep.RepC] at hr⟩
  | vp i gn p =>
    intro x cs hs
    simp only [Ty.off, decide_eq_true_eq] at hs
    exact ⟨fun hr => by simpa only [Rep, G.vcr, h.sh i hs, h.bl, h.sz] using hr, fun hr => by simp [Rep.RepC] at hr⟩
  | sub i p =>
    intro x cs hs
    simp only [Ty.off, decide_eq_true_eq] at hs
    exact ⟨fun hr => by simpa only [Rep, G.bxr, h.sh i hs, h.bl, h.sz] using hr, fun hr => by simp [Rep.RepC] at hr⟩
  | ptr i p =>
    intro x cs hs
    simp only [Ty.off, decide_eq_true_eq] at hs
    exact ⟨fun hr => by simpa only [Rep, G.bxr, h.sh i hs, h.bl, h.sz] using hr, fun hr => by simp [Rep.RepC] at hr⟩
  | fn f c ihc =>
    intro x cs hs
    refine ⟨?_, fun hr => by simp [Rep.RepC] at hr⟩
    rintro ⟨vs, h1, h2⟩
    exact ⟨vs, h1, (ihc _ _ hs).2 h2⟩

theorem off_TRep {e : Nat} {g g' : G} (h : g.bar e g') {T : Ty} {x : T.den} {v : Value} (hs : T.off e = true) (hr : TRep g T x v) : TRep g' T x v := by
  unfold TRep at hr ⊢
  split
  · rw [if_pos (by assumption)] at hr; obtain ⟨cs, h1, h2⟩ := hr; exact ⟨cs, h1, (off_Rep h _ _ _ hs).1 h2⟩
  · rw [if_neg (by assumption)] at hr; exact (off_Rep h _ _ _ hs).1 hr

theorem off_tup {e : Nat} {g g' : G} (h : g.bar e g') : ∀ {l : List TV} {vs : List Value}, (l.all fun t => t.T.off e) = true → tupRep g l vs → tupRep g' l vs
  | [], _, _, hr => hr
  | t :: ts, _, hs, ⟨v, r, h1, h2, h3⟩ => by
    simp only [List.all_cons, Bool.and_eq_true] at hs
    exact ⟨v, r, h1, off_TRep h hs.1 h2, off_tup h hs.2 h3⟩

def relAV (e k K : Nat) : AV → AV
  | .v (.vc i j) x => if i = e then (if j = k then .v (.vc e K) () else AV.und) else .v (.vc i j) x
  | .v T x => if T.off e then .v T x else AV.und
  | .tup l => if l.all fun t => t.T.off e then .tup l else AV.und

def offE (e : Nat) : Entry → Bool
  | .box T _ => T.off e
  | .vec _ a _ => a.off e
  | _ => true

/-- an entry's growths counted from K on -/
def relSt (e K : Nat) (st : St) : Option St :=
  match getE st.heap e with
  | .vec k a l => if st.heap.all (offE e) then some ⟨st.env.map (relAV e k K), setE st.heap e (.vec K a l)⟩ else none
  | _ => none

def relAll : List ETy → Nat → St → Option St
  | [], _, st => some st
  | .vec K _ :: Es, i, st => match relSt i K st with
    | some st' => relAll Es (i + 1) st'
    | none => none
  | _ :: Es, i, st => relAll Es (i + 1) st

theorem getV_map (f : AV → AV) (hf : f AV.none = AV.none) : ∀ (env : List AV) (i : Nat), getV (env.map f) i = f (getV env i)
  | [], _ => hf.symm
  | a :: l, 0 => rfl
  | a :: l, i + 1 => by simpa only [List.map_cons, getV] using getV_map f hf l i

theorem relSt_rep {g g2 : G} {st st' : St} {a : Act} {w : World} {e K : Nat} (hle : g.le g2) (h : SRep g2 st a w) (hs : relSt e K st = some st') (hK : g.sh e = .free ∨ ∃ k0 s n, g.sh e = .vec k0 s n ∧ k0 < K) :
    (∃ g3, g.le g3 ∧ SRep g3 st' a w) ∧ st'.heap.length = st.heap.length := by
  unfold relSt at hs
  split at hs
  · rename_i k b l hE
    split at hs
    · rename_i hoff
      simp only [Option.some.injEq] at hs
      subst hs
      refine ⟨?_, setE_length _ _ _⟩
      have hlive : (getE st.heap e).live = true := by rw [hE]; rfl
      have hlt := lt_of_live hlive
      have hsh : g2.sh e = .vec k b.sk l.length := by rw [h.heap.sh, hE]; rfl
      let g3 : G := { g2 with sh := fun i => if i = e then .vec K b.sk l.length else g2.sh i }
      have hbar : g2.bar e g3 := ⟨rfl, rfl, rfl, rfl, rfl, fun i hi => by simp [g3, hi]⟩
      have h3e : g3.sh e = .vec K b.sk l.length := by simp [g3]
      have hle3 : g.le g3 := by
        refine ⟨hle.fr, hle.gr, hle.ext, fun i => ?_⟩
        by_cases hi : i = e
        · subst hi
          rcases hK with hK | ⟨k0, s, n, hK, hlt⟩
          · exact .new hK
          · exact .grew hK h3e hlt
        · have e1 : g3.sh i = g2.sh i := by simp [g3, hi]
          cases hle.ent i with
          | same a b c => exact .same (e1.trans a) b c
          | dead a => exact .dead (e1.trans a)
          | grew a b c => exact .grew a (e1.trans b) c
          | new a => exact .new a
      have hoffE : ∀ i, offE e (getE st.heap i) = true := getE_all (p := offE e) rfl hoff
      refine ⟨g3, hle3, ⟨?_, ?_, h.defers⟩⟩
      · have henv := h.env
        refine ⟨by rw [List.length_map]; exact henv.1, fun i => ?_⟩
        have hv := henv.2 i
        simp only
        rw [getV_map _ (by simp [relAV, AV.none])]
        generalize getV st.env i = v at hv ⊢
        unfold relAV
        split
        · rename_i i' j x
          split
          · rename_i hi
            subst hi
            split
            · rename_i hj
              subst hj
              have hv := (VRep_v (by simp)).1 hv
              refine (VRep_v (by simp)).2 ?_
              simp only [TRep, Ty.agg, Ty.sk, Sk.agg, Bool.false_eq_true, if_false, Rep, G.vcr, hsh, h3e] at hv ⊢
              obtain ⟨h1, _, h2⟩ := hv
              refine ⟨h1, Nat.le_refl _, fun _ => ?_⟩
              exact h2 trivial
            · trivial
          · rename_i hi
            have hv := (VRep_v (by simp)).1 hv
            refine (VRep_v (by simp)).2 (off_TRep hbar ?_ hv)
            simpa [Ty.off] using hi
        · rename_i T x _
          split
          · rename_i ho
            by_cases hT : T = .und
            · subst hT; trivial
            · exact (VRep_v hT).2 (off_TRep hbar ho ((VRep_v hT).1 hv))
          · trivial
        · rename_i l'
          split
          · rename_i ho
            obtain ⟨vs, h1, h2⟩ := hv
            exact ⟨vs, h1, off_tup hbar ho h2⟩
          · trivial
      · have hI := h.heap
        have hget : ∀ i, getE (setE st.heap e (.vec K b l)) i = if i = e then .vec K b l else getE st.heap i := by
          intro i; rw [getE_setE]; by_cases hi : i = e <;> simp [hi, hlt]
        have hlv : ∀ i, (getE (setE st.heap e (.vec K b l)) i).live = (getE st.heap i).live := by
          intro i; rw [hget]; by_cases hi : i = e
          · rw [if_pos hi, hi, hlive]; rfl
          · rw [if_neg hi]
        refine ⟨?_, hI.fr, hI.gr, ?_, ?_, hI.sep, ?_, hI.ext⟩
        · intro i; simp only; rw [hget]; by_cases hi : i = e
          · subst hi; rw [if_pos rfl, h3e]; rfl
          · rw [if_neg hi, hbar.sh i hi]; exact hI.sh i
        · intro i
          simp only
          rw [hget]
          have ho := hoffE i
          by_cases hi : i = e
          · subst hi
            rw [if_pos rfl]
            rw [hE] at ho
            have he := hI.ent i
            rw [hE] at he
            rcases he with he | ⟨b', cs, t, fz, vs, r, q1, q2, q3, q4, q5, q6, q7⟩
            · exact .inl he
            · exact .inr ⟨b', cs, t, fz, vs, r, q1, q2, q3, q4, q5, repL_mono (fun y _ cs => (off_Rep hbar b y cs ho).1) q6, q7⟩
          · rw [if_neg hi]
            have he := hI.ent i
            cases hEi : getE st.heap i with
            | free => trivial
            | dead => trivial
            | box T x =>
              rw [hEi] at he ho
              obtain ⟨b', cs, t, fz, q1, q2, q3, q4⟩ := he
              exact ⟨b', cs, t, fz, q1, q2, q3, (off_Rep hbar _ _ _ ho).1 q4⟩
            | vec k2 a2 l2 =>
              rw [hEi] at he ho
              rcases he with he | ⟨b', cs, t, fz, vs, r, q1, q2, q3, q4, q5, q6, q7⟩
              · exact .inl he
              · exact .inr ⟨b', cs, t, fz, vs, r, q1, q2, q3, q4, q5, repL_mono (fun y _ cs => (off_Rep hbar a2 y cs ho).1) q6, q7⟩
        · intro i b' hl hb
          simp only at hl
          rw [hlv] at hl
          exact hI.own i b' hl hb
        · intro i j b' hl hl' hb hb'
          simp only at hl hl'
          rw [hlv] at hl hl'
          exact hI.dis i j b' hl hl' hb hb'
    · cases hs
  · cases hs

/-- which entries grow, and from what -/
def Lower (g : G) (Es : List ETy) (i : Nat) : Prop := ∀ j K a, Es[j]? = some (.vec K a) → g.sh (i + j) = .free ∨ ∃ k0 s n, g.sh (i + j) = .vec k0 s n ∧ k0 < K

theorem relAll_rep {g : G} {a : Act} {w : World} : ∀ {Es : List ETy} {i : Nat} {g2 : G} {st st' : St}, g.le g2 → SRep g2 st a w → relAll Es i st = some st' → Lower g Es i → ∃ g3, g.le g3 ∧ SRep g3 st' a w
  | [], i, g2, st, st', hle, h, hs, hK => by
    simp only [relAll, Option.some.injEq] at hs
    subst hs
    exact ⟨g2, hle, h⟩
  | E :: Es, i, g2, st, st', hle, h, hs, hK => by
    have hK' : Lower g Es (i + 1) := fun j K a hj => by
      have := hK (j + 1) K a (by simpa using hj)
      rwa [show i + (j + 1) = i + 1 + j by omega] at this
    cases E with
    | vec K b =>
      simp only [relAll] at hs
      split at hs
      · rename_i st1 h1
        obtain ⟨⟨g3, q1, q2⟩, _⟩ := relSt_rep hle h h1 (by simpa using hK 0 K b (by simp))
        exact relAll_rep q1 q2 hs hK'
      · cases hs
    | _ => simp only [relAll] at hs; exact relAll_rep hle h hs hK'

/-! slices that are nil as the loop begins -/

def addIni : List Nat → List ETy → St → Option St
  | [], [], st => some st
  | s :: ss, .vec K a :: Es, st => if isNils (getV st.env s) then addIni ss Es ⟨setV st.env s (.v (.vc st.heap.length K) ()), st.heap ++ [.vec K a []]⟩ else none
  | _, _, _ => none

theorem setE_append_one (H : Heap) (E : Entry) : setE (H ++ frees 1) H.length E = H ++ [E] := by
  induction H with
  | nil => rfl
  | cons x H ih => simp only [List.cons_append, List.length_cons, setE]; rw [ih]

theorem getE_append_one (H : Heap) : getE (H ++ frees 1) H.length = .free := by
  rw [getE_append_frees]
  exact getE_past _ (Nat.le_refl _)

theorem addIni_rep {a : Act} {w : World} : ∀ {ss : List Nat} {Es : List ETy} {g : G} {st st' : St}, SRep g st a w → addIni ss Es st = some st' → ∃ g', g.le g' ∧ SRep g' st' a w
  | [], [], g, st, st', h, hs => by
    simp only [addIni, Option.some.injEq] at hs
    subst hs
    exact ⟨g, G.le.refl g, h⟩
  | [], _ :: _, g, st, st', h, hs => by simp [addIni] at hs
  | s :: ss, [], g, st, st', h, hs => by simp [addIni] at hs
  | s :: ss, E :: Es, g, st, st', h, hs => by
    cases E with
    | vec K b =>
      simp only [addIni] at hs
      split at hs
      · rename_i hn
        have hw : HInv g (st.heap ++ frees 1) w := h.heap.widen 1
        obtain ⟨g1, q1, q2, q3, q4⟩ := hw.nilVec (e := st.heap.length) (k := K) (a := b) (by simp [frees]) (.inl (getE_append_one _))
        rw [setE_append_one] at q2
        have henv : EnvRep g1 (setV st.env s (.v (.vc st.heap.length K) ())) a := by
          have h0 := h.env.mono q1
          refine ⟨by rw [setV_length]; exact h0.1, fun i => ?_⟩
          rw [getV_setV]
          by_cases hi : i = s ∧ s < st.env.length
          · rw [if_pos hi]
            have hv := h.env.2 i
            rw [hi.1] at hv ⊢
            unfold isNils at hn
            split at hn
            · rename_i u hu
              rw [hu] at hv
              have hv := (VRep_v (by simp)).1 hv
              simp only [TRep, Ty.agg, Ty.sk, Sk.agg, Bool.false_eq_true, if_false, Rep, List.cons.injEq, and_true] at hv
              rw [hv]
              exact vc_rep_nil q3 q4
            · cases hn
          · rw [if_neg hi]; exact h0.2 i
        obtain ⟨g2, w1, w2⟩ := addIni_rep (ss := ss) (Es := Es) (g := g1) (st := ⟨_, _⟩) ⟨henv, q2, h.defers⟩ hs
        exact ⟨g2, q1.trans w1, w2⟩
      · cases hs
    | _ => simp [addIni] at hs

/-! summaries of such loops -/

structure VSpec extends LSpec where
  ini : List Nat

def gensOk : List ETy → Nat → Heap → Bool
  | [], _, _ => true
  | .vec K _ :: Es, i, H => (match getE H i with
    | .vec k _ _ => decide (k < K)
    | .free => decide (H.length ≤ i)
    | _ => false) && gensOk Es (i + 1) H
  | _ :: Es, i, H => gensOk Es (i + 1) H

theorem gensOk_lower {g : G} {H : Heap} (hsh : ∀ e, g.sh e = shp (getE H e)) : ∀ {Es : List ETy} {i : Nat}, gensOk Es i H = true → Lower g Es i
  | [], i, _ => fun j K a hj => by simp at hj
  | E :: Es, i, h => by
    have tl : ∀ h', gensOk Es (i + 1) H = h' → h' = true → ∀ j K a, (E :: Es)[j + 1]? = some (.vec K a) → g.sh (i + (j + 1)) = .free ∨ ∃ k0 s n, g.sh (i + (j + 1)) = .vec k0 s n ∧ k0 < K := by
      rintro h' rfl h2 j K a hj
      have := gensOk_lower hsh h2 j K a (by simpa using hj)
      rwa [show i + (j + 1) = i + 1 + j by omega]
    cases E with
    | vec K0 b =>
      simp only [gensOk, Bool.and_eq_true] at h
      intro j K a hj
      cases j with
      | zero =>
        simp only [List.getElem?_cons_zero, Option.some.injEq, ETy.vec.injEq] at hj
        obtain ⟨rfl, _⟩ := hj
        have h1 := h.1
        rw [Nat.add_zero, hsh i]
        split at h1
        · rename_i k a' l hE
          rw [hE]
          exact .inr ⟨k, _, _, rfl, by simpa using h1⟩
        · rename_i hE; rw [hE]; exact .inl rfl
        · cases h1
      | succ j => exact tl _ rfl h.2 j K a hj
    | _ =>
      simp only [gensOk] at h
      intro j K a hj
      cases j with
      | zero => simp at hj
      | succ j => exact tl _ rfl h j K a hj

/-- a value seen as a wanted type, where it is one -/
def weak1 (T : Ty) (v : AV) : AV :=
  match T with
  | .imm q g a => match v with
    | .v (.imm p f b) x => if (q && !p) || (g && !f) then .v (.imm p f b) x else .v (.imm q g b) x
    | .v .nils u => if g then .v .nils u else .v (.imm q g a) []
    | v => v
  | _ => v

def weakE : List Nat → List Ty → Nat → List AV → List AV
  | k :: ks, T :: Ts, i, a :: l => if k = i then weak1 T a :: weakE ks Ts (i + 1) l else a :: weakE (k :: ks) (T :: Ts) (i + 1) l
  | _, _, _, l => l

theorem weak1_rep {g : G} {T : Ty} {v : AV} {rv : Value} (h : VRep g v rv) : VRep g (weak1 T v) rv := by
  unfold weak1
  split
  · rename_i q gg a
    split
    · rename_i p f b x
      split
      · exact h
      · rename_i hc
        have h := (VRep_v (by simp)).1 h
        refine (VRep_v (by simp)).2 ?_
        simp only [TRep, Ty.agg, Ty.sk, Sk.agg, Bool.false_eq_true, if_false, Rep] at h ⊢
        obtain ⟨pv, cap, h1, h2, h3, h4⟩ := h
        simp only [Bool.or_eq_true, Bool.and_eq_true, Bool.not_eq_true', not_or, not_and, Bool.not_eq_false] at hc
        refine ⟨pv, cap, h1, h2, fun hg => h3 (hc.2 hg), fun hne => ?_⟩
        obtain ⟨ad, vs, q1, q2, q3⟩ := h4 hne
        refine ⟨ad, vs, q1, q2, ?_⟩
        rcases q3 with q3 | ⟨hp, q3⟩
        · exact .inl q3
        · refine .inr ⟨?_, q3⟩
          cases q with
          | false => rfl
          | true => have := hc.1 rfl; rw [hp] at this; cases this
    · split
      · exact h
      · rename_i hg
        have h := (VRep_v (by simp)).1 h
        refine (VRep_v (by simp)).2 ?_
        simp only [TRep, Ty.agg, Ty.sk, Sk.agg, Bool.false_eq_true, if_false, Rep] at h ⊢
        exact ⟨none, 0, h, by simp, fun hg' => absurd hg' hg, by simp⟩
    · exact h
  · exact h

theorem weakE_length : ∀ (ks : List Nat) (Ts : List Ty) (i : Nat) (l : List AV), (weakE ks Ts i l).length = l.length := by
  intro ks Ts i l
  induction l generalizing ks Ts i with
  | nil => cases ks <;> cases Ts <;> rfl
  | cons a l ih =>
    cases ks with
    | nil => cases Ts <;> rfl
    | cons k ks =>
      cases Ts with
      | nil => rfl
      | cons T Ts =>
        simp only [weakE]
        split <;> simp [ih]

theorem weakE_get {g : G} : ∀ (ks : List Nat) (Ts : List Ty) (i : Nat) (l : List AV) (j : Nat) (rv : Value), VRep g (getV l j) rv → VRep g (getV (weakE ks Ts i l) j) rv := by
  intro ks Ts i l
  induction l generalizing ks Ts i with
  | nil => intro j rv h; cases ks <;> cases Ts <;> exact h
  | cons a l ih =>
    intro j rv h
    cases ks with
    | nil => cases Ts <;> exact h
    | cons k ks =>
      cases Ts with
      | nil => exact h
      | cons T Ts =>
        simp only [weakE]
        split
        · cases j with
          | zero => exact weak1_rep h
          | succ j => exact ih ks Ts (i + 1) j rv h
        · cases j with
          | zero => exact h
          | succ j => exact ih (k :: ks) (T :: Ts) (i + 1) j rv h

def weakSt (live : List Nat) (Ts : List Ty) (st : St) : St := ⟨weakE live Ts 0 st.env, st.heap⟩

theorem weakSt_rep {g : G} {st : St} {a : Act} {w : World} (h : SRep g st a w) (live : List Nat) (Ts : List Ty) : SRep g (weakSt live Ts st) a w :=
  ⟨⟨by simp only [weakSt]; rw [weakE_length]; exact h.env.1, fun i => weakE_get live Ts 0 st.env i _ (h.env.2 i)⟩, h.heap, h.defers⟩

/-- a state behind a round, brought into form -/
def VSpec.norm (S : VSpec) (st : St) : Option (HL S.Ts × HD S.Es) :=
  if heapUnder S.Es.length (st.heap.take S.Es.length) then
    match relAll S.Es 0 (cutA S.Es.length st) with
    | some st' => decS S.live S.Ts S.Es S.nt (weakSt S.live S.Ts st')
    | none => none
  else none

/-- a state as the loop begins, brought into form -/
def VSpec.enter (S : VSpec) (st : St) : Option (HL S.Ts × HD S.Es) :=
  if gensOk S.Es 0 st.heap && decide (st.heap.length + S.ini.length = S.Es.length) then
    match addIni S.ini (S.Es.drop st.heap.length) st with
    | some st1 => match relAll (S.Es.take st.heap.length) 0 st1 with
      | some st2 => decS S.live S.Ts S.Es S.nt (weakSt S.live S.Ts st2)
      | none => none
    | none => none
  else none

def VSpec.round (S : VSpec) (body : St → Tr (Ex × St)) (xs : HL S.Ts) (hs : HD S.Es) : Tr S.toLSpec.End :=
  (body (S.enc xs hs)).bind fun r => match r.1 with
    | .normal => match S.norm r.2 with
      | some d => .ret (.inl d)
      | none => .fail
    | x => .ret (.inr (x, keepS S.out r.2))

def VSpec.many (S : VSpec) (body : St → Tr (Ex × St)) : Nat → HL S.Ts → HD S.Es → Option (Ex × St)
  | 0, _, _ => none
  | n + 1, xs, hs => match (S.round body xs hs).eval with
    | some (.inl d) => S.many body n d.1 d.2
    | some (.inr r) => some r
    | none => none

def VSpec.fn (S : VSpec) (F : HL S.Ts → HD S.Es → Tr (Ex × St)) (st : St) : Tr (Ex × St) :=
  match S.enter st with
  | some d => F d.1 d.2
  | none => .fail

section
variable {P : Program} {C : Ctx} {L : Loops}

theorem norm_rep {S : VSpec} {g g2 : G} {st : St} {a : Act} {w : World} {d : HL S.Ts × HD S.Es} (hfree : ∀ e, S.Es.length ≤ e → g.sh e = .free) (hlow : Lower g S.Es 0) (hle : g.le g2) (h : SRep g2 st a w) (hn : S.norm st = some d) :
    ∃ g3, g.le g3 ∧ SRep g3 (S.enc d.1 d.2) a w := by
  unfold VSpec.norm at hn
  split at hn
  · rename_i hc
    obtain ⟨g3, q1, q2⟩ := cutA_rep hfree hle h hc
    split at hn
    · rename_i st' hst
      obtain ⟨g4, w1, w2⟩ := relAll_rep q1 q2 hst hlow
      have hr := keepS_rep (weakSt_rep w2 S.live S.Ts) S.live
      rw [decS_some hn] at hr
      exact ⟨g4, w1, hr⟩
    · cases hn
  · cases hn

theorem enter_rep {S : VSpec} {g : G} {st : St} {a : Act} {w : World} {d : HL S.Ts × HD S.Es} (h : SRep g st a w) (hn : S.enter st = some d) :
    (∃ g3, g.le g3 ∧ SRep g3 (S.enc d.1 d.2) a w) ∧ (∀ e, S.Es.length ≤ e → g.sh e = .free) ∧ Lower g S.Es 0 := by
  unfold VSpec.enter at hn
  split at hn
  · rename_i hc
    simp only [Bool.and_eq_true, decide_eq_true_eq] at hc
    obtain ⟨hc1, hc2⟩ := hc
    have hlow := gensOk_lower h.heap.sh hc1
    refine ⟨?_, free_past h (by omega), hlow⟩
    split at hn
    · rename_i st1 h1
      obtain ⟨g1, q1, q2⟩ := addIni_rep h h1
      split at hn
      · rename_i st2 h2
        have hlow' : Lower g (S.Es.take st.heap.length) 0 := by
          intro j K a hj
          rw [List.getElem?_take] at hj
          split at hj
          · exact hlow j K a hj
          · cases hj
        obtain ⟨g2, w1, w2⟩ := relAll_rep q1 q2 h2 hlow'
        have hr := keepS_rep (weakSt_rep w2 S.live S.Ts) S.live
        rw [decS_some hn] at hr
        exact ⟨g2, w1, hr⟩
      · cases hn
    · cases hn
  · cases hn

theorem vmany_sound (hC : CtxSound P C ∧ CtxLocal C) {c : Code} (hl : LoopsOK P L c) (S : VSpec) {n : Nat} {g g0 : G} {xs : HL S.Ts} {hs : HD S.Es} {st' : St} {a : Act} {w : World} {x : Ex}
    {Q : Exit → Act → World → Prop} (hfree : ∀ e, S.Es.length ≤ e → g.sh e = .free) (hlow : Lower g S.Es 0) (hle0 : g.le g0) (hr : SRep g0 (S.enc xs hs) a w) (he : S.many (bodyK P C L c) n xs hs = some (x, st'))
    (hn : ∀ g' a' w', g.le g' → SRep g' st' a' w' → Q x.out a' w') : (Code.loop c).wp P Q a w := by
  refine wp_loop_ghost (fun m a w => ∃ g1 xs hs, g.le g1 ∧ SRep g1 (S.enc xs hs) a w ∧ S.many (bodyK P C L c) m xs hs = some (x, st')) n ⟨g0, xs, hs, hle0, hr, he⟩ ?_
  rintro m a w ⟨g1, xs, hs, hle, hs1, he1⟩
  cases m with
  | zero => cases he1
  | succ m =>
    simp only [VSpec.many] at he1
    have key : ∀ r, (S.round (bodyK P C L c) xs hs).eval = some r → ∃ y s2, (bodyK P C L c (S.enc xs hs)).eval = some (y, s2) ∧ (match y with
        | .normal => match S.norm s2 with
          | some d => (Tr.ret (.inl d) : Tr S.toLSpec.End)
          | none => .fail
        | x => .ret (.inr (x, keepS S.out s2))).eval = some r := by
      intro r hr
      obtain ⟨⟨y, s2⟩, h1, h2⟩ := Tr.bind_some hr
      exact ⟨y, s2, h1, h2⟩
    split at he1
    · rename_i d hd
      obtain ⟨y, s2, h1, h2⟩ := key _ hd
      refine code_sound hC.1 hC.2 c hl hs1 (bodyK_ok h1) ?_
      intro g2 a' w' hle2 hs2
      cases y with
      | normal =>
        simp only at h2
        split at h2
        · rename_i d' hd'
          have := Tr.ret_some h2
          simp only [Sum.inl.injEq] at this
          subst this
          obtain ⟨g3, q1, q2⟩ := norm_rep hfree hlow (hle.trans hle2) hs2 hd'
          exact ⟨m, Nat.lt_succ_self m, g3, _, _, q1, q2, he1⟩
        · exact (Tr.fail_some h2).elim
      | exit i => have := Tr.ret_some h2; cases this
      | ret => have := Tr.ret_some h2; cases this
    · rename_i r hd
      simp only [Option.some.injEq] at he1
      subst he1
      obtain ⟨y, s2, h1, h2⟩ := key _ hd
      refine code_sound hC.1 hC.2 c hl hs1 (bodyK_ok h1) ?_
      intro g2 a' w' hle2 hs2
      cases y with
      | normal =>
        simp only at h2
        split at h2
        · have := Tr.ret_some h2; cases this
        · exact (Tr.fail_some h2).elim
      | exit i =>
        have := Tr.ret_some h2
        simp only [Sum.inr.injEq, Prod.mk.injEq] at this
        obtain ⟨rfl, rfl⟩ := this
        exact hn _ _ _ (hle.trans hle2) (keepS_rep hs2 S.out)
      | ret =>
        have := Tr.ret_some h2
        simp only [Sum.inr.injEq, Prod.mk.injEq] at this
        obtain ⟨rfl, rfl⟩ := this
        exact hn _ _ _ (hle.trans hle2) (keepS_rep hs2 S.out)
    · cases he1

/-- a loop's summary is right -/
theorem vloop_ok {L' : Loops} (hC : CtxSound P C ∧ CtxLocal C) {c : Code} (hl : LoopsOK P L' c) (S : VSpec) {F : HL S.Ts → HD S.Es → Tr (Ex × St)} {i : Nat}
    (hi : firstReg c = some i) (hL : ∀ st, L i st = S.fn F st) (key : ∀ xs hs r, (F xs hs).eval = some r → ∃ n, S.many (bodyK P C L' c) n xs hs = some r) : LoopOK P L c := by
  intro j hj g st a w x st' Q hs he hn
  rw [hi] at hj
  cases hj
  rw [hL] at he
  unfold VSpec.fn at he
  split at he
  · rename_i d hd
    obtain ⟨n, hm⟩ := key _ _ _ he
    obtain ⟨⟨g3, q1, q2⟩, q3, q4⟩ := enter_rep hs hd
    exact vmany_sound hC hl S q3 q4 q1 q2 hm hn
  · exact (Tr.fail_some he).elim

theorem vmany_inl {S : VSpec} {body : St → Tr (Ex × St)} {xs : HL S.Ts} {hs : HD S.Es} {d : HL S.Ts × HD S.Es} (h : (S.round body xs hs).eval = some (.inl d)) (n : Nat) : S.many body (n + 1) xs hs = S.many body n d.1 d.2 := by
  simp only [VSpec.many, h]

theorem vmany_inr {S : VSpec} {body : St → Tr (Ex × St)} {xs : HL S.Ts} {hs : HD S.Es} {r : Ex × St} (h : (S.round body xs hs).eval = some (.inr r)) (n : Nat) : S.many body (n + 1) xs hs = some r := by
  simp only [VSpec.many, h]

end
end Vse

/- Loops whose states are told under names: rounds, and how they end. Nothing here is about one program. -/
import Derived.Test.YtodjkocikflmnaaE38
set_option linter.unusedVariables false
namespace Vse
open Go Go.ChangeShapes

/-- nil slices that are seen as own ones, where they are nil -/
inductive IniT
  | slot (s : Nat) (a : Ty)
  | fld (b m : Nat) (a : Ty)

def addNilsT : List IniT → St → St
  | [], st => st
  | .slot s a :: l, st => match addIni [s] [.vec 0 a] st with
    | some st' => addNilsT l st'
    | none => addNilsT l st
  | .fld b m a :: l, st => match addIniB b m 0 a st with
    | some st' => addNilsT l st'
    | none => addNilsT l st

theorem addNilsT_rep {a : Act} {w : World} : ∀ {l : List IniT} {g : G} {st : St}, SRep g st a w → ∃ g', g.le g' ∧ SRep g' (addNilsT l st) a w
  | [], g, st, h => ⟨g, G.le.refl g, h⟩
  | .slot s A :: l, g, st, h => by
    simp only [addNilsT]
    split
    · rename_i st' hs
      obtain ⟨g1, q1, q2⟩ := addIni_rep h hs
      obtain ⟨g2, w1, w2⟩ := addNilsT_rep (l := l) q2
      exact ⟨g2, q1.trans w1, w2⟩
    · exact addNilsT_rep h
  | .fld b m A :: l, g, st, h => by
    simp only [addNilsT]
    split
    · rename_i st' hs
      obtain ⟨g1, q1, q2⟩ := addIniB_rep h hs
      obtain ⟨g2, w1, w2⟩ := addNilsT_rep (l := l) q2
      exact ⟨g2, q1.trans w1, w2⟩
    · exact addNilsT_rep h

def unifS : List Nat → List Ty → List AV → List (Nat × Nat)
  | k :: ks, T :: Ts, env => (match getV env k with
    | .v U _ => unifU U T
    | .tup _ => []) ++ unifS ks Ts env
  | _, _, _ => []

def convEnv (R : Rn) : List Nat → List Ty → Nat → List AV → List AV
  | _, _, _, [] => []
  | k :: ks, T :: Ts, i, a :: l => if i = k then (match a with
      | .v U x => match conv R T U x with
        | some y => .v T y
        | none => AV.und
      | .tup _ => AV.und) :: convEnv R ks Ts (i + 1) l else AV.und :: convEnv R (k :: ks) (T :: Ts) (i + 1) l
  | _, _, i, _ :: l => AV.und :: convEnv R [] [] (i + 1) l

theorem convEnv_length (R : Rn) : ∀ (l : List AV) (ks : List Nat) (Ts : List Ty) (i : Nat), (convEnv R ks Ts i l).length = l.length
  | [], ks, Ts, i => by cases ks <;> cases Ts <;> rfl
  | a :: l, ks, Ts, i => by
    cases ks with
    | nil => cases Ts <;> simp [convEnv, convEnv_length R l]
    | cons k ks =>
      cases Ts with
      | nil => simp [convEnv, convEnv_length R l]
      | cons T Ts => simp only [convEnv]; split <;> simp [convEnv_length R l]

theorem convEnv_get {R : Rn} {g g' : G} (hc : CRel R g g') : ∀ (l : List AV) (ks : List Nat) (Ts : List Ty) (i j : Nat) (rv : Value), VRep g (getV l j) rv → VRep g' (getV (convEnv R ks Ts i l) j) rv
  | [], ks, Ts, i, j, rv, h => by
    have h : VRep g AV.none rv := h
    have : getV (convEnv R ks Ts i []) j = AV.none := by cases ks <;> cases Ts <;> rfl
    rw [this]
    obtain ⟨vs, h1, h2⟩ := h
    exact ⟨vs, h1, h2⟩
  | a :: l, ks, Ts, i, j, rv, h => by
    have rest : ∀ (a' : AV) (ks' : List Nat) (Ts' : List Ty), (j = 0 → VRep g' a' rv) → VRep g' (getV (a' :: convEnv R ks' Ts' (i + 1) l) j) rv := by
      intro a' ks' Ts' h0
      cases j with
      | zero => exact h0 rfl
      | succ j => exact convEnv_get hc l ks' Ts' (i + 1) j rv h
    cases ks with
    | nil => cases Ts <;> exact rest _ _ _ fun _ => trivial
    | cons k ks =>
      cases Ts with
      | nil => exact rest _ _ _ fun _ => trivial
      | cons T Ts =>
        simp only [convEnv]
        split
        · refine rest _ _ _ fun hj => ?_
          subst hj
          have h : VRep g a rv := h
          cases a with
          | v U x =>
            simp only
            split
            · rename_i y hy
              exact conv_VRep hc hy h
            · trivial
          | tup l => trivial
        · exact rest _ _ _ fun _ => trivial

/-- a state, brought under names -/
def renTo (E0 : List ETy) (inis : List IniT) (live : List Nat) (Ts : List Ty) (Es : List ETy) (nt : Nat) (st0 : St) : Option (HL Ts × HD Es) :=
  let st := addNilsT inis st0
  let ss := srcs st.heap Es 0 (unifS live Ts st.env ++ boxIds E0 0)
  if turnsOk st.heap E0 Es ss 0 && ((List.range Es.length).all fun t => !(liveY Es[t]?) || decide (idxOf ss (ss.getD t 0) = t)) && decide (st.env.length = nt) then
    match decE live Ts 0 (convEnv (rnOf Es st.heap ss) live Ts 0 st.env) with
    | some xs => match decC (rnOf Es st.heap ss) Es (ss.map (getE st.heap)) with
      | some hs => some (xs, hs)
      | none => none
    | none => none
  else none

theorem renTo_rep {E0 : List ETy} {inis : List IniT} {live : List Nat} {Ts : List Ty} {Es : List ETy} {nt : Nat} {st : St} {d : HL Ts × HD Es} {g gn : G} {a : Act} {w : World} (hle : g.le gn) (h : SRep gn st a w) (h0 : ∀ t, isY (g.sh t) E0[t]?)
    (hn : renTo E0 inis live Ts Es nt st = some d) : ∃ g3, g.le g3 ∧ SRep g3 (encS live Ts Es nt d.1 d.2) a w := by
  unfold renTo at hn
  obtain ⟨g1, hle1, h1⟩ := addNilsT_rep (l := inis) h
  simp only at hn
  generalize addNilsT inis st = st at hn h1
  split at hn
  · rename_i hok
    simp only [Bool.and_eq_true, decide_eq_true_eq] at hok
    obtain ⟨⟨hturn, hall⟩, hnt⟩ := hok
    split at hn
    · rename_i xs hxs
      split at hn
      · rename_i hs hhs
        simp only [Option.some.injEq] at hn
        subst hn
        obtain ⟨g3, q1, q2, q3⟩ := ren_step (hle.trans hle1) h1.heap h0 hturn hall hhs
        refine ⟨g3, q1, ?_, q2, h1.defers⟩
        have he : EnvRep g3 (convEnv (rnOf Es st.heap (srcs st.heap Es 0 (unifS live Ts st.env ++ boxIds E0 0))) live Ts 0 st.env) a :=
          ⟨by rw [convEnv_length]; exact h1.env.1, fun i => convEnv_get q3 _ _ _ _ _ _ (h1.env.2 i)⟩
        have hk := keepE_rep he live
        rw [decE_some hxs, convEnv_length, hnt] at hk
        exact hk
      · cases hn
    · cases hn
  · cases hn

/-- is a heap of these outer forms? -/
def heapIs : List ETy → Heap → Bool
  | [], [] => true
  | .box _ :: Es, .box _ _ :: H => heapIs Es H
  | .vec k _ :: Es, .vec k' _ _ :: H => decide (k = k') && heapIs Es H
  | .dead :: Es, _ :: H => heapIs Es H
  | _, _ => false

theorem heapIs_isY : ∀ {Es : List ETy} {H : Heap}, heapIs Es H = true → ∀ t, isY (shp (getE H t)) Es[t]?
  | [], [], _, t => by simp [getE, shp, isY]
  | [], _ :: _, h, t => by simp [heapIs] at h
  | E :: Es, [], h, t => by cases E <;> simp [heapIs] at h
  | E :: Es, e :: H, h, t => by
    cases E with
    | free => cases e <;> simp [heapIs] at h
    | dead =>
      have h : heapIs Es H = true := by cases e <;> simpa only [heapIs] using h
      cases t with
      | zero => trivial
      | succ t => exact heapIs_isY h t
    | box T =>
      cases e <;> simp only [heapIs] at h <;> try (cases h; done)
      cases t with
      | zero => exact ⟨_, rfl⟩
      | succ t => exact heapIs_isY h t
    | vec k a =>
      cases e <;> simp only [heapIs, Bool.and_eq_true, decide_eq_true_eq] at h <;> try (cases h; done)
      cases t with
      | zero => obtain ⟨rfl, _⟩ := h; exact ⟨_, _, rfl⟩
      | succ t => exact heapIs_isY h.2 t

/-! summaries of loops -/

/-- a loop's states: slots, their types, entries; as the loop begins; as it ends in each way -/
structure RSpec where
  live : List Nat
  nt : Nat
  Ts : List Ty
  Es : List ETy
  E0 : List ETy
  inis : List IniT
  outs : Ex → List Nat × List Ty × List ETy

def RSpec.enc (S : RSpec) (xs : HL S.Ts) (hs : HD S.Es) : St := encS S.live S.Ts S.Es S.nt xs hs

abbrev RSpec.End (S : RSpec) := (HL S.Ts × HD S.Es) ⊕ (Ex × St)

def RSpec.outSt (S : RSpec) (x : Ex) (st : St) : Option St :=
  match renTo S.E0 S.inis (S.outs x).1 (S.outs x).2.1 (S.outs x).2.2 S.nt st with
  | some d => some (encS (S.outs x).1 (S.outs x).2.1 (S.outs x).2.2 S.nt d.1 d.2)
  | none => none

def RSpec.round (S : RSpec) (body : St → Tr (Ex × St)) (xs : HL S.Ts) (hs : HD S.Es) : Tr S.End :=
  (body (S.enc xs hs)).bind fun r => match r.1 with
    | .normal => match renTo S.E0 S.inis S.live S.Ts S.Es S.nt r.2 with
      | some d => .ret (.inl d)
      | none => .fail
    | x => match S.outSt x r.2 with
      | some st => .ret (.inr (x, st))
      | none => .fail

def RSpec.many (S : RSpec) (body : St → Tr (Ex × St)) : Nat → HL S.Ts → HD S.Es → Option (Ex × St)
  | 0, _, _ => none
  | n + 1, xs, hs => match (S.round body xs hs).eval with
    | some (.inl d) => S.many body n d.1 d.2
    | some (.inr r) => some r
    | none => none

def RSpec.fn (S : RSpec) (F : HL S.Ts → HD S.Es → Tr (Ex × St)) (st : St) : Tr (Ex × St) :=
  if heapIs S.E0 st.heap then
    match renTo S.E0 S.inis S.live S.Ts S.Es S.nt st with
    | some d => F d.1 d.2
    | none => .fail
  else .fail

section
variable {P : Program} {C : Ctx} {L : Loops}

theorem rmany_sound (hC : CtxSound P C ∧ CtxLocal C) {c : Code} (hl : LoopsOK P L c) (S : RSpec) {n : Nat} {g g0 : G} {xs : HL S.Ts} {hs : HD S.Es} {st' : St} {a : Act} {w : World} {x : Ex}
    {Q : Exit → Act → World → Prop} (h0 : ∀ t, isY (g.sh t) S.E0[t]?) (hle0 : g.le g0) (hr : SRep g0 (S.enc xs hs) a w) (he : S.many (bodyK P C L c) n xs hs = some (x, st'))
    (hn : ∀ g' a' w', g.le g' → SRep g' st' a' w' → Q x.out a' w') : (Code.loop c).wp P Q a w := by
  refine wp_loop_ghost (fun m a w => ∃ g1 xs hs, g.le g1 ∧ SRep g1 (S.enc xs hs) a w ∧ S.many (bodyK P C L c) m xs hs = some (x, st')) n ⟨g0, xs, hs, hle0, hr, he⟩ ?_
  rintro m a w ⟨g1, xs, hs, hle, hs1, he1⟩
  cases m with
  | zero => cases he1
  | succ m =>
    simp only [RSpec.many] at he1
    have key : ∀ r, (S.round (bodyK P C L c) xs hs).eval = some r → ∃ y s2, (bodyK P C L c (S.enc xs hs)).eval = some (y, s2) ∧ (match y with
        | .normal => match renTo S.E0 S.inis S.live S.Ts S.Es S.nt s2 with
          | some d => (Tr.ret (.inl d) : Tr S.End)
          | none => .fail
        | x => match S.outSt x s2 with
          | some st => .ret (.inr (x, st))
          | none => .fail).eval = some r := by
      intro r hr
      obtain ⟨⟨y, s2⟩, h1, h2⟩ := Tr.bind_some hr
      exact ⟨y, s2, h1, h2⟩
    have exit : ∀ {y : Ex} {s2 : St} {r : S.End}, (match S.outSt y s2 with
          | some st => (Tr.ret (.inr (y, st)) : Tr S.End)
          | none => .fail).eval = some r → ∃ d, r = .inr (y, encS (S.outs y).1 (S.outs y).2.1 (S.outs y).2.2 S.nt d.1 d.2) ∧ renTo S.E0 S.inis (S.outs y).1 (S.outs y).2.1 (S.outs y).2.2 S.nt s2 = some d := by
      intro y s2 r h
      unfold RSpec.outSt at h
      cases hd : renTo S.E0 S.inis (S.outs y).1 (S.outs y).2.1 (S.outs y).2.2 S.nt s2 with
      | none => rw [hd] at h; exact (Tr.fail_some h).elim
      | some d => rw [hd] at h; exact ⟨d, (Tr.ret_some h).symm, rfl⟩
    split at he1
    · rename_i d hd
      obtain ⟨y, s2, h1, h2⟩ := key _ hd
      refine code_sound hC.1 hC.2 c hl hs1 (bodyK_ok h1) ?_
      intro g2 a' w' hle2 hs2
      cases y with
      | normal =>
        simp only at h2
        split at h2
        · rename_i d' hd'
          have := Tr.ret_some h2
          simp only [Sum.inl.injEq] at this
          subst this
          obtain ⟨g3, q1, q2⟩ := renTo_rep (hle.trans hle2) hs2 h0 hd'
          exact ⟨m, Nat.lt_succ_self m, g3, _, _, q1, q2, he1⟩
        · exact (Tr.fail_some h2).elim
      | exit i => obtain ⟨_, h3, _⟩ := exit h2; cases h3
      | ret => obtain ⟨_, h3, _⟩ := exit h2; cases h3
    · rename_i r hd
      simp only [Option.some.injEq] at he1
      subst he1
      obtain ⟨y, s2, h1, h2⟩ := key _ hd
      refine code_sound hC.1 hC.2 c hl hs1 (bodyK_ok h1) ?_
      intro g2 a' w' hle2 hs2
      cases y with
      | normal =>
        simp only at h2
        split at h2
        · have := Tr.ret_some h2; cases this
        · exact (Tr.fail_some h2).elim
      | exit i =>
        obtain ⟨d, h3, h4⟩ := exit h2
        simp only [Sum.inr.injEq, Prod.mk.injEq] at h3
        obtain ⟨rfl, rfl⟩ := h3
        obtain ⟨g3, q1, q2⟩ := renTo_rep (hle.trans hle2) hs2 h0 h4
        exact hn _ _ _ q1 q2
      | ret =>
        obtain ⟨d, h3, h4⟩ := exit h2
        simp only [Sum.inr.injEq, Prod.mk.injEq] at h3
        obtain ⟨rfl, rfl⟩ := h3
        obtain ⟨g3, q1, q2⟩ := renTo_rep (hle.trans hle2) hs2 h0 h4
        exact hn _ _ _ q1 q2
    · cases he1

/-- a loop's summary is right -/
theorem rloop_ok {L' : Loops} (hC : CtxSound P C ∧ CtxLocal C) {c : Code} (hl : LoopsOK P L' c) (S : RSpec) {F : HL S.Ts → HD S.Es → Tr (Ex × St)} {i : Nat}
    (hi : firstReg c = some i) (hL : ∀ st, L i st = S.fn F st) (key : ∀ xs hs r, (F xs hs).eval = some r → ∃ n, S.many (bodyK P C L' c) n xs hs = some r) : LoopOK P L c := by
  intro j hj g st a w x st' Q hs he hn
  rw [hi] at hj
  cases hj
  rw [hL] at he
  unfold RSpec.fn at he
  split at he
  · rename_i hh
    have h0 : ∀ t, isY (g.sh t) S.E0[t]? := fun t => by rw [hs.heap.sh]; exact heapIs_isY hh t
    split at he
    · rename_i d hd
      obtain ⟨n, hm⟩ := key _ _ _ he
      obtain ⟨g3, q1, q2⟩ := renTo_rep (G.le.refl g) hs h0 hd
      exact rmany_sound hC hl S h0 q1 q2 hm hn
    · exact (Tr.fail_some he).elim
  · exact (Tr.fail_some he).elim

theorem rmany_inl {S : RSpec} {body : St → Tr (Ex × St)} {xs : HL S.Ts} {hs : HD S.Es} {d : HL S.Ts × HD S.Es} (h : (S.round body xs hs).eval = some (.inl d)) (n : Nat) : S.many body (n + 1) xs hs = S.many body n d.1 d.2 := by
  simp only [RSpec.many, h]

theorem rmany_inr {S : RSpec} {body : St → Tr (Ex × St)} {xs : HL S.Ts} {hs : HD S.Es} {r : Ex × St} (h : (S.round body xs hs).eval = some (.inr r)) (n : Nat) : S.many body (n + 1) xs hs = some r := by
  simp only [RSpec.many, h]

end
end Vse

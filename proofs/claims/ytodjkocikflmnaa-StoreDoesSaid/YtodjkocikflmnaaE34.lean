/- Loops whose variables hold own slices that are made anew. Nothing here is about one program. -/
import Derived.Test.YtodjkocikflmnaaE33
set_option linter.unusedVariables false
namespace Vse
open Go

/-! which entries are to be moved where -/

def unifT : Ty → Ty → List (Nat × Nat × Nat)
  | .vc i _, .vc e K => [(i, e, K)]
  | .prod a b, .prod c d => unifT a c ++ unifT b d
  | _, _ => []

def unifV (v : AV) (T : Ty) : List (Nat × Nat × Nat) :=
  match v with
  | .v U _ => unifT U T
  | .tup _ => []

def unifE : List Nat → List Ty → List AV → List (Nat × Nat × Nat)
  | k :: ks, T :: Ts, env => unifV (getV env k) T ++ unifE ks Ts env
  | _, _, _ => []

def unifH : List ETy → Heap → List (Nat × Nat × Nat)
  | .box T :: Es, .box U _ :: H => unifT U T ++ unifH Es H
  | _ :: Es, _ :: H => unifH Es H
  | _, _ => []

def dedup : List (Nat × Nat × Nat) → List (Nat × Nat × Nat)
  | [] => []
  | x :: l => x :: (dedup l).filter (fun y => !(y == x))

def movAll : List (Nat × Nat × Nat) → St → Option St
  | [], st => some st
  | (f, t, K) :: l, st => match movSt f t K st with
    | some st' => movAll l st'
    | none => none

def movOk (n : Nat) (Es : List ETy) (m : Nat × Nat × Nat) : Bool :=
  (decide (m.1 = m.2.1) || decide (n ≤ m.1)) && (match Es[m.2.1]? with
    | some (.vec K _) => decide (K = m.2.2)
    | _ => false)

theorem movAll_rep {g : G} {a : Act} {w : World} {n : Nat} {Es : List ETy} (hfree : ∀ e, n ≤ e → g.sh e = .free) (hlow : Lower g Es 0) : ∀ {ms : List (Nat × Nat × Nat)} {g2 : G} {st st' : St}, ms.all (movOk n Es) = true → g.le g2 → SRep g2 st a w → movAll ms st = some st' → ∃ g3, g.le g3 ∧ SRep g3 st' a w
  | [], g2, st, st', _, hle, h, hs => by
    simp only [movAll, Option.some.injEq] at hs
    subst hs
    exact ⟨g2, hle, h⟩
  | (f, t, K) :: ms, g2, st, st', hok, hle, h, hs => by
    simp only [List.all_cons, Bool.and_eq_true] at hok
    simp only [movAll] at hs
    split at hs
    · rename_i st1 h1
      have hm := hok.1
      simp only [movOk, Bool.and_eq_true, Bool.or_eq_true, decide_eq_true_eq] at hm
      obtain ⟨hf, hk⟩ := hm
      split at hk
      · rename_i K' b hE
        have hK : K' = K := by simpa using hk
        subst hK
        have hl := hlow t K' b hE
        rw [Nat.zero_add] at hl
        obtain ⟨⟨g3, q1, q2⟩, _⟩ := movSt_rep hle h h1 hl (hf.imp id fun x => hfree f x)
        exact movAll_rep hfree hlow hok.2 q1 q2 hs
      · cases hk
    · cases hs

/-! a variable's nil slice, seen as an own one -/

def addIniB (b m K : Nat) (a : Ty) (st : St) : Option St :=
  match getE st.heap b with
  | .box T x => match getP T x [.fld m] () with
    | some t => if t.T = .nils then (match setP T x [.fld m] () ⟨.vc st.heap.length K, ()⟩ with
      | some r => if (poff T.sk [.fld m] ()).isSome then some ⟨st.env, setE st.heap b (.box r.T r.x) ++ [.vec K a []]⟩ else none
      | none => none) else none
    | none => none
  | _ => none

theorem splice_same {cs : List Value} {off n : Nat} (h : off + n ≤ cs.length) : splice cs off (seg cs off n) = cs := by
  unfold splice seg
  have : ((cs.drop off).take n).length = n := by rw [List.length_take, List.length_drop]; omega
  rw [this, List.append_assoc, ← List.drop_drop, List.take_append_drop, List.take_append_drop]

theorem setE_append (H : Heap) (b : Nat) (E : Entry) (l : Heap) (h : b < H.length) : setE (H ++ l) b E = setE H b E ++ l := by
  induction H generalizing b with
  | nil => simp at h
  | cons x H ih =>
    cases b with
    | zero => rfl
    | succ b => simp only [List.cons_append, setE]; rw [ih b (by simpa using h)]

theorem addIniB_rep {g : G} {st st' : St} {a : Act} {w : World} {b m K : Nat} {A : Ty} (h : SRep g st a w) (hs : addIniB b m K A st = some st') : ∃ g', g.le g' ∧ SRep g' st' a w := by
  unfold addIniB at hs
  split at hs
  · rename_i T x hE
    split at hs
    · rename_i t ht
      split at hs
      · rename_i hn
        split at hs
        · rename_i r hr
          split at hs
          · rename_i hp
            simp only [Option.some.injEq] at hs
            subst hs
            obtain ⟨⟨off, s⟩, hpo⟩ := Option.isSome_iff_exists.1 hp
            have hlive : (getE st.heap b).live = true := by rw [hE]; rfl
            have hlt := lt_of_live hlive
            -- the new entry
            have hw : HInv g (st.heap ++ frees 1) w := h.heap.widen 1
            obtain ⟨g1, q1, q2, q3, q4⟩ := hw.nilVec (e := st.heap.length) (k := K) (a := A) (by simp [frees]) (.inl (getE_append_one _))
            rw [setE_append_one] at q2
            have hE1 : getE (st.heap ++ [.vec K A []]) b = .box T x := by
              have : getE (setE (st.heap ++ frees 1) st.heap.length (.vec K A [])) b = .box T x := by
                rw [getE_setE, if_neg (fun h => by omega), getE_append_frees, hE]
              rwa [setE_append_one] at this
            have hent := q2.ent b
            rw [hE1] at hent
            obtain ⟨bb, cs, tt, fz, w1, w2, w3, w4⟩ := hent
            obtain ⟨p1, p2, p3⟩ := getP_rep T x [.fld m] () cs.toList t off s w4 ht hpo
            obtain ⟨T', y⟩ := t
            simp only at hn
            subst hn
            simp only [Rep] at p1
            have hnew : Rep g1 (.vc st.heap.length K) () [.slice none 0 0] := by
              simp only [Rep, G.vcr, q3]
              exact ⟨⟨_, rfl, rfl⟩, Nat.le_refl _, fun _ => .inl ⟨q4, trivial, trivial⟩⟩
            obtain ⟨s1, s2, s3, s4⟩ := setP_rep T x [.fld m] () cs.toList [.slice none 0 0] ⟨.vc st.heap.length K, ()⟩ r off s w4 hr hpo hnew
            have hsame : splice cs.toList off [.slice none 0 0] = cs.toList := by
              rw [← p1]
              exact splice_same p3
            rw [hsame] at s3
            have hI2 := q2.setBox hE1 w1 w2 w3 s2 s3
            rw [setRow_self w bb cs tt fz w2, setE_append _ _ _ _ hlt] at hI2
            exact ⟨g1, q1, h.env.mono q1, hI2, h.defers⟩
          · cases hs
        · cases hs
      · cases hs
    · cases hs
  · cases hs

inductive Ini
  | slot (s : Nat)
  | fld (b m : Nat)

def addInis : List Ini → List ETy → St → Option St
  | [], [], st => some st
  | .slot s :: ss, .vec K a :: Es, st => match addIni [s] [.vec K a] st with
    | some st' => addInis ss Es st'
    | none => none
  | .fld b m :: ss, .vec K a :: Es, st => match addIniB b m K a st with
    | some st' => addInis ss Es st'
    | none => none
  | _, _, _ => none

theorem addInis_rep {a : Act} {w : World} : ∀ {ss : List Ini} {Es : List ETy} {g : G} {st st' : St}, SRep g st a w → addInis ss Es st = some st' → ∃ g', g.le g' ∧ SRep g' st' a w
  | [], [], g, st, st', h, hs => by
    simp only [addInis, Option.some.injEq] at hs
    subst hs
    exact ⟨g, G.le.refl g, h⟩
  | [], _ :: _, g, st, st', h, hs => by simp [addInis] at hs
  | i :: ss, [], g, st, st', h, hs => by cases i <;> simp [addInis] at hs
  | i :: ss, E :: Es, g, st, st', h, hs => by
    cases E with
    | vec K b =>
      cases i with
      | slot s =>
        simp only [addInis] at hs
        split at hs
        · rename_i st1 h1
          obtain ⟨g1, q1, q2⟩ := addIni_rep h h1
          obtain ⟨g2, w1, w2⟩ := addInis_rep q2 hs
          exact ⟨g2, q1.trans w1, w2⟩
        · cases hs
      | fld bb m =>
        simp only [addInis] at hs
        split at hs
        · rename_i st1 h1
          obtain ⟨g1, q1, q2⟩ := addIniB_rep h h1
          obtain ⟨g2, w1, w2⟩ := addInis_rep q2 hs
          exact ⟨g2, q1.trans w1, w2⟩
        · cases hs
    | _ => cases i <;> simp [addInis] at hs

/-! summaries of such loops -/

structure WSpec extends LSpec where
  inis : List Ini

def WSpec.moves (S : WSpec) (st : St) : List (Nat × Nat × Nat) := dedup (unifE S.live S.Ts st.env ++ unifH S.Es st.heap)

def WSpec.norm (S : WSpec) (st : St) : Option (HL S.Ts × HD S.Es) :=
  if (S.moves st).all (movOk S.Es.length S.Es) then
    match movAll (S.moves st) st with
    | some st1 => if heapUnder S.Es.length (st1.heap.take S.Es.length) then decS S.live S.Ts S.Es S.nt (weakSt S.live S.Ts (cutA S.Es.length st1)) else none
    | none => none
  else none

def WSpec.enter (S : WSpec) (st : St) : Option (HL S.Ts × HD S.Es) :=
  if gensOk S.Es 0 st.heap && decide (st.heap.length + S.inis.length = S.Es.length) then
    match addInis S.inis (S.Es.drop st.heap.length) st with
    | some st1 => if (S.moves st1).all (movOk S.Es.length S.Es) then
        match movAll (S.moves st1) st1 with
        | some st2 => decS S.live S.Ts S.Es S.nt (weakSt S.live S.Ts st2)
        | none => none
      else none
    | none => none
  else none

def WSpec.round (S : WSpec) (body : St → Tr (Ex × St)) (xs : HL S.Ts) (hs : HD S.Es) : Tr S.toLSpec.End :=
  (body (S.enc xs hs)).bind fun r => match r.1 with
    | .normal => match S.norm r.2 with
      | some d => .ret (.inl d)
      | none => .fail
    | x => .ret (.inr (x, keepS S.out r.2))

def WSpec.many (S : WSpec) (body : St → Tr (Ex × St)) : Nat → HL S.Ts → HD S.Es → Option (Ex × St)
  | 0, _, _ => none
  | n + 1, xs, hs => match (S.round body xs hs).eval with
    | some (.inl d) => S.many body n d.1 d.2
    | some (.inr r) => some r
    | none => none

def WSpec.fn (S : WSpec) (F : HL S.Ts → HD S.Es → Tr (Ex × St)) (st : St) : Tr (Ex × St) :=
  match S.enter st with
  | some d => F d.1 d.2
  | none => .fail

section
variable {P : Program} {C : Ctx} {L : Loops}

theorem wnorm_rep {S : WSpec} {g g2 : G} {st : St} {a : Act} {w : World} {d : HL S.Ts × HD S.Es} (hfree : ∀ e, S.Es.length ≤ e → g.sh e = .free) (hlow : Lower g S.Es 0) (hle : g.le g2) (h : SRep g2 st a w) (hn : S.norm st = some d) :
    ∃ g3, g.le g3 ∧ SRep g3 (S.enc d.1 d.2) a w := by
  unfold WSpec.norm at hn
  split at hn
  · rename_i hm
    split at hn
    · rename_i st1 h1
      split at hn
      · rename_i hc
        obtain ⟨g3, q1, q2⟩ := movAll_rep hfree hlow hm hle h h1
        obtain ⟨g4, w1, w2⟩ := cutA_rep hfree q1 q2 hc
        have hr := keepS_rep (weakSt_rep w2 S.live S.Ts) S.live
        rw [decS_some hn] at hr
        exact ⟨g4, w1, hr⟩
      · cases hn
    · cases hn
  · cases hn

theorem wenter_rep {S : WSpec} {g : G} {st : St} {a : Act} {w : World} {d : HL S.Ts × HD S.Es} (h : SRep g st a w) (hn : S.enter st = some d) :
    (∃ g3, g.le g3 ∧ SRep g3 (S.enc d.1 d.2) a w) ∧ (∀ e, S.Es.length ≤ e → g.sh e = .free) ∧ Lower g S.Es 0 := by
  unfold WSpec.enter at hn
  split at hn
  · rename_i hc
    simp only [Bool.and_eq_true, decide_eq_true_eq] at hc
    obtain ⟨hc1, hc2⟩ := hc
    have hlow := gensOk_lower h.heap.sh hc1
    have hfree : ∀ e, S.Es.length ≤ e → g.sh e = .free := free_past h (by omega)
    refine ⟨?_, hfree, hlow⟩
    split at hn
    · rename_i st1 h1
      obtain ⟨g1, q1, q2⟩ := addInis_rep h h1
      split at hn
      · rename_i hm
        split at hn
        · rename_i st2 h2
          obtain ⟨g2, w1, w2⟩ := movAll_rep hfree hlow hm q1 q2 h2
          have hr := keepS_rep (weakSt_rep w2 S.live S.Ts) S.live
          rw [decS_some hn] at hr
          exact ⟨g2, w1, hr⟩
        · cases hn
      · cases hn
    · cases hn
  · cases hn

theorem wmany_sound (hC : CtxSound P C ∧ CtxLocal C) {c : Code} (hl : LoopsOK P L c) (S : WSpec) {n : Nat} {g g0 : G} {xs : HL S.Ts} {hs : HD S.Es} {st' : St} {a : Act} {w : World} {x : Ex}
    {Q : Exit → Act → World → Prop} (hfree : ∀ e, S.Es.length ≤ e → g.sh e = .free) (hlow : Lower g S.Es 0) (hle0 : g.le g0) (hr : SRep g0 (S.enc xs hs) a w) (he : S.many (bodyK P C L c) n xs hs = some (x, st'))
    (hn : ∀ g' a' w', g.le g' → SRep g' st' a' w' → Q x.out a' w') : (Code.loop c).wp P Q a w := by
  refine wp_loop_ghost (fun m a w => ∃ g1 xs hs, g.le g1 ∧ SRep g1 (S.enc xs hs) a w ∧ S.many (bodyK P C L c) m xs hs = some (x, st')) n ⟨g0, xs, hs, hle0, hr, he⟩ ?_
  rintro m a w ⟨g1, xs, hs, hle, hs1, he1⟩
  cases m with
  | zero => cases he1
  | succ m =>
    simp only [WSpec.many] at he1
    have key : ∀ r, (S.round (bodyK P C L c) xs hs).eval = some r → ∃ y s2, (bodyK P C L c (S.enc xs hs)).eval = some (y, s2) ∧ (match y with
        | .normal => match S.norm s2 with
          | some d => (Tr.ret (.inl d) : Tr S.toLSpec.End)
          | none => .fail
        | x => .ret (.inr (x, keepS S.out s2))).eval = some r := by
      intro r hr
      obtain ⟨⟨y, s2⟩, h1, h2⟩ := Tr.bind_some hr
      exact ⟨y, s2, h1, h2⟩
    split at he1
    · rename_i d hd
      obtain ⟨y, s2, h1, h2⟩ := key _ hd
      refine code_sound hC.1 hC.2 c hl hs1 (bodyK_ok h1) ?_
      intro g2 a' w' hle2 hs2
      cases y with
      | normal =>
        simp only at h2
        split at h2
        · rename_i d' hd'
          have := Tr.ret_some h2
          simp only [Sum.inl.injEq] at this
          subst this
          obtain ⟨g3, q1, q2⟩ := wnorm_rep hfree hlow (hle.trans hle2) hs2 hd'
          exact ⟨m, Nat.lt_succ_self m, g3, _, _, q1, q2, he1⟩
        · exact (Tr.fail_some h2).elim
      | exit i => have := Tr.ret_some h2; cases this
      | ret => have := Tr.ret_some h2; cases this
    · rename_i r hd
      simp only [Option.some.injEq] at he1
      subst he1
      obtain ⟨y, s2, h1, h2⟩ := key _ hd
      refine code_sound hC.1 hC.2 c hl hs1 (bodyK_ok h1) ?_
      intro g2 a' w' hle2 hs2
      cases y with
      | normal =>
        simp only at h2
        split at h2
        · have := Tr.ret_some h2; cases this
        · exact (Tr.fail_some h2).elim
      | exit i =>
        have := Tr.ret_some h2
        simp only [Sum.inr.injEq, Prod.mk.injEq] at this
        obtain ⟨rfl, rfl⟩ := this
        exact hn _ _ _ (hle.trans hle2) (keepS_rep hs2 S.out)
      | ret =>
        have := Tr.ret_some h2
        simp only [Sum.inr.injEq, Prod.mk.injEq] at this
        obtain ⟨rfl, rfl⟩ := this
        exact hn _ _ _ (hle.trans hle2) (keepS_rep hs2 S.out)
    · cases he1

/-- a loop's summary is right -/
theorem wloop_ok {L' : Loops} (hC : CtxSound P C ∧ CtxLocal C) {c : Code} (hl : LoopsOK P L' c) (S : WSpec) {F : HL S.Ts → HD S.Es → Tr (Ex × St)} {i : Nat}
    (hi : firstReg c = some i) (hL : ∀ st, L i st = S.fn F st) (key : ∀ xs hs r, (F xs hs).eval = some r → ∃ n, S.many (bodyK P C L' c) n xs hs = some r) : LoopOK P L c := by
  intro j hj g st a w x st' Q hs he hn
  rw [hi] at hj
  cases hj
  rw [hL] at he
  unfold WSpec.fn at he
  split at he
  · rename_i d hd
    obtain ⟨n, hm⟩ := key _ _ _ he
    obtain ⟨⟨g3, q1, q2⟩, q3, q4⟩ := wenter_rep hs hd
    exact wmany_sound hC hl S q3 q4 q1 q2 hm hn
  · exact (Tr.fail_some he).elim

theorem wmany_inl {S : WSpec} {body : St → Tr (Ex × St)} {xs : HL S.Ts} {hs : HD S.Es} {d : HL S.Ts × HD S.Es} (h : (S.round body xs hs).eval = some (.inl d)) (n : Nat) : S.many body (n + 1) xs hs = S.many body n d.1 d.2 := by
  simp only [WSpec.many, h]

theorem wmany_inr {S : WSpec} {body : St → Tr (Ex × St)} {xs : HL S.Ts} {hs : HD S.Es} {r : Ex × St} (h : (S.round body xs hs).eval = some (.inr r)) (n : Nat) : S.many body (n + 1) xs hs = some r := by
  simp only [WSpec.many, h]

end
end Vse

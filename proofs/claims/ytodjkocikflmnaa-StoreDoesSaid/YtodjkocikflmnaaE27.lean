/- A loop's summary: states by their types, a round as a step from data to data. Nothing here is about one program. -/
import Derived.Test.YtodjkocikflmnaaE26
set_option linter.unusedVariables false
namespace Vse
open Go

inductive ETy
  | free | dead
  | box (T : Ty)
  | vec (g : Nat) (a : Ty)
  deriving DecidableEq

@[reducible] def HD : List ETy → Type
  | [] => Unit
  | .free :: l => HD l
  | .dead :: l => HD l
  | .box T :: l => T.den × HD l
  | .vec _ a :: l => List a.den × HD l

def encH : (Es : List ETy) → HD Es → Heap
  | [], _ => []
  | .free :: l, x => .free :: encH l x
  | .dead :: l, x => .dead :: encH l x
  | .box T :: l, x => .box T x.1 :: encH l x.2
  | .vec g a :: l, x => .vec g a x.1 :: encH l x.2

def decH : (Es : List ETy) → Heap → Option (HD Es)
  | [], [] => some ()
  | .free :: l, .free :: h => decH l h
  | .dead :: l, .dead :: h => decH l h
  | .box T :: l, .box U x :: h => if e : U = T then match decH l h with | some r => some (e ▸ x, r) | none => none else none
  | .vec g a :: l, .vec k b x :: h => if e : b = a then if g = k then match decH l h with | some r => some (e ▸ x, r) | none => none else none else none
  | _, _ => none

theorem decH_some : ∀ {Es : List ETy} {H : Heap} {x : HD Es}, decH Es H = some x → H = encH Es x := by
  intro Es
  induction Es with
  | nil =>
    intro H x h
    cases H with
    | nil => rfl
    | cons => simp [decH] at h
  | cons E l ih =>
    intro H x h
    cases E with
    | free =>
      cases H with
      | nil => simp [decH] at h
      | cons e H =>
        cases e <;> simp only [decH] at h <;> first | (cases h; done) | (simp only [encH]; rw [ih h])
    | dead =>
      cases H with
      | nil => simp [decH] at h
      | cons e H =>
        cases e <;> simp only [decH] at h <;> first | (cases h; done) | (simp only [encH]; rw [ih h])
    | box T =>
      cases H with
      | nil => simp [decH] at h
      | cons e H =>
        cases e with
        | box U y =>
          simp only [decH] at h
          split at h
          · rename_i e
            subst e
            split at h
            · rename_i r hr
              simp only [Option.some.injEq] at h
              subst h
              simp only [encH]
              rw [ih hr]
            · cases h
          · cases h
        | _ => simp [decH] at h
    | vec g a =>
      cases H with
      | nil => simp [decH] at h
      | cons e H =>
        cases e with
        | vec k b y =>
          simp only [decH] at h
          split at h
          · rename_i e
            subst e
            split at h
            · rename_i hg
              subst hg
              split at h
              · rename_i r hr
                simp only [Option.some.injEq] at h
                subst h
                simp only [encH]
                rw [ih hr]
              · cases h
            · cases h
          · cases h
        | _ => simp [decH] at h

/-- slots: those that are wanted, in order, with their values; of the others nothing is known -/
def encE : (live : List Nat) → (Ts : List Ty) → HL Ts → (i n : Nat) → List AV
  | _, _, _, _, 0 => []
  | k :: live, T :: Ts, xs, i, n + 1 => if i = k then .v T xs.1 :: encE live Ts xs.2 (i + 1) n else AV.und :: encE (k :: live) (T :: Ts) xs (i + 1) n
  | live, Ts, xs, i, n + 1 => AV.und :: encE live Ts xs (i + 1) n

def decE : (live : List Nat) → (Ts : List Ty) → (i : Nat) → List AV → Option (HL Ts)
  | [], [], _, [] => some ()
  | k :: live, T :: Ts, i, a :: l => if i = k then match a with
      | .v U x => if e : U = T then match decE live Ts (i + 1) l with | some r => some (e ▸ x, r) | none => none else none
      | _ => none
    else decE (k :: live) (T :: Ts) (i + 1) l
  | [], [], i, _ :: l => decE [] [] (i + 1) l
  | _, _, _, _ => none

/-- forgetting, as 'encE' does it -/
def keepE : List Nat → Nat → List AV → List AV
  | _, _, [] => []
  | k :: live, i, a :: l => if i = k then a :: keepE live (i + 1) l else AV.und :: keepE (k :: live) (i + 1) l
  | [], i, _ :: l => AV.und :: keepE [] (i + 1) l

theorem keepE_length : ∀ (live : List Nat) (i : Nat) (env : List AV), (keepE live i env).length = env.length := by
  intro live i env
  induction env generalizing live i with
  | nil => cases live <;> rfl
  | cons a l ih =>
    cases live with
    | nil => simp [keepE, ih]
    | cons k live => simp only [keepE]; split <;> simp [ih]

theorem keepE_get : ∀ (live : List Nat) (i : Nat) (env : List AV) (j : Nat), getV (keepE live i env) j = getV env j ∨ getV (keepE live i env) j = AV.und := by
  intro live i env
  induction env generalizing live i with
  | nil => intro j; cases live <;> exact .inl rfl
  | cons a l ih =>
    intro j
    cases live with
    | nil =>
      cases j with
      | zero => exact .inr rfl
      | succ j => exact ih [] (i + 1) j
    | cons k live =>
      simp only [keepE]
      split
      · cases j with
        | zero => exact .inl rfl
        | succ j => exact ih _ (i + 1) j
      · cases j with
        | zero => exact .inr rfl
        | succ j => exact ih _ (i + 1) j

theorem keepE_rep {g : G} {env : List AV} {a : Act} (h : EnvRep g env a) (live : List Nat) : EnvRep g (keepE live 0 env) a := by
  refine ⟨by rw [keepE_length]; exact h.1, fun i => ?_⟩
  rcases keepE_get live 0 env i with e | e
  · rw [e]; exact h.2 i
  · rw [e]; trivial

theorem decE_some : ∀ {live : List Nat} {Ts : List Ty} {i : Nat} {env : List AV} {xs : HL Ts}, decE live Ts i env = some xs → keepE live i env = encE live Ts xs i env.length := by
  intro live Ts i env
  induction env generalizing live Ts i with
  | nil =>
    intro xs h
    cases live <;> cases Ts <;> first | rfl | (simp [decE] at h)
  | cons a l ih =>
    intro xs h
    cases live with
    | nil =>
      cases Ts with
      | nil =>
        simp only [decE] at h
        simp only [keepE, List.length_cons, encE]
        rw [ih h]
      | cons T Ts => simp [decE] at h
    | cons k live =>
      cases Ts with
      | nil => simp [decE] at h
      | cons T Ts =>
        simp only [decE] at h
        simp only [keepE, List.length_cons, encE]
        split at h
        · rename_i hi
          rw [if_pos hi, if_pos hi]
          split at h
          · rename_i U x
            split at h
            · rename_i e
              subst e
              split at h
              · rename_i r hr
                simp only [Option.some.injEq] at h
                subst h
                rw [ih hr]
              · cases h
            · cases h
          · cases h
        · rename_i hi
          rw [if_neg hi, if_neg hi, ih h]

/-! a round, from data to data -/

def encS (live : List Nat) (Ts : List Ty) (Es : List ETy) (nt : Nat) (xs : HL Ts) (hs : HD Es) : St := ⟨encE live Ts xs 0 nt, encH Es hs⟩

def keepS (live : List Nat) (st : St) : St := ⟨keepE live 0 st.env, st.heap⟩

theorem keepS_rep {g : G} {st : St} {a : Act} {w : World} (h : SRep g st a w) (live : List Nat) : SRep g (keepS live st) a w := ⟨keepE_rep h.env live, h.heap, h.defers⟩

/-- what a state holds, seen so -/
def decS (live : List Nat) (Ts : List Ty) (Es : List ETy) (nt : Nat) (st : St) : Option (HL Ts × HD Es) :=
  if st.env.length = nt then match decE live Ts 0 st.env, decH Es st.heap with
    | some xs, some hs => some (xs, hs)
    | _, _ => none
  else none

theorem decS_some {live : List Nat} {Ts : List Ty} {Es : List ETy} {nt : Nat} {st : St} {d : HL Ts × HD Es} (h : decS live Ts Es nt st = some d) : keepS live st = encS live Ts Es nt d.1 d.2 := by
  unfold decS at h
  split at h
  · rename_i hn
    split at h
    · rename_i xs hs h1 h2
      simp only [Option.some.injEq] at h
      subst h
      simp only [keepS, encS, decE_some h1, hn, decH_some h2]
    · cases h
  · cases h

/-- entries that nothing at a round's head looks into are gone -/
def trim (n : Nat) (st : St) : St := ⟨st.env, st.heap.take n⟩

structure LSpec where
  live : List Nat
  out : List Nat
  nt : Nat
  Ts : List Ty
  Es : List ETy

def LSpec.enc (S : LSpec) (xs : HL S.Ts) (hs : HD S.Es) : St := encS S.live S.Ts S.Es S.nt xs hs

def okAt (n : Nat) (Ts : List Ty) (Es : List ETy) : Bool :=
  (Ts.all fun T => T.under n) && (Es.all fun E => match E with | .box T => T.under n | .vec _ a => a.under n | _ => true)

/-- a round's end: another one, or how the loop ends -/
abbrev LSpec.End (S : LSpec) := (HL S.Ts × HD S.Es) ⊕ (Ex × St)

def LSpec.round (S : LSpec) (body : St → Tr (Ex × St)) (xs : HL S.Ts) (hs : HD S.Es) : Tr S.End :=
  (body (S.enc xs hs)).bind fun r => match r.1 with
    | .normal => match decS S.live S.Ts S.Es S.nt (trim S.Es.length r.2) with
      | some d => .ret (.inl d)
      | none => .fail
    | x => .ret (.inr (x, keepS S.out r.2))

/-- so many rounds -/
def LSpec.many (S : LSpec) (body : St → Tr (Ex × St)) : Nat → HL S.Ts → HD S.Es → Option (Ex × St)
  | 0, _, _ => none
  | n + 1, xs, hs => match (S.round body xs hs).eval with
    | some (.inl d) => S.many body n d.1 d.2
    | some (.inr r) => some r
    | none => none

def LSpec.fn (S : LSpec) (F : HL S.Ts → HD S.Es → Tr (Ex × St)) (st : St) : Tr (Ex × St) :=
  match decS S.live S.Ts S.Es S.nt st with
  | some d => F d.1 d.2
  | none => .fail

def bodyK (P : Program) (C : Ctx) (L : Loops) (c : Code) (st : St) : Tr (Ex × St) := (runK P C L c [] st).bind fun r => .ret r.1

section
variable {P : Program} {C : Ctx} {L : Loops}

theorem bodyK_ok {c : Code} {st : St} {r : Ex × St} (h : (bodyK P C L c st).eval = some r) : (run P C L c st).eval = some r := by
  obtain ⟨s, h1, h2⟩ := Tr.bind_some h
  have := Tr.ret_some h2
  subst this
  exact (runK_ok c (KOK.nil _) h1).1

theorem encE_all (n : Nat) : ∀ (live : List Nat) (Ts : List Ty) (xs : HL Ts) (i m : Nat), (Ts.all fun T => T.under n) = true → ((encE live Ts xs i m).all fun a => a.under n) = true := by
  intro live Ts xs i m
  induction m generalizing live Ts i with
  | zero => intro _; cases live <;> cases Ts <;> rfl
  | succ m ih =>
    intro h
    cases live with
    | nil => simp only [encE, List.all_cons, ih _ _ _ _ h, Bool.and_true]; rfl
    | cons k live =>
      cases Ts with
      | nil => simp only [encE, List.all_cons, ih _ _ _ _ h, Bool.and_true]; rfl
      | cons T Ts =>
        simp only [encE]
        split
        · simp only [List.all_cons, Bool.and_eq_true] at h ⊢
          exact ⟨h.1, ih _ _ _ _ h.2⟩
        · simp only [List.all_cons, ih _ _ _ _ h, Bool.and_true]; rfl

theorem encH_all (n : Nat) : ∀ (Es : List ETy) (hs : HD Es), (Es.all fun E => match E with | .box T => T.under n | .vec _ a => a.under n | _ => true) = true → ((encH Es hs).all fun e => e.under n) = true := by
  intro Es
  induction Es with
  | nil => intro _ _; rfl
  | cons E l ih =>
    intro hs h
    simp only [List.all_cons, Bool.and_eq_true] at h
    cases E with
    | free => simp only [encH, List.all_cons, Bool.and_eq_true]; exact ⟨rfl, ih _ h.2⟩
    | dead => simp only [encH, List.all_cons, Bool.and_eq_true]; exact ⟨rfl, ih _ h.2⟩
    | box T => simp only [encH, List.all_cons, Bool.and_eq_true]; exact ⟨h.1, ih _ h.2⟩
    | vec g a => simp only [encH, List.all_cons, Bool.and_eq_true]; exact ⟨h.1, ih _ h.2⟩

theorem encH_length : ∀ (Es : List ETy) (hs : HD Es), (encH Es hs).length = Es.length := by
  intro Es
  induction Es with
  | nil => intro _; rfl
  | cons E l ih => intro hs; cases E <;> simp [encH, ih]

theorem cut_repE {g g2 : G} {n : Nat} {st : St} {a : Act} {w : World} (live : List Nat) (hfree : ∀ e, n ≤ e → g.sh e = .free) (hle : g.le g2) (h : SRep g2 st a w) (hc : cutOk n (keepS live (trim n st)) = true) :
    ∃ g3, g.le g3 ∧ SRep g3 (keepS live (trim n st)) a w := by
  have hall : ∀ env : List AV, keep (List.range env.length) 0 env = env := by
    have gen : ∀ (env : List AV) (i m : Nat), i + env.length ≤ m → keep (List.range m) i env = env := by
      intro env
      induction env with
      | nil => intro i m _; rfl
      | cons a l ih =>
        intro i m h
        simp only [List.length_cons] at h
        simp only [keep]
        rw [ih (i + 1) m (by omega), if_pos (by simp; omega)]
    intro env
    exact gen env 0 _ (by simp)
  have h' : SRep g2 (keepS live st) a w := keepS_rep h live
  have e1 : cutSt (List.range (keepS live st).env.length) n (keepS live st) = keepS live (trim n st) := by
    unfold cutSt
    rw [hall]
    rfl
  have := cut_rep (List.range (keepS live st).env.length) hfree hle h' (by rw [e1]; exact hc)
  rw [e1] at this
  exact this

theorem many_sound (hC : CtxSound P C) (hLc : CtxLocal C) {c : Code} (hl : LoopsOK P L c) (S : LSpec) (hok : okAt S.Es.length S.Ts S.Es = true) {n : Nat} {g : G} {xs : HL S.Ts} {hs : HD S.Es} {st' : St} {a : Act} {w : World} {x : Ex}
    {Q : Exit → Act → World → Prop} (hr : SRep g (S.enc xs hs) a w) (he : S.many (bodyK P C L c) n xs hs = some (x, st')) (hn : ∀ g' a' w', g.le g' → SRep g' st' a' w' → Q x.out a' w') : (Code.loop c).wp P Q a w := by
  have hfree : ∀ e, S.Es.length ≤ e → g.sh e = .free := free_past hr (by simp [LSpec.enc, encS, encH_length])
  simp only [okAt, Bool.and_eq_true] at hok
  refine wp_loop_ghost (fun m a w => ∃ g1 xs hs, g.le g1 ∧ SRep g1 (S.enc xs hs) a w ∧ S.many (bodyK P C L c) m xs hs = some (x, st')) n ⟨g, xs, hs, G.le.refl g, hr, he⟩ ?_
  rintro m a w ⟨g1, xs, hs, hle, hs1, he1⟩
  cases m with
  | zero => cases he1
  | succ m =>
    simp only [LSpec.many] at he1
    have key : ∀ r, (S.round (bodyK P C L c) xs hs).eval = some r → ∃ y s2, (bodyK P C L c (S.enc xs hs)).eval = some (y, s2) ∧ (match y with
        | .normal => match decS S.live S.Ts S.Es S.nt (trim S.Es.length s2) with
          | some d => (Tr.ret (.inl d) : Tr S.End)
          | none => .fail
        | x => .ret (.inr (x, keepS S.out s2))).eval = some r := by
      intro r hr
      obtain ⟨⟨y, s2⟩, h1, h2⟩ := Tr.bind_some hr
      exact ⟨y, s2, h1, h2⟩
    split at he1
    · rename_i d hd
      obtain ⟨y, s2, h1, h2⟩ := key _ hd
      refine code_sound hC hLc c hl hs1 (bodyK_ok h1) ?_
      intro g2 a' w' hle2 hs2
      cases y with
      | normal =>
        simp only at h2
        split at h2
        · rename_i d' hd'
          have := Tr.ret_some h2
          simp only [Sum.inl.injEq] at this
          subst this
          have e1 := decS_some hd'
          have hc : cutOk S.Es.length (keepS S.live (trim S.Es.length s2)) = true := by
            rw [e1]
            simp only [cutOk, encS, Bool.and_eq_true]
            exact ⟨encE_all _ _ _ _ _ _ hok.1, encH_all _ _ _ hok.2⟩
          obtain ⟨g3, q1, q2⟩ := cut_repE S.live hfree (hle.trans hle2) hs2 hc
          rw [e1] at q2
          exact ⟨m, Nat.lt_succ_self m, g3, _, _, q1, q2, he1⟩
        · exact (Tr.fail_some h2).elim
      | exit i => have := Tr.ret_some h2; cases this
      | ret => have := Tr.ret_some h2; cases this
    · rename_i r hd
      simp only [Option.some.injEq] at he1
      subst he1
      obtain ⟨y, s2, h1, h2⟩ := key _ hd
      refine code_sound hC hLc c hl hs1 (bodyK_ok h1) ?_
      intro g2 a' w' hle2 hs2
      cases y with
      | normal =>
        simp only at h2
        split at h2
        · have := Tr.ret_some h2; cases this
        · exact (Tr.fail_some h2).elim
      | exit i =>
        have := Tr.ret_some h2
        simp only [Sum.inr.injEq, Prod.mk.injEq] at this
        obtain ⟨rfl, rfl⟩ := this
        exact hn _ _ _ (hle.trans hle2) (keepS_rep hs2 S.out)
      | ret =>
        have := Tr.ret_some h2
        simp only [Sum.inr.injEq, Prod.mk.injEq] at this
        obtain ⟨rfl, rfl⟩ := this
        exact hn _ _ _ (hle.trans hle2) (keepS_rep hs2 S.out)
    · cases he1

/-- a loop's summary is right -/
theorem loop_ok {L' : Loops} (hC : CtxSound P C ∧ CtxLocal C) {c : Code} (hl : LoopsOK P L' c) (S : LSpec) (hok : okAt S.Es.length S.Ts S.Es = true) {F : HL S.Ts → HD S.Es → Tr (Ex × St)} {i : Nat}
    (hi : firstReg c = some i) (hL : ∀ st, L i st = S.fn F st) (key : ∀ xs hs r, (F xs hs).eval = some r → ∃ n, S.many (bodyK P C L' c) n xs hs = some r) : LoopOK P L c := by
  intro j hj g st a w x st' Q hs he hn
  rw [hi] at hj
  cases hj
  rw [hL] at he
  unfold LSpec.fn at he
  split at he
  · rename_i d hd
    obtain ⟨n, hm⟩ := key _ _ _ he
    have hr := keepS_rep hs S.live
    rw [decS_some hd] at hr
    exact many_sound hC.1 hC.2 hl S hok hr hm hn
  · exact (Tr.fail_some he).elim

end
end Vse

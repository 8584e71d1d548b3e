/- What the functions of layer 9 (field) give: lists of bytes, one behind the other; are lists of bytes the same. -/
import Derived.Test.YtodjkocikflmnaaF4
set_option linter.unusedVariables false
set_option maxRecDepth 100000
namespace Go.Proofs.Ytodjkocikflmnaa.Fld
open Go Vse Go.Proofs

def allG : List (List Int) → List Int → Nat → List Int × Nat
  | [], o, n => (o, n)
  | p :: r, o, n => bif decide (n < 100000) then allG r (o ++ p) (n + p.length + 1) else (o, n)
def short (p : List Int) : Bool := decide (p.length ≤ 140737488351232)
def preAll (l : List (List Int)) : Bool := l.all short

def out24 (o : List Int) (n : Nat) : Ex × St := (.exit 0, encS [4, 5] [.vc 0 1, i64] [.vec 1 u8] 33 ((), (n : Int), ()) (o, ()))

theorem getD_cons {α : Type} {l : List α} {k : Nat} (h : k < l.length) (d : α) : l.getD k d = l[k] := by rw [List.getD_eq_getElem?_getD, List.getElem?_eq_getElem h]; rfl

theorem k24 (l : List (List Int)) (hl : l.length ≤ 9223372036854775807) (hp : ∀ p ∈ l, p.length ≤ 140737488351232) : ∀ (m k : Nat) (o : List Int) (n : Nat), k + m = l.length → o.length ≤ n →
    S24.many (bodyK Try.prog (ctx []) L0 b24) (m + 1) (l, (), (n : Int), (k : Int), ()) (o, ()) = some (out24 (allG (l.drop k) o n).1 (allG (l.drop k) o n).2)
  | 0, k, o, n, h, ho => by
    have e1 : l.drop k = [] := List.drop_eq_nil_of_le (by omega)
    rw [e1]
    refine vmany_inr ((r24 l n k o).trans ?_) 0
    simp only [G24, Tr.eval, decide_eq_false (show ¬ ((k : Int) < (l.length : Int)) by omega)]
    rfl
  | m + 1, k, o, n, h, ho => by
    have h1 : k < l.length := by omega
    have hp1 := hp l[k] (List.getElem_mem h1)
    rw [List.drop_eq_getElem_cons h1]
    have i1 : inArr (k : Int) l.length = true := by simp [inArr]; omega
    have g1 : l.getD k [] = l[k] := getD_cons h1 []
    simp only [allG]
    by_cases hn : n < 100000
    · rw [decide_eq_true hn]
      have hroom : room (o.length + l[k].length) 1 = true := by simp only [room, decide_eq_true_eq]; omega
      refine (vmany_inl (d := ((l, (), ((n + l[k].length + 1 : Nat) : Int), ((k + 1 : Nat) : Int), ()), (o ++ l[k], ()))) ((r24 l n k o).trans ?_) (m + 1)).trans
        (k24 l hl hp m (k + 1) (o ++ l[k]) (n + l[k].length + 1) (by omega) (by rw [List.length_append]; omega))
      simp only [G24, Tr.eval, Tr.chk, decide_eq_true (show ((k : Int) < (l.length : Int)) by omega), decide_eq_true (show ((n : Int) < 100000) by omega), i1, Int.toNat_natCast, g1, hroom]
      rw [w_id (x := (n : Int) + (l[k].length : Int)) (by omega) (by omega), w_id (by omega) (by omega), w_id (by omega) (by omega)]
      rfl
    · rw [decide_eq_false hn]
      refine vmany_inr ((r24 l n k o).trans ?_) (m + 1)
      simp only [G24, Tr.eval, decide_eq_true (show ((k : Int) < (l.length : Int)) by omega), decide_eq_false (show ¬ ((n : Int) < 100000) by omega)]
      rfl

def F24 (xs : HL S24.Ts) (hs : HD S24.Es) : Tr (Ex × St) :=
  .chk (decide (xs.2.2.1 = (0 : Int)) && (decide (xs.2.2.2.1 = (0 : Int)) && (decide (List.length (α := Int) hs.1 = 0) && (decide (List.length (α := List Int) xs.1 ≤ 9223372036854775807) && preAll xs.1))))
    (.ret (out24 (allG xs.1 [] 0).1 (allG xs.1 [] 0).2))
noncomputable def L24 : Loops := fun j st => if j = 4 then S24.fn F24 st else .fail
theorem l24 : LoopOK Try.prog L24 b24 :=
  vloop_ok (L := L24) (L' := L0) nil_sound (loopsOK_of (by kernel_rfl)) S24 (F := F24) (i := 4) (by kernel_rfl) (fun _ => rfl) fun xs hs r h => by
    obtain ⟨l, u1, n, i, u⟩ := xs
    obtain ⟨o, u2⟩ := hs
    obtain ⟨h1, h2⟩ := Tr.chk_some h
    have := Tr.ret_some h2
    simp only [Bool.and_eq_true, decide_eq_true_eq] at h1
    obtain ⟨e1, e2, e3, e4, e5⟩ := h1
    have e1 : n = ((0 : Nat) : Int) := e1
    have e2 : i = ((0 : Nat) : Int) := e2
    have e3 : o = [] := List.eq_nil_of_length_eq_zero e3
    subst e1; subst e2; subst e3
    have hp : ∀ p ∈ l, List.length (α := Int) p ≤ 140737488351232 := fun p hp => by simpa [short] using List.all_eq_true.1 e5 p hp
    exact ⟨_, (k24 l e4 hp (List.length (α := List Int) l) 0 [] 0 (by omega) (by simp)).trans (congrArg some this)⟩

def allI (l : List (List Int)) : HL [bt, i64] := ((allG l [] 0).1, ((allG l [] 0).2 : Int), ())
def s24 : CSpec := .slp [ls] (fun x => preAll x.1) [bt, i64] fun x => allI x.1
theorem r24f (l : List (List Int)) : (fnS Try.prog (ctx []) L24 [bt, i64] Try.f24 (mkArgs [ls] (l, ()))).fold [bt, i64] = ((allG l [] 0).1, ((allG l [] 0).2 : Int), ()) := by kernel_rfl
theorem f24f (l : List (List Int)) : (fnS Try.prog (ctx []) L24 [bt, i64] Try.f24 (mkArgs [ls] (l, ()))).fine [bt, i64] = (decide (l.length ≤ 9223372036854775807) && preAll l) := by kernel_rfl
theorem ok24 : CSound Try.prog 24 s24 ∧ CLocal s24 :=
  slp_sound (L := L24) nil_sound Try.func24 (by kernel_rfl) (fun b hb => by
    have : loopsOf (bodyOf Try.f24) = [b24] := by kernel_rfl
    rw [this] at hb
    rw [List.mem_singleton.1 hb]
    exact l24) (fun xs hx hp => by
      refine (f24f xs.1).trans ?_
      have h1 : List.length (α := List Int) xs.1 ≤ 9223372036854775807 := hx.1.1
      rw [decide_eq_true h1]
      exact hp) (fun xs hx hp => r24f xs.1)

/-! bartizanref09.Same -/

def S33i : LSpec := ⟨[0, 1, 5, 6], [0, 1, 4, 5], 53, [ls, ls, i64, i64], []⟩
noncomputable def b33 : Code := loopAt Try.f33 0
noncomputable def b33i : Code := ((loopsOf b33)[0]?).getD .skip
def G33i (xs : HL S33i.Ts) (hs : HD S33i.Es) : Tr S33i.End :=
  let a : List (List Int) := xs.1
  let b : List (List Int) := xs.2.1
  let i := xs.2.2.1
  let k := xs.2.2.2.1
  let p : List Int := a.getD i.toNat []
  let q : List Int := b.getD i.toNat []
  .chk (inArr i a.length) (.ite (decide (k < (p.length : Int))) (.chk (inArr i a.length) (.chk (inArr k p.length) (.chk (inArr i b.length) (.chk (inArr k q.length)
    (.ite (p.getD k.toNat 0 != q.getD k.toNat 0) (.ret (.inr (.ret, encS [0, 1, 4, 5] [ls, ls, .bool, i64] [] 53 (a, b, false, i, ()) ()))) (.ret (.inl ((a, b, i, w (k + 1), ()), ()))))))))
    (.ret (.inr (.exit 2, encS [0, 1, 5] [ls, ls, i64] [] 53 (a, b, i, ()) ()))))
theorem r33i (a b : List (List Int)) (i k : Int) : (S33i.round (bodyK Try.prog (ctx []) L0 b33i) (a, b, i, k, ()) ()).eval = (G33i (a, b, i, k, ()) ()).eval := by kernel_rfl

end Go.Proofs.Ytodjkocikflmnaa.Fld

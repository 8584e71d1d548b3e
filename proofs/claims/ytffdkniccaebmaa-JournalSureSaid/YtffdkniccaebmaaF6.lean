/- What the functions of layer 9 (field) give: are lists of bytes the same. -/
import Derived.Test.YtffdkniccaebmaaF5
set_option linter.unusedVariables false
set_option maxRecDepth 100000
namespace Go.Proofs.Ytffdkniccaebmaa.Fld
open Go Vse Go.Proofs

def F33i (xs : HL S33i.Ts) (hs : HD S33i.Es) : Tr (Ex × St) :=
  let a : List (List Int) := xs.1
  let b : List (List Int) := xs.2.1
  let i : Int := xs.2.2.1
  let p : List Int := a.getD i.toNat []
  let q : List Int := b.getD i.toNat []
  .chk (decide (xs.2.2.2.1 = (0 : Int)) && (inArr i a.length && (inArr i b.length && (decide (p.length = q.length) && decide (p.length ≤ 9223372036854775807)))))
    (.ite (decide (p = q)) (.ret (.exit 2, encS [0, 1, 5] [ls, ls, i64] [] 53 (a, b, i, ()) ())) (.ret (.ret, encS [0, 1, 4, 5] [ls, ls, .bool, i64] [] 53 (a, b, false, i, ()) ())))
noncomputable def L33i : Loops := fun j st => if j = 9 then S33i.fn F33i st else .fail

theorem k33i (a b : List (List Int)) (i : Int) (p q : List Int) (hp : a.getD i.toNat [] = p) (hq : b.getD i.toNat [] = q) (i1 : inArr i a.length = true) (i2 : inArr i b.length = true) (hab : p.length = q.length) (hm : p.length ≤ 9223372036854775807) :
    ∀ (m k : Nat), k + m = p.length → S33i.many (bodyK Try.prog (ctx []) L0 b33i) (m + 1) (a, b, i, (k : Int), ()) () =
    if p.drop k = q.drop k then some (.exit 2, encS [0, 1, 5] [ls, ls, i64] [] 53 (a, b, i, ()) ()) else some (.ret, encS [0, 1, 4, 5] [ls, ls, .bool, i64] [] 53 (a, b, false, i, ()) ())
  | 0, k, h => by
    have e1 : p.drop k = [] := List.drop_eq_nil_of_le (by omega)
    have e2 : q.drop k = [] := List.drop_eq_nil_of_le (by omega)
    rw [e1, e2, if_pos rfl]
    refine many_inr ((r33i a b i k).trans ?_) 0
    simp only [G33i, Tr.eval, Tr.chk, i1, hp, decide_eq_false (show ¬ ((k : Int) < (p.length : Int)) by omega)]
  | m + 1, k, h => by
    have h1 : k < p.length := by omega
    have h2 : k < q.length := by omega
    have j1 : inArr (k : Int) p.length = true := by simp [inArr]; omega
    have j2 : inArr (k : Int) q.length = true := by simp [inArr]; omega
    have g1 : p.getD k 0 = p[k] := getD_cons h1 0
    have g2 : q.getD k 0 = q[k] := getD_cons h2 0
    have hiff : p.drop k = q.drop k ↔ p[k] = q[k] ∧ p.drop (k + 1) = q.drop (k + 1) := by
      rw [List.drop_eq_getElem_cons h1, List.drop_eq_getElem_cons h2, List.cons.injEq]
    by_cases hk : p[k] = q[k]
    · refine (many_inl (d := ((a, b, i, ((k + 1 : Nat) : Int), ()), ())) ((r33i a b i k).trans ?_) (m + 1)).trans ((k33i a b i p q hp hq i1 i2 hab hm m (k + 1) (by omega)).trans ?_)
      · simp only [G33i, Tr.eval, Tr.chk, i1, i2, hp, hq, decide_eq_true (show ((k : Int) < (p.length : Int)) by omega), j1, j2, Int.toNat_natCast, g1, g2, hk, bne_self_eq_false]
        rw [w_id (by omega) (by omega)]; rfl
      · by_cases hd : p.drop (k + 1) = q.drop (k + 1)
        · rw [if_pos hd, if_pos (hiff.2 ⟨hk, hd⟩)]
        · rw [if_neg hd, if_neg fun h => hd (hiff.1 h).2]
    · rw [if_neg fun h => hk (hiff.1 h).1]
      refine many_inr ((r33i a b i k).trans ?_) (m + 1)
      have : (p[k] != q[k]) = true := by simp [hk]
      simp only [G33i, Tr.eval, Tr.chk, i1, i2, hp, hq, decide_eq_true (show ((k : Int) < (p.length : Int)) by omega), j1, j2, Int.toNat_natCast, g1, g2, this]

theorem l33i : LoopOK Try.prog L33i b33i :=
  loop_ok (L := L33i) (L' := L0) nil_sound (loopsOK_of (by kernel_rfl)) S33i (by kernel_rfl) (F := F33i) (i := 9) (by kernel_rfl) (fun _ => rfl) fun xs hs r h => by
    obtain ⟨a, b, i, k, u⟩ := xs
    obtain ⟨h1, h2⟩ := Tr.chk_some h
    simp only [Bool.and_eq_true, decide_eq_true_eq] at h1
    obtain ⟨e1, e2, e3, e4, e5⟩ := h1
    have e1 : k = ((0 : Nat) : Int) := e1
    subst e1
    refine ⟨_, (k33i a b i _ _ rfl rfl e2 e3 e4 e5 (List.length (α := Int) (List.getD (α := List Int) a (Int.toNat i) [])) 0 (Nat.zero_add _)).trans ?_⟩
    simp only [List.drop_zero]
    rcases Tr.ite_some h2 with ⟨hd, h2⟩ | ⟨hd, h2⟩
    · rw [if_pos (of_decide_eq_true hd), Tr.ret_some h2]
    · rw [if_neg (of_decide_eq_false hd), Tr.ret_some h2]

def S33 : LSpec := ⟨[0, 1, 5], [4], 53, [ls, ls, i64], []⟩
def G33 (xs : HL S33.Ts) (hs : HD S33.Es) : Tr S33.End :=
  let a : List (List Int) := xs.1
  let b : List (List Int) := xs.2.1
  let i : Int := xs.2.2.1
  let p : List Int := a.getD i.toNat []
  let q : List Int := b.getD i.toNat []
  let B : Tr S33.End := .ret (.inr (.ret, encS [4] [.bool] [] 53 (false, ()) ()))
  .ite (decide (i < (a.length : Int))) (.chk (inArr i a.length) (.chk (inArr i b.length) (.ite ((p.length : Int) != (q.length : Int)) B
    (.chk (inArr i a.length && (inArr i b.length && (decide (p.length = q.length) && decide (p.length ≤ 9223372036854775807))))
      (.ite (decide (p = q)) (.ret (.inl ((a, b, w (i + 1), ()), ()))) B)))))
    (.ret (.inr (.exit 0, encS [] [] [] 53 () ())))
theorem r33 (a b : List (List Int)) (i : Int) : (S33.round (bodyK Try.prog (ctx []) L33i b33) (a, b, i, ()) ()).eval = (G33 (a, b, i, ()) ()).eval := by kernel_rfl

theorem k33 (a b : List (List Int)) (hab : a.length = b.length) (hm : a.length ≤ 9223372036854775807) (hp : ∀ p ∈ a, p.length ≤ 9223372036854775807) : ∀ (m k : Nat), k + m = a.length →
    S33.many (bodyK Try.prog (ctx []) L33i b33) (m + 1) (a, b, (k : Int), ()) () = if a.drop k = b.drop k then some (.exit 0, encS [] [] [] 53 () ()) else some (.ret, encS [4] [.bool] [] 53 (false, ()) ())
  | 0, k, h => by
    have e1 : a.drop k = [] := List.drop_eq_nil_of_le (by omega)
    have e2 : b.drop k = [] := List.drop_eq_nil_of_le (by omega)
    rw [e1, e2, if_pos rfl]
    refine many_inr ((r33 a b k).trans ?_) 0
    simp only [G33, Tr.eval, decide_eq_false (show ¬ ((k : Int) < (a.length : Int)) by omega)]
  | m + 1, k, h => by
    have h1 : k < a.length := by omega
    have h2 : k < b.length := by omega
    have i1 : inArr (k : Int) a.length = true := by simp [inArr]; omega
    have i2 : inArr (k : Int) b.length = true := by simp [inArr]; omega
    have g1 : a.getD k [] = a[k] := getD_cons h1 []
    have g2 : b.getD k [] = b[k] := getD_cons h2 []
    have hpk := hp a[k] (List.getElem_mem h1)
    have hiff : a.drop k = b.drop k ↔ a[k] = b[k] ∧ a.drop (k + 1) = b.drop (k + 1) := by
      rw [List.drop_eq_getElem_cons h1, List.drop_eq_getElem_cons h2, List.cons.injEq]
    by_cases hk : a[k] = b[k]
    · have hl : a[k].length = b[k].length := by rw [hk]
      refine (many_inl (d := ((a, b, ((k + 1 : Nat) : Int), ()), ())) ((r33 a b k).trans ?_) (m + 1)).trans ((k33 a b hab hm hp m (k + 1) (by omega)).trans ?_)
      · have hne : ((a[k].length : Int) != (b[k].length : Int)) = false := by simp [hl]
        simp only [G33, Tr.eval, Tr.chk, decide_eq_true (show ((k : Int) < (a.length : Int)) by omega), i1, i2, Int.toNat_natCast, g1, g2, hne, Bool.true_and, decide_eq_true hl, decide_eq_true hpk, decide_eq_true hk]
        rw [w_id (by omega) (by omega)]; rfl
      · by_cases hd : a.drop (k + 1) = b.drop (k + 1)
        · rw [if_pos hd, if_pos (hiff.2 ⟨hk, hd⟩)]
        · rw [if_neg hd, if_neg fun h => hd (hiff.1 h).2]
    · rw [if_neg fun h => hk (hiff.1 h).1]
      refine many_inr ((r33 a b k).trans ?_) (m + 1)
      by_cases hl : a[k].length = b[k].length
      · have hne : ((a[k].length : Int) != (b[k].length : Int)) = false := by simp [hl]
        simp only [G33, Tr.eval, Tr.chk, decide_eq_true (show ((k : Int) < (a.length : Int)) by omega), i1, i2, Int.toNat_natCast, g1, g2, hne, Bool.true_and, decide_eq_true hl, decide_eq_true hpk, decide_eq_false hk]
      · have hne : ((a[k].length : Int) != (b[k].length : Int)) = true := by simp only [bne_iff_ne, ne_eq]; omega
        simp only [G33, Tr.eval, Tr.chk, decide_eq_true (show ((k : Int) < (a.length : Int)) by omega), i1, i2, Int.toNat_natCast, g1, g2, hne]

def lensOk (a : List (List Int)) : Bool := a.all fun p => decide (p.length ≤ 9223372036854775807)
def F33 (xs : HL S33.Ts) (hs : HD S33.Es) : Tr (Ex × St) :=
  .chk (decide (xs.2.2.1 = (0 : Int)) && (decide (List.length (α := List Int) xs.1 = List.length (α := List Int) xs.2.1) && (decide (List.length (α := List Int) xs.1 ≤ 9223372036854775807) && lensOk xs.1)))
    (.ite (decide (xs.1 = xs.2.1)) (.ret (.exit 0, encS [] [] [] 53 () ())) (.ret (.ret, encS [4] [.bool] [] 53 (false, ()) ())))
noncomputable def L33 : Loops := fun j st => if j = 4 then S33.fn F33 st else .fail
theorem l33 : LoopOK Try.prog L33 b33 :=
  loop_ok (L := L33) (L' := L33i) nil_sound (loopsOK_all (fun b hb => by
    have : loopsOf b33 = [b33i] := by kernel_rfl
    rw [this] at hb
    rw [List.mem_singleton.1 hb]
    exact l33i)) S33 (by kernel_rfl) (F := F33) (i := 4) (by kernel_rfl) (fun _ => rfl) fun xs hs r h => by
    obtain ⟨a, b, i, u⟩ := xs
    obtain ⟨h1, h2⟩ := Tr.chk_some h
    simp only [Bool.and_eq_true, decide_eq_true_eq] at h1
    obtain ⟨e1, e2, e3, e4⟩ := h1
    have e1 : i = ((0 : Nat) : Int) := e1
    subst e1
    refine ⟨_, (k33 a b e2 e3 (fun p hp => by simpa using List.all_eq_true.1 e4 p hp) (List.length (α := List Int) a) 0 (Nat.zero_add _)).trans ?_⟩
    simp only [List.drop_zero]
    rcases Tr.ite_some h2 with ⟨hd, h2⟩ | ⟨hd, h2⟩
    · rw [if_pos (of_decide_eq_true hd), Tr.ret_some h2]
    · rw [if_neg (of_decide_eq_false hd), Tr.ret_some h2]

def sameL (a b : List (List Int)) : Bool := decide (a = b)
def s33 : CSpec := .sl1 [ls, ls] .bool fun x => sameL x.1 x.2.1
theorem r33f (a b : List (List Int)) : (fnS Try.prog (ctx []) L33 [.bool] Try.f94 (mkArgs [ls, ls] (a, b, ()))).fold1 .bool =
    bif ((a.length : Int) != (b.length : Int)) then false else (bif decide (a = b) then true else false) := by kernel_rfl
theorem f33f (a b : List (List Int)) : (fnS Try.prog (ctx []) L33 [.bool] Try.f94 (mkArgs [ls, ls] (a, b, ()))).fine [.bool] =
    ((decide (a.length = b.length) && (decide (a.length ≤ 9223372036854775807) && lensOk a)) || ((a.length : Int) != (b.length : Int))) := by kernel_rfl

theorem ok33 : CSound Try.prog 94 s33 ∧ CLocal s33 :=
  sl_ok1 (L := L33) nil_sound Try.func94 (by kernel_rfl) (fun b hb => by
    have : loopsOf (bodyOf Try.f94) = [b33] := by kernel_rfl
    rw [this] at hb
    rw [List.mem_singleton.1 hb]
    exact l33) (fun xs hx => by
      obtain ⟨a, b, u⟩ := xs
      have hl : List.length (α := List Int) a ≤ 9223372036854775807 := hx.1.1
      have he : lensOk a = true := List.all_eq_true.2 fun p hp => decide_eq_true (hx.1.2 p hp).1
      refine (f33f a b).trans ?_
      rw [he]
      by_cases h : List.length (α := List Int) a = List.length (α := List Int) b
      · simp [h] at hl ⊢; omega
      · simp; omega) (fun xs hx => by
      obtain ⟨a, b, u⟩ := xs
      refine (r33f a b).trans ?_
      show _ = decide (a = b)
      by_cases h : List.length (α := List Int) a = List.length (α := List Int) b
      · have : ((List.length (α := List Int) a : Int) != (List.length (α := List Int) b : Int)) = false := by simp [h]
        rw [this]
        cases decide (a = b) <;> rfl
      · have : ((List.length (α := List Int) a : Int) != (List.length (α := List Int) b : Int)) = true := by simp; omega
        rw [this]
        have hne : decide (a = b) = false := decide_eq_false (by rintro rfl; exact h rfl)
        rw [hne]; rfl)

end Go.Proofs.Ytffdkniccaebmaa.Fld

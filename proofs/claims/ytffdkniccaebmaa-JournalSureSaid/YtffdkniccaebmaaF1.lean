/- What the functions of layer 9 (field) give: are bytes the same; a number of bytes; a word. -/
import Derived.Test.YtffdkniccaebmaaM4
import Derived.Test.YtffdkniccaebmaaM5
import Derived.Test.YtffdkniccaebmaaProg
import Derived.KernelRfl
set_option linter.unusedVariables false
set_option maxRecDepth 100000
namespace Go.Proofs.Ytffdkniccaebmaa.Fld
open Go Vse Go.Proofs

abbrev i64 : Ty := .int .i64
abbrev u8 : Ty := .int .u8
abbrev bs : Ty := .imm false false u8
abbrev bt : Ty := .imm true false u8
abbrev w (x : Int) : Int := IntKind.i64.wrap x
abbrev wb (x : Int) : Int := IntKind.u8.wrap x
abbrev wu (x : Int) : Int := IntKind.u64.wrap x

theorem w_id {x : Int} (h : -9223372036854775808 ≤ x) (h' : x ≤ 9223372036854775807) : w x = x := by
  simp [IntKind.wrap, IntKind.signed, IntKind.bits]
  split <;> omega

theorem nil_sound : CtxSound Try.prog (ctx []) ∧ CtxLocal (ctx []) := ctx_sound trivial

/-! bartizanref01.Same -/

def S19 : LSpec := ⟨[0, 1, 5], [4], 26, [bs, bs, i64], []⟩
noncomputable def b19 : Code := loopAt Try.f35 0
def G19 (xs : HL S19.Ts) (hs : HD S19.Es) : Tr S19.End :=
  let a := xs.1
  let b := xs.2.1
  let i := xs.2.2.1
  .ite (decide (i < (a.length : Int))) (.chk (inArr i a.length) (.chk (inArr i b.length) (.ite (a.getD i.toNat 0 != b.getD i.toNat 0)
    (.ret (.inr (.ret, encS [4] [.bool] [] 26 (false, ()) ()))) (.ret (.inl ((a, b, w (i + 1), ()), ()))))))
    (.ret (.inr (.exit 0, encS [] [] [] 26 () ())))
theorem r19 (a b : List Int) (i : Int) : (S19.round (bodyK Try.prog (ctx []) L0 b19) (a, b, i, ()) ()).eval = (G19 (a, b, i, ()) ()).eval := by kernel_rfl

def F19 (xs : HL S19.Ts) (hs : HD S19.Es) : Tr (Ex × St) :=
  .chk (decide (xs.2.2.1 = (0 : Int)) && (decide (xs.1.length = xs.2.1.length) && decide (xs.1.length ≤ 9223372036854775807)))
    (.ite (decide (xs.1 = xs.2.1)) (.ret (.exit 0, encS [] [] [] 26 () ())) (.ret (.ret, encS [4] [.bool] [] 26 (false, ()) ())))
def L19 : Loops := fun j st => if j = 4 then S19.fn F19 st else .fail

theorem k19 (a b : List Int) (hab : a.length = b.length) (hm : a.length ≤ 9223372036854775807) : ∀ (m k : Nat), k + m = a.length → S19.many (bodyK Try.prog (ctx []) L0 b19) (m + 1) (a, b, (k : Int), ()) () =
    if a.drop k = b.drop k then some (.exit 0, encS [] [] [] 26 () ()) else some (.ret, encS [4] [.bool] [] 26 (false, ()) ())
  | 0, k, h => by
    have e1 : a.drop k = [] := List.drop_eq_nil_of_le (by omega)
    have e2 : b.drop k = [] := List.drop_eq_nil_of_le (by omega)
    rw [e1, e2, if_pos rfl]
    refine many_inr ((r19 a b k).trans ?_) 0
    simp only [G19, Tr.eval, decide_eq_false (show ¬ ((k : Int) < (a.length : Int)) by omega)]
  | m + 1, k, h => by
    have h1 : k < a.length := by omega
    have h2 : k < b.length := by omega
    have i1 : inArr (k : Int) a.length = true := by simp [inArr]; omega
    have i2 : inArr (k : Int) b.length = true := by simp [inArr]; omega
    have g1 : a.getD k 0 = a[k] := by rw [List.getD_eq_getElem?_getD, List.getElem?_eq_getElem h1]; rfl
    have g2 : b.getD k 0 = b[k] := by rw [List.getD_eq_getElem?_getD, List.getElem?_eq_getElem h2]; rfl
    have hiff : a.drop k = b.drop k ↔ a[k] = b[k] ∧ a.drop (k + 1) = b.drop (k + 1) := by
      rw [List.drop_eq_getElem_cons h1, List.drop_eq_getElem_cons h2, List.cons.injEq]
    by_cases hk : a[k] = b[k]
    · refine (many_inl (d := ((a, b, ((k + 1 : Nat) : Int), ()), ())) ((r19 a b k).trans ?_) (m + 1)).trans ((k19 a b hab hm m (k + 1) (by omega)).trans ?_)
      · simp only [G19, Tr.eval, Tr.chk, decide_eq_true (show ((k : Int) < (a.length : Int)) by omega), i1, i2, Int.toNat_natCast, g1, g2, hk, bne_self_eq_false]
        rw [w_id (by omega) (by omega)]; rfl
      · by_cases hd : a.drop (k + 1) = b.drop (k + 1)
        · rw [if_pos hd, if_pos (hiff.2 ⟨hk, hd⟩)]
        · rw [if_neg hd, if_neg fun h => hd (hiff.1 h).2]
    · rw [if_neg fun h => hk (hiff.1 h).1]
      refine many_inr ((r19 a b k).trans ?_) (m + 1)
      have : (a[k] != b[k]) = true := by simp [hk]
      simp only [G19, Tr.eval, Tr.chk, decide_eq_true (show ((k : Int) < (a.length : Int)) by omega), i1, i2, Int.toNat_natCast, g1, g2, this]

theorem l19 : LoopOK Try.prog L19 b19 :=
  loop_ok (L := L19) (L' := L0) nil_sound (loopsOK_of (by kernel_rfl)) S19 (by kernel_rfl) (F := F19) (i := 4) (by kernel_rfl) (fun _ => rfl) fun xs hs r h => by
    obtain ⟨a, b, i, u⟩ := xs
    obtain ⟨h1, h2⟩ := Tr.chk_some h
    simp only [Bool.and_eq_true, decide_eq_true_eq] at h1
    obtain ⟨e1, e2, e3⟩ := h1
    have e1 : i = ((0 : Nat) : Int) := e1
    subst e1
    refine ⟨_, (k19 a b e2 e3 a.length 0 (by omega)).trans ?_⟩
    simp only [List.drop_zero]
    rcases Tr.ite_some h2 with ⟨hd, h2⟩ | ⟨hd, h2⟩
    · rw [if_pos (of_decide_eq_true hd), Tr.ret_some h2]
    · rw [if_neg (of_decide_eq_false hd), Tr.ret_some h2]

def sameI (a b : List Int) : Bool := decide (a = b)
def s19 : CSpec := .sl1 [bs, bs] .bool fun x => sameI x.1 x.2.1

theorem r19f (a b : List Int) : (fnS Try.prog (ctx []) L19 [.bool] Try.f35 (mkArgs [bs, bs] (a, b, ()))).fold1 .bool =
    bif ((a.length : Int) != (b.length : Int)) then false else (bif decide (a = b) then true else false) := by kernel_rfl
theorem f19f (a b : List Int) : (fnS Try.prog (ctx []) L19 [.bool] Try.f35 (mkArgs [bs, bs] (a, b, ()))).fine [.bool] =
    ((decide (a.length = b.length) && decide (a.length ≤ 9223372036854775807)) || ((a.length : Int) != (b.length : Int))) := by kernel_rfl
theorem ok19 : CSound Try.prog 35 s19 ∧ CLocal s19 :=
  sl_ok1 (L := L19) nil_sound Try.func35 (by kernel_rfl) (fun b hb => by
    have : loopsOf (bodyOf Try.f35) = [b19] := by kernel_rfl
    rw [this] at hb
    rw [List.mem_singleton.1 hb]
    exact l19) (fun xs hx => by
      obtain ⟨a, b, u⟩ := xs
      have hl : List.length (α := Int) a ≤ 9223372036854775807 := hx.1.1
      refine (f19f a b).trans ?_
      by_cases h : List.length (α := Int) a = List.length (α := Int) b
      · simp [h] at hl ⊢; omega
      · simp; omega) (fun xs hx => by
      obtain ⟨a, b, u⟩ := xs
      refine (r19f a b).trans ?_
      show _ = decide (a = b)
      by_cases h : List.length (α := Int) a = List.length (α := Int) b
      · have : ((List.length (α := Int) a : Int) != (List.length (α := Int) b : Int)) = false := by simp [h]
        rw [this]
        cases decide (a = b) <;> rfl
      · have : ((List.length (α := Int) a : Int) != (List.length (α := Int) b : Int)) = true := by simp; omega
        rw [this]
        have hne : decide (a = b) = false := decide_eq_false (by rintro rfl; exact h rfl)
        rw [hne]; rfl)

/-! slices.Clone -/

def s58 : CSpec := .slp1 [.imm false true u8] (fun x => decide (List.length (α := Int) x.1 ≤ 140737488355328)) bt fun x => x.1
theorem f58 (a : List Int) : (fnS Try.prog (ctx []) L0 [bt] Try.f86 (mkArgs [.imm false true u8] (a, ()))).fine [bt] = (room (([] : List Int).length + a.length) 1 || false) := by kernel_rfl
theorem r58 (a : List Int) : (fnS Try.prog (ctx []) L0 [bt] Try.f86 (mkArgs [.imm false true u8] (a, ()))).fold1 bt = a := by kernel_rfl
theorem ok58 : CSound Try.prog 86 s58 ∧ CLocal s58 :=
  slp_ok1 (L := L0) nil_sound Try.func86 (by kernel_rfl) (fun b hb => by
    have : loopsOf (bodyOf Try.f86) = [] := by kernel_rfl
    rw [this] at hb; cases hb) (fun xs hx hp => by
      refine (f58 xs.1).trans ?_
      have hp := of_decide_eq_true hp
      simp only [room, Bool.or_false, decide_eq_true_eq, List.length_nil]
      omega) (fun xs hx hp => r58 xs.1)

/-! numbers and words of bytes -/


end Go.Proofs.Ytffdkniccaebmaa.Fld

/- What is used by all layers: names of types; are bytes the same; lists of bytes, one behind the other. -/
import Derived.Test.YtffdkniccaebmaaM5
import Derived.Test.YtffdkniccaebmaaProg
import Derived.KernelRfl
set_option linter.unusedVariables false
set_option maxRecDepth 100000
namespace Go.Proofs.Ytffdkniccaebmaa.Gen
open Go Vse Go.Proofs

abbrev i64 : Ty := .int .i64
abbrev u8 : Ty := .int .u8
abbrev bs : Ty := .imm false false u8
abbrev bt : Ty := .imm true false u8
abbrev w (x : Int) : Int := IntKind.i64.wrap x
abbrev wb (x : Int) : Int := IntKind.u8.wrap x
abbrev wu (x : Int) : Int := IntKind.u64.wrap x

theorem w_id {x : Int} (h : -9223372036854775808 ≤ x) (h' : x ≤ 9223372036854775807) : w x = x := by
  simp [IntKind.wrap, IntKind.signed, IntKind.bits]
  split <;> omega

theorem nil_sound : CtxSound Try.prog (ctx []) ∧ CtxLocal (ctx []) := ctx_sound trivial

/-! bartizanref01.Same -/

def SSame : LSpec := ⟨[0, 1, 5], [4], 26, [bs, bs, i64], []⟩
noncomputable def bSame : Code := loopAt Try.f35 0
def GSame (xs : HL SSame.Ts) (hs : HD SSame.Es) : Tr SSame.End :=
  let a := xs.1
  let b := xs.2.1
  let i := xs.2.2.1
  .ite (decide (i < (a.length : Int))) (.chk (inArr i a.length) (.chk (inArr i b.length) (.ite (a.getD i.toNat 0 != b.getD i.toNat 0)
    (.ret (.inr (.ret, encS [4] [.bool] [] 26 (false, ()) ()))) (.ret (.inl ((a, b, w (i + 1), ()), ()))))))
    (.ret (.inr (.exit 0, encS [] [] [] 26 () ())))
theorem rSame (a b : List Int) (i : Int) : (SSame.round (bodyK Try.prog (ctx []) L0 bSame) (a, b, i, ()) ()).eval = (GSame (a, b, i, ()) ()).eval := by kernel_rfl

def FSame (xs : HL SSame.Ts) (hs : HD SSame.Es) : Tr (Ex × St) :=
  .chk (decide (xs.2.2.1 = (0 : Int)) && (decide (xs.1.length = xs.2.1.length) && decide (xs.1.length ≤ 9223372036854775807)))
    (.ite (decide (xs.1 = xs.2.1)) (.ret (.exit 0, encS [] [] [] 26 () ())) (.ret (.ret, encS [4] [.bool] [] 26 (false, ()) ())))
def LSame : Loops := fun j st => if j = 4 then SSame.fn FSame st else .fail

theorem kSame (a b : List Int) (hab : a.length = b.length) (hm : a.length ≤ 9223372036854775807) : ∀ (m k : Nat), k + m = a.length → SSame.many (bodyK Try.prog (ctx []) L0 bSame) (m + 1) (a, b, (k : Int), ()) () =
    if a.drop k = b.drop k then some (.exit 0, encS [] [] [] 26 () ()) else some (.ret, encS [4] [.bool] [] 26 (false, ()) ())
  | 0, k, h => by
    have e1 : a.drop k = [] := List.drop_eq_nil_of_le (by omega)
    have e2 : b.drop k = [] := List.drop_eq_nil_of_le (by omega)
    rw [e1, e2, if_pos rfl]
    refine many_inr ((rSame a b k).trans ?_) 0
    simp only [GSame, Tr.eval, decide_eq_false (show ¬ ((k : Int) < (a.length : Int)) by omega)]
  | m + 1, k, h => by
    have h1 : k < a.length := by omega
    have h2 : k < b.length := by omega
    have i1 : inArr (k : Int) a.length = true := by simp [inArr]; omega
    have i2 : inArr (k : Int) b.length = true := by simp [inArr]; omega
    have g1 : a.getD k 0 = a[k] := by rw [List.getD_eq_getElem?_getD, List.getElem?_eq_getElem h1]; rfl
    have g2 : b.getD k 0 = b[k] := by rw [List.getD_eq_getElem?_getD, List.getElem?_eq_getElem h2]; rfl
    have hiff : a.drop k = b.drop k ↔ a[k] = b[k] ∧ a.drop (k + 1) = b.drop (k + 1) := by
      rw [List.drop_eq_getElem_cons h1, List.drop_eq_getElem_cons h2, List.cons.injEq]
    by_cases hk : a[k] = b[k]
    · refine (many_inl (d := ((a, b, ((k + 1 : Nat) : Int), ()), ())) ((rSame a b k).trans ?_) (m + 1)).trans ((kSame a b hab hm m (k + 1) (by omega)).trans ?_)
      · simp only [GSame, Tr.eval, Tr.chk, decide_eq_true (show ((k : Int) < (a.length : Int)) by omega), i1, i2, Int.toNat_natCast, g1, g2, hk, bne_self_eq_false]
        rw [w_id (by omega) (by omega)]; rfl
      · by_cases hd : a.drop (k + 1) = b.drop (k + 1)
        · rw [if_pos hd, if_pos (hiff.2 ⟨hk, hd⟩)]
        · rw [if_neg hd, if_neg fun h => hd (hiff.1 h).2]
    · rw [if_neg fun h => hk (hiff.1 h).1]
      refine many_inr ((rSame a b k).trans ?_) (m + 1)
      have : (a[k] != b[k]) = true := by simp [hk]
      simp only [GSame, Tr.eval, Tr.chk, decide_eq_true (show ((k : Int) < (a.length : Int)) by omega), i1, i2, Int.toNat_natCast, g1, g2, this]

theorem lSame : LoopOK Try.prog LSame bSame :=
  loop_ok (L := LSame) (L' := L0) nil_sound (loopsOK_of (by kernel_rfl)) SSame (by kernel_rfl) (F := FSame) (i := 4) (by kernel_rfl) (fun _ => rfl) fun xs hs r h => by
    obtain ⟨a, b, i, u⟩ := xs
    obtain ⟨h1, h2⟩ := Tr.chk_some h
    simp only [Bool.and_eq_true, decide_eq_true_eq] at h1
    obtain ⟨e1, e2, e3⟩ := h1
    have e1 : i = ((0 : Nat) : Int) := e1
    subst e1
    refine ⟨_, (kSame a b e2 e3 a.length 0 (by omega)).trans ?_⟩
    simp only [List.drop_zero]
    rcases Tr.ite_some h2 with ⟨hd, h2⟩ | ⟨hd, h2⟩
    · rw [if_pos (of_decide_eq_true hd), Tr.ret_some h2]
    · rw [if_neg (of_decide_eq_false hd), Tr.ret_some h2]

def sameI (a b : List Int) : Bool := decide (a = b)
def sSame : CSpec := .sl1 [bs, bs] .bool fun x => sameI x.1 x.2.1

theorem rSamef (a b : List Int) : (fnS Try.prog (ctx []) LSame [.bool] Try.f35 (mkArgs [bs, bs] (a, b, ()))).fold1 .bool =
    bif ((a.length : Int) != (b.length : Int)) then false else (bif decide (a = b) then true else false) := by kernel_rfl
theorem fSameF (a b : List Int) : (fnS Try.prog (ctx []) LSame [.bool] Try.f35 (mkArgs [bs, bs] (a, b, ()))).fine [.bool] =
    ((decide (a.length = b.length) && decide (a.length ≤ 9223372036854775807)) || ((a.length : Int) != (b.length : Int))) := by kernel_rfl
theorem okSame : CSound Try.prog 35 sSame ∧ CLocal sSame :=
  sl_ok1 (L := LSame) nil_sound Try.func35 (by kernel_rfl) (fun b hb => by
    have : loopsOf (bodyOf Try.f35) = [bSame] := by kernel_rfl
    rw [this] at hb
    rw [List.mem_singleton.1 hb]
    exact lSame) (fun xs hx => by
      obtain ⟨a, b, u⟩ := xs
      have hl : List.length (α := Int) a ≤ 9223372036854775807 := hx.1.1
      refine (fSameF a b).trans ?_
      by_cases h : List.length (α := Int) a = List.length (α := Int) b
      · simp [h] at hl ⊢; omega
      · simp; omega) (fun xs hx => by
      obtain ⟨a, b, u⟩ := xs
      refine (rSamef a b).trans ?_
      show _ = decide (a = b)
      by_cases h : List.length (α := Int) a = List.length (α := Int) b
      · have : ((List.length (α := Int) a : Int) != (List.length (α := Int) b : Int)) = false := by simp [h]
        rw [this]
        cases decide (a = b) <;> rfl
      · have : ((List.length (α := Int) a : Int) != (List.length (α := Int) b : Int)) = true := by simp; omega
        rw [this]
        have hne : decide (a = b) = false := decide_eq_false (by rintro rfl; exact h rfl)
        rw [hne]; rfl)


/-! bartizanref01.All -/

abbrev ls : Ty := .imm false false bt
abbrev lt : Ty := .imm true false bt
theorem getD_cons {α : Type} {l : List α} {k : Nat} (h : k < l.length) (d : α) : l.getD k d = l[k] := by rw [List.getD_eq_getElem?_getD, List.getElem?_eq_getElem h]; rfl

end Go.Proofs.Ytffdkniccaebmaa.Gen

/- New stores, sizes, and the law's own trial (layer 13). -/
import Derived.Test.YtffdkniccaebmaaB2
import Derived.Test.YtffdkniccaebmaaM5
set_option linter.unusedVariables false
set_option maxRecDepth 100000
namespace Go.Proofs.Ytffdkniccaebmaa.Sto
open Go Vse Go.Proofs Fld

/-! New -/

def okRoom (n : Int) : Bool := decide (0 ≤ n) && decide (n ≤ 1048576)
abbrev nA : PSpec := ⟨[i64], [.ptr 0 [], i64], [], sE 0, [(0, 0, u8)]⟩
abbrev nB : PSpec := ⟨[i64], [.nilp, i64], [], [], []⟩
def newF (n : Int) : (Unit × Int × Unit) × D := (((), 0, ()), mk [] 0 n (-1) false)
def newS : CSpec := .two (posSel nA fun xs _ => okRoom xs.1) (.pos nA (fun xs _ => okRoom xs.1) fun xs _ => newF xs.1) (.pos nB (fun xs _ => !okRoom xs.1) fun xs _ => (((), 1, ()), ()))

theorem k15a (n : Int) : (fnP Try.prog (ctx []) L0 nA Try.f41 (n, ()) ()).eval = (Tr.ite (decide (n < 0)) .fail (.ite (decide (n > 1048576)) .fail (.ret (newF n)))).eval := by kernel_rfl
theorem k15b (n : Int) : (fnP Try.prog (ctx []) L0 nB Try.f41 (n, ()) ()).eval = (Tr.ite (decide (n < 0)) (.ret (((), (1 : Int), ()), ())) (.ite (decide (n > 1048576)) (.ret (((), (1 : Int), ()), ())) .fail)).eval := by kernel_rfl
theorem k16a (n : Int) : (fnP Try.prog (ctx []) L0 nA Try.f67 (n, ()) ()).eval = (Tr.ite (decide (n < 0)) .fail (.ite (decide (n > 1048576)) .fail (.ret (newF n)))).eval := by kernel_rfl
theorem k16b (n : Int) : (fnP Try.prog (ctx []) L0 nB Try.f67 (n, ()) ()).eval = (Tr.ite (decide (n < 0)) (.ret (((), (1 : Int), ()), ())) (.ite (decide (n > 1048576)) (.ret (((), (1 : Int), ()), ())) .fail)).eval := by kernel_rfl

theorem newA {α : Type} {n : Int} (h : okRoom n = true) (r : α) : (Tr.ite (decide (n < 0)) .fail (.ite (decide (n > 1048576)) .fail (.ret r))).eval = some r := by
  simp only [okRoom, Bool.and_eq_true, decide_eq_true_eq] at h
  simp only [Tr.eval, decide_eq_false (show ¬ n < 0 by omega), decide_eq_false (show ¬ n > 1048576 by omega)]
theorem newB {α : Type} {n : Int} (h : (!okRoom n) = true) (r : α) : (Tr.ite (decide (n < 0)) (.ret r) (.ite (decide (n > 1048576)) (.ret r) .fail)).eval = some r := by
  simp only [okRoom, Bool.not_eq_true', Bool.and_eq_false_iff, decide_eq_false_iff_not] at h
  by_cases h0 : n < 0
  · simp [Tr.eval, h0]
  · simp [Tr.eval, h0, show n > 1048576 by omega]
theorem ok15 : CSound Try.prog 41 newS ∧ CLocal newS :=
  two_sound _ rfl rfl (pos_sound nil_sound Try.func41 (by kernel_rfl) (noL (by kernel_rfl)) fun xs hs _ _ hp => (k15a xs.1).trans (newA hp _))
    (pos_sound nil_sound Try.func41 (by kernel_rfl) (noL (by kernel_rfl)) fun xs hs _ _ hp => (k15b xs.1).trans (newB hp _))
theorem ok16 : CSound Try.prog 67 newS ∧ CLocal newS :=
  two_sound _ rfl rfl (pos_sound nil_sound Try.func67 (by kernel_rfl) (noL (by kernel_rfl)) fun xs hs _ _ hp => (k16a xs.1).trans (newA hp _))
    (pos_sound nil_sound Try.func67 (by kernel_rfl) (noL (by kernel_rfl)) fun xs hs _ _ hp => (k16b xs.1).trans (newB hp _))

/-! sizes -/

abbrev ob : Ty := .imm false false opT
def S14 : LSpec := ⟨[0, 3, 4], [3], 25, [ob, i64, i64], []⟩
abbrev x0 : Ox := ((0 : Int), (0 : Int), ([] : List Int), ())
def G14 (l : List Ox) (n i : Int) : Tr S14.End :=
  let out : Tr S14.End := .ret (.inr (.exit 0, encS [3] [i64] [] 25 (n, ()) ()))
  .ite (decide (i < (l.length : Int))) (.ite (decide (n < 100000)) (.chk (inArr i l.length) (.ret (.inl ((l, w (w (n + ((l.getD i.toNat x0).2.2.1.length : Int)) + 1), w (i + 1), ()), ())))) out) out
/-- the size that is told -/
def szL : List Ox → Int → Int
  | [], n => n
  | x :: l, n => if n < 100000 then szL l (w (w (n + (x.2.2.1.length : Int)) + 1)) else n

def shortO (l : List Ox) : Bool := l.all fun x => decide (x.2.2.1.length ≤ 140737488355328)
def F14 (xs : HL S14.Ts) (hs : HD S14.Es) : Tr (Ex × St) :=
  .chk (decide (xs.2.1 = (0 : Int)) && (decide (xs.2.2.1 = (0 : Int)) && decide (List.length (α := Ox) xs.1 ≤ 9223372036854775807))) (.ret (.exit 0, encS [3] [i64] [] 25 (szL xs.1 0, ()) ()))
def L14 : Loops := fun j st => if j = 3 then S14.fn F14 st else .fail

def s14 : CSpec := .sl1 [ob] i64 fun x => szL x.1 0
/-! the law's own trial -/

def s13 : CSpec := .sl1 [] .bool fun _ => true
end Go.Proofs.Ytffdkniccaebmaa.Sto

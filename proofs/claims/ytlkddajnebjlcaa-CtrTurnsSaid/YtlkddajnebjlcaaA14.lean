/- What the functions of layer 3 (aes) give: the document's keys of the rounds. -/
import Derived.Test.YtlkddajnebjlcaaA13
set_option linter.unusedVariables false
set_option maxRecDepth 1000000
namespace Go.Proofs.Ytlkddajnebjlcaa.Aes
open Go Vse Go.Proofs

noncomputable def b45 : Code := ((loopsOf (bodyOf Try.f59))[0]?).getD .skip
def S45 : LSpec := ⟨[2, 3, 4, 5, 6], [2, 4], 67, [pt 1, pt 2, pt 3, u8, i64], [.box t16, .box t11, .box t256, .box t11]⟩
noncomputable def A45 : Loops := autoL Try.prog (ctx C3) 17 b45
def G45 (xs : HL S45.Ts) (hs : HD S45.Es) : Tr S45.End :=
  let pw := xs.2.2.2.1
  let n := xs.2.2.2.2.1
  let box := hs.2.2.1
  let o := hs.2.2.2.1
  .ite (decide (n ≤ 10)) (.chk (inArr (w (n - 1)) 11) (.chk (inArr n 11) (.ret (.inl (((), (), (), timesR pw 2, w (n + 1), ()), (hs.1, hs.2.1, box, (o : List (List Int)).set n.toNat (nextRow box (rowOf o (w (n - 1)).toNat) pw), ()))))))
    (.ret (.inr (.exit 0, encS [2, 4] [pt 1, pt 3] S45.Es 67 ((), (), ()) hs)))
theorem r45 (pw n : Int) (key box : List Int) (ret o : List (List Int)) : (S45.round (bodyK Try.prog (ctx C3) A45 b45) ((), (), (), pw, n, ()) (key, ret, box, o, ())).eval =
    (G45 ((), (), (), pw, n, ()) (key, ret, box, o, ())).eval := by kernel_rfl

noncomputable def L45 : Loops := fun j st => if j = 6 then S45.fn (S45.iter G45 11) st else .fail
theorem l45 : LoopOK Try.prog L45 b45 :=
  iter_ok (L' := A45) C3_sound (autoL_ok C3_sound 17 b45 A45 (of_decide_eq_true (by kernel_rfl)) fun _ _ _ => rfl) S45 (by kernel_rfl) (G := G45) (n := 11) (i := 6) (by kernel_rfl) (fun _ => rfl)
    fun xs hs r h => (r45 xs.2.2.2.1 xs.2.2.2.2.1 hs.1 hs.2.2.1 hs.2.1 hs.2.2.2.1).trans h

def s45 : CSpec := .fn1 [t16] t11 fun x => keysI x.1
theorem ok45 : CSound Try.prog 59 s45 ∧ CLocal s45 :=
  fn_okL (L := L45) C3_sound Try.func59 (by kernel_rfl) (fun b hb => by
    have : loopsOf (bodyOf Try.f59) = [b45] := by kernel_rfl
    rw [this] at hb
    rw [List.mem_singleton.1 hb]
    exact l45) (fun xs _ => by kernel_rfl) (fun xs _ => by kernel_rfl)

end Go.Proofs.Ytlkddajnebjlcaa.Aes

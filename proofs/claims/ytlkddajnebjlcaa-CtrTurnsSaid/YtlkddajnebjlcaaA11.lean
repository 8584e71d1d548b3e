/- What the functions of layer 3 (aes) give: the keys of the rounds. -/
import Derived.Test.YtlkddajnebjlcaaA10
set_option linter.unusedVariables false
set_option maxRecDepth 1000000
namespace Go.Proofs.Ytlkddajnebjlcaa.Aes
open Go Vse Go.Proofs

noncomputable def L44t : Loops := fun j st => if j = 5 then runLoop Try.prog (ctx C2) L44 11 b44o st else .fail

theorem l44o : LoopOK Try.prog L44t b44o :=
  runLoop_ok (L' := L44) C2_sound (loopsOK_all (fun b hb => by
    have : loopsOf b44o = [b44] := by kernel_rfl
    rw [this] at hb
    rw [List.mem_singleton.1 hb]
    exact l44)) (i := 5) (n := 11) (by kernel_rfl) (fun _ => rfl)

/-- the keys of the rounds -/
def keysI (key : List Int) : List (List Int) :=
  let r1 := nextRow boxL key 1
  let r2 := nextRow boxL r1 2
  let r3 := nextRow boxL r2 4
  let r4 := nextRow boxL r3 8
  let r5 := nextRow boxL r4 16
  let r6 := nextRow boxL r5 32
  let r7 := nextRow boxL r6 64
  let r8 := nextRow boxL r7 128
  let r9 := nextRow boxL r8 27
  let r10 := nextRow boxL r9 54
  [key, r1, r2, r3, r4, r5, r6, r7, r8, r9, r10]

def s44 : CSpec := .fn1 [t16] t11 fun x => keysI x.1
theorem ok44 : CSound Try.prog 63 s44 ∧ CLocal s44 :=
  fn_okL (L := L44t) C2_sound Try.func63 (by kernel_rfl) (fun b hb => by
    have : loopsOf (bodyOf Try.f63) = [b44o] := by kernel_rfl
    rw [this] at hb
    rw [List.mem_singleton.1 hb]
    exact l44o) (fun xs _ => by kernel_rfl) (fun xs _ => by kernel_rfl)

end Go.Proofs.Ytlkddajnebjlcaa.Aes

/- The laws of layer 4 (ctr): their own trial. -/
import Derived.Test.YtlkddajnebjlcaaL25
set_option linter.unusedVariables false
set_option maxRecDepth 100000
namespace Go.Proofs.Ytlkddajnebjlcaa.Ctr
open Go Vse Go.Proofs Gen

def cW : List (Nat × CSpec) := [(24, s24), (26, s26)]
theorem cW_sound : CtxSound Try.prog (ctx cW) ∧ CtxLocal (ctx cW) := ctx_sound ⟨ok24, ok26, trivial⟩
noncomputable def bW : Code := loopAt Try.f23 0
noncomputable def LW : Loops := fun j st => if j = 3 then runLoop Try.prog (ctx cW) L0 17 bW st else .fail
theorem lW : LoopOK Try.prog LW bW := runLoop_ok (L' := L0) cW_sound (loopsOK_of (by kernel_rfl)) (i := 3) (n := 17) (by kernel_rfl) (fun _ => rfl)

def s23 : CSpec := .slp1 [] (fun _ => true) .bool fun _ => true
theorem ok23 : CSound Try.prog 23 s23 ∧ CLocal s23 :=
  slpE1 (L := LW) cW_sound Try.func23 (by kernel_rfl) (loops1 (by kernel_rfl) lW) fun xs hx hp => by kernel_rfl

end Go.Proofs.Ytlkddajnebjlcaa.Ctr

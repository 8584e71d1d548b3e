/- The rows of layer 6 (span): the statements hold. -/
import Derived.Test.YtmhifhdgaikmhaaS3
import Derived.Test.YtmhifhdgaikmhaaRows
import Derived.ProofKit
set_option linter.unusedVariables false
set_option maxRecDepth 100000
namespace Go.Proofs.Ytmhifhdgaikmhaa
open Go Vse Go.Proofs Go.ChangeShapes Go.WideShapes Go.ChangeAt Go.RowKit

theorem own0 : ownKnob Try.prog.godebug = none := by kernel_rfl
theorem laid0 : laidOutB Try.prog = true := by kernel_rfl

theorem steps_lifted (os : Os) (started : os.Started) (H : Type) (enc : TypeId × Value → H) :
    ReturnsInHanded {} Try.checked os 4 .any (Rows.spanStepsSpec.pre6 enc Try.prog Try.f4 Rows.spanStepsRow.domain false) (Rows.spanStepsSpec.post enc Try.prog Try.f4 false true false false) := by
  refine returnsInHanded_of_change (C := Try.checked) own0 started (by kernel_rfl) Try.func4
    (ChangeSpec.witness6 (enc := enc) (C := Try.checked) false ⟨#[], #[.agg #[.int .i64 0, .int .i64 0], .agg #[.int .i64 0, .int .i64 0, .int .i64 0]], []⟩ 8 (by kernel_rfl) (by kernel_rfl) (by kernel_rfl) (by kernel_rfl)) ?_
  intro W base args ds gs before hval hW _ _
  refine law_calls0 (n := 8) (As := [Span.tS, .arr 3 Span.i64]) Span.L4_sound laid0 Try.func4 (by kernel_rfl) (by kernel_rfl) (tb := 4) (by kernel_rfl) (by kernel_rfl)
    ⟨rfl, fun ds h => ?_⟩ (fun xs hx => ?_) (fun xs hx => ?_) hval hW
  · match ds, h with
    | [d1, d2], _ => rfl
  · obtain ⟨⟨lo, hi, u⟩, l, v⟩ := xs
    obtain ⟨_, ⟨hl, _⟩, _⟩ := hx
    match l, hl with
    | [a, b, c], _ => exact Span.steps_fine _ _ _ _
  · obtain ⟨⟨lo, hi, u⟩, l, v⟩ := xs
    obtain ⟨_, ⟨hl, _⟩, _⟩ := hx
    match l, hl with
    | [a, b, c], _ => exact (Span.steps_fold _ _ _ _).trans (Span.steps_true _ _ _ _ _)

theorem spanSteps_holds : Rows.SpanStepsSaid :=
  OpenClaim.holds_of_wide 4 Try.f4 rfl rfl rfl rfl rfl rfl rfl ⟨rfl, rfl, rfl, rfl, rfl⟩ rfl rfl rfl rfl rfl (by kernel_rfl) Try.func4 (by kernel_rfl)
    (of_decide_eq_true (by kernel_rfl)) (by unfold Func.isWrapper; first | (rw [if_pos (by decide +kernel)]; kernel_rfl) | (rw [if_neg (by decide +kernel)]; exact ⟨rfl, rfl⟩))
    (fun os started H enc _ => steps_lifted os started H enc)

end Go.Proofs.Ytmhifhdgaikmhaa
#print axioms Go.Proofs.Ytmhifhdgaikmhaa.spanSteps_holds

/- The statements of layer 7 (sweep) hold. No conditions but the given ones. -/
import Derived.Test.YtmolcddccjgliaaU9
import Derived.Test.YtmolcddccjgliaaRows
import Derived.ProofKit
import Derived.SizedLaws
set_option linter.unusedVariables false
set_option maxRecDepth 100000
namespace Go.Proofs.Ytmolcddccjgliaa
open Gen
open Go Vse Go.Proofs Go.ChangeShapes Go.WideShapes Go.ChangeAt Go.RowKit

theorem own07 : ownKnob Try.prog.godebug = none := by kernel_rfl
theorem laid07 : laidOutB Try.prog = true := by kernel_rfl

theorem sweepTells_lifted (os : Os) (started : os.Started) (H : Type) (enc : TypeId × Value → H) :
    ReturnsInHanded {} Try.checked os 3 .any (Rows.sweepTellsSpec.pre6 enc Try.prog Try.f3 Rows.sweepTellsRow.domain false) (Rows.sweepTellsSpec.post enc Try.prog Try.f3 false true false false) := by
  refine returnsInHanded_of_change_sized (C := Try.checked) own07 started (by kernel_rfl) Try.func3
    (ChangeSpec.witness6 (enc := enc) (C := Try.checked) false ⟨#[], #[.slice none 0 0, .int .i64 0, .int .i64 0], []⟩ 8 (by kernel_rfl) (by kernel_rfl) (by kernel_rfl) (by kernel_rfl)) ?_
  intro W base args ds gs before hval hW _ hsz _
  refine law_callsT (n := 8) (As := [Sweep.sst, i64, i64]) (L := L0) Sweep.cV7_sound laid07 Try.func3 (by kernel_rfl) (noLoopsL (by kernel_rfl)) (by kernel_rfl) (tb := 4) (by kernel_rfl) (by kernel_rfl)
    ⟨rfl, fun ds h => ?_⟩ (fun xs hx hz => ?_) hval hW hsz
  · match ds, h with
    | [d1, d2, d3], _ => rfl
  · exact (Sweep.t3 _ _ _ _ _ _ _ _ _ _ _ _ xs.1 xs.2.1 xs.2.2.1).trans (Sweep.T3_true _ _ _)

theorem sweepTells_holds : Rows.SweepTellsSaid :=
  OpenClaim.holds_of_wide 3 Try.f3 rfl rfl rfl rfl rfl rfl rfl ⟨rfl, rfl, rfl, rfl, rfl⟩ rfl rfl rfl rfl rfl (by kernel_rfl) Try.func3 (by kernel_rfl)
    (of_decide_eq_true (by kernel_rfl)) (by unfold Func.isWrapper; first | (rw [if_pos (by decide +kernel)]; kernel_rfl) | (rw [if_neg (by decide +kernel)]; exact ⟨rfl, rfl⟩))
    (fun os started H enc _ => sweepTells_lifted os started H enc)

theorem sweepMore_lifted (os : Os) (started : os.Started) (H : Type) (enc : TypeId × Value → H) :
    ReturnsInHanded {} Try.checked os 4 .any (Rows.sweepMoreSpec.pre6 enc Try.prog Try.f4 Rows.sweepMoreRow.domain false) (Rows.sweepMoreSpec.post enc Try.prog Try.f4 false true false false) := by
  refine returnsInHanded_of_change_sized (C := Try.checked) own07 started (by kernel_rfl) Try.func4
    (ChangeSpec.witness6 (enc := enc) (C := Try.checked) false ⟨#[], #[.slice none 0 0, .int .i64 0], []⟩ 8 (by kernel_rfl) (by kernel_rfl) (by kernel_rfl) (by kernel_rfl)) ?_
  intro W base args ds gs before hval hW _ hsz _
  refine law_callsT (n := 8) (As := [Sweep.sst, i64]) (L := L0) Sweep.cV7_sound laid07 Try.func4 (by kernel_rfl) (noLoopsL (by kernel_rfl)) (by kernel_rfl) (tb := 4) (by kernel_rfl) (by kernel_rfl)
    ⟨rfl, fun ds h => ?_⟩ (fun xs hx hz => ?_) hval hW hsz
  · match ds, h with
    | [d1, d2], _ => rfl
  · exact (Sweep.t4 _ _ _ _ _ _ _ _ _ _ _ _ xs.1 xs.2.1).trans (Sweep.T4_true _ _)

theorem sweepMore_holds : Rows.SweepMoreSaid :=
  OpenClaim.holds_of_wide 4 Try.f4 rfl rfl rfl rfl rfl rfl rfl ⟨rfl, rfl, rfl, rfl, rfl⟩ rfl rfl rfl rfl rfl (by kernel_rfl) Try.func4 (by kernel_rfl)
    (of_decide_eq_true (by kernel_rfl)) (by unfold Func.isWrapper; first | (rw [if_pos (by decide +kernel)]; kernel_rfl) | (rw [if_neg (by decide +kernel)]; exact ⟨rfl, rfl⟩))
    (fun os started H enc _ => sweepMore_lifted os started H enc)

theorem sweepOrder_lifted (os : Os) (started : os.Started) (H : Type) (enc : TypeId × Value → H) :
    ReturnsInHanded {} Try.checked os 5 .any (Rows.sweepOrderSpec.pre6 enc Try.prog Try.f5 Rows.sweepOrderRow.domain false) (Rows.sweepOrderSpec.post enc Try.prog Try.f5 false true false false) := by
  refine returnsInHanded_of_change_sized (C := Try.checked) own07 started (by kernel_rfl) Try.func5
    (ChangeSpec.witness6 (enc := enc) (C := Try.checked) false ⟨#[], #[.slice none 0 0, .int .i64 0], []⟩ 8 (by kernel_rfl) (by kernel_rfl) (by kernel_rfl) (by kernel_rfl)) ?_
  intro W base args ds gs before hval hW _ hsz _
  refine law_callsT (n := 8) (As := [Sweep.sst, i64]) Sweep.cV7_sound laid07 Try.func5 (by kernel_rfl) (loops1 (by kernel_rfl) Sweep.lO) (by kernel_rfl) (tb := 4) (by kernel_rfl) (by kernel_rfl)
    ⟨rfl, fun ds h => ?_⟩ (fun xs hx hz => ?_) hval hW hsz
  · match ds, h with
    | [d1, d2], _ => rfl
  · exact (Sweep.t5 _ _ _ _ _ _ _ _ _ _ _ _ Sweep.cO1 Sweep.revT xs.1 xs.2.1).trans (Sweep.T5_true _ _)

theorem sweepOrder_holds : Rows.SweepOrderSaid :=
  OpenClaim.holds_of_wide 5 Try.f5 rfl rfl rfl rfl rfl rfl rfl ⟨rfl, rfl, rfl, rfl, rfl⟩ rfl rfl rfl rfl rfl (by kernel_rfl) Try.func5 (by kernel_rfl)
    (of_decide_eq_true (by kernel_rfl)) (by unfold Func.isWrapper; first | (rw [if_pos (by decide +kernel)]; kernel_rfl) | (rw [if_neg (by decide +kernel)]; exact ⟨rfl, rfl⟩))
    (fun os started H enc _ => sweepOrder_lifted os started H enc)

theorem sweepTrue_lifted (os : Os) (started : os.Started) (H : Type) (enc : TypeId × Value → H) :
    ReturnsInHanded {} Try.checked os 6 .any (Rows.sweepTrueSpec.pre6 enc Try.prog Try.f6 Rows.sweepTrueRow.domain false) (Rows.sweepTrueSpec.post enc Try.prog Try.f6 false true false false) := by
  refine returnsInHanded_of_change_sized (C := Try.checked) own07 started (by kernel_rfl) Try.func6
    (ChangeSpec.witness6 (enc := enc) (C := Try.checked) false ⟨#[], #[.slice none 0 0, .int .i64 0, .int .i64 0], []⟩ 8 (by kernel_rfl) (by kernel_rfl) (by kernel_rfl) (by kernel_rfl)) ?_
  intro W base args ds gs before hval hW _ hsz _
  refine law_callsT (n := 8) (As := [Sweep.sst, i64, i64]) Sweep.cV7_sound laid07 Try.func6 (by kernel_rfl) (loops1 (by kernel_rfl) Sweep.lT) (by kernel_rfl) (tb := 4) (by kernel_rfl) (by kernel_rfl)
    ⟨rfl, fun ds h => ?_⟩ (fun xs hx hz => ?_) hval hW hsz
  · match ds, h with
    | [d1, d2, d3], _ => rfl
  · exact (Sweep.t6 _ _ _ _ _ _ _ _ _ _ _ _ Sweep.cT1 Sweep.hB0 Sweep.tN Sweep.tH Sweep.tA Sweep.tD xs.1 xs.2.1 xs.2.2.1).trans (Sweep.T6_true _ _ _)

theorem sweepTrue_holds : Rows.SweepTrueSaid :=
  OpenClaim.holds_of_wide 6 Try.f6 rfl rfl rfl rfl rfl rfl rfl ⟨rfl, rfl, rfl, rfl, rfl⟩ rfl rfl rfl rfl rfl (by kernel_rfl) Try.func6 (by kernel_rfl)
    (of_decide_eq_true (by kernel_rfl)) (by unfold Func.isWrapper; first | (rw [if_pos (by decide +kernel)]; kernel_rfl) | (rw [if_neg (by decide +kernel)]; exact ⟨rfl, rfl⟩))
    (fun os started H enc _ => sweepTrue_lifted os started H enc)

end Go.Proofs.Ytmolcddccjgliaa
#print axioms Go.Proofs.Ytmolcddccjgliaa.sweepTells_holds
#print axioms Go.Proofs.Ytmolcddccjgliaa.sweepMore_holds
#print axioms Go.Proofs.Ytmolcddccjgliaa.sweepOrder_holds
#print axioms Go.Proofs.Ytmolcddccjgliaa.sweepTrue_holds

/- The statements of layer 8 (clock) hold. No conditions but the given ones. -/
import Derived.Test.YtmolcddccjgliaaV8
import Derived.Test.YtmolcddccjgliaaRows
import Derived.ProofKit
import Derived.SizedLaws
set_option linter.unusedVariables false
set_option maxRecDepth 100000
namespace Go.Proofs.Ytmolcddccjgliaa
open Gen
open Go Vse Go.Proofs Go.ChangeShapes Go.WideShapes Go.ChangeAt Go.RowKit

theorem own08 : ownKnob Try.prog.godebug = none := by kernel_rfl
theorem laid08 : laidOutB Try.prog = true := by kernel_rfl

theorem clockTells_lifted (os : Os) (started : os.Started) (H : Type) (enc : TypeId × Value → H) :
    ReturnsInHanded {} Try.checked os 7 .any (Rows.clockTellsSpec.pre6 enc Try.prog Try.f7 Rows.clockTellsRow.domain false) (Rows.clockTellsSpec.post enc Try.prog Try.f7 false true false false) := by
  refine returnsInHanded_of_change_sized (C := Try.checked) own08 started (by kernel_rfl) Try.func7
    (ChangeSpec.witness6 (enc := enc) (C := Try.checked) false ⟨#[], #[.agg #[.int .i64 0, .bool false, .int .i64 0, .int .i64 0, .int .i64 0], .slice none 0 0, .agg (Array.replicate 5 (.int .i64 0))], []⟩ 8 (by kernel_rfl) (by kernel_rfl) (by kernel_rfl) (by kernel_rfl)) ?_
  intro W base args ds gs before hval hW _ hsz _
  refine law_callsT (n := 8) (As := [Clock.tC, Sweep.sst, Clock.t5]) (L := L0) Clock.cV8_sound laid08 Try.func7 (by kernel_rfl) (noLoopsL (by kernel_rfl)) (by kernel_rfl) (tb := 4) (by kernel_rfl) (by kernel_rfl)
    ⟨rfl, fun ds h => ?_⟩ (fun xs hx hz => ?_) hval hW hsz
  · match ds, h with
    | [d1, d2, d3], _ => rfl
  · obtain ⟨c, l, n, u⟩ := xs
    have h1 : List.length (α := Int) n = 5 := hx.2.2.1.1
    match n, h1 with
    | [n0, n1, n2, n3, n4], _ => exact (Clock.t7 _ _ _ _ _ _ _ _ _ _ _ _ c l n0 n1 n2 n3 n4).trans (Clock.T7_true _ _ _ _ _ _ _)

theorem clockTells_holds : Rows.ClockTellsSaid :=
  OpenClaim.holds_of_wide 7 Try.f7 rfl rfl rfl rfl rfl rfl rfl ⟨rfl, rfl, rfl, rfl, rfl⟩ rfl rfl rfl rfl rfl (by kernel_rfl) Try.func7 (by kernel_rfl)
    (of_decide_eq_true (by kernel_rfl)) (by unfold Func.isWrapper; first | (rw [if_pos (by decide +kernel)]; kernel_rfl) | (rw [if_neg (by decide +kernel)]; exact ⟨rfl, rfl⟩))
    (fun os started H enc _ => clockTells_lifted os started H enc)

theorem clockTrue_lifted (os : Os) (started : os.Started) (H : Type) (enc : TypeId × Value → H) :
    ReturnsInHanded {} Try.checked os 8 .any (Rows.clockTrueSpec.pre6 enc Try.prog Try.f8 Rows.clockTrueRow.domain false) (Rows.clockTrueSpec.post enc Try.prog Try.f8 false true false false) := by
  refine returnsInHanded_of_change_sized (C := Try.checked) own08 started (by kernel_rfl) Try.func8
    (ChangeSpec.witness6 (enc := enc) (C := Try.checked) false ⟨#[], #[.slice none 0 0, .agg (Array.replicate 5 (.int .i64 0))], []⟩ 8 (by kernel_rfl) (by kernel_rfl) (by kernel_rfl) (by kernel_rfl)) ?_
  intro W base args ds gs before hval hW _ hsz _
  refine law_callsT (n := 8) (As := [Clock.svt, Clock.t5]) Clock.cV9_sound laid08 Try.func8 (by kernel_rfl) (loops1 (by kernel_rfl) Clock.lZ) (by kernel_rfl) (tb := 4) (by kernel_rfl) (by kernel_rfl)
    ⟨rfl, fun ds h => ?_⟩ (fun xs hx hz => ?_) hval hW hsz
  · match ds, h with
    | [d1, d2], _ => rfl
  · obtain ⟨l, n, u⟩ := xs
    have h1 : List.length (α := Int) n = 5 := hx.2.1.1
    match n, h1 with
    | [n0, n1, n2, n3, n4], _ => exact (Clock.t8 true Sweep.okL Clock.sampF Clock.newF Clock.nowF Clock.setF Clock.growF Sweep.rRightF Sweep.hasF Clock.partedF Clock.cZ1 Clock.zB Clock.zE l n0 n1 n2 n3 n4).trans (Clock.T8_true _ _ _ _ _ _)

theorem clockTrue_holds : Rows.ClockTrueSaid :=
  OpenClaim.holds_of_wide 8 Try.f8 rfl rfl rfl rfl rfl rfl rfl ⟨rfl, rfl, rfl, rfl, rfl⟩ rfl rfl rfl rfl rfl (by kernel_rfl) Try.func8 (by kernel_rfl)
    (of_decide_eq_true (by kernel_rfl)) (by unfold Func.isWrapper; first | (rw [if_pos (by decide +kernel)]; kernel_rfl) | (rw [if_neg (by decide +kernel)]; exact ⟨rfl, rfl⟩))
    (fun os started H enc _ => clockTrue_lifted os started H enc)

end Go.Proofs.Ytmolcddccjgliaa
#print axioms Go.Proofs.Ytmolcddccjgliaa.clockTells_holds
#print axioms Go.Proofs.Ytmolcddccjgliaa.clockTrue_holds

/- The rows of layer 6 (span): the other three statements hold. -/
import Derived.Test.YtmhifhdgaikmhaaS6
import Derived.Test.YtmhifhdgaikmhaaS4
set_option linter.unusedVariables false
set_option maxRecDepth 100000
namespace Go.Proofs.Ytmhifhdgaikmhaa
open Go Vse Go.Proofs Go.ChangeShapes Go.WideShapes Go.ChangeAt Go.RowKit

theorem grows_lifted (os : Os) (started : os.Started) (H : Type) (enc : TypeId × Value → H) :
    ReturnsInHanded {} Try.checked os 3 .any (Rows.spanGrowsSpec.pre6 enc Try.prog Try.f3 Rows.spanGrowsRow.domain false) (Rows.spanGrowsSpec.post enc Try.prog Try.f3 false true false false) := by
  refine returnsInHanded_of_change (C := Try.checked) own0 started (by kernel_rfl) Try.func3
    (ChangeSpec.witness6 (enc := enc) (C := Try.checked) false ⟨#[], #[.agg #[.int .i64 0, .int .i64 0], .agg #[.int .i64 0, .int .i64 0, .int .i64 0, .int .i64 0]], []⟩ 8 (by kernel_rfl) (by kernel_rfl) (by kernel_rfl) (by kernel_rfl)) ?_
  intro W base args ds gs before hval hW _ _
  refine law_calls0 (n := 8) (As := [Span.tS, .arr 4 Span.i64]) Span.L4_sound laid0 Try.func3 (by kernel_rfl) (by kernel_rfl) (tb := 4) (by kernel_rfl) (by kernel_rfl)
    ⟨rfl, fun ds h => ?_⟩ (fun xs hx => ?_) (fun xs hx => ?_) hval hW
  · match ds, h with
    | [d1, d2], _ => rfl
  · obtain ⟨⟨lo, hi, u⟩, l, v⟩ := xs
    obtain ⟨_, ⟨hl, _⟩, _⟩ := hx
    match l, hl with
    | [a, b, c, d], _ => exact Span.grows_fine _ _ _ _ _
  · obtain ⟨⟨lo, hi, u⟩, l, v⟩ := xs
    obtain ⟨_, ⟨hl, hw⟩, _⟩ := hx
    match l, hl, hw with
    | [a, b, c, d], _, hw =>
      have ha : (Lit.int .i64 a).wf = true := hw a (by simp)
      have ha : -9223372036854775808 ≤ a ∧ a ≤ 9223372036854775807 := by
        simp [Lit.wf, IntKind.min, IntKind.max, IntKind.signed, IntKind.bits] at ha
        omega
      exact (Span.grows_fold _ _ _ _ _).trans (Span.grows_true _ _ _ _ _ _ ha)

theorem spanGrows_holds : Rows.SpanGrowsSaid :=
  OpenClaim.holds_of_wide 3 Try.f3 rfl rfl rfl rfl rfl rfl rfl ⟨rfl, rfl, rfl, rfl, rfl⟩ rfl rfl rfl rfl rfl (by kernel_rfl) Try.func3 (by kernel_rfl)
    (of_decide_eq_true (by kernel_rfl)) (by unfold Func.isWrapper; first | (rw [if_pos (by decide +kernel)]; kernel_rfl) | (rw [if_neg (by decide +kernel)]; exact ⟨rfl, rfl⟩))
    (fun os started H enc _ => grows_lifted os started H enc)

theorem tells_lifted (os : Os) (started : os.Started) (H : Type) (enc : TypeId × Value → H) :
    ReturnsInHanded {} Try.checked os 5 .any (Rows.spanTellsSpec.pre6 enc Try.prog Try.f5 Rows.spanTellsRow.domain false) (Rows.spanTellsSpec.post enc Try.prog Try.f5 false true false false) := by
  refine returnsInHanded_of_change (C := Try.checked) own0 started (by kernel_rfl) Try.func5
    (ChangeSpec.witness6 (enc := enc) (C := Try.checked) false ⟨#[], #[.agg #[.int .i64 0, .int .i64 0], .agg #[.int .i64 0, .int .i64 0], .agg #[.int .i64 0, .int .i64 0, .int .i64 0]], []⟩ 8 (by kernel_rfl) (by kernel_rfl) (by kernel_rfl) (by kernel_rfl)) ?_
  intro W base args ds gs before hval hW _ _
  refine law_calls0 (n := 8) (As := [Span.tS, Span.tS, .arr 3 Span.i64]) Span.L4_sound laid0 Try.func5 (by kernel_rfl) (by kernel_rfl) (tb := 4) (by kernel_rfl) (by kernel_rfl)
    ⟨rfl, fun ds h => ?_⟩ (fun xs hx => ?_) (fun xs hx => ?_) hval hW
  · match ds, h with
    | [d1, d2, d3], _ => rfl
  · obtain ⟨⟨lo, hi, u⟩, ⟨lo', hi', u'⟩, l, v⟩ := xs
    obtain ⟨_, _, ⟨hl, _⟩, _⟩ := hx
    match l, hl with
    | [a, b, c], _ => exact Span.tells_fine _ _ _ _ _
  · obtain ⟨⟨lo, hi, u⟩, ⟨lo', hi', u'⟩, l, v⟩ := xs
    obtain ⟨_, _, ⟨hl, _⟩, _⟩ := hx
    match l, hl with
    | [a, b, c], _ => exact (Span.tells_fold _ _ _ _ _).trans (Span.tells_true _ _ _ _ _ _ _)

theorem spanTells_holds : Rows.SpanTellsSaid :=
  OpenClaim.holds_of_wide 5 Try.f5 rfl rfl rfl rfl rfl rfl rfl ⟨rfl, rfl, rfl, rfl, rfl⟩ rfl rfl rfl rfl rfl (by kernel_rfl) Try.func5 (by kernel_rfl)
    (of_decide_eq_true (by kernel_rfl)) (by unfold Func.isWrapper; first | (rw [if_pos (by decide +kernel)]; kernel_rfl) | (rw [if_neg (by decide +kernel)]; exact ⟨rfl, rfl⟩))
    (fun os started H enc _ => tells_lifted os started H enc)

theorem meets_lifted (os : Os) (started : os.Started) (H : Type) (enc : TypeId × Value → H) :
    ReturnsInHanded {} Try.checked os 6 .any (Rows.spanMeetsSpec.pre6 enc Try.prog Try.f6 Rows.spanMeetsRow.domain false) (Rows.spanMeetsSpec.post enc Try.prog Try.f6 false true false false) := by
  refine returnsInHanded_of_change (C := Try.checked) own0 started (by kernel_rfl) Try.func6
    (ChangeSpec.witness6 (enc := enc) (C := Try.checked) false ⟨#[], #[.agg #[.int .i64 0, .int .i64 0], .agg #[.int .i64 0, .int .i64 0], .int .i64 0], []⟩ 8 (by kernel_rfl) (by kernel_rfl) (by kernel_rfl) (by kernel_rfl)) ?_
  intro W base args ds gs before hval hW _ _
  refine law_calls0 (n := 8) (As := [Span.tS, Span.tS, Span.i64]) Span.L4_sound laid0 Try.func6 (by kernel_rfl) (by kernel_rfl) (tb := 4) (by kernel_rfl) (by kernel_rfl)
    ⟨rfl, fun ds h => ?_⟩ (fun xs hx => ?_) (fun xs hx => ?_) hval hW
  · match ds, h with
    | [d1, d2, d3], _ => rfl
  · exact Span.meets_fine xs.1 xs.2.1 xs.2.2.1
  · obtain ⟨⟨lo, hi, u⟩, ⟨lo', hi', u'⟩, t, v⟩ := xs
    exact (Span.meets_fold _ _ _).trans (Span.meets_true _ _ _ _ _)

theorem spanMeets_holds : Rows.SpanMeetsSaid :=
  OpenClaim.holds_of_wide 6 Try.f6 rfl rfl rfl rfl rfl rfl rfl ⟨rfl, rfl, rfl, rfl, rfl⟩ rfl rfl rfl rfl rfl (by kernel_rfl) Try.func6 (by kernel_rfl)
    (of_decide_eq_true (by kernel_rfl)) (by unfold Func.isWrapper; first | (rw [if_pos (by decide +kernel)]; kernel_rfl) | (rw [if_neg (by decide +kernel)]; exact ⟨rfl, rfl⟩))
    (fun os started H enc _ => meets_lifted os started H enc)

end Go.Proofs.Ytmhifhdgaikmhaa
#print axioms Go.Proofs.Ytmhifhdgaikmhaa.spanGrows_holds
#print axioms Go.Proofs.Ytmhifhdgaikmhaa.spanTells_holds
#print axioms Go.Proofs.Ytmhifhdgaikmhaa.spanMeets_holds

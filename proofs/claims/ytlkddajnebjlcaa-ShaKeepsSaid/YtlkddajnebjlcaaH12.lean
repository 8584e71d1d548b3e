/- The statements of layer 1 (sha) hold: the digest is the document's; however bytes are written in parts it is that of them all; what was written stays. No conditions but the given ones. -/
import Derived.Test.YtlkddajnebjlcaaH13
import Derived.Test.YtlkddajnebjlcaaRows
import Derived.ProofKit
import Derived.SizedLaws
set_option linter.unusedVariables false
set_option maxRecDepth 100000
namespace Go.Proofs.Ytlkddajnebjlcaa
open Go Vse Go.Proofs Go.ChangeShapes Go.WideShapes Go.ChangeAt Go.RowKit

theorem own0 : ownKnob Try.prog.godebug = none := by kernel_rfl
theorem laid0 : laidOutB Try.prog = true := by kernel_rfl

theorem parts_lifted (os : Os) (started : os.Started) (H : Type) (enc : TypeId × Value → H) :
    ReturnsInHanded {} Try.checked os 4 .any (Rows.shaPartsSpec.pre6 enc Try.prog Try.f4 Rows.shaPartsRow.domain false) (Rows.shaPartsSpec.post enc Try.prog Try.f4 false true false false) := by
  refine returnsInHanded_of_change_sized (C := Try.checked) own0 started (by kernel_rfl) Try.func4
    (ChangeSpec.witness6 (enc := enc) (C := Try.checked) false ⟨#[], #[.slice none 0 0], []⟩ 8 (by kernel_rfl) (by kernel_rfl) (by kernel_rfl) (by kernel_rfl)) ?_
  intro W base args ds gs before hval hW _ hsz _
  refine law_callsT (n := 8) (As := [Gen.lt]) Sha.cL_sound laid0 Try.func4 (by kernel_rfl) (loops1 (by kernel_rfl) Sha.lP) (by kernel_rfl) (tb := 4) (by kernel_rfl) (by kernel_rfl)
    ⟨rfl, fun ds h => ?_⟩ (fun xs hx hz => ?_) hval hW hsz
  · match ds, h with
    | [d1], _ => rfl
  · exact (Sha.t4 _ _ _ _ _ _ _ _ _ Sha.cP Sha.zP xs.1).trans (Sha.T4_true (Sha.preAll_sz hz.1))

theorem shaParts_holds : Rows.ShaPartsSaid :=
  OpenClaim.holds_of_wide 4 Try.f4 rfl rfl rfl rfl rfl rfl rfl ⟨rfl, rfl, rfl, rfl, rfl⟩ rfl rfl rfl rfl rfl (by kernel_rfl) Try.func4 (by kernel_rfl)
    (of_decide_eq_true (by kernel_rfl)) (by unfold Func.isWrapper; first | (rw [if_pos (by decide +kernel)]; kernel_rfl) | (rw [if_neg (by decide +kernel)]; exact ⟨rfl, rfl⟩))
    (fun os started H enc _ => parts_lifted os started H enc)

theorem keeps_lifted (os : Os) (started : os.Started) (H : Type) (enc : TypeId × Value → H) :
    ReturnsInHanded {} Try.checked os 5 .any (Rows.shaKeepsSpec.pre6 enc Try.prog Try.f5 Rows.shaKeepsRow.domain false) (Rows.shaKeepsSpec.post enc Try.prog Try.f5 false true false false) := by
  refine returnsInHanded_of_change_sized (C := Try.checked) own0 started (by kernel_rfl) Try.func5
    (ChangeSpec.witness6 (enc := enc) (C := Try.checked) false ⟨#[], #[.slice none 0 0, .int .i64 0], []⟩ 8 (by kernel_rfl) (by kernel_rfl) (by kernel_rfl) (by kernel_rfl)) ?_
  intro W base args ds gs before hval hW _ hsz _
  refine law_callsT (n := 8) (As := [Gen.bt, Gen.i64]) (L := L0) Sha.cL_sound laid0 Try.func5 (by kernel_rfl) (noLoopsL (by kernel_rfl)) (by kernel_rfl) (tb := 4) (by kernel_rfl) (by kernel_rfl)
    ⟨rfl, fun ds h => ?_⟩ (fun xs hx hz => ?_) hval hW hsz
  · match ds, h with
    | [d1, d2], _ => rfl
  · exact (Sha.t5 _ _ _ _ _ _ _ _ _ xs.1 xs.2.1).trans Sha.T5_true

theorem shaKeeps_holds : Rows.ShaKeepsSaid :=
  OpenClaim.holds_of_wide 5 Try.f5 rfl rfl rfl rfl rfl rfl rfl ⟨rfl, rfl, rfl, rfl, rfl⟩ rfl rfl rfl rfl rfl (by kernel_rfl) Try.func5 (by kernel_rfl)
    (of_decide_eq_true (by kernel_rfl)) (by unfold Func.isWrapper; first | (rw [if_pos (by decide +kernel)]; kernel_rfl) | (rw [if_neg (by decide +kernel)]; exact ⟨rfl, rfl⟩))
    (fun os started H enc _ => keeps_lifted os started H enc)

theorem sums_lifted (os : Os) (started : os.Started) (H : Type) (enc : TypeId × Value → H) :
    ReturnsInHanded {} Try.checked os 3 .any (Rows.shaSumsSpec.pre6 enc Try.prog Try.f3 Rows.shaSumsRow.domain false) (Rows.shaSumsSpec.post enc Try.prog Try.f3 false true false false) := by
  refine returnsInHanded_of_change_sized (C := Try.checked) own0 started (by kernel_rfl) Try.func3
    (ChangeSpec.witness6 (enc := enc) (C := Try.checked) false ⟨#[], #[.slice none 0 0], []⟩ 8 (by kernel_rfl) (by kernel_rfl) (by kernel_rfl) (by kernel_rfl)) ?_
  intro W base args ds gs before hval hW _ hsz _
  refine law_callsT (n := 8) (As := [Gen.bt]) (L := L0) Sha.cL_sound laid0 Try.func3 (by kernel_rfl) (noLoopsL (by kernel_rfl)) (by kernel_rfl) (tb := 4) (by kernel_rfl) (by kernel_rfl)
    ⟨rfl, fun ds h => ?_⟩ (fun xs hx hz => ?_) hval hW hsz
  · match ds, h with
    | [d1], _ => rfl
  · exact (Sha.t3 _ _ _ _ _ _ _ _ _ xs.1).trans (Sha.T3_true (Sha.bytes_wf hx.1))

theorem shaSums_holds : Rows.ShaSumsSaid :=
  OpenClaim.holds_of_wide 3 Try.f3 rfl rfl rfl rfl rfl rfl rfl ⟨rfl, rfl, rfl, rfl, rfl⟩ rfl rfl rfl rfl rfl (by kernel_rfl) Try.func3 (by kernel_rfl)
    (of_decide_eq_true (by kernel_rfl)) (by unfold Func.isWrapper; first | (rw [if_pos (by decide +kernel)]; kernel_rfl) | (rw [if_neg (by decide +kernel)]; exact ⟨rfl, rfl⟩))
    (fun os started H enc _ => sums_lifted os started H enc)

end Go.Proofs.Ytlkddajnebjlcaa
#print axioms Go.Proofs.Ytlkddajnebjlcaa.shaSums_holds
#print axioms Go.Proofs.Ytlkddajnebjlcaa.shaParts_holds
#print axioms Go.Proofs.Ytlkddajnebjlcaa.shaKeeps_holds

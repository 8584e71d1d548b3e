/- The statements of layer 2 (mac) hold. No conditions but the given ones. -/
import Derived.Test.YtlkddajnebjlcaaK8
import Derived.Test.YtlkddajnebjlcaaRows
import Derived.ProofKit
import Derived.SizedLaws
set_option linter.unusedVariables false
set_option maxRecDepth 100000
namespace Go.Proofs.Ytlkddajnebjlcaa
open Go Vse Go.Proofs Go.ChangeShapes Go.WideShapes Go.ChangeAt Go.RowKit

theorem own02 : ownKnob Try.prog.godebug = none := by kernel_rfl
theorem laid02 : laidOutB Try.prog = true := by kernel_rfl

theorem macTells_lifted (os : Os) (started : os.Started) (H : Type) (enc : TypeId × Value → H) :
    ReturnsInHanded {} Try.checked os 11 .any (Rows.macTellsSpec.pre6 enc Try.prog Try.f11 Rows.macTellsRow.domain false) (Rows.macTellsSpec.post enc Try.prog Try.f11 false true false false) := by
  refine returnsInHanded_of_change_sized (C := Try.checked) own02 started (by kernel_rfl) Try.func11
    (ChangeSpec.witness6 (enc := enc) (C := Try.checked) false ⟨#[], #[.slice none 0 0, .slice none 0 0, .int .i64 0], []⟩ 8 (by kernel_rfl) (by kernel_rfl) (by kernel_rfl) (by kernel_rfl)) ?_
  intro W base args ds gs before hval hW _ hsz _
  refine law_callsT (n := 8) (As := [Gen.bt, Gen.bt, Gen.i64]) (L := L0) Mac.cL_sound laid02 Try.func11 (by kernel_rfl) (noLoopsL (by kernel_rfl)) (by kernel_rfl) (tb := 4) (by kernel_rfl) (by kernel_rfl)
    ⟨rfl, fun ds h => ?_⟩ (fun xs hx hz => ?_) hval hW hsz
  · match ds, h with
    | [d1, d2, d3], _ => rfl
  · exact (Mac.t11 _ _ _ _ _ _ _ _ _ _ _ xs.1 xs.2.1 xs.2.2.1).trans (Mac.T11_true (Sha.bytes_wf hx.1) (Sha.bytes_wf hx.2.1))

theorem macTells_holds : Rows.MacTellsSaid :=
  OpenClaim.holds_of_wide 11 Try.f11 rfl rfl rfl rfl rfl rfl rfl ⟨rfl, rfl, rfl, rfl, rfl⟩ rfl rfl rfl rfl rfl (by kernel_rfl) Try.func11 (by kernel_rfl)
    (of_decide_eq_true (by kernel_rfl)) (by unfold Func.isWrapper; first | (rw [if_pos (by decide +kernel)]; kernel_rfl) | (rw [if_neg (by decide +kernel)]; exact ⟨rfl, rfl⟩))
    (fun os started H enc _ => macTells_lifted os started H enc)

theorem macParts_lifted (os : Os) (started : os.Started) (H : Type) (enc : TypeId × Value → H) :
    ReturnsInHanded {} Try.checked os 9 .any (Rows.macPartsSpec.pre6 enc Try.prog Try.f9 Rows.macPartsRow.domain false) (Rows.macPartsSpec.post enc Try.prog Try.f9 false true false false) := by
  refine returnsInHanded_of_change_sized (C := Try.checked) own02 started (by kernel_rfl) Try.func9
    (ChangeSpec.witness6 (enc := enc) (C := Try.checked) false ⟨#[], #[.slice none 0 0, .slice none 0 0, .int .i64 0], []⟩ 8 (by kernel_rfl) (by kernel_rfl) (by kernel_rfl) (by kernel_rfl)) ?_
  intro W base args ds gs before hval hW _ hsz _
  refine law_callsT (n := 8) (As := [Gen.bt, Gen.lt, Gen.i64]) Mac.cL_sound laid02 Try.func9 (by kernel_rfl) (loops1 (by kernel_rfl) Mac.lP1) (by kernel_rfl) (tb := 4) (by kernel_rfl) (by kernel_rfl)
    ⟨rfl, fun ds h => ?_⟩ (fun xs hx hz => ?_) hval hW hsz
  · match ds, h with
    | [d1, d2, d3], _ => rfl
  · exact (Mac.t9 _ _ _ _ _ _ _ _ _ _ _ Mac.cP1 Mac.padZ xs.1 xs.2.1 xs.2.2.1).trans (Mac.T9_true (Sha.preAll_sz hz.2.1))

theorem macParts_holds : Rows.MacPartsSaid :=
  OpenClaim.holds_of_wide 9 Try.f9 rfl rfl rfl rfl rfl rfl rfl ⟨rfl, rfl, rfl, rfl, rfl⟩ rfl rfl rfl rfl rfl (by kernel_rfl) Try.func9 (by kernel_rfl)
    (of_decide_eq_true (by kernel_rfl)) (by unfold Func.isWrapper; first | (rw [if_pos (by decide +kernel)]; kernel_rfl) | (rw [if_neg (by decide +kernel)]; exact ⟨rfl, rfl⟩))
    (fun os started H enc _ => macParts_lifted os started H enc)

theorem macFirst_lifted (os : Os) (started : os.Started) (H : Type) (enc : TypeId × Value → H) :
    ReturnsInHanded {} Try.checked os 10 .any (Rows.macFirstSpec.pre6 enc Try.prog Try.f10 Rows.macFirstRow.domain false) (Rows.macFirstSpec.post enc Try.prog Try.f10 false true false false) := by
  refine returnsInHanded_of_change_sized (C := Try.checked) own02 started (by kernel_rfl) Try.func10
    (ChangeSpec.witness6 (enc := enc) (C := Try.checked) false ⟨#[], #[.slice none 0 0, .string ByteArray.empty, .agg #[.int .i64 0, .int .i64 0]], []⟩ 8 (by kernel_rfl) (by kernel_rfl) (by kernel_rfl) (by kernel_rfl)) ?_
  intro W base args ds gs before hval hW _ hsz _
  refine law_callsT (n := 8) (As := [Gen.bt, .str, .arr 2 Gen.i64]) (L := L0) Mac.cL_sound laid02 Try.func10 (by kernel_rfl) (noLoopsL (by kernel_rfl)) (by kernel_rfl) (tb := 4) (by kernel_rfl) (by kernel_rfl)
    ⟨rfl, fun ds h => ?_⟩ (fun xs hx hz => ?_) hval hW hsz
  · match ds, h with
    | [d1, d2, d3], _ => rfl
  · obtain ⟨key, s, l, u⟩ := xs
    have h2 : List.length (α := Int) l = 2 := hx.2.2.1.1
    match l, h2 with
    | [x, y], _ => exact (Mac.t10 Mac.macL Mac.macP Mac.expF Mac.expP Mac.eqF Mac.rmacF Mac.oneP Mac.rexpF Mac.expP Mac.macF Mac.oneP key s x y).trans Mac.T10_true

theorem macFirst_holds : Rows.MacFirstSaid :=
  OpenClaim.holds_of_wide 10 Try.f10 rfl rfl rfl rfl rfl rfl rfl ⟨rfl, rfl, rfl, rfl, rfl⟩ rfl rfl rfl rfl rfl (by kernel_rfl) Try.func10 (by kernel_rfl)
    (of_decide_eq_true (by kernel_rfl)) (by unfold Func.isWrapper; first | (rw [if_pos (by decide +kernel)]; kernel_rfl) | (rw [if_neg (by decide +kernel)]; exact ⟨rfl, rfl⟩))
    (fun os started H enc _ => macFirst_lifted os started H enc)

end Go.Proofs.Ytlkddajnebjlcaa
#print axioms Go.Proofs.Ytlkddajnebjlcaa.macTells_holds
#print axioms Go.Proofs.Ytlkddajnebjlcaa.macParts_holds
#print axioms Go.Proofs.Ytlkddajnebjlcaa.macFirst_holds

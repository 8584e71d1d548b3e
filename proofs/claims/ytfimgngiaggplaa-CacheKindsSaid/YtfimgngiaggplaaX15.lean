/- The statements of layer 11 (cache) hold. No conditions but the given ones. -/
import Derived.Test.YtfimgngiaggplaaX14
import Derived.Test.YtfimgngiaggplaaRows
import Derived.ProofKit
import Derived.SizedLaws
set_option linter.unusedVariables false
set_option maxRecDepth 100000
namespace Go.Proofs.Ytfimgngiaggplaa
open Go Vse Go.Proofs Go.ChangeShapes Go.WideShapes Go.ChangeAt Go.RowKit

theorem own11 : ownKnob Try.prog.godebug = none := by kernel_rfl
theorem laid11 : laidOutB Try.prog = true := by kernel_rfl

theorem cacheDoes_lifted (os : Os) (started : os.Started) (H : Type) (enc : TypeId × Value → H) :
    ReturnsInHanded {} Try.checked os 8 .any (Rows.cacheDoesSpec.pre6 enc Try.prog Try.f8 Rows.cacheDoesRow.domain false) (Rows.cacheDoesSpec.post enc Try.prog Try.f8 false true false false) := by
  refine returnsInHanded_of_change_sized (C := Try.checked) own11 started (by kernel_rfl) Try.func8
    (ChangeSpec.witness6 (enc := enc) (C := Try.checked) false ⟨#[], #[.int .i64 0, .slice none 0 0], []⟩ 8 (by kernel_rfl) (by kernel_rfl) (by kernel_rfl) (by kernel_rfl)) ?_
  intro W base args ds gs before hval hW _ hsz _
  refine law_callsT (n := 8) (As := [Gen.i64, Cache.lOp]) Cache.cD_sound laid11 Try.func8 (by kernel_rfl) (loops1 (by kernel_rfl) Cache.lD) (by kernel_rfl) (tb := 4) (by kernel_rfl) (by kernel_rfl)
    ⟨rfl, fun ds h => ?_⟩ (fun xs hx hz => ?_) hval hW hsz
  · match ds, h with
    | [d1, d2], _ => rfl
  · exact (Cache.tD _ _ _ _ _ _ _ _ _ _ _ _ _ _ (fun l i t r => Cache.cD1 l i t r) xs.1 xs.2.1).trans Cache.TD_true

theorem cacheDoes_holds : Rows.CacheDoesSaid :=
  OpenClaim.holds_of_wide 8 Try.f8 rfl rfl rfl rfl rfl rfl rfl ⟨rfl, rfl, rfl, rfl, rfl⟩ rfl rfl rfl rfl rfl (by kernel_rfl) Try.func8 (by kernel_rfl)
    (of_decide_eq_true (by kernel_rfl)) (by unfold Func.isWrapper; first | (rw [if_pos (by decide +kernel)]; kernel_rfl) | (rw [if_neg (by decide +kernel)]; exact ⟨rfl, rfl⟩))
    (fun os started H enc _ => cacheDoes_lifted os started H enc)

theorem cacheBound_lifted (os : Os) (started : os.Started) (H : Type) (enc : TypeId × Value → H) :
    ReturnsInHanded {} Try.checked os 9 .any (Rows.cacheBoundSpec.pre6 enc Try.prog Try.f9 Rows.cacheBoundRow.domain false) (Rows.cacheBoundSpec.post enc Try.prog Try.f9 false true false false) := by
  refine returnsInHanded_of_change_sized (C := Try.checked) own11 started (by kernel_rfl) Try.func9
    (ChangeSpec.witness6 (enc := enc) (C := Try.checked) false ⟨#[], #[.int .i64 0, .slice none 0 0], []⟩ 8 (by kernel_rfl) (by kernel_rfl) (by kernel_rfl) (by kernel_rfl)) ?_
  intro W base args ds gs before hval hW _ hsz _
  refine law_callsT (n := 8) (As := [Gen.i64, Cache.lOp]) Cache.cB_sound laid11 Try.func9 (by kernel_rfl) (loops1 (by kernel_rfl) Cache.lB) (by kernel_rfl) (tb := 4) (by kernel_rfl) (by kernel_rfl)
    ⟨rfl, fun ds h => ?_⟩ (fun xs hx hz => ?_) hval hW hsz
  · match ds, h with
    | [d1, d2], _ => rfl
  · exact (Cache.tB _ _ _ _ _ _ (fun m l i t => Cache.cB1 m l i t) xs.1 xs.2.1).trans Cache.TB_true

theorem cacheBound_holds : Rows.CacheBoundSaid :=
  OpenClaim.holds_of_wide 9 Try.f9 rfl rfl rfl rfl rfl rfl rfl ⟨rfl, rfl, rfl, rfl, rfl⟩ rfl rfl rfl rfl rfl (by kernel_rfl) Try.func9 (by kernel_rfl)
    (of_decide_eq_true (by kernel_rfl)) (by unfold Func.isWrapper; first | (rw [if_pos (by decide +kernel)]; kernel_rfl) | (rw [if_neg (by decide +kernel)]; exact ⟨rfl, rfl⟩))
    (fun os started H enc _ => cacheBound_lifted os started H enc)

theorem cacheKinds_lifted (os : Os) (started : os.Started) (H : Type) (enc : TypeId × Value → H) :
    ReturnsInHanded {} Try.checked os 10 .any (Rows.cacheKindsSpec.pre6 enc Try.prog Try.f10 Rows.cacheKindsRow.domain false) (Rows.cacheKindsSpec.post enc Try.prog Try.f10 false true false false) := by
  refine returnsInHanded_of_change_sized (C := Try.checked) own11 started (by kernel_rfl) Try.func10
    (ChangeSpec.witness6 (enc := enc) (C := Try.checked) false ⟨#[], #[.int .i64 0, .slice none 0 0], []⟩ 8 (by kernel_rfl) (by kernel_rfl) (by kernel_rfl) (by kernel_rfl)) ?_
  intro W base args ds gs before hval hW _ hsz _
  refine law_callsT (n := 8) (As := [Gen.i64, Cache.lOp]) Cache.cK_sound laid11 Try.func10 (by kernel_rfl) (loops1 (by kernel_rfl) Cache.lK) (by kernel_rfl) (tb := 4) (by kernel_rfl) (by kernel_rfl)
    ⟨rfl, fun ds h => ?_⟩ (fun xs hx hz => ?_) hval hW hsz
  · match ds, h with
    | [d1, d2], _ => rfl
  · exact (Cache.tK _ _ _ _ _ _ _ _ _ (fun l i t r => Cache.cK1 l i t r) xs.1 xs.2.1).trans Cache.TK_true

theorem cacheKinds_holds : Rows.CacheKindsSaid :=
  OpenClaim.holds_of_wide 10 Try.f10 rfl rfl rfl rfl rfl rfl rfl ⟨rfl, rfl, rfl, rfl, rfl⟩ rfl rfl rfl rfl rfl (by kernel_rfl) Try.func10 (by kernel_rfl)
    (of_decide_eq_true (by kernel_rfl)) (by unfold Func.isWrapper; first | (rw [if_pos (by decide +kernel)]; kernel_rfl) | (rw [if_neg (by decide +kernel)]; exact ⟨rfl, rfl⟩))
    (fun os started H enc _ => cacheKinds_lifted os started H enc)

end Go.Proofs.Ytfimgngiaggplaa
#print axioms Go.Proofs.Ytfimgngiaggplaa.cacheDoes_holds
#print axioms Go.Proofs.Ytfimgngiaggplaa.cacheBound_holds
#print axioms Go.Proofs.Ytfimgngiaggplaa.cacheKinds_holds

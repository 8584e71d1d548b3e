/- The statement of layer 14 (journal) holds: behind a crash what opens has all records whose Add was OK, perhaps one more, and nothing else. No conditions but the given ones. -/
import Derived.Test.YtffdkniccaebmaaJ12
import Derived.Test.YtffdkniccaebmaaRows
import Derived.ProofKit
import Derived.SizedLaws
set_option linter.unusedVariables false
set_option maxRecDepth 100000
namespace Go.Proofs.Ytffdkniccaebmaa
open Go Vse Go.Proofs Go.ChangeShapes Go.WideShapes Go.ChangeAt Go.RowKit

theorem own14 : ownKnob Try.prog.godebug = none := by kernel_rfl
theorem laid14 : laidOutB Try.prog = true := by kernel_rfl

theorem journalSure_lifted (os : Os) (started : os.Started) (H : Type) (enc : TypeId × Value → H) :
    ReturnsInHanded {} Try.checked os 9 .any (Rows.journalSureSpec.pre6 enc Try.prog Try.f9 Rows.journalSureRow.domain false) (Rows.journalSureSpec.post enc Try.prog Try.f9 false true false false) := by
  refine returnsInHanded_of_change_sized (C := Try.checked) own14 started (by kernel_rfl) Try.func9
    (ChangeSpec.witness6 (enc := enc) (C := Try.checked) false ⟨#[], #[.slice none 0 0, .agg (Array.replicate 2 (.int .i64 0))], []⟩ 8 (by kernel_rfl) (by kernel_rfl) (by kernel_rfl) (by kernel_rfl)) ?_
  intro W base args ds gs before hval hW _ hsz _
  refine law_callsT (n := 8) (As := [Jnl.lo, Jnl.n2]) Jnl.cJu_sound laid14 Try.func9 (by kernel_rfl) (loops1 (by kernel_rfl) Jnl.lJu) (by kernel_rfl) (tb := 4) (by kernel_rfl) (by kernel_rfl)
    ⟨rfl, fun ds h => ?_⟩ (fun xs hx hz => ?_) hval hW hsz
  · match ds, h with
    | [d1, d2], _ => rfl
  · exact (Jnl.tJu _ _ _ _ _ _ _ _ _ _ _ _ _ _ _ _ _ xs.1 xs.2.1).trans (Jnl.TJu_true (Jnl.ju_sz hx.1 hz.1) (Jnl.ju_n hx.2.1))

theorem journalSure_holds : Rows.JournalSureSaid :=
  OpenClaim.holds_of_wide 9 Try.f9 rfl rfl rfl rfl rfl rfl rfl ⟨rfl, rfl, rfl, rfl, rfl⟩ rfl rfl rfl rfl rfl (by kernel_rfl) Try.func9 (by kernel_rfl)
    (of_decide_eq_true (by kernel_rfl)) (by unfold Func.isWrapper; first | (rw [if_pos (by decide +kernel)]; kernel_rfl) | (rw [if_neg (by decide +kernel)]; exact ⟨rfl, rfl⟩))
    (fun os started H enc _ => journalSure_lifted os started H enc)

end Go.Proofs.Ytffdkniccaebmaa
#print axioms Go.Proofs.Ytffdkniccaebmaa.journalSure_holds

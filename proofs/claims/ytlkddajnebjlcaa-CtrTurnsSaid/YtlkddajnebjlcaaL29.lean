/- The statements of layer 4 (ctr) hold. No conditions but the given ones. -/
import Derived.Test.YtlkddajnebjlcaaL28
import Derived.Test.YtlkddajnebjlcaaRows
import Derived.ProofKit
import Derived.SizedLaws
set_option linter.unusedVariables false
set_option maxRecDepth 100000
namespace Go.Proofs.Ytlkddajnebjlcaa
open Go Vse Go.Proofs Go.ChangeShapes Go.WideShapes Go.ChangeAt Go.RowKit

theorem own04 : ownKnob Try.prog.godebug = none := by kernel_rfl
theorem laid04 : laidOutB Try.prog = true := by kernel_rfl

theorem byte_wf {x : Int} (h : Ty.wf Gen.u8 x) : 0 ≤ x ∧ x < 256 := by
  have h : (Lit.int .u8 x).wf = true := h
  simp [Lit.wf, IntKind.min, IntKind.max, IntKind.signed, IntKind.bits] at h
  omega
theorem long_wf {x : Int} (h : Ty.wf Ctr.u64 x) : 0 ≤ x ∧ x < 18446744073709551616 := by
  have h : (Lit.int .u64 x).wf = true := h
  simp [Lit.wf, IntKind.min, IntKind.max, IntKind.signed, IntKind.bits] at h
  omega
theorem b16_wf {l : List Int} (h : Ty.wf Ctr.w16 l) : Ctr.B16 l := ⟨fun x hx => byte_wf (h.2 x hx), h.1⟩
theorem bytes_wf {l : List Int} (h : Ty.wf Gen.bt l) : Ctr.Bytes l := fun x hx => byte_wf (h.2 x hx)

theorem ctrTells_lifted (os : Os) (started : os.Started) (H : Type) (enc : TypeId × Value → H) :
    ReturnsInHanded {} Try.checked os 6 .any (Rows.ctrTellsSpec.pre6 enc Try.prog Try.f6 Rows.ctrTellsRow.domain false) (Rows.ctrTellsSpec.post enc Try.prog Try.f6 false true false false) := by
  refine returnsInHanded_of_change_sized (C := Try.checked) own04 started (by kernel_rfl) Try.func6
    (ChangeSpec.witness6 (enc := enc) (C := Try.checked) false ⟨#[], #[.agg (Array.replicate 16 (.int .u8 0)), .agg (Array.replicate 16 (.int .u8 0)), .slice none 0 0], []⟩ 8 (by kernel_rfl) (by kernel_rfl) (by kernel_rfl) (by kernel_rfl)) ?_
  intro W base args ds gs before hval hW _ hsz _
  refine law_callsT (n := 8) (As := [Ctr.w16, Ctr.w16, Gen.bt]) (L := L0) Ctr.cV_sound laid04 Try.func6 (by kernel_rfl) (noLoopsL (by kernel_rfl)) (by kernel_rfl) (tb := 4) (by kernel_rfl) (by kernel_rfl)
    ⟨rfl, fun ds h => ?_⟩ (fun xs hx hz => ?_) hval hW hsz
  · match ds, h with
    | [d1, d2, d3], _ => rfl
  · exact (Ctr.t6 _ _ _ _ _ _ xs.1 xs.2.1 xs.2.2.1).trans (Ctr.T6_true (b16_wf hx.1) (b16_wf hx.2.1))

theorem ctrTells_holds : Rows.CtrTellsSaid :=
  OpenClaim.holds_of_wide 6 Try.f6 rfl rfl rfl rfl rfl rfl rfl ⟨rfl, rfl, rfl, rfl, rfl⟩ rfl rfl rfl rfl rfl (by kernel_rfl) Try.func6 (by kernel_rfl)
    (of_decide_eq_true (by kernel_rfl)) (by unfold Func.isWrapper; first | (rw [if_pos (by decide +kernel)]; kernel_rfl) | (rw [if_neg (by decide +kernel)]; exact ⟨rfl, rfl⟩))
    (fun os started H enc _ => ctrTells_lifted os started H enc)

theorem ctrBack_lifted (os : Os) (started : os.Started) (H : Type) (enc : TypeId × Value → H) :
    ReturnsInHanded {} Try.checked os 7 .any (Rows.ctrBackSpec.pre6 enc Try.prog Try.f7 Rows.ctrBackRow.domain false) (Rows.ctrBackSpec.post enc Try.prog Try.f7 false true false false) := by
  refine returnsInHanded_of_change_sized (C := Try.checked) own04 started (by kernel_rfl) Try.func7
    (ChangeSpec.witness6 (enc := enc) (C := Try.checked) false ⟨#[], #[.agg (Array.replicate 16 (.int .u8 0)), .agg (Array.replicate 16 (.int .u8 0)), .slice none 0 0], []⟩ 8 (by kernel_rfl) (by kernel_rfl) (by kernel_rfl) (by kernel_rfl)) ?_
  intro W base args ds gs before hval hW _ hsz _
  refine law_callsT (n := 8) (As := [Ctr.w16, Ctr.w16, Gen.bt]) Ctr.cV_sound laid04 Try.func7 (by kernel_rfl) (loops1 (by kernel_rfl) Ctr.lB) (by kernel_rfl) (tb := 4) (by kernel_rfl) (by kernel_rfl)
    ⟨rfl, fun ds h => ?_⟩ (fun xs hx hz => ?_) hval hW hsz
  · match ds, h with
    | [d1, d2, d3], _ => rfl
  · exact (Ctr.t7 _ _ _ _ _ _ Ctr.cB1 xs.1 xs.2.1 xs.2.2.1).trans (Ctr.T7_true (b16_wf hx.1) (b16_wf hx.2.1) (bytes_wf hx.2.2.1))

theorem ctrBack_holds : Rows.CtrBackSaid :=
  OpenClaim.holds_of_wide 7 Try.f7 rfl rfl rfl rfl rfl rfl rfl ⟨rfl, rfl, rfl, rfl, rfl⟩ rfl rfl rfl rfl rfl (by kernel_rfl) Try.func7 (by kernel_rfl)
    (of_decide_eq_true (by kernel_rfl)) (by unfold Func.isWrapper; first | (rw [if_pos (by decide +kernel)]; kernel_rfl) | (rw [if_neg (by decide +kernel)]; exact ⟨rfl, rfl⟩))
    (fun os started H enc _ => ctrBack_lifted os started H enc)

theorem ctrTurns_lifted (os : Os) (started : os.Started) (H : Type) (enc : TypeId × Value → H) :
    ReturnsInHanded {} Try.checked os 8 .any (Rows.ctrTurnsSpec.pre6 enc Try.prog Try.f8 Rows.ctrTurnsRow.domain false) (Rows.ctrTurnsSpec.post enc Try.prog Try.f8 false true false false) := by
  refine returnsInHanded_of_change_sized (C := Try.checked) own04 started (by kernel_rfl) Try.func8
    (ChangeSpec.witness6 (enc := enc) (C := Try.checked) false ⟨#[], #[.agg (Array.replicate 32 (.int .u8 0)), .slice none 0 0, .agg #[.int .u64 0, .int .u64 0]], []⟩ 8 (by kernel_rfl) (by kernel_rfl) (by kernel_rfl) (by kernel_rfl)) ?_
  intro W base args ds gs before hval hW _ hsz _
  refine law_callsT (n := 8) (As := [Ctr.t2w, Gen.bt, Ctr.t2u]) Ctr.cV_sound laid04 Try.func8 (by kernel_rfl) (loops1 (by kernel_rfl) Ctr.lT) (by kernel_rfl) (tb := 4) (by kernel_rfl) (by kernel_rfl)
    ⟨rfl, fun ds h => ?_⟩ (fun xs hx hz => ?_) hval hW hsz
  · match ds, h with
    | [d1, d2, d3], _ => rfl
  · obtain ⟨l, b, n, u⟩ := xs
    have h1 : List.length (α := List Int) l = 2 := hx.1.1
    have h2 : List.length (α := Int) n = 2 := hx.2.2.1.1
    have w1 : ∀ z ∈ (l : List (List Int)), Ty.wf Ctr.w16 z := hx.1.2
    have w2 : ∀ z ∈ (n : List Int), Ty.wf Ctr.u64 z := hx.2.2.1.2
    match l, h1, n, h2 with
    | [key, a], _, [x, y], _ => exact (Ctr.t8 Ctr.flipP Ctr.flX Ctr.flipP Ctr.rflipF Ctr.nextF Ctr.rnextF Ctr.cT1 key a b x y).trans (Ctr.T8_true (b16_wf (w1 key (by simp))) (b16_wf (w1 a (by simp))) (bytes_wf hx.2.1) (long_wf (w2 x (by simp))) (long_wf (w2 y (by simp))))

theorem ctrTurns_holds : Rows.CtrTurnsSaid :=
  OpenClaim.holds_of_wide 8 Try.f8 rfl rfl rfl rfl rfl rfl rfl ⟨rfl, rfl, rfl, rfl, rfl⟩ rfl rfl rfl rfl rfl (by kernel_rfl) Try.func8 (by kernel_rfl)
    (of_decide_eq_true (by kernel_rfl)) (by unfold Func.isWrapper; first | (rw [if_pos (by decide +kernel)]; kernel_rfl) | (rw [if_neg (by decide +kernel)]; exact ⟨rfl, rfl⟩))
    (fun os started H enc _ => ctrTurns_lifted os started H enc)

end Go.Proofs.Ytlkddajnebjlcaa
#print axioms Go.Proofs.Ytlkddajnebjlcaa.ctrTells_holds
#print axioms Go.Proofs.Ytlkddajnebjlcaa.ctrBack_holds
#print axioms Go.Proofs.Ytlkddajnebjlcaa.ctrTurns_holds

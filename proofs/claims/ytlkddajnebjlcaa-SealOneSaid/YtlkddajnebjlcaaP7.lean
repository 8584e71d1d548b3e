/- The statements of layer 5 (seal) hold. No conditions but the given ones. -/
import Derived.Test.YtlkddajnebjlcaaP6
import Derived.Test.YtlkddajnebjlcaaRows
import Derived.ProofKit
import Derived.SizedLaws
set_option linter.unusedVariables false
set_option maxRecDepth 100000
namespace Go.Proofs.Ytlkddajnebjlcaa
open Go Vse Go.Proofs Go.ChangeShapes Go.WideShapes Go.ChangeAt Go.RowKit

theorem own05 : ownKnob Try.prog.godebug = none := by kernel_rfl
theorem laid05 : laidOutB Try.prog = true := by kernel_rfl

theorem byte_wf5 {x : Int} (h : Ty.wf Gen.u8 x) : 0 ≤ x ∧ x < 256 := by
  have h : (Lit.int .u8 x).wf = true := h
  simp [Lit.wf, IntKind.min, IntKind.max, IntKind.signed, IntKind.bits] at h
  omega
theorem b16_wf5 {l : List Int} (h : Ty.wf Seal.w16 l) : Ctr.B16 l := ⟨fun x hx => byte_wf5 (h.2 x hx), h.1⟩
theorem bytes_wf5 {l : List Int} (h : Ty.wf Gen.bt l) : Seal.Bytes l := fun x hx => byte_wf5 (h.2 x hx)
theorem str_wf5 {s : ByteArray} (h : Ty.wf .str s) : Seal.strP s = true := by
  have h : s.size ≤ maxLen := h
  have : maxLen ≤ 9223372036854775807 := by decide
  exact decide_eq_true (by omega)

theorem sealTells_lifted (os : Os) (started : os.Started) (H : Type) (enc : TypeId × Value → H) :
    ReturnsInHanded {} Try.checked os 12 .any (Rows.sealTellsSpec.pre6 enc Try.prog Try.f12 Rows.sealTellsRow.domain false) (Rows.sealTellsSpec.post enc Try.prog Try.f12 false true false false) := by
  refine returnsInHanded_of_change_sized (C := Try.checked) own05 started (by kernel_rfl) Try.func12
    (ChangeSpec.witness6 (enc := enc) (C := Try.checked) false ⟨#[], #[.agg (Array.replicate 32 (.int .u8 0)), .string ByteArray.empty, .agg #[.slice none 0 0, .slice none 0 0]], []⟩ 8 (by kernel_rfl) (by kernel_rfl) (by kernel_rfl) (by kernel_rfl)) ?_
  intro W base args ds gs before hval hW _ hsz _
  refine law_callsT (n := 8) (As := [Seal.t2w, .str, Seal.t2b]) (L := L0) Seal.cV_sound laid05 Try.func12 (by kernel_rfl) (noLoopsL (by kernel_rfl)) (by kernel_rfl) (tb := 4) (by kernel_rfl) (by kernel_rfl)
    ⟨rfl, fun ds h => ?_⟩ (fun xs hx hz => ?_) hval hW hsz
  · match ds, h with
    | [d1, d2, d3], _ => rfl
  · obtain ⟨l, s, b, u⟩ := xs
    have h1 : List.length (α := List Int) l = 2 := hx.1.1
    have h2 : List.length (α := List Int) b = 2 := hx.2.2.1.1
    have w1 : ∀ z ∈ (l : List (List Int)), Ty.wf Seal.w16 z := hx.1.2
    have w2 : ∀ z ∈ (b : List (List Int)), Ty.wf Gen.bt z := hx.2.2.1.2
    match l, h1, b, h2 with
    | [p, q], _, [c, d], _ => exact (Seal.t12 _ _ _ _ _ _ _ _ p q s c d).trans (Seal.T12_true (b16_wf5 (w1 p (by simp))) (b16_wf5 (w1 q (by simp))) (bytes_wf5 (w2 c (by simp))) (bytes_wf5 (w2 d (by simp))) (str_wf5 hx.2.1))

theorem sealTells_holds : Rows.SealTellsSaid :=
  OpenClaim.holds_of_wide 12 Try.f12 rfl rfl rfl rfl rfl rfl rfl ⟨rfl, rfl, rfl, rfl, rfl⟩ rfl rfl rfl rfl rfl (by kernel_rfl) Try.func12 (by kernel_rfl)
    (of_decide_eq_true (by kernel_rfl)) (by unfold Func.isWrapper; first | (rw [if_pos (by decide +kernel)]; kernel_rfl) | (rw [if_neg (by decide +kernel)]; exact ⟨rfl, rfl⟩))
    (fun os started H enc _ => sealTells_lifted os started H enc)

theorem sealBack_lifted (os : Os) (started : os.Started) (H : Type) (enc : TypeId × Value → H) :
    ReturnsInHanded {} Try.checked os 13 .any (Rows.sealBackSpec.pre6 enc Try.prog Try.f13 Rows.sealBackRow.domain false) (Rows.sealBackSpec.post enc Try.prog Try.f13 false true false false) := by
  refine returnsInHanded_of_change_sized (C := Try.checked) own05 started (by kernel_rfl) Try.func13
    (ChangeSpec.witness6 (enc := enc) (C := Try.checked) false ⟨#[], #[.agg (Array.replicate 32 (.int .u8 0)), .string ByteArray.empty, .slice none 0 0], []⟩ 8 (by kernel_rfl) (by kernel_rfl) (by kernel_rfl) (by kernel_rfl)) ?_
  intro W base args ds gs before hval hW _ hsz _
  refine law_callsT (n := 8) (As := [Seal.t2w, .str, Gen.bt]) (L := L0) Seal.cV_sound laid05 Try.func13 (by kernel_rfl) (noLoopsL (by kernel_rfl)) (by kernel_rfl) (tb := 4) (by kernel_rfl) (by kernel_rfl)
    ⟨rfl, fun ds h => ?_⟩ (fun xs hx hz => ?_) hval hW hsz
  · match ds, h with
    | [d1, d2, d3], _ => rfl
  · obtain ⟨l, s, b, u⟩ := xs
    have h1 : List.length (α := List Int) l = 2 := hx.1.1
    have w1 : ∀ z ∈ (l : List (List Int)), Ty.wf Seal.w16 z := hx.1.2
    match l, h1 with
    | [p, q], _ => exact (Seal.t13 _ _ _ _ _ _ _ _ p q s b).trans (Seal.T13_true (b16_wf5 (w1 p (by simp))) (b16_wf5 (w1 q (by simp))) (bytes_wf5 hx.2.2.1) (str_wf5 hx.2.1))

theorem sealBack_holds : Rows.SealBackSaid :=
  OpenClaim.holds_of_wide 13 Try.f13 rfl rfl rfl rfl rfl rfl rfl ⟨rfl, rfl, rfl, rfl, rfl⟩ rfl rfl rfl rfl rfl (by kernel_rfl) Try.func13 (by kernel_rfl)
    (of_decide_eq_true (by kernel_rfl)) (by unfold Func.isWrapper; first | (rw [if_pos (by decide +kernel)]; kernel_rfl) | (rw [if_neg (by decide +kernel)]; exact ⟨rfl, rfl⟩))
    (fun os started H enc _ => sealBack_lifted os started H enc)

theorem sealOne_lifted (os : Os) (started : os.Started) (H : Type) (enc : TypeId × Value → H) :
    ReturnsInHanded {} Try.checked os 14 .any (Rows.sealOneSpec.pre6 enc Try.prog Try.f14 Rows.sealOneRow.domain false) (Rows.sealOneSpec.post enc Try.prog Try.f14 false true false false) := by
  refine returnsInHanded_of_change_sized (C := Try.checked) own05 started (by kernel_rfl) Try.func14
    (ChangeSpec.witness6 (enc := enc) (C := Try.checked) false ⟨#[], #[.agg (Array.replicate 16 (.int .u8 0)), .string ByteArray.empty, .slice none 0 0], []⟩ 8 (by kernel_rfl) (by kernel_rfl) (by kernel_rfl) (by kernel_rfl)) ?_
  intro W base args ds gs before hval hW _ hsz _
  refine law_callsT (n := 8) (As := [Seal.w16, .str, Gen.bt]) Seal.cV_sound laid05 Try.func14 (by kernel_rfl) (loops1 (by kernel_rfl) Seal.lN) (by kernel_rfl) (tb := 4) (by kernel_rfl) (by kernel_rfl)
    ⟨rfl, fun ds h => ?_⟩ (fun xs hx hz => ?_) hval hW hsz
  · match ds, h with
    | [d1, d2, d3], _ => rfl
  · exact (Seal.t14 _ _ _ _ _ _ _ _ Seal.cK1 (fun b => b.take 16) xs.1 xs.2.1 xs.2.2.1).trans (Seal.T14_true (b16_wf5 hx.1) (bytes_wf5 hx.2.2.1) (str_wf5 hx.2.1))

theorem sealOne_holds : Rows.SealOneSaid :=
  OpenClaim.holds_of_wide 14 Try.f14 rfl rfl rfl rfl rfl rfl rfl ⟨rfl, rfl, rfl, rfl, rfl⟩ rfl rfl rfl rfl rfl (by kernel_rfl) Try.func14 (by kernel_rfl)
    (of_decide_eq_true (by kernel_rfl)) (by unfold Func.isWrapper; first | (rw [if_pos (by decide +kernel)]; kernel_rfl) | (rw [if_neg (by decide +kernel)]; exact ⟨rfl, rfl⟩))
    (fun os started H enc _ => sealOne_lifted os started H enc)

end Go.Proofs.Ytlkddajnebjlcaa
#print axioms Go.Proofs.Ytlkddajnebjlcaa.sealTells_holds
#print axioms Go.Proofs.Ytlkddajnebjlcaa.sealBack_holds
#print axioms Go.Proofs.Ytlkddajnebjlcaa.sealOne_holds

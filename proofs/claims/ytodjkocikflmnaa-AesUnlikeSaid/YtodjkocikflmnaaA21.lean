/- The rows of layer 3 (aes): the statements hold. -/
import Derived.Test.YtodjkocikflmnaaA19
import Derived.Test.YtodjkocikflmnaaA20
import Derived.Test.YtodjkocikflmnaaRows
import Derived.ProofKit
set_option linter.unusedVariables false
set_option maxRecDepth 1000000
namespace Go.Proofs.Ytodjkocikflmnaa.Aes
open Go Vse Go.Proofs

def s38 : CSpec := .fn1 [] .bool fun _ => true
theorem eqL_int : ∀ l m : List Int, eqList (eqT u8) l m = decide (l = m)
  | [], [] => rfl
  | [], y :: m => by simp [eqList]
  | x :: l, [] => by simp [eqList]
  | x :: l, y :: m => by
    show (eqT u8 x y && eqList (eqT u8) l m) = _
    rw [eqL_int l m]
    show (decide (x = y) && decide (l = m)) = _
    rw [← Bool.decide_and]
    exact decide_eq_decide.2 (by simp)
theorem eq16 (l m : List Int) : eqT t16 l m = decide (l = m) := eqL_int l m
theorem eq11 : ∀ l : List (List Int), eqT t11 l l = true
  | [] => rfl
  | x :: l => by
    have := eq11 l
    simp only [eqT, eqList, Bool.and_eq_true] at this ⊢
    exact ⟨(eqL_int x x).trans (decide_eq_true rfl), this⟩

def CA : List (Nat × CSpec) := cA (fun x => encI x.1 x.2.1) (fun x => keysI x.1) (fun x => boxI x.1) (fun x => timesI x.1 x.2.1)
theorem CA_sound : CtxSound Try.prog (ctx CA) ∧ CtxLocal (ctx CA) := ctx_sound ⟨ok46, ok44, ok42, ok40, trivial⟩
theorem awake38 : (fnK Try.prog (ctx CA) L0 Try.f38 (mkArgs [] ()) []).fold1 .bool = true := by
  unfold CA
  rw [r38]
  have e1 : encI keyA blkA = blkW10 := encW
  have e2 : keysI keyA = keyW := keysW
  simp only [e1, e2]
  decide +kernel
theorem ok38 : CSound Try.prog 38 s38 ∧ CLocal s38 := fn_ok1 CA_sound Try.func38 (by kernel_rfl) (fun xs _ => f38 _ _ _ _) (fun xs _ => awake38)

def CL : List (Nat × CSpec) := cL true (fun x => encI x.1 x.2.1) (fun x => encR x.1 x.2.1) (fun x => keysI x.1) (fun x => keysI x.1) (fun x => boxI x.1) (fun x => boxR x.1) (fun x => timesI x.1 x.2.1) (fun x => timesR x.1 x.2.1) boxL
theorem CL_sound : CtxSound Try.prog (ctx CL) ∧ CtxLocal (ctx CL) := ctx_sound ⟨ok38, ok46, ok47, ok44, ok45, ok42, ok43, ok40, ok41, ok39, trivial⟩

theorem isB_wf {x : Int} (h : (Ty.int .u8).wf x) : IsB x := by
  have h : (Lit.int .u8 x).wf = true := h
  simp [Lit.wf, IntKind.min, IntKind.max, IntKind.signed, IntKind.bits] at h
  unfold IsB; omega

theorem blk_wf {l : List Int} (h : t16.wf l) : Blk l := blk_mem h.1 fun x hx => isB_wf (h.2 x hx)

theorem bytes_true {a b : Int} (ha : IsB a) (hb : IsB b) : (fnK Try.prog (ctx CL) L0 Try.f9 (mkArgs [u8, u8] (a, b, ())) []).fold1 .bool = true := by
  unfold CL
  rw [r9]
  have e1 : timesI a b = timesR a b := by
    obtain ⟨m, rfl, hm⟩ := ha.nat
    obtain ⟨n, rfl, hn⟩ := hb.nat
    rw [timesI_nat hm hn, timesR_nat hm hn]
  simp only [e1, box_same ha, decide_true, cond_true]
  exact decide_eq_true rfl

theorem blocks_true {k b : List Int} (hk : Blk k) (hb : Blk b) : (fnK Try.prog (ctx CL) L0 Try.f10 (mkArgs [t16, t16] (k, b, ())) []).fold1 .bool = true := by
  unfold CL
  rw [r10]
  simp only [eq11, cond_true, enc_same hk hb]
  exact (eq16 _ _).trans (decide_eq_true rfl)

theorem times_isB {a b : Int} (ha : IsB a) (hb : IsB b) : IsB (timesI a b) := by
  obtain ⟨m, rfl, hm⟩ := ha.nat
  obtain ⟨n, rfl, hn⟩ := hb.nat
  rw [timesI_nat hm hn]
  exact isB_nat (mulN_lt hm)

theorem field_true {a b c : Int} (ha : IsB a) (hb : IsB b) (hc : IsB c) : (fnK Try.prog (ctx CL) L0 Try.f11 (mkArgs [u8, u8, u8] (a, b, c, ())) []).fold1 .bool = true := by
  unfold CL
  rw [r11]
  obtain ⟨m, rfl, hm⟩ := ha.nat
  obtain ⟨n, rfl, hn⟩ := hb.nat
  obtain ⟨p, rfl, hp⟩ := hc.nat
  have e1 : timesI m n = timesI n m := by rw [timesI_nat hm hn, timesI_nat hn hm, mul_comm hm hn]
  have e2 : timesI m (xorI .u8 n p) = xorI .u8 (timesI m n) (timesI m p) := by
    rw [xorI_u8 hn hp, timesI_nat hm (xor_lt256 hn hp), timesI_nat hm hn, timesI_nat hm hp, xorI_u8 (mulN_lt hm) (mulN_lt hm), mul_add]
  have e3 : timesI (timesI m n) p = timesI m (timesI n p) := by
    rw [timesI_nat hm hn, timesI_nat hn hp, timesI_nat (mulN_lt hm) hp, timesI_nat hm (mulN_lt hn), mul_assoc hm hn hp]
  have e4 : timesI 1 m = m := by
    have : timesI ((1 : Nat) : Int) m = _ := timesI_nat (by decide) hm
    rw [mul_one' m hm] at this
    exact this
  have e5 : decide (boxI m = boxI n) = decide ((m : Int) = (n : Int)) := by
    refine decide_eq_decide.2 ⟨fun h => box_inj (isB_nat hm) (isB_nat hn) h, fun h => by rw [h]⟩
  have d1 := decide_eq_true e1
  have d2 := decide_eq_true e2
  have d3 := decide_eq_true e3
  have d4 := decide_eq_true e4
  simp only [d1, d2, d3, d4, e5, cond_true, beq_self_eq_true]

theorem unlike_true {k a b : List Int} (hk : Blk k) (ha : Blk a) (hb : Blk b) : (fnK Try.prog (ctx CL) L0 Try.f12 (mkArgs [t16, t2] (k, [a, b], ())) []).fold1 .bool = true := by
  unfold CL
  rw [r12]
  simp only [cond_true, eq16]
  have : decide (encI k a = encI k b) = decide (a = b) := decide_eq_decide.2 ⟨fun h => enc_inj hk ha hb h, fun h => by rw [h]⟩
  rw [this]
  exact beq_self_eq_true _

end Go.Proofs.Ytodjkocikflmnaa.Aes

namespace Go.Proofs.Ytodjkocikflmnaa
open Go Vse Go.Proofs Go.ChangeShapes Go.WideShapes Go.ChangeAt Go.RowKit

theorem own0 : ownKnob Try.prog.godebug = none := by kernel_rfl
theorem laid0 : laidOutB Try.prog = true := by kernel_rfl

theorem bytes_lifted (os : Os) (started : os.Started) (H : Type) (enc : TypeId × Value → H) :
    ReturnsInHanded {} Try.checked os 9 .any (Rows.aesBytesSpec.pre6 enc Try.prog Try.f9 Rows.aesBytesRow.domain false) (Rows.aesBytesSpec.post enc Try.prog Try.f9 false true false false) := by
  refine returnsInHanded_of_change (C := Try.checked) own0 started (by kernel_rfl) Try.func9
    (ChangeSpec.witness6 (enc := enc) (C := Try.checked) false ⟨#[], #[.int .u8 0, .int .u8 0], []⟩ 8 (by kernel_rfl) (by kernel_rfl) (by kernel_rfl) (by kernel_rfl)) ?_
  intro W base args ds gs before hval hW _ _
  refine law_calls0 (n := 8) (As := [Aes.u8, Aes.u8]) Aes.CL_sound laid0 Try.func9 (by kernel_rfl) (by kernel_rfl) (tb := 4) (by kernel_rfl) (by kernel_rfl)
    ⟨rfl, fun ds h => ?_⟩ (fun xs hx => ?_) (fun xs hx => ?_) hval hW
  · match ds, h with
    | [d1, d2], _ => rfl
  · exact Aes.f9 _ _ _ _ _ _ _ _ _ _ _ _
  · exact Aes.bytes_true (Aes.isB_wf hx.1) (Aes.isB_wf hx.2.1)
theorem aesBytes_holds : Rows.AesBytesSaid :=
  OpenClaim.holds_of_wide 9 Try.f9 rfl rfl rfl rfl rfl rfl rfl ⟨rfl, rfl, rfl, rfl, rfl⟩ rfl rfl rfl rfl rfl (by kernel_rfl) Try.func9 (by kernel_rfl)
    (of_decide_eq_true (by kernel_rfl)) (by unfold Func.isWrapper; first | (rw [if_pos (by decide +kernel)]; kernel_rfl) | (rw [if_neg (by decide +kernel)]; exact ⟨rfl, rfl⟩))
    (fun os started H enc _ => bytes_lifted os started H enc)

theorem blocks_lifted (os : Os) (started : os.Started) (H : Type) (enc : TypeId × Value → H) :
    ReturnsInHanded {} Try.checked os 10 .any (Rows.aesBlocksSpec.pre6 enc Try.prog Try.f10 Rows.aesBlocksRow.domain false) (Rows.aesBlocksSpec.post enc Try.prog Try.f10 false true false false) := by
  refine returnsInHanded_of_change (C := Try.checked) own0 started (by kernel_rfl) Try.func10
    (ChangeSpec.witness6 (enc := enc) (C := Try.checked) false ⟨#[], #[.agg #[.int .u8 0, .int .u8 0, .int .u8 0, .int .u8 0, .int .u8 0, .int .u8 0, .int .u8 0, .int .u8 0, .int .u8 0, .int .u8 0, .int .u8 0, .int .u8 0, .int .u8 0, .int .u8 0, .int .u8 0, .int .u8 0], .agg #[.int .u8 0, .int .u8 0, .int .u8 0, .int .u8 0, .int .u8 0, .int .u8 0, .int .u8 0, .int .u8 0, .int .u8 0, .int .u8 0, .int .u8 0, .int .u8 0, .int .u8 0, .int .u8 0, .int .u8 0, .int .u8 0]], []⟩ 8 (by kernel_rfl) (by kernel_rfl) (by kernel_rfl) (by kernel_rfl)) ?_
  intro W base args ds gs before hval hW _ _
  refine law_calls0 (n := 8) (As := [Aes.t16, Aes.t16]) Aes.CL_sound laid0 Try.func10 (by kernel_rfl) (by kernel_rfl) (tb := 4) (by kernel_rfl) (by kernel_rfl)
    ⟨rfl, fun ds h => ?_⟩ (fun xs hx => ?_) (fun xs hx => ?_) hval hW
  · match ds, h with
    | [d1, d2], _ => rfl
  · exact Aes.f10 _ _ _ _ _ _ _ _ _ _ _ _
  · exact Aes.blocks_true (Aes.blk_wf hx.1) (Aes.blk_wf hx.2.1)
theorem aesBlocks_holds : Rows.AesBlocksSaid :=
  OpenClaim.holds_of_wide 10 Try.f10 rfl rfl rfl rfl rfl rfl rfl ⟨rfl, rfl, rfl, rfl, rfl⟩ rfl rfl rfl rfl rfl (by kernel_rfl) Try.func10 (by kernel_rfl)
    (of_decide_eq_true (by kernel_rfl)) (by unfold Func.isWrapper; first | (rw [if_pos (by decide +kernel)]; kernel_rfl) | (rw [if_neg (by decide +kernel)]; exact ⟨rfl, rfl⟩))
    (fun os started H enc _ => blocks_lifted os started H enc)

theorem field_lifted (os : Os) (started : os.Started) (H : Type) (enc : TypeId × Value → H) :
    ReturnsInHanded {} Try.checked os 11 .any (Rows.aesFieldSpec.pre6 enc Try.prog Try.f11 Rows.aesFieldRow.domain false) (Rows.aesFieldSpec.post enc Try.prog Try.f11 false true false false) := by
  refine returnsInHanded_of_change (C := Try.checked) own0 started (by kernel_rfl) Try.func11
    (ChangeSpec.witness6 (enc := enc) (C := Try.checked) false ⟨#[], #[.int .u8 0, .int .u8 0, .int .u8 0], []⟩ 8 (by kernel_rfl) (by kernel_rfl) (by kernel_rfl) (by kernel_rfl)) ?_
  intro W base args ds gs before hval hW _ _
  refine law_calls0 (n := 8) (As := [Aes.u8, Aes.u8, Aes.u8]) Aes.CL_sound laid0 Try.func11 (by kernel_rfl) (by kernel_rfl) (tb := 4) (by kernel_rfl) (by kernel_rfl)
    ⟨rfl, fun ds h => ?_⟩ (fun xs hx => ?_) (fun xs hx => ?_) hval hW
  · match ds, h with
    | [d1, d2, d3], _ => rfl
  · exact Aes.f11 _ _ _ _ _ _ _ _ _ _ _ _ _
  · exact Aes.field_true (Aes.isB_wf hx.1) (Aes.isB_wf hx.2.1) (Aes.isB_wf hx.2.2.1)
theorem aesField_holds : Rows.AesFieldSaid :=
  OpenClaim.holds_of_wide 11 Try.f11 rfl rfl rfl rfl rfl rfl rfl ⟨rfl, rfl, rfl, rfl, rfl⟩ rfl rfl rfl rfl rfl (by kernel_rfl) Try.func11 (by kernel_rfl)
    (of_decide_eq_true (by kernel_rfl)) (by unfold Func.isWrapper; first | (rw [if_pos (by decide +kernel)]; kernel_rfl) | (rw [if_neg (by decide +kernel)]; exact ⟨rfl, rfl⟩))
    (fun os started H enc _ => field_lifted os started H enc)

theorem unlike_lifted (os : Os) (started : os.Started) (H : Type) (enc : TypeId × Value → H) :
    ReturnsInHanded {} Try.checked os 12 .any (Rows.aesUnlikeSpec.pre6 enc Try.prog Try.f12 Rows.aesUnlikeRow.domain false) (Rows.aesUnlikeSpec.post enc Try.prog Try.f12 false true false false) := by
  refine returnsInHanded_of_change (C := Try.checked) own0 started (by kernel_rfl) Try.func12
    (ChangeSpec.witness6 (enc := enc) (C := Try.checked) false ⟨#[], #[.agg #[.int .u8 0, .int .u8 0, .int .u8 0, .int .u8 0, .int .u8 0, .int .u8 0, .int .u8 0, .int .u8 0, .int .u8 0, .int .u8 0, .int .u8 0, .int .u8 0, .int .u8 0, .int .u8 0, .int .u8 0, .int .u8 0], .agg #[.int .u8 0, .int .u8 0, .int .u8 0, .int .u8 0, .int .u8 0, .int .u8 0, .int .u8 0, .int .u8 0, .int .u8 0, .int .u8 0, .int .u8 0, .int .u8 0, .int .u8 0, .int .u8 0, .int .u8 0, .int .u8 0, .int .u8 0, .int .u8 0, .int .u8 0, .int .u8 0, .int .u8 0, .int .u8 0, .int .u8 0, .int .u8 0, .int .u8 0, .int .u8 0, .int .u8 0, .int .u8 0, .int .u8 0, .int .u8 0, .int .u8 0, .int .u8 0]], []⟩ 8 (by kernel_rfl) (by kernel_rfl) (by kernel_rfl) (by kernel_rfl)) ?_
  intro W base args ds gs before hval hW _ _
  refine law_calls0 (n := 8) (As := [Aes.t16, Aes.t2]) Aes.CL_sound laid0 Try.func12 (by kernel_rfl) (by kernel_rfl) (tb := 4) (by kernel_rfl) (by kernel_rfl)
    ⟨rfl, fun ds h => ?_⟩ (fun xs hx => ?_) (fun xs hx => ?_) hval hW
  · match ds, h with
    | [d1, d2], _ => rfl
  · obtain ⟨k, l, v⟩ := xs
    obtain ⟨_, ⟨hl, _⟩, _⟩ := hx
    match l, hl with
    | [a, b], _ => exact Aes.f12 _ _ _ _ _ _ _ _ _ _ _ _ _
  · obtain ⟨k, l, v⟩ := xs
    obtain ⟨hk, ⟨hl, hm⟩, _⟩ := hx
    match l, hl, hm with
    | [a, b], _, hm => exact Aes.unlike_true (Aes.blk_wf hk) (Aes.blk_wf (hm a (by simp))) (Aes.blk_wf (hm b (by simp)))
theorem aesUnlike_holds : Rows.AesUnlikeSaid :=
  OpenClaim.holds_of_wide 12 Try.f12 rfl rfl rfl rfl rfl rfl rfl ⟨rfl, rfl, rfl, rfl, rfl⟩ rfl rfl rfl rfl rfl (by kernel_rfl) Try.func12 (by kernel_rfl)
    (of_decide_eq_true (by kernel_rfl)) (by unfold Func.isWrapper; first | (rw [if_pos (by decide +kernel)]; kernel_rfl) | (rw [if_neg (by decide +kernel)]; exact ⟨rfl, rfl⟩))
    (fun os started H enc _ => unlike_lifted os started H enc)

end Go.Proofs.Ytodjkocikflmnaa
#print axioms Go.Proofs.Ytodjkocikflmnaa.aesBytes_holds
#print axioms Go.Proofs.Ytodjkocikflmnaa.aesBlocks_holds
#print axioms Go.Proofs.Ytodjkocikflmnaa.aesField_holds
#print axioms Go.Proofs.Ytodjkocikflmnaa.aesUnlike_holds

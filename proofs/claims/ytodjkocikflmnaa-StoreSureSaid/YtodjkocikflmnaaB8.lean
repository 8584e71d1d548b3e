/- The statements of layer 13 (store) hold: operation by operation a store answers as the document's; what is sure stays; without power nothing is done. No conditions but the given ones. -/
import Derived.Test.YtodjkocikflmnaaB7
import Derived.Test.YtodjkocikflmnaaRows
import Derived.ProofKit
import Derived.SizedLaws
set_option linter.unusedVariables false
set_option maxRecDepth 100000
namespace Go.Proofs.Ytodjkocikflmnaa.Sto
open Go Vse Go.Proofs Fld

theorem chk_eval {α : Type} {b : Bool} (h : b = true) (t : Tr α) : (Tr.chk b t).eval = t.eval := by rw [h]; rfl
theorem ite_t {α : Type} {b : Bool} (h : b = true) (t e : Tr α) : (Tr.ite b t e).eval = t.eval := by rw [h]; rfl
theorem ite_f {α : Type} {b : Bool} (h : b = false) (t e : Tr α) : (Tr.ite b t e).eval = e.eval := by rw [h]; rfl

theorem new_is {n : Int} (h : okRoom n = true) : isNew (mk [] 0 n (-1) false) = true := by
  have e : isNew (mk [] 0 n (-1) false) = okRoom n := by
    show (okRoom n && (decide ((0 : Nat) = 0) && (decide ((0 : Int) = 0) && (decide ((-1 : Int) = -1) && !false)))) = okRoom n
    simp
  rw [e, h]
theorem room20 : okRoom 1048576 = true := by decide

theorem c3_true {n : Int} (h : okRoom n = true) {l : List Ox} (hl : OkL l) : c3 l 0 (mk [] 0 n (-1) false) (mk [] 0 n (-1) false) = true := by
  simp only [c3, okLb_iff.2 hl, new_is h]
  simp

theorem T3_true {n : Int} {l : List Ox} (h : ¬ szF l > 2000 → OkL l) : (T3 szF c3 n l).eval = some (.v .bool true) := by
  unfold T3
  by_cases hz : szF l > 2000
  · rw [ite_t (decide_eq_true hz)]; rfl
  rw [ite_f (decide_eq_false hz)]
  cases hr : okRoom n with
  | true => rw [ite_t rfl, chk_eval rfl, ite_t rfl, chk_eval rfl, chk_eval (c3_true hr (h hz))]; rfl
  | false => rw [ite_f rfl, chk_eval (b := !false) rfl, ite_f rfl, chk_eval (b := !false) rfl]; rfl

theorem T4_true {n : Int} {l : List Ox} (h0 : -9223372036854775808 ≤ n) (h1 : n ≤ 9223372036854775807) (h : ¬ szF l > 2000 → OkL l) : (T4 szF crashP crashF c3 runD n l).eval = some (.v .bool true) := by
  unfold T4
  by_cases hz : szF l > 2000
  · simp only; rw [ite_t (decide_eq_true hz)]; rfl
  have hl := h hz
  have hd : Inv (runD l (mk [] 0 1048576 (-1) false)) := runD_inv l _ hl.2 (isNew_eq (new_is room20)).2
  simp only
  rw [ite_f (decide_eq_false hz), chk_eval (c3_true room20 hl)]
  generalize runD l (mk [] 0 1048576 (-1) false) = d at hd
  obtain ⟨c1, c2, c4, c5⟩ := crash_same h0 h1 hd
  have s0 := hd.s0
  have s1 := hd.s1
  have hs := crash_at h0 h1 hd
  have ha : (crashF n d).2 = mk (d.b.take (crashS n d).toNat) (crashS n d) d.room (-1) false := rfl
  have hlen : ((d.b.take (crashS n d).toNat).length : Int) = crashS n d := by rw [List.length_take, hs]; omega
  have i2 : Inv (crashF n d).2 := c2
  have k0 : crashS 0 (crashF n d).2 = crashS n d := by
    rw [crash_at (by omega) (by omega) c2, ha]
    simp only [sure_mk, b_mk, hlen]
    omega
  obtain ⟨z1, z2, z4, z5⟩ := crash_same (n := 0) (by omega) (by omega) c2
  have hb2 : (crashF 0 (crashF n d).2).2.2.1 = d.b.take (crashS n d).toNat := by
    show List.take (crashS 0 (crashF n d).2).toNat (d.b.take (crashS n d).toNat) = _
    rw [k0, List.take_take, Nat.min_self]
  have hb : (crashF n d).2.2.1 = d.b.take (crashS n d).toNat := rfl
  have hle : (d.b.take (crashS n d).toNat).length ≤ d.b.length := by rw [List.length_take]; omega
  rw [chk_eval (b := Vse.room d.2.1.length 1) (room_inv hd), chk_eval c4, chk_eval (b := Vse.room (crashF n d).2.2.1.length 1) (room_inv c2)]
  rw [ite_f (decide_eq_false (by rw [hb]; show ¬ _ > ((d.b.length : Nat) : Int); omega)), ite_f (decide_eq_false (by rw [hb]; show ¬ _ < d.sure; omega))]
  rw [chk_eval (by rw [hb]; simp only [Bool.and_eq_true, decide_eq_true_eq]; refine ⟨by omega, by omega, ?_⟩; show _ ≤ ((d.b.length : Nat) : Int); omega), chk_eval z4, chk_eval (b := Vse.room (crashF 0 (crashF n d).2).2.2.1.length 1) (room_inv z2)]
  rw [ite_t (by
    rw [hb]
    show sameI (d.b.take (crashS n d).toNat) ((d.b.take ((d.b.take (crashS n d).toNat).length : Int).toNat).drop (0 : Int).toNat) = true
    rw [Int.toNat_natCast, List.length_take]
    simp only [sameI, decide_eq_true_eq]
    show _ = (d.b.take _).drop 0
    rw [List.drop_zero]
    by_cases hq : (crashS n d).toNat ≤ d.b.length
    · rw [Nat.min_eq_left hq]
    · rw [Nat.min_eq_right (by omega), List.take_of_length_le (by omega), List.take_of_length_le (Nat.le_refl _)])]
  rw [hb2, hb, sameI_self]
  rfl

theorem T5_true {l m : List Ox} (h : ¬ szF l > 2000 → OkL l) (h' : ¬ szF m > 2000 → OkL m) : (T5 szF fuseF c5 runD c6 runO l m).eval = some (.v .bool true) := by
  unfold T5
  simp only
  by_cases hz : szF l > 2000
  · rw [ite_t (decide_eq_true hz)]; rfl
  rw [ite_f (decide_eq_false hz)]
  by_cases hy : szF m > 2000
  · rw [ite_t (decide_eq_true hy)]; rfl
  rw [ite_f (decide_eq_false hy)]
  have hl := h hz
  have hm := h' hy
  have hd : Inv (runD l (mk [] 0 1048576 (-1) false)) := runD_inv l _ hl.2 (isNew_eq (new_is room20)).2
  rw [chk_eval (by simp only [c5, okLb_iff.2 hl, new_is room20]; simp)]
  generalize runD l (mk [] 0 1048576 (-1) false) = d at hd
  have hf : (fuseF 0 d).2 = mk d.b d.sure d.room 0 d.down := rfl
  have hoff : Off (fuseF 0 d).2 := by
    rw [hf]
    exact ⟨⟨hd.s0, hd.s1, hd.b1, hd.r1, by show (-1 : Int) ≤ 0; omega, by show (0 : Int) ≤ _; omega⟩, rfl⟩
  obtain ⟨w1, w2⟩ := runO_b m _ hm.2 hoff
  rw [chk_eval (b := Vse.room d.2.1.length 1) (room_inv hd), chk_eval (by simp only [c6, okLb_iff.2 hm, isOff_iff.2 hoff]; simp), chk_eval (b := Vse.room (runO m (fuseF 0 d).2).2.1.length 1) (room_inv w2.inv)]
  have : (runO m (fuseF 0 d).2).2.1 = d.2.1 := w1
  rw [this, sameI_self]
  rfl

/-! the rows -/

theorem int_wf {n : Int} (h : i64.wf n) : -9223372036854775808 ≤ n ∧ n ≤ 9223372036854775807 := by
  have h : (Lit.int .i64 n).wf = true := h
  simp [Lit.wf, IntKind.min, IntKind.max, IntKind.signed, IntKind.bits] at h
  omega

theorem ok_of {l : List Ox} (hx : Ty.wf lo l) (hz : Ty.sz lo l) : ¬ szF l > 2000 → OkL l := fun h =>
  okL_of (by
    simp only [shortO, List.all_eq_true, decide_eq_true_eq]
    intro x hx
    have := (hz.2 x hx).2.2.1.1
    have h2 : List.length (α := Int) x.2.2.1 ≤ 140737488351232 := by simpa [reachBytes] using this
    omega) h hx.1 fun x hm => int_wf (hx.2 x hm).2.1

end Go.Proofs.Ytodjkocikflmnaa.Sto
namespace Go.Proofs.Ytodjkocikflmnaa
open Go Vse Go.Proofs Go.ChangeShapes Go.WideShapes Go.ChangeAt Go.RowKit

theorem own0 : ownKnob Try.prog.godebug = none := by kernel_rfl
theorem laid0 : laidOutB Try.prog = true := by kernel_rfl

theorem does_lifted (os : Os) (started : os.Started) (H : Type) (enc : TypeId × Value → H) :
    ReturnsInHanded {} Try.checked os 3 .any (Rows.storeDoesSpec.pre6 enc Try.prog Try.f3 Rows.storeDoesRow.domain false) (Rows.storeDoesSpec.post enc Try.prog Try.f3 false true false false) := by
  refine returnsInHanded_of_change_sized (C := Try.checked) own0 started (by kernel_rfl) Try.func3
    (ChangeSpec.witness6 (enc := enc) (C := Try.checked) false ⟨#[], #[.int .i64 0, .slice none 0 0], []⟩ 8 (by kernel_rfl) (by kernel_rfl) (by kernel_rfl) (by kernel_rfl)) ?_
  intro W base args ds gs before hval hW _ hsz _
  refine law_callsT (n := 8) (As := [Fld.i64, Sto.lo]) Sto.cL_sound laid0 Try.func3 (by kernel_rfl) (loops1 (by kernel_rfl) Sto.l3) (by kernel_rfl) (tb := 4) (by kernel_rfl) (by kernel_rfl)
    ⟨rfl, fun ds h => ?_⟩ (fun xs hx hz => ?_) hval hW hsz
  · match ds, h with
    | [d1, d2], _ => rfl
  · exact (Sto.t3 _ _ _ _ _ _ _ _ Sto.c3 xs.1 xs.2.1).trans (Sto.T3_true (Sto.ok_of hx.2.1 hz.2.1))

theorem storeDoes_holds : Rows.StoreDoesSaid :=
  OpenClaim.holds_of_wide 3 Try.f3 rfl rfl rfl rfl rfl rfl rfl ⟨rfl, rfl, rfl, rfl, rfl⟩ rfl rfl rfl rfl rfl (by kernel_rfl) Try.func3 (by kernel_rfl)
    (of_decide_eq_true (by kernel_rfl)) (by unfold Func.isWrapper; first | (rw [if_pos (by decide +kernel)]; kernel_rfl) | (rw [if_neg (by decide +kernel)]; exact ⟨rfl, rfl⟩))
    (fun os started H enc _ => does_lifted os started H enc)

theorem sure_lifted (os : Os) (started : os.Started) (H : Type) (enc : TypeId × Value → H) :
    ReturnsInHanded {} Try.checked os 4 .any (Rows.storeSureSpec.pre6 enc Try.prog Try.f4 Rows.storeSureRow.domain false) (Rows.storeSureSpec.post enc Try.prog Try.f4 false true false false) := by
  refine returnsInHanded_of_change_sized (C := Try.checked) own0 started (by kernel_rfl) Try.func4
    (ChangeSpec.witness6 (enc := enc) (C := Try.checked) false ⟨#[], #[.slice none 0 0, .int .i64 0], []⟩ 8 (by kernel_rfl) (by kernel_rfl) (by kernel_rfl) (by kernel_rfl)) ?_
  intro W base args ds gs before hval hW _ hsz _
  refine law_callsT (n := 8) (As := [Sto.lo, Fld.i64]) Sto.cL_sound laid0 Try.func4 (by kernel_rfl) (loops1 (by kernel_rfl) Sto.l4) (by kernel_rfl) (tb := 4) (by kernel_rfl) (by kernel_rfl)
    ⟨rfl, fun ds h => ?_⟩ (fun xs hx hz => ?_) hval hW hsz
  · match ds, h with
    | [d1, d2], _ => rfl
  · have hn := Sto.int_wf hx.2.1
    exact (Sto.t4 _ _ _ _ _ _ _ _ Sto.c3 Sto.runD xs.2.1 xs.1).trans (Sto.T4_true hn.1 hn.2 (Sto.ok_of hx.1 hz.1))

theorem storeSure_holds : Rows.StoreSureSaid :=
  OpenClaim.holds_of_wide 4 Try.f4 rfl rfl rfl rfl rfl rfl rfl ⟨rfl, rfl, rfl, rfl, rfl⟩ rfl rfl rfl rfl rfl (by kernel_rfl) Try.func4 (by kernel_rfl)
    (of_decide_eq_true (by kernel_rfl)) (by unfold Func.isWrapper; first | (rw [if_pos (by decide +kernel)]; kernel_rfl) | (rw [if_neg (by decide +kernel)]; exact ⟨rfl, rfl⟩))
    (fun os started H enc _ => sure_lifted os started H enc)

theorem down_lifted (os : Os) (started : os.Started) (H : Type) (enc : TypeId × Value → H) :
    ReturnsInHanded {} Try.checked os 5 .any (Rows.storeDownSpec.pre6 enc Try.prog Try.f5 Rows.storeDownRow.domain false) (Rows.storeDownSpec.post enc Try.prog Try.f5 false true false false) := by
  refine returnsInHanded_of_change_sized (C := Try.checked) own0 started (by kernel_rfl) Try.func5
    (ChangeSpec.witness6 (enc := enc) (C := Try.checked) false ⟨#[], #[.slice none 0 0, .slice none 0 0], []⟩ 8 (by kernel_rfl) (by kernel_rfl) (by kernel_rfl) (by kernel_rfl)) ?_
  intro W base args ds gs before hval hW _ hsz _
  refine law_callsT (n := 8) (As := [Sto.lo, Sto.lo]) Sto.cL_sound laid0 Try.func5 (by kernel_rfl) (loops2 (by kernel_rfl) Sto.l5 Sto.l6) (by kernel_rfl) (tb := 4) (by kernel_rfl) (by kernel_rfl)
    ⟨rfl, fun ds h => ?_⟩ (fun xs hx hz => ?_) hval hW hsz
  · match ds, h with
    | [d1, d2], _ => rfl
  · exact (Sto.t5 _ _ _ _ _ _ _ _ Sto.c5 Sto.runD Sto.c6 Sto.runO xs.1 xs.2.1).trans (Sto.T5_true (Sto.ok_of hx.1 hz.1) (Sto.ok_of hx.2.1 hz.2.1))

theorem storeDown_holds : Rows.StoreDownSaid :=
  OpenClaim.holds_of_wide 5 Try.f5 rfl rfl rfl rfl rfl rfl rfl ⟨rfl, rfl, rfl, rfl, rfl⟩ rfl rfl rfl rfl rfl (by kernel_rfl) Try.func5 (by kernel_rfl)
    (of_decide_eq_true (by kernel_rfl)) (by unfold Func.isWrapper; first | (rw [if_pos (by decide +kernel)]; kernel_rfl) | (rw [if_neg (by decide +kernel)]; exact ⟨rfl, rfl⟩))
    (fun os started H enc _ => down_lifted os started H enc)

end Go.Proofs.Ytodjkocikflmnaa
#print axioms Go.Proofs.Ytodjkocikflmnaa.storeDoes_holds
#print axioms Go.Proofs.Ytodjkocikflmnaa.storeSure_holds
#print axioms Go.Proofs.Ytodjkocikflmnaa.storeDown_holds

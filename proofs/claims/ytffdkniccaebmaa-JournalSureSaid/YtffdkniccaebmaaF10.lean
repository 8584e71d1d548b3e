/- What the functions of layer 9 (field) give: the parts of bytes, by the document. -/
import Derived.Test.YtffdkniccaebmaaF9
set_option linter.unusedVariables false
set_option maxRecDepth 100000
namespace Go.Proofs.Ytffdkniccaebmaa.Fld
open Go Vse Go.Proofs

theorem getD_drop (b : List Int) (k j : Nat) : (b.drop k).getD j 0 = b.getD (k + j) 0 := by
  rw [List.getD_eq_getElem?_getD, List.getD_eq_getElem?_getD, List.getElem?_drop]

def end28 (r : Int × List (List Int)) : Ex × St := bif decide (r.1 = 0) then out28 r.2 else ret28 r.1 r.2

theorem k28 (b : List Int) (hb : Bytes b) (hm : b.length ≤ 140737488355328) : ∀ (f k : Nat) (o : List (List Int)), b.length ≤ k + f → k ≤ b.length → o.length ≤ 20 →
    S28.many (bodyK Try.prog (ctx CS) L0 b28) (f + 1) (b, (), (k : Int), ()) (o, ()) = some (end28 (splitG (f + 1) (b.drop k) o))
  | 0, k, o, hf, hk, ho => by
    have e : b.drop k = [] := List.drop_eq_nil_of_le (by omega)
    rw [e]
    refine vmany_inr ((r28 b k o).trans ?_) 0
    simp only [G28, Tr.eval, decide_eq_false (show ¬ ((k : Int) < (b.length : Int)) by omega)]
    rfl
  | f + 1, k, o, hf, hk, ho => by
    have h0 := bytes_get hb k
    have h1 := bytes_get hb (k + 1)
    have hlen : (b.drop k).length = b.length - k := List.length_drop
    have hlen2 : ((b.drop k).drop 2).length = b.length - k - 2 := by rw [List.length_drop, hlen]
    have hN : lenN (b.drop k) = 256 * b.getD k 0 + b.getD (k + 1) 0 := by unfold lenN; rw [getD_drop, getD_drop]; rfl
    have hn0 : 0 ≤ lenN (b.drop k) := by omega
    have hn1 : lenN (b.drop k) < 65536 := by omega
    rw [splitG]
    by_cases c0 : (b.drop k).length > 0
    · rw [decide_eq_true c0]
      have hki : (k : Int) < (b.length : Int) := by omega
      by_cases c1 : (b.drop k).length < 2
      · rw [decide_eq_true c1]
        refine vmany_inr ((r28 b k o).trans ?_) (f + 1)
        simp only [G28, Tr.eval, decide_eq_true hki]
        rw [w_id (x := (b.length : Int) - (k : Int)) (by omega) (by omega), decide_eq_true (show (b.length : Int) - (k : Int) < 2 by omega)]
        rfl
      · rw [decide_eq_false c1]
        have i0 : inArr (k : Int) b.length = true := by simp [inArr]; omega
        have i1 : inArr ((k + 1 : Nat) : Int) b.length = true := by simp [inArr]; omega
        have wk1 : w ((k : Int) + 1) = ((k + 1 : Nat) : Int) := by rw [w_id (by omega) (by omega)]; omega
        have hn : w (w (256 * w (b.getD k 0)) + w (b.getD (k + 1) 0)) = lenN (b.drop k) := by
          rw [w_id (x := b.getD k 0) (by omega) (by omega), w_id (x := b.getD (k + 1) 0) (by omega) (by omega), w_id (x := 256 * b.getD k 0) (by omega) (by omega), w_id (by omega) (by omega), hN]
        have hlo : w ((k : Int) + 2) = ((k + 2 : Nat) : Int) := by rw [w_id (by omega) (by omega)]; omega
        have hhi : w (((k + 2 : Nat) : Int) + lenN (b.drop k)) = ((k + 2 + (lenN (b.drop k)).toNat : Nat) : Int) := by rw [w_id (by omega) (by omega)]; omega
        have hd : (b.take (k + 2 + (lenN (b.drop k)).toNat)).drop (k + 2) = ((b.drop k).drop 2).take (lenN (b.drop k)).toNat := by
          rw [List.drop_take, List.drop_drop]
          congr 1
          omega
        have hnx : b.drop (k + 2 + (lenN (b.drop k)).toNat) = ((b.drop k).drop 2).drop (lenN (b.drop k)).toNat := by
          rw [List.drop_drop, List.drop_drop]
          congr 1
          omega
        have hg : (G28 (b, (), (k : Int), ()) (o, ())).eval = bif decide (lenN (b.drop k) > 500) then some (.inr (ret28 7 o)) else (bif decide (o.length = 20) then some (.inr (ret28 7 o)) else
            (bif decide (lenN (b.drop k) > (((b.drop k).drop 2).length : Int)) then some (.inr (ret28 2 o)) else
              some (.inl ((b, (), ((k + 2 + (lenN (b.drop k)).toNat : Nat) : Int), ()), (o ++ [((b.drop k).drop 2).take (lenN (b.drop k)).toNat], ()))))) := by
          have e2 : ((o.length : Int) == 20) = decide (o.length = 20) := by by_cases h : o.length = 20 <;> simp [h] <;> omega
          simp only [G28, Tr.eval, Tr.chk, decide_eq_true hki, i0, wk1, i1, Int.toNat_natCast, hn, hlo, hhi, e2, hd]
          rw [w_id (x := (b.length : Int) - (k : Int)) (by omega) (by omega), decide_eq_false (show ¬ (b.length : Int) - (k : Int) < 2 by omega), w_id (by omega) (by omega)]
          by_cases q1 : lenN (b.drop k) > 500
          · simp only [decide_eq_true q1, cond_true]
          · by_cases q2 : o.length = 20
            · simp only [decide_eq_false q1, decide_eq_true q2, cond_true, cond_false]
            · by_cases q3 : lenN (b.drop k) > (((b.drop k).drop 2).length : Int)
              · simp only [decide_eq_false q1, decide_eq_false q2, decide_eq_true q3, decide_eq_true (show (b.length : Int) - (k : Int) - 2 < lenN (b.drop k) by omega), cond_true, cond_false]
              · have hle : ((k + 2 + (lenN (b.drop k)).toNat : Nat) : Int) ≤ (b.length : Int) := by omega
                have hto : room (([] : List Int).length + (((b.drop k).drop 2).take (lenN (b.drop k)).toNat).length) 1 = true := by simp only [room, decide_eq_true_eq, List.length_take, List.length_nil]; omega
                have hro : room (o.length + 1) 24 = true := by simp only [room, decide_eq_true_eq]; omega
                simp only [decide_eq_false q1, decide_eq_false q2, decide_eq_false q3, decide_eq_false (show ¬ (b.length : Int) - (k : Int) - 2 < lenN (b.drop k) by omega), cond_false,
                  decide_eq_true (show (0 : Int) ≤ ((k + 2 : Nat) : Int) by omega), decide_eq_true (show ((k + 2 : Nat) : Int) ≤ ((k + 2 + (lenN (b.drop k)).toNat : Nat) : Int) by omega), decide_eq_true hle, hto, hro, Bool.and_self, List.nil_append]
        by_cases q1 : lenN (b.drop k) > 500
        · rw [decide_eq_true q1] at hg ⊢
          exact vmany_inr ((r28 b k o).trans hg) (f + 1)
        · rw [decide_eq_false q1] at hg ⊢
          by_cases q2 : o.length = 20
          · rw [decide_eq_true q2] at hg ⊢
            exact vmany_inr ((r28 b k o).trans hg) (f + 1)
          · rw [decide_eq_false q2] at hg ⊢
            by_cases q3 : lenN (b.drop k) > (((b.drop k).drop 2).length : Int)
            · rw [decide_eq_true q3] at hg ⊢
              exact vmany_inr ((r28 b k o).trans hg) (f + 1)
            · rw [decide_eq_false q3] at hg ⊢
              refine (vmany_inl ((r28 b k o).trans hg) (f + 1)).trans ?_
              have := k28 b hb hm f (k + 2 + (lenN (b.drop k)).toNat) (o ++ [((b.drop k).drop 2).take (lenN (b.drop k)).toNat]) (by omega) (by omega) (by simp; omega)
              rw [hnx] at this
              exact this
    · rw [decide_eq_false c0]
      refine vmany_inr ((r28 b k o).trans ?_) (f + 1)
      simp only [G28, Tr.eval, decide_eq_false (show ¬ (k : Int) < (b.length : Int) by omega)]
      rfl

def F28 (xs : HL S28.Ts) (hs : HD S28.Es) : Tr (Ex × St) :=
  let b : List Int := xs.1
  let r := splitG (b.length + 1) b []
  .chk (decide (xs.2.2.1 = (0 : Int)) && (decide (List.length (α := List Int) hs.1 = 0) && (decide (b.length ≤ 140737488355328) && b.all fun x => decide (0 ≤ x) && decide (x < 256))))
    (.ite (decide (r.1 = 0)) (.ret (out28 r.2)) (.ret (ret28 r.1 r.2)))
noncomputable def L28 : Loops := fun j st => if j = 3 then S28.fn F28 st else .fail
theorem l28 : LoopOK Try.prog L28 b28 :=
  vloop_ok (L := L28) (L' := L0) CS_sound (loopsOK_of (by kernel_rfl)) S28 (F := F28) (i := 3) (by kernel_rfl) (fun _ => rfl) fun xs hs r h => by
    obtain ⟨b, u1, i, u⟩ := xs
    obtain ⟨o, u2⟩ := hs
    obtain ⟨h1, h2⟩ := Tr.chk_some h
    simp only [Bool.and_eq_true, decide_eq_true_eq] at h1
    obtain ⟨e0, e1, e2, e3⟩ := h1
    have e0 : i = ((0 : Nat) : Int) := e0
    have e1 : o = [] := List.eq_nil_of_length_eq_zero e1
    subst e0; subst e1
    have hb : Bytes b := bytes_all (by simpa using e3)
    refine ⟨_, (k28 b hb e2 (List.length (α := Int) b) 0 [] (by omega) (Nat.zero_le _) (by simp)).trans ?_⟩
    simp only [end28, List.drop_zero]
    rcases Tr.ite_some h2 with ⟨hd, h2⟩ | ⟨hd, h2⟩
    · rw [hd, ← Tr.ret_some h2]; rfl
    · rw [hd, ← Tr.ret_some h2]; rfl

def s28 : CSpec := .slp [bs] (fun x => preB x.1) [lt, i64] fun x => splitI x.1
theorem r28f (b : List Int) : (fnS Try.prog (ctx CS) L28 [lt, i64] Try.f95 (mkArgs [bs] (b, ()))).fold [lt, i64] = splitI b := by kernel_rfl
theorem f28f (b : List Int) : (fnS Try.prog (ctx CS) L28 [lt, i64] Try.f95 (mkArgs [bs] (b, ()))).fine [lt, i64] = (decide (b.length ≤ 140737488355328) && b.all fun x => decide (0 ≤ x) && decide (x < 256)) := by kernel_rfl
theorem ok28 : CSound Try.prog 95 s28 ∧ CLocal s28 :=
  slp_sound (L := L28) CS_sound Try.func95 (by kernel_rfl) (fun b hb => by
    have : loopsOf (bodyOf Try.f95) = [b28] := by kernel_rfl
    rw [this] at hb
    rw [List.mem_singleton.1 hb]
    exact l28) (fun xs hx hp => by
      refine (f28f xs.1).trans ?_
      rw [show decide (List.length (α := Int) xs.1 ≤ 140737488355328) = true from hp]
      exact all_bytes (bytes_ok hx.1)) (fun xs hx hp => r28f xs.1)

end Go.Proofs.Ytffdkniccaebmaa.Fld

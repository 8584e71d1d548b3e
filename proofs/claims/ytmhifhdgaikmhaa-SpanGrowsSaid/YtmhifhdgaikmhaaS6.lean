/- The arithmetic of the other statements of layer 6 (span). -/
import Derived.Test.YtmhifhdgaikmhaaS5
set_option linter.unusedVariables false
namespace Go.Proofs.Ytmhifhdgaikmhaa.Span
open Go Vse Go.Proofs

theorem has_iff (lo hi t : Int) : hasF (lo, hi, ()) t = true ↔ lo ≤ t ∧ t ≤ hi := by
  have : hasF (lo, hi, ()) t = (decide (t ≥ lo) && decide (t ≤ hi)) := rfl
  rw [this]; simp

theorem eqS_iff (a b c d : Int) : eqT tS (a, b, ()) (c, d, ()) = true ↔ a = c ∧ b = d := by
  have : eqT tS (a, b, ()) (c, d, ()) = (decide (a = c) && (decide (b = d) && true)) := rfl
  rw [this]; simp

theorem eqB_iff (a b : Bool) : eqT .bool a b = true ↔ a = b := by
  have : eqT .bool a b = (a == b) := rfl
  rw [this]; simp

theorem width_eq (lo hi : Int) : widthF (lo, hi, ()) = w (hi - lo) := rfl
theorem hull_eq (a b c d : Int) : hullF (a, b, ()) (c, d, ()) = (min a c, max b d, ()) := by
  have : hullF (a, b, ()) (c, d, ()) = (minI a c, maxI b d, ()) := rfl
  rw [this, minI_eq, maxI_eq]

theorem meet_yes {a b c d : Int} (h : max a c ≤ min b d) : meetF (a, b, ()) (c, d, ()) = ((max a c, min b d, ()), true, ()) := by
  have : meetF (a, b, ()) (c, d, ()) = bif decide (maxI a c > minI b d) then ((0, 0, ()), false, ()) else ((maxI a c, minI b d, ()), true, ()) := rfl
  rw [this, minI_eq, maxI_eq, decide_eq_false (by omega)]; rfl
theorem meet_no {a b c d : Int} (h : ¬ max a c ≤ min b d) : meetF (a, b, ()) (c, d, ()) = ((0, 0, ()), false, ()) := by
  have : meetF (a, b, ()) (c, d, ()) = bif decide (maxI a c > minI b d) then ((0, 0, ()), false, ()) else ((maxI a c, minI b d, ()), true, ()) := rfl
  rw [this, minI_eq, maxI_eq, decide_eq_true (by omega)]; rfl

theorem meets_true (a b c d t : Int) : meetsF (a, b, ()) (c, d, ()) t = true := by
  unfold meetsF
  by_cases hra : rightF (a, b, ()) = true
  rotate_left
  · simp [hra]
  by_cases hrb : rightF (c, d, ()) = true
  rotate_left
  · simp [hrb]
  obtain ⟨r1, r2, r3⟩ := (right_iff _ _).1 hra
  obtain ⟨r4, r5, r6⟩ := (right_iff _ _).1 hrb
  rw [hra, hrb]
  simp only [Bool.not_true, Bool.false_or]
  have hw : decide (widthF (hullF (a, b, ()) (c, d, ())) ≥ widthF (a, b, ())) = true := by
    rw [hull_eq, width_eq, width_eq, w_id (by omega) (by omega), w_id (by omega) (by omega)]
    exact decide_eq_true (by omega)
  have hh : (hasF (a, b, ()) t = true ∨ hasF (c, d, ()) t = true) → hasF (hullF (a, b, ()) (c, d, ())) t = true := by
    rw [hull_eq, has_iff, has_iff, has_iff]; omega
  have m3 : ∀ both one x, both = x → (one = true → hasF (hullF (a, b, ()) (c, d, ())) t = true) → meets3 (a, b, ()) (c, d, ()) t both one x = true := by
    intro both one x h1 h2
    unfold meets3
    rw [(eqB_iff _ _).2 h1, hw]
    cases one with
    | false => rfl
    | true => rw [h2 rfl]; rfl
  have m2 : ∀ both one, (both = (hasF (a, b, ()) t && hasF (c, d, ()) t)) → (one = true → hasF (hullF (a, b, ()) (c, d, ())) t = true) → meets2 (a, b, ()) (c, d, ()) t both one = true := by
    intro both one h1 h2
    unfold meets2
    by_cases hm : max a c ≤ min b d
    · rw [meet_yes hm, meet_yes (a := c) (by omega)]
      simp only [cond_true]
      rw [(eqS_iff _ _ _ _).2 ⟨by omega, by omega⟩, (eqB_iff _ _).2 rfl]
      simp only [Bool.true_and]
      refine m3 _ _ _ ?_ h2
      rw [h1, Bool.eq_iff_iff, Bool.and_eq_true, has_iff, has_iff, has_iff]
      omega
    · rw [meet_no hm, meet_no (a := c) (by omega)]
      simp only [cond_false]
      rw [(eqS_iff _ _ _ _).2 ⟨rfl, rfl⟩, (eqB_iff _ _).2 rfl]
      simp only [Bool.true_and]
      refine m3 _ _ _ ?_ h2
      rw [h1, Bool.eq_false_iff]
      intro h
      rw [Bool.and_eq_true, has_iff, has_iff] at h
      omega
  have m1 : ∀ both, (both = (hasF (a, b, ()) t && hasF (c, d, ()) t)) → meets1 (a, b, ()) (c, d, ()) t both = true := by
    intro both h1
    unfold meets1
    cases h : hasF (a, b, ()) t with
    | true => exact m2 _ _ h1 (fun _ => hh (.inl h))
    | false => exact m2 _ _ h1 (fun h' => hh (.inr h'))
  cases h : hasF (a, b, ()) t with
  | true => exact m1 _ (by rw [h]; rfl)
  | false => exact m1 _ (by rw [h]; rfl)

theorem grows_true (lo hi t k r p : Int) (ht : -9223372036854775808 ≤ t ∧ t ≤ 9223372036854775807) : growsF (lo, hi, ()) t k r p = true := by
  unfold growsF
  simp only [Bool.or_eq_true, decide_eq_true_eq, Bool.not_eq_true']
  by_cases h : p < 0 ∨ p > 100000 ∨ k < 0 ∨ k > 1099511627776 ∨ r < 0 ∨ r > 2199023255552 ∨ rightF (lo, hi, ()) = false ∨ lo < -576460752303423488 ∨ hi > 576460752303423488
  · rcases h with h | h | h | h | h | h | h | h | h <;> simp [h]
  · simp only [not_or, Int.not_lt, Bool.not_eq_false, gt_iff_lt] at h
    obtain ⟨h1, h2, h3, h4, h5, h6, h7, h8, h9⟩ := h
    right; right; right; right; right; right; right; right; right
    obtain ⟨r1, r2, r3⟩ := (right_iff lo hi).1 h7
    have ka : knownF k p = true := (known_iff k p).2 ⟨h3, by omega, h1, h2⟩
    obtain ⟨sa, sa1, sa2⟩ := slack_eq ka
    generalize k * p = X at *
    have hA : slackF k p ≤ k := by rw [sa]; omega
    have hA0 : 0 ≤ slackF k p := by rw [sa]; omega
    clear sa sa1 sa2
    have rest : ∀ q : Int, (q = r - k ∨ q = k - r) → q ≥ r - k → q ≥ k - r → growsRest (lo, hi, ()) t k r p q = true := by
      intro q _ q1 q2
      unfold growsRest
      rw [grow_eq ka]
      generalize slackF k p = A at *
      rw [w_id (x := lo + k) (by omega) (by omega), w_id (x := hi + k) (by omega) (by omega), w_id (x := lo + k - A) (by omega) (by omega), w_id (x := hi + k + A) (by omega) (by omega)]
      rw [show min (max (lo + k - A) (-1152921504606846976)) 1152921504606846976 = lo + k - A by omega, show min (max (hi + k + A) (-1152921504606846976)) 1152921504606846976 = hi + k + A by omega]
      by_cases hq : q > A
      · simp [hq]
      by_cases hhs : hasF (lo, hi, ()) t = true
      rotate_left
      · simp [hhs]
      obtain ⟨t1, t2⟩ := (has_iff _ _ _).1 hhs
      rw [hhs, (has_iff _ _ _).2 (by rw [w_id (by omega) (by omega)]; omega), (right_iff _ _).2 (by omega), width_eq, width_eq, w_id (x := hi + k + A - (lo + k - A)) (by omega) (by omega), w_id (x := hi - lo) (by omega) (by omega),
        w_id (x := 2 * A) (by omega) (by omega), w_id (by omega) (by omega), decide_eq_true (show hi + k + A - (lo + k - A) = hi - lo + 2 * A by omega)]
      simp
    rw [w_id (x := r - k) (by omega) (by omega), w_id (x := 0 - (r - k)) (by omega) (by omega)]
    by_cases hn : r - k < 0
    · rw [decide_eq_true hn]; exact rest _ (by omega) (by omega) (by omega)
    · rw [decide_eq_false hn]; exact rest _ (by omega) (by omega) (by omega)

theorem rslack_eq (t p : Int) : rSlackF t p = slackF t p := by
  cases h : knownF t p with
  | false => unfold rSlackF slackF; rw [h]; rfl
  | true =>
    have hk := (known_iff t p).1 h
    obtain ⟨h1, h2, h3, h4⟩ := hk
    rw [(slack_eq h).1]
    have e1 : t.tdiv 1000000 = t / 1000000 := Int.tdiv_eq_ediv_of_nonneg h1
    have e2 : t.tmod 1000000 = t % 1000000 := Int.tmod_eq_emod_of_nonneg h1
    generalize hq : t / 1000000 = q at *
    generalize hr : t % 1000000 = r at *
    have ht : t = 1000000 * q + r := by omega
    have hr0 : 0 ≤ r := by omega
    have hr1 : r < 1000000 := by omega
    have hq0 : 0 ≤ q := by omega
    have hqp : 0 ≤ q * p := Int.mul_nonneg hq0 h3
    have hqp2 : q * p ≤ q * 100000 := Int.mul_le_mul_of_nonneg_left h4 hq0
    have hrp : 0 ≤ r * p := Int.mul_nonneg hr0 h3
    have hrp2 : r * p ≤ r * 100000 := Int.mul_le_mul_of_nonneg_left h4 hr0
    have htp : t * p = 1000000 * (q * p) + r * p := by rw [ht, Int.add_mul, Int.mul_assoc]
    unfold rSlackF
    rw [h]
    simp only [Bool.not_true, cond_false]
    rw [e1, e2, w_id (x := q) (by omega) (by omega), htp]
    generalize q * p = X at *
    generalize r * p = Y at *
    rw [w_id (x := X) (by omega) (by omega), w_id (x := Y) (by omega) (by omega)]
    rw [Int.tdiv_eq_ediv_of_nonneg hrp, Int.tmod_eq_emod_of_nonneg hrp]
    rw [w_id (x := Y / 1000000) (by omega) (by omega), w_id (x := X + Y / 1000000) (by omega) (by omega), w_id (x := X + Y / 1000000 + 1) (by omega) (by omega)]
    by_cases hp : Y % 1000000 > 0
    · rw [decide_eq_true hp]; simp only [cond_true]; omega
    · rw [decide_eq_false hp]; simp only [cond_false]; omega

theorem rright_eq (lo hi : Int) : rRightF (lo, hi, ()) = rightF (lo, hi, ()) := by
  have : rRightF (lo, hi, ()) = (decide (lo ≥ -1152921504606846976) && (decide (hi ≤ 1152921504606846976) && decide (lo ≤ hi))) := rfl
  rw [this, Bool.eq_iff_iff, right_iff]
  simp

theorem rhas_eq (lo hi t : Int) : rHasF (lo, hi, ()) t = hasF (lo, hi, ()) t := rfl

theorem rgrow_eq {lo hi t p : Int} (hr : rightF (lo, hi, ()) = true) : rGrowF (lo, hi, ()) t p = growF (lo, hi, ()) t p := by
  cases h : knownF t p with
  | false => unfold rGrowF growF; rw [h]; rfl
  | true =>
    have hk := (known_iff t p).1 h
    obtain ⟨h1, h2, h3, h4⟩ := hk
    obtain ⟨r1, r2, r3⟩ := (right_iff lo hi).1 hr
    rw [grow_eq h]
    have : rGrowF (lo, hi, ()) t p = (minI (w (w (lo + t) - rSlackF t p)) 1152921504606846976, minI (w (w (hi + t) + rSlackF t p)) 1152921504606846976, ()) := by
      unfold rGrowF; rw [h]; rfl
    rw [this, rslack_eq, minI_eq, minI_eq]
    obtain ⟨sa, sa1, sa2⟩ := slack_eq h
    generalize t * p = X at *
    have hA : slackF t p ≤ t := by rw [sa]; omega
    have hA0 : 0 ≤ slackF t p := by rw [sa]; omega
    clear sa sa1 sa2 this
    generalize slackF t p = A at *
    rw [w_id (x := lo + t) (by omega) (by omega), w_id (x := hi + t) (by omega) (by omega), w_id (x := lo + t - A) (by omega) (by omega), w_id (x := hi + t + A) (by omega) (by omega)]
    rw [show max (lo + t - A) (-1152921504606846976) = lo + t - A by omega, show max (hi + t + A) (-1152921504606846976) = hi + t + A by omega]

theorem eqS_refl (x : tS.den) : eqT tS x x = true := by
  obtain ⟨a, b, u⟩ := x
  exact (eqS_iff a b a b).2 ⟨rfl, rfl⟩

theorem tells_true (a b c d n m p : Int) : tellsF (a, b, ()) (c, d, ()) n m p = true := by
  unfold tellsF
  rw [rright_eq, rhas_eq, rslack_eq, (eqB_iff _ _).2 rfl, (eqB_iff _ _).2 rfl, (eqB_iff _ _).2 rfl, eqS_refl, decide_eq_true rfl]
  simp only [Bool.not_true, cond_false]
  unfold tells1
  rw [rright_eq, rright_eq]
  by_cases hra : rightF (a, b, ()) = true
  rotate_left
  · simp [hra]
  rw [hra, rgrow_eq hra, eqS_refl]
  have h1 : eqT tS (hullF (a, b, ()) (c, d, ())) (minI a c, maxI b d, ()) = true := eqS_refl _
  have h2 : decide (widthF (a, b, ()) = w (b - a)) = true := decide_eq_true rfl
  simp only [Bool.not_true, Bool.false_or, Bool.and_true]
  rw [h1, h2]
  simp

end Go.Proofs.Ytmhifhdgaikmhaa.Span

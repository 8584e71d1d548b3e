/- The arithmetic of layer 6 (span). -/
import Derived.Test.YtmhifhdgaikmhaaS2
set_option linter.unusedVariables false
namespace Go.Proofs.Ytmhifhdgaikmhaa.Span
open Go Vse Go.Proofs

theorem w_id {x : Int} (h : -9223372036854775808 ≤ x) (h' : x ≤ 9223372036854775807) : w x = x := by
  simp [IntKind.wrap, IntKind.signed, IntKind.bits]
  split <;> omega

theorem minI_eq (x y : Int) : minI x y = min x y := by unfold minI; split <;> omega
theorem maxI_eq (x y : Int) : maxI x y = max x y := by unfold maxI; split <;> omega

theorem known_iff (t p : Int) : knownF t p = true ↔ 0 ≤ t ∧ t ≤ 1152921504606846976 ∧ 0 ≤ p ∧ p ≤ 100000 := by
  simp [knownF]

theorem clamp_eq (lo hi : Int) : clampF (lo, hi, ()) = (min (max lo (-1152921504606846976)) 1152921504606846976, min (max hi (-1152921504606846976)) 1152921504606846976, ()) := by simp only [clampF, minI_eq, maxI_eq]

theorem right_iff (lo hi : Int) : rightF (lo, hi, ()) = true ↔ -1152921504606846976 ≤ lo ∧ hi ≤ 1152921504606846976 ∧ lo ≤ hi := by
  have : rightF (lo, hi, ()) = ((decide (lo = min (max lo (-1152921504606846976)) 1152921504606846976) && (decide (hi = min (max hi (-1152921504606846976)) 1152921504606846976) && true)) && decide (lo ≤ hi)) := by
    unfold rightF; rw [clamp_eq]; rfl
  rw [this]
  simp only [Bool.and_eq_true, decide_eq_true_eq, and_true]
  omega

/-- what is left of a million parts, rounded up -/
theorem slack_eq {t p : Int} (h : knownF t p = true) : slackF t p = (t * p + 999999) / 1000000 ∧ 0 ≤ t * p ∧ t * p ≤ 100000 * t := by
  have hk := (known_iff t p).1 h
  obtain ⟨h1, h2, h3, h4⟩ := hk
  have hm : t * p ≤ t * 100000 := Int.mul_le_mul_of_nonneg_left h4 h1
  have h0 : 0 ≤ t * p := Int.mul_nonneg h1 h3
  have e1 : t.tdiv 1000000 = t / 1000000 := Int.tdiv_eq_ediv_of_nonneg h1
  have e2 : t.tmod 1000000 = t % 1000000 := Int.tmod_eq_emod_of_nonneg h1
  generalize hq : t / 1000000 = q at *
  generalize hr : t % 1000000 = r at *
  have ht : t = 1000000 * q + r := by omega
  have hr0 : 0 ≤ r := by omega
  have hr1 : r < 1000000 := by omega
  have hq0 : 0 ≤ q := by omega
  have hqp : 0 ≤ q * p := Int.mul_nonneg hq0 h3
  have hqp2 : q * p ≤ q * 100000 := Int.mul_le_mul_of_nonneg_left h4 hq0
  have hrp : 0 ≤ r * p := Int.mul_nonneg hr0 h3
  have hrp2 : r * p ≤ r * 100000 := Int.mul_le_mul_of_nonneg_left h4 hr0
  have htp : t * p = 1000000 * (q * p) + r * p := by rw [ht, Int.add_mul, Int.mul_assoc]
  refine ⟨?_, h0, by omega⟩
  unfold slackF
  rw [h]
  simp only [Bool.not_true, cond_false]
  rw [e1, e2]
  rw [w_id (x := q) (by omega) (by omega)]
  generalize q * p = X at *
  generalize r * p = Y at *
  rw [w_id (x := X) (by omega) (by omega), w_id (x := Y) (by omega) (by omega), w_id (x := Y + 1000000) (by omega) (by omega), w_id (x := Y + 1000000 - 1) (by omega) (by omega)]
  rw [Int.tdiv_eq_ediv_of_nonneg (by omega)]
  rw [w_id (x := (Y + 1000000 - 1) / 1000000) (by omega) (by omega), w_id (by omega) (by omega)]
  rw [htp]
  omega

theorem grow_eq {t p : Int} (h : knownF t p = true) (lo hi : Int) : growF (lo, hi, ()) t p =
    (min (max (w (w (lo + t) - slackF t p)) (-1152921504606846976)) 1152921504606846976, min (max (w (w (hi + t) + slackF t p)) (-1152921504606846976)) 1152921504606846976, ()) := by
  unfold growF
  rw [h]
  exact clamp_eq _ _

theorem steps_true (lo hi a b c : Int) : stepsF (lo, hi, ()) a b c = true := by
  unfold stepsF
  simp only [Bool.or_eq_true, Bool.and_eq_true, decide_eq_true_eq, Bool.not_eq_true']
  by_cases h : c < 0 ∨ c > 100000 ∨ a < 0 ∨ b < 0 ∨ a > 288230376151711744 ∨ b > 288230376151711744 ∨ rightF (lo, hi, ()) = false
  · rcases h with h | h | h | h | h | h | h <;> simp [h]
  · simp only [not_or, Int.not_lt, Bool.not_eq_false, gt_iff_lt] at h
    obtain ⟨h1, h2, h3, h4, h5, h6, h7⟩ := h
    right; right; right; right; right; right; right
    obtain ⟨r1, r2, r3⟩ := (right_iff lo hi).1 h7
    have ka : knownF a c = true := (known_iff a c).2 ⟨h3, by omega, h1, h2⟩
    have kb : knownF b c = true := (known_iff b c).2 ⟨h4, by omega, h1, h2⟩
    have eab : w (a + b) = a + b := w_id (by omega) (by omega)
    have kab : knownF (a + b) c = true := (known_iff _ c).2 ⟨by omega, by omega, h1, h2⟩
    obtain ⟨sa, sa1, sa2⟩ := slack_eq ka
    obtain ⟨sb, sb1, sb2⟩ := slack_eq kb
    obtain ⟨sab, sab1, sab2⟩ := slack_eq kab
    have hd : (a + b) * c = a * c + b * c := Int.add_mul a b c
    rw [hd] at sab sab1 sab2
    generalize a * c = X at *
    generalize b * c = Y at *
    rw [eab]
    rw [grow_eq ka, grow_eq kb, grow_eq kab]
    simp only [sa, sb, sab]
    have w1 : w (lo + a) = lo + a := w_id (by omega) (by omega)
    have w2 : w (hi + a) = hi + a := w_id (by omega) (by omega)
    have w3 : w (lo + (a + b)) = lo + (a + b) := w_id (by omega) (by omega)
    have w4 : w (hi + (a + b)) = hi + (a + b) := w_id (by omega) (by omega)
    simp only [w1, w2, w3, w4]
    generalize hA : (X + 999999) / 1000000 = A at *
    generalize hB : (Y + 999999) / 1000000 = B at *
    generalize hC : (X + Y + 999999) / 1000000 = D at *
    have w5 : w (lo + a - A) = lo + a - A := w_id (by omega) (by omega)
    have w6 : w (hi + a + A) = hi + a + A := w_id (by omega) (by omega)
    have w7 : w (lo + (a + b) - D) = lo + (a + b) - D := w_id (by omega) (by omega)
    have w8 : w (hi + (a + b) + D) = hi + (a + b) + D := w_id (by omega) (by omega)
    have w9 : w (A + B) = A + B := w_id (by omega) (by omega)
    have w10 : w (D + 1) = D + 1 := w_id (by omega) (by omega)
    simp only [w5, w6, w7, w8, w9, w10]
    generalize hg1 : min (max (lo + a - A) (-1152921504606846976)) 1152921504606846976 = g1
    generalize hg2 : min (max (hi + a + A) (-1152921504606846976)) 1152921504606846976 = g2
    clear sa sb sab w1 w2 w3 w4 w5 w6 w7 w8 w9 w10 kab kb ka eab hd
    have w11 : w (g1 + b) = g1 + b := w_id (by omega) (by omega)
    have w12 : w (g2 + b) = g2 + b := w_id (by omega) (by omega)
    have w13 : w (g1 + b - B) = g1 + b - B := w_id (by omega) (by omega)
    have w14 : w (g2 + b + B) = g2 + b + B := w_id (by omega) (by omega)
    simp only [w11, w12, w13, w14]
    clear w11 w12 w13 w14
    have q1 : D ≤ A + B := by omega
    have q2 : A + B ≤ D + 1 := by omega
    have q3 : A ≤ a := by omega
    have q4 : B ≤ b := by omega
    have q5 : 0 ≤ A := by omega
    have q6 : 0 ≤ B := by omega
    have q7 : 0 ≤ D := by omega
    clear hA hB hC sa1 sa2 sb1 sb2 sab1 sab2
    have q8 : g1 ≤ lo + a - A := by omega
    have q9 : g2 = 1152921504606846976 ∨ hi + a + A ≤ g2 := by omega
    clear hg1 hg2
    have g1' : (min (max (g1 + b - B) (-1152921504606846976)) 1152921504606846976 : Int) ≤ min (max (lo + (a + b) - D) (-1152921504606846976)) 1152921504606846976 := by omega
    have g2' : (min (max (hi + (a + b) + D) (-1152921504606846976)) 1152921504606846976 : Int) ≤ min (max (g2 + b + B) (-1152921504606846976)) 1152921504606846976 := by
      rcases q9 with q9 | q9 <;> omega
    exact ⟨g1', g2', by omega, by omega⟩

end Go.Proofs.Ytmhifhdgaikmhaa.Span

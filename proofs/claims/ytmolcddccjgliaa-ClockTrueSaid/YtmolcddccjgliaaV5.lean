/- The clock (layer 8): what its functions give. -/
import Derived.Test.YtmolcddccjgliaaV4
set_option linter.unusedVariables false
set_option maxRecDepth 100000
namespace Go.Proofs.Ytmolcddccjgliaa.Clock
open Go Vse Go.Proofs Gen Sweep

/-! spans that grow -/

theorem known_iff (t p : Int) : knownF t p = true ↔ 0 ≤ t ∧ t ≤ 1152921504606846976 ∧ 0 ≤ p ∧ p ≤ 100000 := by
  simp [knownF]
theorem clamp_eq (lo hi : Int) : clampF (lo, hi, ()) = (min (max lo (-1152921504606846976)) 1152921504606846976, min (max hi (-1152921504606846976)) 1152921504606846976, ()) := by simp only [clampF, min_eq, max_eq]
theorem right_iff (lo hi : Int) : rightF (lo, hi, ()) = true ↔ -1152921504606846976 ≤ lo ∧ hi ≤ 1152921504606846976 ∧ lo ≤ hi := by
  rw [right_eq]
  show right (lo, hi) = true ↔ _
  simp only [right, Bool.and_eq_true, decide_eq_true_eq, and_assoc]
  exact Iff.rfl

/-- what is left of a million parts, rounded up -/
theorem slack_eq {t p : Int} (h : knownF t p = true) : slackF t p = (t * p + 999999) / 1000000 ∧ 0 ≤ t * p ∧ t * p ≤ 100000 * t := by
  have hk := (known_iff t p).1 h
  obtain ⟨h1, h2, h3, h4⟩ := hk
  have hm : t * p ≤ t * 100000 := Int.mul_le_mul_of_nonneg_left h4 h1
  have h0 : 0 ≤ t * p := Int.mul_nonneg h1 h3
  have e1 : t.tdiv 1000000 = t / 1000000 := Int.tdiv_eq_ediv_of_nonneg h1
  have e2 : t.tmod 1000000 = t % 1000000 := Int.tmod_eq_emod_of_nonneg h1
  generalize hq : t / 1000000 = q at *
  generalize hr : t % 1000000 = r at *
  have ht : t = 1000000 * q + r := by omega
  have hr0 : 0 ≤ r := by omega
  have hr1 : r < 1000000 := by omega
  have hq0 : 0 ≤ q := by omega
  have hqp : 0 ≤ q * p := Int.mul_nonneg hq0 h3
  have hqp2 : q * p ≤ q * 100000 := Int.mul_le_mul_of_nonneg_left h4 hq0
  have hrp : 0 ≤ r * p := Int.mul_nonneg hr0 h3
  have hrp2 : r * p ≤ r * 100000 := Int.mul_le_mul_of_nonneg_left h4 hr0
  have htp : t * p = 1000000 * (q * p) + r * p := by rw [ht, Int.add_mul, Int.mul_assoc]
  refine ⟨?_, h0, by omega⟩
  unfold slackF
  rw [h]
  simp only [Bool.not_true, cond_false]
  rw [e1, e2]
  rw [w_id (x := q) (by omega) (by omega)]
  generalize q * p = X at *
  generalize r * p = Y at *
  rw [w_id (x := X) (by omega) (by omega), w_id (x := Y) (by omega) (by omega), w_id (x := Y + 1000000) (by omega) (by omega), w_id (x := Y + 1000000 - 1) (by omega) (by omega)]
  rw [Int.tdiv_eq_ediv_of_nonneg (by omega)]
  rw [w_id (x := (Y + 1000000 - 1) / 1000000) (by omega) (by omega), w_id (by omega) (by omega)]
  rw [htp]
  omega
theorem slack_le {t p : Int} (h : knownF t p = true) : 0 ≤ slackF t p ∧ slackF t p ≤ t := by
  obtain ⟨h1, h2, h3, h4⟩ := (known_iff t p).1 h
  obtain ⟨a, b, c⟩ := slack_eq h
  rw [a]
  generalize t * p = X at *
  omega
theorem grow_eq {t p : Int} (h : knownF t p = true) (lo hi : Int) : growF (lo, hi, ()) t p =
    (min (max (w (w (lo + t) - slackF t p)) (-1152921504606846976)) 1152921504606846976, min (max (w (w (hi + t) + slackF t p)) (-1152921504606846976)) 1152921504606846976, ()) := by
  unfold growF
  rw [h]
  exact clamp_eq _ _
/-- ..of what may be -/
theorem grow_right {t p lo hi : Int} (h : knownF t p = true) (hr : rightF (lo, hi, ()) = true) : growF (lo, hi, ()) t p = (min (lo + t - slackF t p) 1152921504606846976, min (hi + t + slackF t p) 1152921504606846976, ()) := by
  obtain ⟨h1, h2, h3, h4⟩ := (known_iff t p).1 h
  obtain ⟨r1, r2, r3⟩ := (right_iff lo hi).1 hr
  obtain ⟨q1, q2⟩ := slack_le h
  rw [grow_eq h]
  generalize slackF t p = A at *
  rw [w_id (x := lo + t) (by omega) (by omega), w_id (x := hi + t) (by omega) (by omega), w_id (x := lo + t - A) (by omega) (by omega), w_id (x := hi + t + A) (by omega) (by omega)]
  rw [show max (lo + t - A) (-1152921504606846976) = lo + t - A by omega, show max (hi + t + A) (-1152921504606846976) = hi + t + A by omega]
theorem rslack_eq (t p : Int) : rSlackF t p = slackF t p := by
  cases h : knownF t p with
  | false => unfold rSlackF slackF; rw [h]; rfl
  | true =>
    have hk := (known_iff t p).1 h
    obtain ⟨h1, h2, h3, h4⟩ := hk
    rw [(slack_eq h).1]
    have e1 : t.tdiv 1000000 = t / 1000000 := Int.tdiv_eq_ediv_of_nonneg h1
    have e2 : t.tmod 1000000 = t % 1000000 := Int.tmod_eq_emod_of_nonneg h1
    generalize hq : t / 1000000 = q at *
    generalize hr : t % 1000000 = r at *
    have ht : t = 1000000 * q + r := by omega
    have hr0 : 0 ≤ r := by omega
    have hr1 : r < 1000000 := by omega
    have hq0 : 0 ≤ q := by omega
    have hqp : 0 ≤ q * p := Int.mul_nonneg hq0 h3
    have hqp2 : q * p ≤ q * 100000 := Int.mul_le_mul_of_nonneg_left h4 hq0
    have hrp : 0 ≤ r * p := Int.mul_nonneg hr0 h3
    have hrp2 : r * p ≤ r * 100000 := Int.mul_le_mul_of_nonneg_left h4 hr0
    have htp : t * p = 1000000 * (q * p) + r * p := by rw [ht, Int.add_mul, Int.mul_assoc]
    unfold rSlackF
    rw [h]
    simp only [Bool.not_true, cond_false]
    rw [e1, e2, w_id (x := q) (by omega) (by omega), htp]
    generalize q * p = X at *
    generalize r * p = Y at *
    rw [w_id (x := X) (by omega) (by omega), w_id (x := Y) (by omega) (by omega)]
    rw [Int.tdiv_eq_ediv_of_nonneg hrp, Int.tmod_eq_emod_of_nonneg hrp]
    rw [w_id (x := Y / 1000000) (by omega) (by omega), w_id (x := X + Y / 1000000) (by omega) (by omega), w_id (x := X + Y / 1000000 + 1) (by omega) (by omega)]
    by_cases hp : Y % 1000000 > 0
    · rw [decide_eq_true hp]; simp only [cond_true]; omega
    · rw [decide_eq_false hp]; simp only [cond_false]; omega
theorem rgrow_eq {s : tS.den} {t p : Int} (hr : rightF s = true) : rGrowF s t p = growF s t p := by
  obtain ⟨lo, hi, u⟩ := s
  cases h : knownF t p with
  | false => unfold rGrowF growF; rw [h]; rfl
  | true =>
    rw [grow_right h hr]
    have : rGrowF (lo, hi, ()) t p = (minI (w (w (lo + t) - rSlackF t p)) 1152921504606846976, minI (w (w (hi + t) + rSlackF t p)) 1152921504606846976, ()) := by
      unfold rGrowF; rw [h]; rfl
    obtain ⟨h1, h2, h3, h4⟩ := (known_iff t p).1 h
    obtain ⟨r1, r2, r3⟩ := (right_iff lo hi).1 hr
    obtain ⟨q1, q2⟩ := slack_le h
    refine this.trans ?_
    rw [rslack_eq, min_eq, min_eq]
    generalize slackF t p = A at *
    rw [w_id (x := lo + t) (by omega) (by omega), w_id (x := hi + t) (by omega) (by omega), w_id (x := lo + t - A) (by omega) (by omega), w_id (x := hi + t + A) (by omega) (by omega)]
theorem rright_fun : rRightF = rightF := by funext x; rw [right_eq, rright_eq]

/-! functions -/

def sampF (s : tS.den) (a g p : Int) : tS.den × Int × Unit :=
  if rightF s = true ∧ readF a = true ∧ readF g = true ∧ ¬ g < a ∧ partF p = true then ((s.1, (growF s (w (g - a)) p).2.1, ()), 0, ()) else ((0, 0, ()), 1, ())
def newF (p : Int) : tC.den × Int × Unit := if partF p = true then (newC p, 0, ()) else (noC, 1, ())
def mayC (c : tC.den) : Bool := partF c.1 && (!c.2.1 || (readF c.2.2.1 && rightF c.2.2.2.1))
def nowF (c : tC.den) (t : Int) : tS.den × Int × Unit :=
  if c.2.1 = true ∧ mayC c = true ∧ readF t = true ∧ ¬ t < c.2.2.1 then (growF c.2.2.2.1 (w (t - c.2.2.1)) c.1, 0, ()) else ((0, 0, ()), 11, ())
def setF (c : tC.den) (t : Int) (l : TL) (liars : Int) : tC.den × Int × Unit :=
  if readF t = true then if (fuseT l liars).2.1 = 0 then ((c.1, true, t, (fuseT l liars).1, ()), 0, ()) else (noC, (fuseT l liars).2.1, ()) else (noC, 1, ())
def partedF (r b p : Int) : Int × Bool × Unit :=
  let t := w (r + b)
  if b < -1099511627776 ∨ b > 1099511627776 ∨ t < 0 then (0, false, ()) else (t, decide (b ≤ rSlackF t p) && decide (b ≥ w (0 - rSlackF t p)), ())

theorem part_cases (p : Int) : (p < 0 ∧ partF p = false) ∨ (¬ p < 0 ∧ p > 100000 ∧ partF p = false) ∨ (¬ p < 0 ∧ ¬ p > 100000 ∧ partF p = true) := by
  unfold partF
  by_cases h1 : p < 0
  · exact .inl ⟨h1, by rw [decide_eq_false (by omega)]; rfl⟩
  · by_cases h2 : p > 100000
    · exact .inr (.inl ⟨h1, h2, by rw [decide_eq_false (show ¬ p ≤ 100000 by omega), Bool.and_false]⟩)
    · exact .inr (.inr ⟨h1, h2, by rw [decide_eq_true (by omega), decide_eq_true (by omega)]; rfl⟩)

theorem part_dec (p : Int) : (decide (p ≥ 0) = false ∧ partF p = false) ∨ (decide (p ≥ 0) = true ∧ decide (p ≤ 100000) = false ∧ partF p = false) ∨ (decide (p ≥ 0) = true ∧ decide (p ≤ 100000) = true ∧ partF p = true) := by
  rcases part_cases p with ⟨q1, q2⟩ | ⟨q1, q2, q3⟩ | ⟨q1, q2, q3⟩
  · exact .inl ⟨decide_eq_false (by omega), q2⟩
  · exact .inr (.inl ⟨decide_eq_true (by omega), decide_eq_false (by omega), q3⟩)
  · exact .inr (.inr ⟨decide_eq_true (by omega), decide_eq_true (by omega), q3⟩)
theorem cX_sound : CtxSound Try.prog (ctx (cX rightF rRightF readF partF growF rGrowF offF)) ∧ CtxLocal (ctx (cX rightF rRightF readF partF growF rGrowF offF)) := ctx_sound ⟨ok39, ok16, ok40, ok42, ok41, ok32, ok43, ok30, trivial⟩
theorem cXM : CtxSound Try.prog (ctx (cX rightF rRightF readF partF growF rGrowF offF)) := cX_sound.1

theorem TSa_eq (s : tS.den) (a g p : Int) : (TSa rightF readF partF growF s a g p).eval = some (sampF s a g p, ()) := by
  unfold TSa sampF
  cases h1 : rightF s with
  | false => rw [ite_t (by rfl), if_neg (by simp)]; rfl
  | true =>
    cases h2 : readF a with
    | false => rw [ite_f (by rfl), ite_t (by rfl), if_neg (by simp)]; rfl
    | true =>
      cases h3 : readF g with
      | false => rw [ite_f (by rfl), ite_f (by rfl), ite_t (by rfl), if_neg (by simp)]; rfl
      | true =>
        by_cases h4 : g < a
        · rw [ite_f (by rfl), ite_f (by rfl), ite_f (by rfl), ite_t (decide_eq_true h4), if_neg (by simp [h4])]; rfl
        · cases h5 : partF p with
          | false => rw [ite_f (by rfl), ite_f (by rfl), ite_f (by rfl), ite_f (decide_eq_false h4), ite_t (by rfl), if_neg (by simp)]; rfl
          | true => rw [ite_f (by rfl), ite_f (by rfl), ite_f (by rfl), ite_f (decide_eq_false h4), ite_f (by rfl), if_pos ⟨rfl, rfl, rfl, h4, rfl⟩]; rfl
theorem TRSa_eq (s : tS.den) (a g p : Int) : (TRSa rRightF readF rGrowF s a g p).eval = some (sampF s a g p, ()) := by
  rw [rright_fun]
  unfold TRSa sampF
  cases h1 : rightF s with
  | false => rw [ite_t (by rfl), if_neg (by simp)]; rfl
  | true =>
    cases h2 : readF a with
    | false => rw [ite_f (by rfl), ite_t (by rfl), if_neg (by simp)]; rfl
    | true =>
      cases h3 : readF g with
      | false => rw [ite_f (by rfl), ite_f (by rfl), ite_t (by rfl), if_neg (by simp)]; rfl
      | true =>
        by_cases h4 : g < a
        · rw [ite_f (by rfl), ite_f (by rfl), ite_f (by rfl), ite_t (decide_eq_true h4), if_neg (by simp [h4])]; rfl
        · rw [rgrow_eq h1]
          rcases part_cases p with ⟨q1, q2⟩ | ⟨q1, q2, q3⟩ | ⟨q1, q2, q3⟩
          · rw [ite_f (by rfl), ite_f (by rfl), ite_f (by rfl), ite_f (decide_eq_false h4), ite_t (decide_eq_true q1), if_neg (by simp [q2])]; rfl
          · rw [ite_f (by rfl), ite_f (by rfl), ite_f (by rfl), ite_f (decide_eq_false h4), ite_f (decide_eq_false q1), ite_t (decide_eq_true q2), if_neg (by simp [q3])]; rfl
          · rw [ite_f (by rfl), ite_f (by rfl), ite_f (by rfl), ite_f (decide_eq_false h4), ite_f (decide_eq_false q1), ite_f (decide_eq_false q2), if_pos ⟨rfl, rfl, rfl, h4, q3⟩]; rfl
def s21 : CSpec := .pos nSa (fun _ _ => true) fun x _ => (sampF x.1 x.2.1 x.2.2.1 x.2.2.2.1, ())
theorem ok21 : CSound Try.prog 21 s21 ∧ CLocal s21 :=
  pos_sound (L := L0) cX_sound Try.func21 (by kernel_rfl) (noLoopsL (by kernel_rfl)) fun xs hs _ _ hp => (tSa rightF rRightF readF partF growF rGrowF offF xs.1 xs.2.1 xs.2.2.1 xs.2.2.2.1).trans (TSa_eq _ _ _ _)
theorem ok22 : CSound Try.prog 22 s21 ∧ CLocal s21 :=
  pos_sound (L := L0) cX_sound Try.func22 (by kernel_rfl) (noLoopsL (by kernel_rfl)) fun xs hs _ _ hp => (tRSa rightF rRightF readF partF growF rGrowF offF xs.1 xs.2.1 xs.2.2.1 xs.2.2.2.1).trans (TRSa_eq _ _ _ _)

def s23 : CSpec := .pos nNe (fun _ _ => true) fun x _ => (newF x.1, ())
theorem ok23 : CSound Try.prog 23 s23 ∧ CLocal s23 :=
  pos_sound (L := L0) cX_sound Try.func23 (by kernel_rfl) (noLoopsL (by kernel_rfl)) fun xs hs _ _ hp => (tNe rightF rRightF readF partF growF rGrowF offF xs.1).trans (by
    show _ = some (newF xs.1, ())
    unfold newF
    cases h : partF xs.1 with
    | false => rw [ite_t (by rfl), if_neg (by simp)]; rfl
    | true => rw [ite_f (by rfl), if_pos rfl]; rfl)
theorem ok24 : CSound Try.prog 24 s23 ∧ CLocal s23 :=
  pos_sound (L := L0) cX_sound Try.func24 (by kernel_rfl) (noLoopsL (by kernel_rfl)) fun xs hs _ _ hp => (tRNe rightF rRightF readF partF growF rGrowF offF xs.1).trans (by
    obtain ⟨p, u⟩ := xs
    show _ = some (newF p, ())
    unfold newF
    rcases part_cases p with ⟨q1, q2⟩ | ⟨q1, q2, q3⟩ | ⟨q1, q2, q3⟩
    · rw [ite_t (decide_eq_true q1), if_neg (by simp [q2])]; rfl
    · rw [ite_f (decide_eq_false q1), ite_t (decide_eq_true q2), if_neg (by simp [q3])]; rfl
    · rw [ite_f (decide_eq_false q1), ite_f (decide_eq_false q2), if_pos q3]; rfl)

def s27 : CSpec := .slp1 [tC] (fun _ => true) .bool fun x => mayC x.1
theorem ok27 : CSound Try.prog 27 s27 ∧ CLocal s27 :=
  slpE1 (L := L0) cX_sound Try.func27 (by kernel_rfl) (noLoopsL (by kernel_rfl)) fun xs hx hp => (tMa rightF rRightF readF partF growF rGrowF offF xs.1).trans (by
    obtain ⟨⟨p, on, at_, s, u⟩, u2⟩ := xs
    show _ = some (AV.v .bool (mayC (p, on, at_, s, u)))
    rw [rright_fun]
    unfold mayC
    dsimp only
    rcases part_dec p with ⟨q1, q2⟩ | ⟨q1, q2, q3⟩ | ⟨q1, q2, q3⟩
    · rw [ite_f q1, q2]; rfl
    · rw [ite_t q1, ite_f q2, q3]; rfl
    · rw [ite_t q1, ite_t q2, q3]
      cases on with
      | false => rw [ite_t (by rfl)]; rfl
      | true =>
        rw [ite_f (by rfl)]
        cases readF at_ with
        | false => rw [ite_f (by rfl)]; rfl
        | true => rw [ite_t (by rfl)]; rfl)

theorem off_ne {c : tC.den} (h : c.2.1 = true) : eqT tC c (offF c) = false := by
  obtain ⟨p, on, at_, s, u⟩ := c
  have h : on = true := h
  subst h
  show (eqT i64 p p && (eqT .bool true false && _)) = false
  have : eqT .bool true false = false := rfl
  rw [this, Bool.false_and, Bool.and_false]
theorem TNo_eq (c : tC.den) (t : Int) : (TNo rightF readF partF growF offF c t).eval = some (nowF c t, ()) := by
  unfold TNo nowF
  dsimp only
  by_cases ho : c.2.1 = true
  · rw [ite_f (off_ne ho), ite_f (by rw [ho]; rfl)]
    unfold mayC
    cases h1 : partF c.1 with
    | false => rw [ite_t (by rfl), if_neg (by simp)]; rfl
    | true =>
      cases h2 : readF c.2.2.1 with
      | false => rw [ite_f (by rfl), ite_t (by rfl), if_neg (by simp [ho])]; rfl
      | true =>
        cases h3 : rightF c.2.2.2.1 with
        | false => rw [ite_f (by rfl), ite_f (by rfl), ite_t (by rfl), if_neg (by simp [ho])]; rfl
        | true =>
          cases h4 : readF t with
          | false => rw [ite_f (by rfl), ite_f (by rfl), ite_f (by rfl), ite_t (by rfl), if_neg (by simp)]; rfl
          | true =>
            by_cases h5 : t < c.2.2.1
            · rw [ite_f (by rfl), ite_f (by rfl), ite_f (by rfl), ite_f (by rfl), ite_t (decide_eq_true h5), if_neg (by simp [h5])]; rfl
            · rw [ite_f (by rfl), ite_f (by rfl), ite_f (by rfl), ite_f (by rfl), ite_f (decide_eq_false h5), if_pos ⟨ho, by simp, rfl, h5⟩]; rfl
  · rw [if_neg (fun h => ho h.1)]
    by_cases he : eqT tC c (offF c) = true
    · rw [ite_t he]; rfl
    · rw [ite_f (Bool.eq_false_iff.2 he), ite_t (by rw [Bool.eq_false_iff.2 ho]; rfl)]; rfl
theorem TRNo_eq (c : tC.den) (t : Int) : (TRNo mayC readF rGrowF c t).eval = some (nowF c t, ()) := by
  unfold TRNo nowF
  dsimp only
  by_cases hm : mayC c = true
  · rw [ite_f (by rw [hm]; rfl)]
    by_cases ho : c.2.1 = true
    · have hr : rightF c.2.2.2.1 = true := by
        unfold mayC at hm
        rw [ho] at hm
        simp only [Bool.not_true, Bool.false_or, Bool.and_eq_true] at hm
        exact hm.2.2
      rw [ite_f (by rw [ho]; rfl), rgrow_eq hr]
      cases h4 : readF t with
      | false => rw [ite_t (by rfl), if_neg (by simp)]; rfl
      | true =>
        by_cases h5 : t < c.2.2.1
        · rw [ite_f (by rfl), ite_t (decide_eq_true h5), if_neg (by simp [h5])]; rfl
        · rw [ite_f (by rfl), ite_f (decide_eq_false h5), if_pos ⟨ho, hm, rfl, h5⟩]; rfl
    · rw [ite_t (by rw [Bool.eq_false_iff.2 ho]; rfl), if_neg (fun h => ho h.1)]; rfl
  · rw [ite_t (by rw [Bool.eq_false_iff.2 hm]; rfl), if_neg (fun h => hm h.2.1)]; rfl
def s25 : CSpec := .pos nNo (fun _ _ => true) fun x _ => (nowF x.1 x.2.1, ())
theorem ok25 : CSound Try.prog 25 s25 ∧ CLocal s25 :=
  pos_sound (L := L0) cX_sound Try.func25 (by kernel_rfl) (noLoopsL (by kernel_rfl)) fun xs hs _ _ hp => (tNo rightF rRightF readF partF growF rGrowF offF xs.1 xs.2.1).trans (TNo_eq _ _)
theorem cXM_sound : CtxSound Try.prog (ctx ((27, s27) :: cX rightF rRightF readF partF growF rGrowF offF)) ∧ CtxLocal (ctx ((27, s27) :: cX rightF rRightF readF partF growF rGrowF offF)) := ctx_sound ⟨ok27, ok39, ok16, ok40, ok42, ok41, ok32, ok43, ok30, trivial⟩
theorem ok26 : CSound Try.prog 26 s25 ∧ CLocal s25 :=
  pos_sound (L := L0) cXM_sound Try.func26 (by kernel_rfl) (noLoopsL (by kernel_rfl)) fun xs hs _ _ hp => (tRNo mayC rightF rRightF readF partF growF rGrowF offF xs.1 xs.2.1).trans (TRNo_eq _ _)

theorem TSe_eq {l : TL} (hl : okL l = true) (c : tC.den) (t liars : Int) : (TSe readF okL fuseT c t l liars).eval = some (setF c t l liars, ()) := by
  unfold TSe setF
  cases h1 : readF t with
  | false => rw [ite_t (by rfl), if_neg (by simp)]; rfl
  | true =>
    rw [ite_f (by rfl), chk_eval hl, if_pos rfl]
    by_cases he : (fuseT l liars).2.1 = 0
    · rw [ite_f (by rw [he]; rfl), if_pos he]; rfl
    · rw [ite_t (by simp [he]), if_neg he]; rfl
def s28 : CSpec := .pos nSe (fun x _ => okL x.2.2.1) fun x _ => (setF x.1 x.2.1 x.2.2.1 x.2.2.2.1, ())
theorem cSe_sound : CtxSound Try.prog (ctx (cSe readF okL fuseT)) ∧ CtxLocal (ctx (cSe readF okL fuseT)) := ctx_sound ⟨ok40, ok42, ok10, okRF, trivial⟩
theorem ok28 : CSound Try.prog 28 s28 ∧ CLocal s28 :=
  pos_sound (L := L0) cSe_sound Try.func28 (by kernel_rfl) (noLoopsL (by kernel_rfl)) fun xs hs _ _ hp => (tSe readF okL fuseT xs.1 xs.2.1 xs.2.2.1 xs.2.2.2.1).trans (TSe_eq hp _ _ _)
theorem ok29 : CSound Try.prog 29 s28 ∧ CLocal s28 :=
  pos_sound (L := L0) cSe_sound Try.func29 (by kernel_rfl) (noLoopsL (by kernel_rfl)) fun xs hs _ _ hp => (tRSe readF okL fuseT xs.1 xs.2.1 xs.2.2.1 xs.2.2.2.1).trans (TSe_eq hp _ _ _)

theorem TPa_eq (r b p : Int) : (TPa rSlackF r b p).eval = some (partedF r b p, ()) := by
  unfold TPa partedF
  dsimp only
  by_cases h1 : b < -1099511627776
  · rw [ite_t (decide_eq_true h1), if_pos (.inl h1)]; rfl
  by_cases h2 : b > 1099511627776
  · rw [ite_f (decide_eq_false h1), ite_t (decide_eq_true h2), if_pos (.inr (.inl h2))]; rfl
  by_cases h3 : w (r + b) < 0
  · rw [ite_f (decide_eq_false h1), ite_f (decide_eq_false h2), ite_t (decide_eq_true h3), if_pos (.inr (.inr h3))]; rfl
  rw [ite_f (decide_eq_false h1), ite_f (decide_eq_false h2), ite_f (decide_eq_false h3), if_neg (by rintro (h | h | h) <;> omega)]
  by_cases h4 : b ≤ rSlackF (w (r + b)) p
  · rw [ite_t (decide_eq_true h4), decide_eq_true h4]; rfl
  · rw [ite_f (decide_eq_false h4), decide_eq_false h4]; rfl
theorem ok31 : CSound Try.prog 31 (.pos nPa (fun _ _ => true) fun x _ => (partedF x.1 x.2.1 x.2.2.1, ())) ∧ CLocal (.pos nPa (fun _ _ => true) fun x _ => (partedF x.1 x.2.1 x.2.2.1, ())) :=
  pos_sound (L := L0) (ctx_sound ⟨ok44, trivial⟩ : CtxSound Try.prog (ctx [(44, s44)]) ∧ CtxLocal (ctx [(44, s44)])) Try.func31 (by kernel_rfl) (noLoopsL (by kernel_rfl)) fun xs hs _ _ hp => (tPa rSlackF xs.1 xs.2.1 xs.2.2.1).trans (TPa_eq _ _ _)

end Go.Proofs.Ytmolcddccjgliaa.Clock

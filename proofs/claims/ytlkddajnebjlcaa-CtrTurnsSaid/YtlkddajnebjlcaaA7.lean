/- Products of bytes: they go over sums, either way, and in any order. -/
import Derived.Test.YtlkddajnebjlcaaA3
set_option linter.unusedVariables false
set_option maxRecDepth 100000
namespace Go.Proofs.Ytlkddajnebjlcaa.Aes
open Go Vse Go.Proofs

theorem tN_acc0 (k b x n : Nat) : tN k b x n = n ^^^ tN k b x 0 := by
  have := tN_acc k b x 0 n
  rw [Nat.zero_xor] at this
  rw [this, Nat.xor_comm]

theorem half_xor (b c : Nat) : (b ^^^ c) / 2 = b / 2 ^^^ c / 2 := by
  have := Nat.shiftRight_xor_distrib (a := b) (b := c) (i := 1)
  simpa [Nat.shiftRight_eq_div_pow] using this

theorem odd_xor (b c : Nat) : (b ^^^ c) % 2 = (b % 2 + c % 2) % 2 := by
  have h := Nat.xor_mod_two_pow (a := b) (b := c) (n := 1)
  simp only [Nat.pow_one] at h
  rw [h]
  rcases Nat.mod_two_eq_zero_or_one b with e | e <;> rcases Nat.mod_two_eq_zero_or_one c with e' | e' <;> rw [e, e'] <;> decide

theorem tN_add (k : Nat) : ∀ (b c x : Nat), tN k (b ^^^ c) x 0 = tN k b x 0 ^^^ tN k c x 0 := by
  induction k with
  | zero => intro b c x; simp [tN]
  | succ k ih =>
    intro b c x
    simp only [tN]
    rw [half_xor, tN_acc0 k _ _ (nN (b ^^^ c) x 0), tN_acc0 k _ _ (nN b x 0), tN_acc0 k _ _ (nN c x 0), ih]
    have hn : nN (b ^^^ c) x 0 = nN b x 0 ^^^ nN c x 0 := by
      unfold nN
      rw [odd_xor]
      rcases Nat.mod_two_eq_zero_or_one b with e | e <;> rcases Nat.mod_two_eq_zero_or_one c with e' | e' <;> simp [e, e']
    rw [hn]
    generalize nN b x 0 = p
    generalize nN c x 0 = q
    generalize tN k (b / 2) (xN x) 0 = r
    generalize tN k (c / 2) (xN x) 0 = s
    rw [Nat.xor_assoc, Nat.xor_assoc, ← Nat.xor_assoc q, Nat.xor_comm q r, Nat.xor_assoc r q s]

theorem mul_add (a b c : Nat) : mulN a (b ^^^ c) = mulN a b ^^^ mulN a c := tN_add 8 b c a

theorem xN_add : ∀ a, a < 256 → ∀ d, d < 256 → xN (a ^^^ d) = xN a ^^^ xN d := by decide +kernel

theorem tN_add' (k : Nat) : ∀ (b x y : Nat), x < 256 → y < 256 → tN k b (x ^^^ y) 0 = tN k b x 0 ^^^ tN k b y 0 := by
  induction k with
  | zero => intro b x y _ _; simp [tN]
  | succ k ih =>
    intro b x y hx hy
    simp only [tN]
    rw [xN_add x hx y hy, tN_acc0 k _ _ (nN b (x ^^^ y) 0), tN_acc0 k _ _ (nN b x 0), tN_acc0 k _ _ (nN b y 0), ih _ _ _ (xN_lt x hx) (xN_lt y hy)]
    have hn : nN b (x ^^^ y) 0 = nN b x 0 ^^^ nN b y 0 := by
      unfold nN
      rcases Nat.mod_two_eq_zero_or_one b with e | e <;> simp [e]
    rw [hn]
    generalize nN b x 0 = p
    generalize nN b y 0 = q
    generalize tN k (b / 2) (xN x) 0 = r
    generalize tN k (b / 2) (xN y) 0 = s
    rw [Nat.xor_assoc, Nat.xor_assoc, ← Nat.xor_assoc q, Nat.xor_comm q r, Nat.xor_assoc r q s]

theorem add_mul {a d : Nat} (b : Nat) (ha : a < 256) (hd : d < 256) : mulN (a ^^^ d) b = mulN a b ^^^ mulN d b := tN_add' 8 b a d ha hd

/-- what goes over sums is known by what it makes of eight bytes -/
theorem low_bit : ∀ a, a < 256 → a = 0 ∨ ∃ i, i < 8 ∧ ∃ b, b < a ∧ a = b ^^^ 2 ^ i := by
  intro a ha
  by_cases h0 : a = 0
  · exact .inl h0
  · refine .inr ?_
    have : ∀ a, a < 256 → a ≠ 0 → (a - 2 ^ a.log2) ^^^ 2 ^ a.log2 = a ∧ a.log2 < 8 ∧ 2 ^ a.log2 ≤ a ∧ 0 < 2 ^ a.log2 := by decide +kernel
    obtain ⟨h1, h2, h3, h4⟩ := this a ha h0
    exact ⟨a.log2, h2, a - 2 ^ a.log2, by omega, h1.symm⟩

theorem add_ext {g h : Nat → Nat} (hg : ∀ x y, x < 256 → y < 256 → g (x ^^^ y) = g x ^^^ g y) (hh : ∀ x y, x < 256 → y < 256 → h (x ^^^ y) = h x ^^^ h y)
    (he : ∀ i, i < 8 → g (2 ^ i) = h (2 ^ i)) : ∀ a, a < 256 → g a = h a := by
  intro a
  induction a using Nat.strongRecOn with
  | _ a ih =>
    intro ha
    rcases low_bit a ha with rfl | ⟨i, hi, b, hb, e⟩
    · have h1 := hg 0 0 (by decide) (by decide)
      have h2 := hh 0 0 (by decide) (by decide)
      simp only [Nat.xor_self] at h1 h2
      rw [h1, h2]
    · have hp : 2 ^ i < 256 := Nat.lt_of_lt_of_le (Nat.pow_lt_pow_right (by decide) hi) (by decide)
      rw [e, hg b _ (by omega) hp, hh b _ (by omega) hp, ih b hb (by omega), he i hi]

theorem mul_comm0 : ∀ i, i < 8 → ∀ j, j < 8 → mulN (2 ^ i) (2 ^ j) = mulN (2 ^ j) (2 ^ i) := by decide +kernel
theorem mul_comm {a b : Nat} (ha : a < 256) (hb : b < 256) : mulN a b = mulN b a := by
  refine add_ext (g := fun x => mulN x b) (h := fun x => mulN b x) (fun x y hx hy => add_mul b hx hy) (fun x y _ _ => mul_add b x y) (fun i hi => ?_) a ha
  have hp : 2 ^ i < 256 := Nat.lt_of_lt_of_le (Nat.pow_lt_pow_right (by decide) hi) (by decide)
  exact add_ext (g := fun y => mulN (2 ^ i) y) (h := fun y => mulN y (2 ^ i)) (fun x y _ _ => mul_add _ x y) (fun x y hx hy => add_mul _ hx hy) (fun j hj => mul_comm0 i hi j hj) b hb

theorem mul_assoc0 : ∀ i, i < 8 → ∀ j, j < 8 → ∀ k, k < 8 → mulN (mulN (2 ^ i) (2 ^ j)) (2 ^ k) = mulN (2 ^ i) (mulN (2 ^ j) (2 ^ k)) := by decide +kernel
theorem mul_assoc {a b c : Nat} (ha : a < 256) (hb : b < 256) (hc : c < 256) : mulN (mulN a b) c = mulN a (mulN b c) := by
  have pow : ∀ i, i < 8 → 2 ^ i < 256 := fun i hi => Nat.lt_of_lt_of_le (Nat.pow_lt_pow_right (by decide) hi) (by decide)
  refine add_ext (g := fun x => mulN (mulN x b) c) (h := fun x => mulN x (mulN b c)) (fun x y hx hy => ?_) (fun x y hx hy => add_mul _ hx hy) (fun i hi => ?_) a ha
  · show mulN (mulN (x ^^^ y) b) c = _
    rw [add_mul b hx hy, add_mul c (mulN_lt hx) (mulN_lt hy)]
  refine add_ext (g := fun y => mulN (mulN (2 ^ i) y) c) (h := fun y => mulN (2 ^ i) (mulN y c)) (fun x y _ _ => ?_) (fun x y hx hy => ?_) (fun j hj => ?_) b hb
  · show mulN (mulN (2 ^ i) (x ^^^ y)) c = _
    rw [mul_add, add_mul c (mulN_lt (pow i hi)) (mulN_lt (pow i hi))]
  · show mulN (2 ^ i) (mulN (x ^^^ y) c) = _
    rw [add_mul c hx hy, mul_add]
  refine add_ext (g := fun z => mulN (mulN (2 ^ i) (2 ^ j)) z) (h := fun z => mulN (2 ^ i) (mulN (2 ^ j) z)) (fun x y _ _ => mul_add _ x y) (fun x y _ _ => ?_) (fun k hk => mul_assoc0 i hi j hj k hk) c hc
  show mulN (2 ^ i) (mulN (2 ^ j) (x ^^^ y)) = _
  rw [mul_add, mul_add]

theorem mul_one' : ∀ a, a < 256 → mulN 1 a = a := by decide +kernel

end Go.Proofs.Ytlkddajnebjlcaa.Aes

/- Products of bytes, as natural numbers: both ways are one. -/
import Derived.Test.YtlkddajnebjlcaaA2
set_option linter.unusedVariables false
set_option maxRecDepth 100000
namespace Go.Proofs.Ytlkddajnebjlcaa.Aes
open Go Vse Go.Proofs

def xN (x : Nat) : Nat := if 2 * x ≥ 256 then (2 * x) ^^^ 283 else 2 * x
def nN (b x n : Nat) : Nat := if b % 2 = 1 then n ^^^ x else n
def tN : Nat → Nat → Nat → Nat → Nat
  | 0, _, _, n => n
  | k + 1, b, x, n => tN k (b / 2) (xN x) (nN b x n)

def mulN (a b : Nat) : Nat := tN 8 b a 0

theorem xN_lt : ∀ x, x < 256 → xN x < 256 := by decide +kernel
theorem x40_nat : ∀ x, x < 256 → x40 (x : Nat) = (xN x : Nat) := by decide +kernel
theorem x41_nat : ∀ x, x < 256 → x41 (x : Nat) = (xN x : Nat) := by decide +kernel
theorem shr_nat : ∀ b, b < 256 → shrI .u8 (b : Nat) 1 = ((b / 2 : Nat) : Int) := by decide +kernel
theorem and_nat : ∀ b, b < 256 → w (0 - w (andI .u8 (b : Nat) 1)) = if b % 2 = 1 then -1 else 0 := by decide +kernel

theorem xorI_i64 {m n : Nat} (hm : m < 256) (hn : n < 256) : xorI .i64 m n = ((m ^^^ n : Nat) : Int) := by
  have := xor_lt256 hm hn
  refine xorI_nat ?_ ?_ ?_ <;> rw [max_i64] <;> omega

theorem nN_lt {b x n : Nat} (hx : x < 256) (hn : n < 256) : nN b x n < 256 := by
  unfold nN; split
  · exact xor_lt256 hn hx
  · exact hn

theorem n40_nat {b x n : Nat} (hb : b < 256) (hx : x < 256) (hn : n < 256) : n40 b x n = (nN b x n : Nat) := by
  unfold n40 nN
  rw [and_nat b hb]
  split
  · rw [and_all (by omega), xorI_i64 hn hx]
  · rw [and_none (by omega)]
    have := xorI_i64 hn (show 0 < 256 by decide)
    simpa using this

theorem tN_lt : ∀ (k : Nat) {b x n : Nat}, x < 256 → n < 256 → tN k b x n < 256
  | 0, b, x, n, _, hn => hn
  | k + 1, b, x, n, hx, hn => tN_lt k (xN_lt x hx) (nN_lt hx hn)

theorem tl_nat : ∀ (k : Nat) {b x n : Nat}, b < 256 → x < 256 → n < 256 → tl k b x n = (tN k b x n : Nat)
  | 0, b, x, n, _, _, _ => rfl
  | k + 1, b, x, n, hb, hx, hn => by
    simp only [tl, tN]
    rw [shr_nat b hb, x40_nat x hx, n40_nat hb hx hn]
    exact tl_nat k (by omega) (xN_lt x hx) (nN_lt hx hn)

theorem tN_zero : ∀ (k x n : Nat), tN k 0 x n = n
  | 0, x, n => rfl
  | k + 1, x, n => by simp only [tN]; exact tN_zero k _ _

theorem tr_nat : ∀ (k : Nat) {b x n : Nat}, b < 2 ^ k → b < 256 → x < 256 → n < 256 → tr k n x b = (tN k b x n : Nat)
  | 0, b, x, n, _, _, _, _ => rfl
  | k + 1, b, x, n, hk, hb, hx, hn => by
    simp only [tr]
    by_cases h : (b : Int) > 0
    · rw [decide_eq_true h]
      simp only [cond_true, tN]
      have e1 : n41 n x b = (nN b x n : Nat) := by
        unfold n41 nN
        have e : (b : Int).tmod 2 = ((b % 2 : Nat) : Int) := rfl
        rw [e]
        by_cases h1 : b % 2 = 1
        · rw [if_pos h1, h1]; exact xorI_i64 hn hx
        · rw [if_neg h1, show b % 2 = 0 by omega]; rfl
      have e2 : w ((b : Int).tdiv 2) = ((b / 2 : Nat) : Int) := by
        rw [Int.tdiv_eq_ediv_of_nonneg (by omega), w_id (by omega) (by omega)]; omega
      rw [e1, e2, x41_nat x hx]
      exact tr_nat k (by rw [Nat.pow_succ] at hk; omega) (by omega) (xN_lt x hx) (nN_lt hx hn)
    · rw [decide_eq_false h]
      simp only [cond_false]
      have : b = 0 := by omega
      subst this
      rw [tN_zero]

theorem mulN_lt {a b : Nat} (ha : a < 256) : mulN a b < 256 := tN_lt 8 ha (by decide)

theorem wb_nat {n : Nat} (h : n < 256) : wb (n : Int) = n := wrap_nat (by rw [max_u8]; omega)

theorem timesI_nat {a b : Nat} (ha : a < 256) (hb : b < 256) : timesI a b = (mulN a b : Nat) := by
  unfold timesI
  rw [w_id (by omega) (by omega)]
  have := tl_nat 8 hb ha (show 0 < 256 by decide)
  rw [show (0 : Int) = ((0 : Nat) : Int) from rfl, this]
  exact wb_nat (mulN_lt ha)

theorem timesR_nat {a b : Nat} (ha : a < 256) (hb : b < 256) : timesR a b = (mulN a b : Nat) := by
  unfold timesR
  rw [w_id (by omega) (by omega), w_id (by omega) (by omega)]
  have := tr_nat 8 (b := b) (x := a) (n := 0) (by omega) hb ha (by decide)
  rw [show (0 : Int) = ((0 : Nat) : Int) from rfl, this]
  exact wb_nat (mulN_lt ha)

/-! the field's laws -/

theorem tN_acc : ∀ (k b x n m : Nat), tN k b x (n ^^^ m) = tN k b x n ^^^ m
  | 0, _, _, _, _ => rfl
  | k + 1, b, x, n, m => by
    simp only [tN]
    have : nN b x (n ^^^ m) = nN b x n ^^^ m := by
      unfold nN; split
      · rw [Nat.xor_assoc, Nat.xor_comm m x, ← Nat.xor_assoc]
      · rfl
    rw [this]
    exact tN_acc k _ _ _ _

end Go.Proofs.Ytlkddajnebjlcaa.Aes

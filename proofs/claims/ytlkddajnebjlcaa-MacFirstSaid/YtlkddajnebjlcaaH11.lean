/- The digest is the document's (layer 1, sha): plain lemmas on numbers and lists. -/
import Derived.Test.YtlkddajnebjlcaaH10
set_option linter.unusedVariables false
set_option maxRecDepth 100000
namespace Go.Proofs.Ytlkddajnebjlcaa.Sha
open Go Vse Go.Proofs Gen

/-- a number of 32 bits -/
def U (x : Int) : Prop := 0 ≤ x ∧ x < 4294967296
def Us (l : List Int) : Prop := ∀ x ∈ l, U x
def Bytes (l : List Int) : Prop := ∀ x ∈ l, 0 ≤ x ∧ x < 256

theorem w3_mod (x : Int) : w3 x = x % 4294967296 := by
  simp [IntKind.wrap, IntKind.signed, IntKind.bits]
theorem w3_U (x : Int) : U (w3 x) := by rw [w3_mod]; exact ⟨Int.emod_nonneg _ (by omega), Int.emod_lt_of_pos _ (by omega)⟩
theorem w3_id {x : Int} (h : U x) : w3 x = x := by rw [w3_mod]; exact Int.emod_eq_of_lt h.1 h.2
theorem wb_mod (x : Int) : wb x = x % 256 := by
  simp [IntKind.wrap, IntKind.signed, IntKind.bits]
theorem U.nat {x : Int} (h : U x) : ∃ n : Nat, x = n ∧ n < 4294967296 := ⟨x.toNat, by have := h.1; omega, by have := h.1; have := h.2; omega⟩
theorem U_nat {n : Nat} (h : n < 4294967296) : U (n : Int) := ⟨by omega, by omega⟩

/-! bits turned -/

def stepN (n : Nat) : Nat := n / 2 + n % 2 * 2147483648
theorem step1_nat {n : Nat} (h : n < 4294967296) : step1 (n : Int) = ((stepN n : Nat) : Int) := by
  have e1 : ((n : Nat) : Int).tmod 2 = ((n % 2 : Nat) : Int) := by rw [Int.tmod_eq_emod_of_nonneg (by omega)]; omega
  have e2 : ((n : Nat) : Int).tdiv 2 = ((n / 2 : Nat) : Int) := by rw [Int.tdiv_eq_ediv_of_nonneg (by omega)]; omega
  have e3 : half1 (n : Int) = ((n / 2 : Nat) : Int) := by unfold half1; rw [e2]; exact w3_id (U_nat (by omega))
  unfold step1 stepN
  rw [e1, e3]
  by_cases hn : ((n % 2 : Nat) : Int) = 1
  · rw [if_pos hn, w3_id ⟨by omega, by omega⟩]; omega
  · rw [if_neg hn]; omega
theorem stepN_lt {n : Nat} (h : n < 4294967296) : stepN n < 4294967296 := by unfold stepN; omega

/-- turned to the right by so many -/
def rotN (n m : Nat) : Nat := n / 2 ^ m + n % 2 ^ m * 2 ^ (32 - m)
theorem rotN_step (n m : Nat) (hm : m ≤ 31) : rotN (stepN n) m = rotN n (m + 1) := by
  unfold rotN stepN
  have hp : 0 < 2 ^ m := Nat.two_pow_pos _
  have h1 : n % 2 * 2147483648 = (n % 2 * 2 ^ (31 - m)) * 2 ^ m := by
    rw [Nat.mul_assoc, ← Nat.pow_add, show 31 - m + m = 31 by omega]
  have h2 : (n / 2 + n % 2 * 2147483648) / 2 ^ m = n / 2 / 2 ^ m + n % 2 * 2 ^ (31 - m) := by rw [h1, Nat.add_mul_div_right _ _ hp]
  have h3 : (n / 2 + n % 2 * 2147483648) % 2 ^ m = n / 2 % 2 ^ m := by rw [h1, Nat.add_mul_mod_self_right]
  have h4 : n / 2 ^ (m + 1) = n / 2 / 2 ^ m := by rw [Nat.pow_succ, Nat.mul_comm, ← Nat.div_div_eq_div_mul]
  have h5 : n % 2 ^ (m + 1) = n % 2 + 2 * (n / 2 % 2 ^ m) := by rw [Nat.pow_succ, Nat.mul_comm, Nat.mod_mul]
  have h6 : 2 ^ (32 - m) = 2 * 2 ^ (31 - m) := by rw [show 32 - m = (31 - m) + 1 by omega, Nat.pow_succ, Nat.mul_comm]
  rw [h2, h3, h4, h5, h6, show 32 - (m + 1) = 31 - m by omega]
  generalize n / 2 / 2 ^ m = a
  generalize n / 2 % 2 ^ m = b
  generalize 2 ^ (31 - m) = c
  generalize n % 2 = d
  rw [Nat.add_mul, Nat.mul_assoc 2 b c, ← Nat.mul_assoc b 2 c, Nat.mul_comm b 2, Nat.mul_assoc 2 b c]
  omega
theorem rightN_rot : ∀ (m n : Nat), m ≤ 32 → n < 4294967296 → rightN m (n : Int) = ((rotN n m : Nat) : Int)
  | 0, n, _, h => by simp [rightN, rotN, Nat.mod_one]
  | m + 1, n, hm, h => by
    rw [rightN, step1_nat h, rightN_rot m _ (by omega) (stepN_lt h), rotN_step n m (by omega)]

theorem or_add {a b k : Nat} (h : b < 2 ^ k) : a * 2 ^ k ||| b = a * 2 ^ k + b := by
  rw [Nat.mul_comm, ← Nat.two_pow_add_eq_or_of_lt h]
theorem rotF_rot {n : Nat} (h : n < 4294967296) (a : Nat) (h1 : 1 ≤ a) (h2 : a ≤ 31) : rotF (n : Int) (-(a : Int)) = ((rotN n a : Nat) : Int) := by
  have s1 : andI .u64 (IntKind.u64.wrap (-(a : Int))) 31 = ((32 - a : Nat) : Int) := by
    have key : ∀ a : Nat, a < 32 → 1 ≤ a → andI .u64 (IntKind.u64.wrap (-(a : Int))) 31 = ((32 - a : Nat) : Int) := by decide
    exact key a (by omega) h1
  have s2 : IntKind.u64.wrap (32 - ((32 - a : Nat) : Int)) = (a : Int) := (wu_id (by omega) (by omega)).trans (by omega)
  unfold rotF
  rw [s1, s2]
  have hp : 0 < 2 ^ a := Nat.two_pow_pos _
  have hmul : 4294967296 = 2 ^ a * 2 ^ (32 - a) := by rw [← Nat.pow_add, show a + (32 - a) = 32 by omega]
  have e1 : shlI .u32 (n : Int) ((32 - a : Nat) : Int) = ((n % 2 ^ a * 2 ^ (32 - a) : Nat) : Int) := by
    unfold shlI
    have hmin : min (((32 - a : Nat) : Int)).toNat IntKind.u32.bits = 32 - a := by
      rw [Int.toNat_natCast]; show min (32 - a) 32 = 32 - a; omega
    rw [hmin]
    show w3 ((n : Int) * 2 ^ (32 - a)) = _
    rw [w3_mod]
    have : ((n : Int) * 2 ^ (32 - a)) % 4294967296 = ((n * 2 ^ (32 - a) % 4294967296 : Nat) : Int) := by
      rw [Int.natCast_emod, Int.natCast_mul, Int.natCast_pow]; rfl
    rw [this, hmul, Nat.mul_mod_mul_right]
  have e2 : shrI .u32 (n : Int) (a : Int) = ((n / 2 ^ a : Nat) : Int) := by
    unfold shrI
    have hmin : min ((a : Int)).toNat IntKind.u32.bits = a := by
      rw [Int.toNat_natCast]; show min a 32 = a; omega
    rw [hmin, Int.fdiv_eq_ediv_of_nonneg _ (by exact_mod_cast Nat.zero_le _)]
    rw [Int.natCast_ediv, Int.natCast_pow]; rfl
  rw [e1, e2]
  have hlt : n / 2 ^ a < 2 ^ (32 - a) := by
    rw [Nat.div_lt_iff_lt_mul hp, Nat.mul_comm, ← hmul]; exact h
  have hlt2 : n % 2 ^ a * 2 ^ (32 - a) + n / 2 ^ a < 4294967296 := by
    have h3 : n % 2 ^ a < 2 ^ a := Nat.mod_lt _ hp
    have h4 : (n % 2 ^ a + 1) * 2 ^ (32 - a) ≤ 2 ^ a * 2 ^ (32 - a) := Nat.mul_le_mul_right _ h3
    rw [← hmul, Nat.add_mul, Nat.one_mul] at h4
    omega
  have hor : n % 2 ^ a * 2 ^ (32 - a) ||| n / 2 ^ a = n % 2 ^ a * 2 ^ (32 - a) + n / 2 ^ a := or_add hlt
  unfold rotN
  generalize n % 2 ^ a * 2 ^ (32 - a) = p at hor hlt2 ⊢
  generalize n / 2 ^ a = q at hor hlt2 ⊢
  rw [orI_nat (by rw [max_u32]; omega) (by rw [max_u32]; omega) (by rw [hor, max_u32]; omega), hor]
  congr 1
  omega

theorem rot_right {x : Int} (h : U x) (a : Nat) (h1 : 1 ≤ a) (h2 : a ≤ 31) : rotF x (-(a : Int)) = rightF x (a : Int) := by
  obtain ⟨n, rfl, hn⟩ := h.nat
  rw [rotF_rot hn a h1 h2]
  unfold rightF
  rw [Int.toNat_natCast, rightN_rot a n (by omega) hn]

theorem turn_right {x : Int} (h : U x) (a b : Nat) (ha : 1 ≤ a ∧ a ≤ 31) (hb : 1 ≤ b ∧ b ≤ 31) (v : Int) : turnF x (a : Int) (b : Int) v = xorI .u32 (xorI .u32 (rightF x a) (rightF x b)) v := by
  show xorI .u32 (xorI .u32 (rotF x (w (0 - (a : Int)))) (rotF x (w (0 - (b : Int))))) v = _
  rw [w_id (x := 0 - (a : Int)) (by omega) (by omega), w_id (x := 0 - (b : Int)) (by omega) (by omega), show 0 - (a : Int) = -(a : Int) by omega, show 0 - (b : Int) = -(b : Int) by omega, rot_right h a ha.1 ha.2, rot_right h b hb.1 hb.2]

theorem shr_div {x : Int} (h : U x) (k : Nat) (hk : k ≤ 31) : shrI .u32 x (k : Int) = w3 (x.tdiv (2 ^ k : Nat)) := by
  obtain ⟨n, rfl, hn⟩ := h.nat
  have hp : 0 < 2 ^ k := Nat.two_pow_pos _
  have e : ((n : Nat) : Int).tdiv ((2 ^ k : Nat) : Int) = ((n / 2 ^ k : Nat) : Int) := by rw [Int.tdiv_eq_ediv_of_nonneg (by omega)]; rfl
  rw [e, w3_id (U_nat (Nat.lt_of_le_of_lt (Nat.div_le_self _ _) hn))]
  unfold shrI
  have hmin : min ((k : Int)).toNat IntKind.u32.bits = k := by
    rw [Int.toNat_natCast]; show min k 32 = k; omega
  rw [hmin, Int.fdiv_eq_ediv_of_nonneg _ (by exact_mod_cast Nat.zero_le _), Int.natCast_ediv, Int.natCast_pow]; rfl

theorem not_sub {x : Int} (h : U x) : xorI .u32 4294967295 x = w3 (4294967295 - x) := by
  obtain ⟨n, rfl, hn⟩ := h.nat
  have e : BitVec.ofInt IntKind.u32.bits 4294967295 = BitVec.allOnes 32 := by show BitVec.ofInt 32 4294967295 = BitVec.allOnes 32; decide
  unfold xorI
  rw [e, ofInt_nat]
  show w3 (((BitVec.allOnes 32 ^^^ BitVec.ofNat 32 n).toNat : Nat) : Int) = _
  rw [BitVec.allOnes_xor, BitVec.toNat_not, BitVec.toNat_ofNat, Nat.mod_eq_of_lt (by omega)]
  congr 1
  omega

end Go.Proofs.Ytlkddajnebjlcaa.Sha

/- Operations on bits of integers that are natural numbers. Nothing here is about one program. -/
import Derived.Test.YtodjkocikflmnaaE28
set_option linter.unusedVariables false
namespace Vse
open Go

theorem ofInt_nat (k m : Nat) : BitVec.ofInt k (m : Int) = BitVec.ofNat k m := by
  apply BitVec.eq_of_toNat_eq
  simp [BitVec.toNat_ofNat]

theorem wrap_nat {k : IntKind} {m : Nat} (h : (m : Int) ≤ k.max) : k.wrap (m : Int) = m := by
  cases k <;> simp [IntKind.wrap, IntKind.max, IntKind.signed, IntKind.bits] at h ⊢ <;> (try split) <;> omega

theorem max_lt {k : IntKind} {m : Nat} (h : (m : Int) ≤ k.max) : m < 2 ^ k.bits := by
  cases k <;> simp [IntKind.max, IntKind.signed, IntKind.bits] at h ⊢ <;> omega

theorem xorI_nat {k : IntKind} {m n : Nat} (hm : (m : Int) ≤ k.max) (hn : (n : Int) ≤ k.max) (h : ((m ^^^ n : Nat) : Int) ≤ k.max) : xorI k m n = ((m ^^^ n : Nat) : Int) := by
  unfold xorI
  rw [ofInt_nat, ofInt_nat, BitVec.toNat_xor, BitVec.toNat_ofNat, BitVec.toNat_ofNat, Nat.mod_eq_of_lt (max_lt hm), Nat.mod_eq_of_lt (max_lt hn), wrap_nat h]

theorem andI_nat {k : IntKind} {m n : Nat} (hm : (m : Int) ≤ k.max) (hn : (n : Int) ≤ k.max) : andI k m n = ((m &&& n : Nat) : Int) := by
  unfold andI
  have h : ((m &&& n : Nat) : Int) ≤ k.max := by have := Nat.and_le_left (n := m) (m := n); omega
  rw [ofInt_nat, ofInt_nat, BitVec.toNat_and, BitVec.toNat_ofNat, BitVec.toNat_ofNat, Nat.mod_eq_of_lt (max_lt hm), Nat.mod_eq_of_lt (max_lt hn), wrap_nat h]

theorem orI_nat {k : IntKind} {m n : Nat} (hm : (m : Int) ≤ k.max) (hn : (n : Int) ≤ k.max) (h : ((m ||| n : Nat) : Int) ≤ k.max) : orI k m n = ((m ||| n : Nat) : Int) := by
  unfold orI
  rw [ofInt_nat, ofInt_nat, BitVec.toNat_or, BitVec.toNat_ofNat, BitVec.toNat_ofNat, Nat.mod_eq_of_lt (max_lt hm), Nat.mod_eq_of_lt (max_lt hn), wrap_nat h]

theorem max_i64 : IntKind.i64.max = 9223372036854775807 := by decide
theorem max_u8 : IntKind.u8.max = 255 := by decide
theorem max_u32 : IntKind.u32.max = 4294967295 := by decide
theorem max_u64 : IntKind.u64.max = 18446744073709551615 := by decide

/-- a number that is a byte -/
def IsB (x : Int) : Prop := 0 ≤ x ∧ x < 256

theorem IsB.nat {x : Int} (h : IsB x) : ∃ n : Nat, x = n ∧ n < 256 := ⟨x.toNat, by unfold IsB at h; omega, by unfold IsB at h; omega⟩

theorem isB_nat {n : Nat} (h : n < 256) : IsB (n : Int) := by unfold IsB; omega

theorem xor_lt256 {m n : Nat} (hm : m < 256) (hn : n < 256) : m ^^^ n < 256 := Nat.xor_lt_two_pow (n := 8) hm hn

theorem xorI_u8 {m n : Nat} (hm : m < 256) (hn : n < 256) : xorI .u8 m n = ((m ^^^ n : Nat) : Int) := by
  have := xor_lt256 hm hn
  refine xorI_nat ?_ ?_ ?_ <;> rw [max_u8] <;> omega

theorem and_all {x : Nat} (hx : x < 9223372036854775808) : andI .i64 x (-1) = x := by
  unfold andI
  have : BitVec.ofInt IntKind.i64.bits (-1) = BitVec.allOnes 64 := by show BitVec.ofInt 64 (-1) = BitVec.allOnes 64; decide
  rw [this, ofInt_nat]
  show IntKind.i64.wrap ((BitVec.ofNat 64 x &&& BitVec.allOnes 64).toNat : Int) = x
  rw [BitVec.and_allOnes, BitVec.toNat_ofNat, Nat.mod_eq_of_lt (by omega)]
  exact wrap_nat (by rw [max_i64]; omega)

theorem and_none {x : Nat} (hx : x < 9223372036854775808) : andI .i64 x 0 = 0 := by
  have := andI_nat (k := .i64) (m := x) (n := 0) (by rw [max_i64]; omega) (by rw [max_i64]; omega)
  simpa using this

end Vse

/- Layer 9 (field): the plain laws: numbers; parts. -/
import Derived.Test.YtffdkniccaebmaaF10
set_option linter.unusedVariables false
set_option maxRecDepth 100000
namespace Go.Proofs.Ytffdkniccaebmaa.Fld
open Go Vse Go.Proofs

theorem wb_mod (x : Int) : wb x = x % 256 := by
  simp [IntKind.wrap, IntKind.signed, IntKind.bits]
theorem wu_mod (x : Int) : wu x = x % 18446744073709551616 := by
  simp [IntKind.wrap, IntKind.signed, IntKind.bits]
theorem w_congr {x y : Int} (h : x % 18446744073709551616 = y % 18446744073709551616) : w x = w y := by
  simp [IntKind.wrap, IntKind.signed, IntKind.bits, h]
theorem w_mod (x : Int) : w x % 18446744073709551616 = x % 18446744073709551616 := by
  simp [IntKind.wrap, IntKind.signed, IntKind.bits]
  split <;> omega

theorem or_step (v c : Int) (hc : 0 ≤ c ∧ c < 256) : orI .i64 (shlI .i64 v 8) (w c) = w (256 * v + c) := by
  have e1 : shlI .i64 v 8 = w (v * 256) := rfl
  have e2 : orI .i64 (w (v * 256)) (w c) = w (((w (v * 256) % 18446744073709551616).toNat ||| (w c % 18446744073709551616).toNat : Nat) : Int) := by
    show w _ = w _
    congr 1
  rw [e1, e2, w_mod, w_mod]
  obtain ⟨n, rfl⟩ : ∃ n : Nat, c = n := ⟨c.toNat, by omega⟩
  obtain ⟨m, hm⟩ : ∃ m : Nat, v % 72057594037927936 = m := ⟨(v % 72057594037927936).toNat, by omega⟩
  have h1 : (v * 256 % 18446744073709551616).toNat = m * 256 := by omega
  have h2 : ((n : Int) % 18446744073709551616).toNat = n := by omega
  have hor : m * 256 ||| n = m * 256 + n := by
    have := Nat.shiftLeft_add_eq_or_of_lt (b := n) (i := 8) (by omega) m
    rw [Nat.shiftLeft_eq] at this
    exact this.symm
  rw [h1, h2, hor]
  refine w_congr ?_
  omega

theorem take_fold : ∀ (a : List Int) (v1 v2 : Int), Bytes a → v1 = w v2 → a.foldl (fun v c => orI .i64 (shlI .i64 v 8) (w c)) v1 = w (a.foldl (fun v c => wu (wu (256 * v) + wu c)) v2)
  | [], v1, v2, _, h => h
  | c :: a, v1, v2, hb, h => by
    have hc := hb c (by simp)
    simp only [List.foldl_cons]
    refine take_fold a _ _ (fun x hx => hb x (by simp [hx])) ?_
    rw [or_step v1 c hc, h]
    refine w_congr ?_
    have := w_mod v2
    rw [wu_mod, wu_mod, wu_mod]
    omega

theorem take_same {a : List Int} (hb : Bytes a) : take1 a = w (take2 a) := take_fold a 0 0 hb rfl

theorem m0 (n : Int) : n / 1 % 256 = n % 18446744073709551616 % 256 := by omega
theorem m1 (n : Int) : n / 256 % 256 = n % 18446744073709551616 / 256 % 256 := by omega
theorem m2 (n : Int) : n / 65536 % 256 = n % 18446744073709551616 / 65536 % 256 := by omega
theorem m3 (n : Int) : n / 16777216 % 256 = n % 18446744073709551616 / 16777216 % 256 := by omega
theorem m4 (n : Int) : n / 4294967296 % 256 = n % 18446744073709551616 / 4294967296 % 256 := by omega
theorem m5 (n : Int) : n / 1099511627776 % 256 = n % 18446744073709551616 / 1099511627776 % 256 := by omega
theorem m6 (n : Int) : n / 281474976710656 % 256 = n % 18446744073709551616 / 281474976710656 % 256 := by omega
theorem m7 (n : Int) : n / 72057594037927936 % 256 = n % 18446744073709551616 / 72057594037927936 % 256 := by omega
theorem d2 (n : Int) : n / 256 / 256 = n / 65536 := by omega
theorem d3 (n : Int) : n / 65536 / 256 = n / 16777216 := by omega
theorem d4 (n : Int) : n / 16777216 / 256 = n / 4294967296 := by omega
theorem d5 (n : Int) : n / 4294967296 / 256 = n / 1099511627776 := by omega
theorem d6 (n : Int) : n / 1099511627776 / 256 = n / 281474976710656 := by omega
theorem d7 (n : Int) : n / 281474976710656 / 256 = n / 72057594037927936 := by omega
theorem dv_div {u : Int} (h : 0 ≤ u) (h' : u < 18446744073709551616) : dv u = u / 256 := by
  unfold dv
  rw [wu_mod, Int.tdiv_eq_ediv_of_nonneg h]
  omega
theorem lo_mod {u : Int} (h : 0 ≤ u) : lo u = u % 256 := by
  unfold lo
  rw [wb_mod, Int.tmod_eq_emod_of_nonneg h]
  omega
theorem div_in {u : Int} (h : 0 ≤ u) (h' : u < 18446744073709551616) (d : Int) (hd : 0 < d) : 0 ≤ u / d ∧ u / d < 18446744073709551616 := by
  refine ⟨Int.ediv_nonneg h (by omega), ?_⟩
  exact Int.lt_of_le_of_lt (Int.ediv_le_self _ h) h'

theorem byte_div (n k d : Int) (hk : (2 : Int) ^ (min k.toNat IntKind.i64.bits) = d) (hd : 0 < d) : byte1 n k = n / d % 256 := by
  unfold byte1 shrI
  rw [hk, wb_mod, Int.fdiv_eq_ediv_of_nonneg _ (by omega)]

theorem num_same (n : Int) : num1 n = num2 (wu n) := by
  have h0 : 0 ≤ wu n := by rw [wu_mod]; omega
  have h1 : wu n < 18446744073709551616 := by rw [wu_mod]; omega
  have e1 : dv (wu n) = wu n / 256 := dv_div h0 h1
  have i1 := div_in h0 h1 256 (by decide)
  have e2 : dv (wu n / 256) = wu n / 65536 := (dv_div i1.1 i1.2).trans (d2 _)
  have i2 := div_in h0 h1 65536 (by decide)
  have e3 : dv (wu n / 65536) = wu n / 16777216 := (dv_div i2.1 i2.2).trans (d3 _)
  have i3 := div_in h0 h1 16777216 (by decide)
  have e4 : dv (wu n / 16777216) = wu n / 4294967296 := (dv_div i3.1 i3.2).trans (d4 _)
  have i4 := div_in h0 h1 4294967296 (by decide)
  have e5 : dv (wu n / 4294967296) = wu n / 1099511627776 := (dv_div i4.1 i4.2).trans (d5 _)
  have i5 := div_in h0 h1 1099511627776 (by decide)
  have e6 : dv (wu n / 1099511627776) = wu n / 281474976710656 := (dv_div i5.1 i5.2).trans (d6 _)
  have i6 := div_in h0 h1 281474976710656 (by decide)
  have e7 : dv (wu n / 281474976710656) = wu n / 72057594037927936 := (dv_div i6.1 i6.2).trans (d7 _)
  have i7 := div_in h0 h1 72057594037927936 (by decide)
  unfold num1 num2
  rw [byte_div n 56 72057594037927936 rfl (by decide), byte_div n 48 281474976710656 rfl (by decide), byte_div n 40 1099511627776 rfl (by decide), byte_div n 32 4294967296 rfl (by decide), byte_div n 24 16777216 rfl (by decide), byte_div n 16 65536 rfl (by decide), byte_div n 8 256 rfl (by decide), byte_div n 0 1 rfl (by decide)]
  rw [e1, e2, e3, e4, e5, e6, e7, lo_mod i7.1, lo_mod i6.1, lo_mod i5.1, lo_mod i4.1, lo_mod i3.1, lo_mod i2.1, lo_mod i1.1, lo_mod h0, wu_mod]
  rw [m7 n, m6 n, m5 n, m4 n, m3 n, m2 n, m1 n, m0 n]

theorem digit (n d e : Int) (h : n / d / 256 = n / e) : n / d = 256 * (n / e) + n / d % 256 := by
  rw [← h]; omega
theorem digits (n : Int) : (256 * (256 * (256 * (256 * (256 * (256 * (256 * (256 * 0 + n / 72057594037927936 % 256) + n / 281474976710656 % 256) + n / 1099511627776 % 256) + n / 4294967296 % 256) + n / 16777216 % 256) + n / 65536 % 256) + n / 256 % 256) + n / 1 % 256) % 18446744073709551616 = n % 18446744073709551616 := by
  have a0 := digit n 1 256 (by rw [Int.ediv_one])
  have a1 := digit n 256 65536 (d2 n)
  have a2 := digit n 65536 16777216 (d3 n)
  have a3 := digit n 16777216 4294967296 (d4 n)
  have a4 := digit n 4294967296 1099511627776 (d5 n)
  have a5 := digit n 1099511627776 281474976710656 (d6 n)
  have a6 := digit n 281474976710656 72057594037927936 (d7 n)
  have a7 := digit n 72057594037927936 (72057594037927936 * 256) (by rw [Int.ediv_ediv_of_nonneg (by decide)])
  rw [Int.ediv_one] at a0 ⊢
  generalize n / 256 % 256 = x1 at *
  generalize n / 65536 % 256 = x2 at *
  generalize n / 16777216 % 256 = x3 at *
  generalize n / 4294967296 % 256 = x4 at *
  generalize n / 1099511627776 % 256 = x5 at *
  generalize n / 281474976710656 % 256 = x6 at *
  generalize n / 72057594037927936 % 256 = x7 at *
  generalize n % 256 = x0 at *
  generalize n / (72057594037927936 * 256) = q8 at *
  generalize n / 72057594037927936 = q7 at *
  generalize n / 281474976710656 = q6 at *
  generalize n / 1099511627776 = q5 at *
  generalize n / 4294967296 = q4 at *
  generalize n / 16777216 = q3 at *
  generalize n / 65536 = q2 at *
  generalize n / 256 = q1 at *
  subst a7; subst a6; subst a5; subst a4; subst a3; subst a2; subst a1
  rw [a0]
  omega

theorem take_num (n : Int) (h : -9223372036854775808 ≤ n ∧ n ≤ 9223372036854775807) : take1 (num1 n) = n := by
  have hnum : num1 n = [n / 72057594037927936 % 256, n / 281474976710656 % 256, n / 1099511627776 % 256, n / 4294967296 % 256, n / 16777216 % 256, n / 65536 % 256, n / 256 % 256, n / 1 % 256] := by
    unfold num1
    rw [byte_div n 56 72057594037927936 rfl (by decide), byte_div n 48 281474976710656 rfl (by decide), byte_div n 40 1099511627776 rfl (by decide), byte_div n 32 4294967296 rfl (by decide), byte_div n 24 16777216 rfl (by decide), byte_div n 16 65536 rfl (by decide), byte_div n 8 256 rfl (by decide), byte_div n 0 1 rfl (by decide)]
  have hf : ∀ (a : List Int) (v : Int), Bytes a → a.foldl (fun v c => orI .i64 (shlI .i64 v 8) (w c)) (w v) = w (a.foldl (fun v c => 256 * v + c) v) := by
    intro a
    induction a with
    | nil => intro v _; rfl
    | cons c a ih =>
      intro v hb
      simp only [List.foldl_cons]
      rw [or_step (w v) c (hb c (by simp))]
      have : w (256 * w v + c) = w (256 * v + c) := w_congr (by have := w_mod v; omega)
      rw [this]
      exact ih _ fun x hx => hb x (by simp [hx])
  have hb : Bytes (num1 n) := by
    rw [hnum]
    intro x hx
    simp only [List.mem_cons, List.not_mem_nil, or_false] at hx
    have g : ∀ y : Int, 0 ≤ y % 256 ∧ y % 256 < 256 := fun y => by omega
    rcases hx with rfl | rfl | rfl | rfl | rfl | rfl | rfl | rfl <;> exact g _
  have := hf (num1 n) 0 hb
  have h0 : w 0 = 0 := by decide
  rw [h0] at this
  unfold take1
  rw [this, hnum]
  simp only [List.foldl_cons, List.foldl_nil]
  rw [w_congr (y := n) (digits n), w_id h.1 h.2]

end Go.Proofs.Ytffdkniccaebmaa.Fld

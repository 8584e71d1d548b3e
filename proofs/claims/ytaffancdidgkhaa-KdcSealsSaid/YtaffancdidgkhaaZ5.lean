/- The statements of layer 16 (kdc) hold: two of them. No conditions but the given ones. Part 5. -/
import Derived.Test.YtaffancdidgkhaaZ4
import Derived.Sort.Row
import Derived.Test.YtaffancdidgkhaaProg
import Derived.KernelRfl
set_option linter.unusedVariables false
set_option linter.unusedSimpArgs false
section
section
set_option linter.unusedVariables false
set_option maxRecDepth 100000
namespace Go.Proofs.Ytaffancdidgkhaa.Sha
open Go Vse Go.Proofs Gen
end Go.Proofs.Ytaffancdidgkhaa.Sha
end
section
set_option linter.unusedVariables false
set_option maxRecDepth 100000
namespace Go.Proofs.Ytaffancdidgkhaa.Sha
open Go Vse Go.Proofs Gen
theorem absF_short {s all : List Int} (h : all.length < 64) : absF s all = (s, all) := by
 unfold absF
 rw [Nat.div_eq_of_lt h]
 rfl
theorem absF_long {s all : List Int} (h : 64 ≤ all.length) : absF s all = absF (mixF s (all.take 64)) (all.drop 64) := by
 unfold absF
 have : all.length / 64 = (all.drop 64).length / 64 + 1 := by rw [List.length_drop]; omega
 rw [this, absorb]
theorem absF_append : ∀ (n : Nat) (s y x : List Int), y.length / 64 = n → absF (absF s y).1 ((absF s y).2 ++ x) = absF s (y ++ x)
 | 0, s, y, x, h => by rw [absF_short (s := s) (all := y) (by omega)]
 | n + 1, s, y, x, h => by
  have hy : 64 ≤ y.length := by omega
  rw [absF_long (s := s) hy, absF_append n _ _ x (by rw [List.length_drop]; omega), absF_long (s := s) (all := y ++ x) (by rw [List.length_append]; omega)]
  rw [List.take_append_of_le_length hy, List.drop_append_of_le_length hy]
def hashOf (y : List Int) : Hs := writeF y h0
theorem wu_id {x : Int} (h : 0 ≤ x) (h' : x ≤ 18446744073709551615) : wu x = x := by
 simp [IntKind.wrap, IntKind.signed, IntKind.bits]
 omega
theorem write_chain {y x : List Int} (h : y.length + x.length ≤ 1000000000000) : writeF x (hashOf y) = hashOf (y ++ x) := by
 unfold hashOf writeF h0
 simp only [List.nil_append]
 rw [absF_append _ init y x rfl]
 have : wu (wu (0 + wu (y.length : Int)) + wu (x.length : Int)) = wu (0 + wu ((y ++ x).length : Int)) := by
  rw [List.length_append]
  rw [wu_id (x := (y.length : Int)) (by omega) (by omega), wu_id (x := (x.length : Int)) (by omega) (by omega), wu_id (x := 0 + (y.length : Int)) (by omega) (by omega), wu_id (by omega) (by omega), wu_id (x := ((y.length + x.length : Nat) : Int)) (by omega) (by omega), wu_id (by omega) (by omega)]
  omega
 rw [this]
theorem hash_rest (y : List Int) : (hashOf y).2.1.length < 64 := by
 show (absF h0.1 (h0.2.1 ++ y)).2.length < 64
 rw [abs_rest]
 exact Nat.mod_lt _ (by omega)
theorem hash_restP (y : List Int) : restP (hashOf y) = true := decide_eq_true (by have := hash_rest y; omega)
theorem shaF_hash (y : List Int) : shaF y = sumH (hashOf y) := rfl
def tot (l : List (List Int)) : Nat := (l.map List.length).sum
def zP (l : List (List Int)) (h : Hs) : Hs := l.foldl (fun h x => writeF x h) h
theorem zP_hash : ∀ (l : List (List Int)) (y : List Int), y.length + tot l ≤ 1000000000 → zP l (hashOf y) = hashOf (y ++ l.flatten)
 | [], y, _ => by simp [zP]
 | x :: l, y, h => by
  simp only [tot, List.map_cons, List.sum_cons] at h
  have := zP_hash l (y ++ x) (by simp only [tot, List.length_append]; omega)
  simp only [zP, List.foldl_cons] at this ⊢
  rw [write_chain (by omega), this]
  simp
theorem getElem_tot : ∀ (l : List (List Int)) (k : Nat) (h : k < l.length), l[k].length ≤ tot l
 | x :: l, 0, h => by simp [tot]
 | x :: l, k + 1, h => by
  have := getElem_tot l k (by simpa using h)
  simp only [tot, List.map_cons, List.sum_cons, List.getElem_cons_succ] at this ⊢
  omega
end Go.Proofs.Ytaffancdidgkhaa.Sha
end
section
set_option linter.unusedVariables false
set_option maxRecDepth 100000
namespace Go.Proofs.Ytaffancdidgkhaa.Sha
open Go Vse Go.Proofs Gen
def U (x : Int) : Prop := 0 ≤ x ∧ x < 4294967296
def Us (l : List Int) : Prop := ∀ x ∈ l, U x
def Bytes (l : List Int) : Prop := ∀ x ∈ l, 0 ≤ x ∧ x < 256
theorem w3_mod (x : Int) : w3 x = x % 4294967296 := by
 simp [IntKind.wrap, IntKind.signed, IntKind.bits]
theorem w3_U (x : Int) : U (w3 x) := by rw [w3_mod]; exact ⟨Int.emod_nonneg _ (by omega), Int.emod_lt_of_pos _ (by omega)⟩
theorem w3_id {x : Int} (h : U x) : w3 x = x := by rw [w3_mod]; exact Int.emod_eq_of_lt h.1 h.2
theorem wb_mod (x : Int) : wb x = x % 256 := by
 simp [IntKind.wrap, IntKind.signed, IntKind.bits]
theorem U.nat {x : Int} (h : U x) : ∃ n : Nat, x = n ∧ n < 4294967296 := ⟨x.toNat, by have := h.1; omega, by have := h.1; have := h.2; omega⟩
theorem U_nat {n : Nat} (h : n < 4294967296) : U (n : Int) := ⟨by omega, by omega⟩
def stepN (n : Nat) : Nat := n / 2 + n % 2 * 2147483648
theorem step1_nat {n : Nat} (h : n < 4294967296) : step1 (n : Int) = ((stepN n : Nat) : Int) := by
 have e1 : ((n : Nat) : Int).tmod 2 = ((n % 2 : Nat) : Int) := by rw [Int.tmod_eq_emod_of_nonneg (by omega)]; omega
 have e2 : ((n : Nat) : Int).tdiv 2 = ((n / 2 : Nat) : Int) := by rw [Int.tdiv_eq_ediv_of_nonneg (by omega)]; omega
 have e3 : half1 (n : Int) = ((n / 2 : Nat) : Int) := by unfold half1; rw [e2]; exact w3_id (U_nat (by omega))
 unfold step1 stepN
 rw [e1, e3]
 by_cases hn : ((n % 2 : Nat) : Int) = 1
 ·rw [if_pos hn, w3_id ⟨by omega, by omega⟩]; omega
 ·rw [if_neg hn]; omega
theorem stepN_lt {n : Nat} (h : n < 4294967296) : stepN n < 4294967296 := by unfold stepN; omega
def rotN (n m : Nat) : Nat := n / 2 ^ m + n % 2 ^ m * 2 ^ (32 - m)
theorem rotN_step (n m : Nat) (hm : m ≤ 31) : rotN (stepN n) m = rotN n (m + 1) := by
 unfold rotN stepN
 have hp : 0 < 2 ^ m := Nat.two_pow_pos _
 have h1 : n % 2 * 2147483648 = (n % 2 * 2 ^ (31 - m)) * 2 ^ m := by
  rw [Nat.mul_assoc, ← Nat.pow_add, show 31 - m + m = 31 by omega]
 have h2 : (n / 2 + n % 2 * 2147483648) / 2 ^ m = n / 2 / 2 ^ m + n % 2 * 2 ^ (31 - m) := by rw [h1, Nat.add_mul_div_right _ _ hp]
 have h3 : (n / 2 + n % 2 * 2147483648) % 2 ^ m = n / 2 % 2 ^ m := by rw [h1, Nat.add_mul_mod_self_right]
 have h4 : n / 2 ^ (m + 1) = n / 2 / 2 ^ m := by rw [Nat.pow_succ, Nat.mul_comm, ← Nat.div_div_eq_div_mul]
 have h5 : n % 2 ^ (m + 1) = n % 2 + 2 * (n / 2 % 2 ^ m) := by rw [Nat.pow_succ, Nat.mul_comm, Nat.mod_mul]
 have h6 : 2 ^ (32 - m) = 2 * 2 ^ (31 - m) := by rw [show 32 - m = (31 - m) + 1 by omega, Nat.pow_succ, Nat.mul_comm]
 rw [h2, h3, h4, h5, h6, show 32 - (m + 1) = 31 - m by omega]
 generalize n / 2 / 2 ^ m = a
 generalize n / 2 % 2 ^ m = b
 generalize 2 ^ (31 - m) = c
 generalize n % 2 = d
 rw [Nat.add_mul, Nat.mul_assoc 2 b c, ← Nat.mul_assoc b 2 c, Nat.mul_comm b 2, Nat.mul_assoc 2 b c]
 omega
theorem rightN_rot : ∀ (m n : Nat), m ≤ 32 → n < 4294967296 → rightN m (n : Int) = ((rotN n m : Nat) : Int)
 | 0, n, _, h => by simp [rightN, rotN, Nat.mod_one]
 | m + 1, n, hm, h => by
  rw [rightN, step1_nat h, rightN_rot m _ (by omega) (stepN_lt h), rotN_step n m (by omega)]
theorem or_add {a b k : Nat} (h : b < 2 ^ k) : a * 2 ^ k ||| b = a * 2 ^ k + b := by
 rw [Nat.mul_comm, ← Nat.two_pow_add_eq_or_of_lt h]
theorem rotF_rot {n : Nat} (h : n < 4294967296) (a : Nat) (h1 : 1 ≤ a) (h2 : a ≤ 31) : rotF (n : Int) (-(a : Int)) = ((rotN n a : Nat) : Int) := by
 have s1 : andI .u64 (IntKind.u64.wrap (-(a : Int))) 31 = ((32 - a : Nat) : Int) := by
  have key : ∀ a : Nat, a < 32 → 1 ≤ a → andI .u64 (IntKind.u64.wrap (-(a : Int))) 31 = ((32 - a : Nat) : Int) := by decide
  exact key a (by omega) h1
 have s2 : IntKind.u64.wrap (32 - ((32 - a : Nat) : Int)) = (a : Int) := (wu_id (by omega) (by omega)).trans (by omega)
 unfold rotF
 rw [s1, s2]
 have hp : 0 < 2 ^ a := Nat.two_pow_pos _
 have hmul : 4294967296 = 2 ^ a * 2 ^ (32 - a) := by rw [← Nat.pow_add, show a + (32 - a) = 32 by omega]
 have e1 : shlI .u32 (n : Int) ((32 - a : Nat) : Int) = ((n % 2 ^ a * 2 ^ (32 - a) : Nat) : Int) := by
  unfold shlI
  have hmin : min (((32 - a : Nat) : Int)).toNat IntKind.u32.bits = 32 - a := by
   rw [Int.toNat_natCast]; show min (32 - a) 32 = 32 - a; omega
  rw [hmin]
  show w3 ((n : Int) * 2 ^ (32 - a)) = _
  rw [w3_mod]
  have : ((n : Int) * 2 ^ (32 - a)) % 4294967296 = ((n * 2 ^ (32 - a) % 4294967296 : Nat) : Int) := by
   rw [Int.natCast_emod, Int.natCast_mul, Int.natCast_pow]; rfl
  rw [this, hmul, Nat.mul_mod_mul_right]
 have e2 : shrI .u32 (n : Int) (a : Int) = ((n / 2 ^ a : Nat) : Int) := by
  unfold shrI
  have hmin : min ((a : Int)).toNat IntKind.u32.bits = a := by
   rw [Int.toNat_natCast]; show min a 32 = a; omega
  rw [hmin, Int.fdiv_eq_ediv_of_nonneg _ (by exact_mod_cast Nat.zero_le _)]
  rw [Int.natCast_ediv, Int.natCast_pow]; rfl
 rw [e1, e2]
 have hlt : n / 2 ^ a < 2 ^ (32 - a) := by
  rw [Nat.div_lt_iff_lt_mul hp, Nat.mul_comm, ← hmul]; exact h
 have hlt2 : n % 2 ^ a * 2 ^ (32 - a) + n / 2 ^ a < 4294967296 := by
  have h3 : n % 2 ^ a < 2 ^ a := Nat.mod_lt _ hp
  have h4 : (n % 2 ^ a + 1) * 2 ^ (32 - a) ≤ 2 ^ a * 2 ^ (32 - a) := Nat.mul_le_mul_right _ h3
  rw [← hmul, Nat.add_mul, Nat.one_mul] at h4
  omega
 have hor : n % 2 ^ a * 2 ^ (32 - a) ||| n / 2 ^ a = n % 2 ^ a * 2 ^ (32 - a) + n / 2 ^ a := or_add hlt
 unfold rotN
 generalize n % 2 ^ a * 2 ^ (32 - a) = p at hor hlt2 ⊢
 generalize n / 2 ^ a = q at hor hlt2 ⊢
 rw [orI_nat (by rw [max_u32]; omega) (by rw [max_u32]; omega) (by rw [hor, max_u32]; omega), hor]
 congr 1
 omega
theorem rot_right {x : Int} (h : U x) (a : Nat) (h1 : 1 ≤ a) (h2 : a ≤ 31) : rotF x (-(a : Int)) = rightF x (a : Int) := by
 obtain ⟨n, rfl, hn⟩ := h.nat
 rw [rotF_rot hn a h1 h2]
 unfold rightF
 rw [Int.toNat_natCast, rightN_rot a n (by omega) hn]
theorem turn_right {x : Int} (h : U x) (a b : Nat) (ha : 1 ≤ a ∧ a ≤ 31) (hb : 1 ≤ b ∧ b ≤ 31) (v : Int) : turnF x (a : Int) (b : Int) v = xorI .u32 (xorI .u32 (rightF x a) (rightF x b)) v := by
 show xorI .u32 (xorI .u32 (rotF x (w (0 - (a : Int)))) (rotF x (w (0 - (b : Int))))) v = _
 rw [w_id (x := 0 - (a : Int)) (by omega) (by omega), w_id (x := 0 - (b : Int)) (by omega) (by omega), show 0 - (a : Int) = -(a : Int) by omega, show 0 - (b : Int) = -(b : Int) by omega, rot_right h a ha.1 ha.2, rot_right h b hb.1 hb.2]
theorem shr_div {x : Int} (h : U x) (k : Nat) (hk : k ≤ 31) : shrI .u32 x (k : Int) = w3 (x.tdiv (2 ^ k : Nat)) := by
 obtain ⟨n, rfl, hn⟩ := h.nat
 have hp : 0 < 2 ^ k := Nat.two_pow_pos _
 have e : ((n : Nat) : Int).tdiv ((2 ^ k : Nat) : Int) = ((n / 2 ^ k : Nat) : Int) := by rw [Int.tdiv_eq_ediv_of_nonneg (by omega)]; rfl
 rw [e, w3_id (U_nat (Nat.lt_of_le_of_lt (Nat.div_le_self _ _) hn))]
 unfold shrI
 have hmin : min ((k : Int)).toNat IntKind.u32.bits = k := by
  rw [Int.toNat_natCast]; show min k 32 = k; omega
 rw [hmin, Int.fdiv_eq_ediv_of_nonneg _ (by exact_mod_cast Nat.zero_le _), Int.natCast_ediv, Int.natCast_pow]; rfl
theorem not_sub {x : Int} (h : U x) : xorI .u32 4294967295 x = w3 (4294967295 - x) := by
 obtain ⟨n, rfl, hn⟩ := h.nat
 have e : BitVec.ofInt IntKind.u32.bits 4294967295 = BitVec.allOnes 32 := by show BitVec.ofInt 32 4294967295 = BitVec.allOnes 32; decide
 unfold xorI
 rw [e, ofInt_nat]
 show w3 (((BitVec.allOnes 32 ^^^ BitVec.ofNat 32 n).toNat : Nat) : Int) = _
 rw [BitVec.allOnes_xor, BitVec.toNat_not, BitVec.toNat_ofNat, Nat.mod_eq_of_lt (by omega)]
 congr 1
 omega
end Go.Proofs.Ytaffancdidgkhaa.Sha
end
section
set_option linter.unusedVariables false
set_option maxRecDepth 100000
namespace Go.Proofs.Ytaffancdidgkhaa.Sha
open Go Vse Go.Proofs Gen
theorem shl_or {x c : Nat} (hx : x < 16777216) (hc : c < 256) : orI .u32 (shlI .u32 (x : Int) 8) (w3 (c : Int)) = ((x * 256 + c : Nat) : Int) := by
 have e1 : shlI .u32 (x : Int) 8 = ((x * 2 ^ 8 : Nat) : Int) := by
  unfold shlI
  show w3 ((x : Int) * 2 ^ (min (8 : Int).toNat 32)) = _
  have : min (8 : Int).toNat 32 = 8 := by decide
  rw [this, w3_id ⟨by omega, by omega⟩]
  omega
 have hor : x * 2 ^ 8 ||| c = x * 2 ^ 8 + c := or_add (by omega)
 rw [e1, w3_id (U_nat (by omega)), orI_nat (by rw [max_u32]; omega) (by rw [max_u32]; omega) (by rw [hor, max_u32]; omega), hor]
theorem getD_set {v : List Int} {k : Nat} (h : k < v.length) (x : Int) : (v.set k x).getD k 0 = x := by
 rw [List.getD_eq_getElem?_getD, List.getElem?_set_self h]; rfl
theorem put4_num {v : List Int} {k : Nat} (hk : k < v.length) (h0 : v.getD k 0 = 0) {c0 c1 c2 c3 : Nat} (h0' : c0 < 256) (h1 : c1 < 256) (h2 : c2 < 256) (h3 : c3 < 256) :
  put4 v (k : Int) [(c0 : Int), (c1 : Int), (c2 : Int), (c3 : Int)] = v.set k (((c0 * 16777216 + c1 * 65536 + c2 * 256 + c3 : Nat)) : Int) := by
 have step : ∀ (u : List Int) (x c : Nat), k < u.length → u.getD k 0 = (x : Int) → x < 16777216 → c < 256 → put1 u (k : Int) (c : Int) = u.set k ((x * 256 + c : Nat) : Int) := by
  intro u x c hu hx hx2 hc
  unfold put1
  rw [Int.toNat_natCast, hx, shl_or hx2 hc]
 show put1 (put1 (put1 (put1 v k c0) k c1) k c2) k c3 = _
 rw [step v 0 c0 hk h0 (by omega) h0']
 rw [step _ (0 * 256 + c0) c1 (by simpa using hk) (getD_set hk _) (by omega) h1, List.set_set]
 rw [step _ ((0 * 256 + c0) * 256 + c1) c2 (by simpa using hk) (getD_set hk _) (by omega) h2, List.set_set]
 rw [step _ (((0 * 256 + c0) * 256 + c1) * 256 + c2) c3 (by simpa using hk) (getD_set hk _) (by omega) h3, List.set_set]
 congr 2
 omega
theorem byte_nat {l : List Int} (h : Bytes l) {k : Nat} (hk : k < l.length) : ∃ c : Nat, l[k] = (c : Int) ∧ c < 256 := by
 have := h _ (List.getElem_mem hk)
 exact ⟨l[k].toNat, by omega, by omega⟩
theorem part4_four {b : List Int} {i : Nat} (h : 4 * i + 3 < b.length) : part4 b i = [b[4 * i]'(by omega), b[4 * i + 1]'(by omega), b[4 * i + 2]'(by omega), b[4 * i + 3]] := by
 unfold part4
 rw [List.drop_take, show 4 * i + 4 - 4 * i = 4 by omega, List.drop_eq_getElem_cons (by omega), List.drop_eq_getElem_cons (by omega), List.drop_eq_getElem_cons (by omega), List.drop_eq_getElem_cons (by omega)]
 simp only [List.take_succ_cons, List.take_zero]
theorem num4_eq {b : List Int} {i : Nat} (hi : i < 16) (h : b.length = 64) {c0 c1 c2 c3 : Nat} (e0 : b[4 * i]'(by omega) = (c0 : Int)) (e1 : b[4 * i + 1]'(by omega) = (c1 : Int)) (e2 : b[4 * i + 2]'(by omega) = (c2 : Int)) (e3 : b[4 * i + 3]'(by omega) = (c3 : Int))
  (h0 : c0 < 256) (h1 : c1 < 256) (h2 : c2 < 256) (h3 : c3 < 256) : num4 b (i : Int) = ((c0 * 16777216 + c1 * 65536 + c2 * 256 + c3 : Nat) : Int) := by
 have w1 : w (4 * (i : Int)) = ((4 * i : Nat) : Int) := (w_id (by omega) (by omega)).trans (by omega)
 have w2 : w (((4 * i : Nat) : Int) + 1) = ((4 * i + 1 : Nat) : Int) := (w_id (by omega) (by omega)).trans (by omega)
 have w3' : w (((4 * i : Nat) : Int) + 2) = ((4 * i + 2 : Nat) : Int) := (w_id (by omega) (by omega)).trans (by omega)
 have w4 : w (((4 * i : Nat) : Int) + 3) = ((4 * i + 3 : Nat) : Int) := (w_id (by omega) (by omega)).trans (by omega)
 unfold num4
 simp only [w1, w2, w3', w4, Int.toNat_natCast, getD_cons (show 4 * i < b.length by omega), getD_cons (show 4 * i + 1 < b.length by omega), getD_cons (show 4 * i + 2 < b.length by omega), getD_cons (show 4 * i + 3 < b.length by omega), e0, e1, e2, e3]
 simp only [w3_mod]
 omega
theorem schedL_add (t : Tu) (b : List Int) : ∀ (m n i : Nat) (v : List Int), schedL t b i (m + n) v = schedL t b (i + m) n (schedL t b i m v)
 | 0, n, i, v => by rw [Nat.zero_add, Nat.add_zero]; rfl
 | m + 1, n, i, v => by
  rw [show m + 1 + n = (m + n) + 1 by omega, schedL, schedL_add t b m n (i + 1), show i + 1 + m = i + (m + 1) by omega]
  rfl
theorem set_mid (p : List Int) (n : Nat) (x : Int) : (p ++ List.replicate (n + 1) 0).set p.length x = (p ++ [x]) ++ List.replicate n 0 := by
 rw [List.set_append_right _ _ (Nat.le_refl _), Nat.sub_self, List.replicate_succ, List.set_cons_zero, List.append_assoc]
 rfl
theorem getD_left (p q : List Int) {k : Nat} (h : k < p.length) : (p ++ q).getD k 0 = p.getD k 0 := by
 rw [List.getD_eq_getElem?_getD, List.getElem?_append_left h, ← List.getD_eq_getElem?_getD]
theorem getD_mid (p : List Int) (n : Nat) : (p ++ List.replicate (n + 1) 0).getD p.length 0 = 0 := by
 rw [List.getD_eq_getElem?_getD, List.getElem?_append_right (Nat.le_refl _), Nat.sub_self]
 rfl
theorem num4_part {b : List Int} (hb : b.length = 64) (hB : Bytes b) {v : List Int} {i : Nat} (hi : i < 16) (hv : i < v.length) (h0 : v.getD i 0 = 0) : put4 v (i : Int) (part4 b i) = v.set i (num4 b (i : Int)) ∧ U (num4 b (i : Int)) := by
 obtain ⟨c0, e0, l0⟩ := byte_nat hB (k := 4 * i) (by omega)
 obtain ⟨c1, e1, l1⟩ := byte_nat hB (k := 4 * i + 1) (by omega)
 obtain ⟨c2, e2, l2⟩ := byte_nat hB (k := 4 * i + 2) (by omega)
 obtain ⟨c3, e3, l3⟩ := byte_nat hB (k := 4 * i + 3) (by omega)
 rw [part4_four (by omega), e0, e1, e2, e3, put4_num hv h0 l0 l1 l2 l3, num4_eq hi hb e0 e1 e2 e3 l0 l1 l2 l3]
 exact ⟨rfl, U_nat (by omega)⟩
theorem Us_snoc {p : List Int} {x : Int} (h : Us p) (hx : U x) : Us (p ++ [x]) := by
 intro y hy
 rcases List.mem_append.1 hy with hy | hy
 ·exact h y hy
 ·rw [List.mem_singleton.1 hy]; exact hx
theorem stage1 {b : List Int} (hb : b.length = 64) (hB : Bytes b) (t : Tu) : ∀ (m i : Nat) (p : List Int), i + m = 16 → p.length = i → Us p →
  schedL t b i m (p ++ List.replicate (64 - i) 0) = sch1 b i m p ++ List.replicate 48 0 ∧ Us (sch1 b i m p)
 | 0, i, p, h, hp, hU => by
  have : i = 16 := by omega
  subst this
  exact ⟨rfl, hU⟩
 | m + 1, i, p, h, hp, hU => by
  have hi : i < 16 := by omega
  subst hp
  have e64 : 64 - p.length = (63 - p.length) + 1 := by omega
  obtain ⟨q1, q2⟩ := num4_part hb hB (v := p ++ List.replicate (64 - p.length) 0) hi (by simp; omega) (by rw [e64]; exact getD_mid p _)
  have hm : schedL t b p.length (m + 1) (p ++ List.replicate (64 - p.length) 0) = schedL t b (p.length + 1) m ((p ++ [num4 b (p.length : Int)]) ++ List.replicate (63 - p.length) 0) := by
   rw [schedL, if_pos hi, q1, e64, set_mid]
  rw [hm]
  have := stage1 hb hB t m (p.length + 1) (p ++ [num4 b (p.length : Int)]) (by omega) (by simp) (Us_snoc hU q2)
  rw [show 64 - (p.length + 1) = 63 - p.length by omega] at this
  exact this
theorem getD_U {l : List Int} (h : Us l) (k : Nat) : U (l.getD k 0) := by
 rw [List.getD_eq_getElem?_getD]
 cases hk : l[k]? with
 | none => exact ⟨by simp, by simp⟩
 | some x => exact h x (List.mem_of_getElem? hk)
theorem step2_eq {p q : List Int} (hU : Us p) (h16 : 16 ≤ p.length) (h64 : p.length < 64) : step2 turnF (p ++ q) (p.length : Int) = (p ++ q).set p.length (num2 rightF p (p.length : Int)) ∧ U (num2 rightF p (p.length : Int)) := by
 have j1 : w ((p.length : Int) - 15) = ((p.length - 15 : Nat) : Int) := (w_id (by omega) (by omega)).trans (by omega)
 have j2 : w ((p.length : Int) - 2) = ((p.length - 2 : Nat) : Int) := (w_id (by omega) (by omega)).trans (by omega)
 have j3 : w ((p.length : Int) - 16) = ((p.length - 16 : Nat) : Int) := (w_id (by omega) (by omega)).trans (by omega)
 have j4 : w ((p.length : Int) - 7) = ((p.length - 7 : Nat) : Int) := (w_id (by omega) (by omega)).trans (by omega)
 have x1 := getD_U hU (p.length - 15)
 have x2 := getD_U hU (p.length - 2)
 refine ⟨?_, ?_⟩
 ·unfold step2 num2
  simp only [j1, j2, j3, j4, Int.toNat_natCast, getD_left p q (show p.length - 15 < p.length by omega), getD_left p q (show p.length - 2 < p.length by omega), getD_left p q (show p.length - 16 < p.length by omega), getD_left p q (show p.length - 7 < p.length by omega)]
  have t1 := turn_right x1 7 18 (by omega) (by omega) (shrI .u32 (p.getD (p.length - 15) 0) ((3 : Nat) : Int))
  have t2 := turn_right x2 17 19 (by omega) (by omega) (shrI .u32 (p.getD (p.length - 2) 0) ((10 : Nat) : Int))
  rw [shr_div x1 3 (by omega)] at t1
  rw [shr_div x2 10 (by omega)] at t2
  have s1 := shr_div x1 3 (by omega)
  have s2 := shr_div x2 10 (by omega)
  have t1' : turnF (p.getD (p.length - 15) 0) 7 18 (shrI .u32 (p.getD (p.length - 15) 0) 3) = xorI .u32 (xorI .u32 (rightF (p.getD (p.length - 15) 0) 7) (rightF (p.getD (p.length - 15) 0) 18)) (w3 ((p.getD (p.length - 15) 0).tdiv 8)) := by
   have : shrI .u32 (p.getD (p.length - 15) 0) 3 = w3 ((p.getD (p.length - 15) 0).tdiv ((2 ^ 3 : Nat) : Int)) := s1
   rw [this]; exact t1
  have t2' : turnF (p.getD (p.length - 2) 0) 17 19 (shrI .u32 (p.getD (p.length - 2) 0) 10) = xorI .u32 (xorI .u32 (rightF (p.getD (p.length - 2) 0) 17) (rightF (p.getD (p.length - 2) 0) 19)) (w3 ((p.getD (p.length - 2) 0).tdiv 1024)) := by
   have : shrI .u32 (p.getD (p.length - 2) 0) 10 = w3 ((p.getD (p.length - 2) 0).tdiv ((2 ^ 10 : Nat) : Int)) := s2
   rw [this]; exact t2
  rw [t1', t2']
 ·unfold num2
  exact w3_U _
theorem stage2 {b : List Int} : ∀ (m i : Nat) (p : List Int), i + m = 64 → 16 ≤ i → p.length = i → Us p → schedL turnF b i m (p ++ List.replicate (64 - i) 0) = sch2 rightF i m p
 | 0, i, p, h, h16, hp, hU => by
  have : i = 64 := by omega
  subst this
  simp [schedL, sch2]
 | m + 1, i, p, h, h16, hp, hU => by
  subst hp
  have e64 : 64 - p.length = (63 - p.length) + 1 := by omega
  obtain ⟨q1, q2⟩ := step2_eq (q := List.replicate (64 - p.length) 0) hU h16 (by omega)
  have hm : schedL turnF b p.length (m + 1) (p ++ List.replicate (64 - p.length) 0) = schedL turnF b (p.length + 1) m ((p ++ [num2 rightF p (p.length : Int)]) ++ List.replicate (63 - p.length) 0) := by
   rw [schedL, if_neg (by omega), q1, e64, set_mid]
  rw [hm]
  have := stage2 (b := b) m (p.length + 1) (p ++ [num2 rightF p (p.length : Int)]) (by omega) (by omega) (by simp) (Us_snoc hU q2)
  rw [show 64 - (p.length + 1) = 63 - p.length by omega] at this
  rw [this]
  rfl
theorem sched_same {b : List Int} (hb : b.length = 64) (hB : Bytes b) : schedF b zeros64 = sch2F (sch1F b) := by
 have z : zeros64 = [] ++ List.replicate (64 - 0) 0 := by rfl
 obtain ⟨h1, h2⟩ := stage1 hb hB turnF 16 0 [] rfl rfl (fun x hx => by cases hx)
 have hl : (sch1 b 0 16 []).length = 16 := sch1_len b 16 0 []
 unfold schedF
 rw [show (64 : Nat) = 16 + 48 from rfl, schedL_add, z, h1, Nat.zero_add]
 exact stage2 48 16 _ rfl (by omega) hl h2
theorem round_same {l0 l1 l2 l3 l4 l5 l6 l7 : Int} (h0 : U l0) (h4 : U l4) (k x : Int) : round1 rotF turnF [l0, l1, l2, l3, l4, l5, l6, l7] k x = roundR rightF [l0, l1, l2, l3, l4, l5, l6, l7] k x := by
 have ht : tF rotF turnF [l0, l1, l2, l3, l4, l5, l6, l7] k x = rT rightF l4 l5 l6 l7 k x := by
  show w3 (w3 (w3 (w3 (l7 + turnF l4 ((6 : Nat) : Int) ((11 : Nat) : Int) (rotF l4 (-((25 : Nat) : Int)))) + xorI .u32 (andI .u32 l4 l5) (andI .u32 (xorI .u32 4294967295 l4) l6)) + k) + x) = _
  rw [turn_right h4 6 11 (by omega) (by omega), rot_right h4 25 (by omega) (by omega), not_sub h4]
  rfl
 have hu : uF rotF turnF [l0, l1, l2, l3, l4, l5, l6, l7] = rU rightF l0 l1 l2 := by
  show w3 (turnF l0 ((2 : Nat) : Int) ((13 : Nat) : Int) (rotF l0 (-((22 : Nat) : Int))) + xorI .u32 (xorI .u32 (andI .u32 l0 l1) (andI .u32 l0 l2)) (andI .u32 l1 l2)) = _
  rw [turn_right h0 2 13 (by omega) (by omega), rot_right h0 22 (by omega) (by omega)]
  rfl
 unfold round1
 rw [ht, hu]
 rfl
theorem roundR_U {l0 l1 l2 l3 l4 l5 l6 l7 : Int} (h : Us [l0, l1, l2, l3, l4, l5, l6, l7]) (k x : Int) : Us (roundR rightF [l0, l1, l2, l3, l4, l5, l6, l7] k x) := by
 intro y hy
 have hy : y ∈ [w3 (rT rightF l4 l5 l6 l7 k x + rU rightF l0 l1 l2), l0, l1, l2, w3 (l3 + rT rightF l4 l5 l6 l7 k x), l4, l5, l6] := hy
 simp only [List.mem_cons, List.not_mem_nil, or_false] at hy
 rcases hy with rfl | rfl | rfl | rfl | rfl | rfl | rfl | rfl
 ·exact w3_U _
 ·exact h _ (by simp)
 ·exact h _ (by simp)
 ·exact h _ (by simp)
 ·exact w3_U _
 ·exact h _ (by simp)
 ·exact h _ (by simp)
 ·exact h _ (by simp)
theorem rounds_same (ks v : List Int) : ∀ (m i : Nat) (l : List Int), l.length = 8 → Us l → roundsL turnF rotF ks v i m l = rndsR rightF ks v i m l ∧ Us (rndsR rightF ks v i m l)
 | 0, i, l, h, hU => ⟨rfl, hU⟩
 | m + 1, i, l, h, hU => by
  obtain ⟨l0, l1, l2, l3, l4, l5, l6, l7, rfl⟩ := eight h
  rw [roundsL, round_same (hU _ (by simp)) (hU _ (by simp)), rndsR]
  exact rounds_same ks v m (i + 1) _ rfl (roundR_U hU _ _)
theorem add_same {l s : List Int} (hl : l.length = 8) (hs : s.length = 8) : addF l s = addRF s l ∧ Us (addRF s l) := by
 obtain ⟨l0, l1, l2, l3, l4, l5, l6, l7, rfl⟩ := eight hl
 obtain ⟨s0, s1, s2, s3, s4, s5, s6, s7, rfl⟩ := eight hs
 have e1 : addF [l0, l1, l2, l3, l4, l5, l6, l7] [s0, s1, s2, s3, s4, s5, s6, s7] = [w3 (s0 + l0), w3 (s1 + l1), w3 (s2 + l2), w3 (s3 + l3), w3 (s4 + l4), w3 (s5 + l5), w3 (s6 + l6), w3 (s7 + l7)] := rfl
 have e2 : addRF [s0, s1, s2, s3, s4, s5, s6, s7] [l0, l1, l2, l3, l4, l5, l6, l7] = [w3 (l0 + s0), w3 (l1 + s1), w3 (l2 + s2), w3 (l3 + s3), w3 (l4 + s4), w3 (l5 + s5), w3 (l6 + s6), w3 (l7 + s7)] := rfl
 rw [e1, e2, Int.add_comm l0, Int.add_comm l1, Int.add_comm l2, Int.add_comm l3, Int.add_comm l4, Int.add_comm l5, Int.add_comm l6, Int.add_comm l7]
 refine ⟨rfl, fun y hy => ?_⟩
 simp only [List.mem_cons, List.not_mem_nil, or_false] at hy
 rcases hy with rfl | rfl | rfl | rfl | rfl | rfl | rfl | rfl <;> exact w3_U _
theorem mix_block {s b : List Int} (hs : s.length = 8) (hU : Us s) (hb : b.length = 64) (hB : Bytes b) : mixF s b = blockF s b ∧ Us (blockF s b) := by
 obtain ⟨r1, r2⟩ := rounds_same consts (sch2F (sch1F b)) 64 0 s hs hU
 have hlen : (rndsF consts (sch2F (sch1F b)) s).length = 8 := rndsR_len rightF consts _ 64 0 s hs
 obtain ⟨a1, a2⟩ := add_same hlen hs
 refine ⟨?_, a2⟩
 unfold mixF blockF
 rw [sched_same hb hB]
 show addF (roundsL turnF rotF consts (sch2F (sch1F b)) 0 64 s) s = _
 rw [r1]
 exact a1
theorem abs_blocks : ∀ (n : Nat) (s a : List Int), a.length / 64 = n → s.length = 8 → Us s → Bytes a → (absF s a).1 = blocksF n s a ∧ Us (blocksF n s a)
 | 0, s, a, h, hs, hU, hB => ⟨by rw [absF_short (by omega)]; rfl, hU⟩
 | n + 1, s, a, h, hs, hU, hB => by
  obtain ⟨m1, m2⟩ := mix_block hs hU (b := a.take 64) (by rw [List.length_take]; omega) (fun x hx => hB x (List.mem_of_mem_take hx))
  rw [absF_long (by omega), m1, blocksF]
  exact abs_blocks n _ _ (by rw [List.length_drop]; omega) (blockF_len _ hs) m2 (fun x hx => hB x (List.mem_of_mem_drop hx))
theorem out_same {s : List Int} (hs : s.length = 8) (hU : Us s) : outF s zeros32 = put8F s zeros32 := by
 obtain ⟨s0, s1, s2, s3, s4, s5, s6, s7, rfl⟩ := eight hs
 have b3 : ∀ x, U x → wb (shrI .u32 x 24) = wb (w3 (x.tdiv 16777216)) := fun x hx => by rw [show shrI .u32 x 24 = w3 (x.tdiv ((2 ^ 24 : Nat) : Int)) from shr_div hx 24 (by omega)]; rfl
 have b2 : ∀ x, U x → wb (shrI .u32 x 16) = wb ((w3 (x.tdiv 65536)).tmod 256) := fun x hx => by
  rw [show shrI .u32 x 16 = w3 (x.tdiv ((2 ^ 16 : Nat) : Int)) from shr_div hx 16 (by omega)]
  show wb (w3 (x.tdiv 65536)) = _
  have := (w3_U (x.tdiv 65536)).1
  generalize w3 (x.tdiv 65536) = y at this ⊢
  rw [wb_mod, wb_mod, Int.tmod_eq_emod_of_nonneg this]; omega
 have b1 : ∀ x, U x → wb (shrI .u32 x 8) = wb ((w3 (x.tdiv 256)).tmod 256) := fun x hx => by
  rw [show shrI .u32 x 8 = w3 (x.tdiv ((2 ^ 8 : Nat) : Int)) from shr_div hx 8 (by omega)]
  show wb (w3 (x.tdiv 256)) = _
  have := (w3_U (x.tdiv 256)).1
  generalize w3 (x.tdiv 256) = y at this ⊢
  rw [wb_mod, wb_mod, Int.tmod_eq_emod_of_nonneg this]; omega
 have b0 : ∀ x, U x → wb (shrI .u32 x 0) = wb (x.tmod 256) := fun x hx => by
  rw [show shrI .u32 x 0 = w3 (x.tdiv ((2 ^ 0 : Nat) : Int)) from shr_div hx 0 (by omega)]
  show wb (w3 (x.tdiv 1)) = _
  rw [Int.tdiv_one, w3_id hx, wb_mod, wb_mod, Int.tmod_eq_emod_of_nonneg hx.1]; omega
 have four : ∀ x, U x → [wb (shrI .u32 x 24), wb (shrI .u32 x 16), wb (shrI .u32 x 8), wb (shrI .u32 x 0)] = [wb (w3 (x.tdiv 16777216)), wb ((w3 (x.tdiv 65536)).tmod 256), wb ((w3 (x.tdiv 256)).tmod 256), wb (x.tmod 256)] := fun x hx => by rw [b3 x hx, b2 x hx, b1 x hx, b0 x hx]
 have h0 := four s0 (hU _ (by simp))
 have h1 := four s1 (hU _ (by simp))
 have h2 := four s2 (hU _ (by simp))
 have h3 := four s3 (hU _ (by simp))
 have h4 := four s4 (hU _ (by simp))
 have h5 := four s5 (hU _ (by simp))
 have h6 := four s6 (hU _ (by simp))
 have h7 := four s7 (hU _ (by simp))
 have e1 : outF [s0, s1, s2, s3, s4, s5, s6, s7] zeros32 = [wb (shrI .u32 s0 24), wb (shrI .u32 s0 16), wb (shrI .u32 s0 8), wb (shrI .u32 s0 0)] ++ ([wb (shrI .u32 s1 24), wb (shrI .u32 s1 16), wb (shrI .u32 s1 8), wb (shrI .u32 s1 0)] ++ ([wb (shrI .u32 s2 24), wb (shrI .u32 s2 16), wb (shrI .u32 s2 8), wb (shrI .u32 s2 0)] ++
  ([wb (shrI .u32 s3 24), wb (shrI .u32 s3 16), wb (shrI .u32 s3 8), wb (shrI .u32 s3 0)] ++ ([wb (shrI .u32 s4 24), wb (shrI .u32 s4 16), wb (shrI .u32 s4 8), wb (shrI .u32 s4 0)] ++ ([wb (shrI .u32 s5 24), wb (shrI .u32 s5 16), wb (shrI .u32 s5 8), wb (shrI .u32 s5 0)] ++
  ([wb (shrI .u32 s6 24), wb (shrI .u32 s6 16), wb (shrI .u32 s6 8), wb (shrI .u32 s6 0)] ++ [wb (shrI .u32 s7 24), wb (shrI .u32 s7 16), wb (shrI .u32 s7 8), wb (shrI .u32 s7 0)])))))) := by kernel_rfl
 have e2 : put8F [s0, s1, s2, s3, s4, s5, s6, s7] zeros32 = [wb (w3 (s0.tdiv 16777216)), wb ((w3 (s0.tdiv 65536)).tmod 256), wb ((w3 (s0.tdiv 256)).tmod 256), wb (s0.tmod 256)] ++ ([wb (w3 (s1.tdiv 16777216)), wb ((w3 (s1.tdiv 65536)).tmod 256), wb ((w3 (s1.tdiv 256)).tmod 256), wb (s1.tmod 256)] ++ ([wb (w3 (s2.tdiv 16777216)), wb ((w3 (s2.tdiv 65536)).tmod 256), wb ((w3 (s2.tdiv 256)).tmod 256), wb (s2.tmod 256)] ++ ([wb (w3 (s3.tdiv 16777216)), wb ((w3 (s3.tdiv 65536)).tmod 256), wb ((w3 (s3.tdiv 256)).tmod 256), wb (s3.tmod 256)] ++ ([wb (w3 (s4.tdiv 16777216)), wb ((w3 (s4.tdiv 65536)).tmod 256), wb ((w3 (s4.tdiv 256)).tmod 256), wb (s4.tmod 256)] ++ ([wb (w3 (s5.tdiv 16777216)), wb ((w3 (s5.tdiv 65536)).tmod 256), wb ((w3 (s5.tdiv 256)).tmod 256), wb (s5.tmod 256)] ++ ([wb (w3 (s6.tdiv 16777216)), wb ((w3 (s6.tdiv 65536)).tmod 256), wb ((w3 (s6.tdiv 256)).tmod 256), wb (s6.tmod 256)] ++ ([wb (w3 (s7.tdiv 16777216)), wb ((w3 (s7.tdiv 65536)).tmod 256), wb ((w3 (s7.tdiv 256)).tmod 256), wb (s7.tmod 256)]))))))) := by kernel_rfl
 rw [e1, h0, h1, h2, h3, h4, h5, h6, h7, e2]
theorem tail_byte {n i : Nat} (hn : n < 2305843009213693952) (hi : i ≤ 7) : wb (shrI .u64 (shlI .u64 (n : Int) 3) (w (8 * (i : Int)))) = wb ((wu (((8 * n : Nat) : Int).tdiv (unit1 i))).tmod 256) := by
 have e1 : shlI .u64 (n : Int) 3 = ((8 * n : Nat) : Int) := by
  unfold shlI
  show wu ((n : Int) * 2 ^ (min (3 : Int).toNat 64)) = _
  have : min (3 : Int).toNat 64 = 3 := by decide
  rw [this, wu_id (by omega) (by omega)]
  omega
 have e2 : w (8 * (i : Int)) = ((8 * i : Nat) : Int) := (w_id (by omega) (by omega)).trans (by omega)
 have e3 : unit1 i = ((2 ^ (8 * i) : Nat) : Int) := by
  unfold unit1
  rw [Nat.pow_mul]
  exact (Int.natCast_pow 256 i).symm
 have e4 : shrI .u64 ((8 * n : Nat) : Int) ((8 * i : Nat) : Int) = ((8 * n / 2 ^ (8 * i) : Nat) : Int) := by
  unfold shrI
  have hmin : min (((8 * i : Nat) : Int)).toNat IntKind.u64.bits = 8 * i := by
   rw [Int.toNat_natCast]; show min (8 * i) 64 = 8 * i; omega
  rw [hmin, Int.fdiv_eq_ediv_of_nonneg _ (by exact_mod_cast Nat.zero_le _), Int.natCast_ediv, Int.natCast_pow]; rfl
 have e5 : ((8 * n : Nat) : Int).tdiv ((2 ^ (8 * i) : Nat) : Int) = ((8 * n / 2 ^ (8 * i) : Nat) : Int) := by
  rw [Int.tdiv_eq_ediv_of_nonneg (by omega)]; exact (Int.natCast_ediv _ _).symm
 have hle : 8 * n / 2 ^ (8 * i) ≤ 8 * n := Nat.div_le_self _ _
 rw [e1, e2, e4, e3, e5]
 generalize 8 * n / 2 ^ (8 * i) = y at hle ⊢
 rw [wu_id (by omega) (by omega), wb_mod, wb_mod, Int.tmod_eq_emod_of_nonneg (by omega)]
 omega
theorem fill_same {b : List Int} (hb : b.length ≤ 10000000000) : b ++ fillF (hashOf b) = filledF b := by
 have hm : (hashOf b).2.2.1 = (b.length : Int) := by
  show wu (0 + wu (b.length : Int)) = _
  rw [wu_id (x := (b.length : Int)) (by omega) (by omega), wu_id (by omega) (by omega)]; omega
 have hr : (hashOf b).2.1.length = b.length % 64 := by
  show (absF h0.1 (h0.2.1 ++ b)).2.length = _
  rw [abs_rest]
  rfl
 have hp : padN ((hashOf b).2.1.length + 1) = padM (b.length + 1) := by
  rw [hr]; unfold padN padM; omega
 have ht : tail8 (hashOf b) = tailF (wu (w (8 * (b.length : Int)))) := by
  have e1 : wu (w (8 * (b.length : Int))) = ((8 * b.length : Nat) : Int) := by
   rw [w_id (by omega) (by omega), wu_id (by omega) (by omega)]; omega
  have tb : ∀ i : Nat, i ≤ 7 → tailB (hashOf b) i = wb ((wu (((8 * b.length : Nat) : Int).tdiv (unit1 i))).tmod 256) := fun i hi => by
   unfold tailB
   rw [hm]
   exact tail_byte (by omega) hi
  rw [e1]
  unfold tail8
  rw [tb 7 (by omega), tb 6 (by omega), tb 5 (by omega), tb 4 (by omega), tb 3 (by omega), tb 2 (by omega), tb 1 (by omega), tb 0 (by omega)]
  rfl
 unfold fillF filledF padL padR
 rw [ht, List.length_append, List.length_singleton]
 rw [hp]
 simp only [List.append_assoc]
theorem init_U : Us init := by
 intro x hx
 have : ∀ x ∈ init, 0 ≤ x ∧ x < 4294967296 := by decide
 exact this x hx
theorem filled_bytes {b : List Int} (hB : Bytes b) : Bytes (filledF b) := by
 have hw : ∀ x, 0 ≤ wb x ∧ wb x < 256 := fun x => by rw [wb_mod]; omega
 have ht : ∀ (n : Int) (m : Nat), Bytes (tailR n m) := by
  intro n m
  induction m with
  | zero => intro x hx; cases hx
  | succ m ih =>
   intro x hx
   rcases List.mem_cons.1 hx with rfl | hx
   ·exact hw _
   ·exact ih x hx
 intro x hx
 unfold filledF padR at hx
 simp only [List.mem_append, List.mem_singleton, List.mem_replicate] at hx
 rcases hx with ((hx | hx) | hx) | hx
 ·exact hB x hx
 ·subst hx; omega
 ·obtain ⟨_, rfl⟩ := hx; omega
 ·exact ht _ _ x hx
theorem sums_same {b : List Int} (hB : Bytes b) (hb : b.length ≤ 10000000000) : shaF b = rsumF b := by
 have hl := filledF_len b
 have h1 : (writeF (fillF (hashOf b)) ((hashOf b).1, (hashOf b).2.1, 0, ())).1 = (absF init (filledF b)).1 := by
  show (absF (absF h0.1 (h0.2.1 ++ b)).1 ((absF h0.1 (h0.2.1 ++ b)).2 ++ fillF (hashOf b))).1 = _
  show (absF (absF init b).1 ((absF init b).2 ++ fillF (hashOf b))).1 = _
  rw [absF_append _ init b _ rfl, fill_same hb]
 obtain ⟨a1, a2⟩ := abs_blocks _ init (filledF b) rfl rfl init_U (filled_bytes hB)
 have hlen : (blocksF ((filledF b).length / 64) init (filledF b)).length = 8 := blocksF_len _ _ _ rfl
 rw [shaF_hash]
 unfold sumH rsumF blkF
 rw [h1, a1, out_same hlen a2]
end Go.Proofs.Ytaffancdidgkhaa.Sha
end
end
section
section
set_option linter.unusedVariables false
set_option maxRecDepth 100000
namespace Go.Proofs.Ytaffancdidgkhaa.Mac
open Go Vse Go.Proofs Gen Sha
abbrev d64 : Ty := .arr 64 u8
def z64 : List Int := List.replicate 64 0
def cS (S : List Int → List Int) (p : List Int → Bool) : List (Nat × CSpec) := [(103, .slp1 [bs] (fun x => p x.1) d32 fun x => S x.1)]
theorem cS_sound : CtxSound Try.prog (ctx (cS shaF shaP)) ∧ CtxLocal (ctx (cS shaF shaP)) := ctx_sound ⟨ok16, trivial⟩
noncomputable def bF : Code := loopAt Try.f120 0
def SF : RSpec := ⟨[1, 6, 17], 28, [u8, .ptr 0 [], i64], [.box d64], [.box d64], [], fun _ => ([6], [.ptr 0 []], [.box d64])⟩
def GF (by_ i : Int) (q : List Int) : Tr SF.End :=
 .ite (decide (i < 64)) (.chk (inArrK .i64 i 64) (.chk (inArrK .i64 i 64) (.ret (.inl ((by_, (), w (i + 1), ()), (q.set i.toNat (xorI .u8 (q.getD i.toNat 0) by_), ()))))))
  (.ret (.inr (.exit 0, encS [6] [.ptr 0 []] [.box d64] 28 ((), ()) (q, ()))))
theorem rF (S : List Int → List Int) (p : List Int → Bool) (by_ i : Int) (q : List Int) : (SF.round (bodyK Try.prog (ctx (cS S p)) L0 bF) (by_, (), i, ()) (q, ())).eval = (GF by_ i q).eval := by kernel_rfl
def SF2 : RSpec := ⟨[1, 6, 17], 28, [u8, .ptr 1 [], i64], [.box d32, .box d64], [.box d32, .box d64], [], fun _ => ([6], [.ptr 1 []], [.box d32, .box d64])⟩
def GF2 (by_ i : Int) (d q : List Int) : Tr SF2.End :=
 .ite (decide (i < 64)) (.chk (inArrK .i64 i 64) (.chk (inArrK .i64 i 64) (.ret (.inl ((by_, (), w (i + 1), ()), (d, q.set i.toNat (xorI .u8 (q.getD i.toNat 0) by_), ()))))))
  (.ret (.inr (.exit 0, encS [6] [.ptr 1 []] [.box d32, .box d64] 28 ((), ()) (d, q, ()))))
theorem rF2 (S : List Int → List Int) (p : List Int → Bool) (by_ i : Int) (d q : List Int) : (SF2.round (bodyK Try.prog (ctx (cS S p)) L0 bF) (by_, (), i, ()) (d, q, ())).eval = (GF2 by_ i d q).eval := by kernel_rfl
def FF (c : Int → List Int → Bool) (X : Int → List Int → List Int) (xs : HL SF.Ts) (hs : HD SF.Es) : Tr (Ex × St) :=
 .chk (c xs.2.2.1 hs.1) (.ret (.exit 0, encS [6] [.ptr 0 []] [.box d64] 28 ((), ()) (X xs.1 hs.1, ())))
def FF2 (c : Int → List Int → Bool) (X : Int → List Int → List Int) (xs : HL SF2.Ts) (hs : HD SF2.Es) : Tr (Ex × St) :=
 .chk (c xs.2.2.1 hs.2.1) (.ret (.exit 0, encS [6] [.ptr 1 []] [.box d32, .box d64] 28 ((), ()) (hs.1, X xs.1 hs.2.1, ())))
def LF (c : Int → List Int → Bool) (X : Int → List Int → List Int) : Loops := fun j st => if j = 7 then orL (fun st => heapIs SF.E0 st.heap) (SF.fn (FF c X)) (SF2.fn (FF2 c X)) st else .fail
abbrev all (n : Nat) (l : List Int) : List Int := (l.drop 0).take n
abbrev nF : PSpec := ⟨[bs, u8], [bt], [], [], []⟩
def TF (S : List Int → List Int) (p : List Int → Bool) (c : Int → List Int → Bool) (X : Int → List Int → List Int) (key : List Int) (by_ : Int) : Tr nF.Out :=
 let go (k : List Int) : Tr nF.Out := .chk (c 0 (overL z64 k ++ [])) (.ret ((all 64 (X by_ (overL z64 k ++ [])), ()), ()))
 .ite (decide ((key.length : Int) > 64)) (.chk (p key) (go (all 32 (S key)))) (go key)
theorem tF (S : List Int → List Int) (p : List Int → Bool) (c : Int → List Int → Bool) (X : Int → List Int → List Int) (key : List Int) (by_ : Int) :
  (fnP Try.prog (ctx (cS S p)) (LF c X) nF Try.f120 (key, by_, ()) ()).eval = (TF S p c X key by_).eval := by kernel_rfl
def cM (i : Hs) (W : Wr) (p : List Int → Hs → Bool) (q : Hs → Bool) (D : Hs → List Int) (F : List Int → Int → List Int) (pf : List Int → Bool) : List (Nat × CSpec) :=
 [(118, .pos nH (fun _ _ => true) fun _ _ => (((), ()), (i, ()))), (119, .pos (wS [bs] []) (fun xs d => p xs.2.1 d.1) fun xs d => ((), (W xs.2.1 d.1, ()))), (121, .pos (wS [] [d32]) (fun _ d => q d.1) fun _ d => ((D d.1, ()), d)),
  (120, .pos nF (fun xs _ => pf xs.1) fun xs _ => ((F xs.1 xs.2.1, ()), ()))]
noncomputable def bM : Code := loopAt Try.f86 0
abbrev eM : List ETy := [.box d32, .box hT, .box hT]
def SM : RSpec := ⟨[0, 4, 5, 6, 16, 17, 18], 37, [bs, .ptr 0 [], .ptr 1 [], .ptr 2 [], ls, i64, i64], eM, eM, [], fun _ => ([0, 4, 5, 6], [bs, .ptr 0 [], .ptr 1 [], .ptr 2 []], eM)⟩
def GM (W : Wr) (p : List Int → Hs → Bool) (key : List Int) (l : List (List Int)) (n i : Int) (o : List Int) (h h' : Hs) : Tr SM.End :=
 .ite (decide (i < n)) (.chk (inArr i l.length) (.chk (p (l.getD i.toNat []) h) (.ret (.inl ((key, (), (), (), l, n, w (i + 1), ()), (o, W (l.getD i.toNat []) h, h', ()))))))
  (.ret (.inr (.exit 0, encS [0, 4, 5, 6] [bs, .ptr 0 [], .ptr 1 [], .ptr 2 []] eM 37 (key, (), (), (), ()) (o, h, h', ()))))
theorem rM (i0 : Hs) (W : Wr) (p : List Int → Hs → Bool) (q : Hs → Bool) (D : Hs → List Int) (F : List Int → Int → List Int) (pf : List Int → Bool) (key : List Int) (l : List (List Int)) (n i : Int) (o : List Int) (h h' : Hs) :
  (SM.round (bodyK Try.prog (ctx (cM i0 W p q D F pf)) L0 bM) (key, (), (), (), l, n, i, ()) (o, h, h', ())).eval = (GM W p key l n i o h h').eval := by kernel_rfl
def FM (c : List (List Int) → Int → Int → Hs → Bool) (Z : List (List Int) → Hs → Hs) (xs : HL SM.Ts) (hs : HD SM.Es) : Tr (Ex × St) :=
 .chk (c xs.2.2.2.2.1 xs.2.2.2.2.2.1 xs.2.2.2.2.2.2.1 hs.2.1) (.ret (.exit 0, encS [0, 4, 5, 6] [bs, .ptr 0 [], .ptr 1 [], .ptr 2 []] eM 37 (xs.1, (), (), (), ()) (hs.1, Z xs.2.2.2.2.1 hs.2.1, hs.2.2.1, ())))
def LM (c : List (List Int) → Int → Int → Hs → Bool) (Z : List (List Int) → Hs → Hs) : Loops := fun j st => if j = 4 then SM.fn (FM c Z) st else .fail
def TM (i : Hs) (W : Wr) (p : List Int → Hs → Bool) (q : Hs → Bool) (D : Hs → List Int) (F : List Int → Int → List Int) (pf : List Int → Bool) (c : List (List Int) → Int → Int → Hs → Bool) (Z : List (List Int) → Hs → Hs) (key : List Int) (l : List (List Int)) : Tr AV :=
 let h1 := Z l (W (F key 54) i)
 let h2 := W (F key 92) i
 .chk (pf key) (.chk (p (F key 54) i) (.chk (c l (l.length : Int) 0 (W (F key 54) i)) (.chk (q h1) (.chk (pf key) (.chk (p (F key 92) i) (.chk (p (all 32 (D h1)) h2) (.chk (q (W (all 32 (D h1)) h2)) (.ret (.v d32 (D (W (all 32 (D h1)) h2)))))))))))
theorem tM (i : Hs) (W : Wr) (p : List Int → Hs → Bool) (q : Hs → Bool) (D : Hs → List Int) (F : List Int → Int → List Int) (pf : List Int → Bool) (c : List (List Int) → Int → Int → Hs → Bool) (Z : List (List Int) → Hs → Hs) (key : List Int) (l : List (List Int)) :
  nrm (fnS Try.prog (ctx (cM i W p q D F pf)) (LM c Z) [d32] Try.f86 (mkArgs [bs, ls] (key, l, ()))) = (TM i W p q D F pf c Z key l).eval := by kernel_rfl
end Go.Proofs.Ytaffancdidgkhaa.Mac
end
section
set_option linter.unusedVariables false
set_option maxRecDepth 100000
namespace Go.Proofs.Ytaffancdidgkhaa.Mac
open Go Vse Go.Proofs Gen Sha
def xorF (by_ : Int) (q : List Int) : List Int := q.map fun x => xorI .u8 x by_
def mid (f : Int → Int) (q : List Int) (i : Nat) : List Int := (q.take i).map f ++ q.drop i
theorem mid_get (f : Int → Int) {q : List Int} {i : Nat} (h : i < q.length) : (mid f q i).getD i 0 = q[i] := by
 have hl : ((q.take i).map f).length = i := by rw [List.length_map, List.length_take]; omega
 unfold mid
 rw [List.getD_eq_getElem?_getD, List.getElem?_append_right (by omega), hl, Nat.sub_self, List.getElem?_drop, Nat.add_zero, List.getElem?_eq_getElem h]
 rfl
theorem mid_step (f : Int → Int) {q : List Int} {i : Nat} (h : i < q.length) : (mid f q i).set i (f ((mid f q i).getD i 0)) = mid f q (i + 1) := by
 have hl : ((q.take i).map f).length = i := by rw [List.length_map, List.length_take]; omega
 rw [mid_get f h]
 unfold mid
 rw [List.set_append_right _ _ (by omega), hl, Nat.sub_self, List.drop_eq_getElem_cons h, List.set_cons_zero, ← List.take_append_getElem h, List.map_append, List.append_assoc]
 rfl
theorem mid_all (f : Int → Int) (q : List Int) : mid f q q.length = q.map f := by
 unfold mid
 rw [List.take_length, List.drop_length, List.append_nil]
def cF (i : Int) (q : List Int) : Bool := decide (i = 0) && decide (q.length = 64)
theorem mF (by_ : Int) (q : List Int) (hq : q.length = 64) : ∀ (m i : Nat), i + m = 64 →
  SF.many (bodyK Try.prog (ctx (cS shaF shaP)) L0 bF) (m + 1) (by_, (), (i : Int), ()) (mid (fun x => xorI .u8 x by_) q i, ()) = some (.exit 0, encS [6] [.ptr 0 []] [.box d64] 28 ((), ()) (xorF by_ q, ()))
 | 0, i, h => by
  refine rmany_inr ((rF shaF shaP by_ i _).trans ?_) 0
  have : i = q.length := by omega
  subst this
  rw [mid_all]
  simp only [GF, Tr.eval, decide_eq_false (show ¬ ((q.length : Int) < 64) by omega)]
  rfl
 | m + 1, i, h => by
  refine (rmany_inl (d := ((by_, (), ((i + 1 : Nat) : Int), ()), (mid (fun x => xorI .u8 x by_) q (i + 1), ()))) ((rF shaF shaP by_ i _).trans ?_) (m + 1)).trans (mF by_ q hq m (i + 1) (by omega))
  have w0 : w ((i : Int) + 1) = ((i + 1 : Nat) : Int) := (w_id (by omega) (by omega)).trans (by omega)
  unfold GF
  rw [ite_t (decide_eq_true (show ((i : Int) < 64) by omega)), chk_eval (inArrK64 (by omega) (by omega) (by omega)), chk_eval (inArrK64 (by omega) (by omega) (by omega)), w0, Int.toNat_natCast, mid_step _ (by omega)]
  rfl
theorem mF2 (by_ : Int) (d q : List Int) (hq : q.length = 64) : ∀ (m i : Nat), i + m = 64 →
  SF2.many (bodyK Try.prog (ctx (cS shaF shaP)) L0 bF) (m + 1) (by_, (), (i : Int), ()) (d, mid (fun x => xorI .u8 x by_) q i, ()) = some (.exit 0, encS [6] [.ptr 1 []] [.box d32, .box d64] 28 ((), ()) (d, xorF by_ q, ()))
 | 0, i, h => by
  refine rmany_inr ((rF2 shaF shaP by_ i d _).trans ?_) 0
  have : i = q.length := by omega
  subst this
  rw [mid_all]
  simp only [GF2, Tr.eval, decide_eq_false (show ¬ ((q.length : Int) < 64) by omega)]
  rfl
 | m + 1, i, h => by
  refine (rmany_inl (d := ((by_, (), ((i + 1 : Nat) : Int), ()), (d, mid (fun x => xorI .u8 x by_) q (i + 1), ()))) ((rF2 shaF shaP by_ i d _).trans ?_) (m + 1)).trans (mF2 by_ d q hq m (i + 1) (by omega))
  have w0 : w ((i : Int) + 1) = ((i + 1 : Nat) : Int) := (w_id (by omega) (by omega)).trans (by omega)
  unfold GF2
  rw [ite_t (decide_eq_true (show ((i : Int) < 64) by omega)), chk_eval (inArrK64 (by omega) (by omega) (by omega)), chk_eval (inArrK64 (by omega) (by omega) (by omega)), w0, Int.toNat_natCast, mid_step _ (by omega)]
  rfl
theorem lF1 : LoopOK Try.prog (fun j st => if j = 7 then SF.fn (FF cF xorF) st else .fail) bF :=
 rloop_ok (L := fun j st => if j = 7 then SF.fn (FF cF xorF) st else .fail) (L' := L0) cS_sound (loopsOK_of (by kernel_rfl)) SF (F := FF cF xorF) (i := 7) (by kernel_rfl) (fun _ => rfl) fun xs hs r h => by
  obtain ⟨by_, u1, i, u2⟩ := xs
  obtain ⟨q, u3⟩ := hs
  obtain ⟨h1, h2⟩ := Tr.chk_some h
  simp only [cF, Bool.and_eq_true, decide_eq_true_eq] at h1
  obtain ⟨e1, e2⟩ := h1
  have e1 : i = ((0 : Nat) : Int) := e1
  subst e1
  exact ⟨_, (mF by_ q e2 64 0 (by omega)).trans (congrArg some (Tr.ret_some h2))⟩
theorem lF2 : LoopOK Try.prog (fun j st => if j = 7 then SF2.fn (FF2 cF xorF) st else .fail) bF :=
 rloop_ok (L := fun j st => if j = 7 then SF2.fn (FF2 cF xorF) st else .fail) (L' := L0) cS_sound (loopsOK_of (by kernel_rfl)) SF2 (F := FF2 cF xorF) (i := 7) (by kernel_rfl) (fun _ => rfl) fun xs hs r h => by
  obtain ⟨by_, u1, i, u2⟩ := xs
  obtain ⟨d, q, u3⟩ := hs
  obtain ⟨h1, h2⟩ := Tr.chk_some h
  simp only [cF, Bool.and_eq_true, decide_eq_true_eq] at h1
  obtain ⟨e1, e2⟩ := h1
  have e1 : i = ((0 : Nat) : Int) := e1
  subst e1
  exact ⟨_, (mF2 by_ d q e2 64 0 (by omega)).trans (congrArg some (Tr.ret_some h2))⟩
theorem lF : LoopOK Try.prog (LF cF xorF) bF := loopOK_or (i := 7) (by kernel_rfl) (fun _ => rfl) (fun _ => rfl) (fun _ => rfl) lF1 lF2
def keyF (key : List Int) : List Int := overL z64 (if (key.length : Int) > 64 then all 32 (shaF key) else key) ++ []
def fillK (key : List Int) (by_ : Int) : List Int := all 64 (xorF by_ (keyF key))
def s45 : CSpec := .pos nF (fun xs _ => shaP xs.1) fun xs _ => ((fillK xs.1 xs.2.1, ()), ())
theorem overL_len {α : Type} (l m : List α) : (overL l m).length = l.length := by
 unfold overL
 rw [List.length_append, List.length_take, List.length_drop]
 omega
theorem keyF_len (key : List Int) : (keyF key).length = 64 := by
 unfold keyF
 rw [List.append_nil, overL_len]
 rfl
theorem TF_eq (key : List Int) (by_ : Int) (hp : shaP key = true) : (TF shaF shaP cF xorF key by_).eval = some ((fillK key by_, ()), ()) := by
 have hc : cF 0 (keyF key) = true := by simp only [cF, keyF_len, decide_true, Bool.and_self]
 unfold TF
 by_cases h : (key.length : Int) > 64
 ·have hk : keyF key = overL z64 (all 32 (shaF key)) ++ [] := by unfold keyF; rw [if_pos h]
  rw [ite_t (decide_eq_true h), chk_eval hp]
  simp only
  rw [← hk, chk_eval hc]
  rfl
 ·have hk : keyF key = overL z64 key ++ [] := by unfold keyF; rw [if_neg h]
  rw [ite_f (decide_eq_false h)]
  simp only
  rw [← hk, chk_eval hc]
  rfl
theorem ok45 : CSound Try.prog 120 s45 ∧ CLocal s45 :=
 pos_sound (L := LF cF xorF) cS_sound Try.func120 (by kernel_rfl) (loops1 (by kernel_rfl) lF) fun xs hs _ _ hp => by
  obtain ⟨key, by_, u⟩ := xs
  exact (tF shaF shaP cF xorF key by_).trans (TF_eq key by_ hp)
abbrev CMF : Ctx := ctx (cM h0 writeF writeP restP sumH fillK shaP)
theorem cM_sound : CtxSound Try.prog CMF ∧ CtxLocal CMF := ctx_sound ⟨ok19, ok20, ok21, ok45, trivial⟩
def cM1 (l : List (List Int)) (n i : Int) (h : Hs) : Bool := decide (n = (l.length : Int)) && (decide (i = 0) && (decide (h.2.1.length ≤ 1000000) && (decide (tot l ≤ 1000000) && decide (l.length ≤ 1000000))))
theorem rest_le (x : List Int) (h : Hs) : (writeF x h).2.1.length ≤ 1000000 := by
 show (absF h.1 (h.2.1 ++ x)).2.length ≤ 1000000
 rw [abs_rest]; omega
theorem mM (key : List Int) (l : List (List Int)) (hl : l.length ≤ 1000000) (ht : tot l ≤ 1000000) (o : List Int) (h' : Hs) : ∀ (m k : Nat) (h : Hs), k + m = l.length → h.2.1.length ≤ 1000000 →
  SM.many (bodyK Try.prog CMF L0 bM) (m + 1) (key, (), (), (), l, (l.length : Int), (k : Int), ()) (o, h, h', ()) = some (.exit 0, encS [0, 4, 5, 6] [bs, .ptr 0 [], .ptr 1 [], .ptr 2 []] eM 37 (key, (), (), (), ()) (o, zP (l.drop k) h, h', ()))
 | 0, k, h, hk, hr => by
  refine rmany_inr ((rM h0 writeF writeP restP sumH fillK shaP key l l.length k o h h').trans ?_) 0
  rw [List.drop_eq_nil_of_le (by omega)]
  simp only [GM, Tr.eval, decide_eq_false (show ¬ ((k : Int) < (l.length : Int)) by omega)]
  rfl
 | m + 1, k, h, hk, hr => by
  have h1 : k < l.length := by omega
  have g1 : l.getD k [] = l[k] := Gen.getD_cons h1 []
  have hle := getElem_tot l k h1
  refine (rmany_inl (d := ((key, (), (), (), l, (l.length : Int), ((k + 1 : Nat) : Int), ()), (o, writeF l[k] h, h', ()))) ((rM h0 writeF writeP restP sumH fillK shaP key l l.length k o h h').trans ?_) (m + 1)).trans
   ((mM key l hl ht o h' m (k + 1) (writeF l[k] h) (by omega) (rest_le _ _)).trans ?_)
  ·have w0 : w ((k : Int) + 1) = ((k + 1 : Nat) : Int) := (w_id (by omega) (by omega)).trans (by omega)
   have e1 : writeP l[k] h = true := decide_eq_true (by omega)
   unfold GM
   simp only [Int.toNat_natCast, g1]
   rw [ite_t (decide_eq_true (show ((k : Int) < (l.length : Int)) by omega)), chk_eval (inArr_nat h1), chk_eval e1, w0]
   rfl
  ·rw [List.drop_eq_getElem_cons h1]
   simp only [zP, List.foldl_cons]
theorem lM : LoopOK Try.prog (LM cM1 zP) bM :=
 rloop_ok (L := LM cM1 zP) (L' := L0) cM_sound (loopsOK_of (by kernel_rfl)) SM (F := FM cM1 zP) (i := 4) (by kernel_rfl) (fun _ => rfl) fun xs hs r h => by
  obtain ⟨key, u1, u2, u3, l, n, i, u4⟩ := xs
  obtain ⟨o, hh, h', u5⟩ := hs
  obtain ⟨h1, h2⟩ := Tr.chk_some h
  simp only [cM1, Bool.and_eq_true, decide_eq_true_eq] at h1
  obtain ⟨e1, e2, e3, e4, e5⟩ := h1
  have e1 : n = ((List.length (α := List Int) l : Nat) : Int) := e1
  have e2 : i = ((0 : Nat) : Int) := e2
  subst e1; subst e2
  have := mM key l e5 e4 o h' (List.length (α := List Int) l) 0 hh (by omega) e3
  rw [List.drop_zero] at this
  exact ⟨_, this.trans (congrArg some (Tr.ret_some h2))⟩
def macF (key b : List Int) : List Int := shaF (fillK key 92 ++ all 32 (shaF (fillK key 54 ++ b)))
def macP (key : List Int) (l : List (List Int)) : Bool := decide (key.length ≤ 1000000) && (decide (tot l ≤ 1000000) && decide (l.length ≤ 1000000))
def s29 : CSpec := .slp1 [bs, ls] (fun x => macP x.1 x.2.1) d32 fun x => macF x.1 (List.flatten (α := Int) x.2.1)
theorem fillK_len (key : List Int) (by_ : Int) : (fillK key by_).length = 64 := by
 unfold fillK all xorF
 rw [List.length_take, List.length_drop, List.length_map, keyF_len]
 rfl
theorem all_le (n : Nat) (l : List Int) : (all n l).length ≤ n := by unfold all; rw [List.length_take]; omega
theorem TM_eq {key : List Int} {l : List (List Int)} (hp : macP key l = true) : (TM h0 writeF writeP restP sumH fillK shaP cM1 zP key l).eval = some (.v d32 (macF key l.flatten)) := by
 simp only [macP, Bool.and_eq_true, decide_eq_true_eq] at hp
 obtain ⟨p1, p2, p3⟩ := hp
 have f1 := fillK_len key 54
 have f2 := fillK_len key 92
 have hw : ∀ x, writeF x h0 = hashOf x := fun _ => rfl
 have hz : zP l (hashOf (fillK key 54)) = hashOf (fillK key 54 ++ l.flatten) := zP_hash l _ (by omega)
 have ha := all_le 32 (shaF (fillK key 54 ++ l.flatten))
 have hch : writeF (all 32 (shaF (fillK key 54 ++ l.flatten))) (hashOf (fillK key 92)) = hashOf (fillK key 92 ++ all 32 (shaF (fillK key 54 ++ l.flatten))) := write_chain (by omega)
 have k1 : shaP key = true := decide_eq_true (by omega)
 have k2 : ∀ by_, writeP (fillK key by_) h0 = true := fun by_ => decide_eq_true (by have := fillK_len key by_; show 0 + _ ≤ _; omega)
 have k3 : cM1 l (l.length : Int) 0 (hashOf (fillK key 54)) = true := by
  have := hash_rest (fillK key 54)
  simp only [cM1, Bool.and_eq_true, decide_eq_true_eq, true_and]
  omega
 have k4 : writeP (all 32 (shaF (fillK key 54 ++ l.flatten))) (hashOf (fillK key 92)) = true := decide_eq_true (by have := hash_rest (fillK key 92); omega)
 unfold TM
 simp only [hw, hz]
 rw [chk_eval k1, chk_eval (k2 54), chk_eval k3, chk_eval (hash_restP _), chk_eval k1, chk_eval (k2 92), ← shaF_hash, chk_eval k4, hch, chk_eval (hash_restP _), ← shaF_hash]
 rfl
theorem ok29 : CSound Try.prog 86 s29 ∧ CLocal s29 :=
 slpE1 (L := LM cM1 zP) cM_sound Try.func86 (by kernel_rfl) (loops1 (by kernel_rfl) lM) fun xs hx hp => by
  obtain ⟨key, l, u⟩ := xs
  exact (tM h0 writeF writeP restP sumH fillK shaP cM1 zP key l).trans (TM_eq hp)
end Go.Proofs.Ytaffancdidgkhaa.Mac
end
section
set_option linter.unusedVariables false
set_option maxRecDepth 100000
namespace Go.Proofs.Ytaffancdidgkhaa.Mac
open Go Vse Go.Proofs Gen
open Sha hiding wb wu getD_cons
abbrev Mc := List Int → List (List Int) → List Int
abbrev Pc := List Int → List (List Int) → Bool
def cN (p : Pc) (M : Mc) : List (Nat × CSpec) := [(86, .slp1 [bs, ls] (fun x => p x.1 x.2.1) d32 fun x => M x.1 x.2.1)]
abbrev nE : PSpec := ⟨[bs, .str, i64], [bt, i64], [], [], []⟩
noncomputable def bE : Code := loopAt Try.f116 0
def SE : RSpec := ⟨[0, 1, 2, 8, 9, 10], 40, [bs, .str, i64, .vc 0 0, bt, u8], [.vec 0 u8], [], [.slot 8 u8], fun _ => ([2, 8], [i64, .vc 0 0], [.vec 0 u8])⟩
def GE (p : Pc) (M : Mc) (key : List Int) (s : ByteArray) (many : Int) (last : List Int) (n : Int) (out : List Int) : Tr SE.End :=
 let d : List Int := all 32 (M key [last, strBytes s, [n]])
 .ite (decide ((out.length : Int) < many)) (.chk (p key [last, strBytes s, [n]]) (.chk (Vse.room (out.length + d.length) 1) (.ret (.inl ((key, s, many, (), d, wb (n + 1), ()), (out ++ d, ()))))))
  (.ret (.inr (.exit 0, encS [2, 8] [i64, .vc 0 0] [.vec 0 u8] 40 (many, (), ()) (out, ()))))
theorem rE (p : Pc) (M : Mc) (key : List Int) (s : ByteArray) (many : Int) (last : List Int) (n : Int) (out : List Int) :
  (SE.round (bodyK Try.prog (ctx (cN p M)) L0 bE) (key, s, many, (), last, n, ()) (out, ())).eval = (GE p M key s many last n out).eval := by kernel_rfl
def FE (c : List Int → ByteArray → Int → List Int → Int → List Int → Bool) (X : List Int → ByteArray → Int → List Int) (xs : HL SE.Ts) (hs : HD SE.Es) : Tr (Ex × St) :=
 .chk (c xs.1 xs.2.1 xs.2.2.1 xs.2.2.2.2.1 xs.2.2.2.2.2.1 hs.1) (.ret (.exit 0, encS [2, 8] [i64, .vc 0 0] [.vec 0 u8] 40 (xs.2.2.1, (), ()) (X xs.1 xs.2.1 xs.2.2.1, ())))
def LE (c : List Int → ByteArray → Int → List Int → Int → List Int → Bool) (X : List Int → ByteArray → Int → List Int) : Loops := fun j st => if j = 5 then SE.fn (FE c X) st else .fail
def TE (c : List Int → ByteArray → Int → List Int → Int → List Int → Bool) (X : List Int → ByteArray → Int → List Int) (key : List Int) (s : ByteArray) (many : Int) : Tr nE.Out :=
 let bad : Tr nE.Out := .ret (([], 1, ()), ())
 let out : List Int := X key s many
 .ite (decide (many < 0)) bad (.ite (decide (many > 8160)) bad (.chk (c key s many [] 1 []) (.chk (decide ((0 : Int) ≤ 0) && (decide (0 ≤ many) && (decide (many = many) && decide (many ≤ (out.length : Int))))) (.ret (((out.take many.toNat).drop (0 : Int).toNat, 0, ()), ())))))
theorem tE (p : Pc) (M : Mc) (c : List Int → ByteArray → Int → List Int → Int → List Int → Bool) (X : List Int → ByteArray → Int → List Int) (key : List Int) (s : ByteArray) (many : Int) :
  (fnP Try.prog (ctx (cN p M)) (LE c X) nE Try.f116 (key, s, many, ()) ()).eval = (TE c X key s many).eval := by kernel_rfl
noncomputable def bQ : Code := loopAt Try.f91 0
def SQ : RSpec := ⟨[1, 5, 13, 14, 15], 31, [bs, u8, bs, i64, i64], [], [], [], fun _ => ([5], [u8], [])⟩
def GQ (b : List Int) (u : Int) (a : List Int) (n i : Int) : Tr SQ.End :=
 .ite (decide (i < n)) (.chk (inArr i a.length) (.chk (inArr i b.length) (.ret (.inl ((b, orI .u8 u (xorI .u8 (a.getD i.toNat 0) (b.getD i.toNat 0)), a, n, w (i + 1), ()), ())))))
  (.ret (.inr (.exit 0, encS [5] [u8] [] 31 (u, ()) ())))
theorem rQ (b : List Int) (u : Int) (a : List Int) (n i : Int) : (SQ.round (bodyK Try.prog (ctx []) L0 bQ) (b, u, a, n, i, ()) ()).eval = (GQ b u a n i).eval := by kernel_rfl
def FQ (c : List Int → Int → List Int → Int → Int → Bool) (X : List Int → List Int → Int) (xs : HL SQ.Ts) (hs : HD SQ.Es) : Tr (Ex × St) :=
 .chk (c xs.1 xs.2.1 xs.2.2.1 xs.2.2.2.1 xs.2.2.2.2.1) (.ret (.exit 0, encS [5] [u8] [] 31 (X xs.2.2.1 xs.1, ()) ()))
def LQ (c : List Int → Int → List Int → Int → Int → Bool) (X : List Int → List Int → Int) : Loops := fun j st => if j = 5 then SQ.fn (FQ c X) st else .fail
def TQ (c : List Int → Int → List Int → Int → Int → Bool) (X : List Int → List Int → Int) (a b : List Int) : Tr AV :=
 .ite ((a.length : Int) != (b.length : Int)) (.ret (.v .bool false)) (.chk (c b 0 a (a.length : Int) 0) (.ret (.v .bool (X a b == 0))))
theorem tQ (c : List Int → Int → List Int → Int → Int → Bool) (X : List Int → List Int → Int) (a b : List Int) :
  nrm (fnS Try.prog (ctx []) (LQ c X) [.bool] Try.f91 (mkArgs [bs, bs] (a, b, ()))) = (TQ c X a b).eval := by kernel_rfl
end Go.Proofs.Ytaffancdidgkhaa.Mac
end
section
set_option linter.unusedVariables false
set_option maxRecDepth 100000
namespace Go.Proofs.Ytaffancdidgkhaa.Mac
open Go Vse Go.Proofs Gen
open Sha hiding wb wu getD_cons
def cR (R : List Int → List Int) (p : List Int → Bool) : List (Nat × CSpec) := [(125, .slp1 [bs] (fun x => p x.1) d32 fun x => R x.1)]
noncomputable def bX : Code := loopAt Try.f126 0
def SX : RSpec := ⟨[0, 1, 6, 7], 36, [bs, u8, .vc 0 0, i64], [.vec 0 u8], [], [.slot 6 u8], fun _ => ([6], [.vc 0 0], [.vec 0 u8])⟩
def GX (key : List Int) (by_ i : Int) (out : List Int) : Tr SX.End :=
 .ite (decide (i < 64)) (.ite (decide (i < (key.length : Int)))
   (.chk (inArr i key.length) (.chk (Vse.room (out.length + [xorI .u8 (key.getD i.toNat 0) by_].length) 1) (.ret (.inl ((key, by_, (), w (i + 1), ()), (out ++ [xorI .u8 (key.getD i.toNat 0) by_], ()))))))
   (.chk (Vse.room (out.length + [by_].length) 1) (.ret (.inl ((key, by_, (), w (i + 1), ()), (out ++ [by_], ()))))))
  (.ret (.inr (.exit 0, encS [6] [.vc 0 0] [.vec 0 u8] 36 ((), ()) (out, ()))))
theorem rX (R : List Int → List Int) (p : List Int → Bool) (key : List Int) (by_ i : Int) (out : List Int) : (SX.round (bodyK Try.prog (ctx (cR R p)) L0 bX) (key, by_, (), i, ()) (out, ())).eval = (GX key by_ i out).eval := by kernel_rfl
def SX2 : RSpec := ⟨[0, 1, 6, 7], 36, [bs, u8, .vc 1 0, i64], [.dead, .vec 0 u8], [.box d32], [.slot 6 u8], fun _ => ([6], [.vc 1 0], [.dead, .vec 0 u8])⟩
def GX2 (key : List Int) (by_ i : Int) (out : List Int) : Tr SX2.End :=
 .ite (decide (i < 64)) (.ite (decide (i < (key.length : Int)))
   (.chk (inArr i key.length) (.chk (Vse.room (out.length + [xorI .u8 (key.getD i.toNat 0) by_].length) 1) (.ret (.inl ((key, by_, (), w (i + 1), ()), (out ++ [xorI .u8 (key.getD i.toNat 0) by_], ()))))))
   (.chk (Vse.room (out.length + [by_].length) 1) (.ret (.inl ((key, by_, (), w (i + 1), ()), (out ++ [by_], ()))))))
  (.ret (.inr (.exit 0, encS [6] [.vc 1 0] [.dead, .vec 0 u8] 36 ((), ()) (out, ()))))
theorem rX2 (R : List Int → List Int) (p : List Int → Bool) (key : List Int) (by_ i : Int) (out : List Int) : (SX2.round (bodyK Try.prog (ctx (cR R p)) L0 bX) (key, by_, (), i, ()) (out, ())).eval = (GX2 key by_ i out).eval := by kernel_rfl
def FX (c : List Int → Int → List Int → Bool) (X : List Int → Int → List Int) (xs : HL SX.Ts) (hs : HD SX.Es) : Tr (Ex × St) :=
 .chk (c xs.1 xs.2.2.2.1 hs.1) (.ret (.exit 0, encS [6] [.vc 0 0] [.vec 0 u8] 36 ((), ()) (X xs.1 xs.2.1, ())))
def FX2 (c : List Int → Int → List Int → Bool) (X : List Int → Int → List Int) (xs : HL SX2.Ts) (hs : HD SX2.Es) : Tr (Ex × St) :=
 .chk (c xs.1 xs.2.2.2.1 hs.1) (.ret (.exit 0, encS [6] [.vc 1 0] [.dead, .vec 0 u8] 36 ((), ()) (X xs.1 xs.2.1, ())))
def LX (c : List Int → Int → List Int → Bool) (X : List Int → Int → List Int) : Loops := fun j st => if j = 6 then orL (fun st => heapIs SX.E0 st.heap) (SX.fn (FX c X)) (SX2.fn (FX2 c X)) st else .fail
abbrev nX : PSpec := ⟨[bs, u8], [.vc 0 0], [], [.vec 0 u8], []⟩
def TX (R : List Int → List Int) (p : List Int → Bool) (c : List Int → Int → List Int → Bool) (X : List Int → Int → List Int) (key : List Int) (by_ : Int) : Tr nX.Out :=
 let go (k : List Int) : Tr nX.Out := .chk (c k 0 []) (.ret (((), ()), (X k by_, ())))
 .ite (decide ((key.length : Int) > 64)) (.chk (p key) (go (all 32 (R key)))) (go key)
theorem tX (R : List Int → List Int) (p : List Int → Bool) (c : List Int → Int → List Int → Bool) (X : List Int → Int → List Int) (key : List Int) (by_ : Int) :
  (fnP Try.prog (ctx (cR R p)) (LX c X) nX Try.f126 (key, by_, ()) ()).eval = (TX R p c X key by_).eval := by kernel_rfl
def cRM (X : List Int → Int → List Int) (px : List Int → Bool) (R : List Int → List Int) (p : List Int → Bool) : List (Nat × CSpec) :=
 [(126, .pos nX (fun xs _ => px xs.1) fun xs _ => (((), ()), (X xs.1 xs.2.1, ()))), (125, .slp1 [bs] (fun x => p x.1) d32 fun x => R x.1)]
def T33 (X : List Int → Int → List Int) (px : List Int → Bool) (R : List Int → List Int) (p : List Int → Bool) (key b : List Int) : Tr AV :=
 let d : List Int := all 32 (R (X key 54 ++ b))
 .chk (px key) (.chk (Vse.room ((X key 54).length + b.length) 1) (.chk (p (X key 54 ++ b)) (.chk (px key) (.chk (Vse.room ((X key 92).length + d.length) 1) (.chk (p (X key 92 ++ d)) (.ret (.v d32 (R (X key 92 ++ d)))))))))
theorem t33 (X : List Int → Int → List Int) (px : List Int → Bool) (R : List Int → List Int) (p : List Int → Bool) (key b : List Int) :
  nrm (fnS Try.prog (ctx (cRM X px R p)) L0 [d32] Try.f89 (mkArgs [bs, bs] (key, b, ()))) = (T33 X px R p key b).eval := by kernel_rfl
def cRE (p : List Int → List Int → Bool) (M : List Int → List Int → List Int) : List (Nat × CSpec) := [(89, .slp1 [bs, bs] (fun x => p x.1 x.2.1) d32 fun x => M x.1 x.2.1)]
noncomputable def bY : Code := loopAt Try.f122 0
def SY : RSpec := ⟨[0, 1, 2, 8, 9, 10], 44, [bs, .str, i64, .vc 0 0, .vc 1 0, i64], [.vec 0 u8, .vec 0 u8], [], [.slot 8 u8, .slot 9 u8], fun _ => ([2, 8], [i64, .vc 0 0], [.vec 0 u8])⟩
def GY (p : List Int → List Int → Bool) (M : List Int → List Int → List Int) (key : List Int) (s : ByteArray) (many n : Int) (out last : List Int) : Tr SY.End :=
 let m1 : List Int := [] ++ last
 let m2 : List Int := m1 ++ strBytes s
 let m : List Int := m2 ++ [wb n]
 let d : List Int := [] ++ all 32 (M key m)
 .ite (decide ((out.length : Int) < many)) (.chk (Vse.room (([] : List Int).length + last.length) 1) (.chk (Vse.room (m1.length + (strBytes s).length) 1) (.chk (Vse.room (m2.length + [wb n].length) 1) (.chk (p key m)
   (.chk (Vse.room (([] : List Int).length + (all 32 (M key m)).length) 1) (.chk (Vse.room (out.length + d.length) 1) (.ret (.inl ((key, s, many, (), (), w (n + 1), ()), (out ++ d, d, ()))))))))))
  (.ret (.inr (.exit 0, encS [2, 8] [i64, .vc 0 0] [.vec 0 u8] 44 (many, (), ()) (out, ()))))
theorem rY (p : List Int → List Int → Bool) (M : List Int → List Int → List Int) (key : List Int) (s : ByteArray) (many n : Int) (out last : List Int) :
  (SY.round (bodyK Try.prog (ctx (cRE p M)) L0 bY) (key, s, many, (), (), n, ()) (out, last, ())).eval = (GY p M key s many n out last).eval := by kernel_rfl
def FY (c : List Int → ByteArray → Int → Int → List Int → List Int → Bool) (X : List Int → ByteArray → Int → List Int) (xs : HL SY.Ts) (hs : HD SY.Es) : Tr (Ex × St) :=
 .chk (c xs.1 xs.2.1 xs.2.2.1 xs.2.2.2.2.2.1 hs.1 hs.2.1) (.ret (.exit 0, encS [2, 8] [i64, .vc 0 0] [.vec 0 u8] 44 (xs.2.2.1, (), ()) (X xs.1 xs.2.1 xs.2.2.1, ())))
def LY (c : List Int → ByteArray → Int → Int → List Int → List Int → Bool) (X : List Int → ByteArray → Int → List Int) : Loops := fun j st => if j = 6 then SY.fn (FY c X) st else .fail
def TY (c : List Int → ByteArray → Int → Int → List Int → List Int → Bool) (X : List Int → ByteArray → Int → List Int) (key : List Int) (s : ByteArray) (many : Int) : Tr nE.Out :=
 let bad : Tr nE.Out := .ret (([], 1, ()), ())
 let out : List Int := X key s many
 .ite (decide (many < 0)) bad (.ite (decide (many > 8160)) bad (.chk (c key s many 1 [] []) (.chk (decide (0 ≤ many) && decide (many ≤ (out.length : Int))) (.ret ((out.take many.toNat, 0, ()), ())))))
theorem tY (p : List Int → List Int → Bool) (M : List Int → List Int → List Int) (c : List Int → ByteArray → Int → Int → List Int → List Int → Bool) (X : List Int → ByteArray → Int → List Int) (key : List Int) (s : ByteArray) (many : Int) :
  (fnP Try.prog (ctx (cRE p M)) (LY c X) nE Try.f122 (key, s, many, ()) ()).eval = (TY c X key s many).eval := by kernel_rfl
end Go.Proofs.Ytaffancdidgkhaa.Mac
end
section
set_option linter.unusedVariables false
set_option maxRecDepth 100000
namespace Go.Proofs.Ytaffancdidgkhaa.Mac
open Go Vse Go.Proofs Gen
open Sha hiding wb wu getD_cons
theorem outL_len (s : List Int) : ∀ (m i : Nat) (q : List Int), (outL s i m q).length = q.length
 | 0, i, q => rfl
 | m + 1, i, q => by rw [outL, outL_len s m, List.length_set]
theorem outF_len (s q : List Int) : (outF s q).length = q.length := outL_len s 32 0 q
theorem shaF_len (b : List Int) : (shaF b).length = 32 := by
 rw [shaF_hash]
 unfold sumH
 rw [outF_len]
 rfl
theorem macF_len (key b : List Int) : (macF key b).length = 32 := shaF_len _
theorem all_id {n : Nat} {l : List Int} (h : l.length = n) : all n l = l := by
 subst h
 unfold all
 rw [List.drop_zero, List.take_length]
abbrev macL : Mc := fun k l => macF k (List.flatten l)
abbrev CN : Ctx := ctx (cN macP macL)
theorem cN_sound : CtxSound Try.prog CN ∧ CtxLocal CN := ctx_sound ⟨ok29, trivial⟩
def oneP (key b : List Int) : Bool := decide (key.length ≤ 1000000) && decide (b.length ≤ 1000000)
def blkE (key : List Int) (s : ByteArray) (last : List Int) (n : Int) : List Int := macF key [last, strBytes s, [n]].flatten
def expL (key : List Int) (s : ByteArray) (many : Int) : Nat → List Int → Int → List Int → List Int
 | 0, _, _, out => out
 | f + 1, last, n, out => if (out.length : Int) < many then expL key s many f (blkE key s last n) (wb (n + 1)) (out ++ blkE key s last n) else out
def expX (key : List Int) (s : ByteArray) (many : Int) : List Int := expL key s many 255 [] 1 []
def cE1 (key : List Int) (s : ByteArray) (many : Int) (last : List Int) (n : Int) (out : List Int) : Bool :=
 decide (last = []) && (decide (n = 1) && (decide (out = []) && (decide (many ≤ 8160) && (decide (key.length ≤ 1000000) && decide (s.size ≤ 100000)))))
theorem mE {key : List Int} {s : ByteArray} (hk : key.length ≤ 1000000) (hs : s.size ≤ 100000) (many : Int) (hm : many ≤ 8160) : ∀ (f : Nat) (last : List Int) (n : Int) (out : List Int), many ≤ (out.length : Int) + 32 * f → last.length ≤ 32 →
  SE.many (bodyK Try.prog CN L0 bE) (f + 1) (key, s, many, (), last, n, ()) (out, ()) = some (.exit 0, encS [2, 8] [i64, .vc 0 0] [.vec 0 u8] 40 (many, (), ()) (expL key s many f last n out, ()))
 | 0, last, n, out, h, hl => by
  refine rmany_inr ((rE macP macL key s many last n out).trans ?_) 0
  unfold GE
  rw [ite_f (decide_eq_false (by omega))]
  rfl
 | f + 1, last, n, out, h, hl => by
  by_cases hc : (out.length : Int) < many
  ·have hb : all 32 (macL key [last, strBytes s, [n]]) = blkE key s last n := all_id (macF_len _ _)
   have hbl : (blkE key s last n).length = 32 := macF_len _ _
   refine (rmany_inl (d := ((key, s, many, (), blkE key s last n, wb (n + 1), ()), (out ++ blkE key s last n, ()))) ((rE macP macL key s many last n out).trans ?_) (f + 1)).trans
    ((mE hk hs many hm f (blkE key s last n) (wb (n + 1)) (out ++ blkE key s last n) (by rw [List.length_append, hbl]; omega) (by omega)).trans ?_)
   ·have e1 : macP key [last, strBytes s, [n]] = true := by
     have := strBytes_len s
     simp only [macP, tot, List.map_cons, List.map_nil, List.sum_cons, List.sum_nil, List.length_cons, List.length_nil, Bool.and_eq_true, decide_eq_true_eq]
     omega
    have e2 : Vse.room (out.length + (blkE key s last n).length) 1 = true := by simp only [Vse.room, decide_eq_true_eq]; omega
    unfold GE
    simp only [hb]
    rw [ite_t (decide_eq_true hc), chk_eval e1, chk_eval e2]
    rfl
   ·simp only [expL]
    rw [if_pos hc]
  ·refine rmany_inr ((rE macP macL key s many last n out).trans ?_) (f + 1)
   unfold GE
   rw [ite_f (decide_eq_false hc)]
   simp only [expL]
   rw [if_neg hc]
   rfl
theorem lE : LoopOK Try.prog (LE cE1 expX) bE :=
 rloop_ok (L := LE cE1 expX) (L' := L0) cN_sound (loopsOK_of (by kernel_rfl)) SE (F := FE cE1 expX) (i := 5) (by kernel_rfl) (fun _ => rfl) fun xs hs r h => by
  obtain ⟨key, s, many, u1, last, n, u2⟩ := xs
  obtain ⟨out, u3⟩ := hs
  obtain ⟨h1, h2⟩ := Tr.chk_some h
  simp only [cE1, Bool.and_eq_true, decide_eq_true_eq] at h1
  obtain ⟨e1, e2, e3, e4, e5, e6⟩ := h1
  subst e1; subst e2; subst e3
  exact ⟨_, (mE e5 e6 many e4 255 [] 1 [] (by rw [List.length_nil]; omega) (by simp)).trans (congrArg some (Tr.ret_some h2))⟩
theorem expL_len (key : List Int) (s : ByteArray) (many : Int) : ∀ (f : Nat) (last : List Int) (n : Int) (out : List Int), many ≤ (out.length : Int) + 32 * f → many ≤ ((expL key s many f last n out).length : Int)
 | 0, last, n, out, h => by simp only [expL]; omega
 | f + 1, last, n, out, h => by
  simp only [expL]
  by_cases hc : (out.length : Int) < many
  ·have hbl : (blkE key s last n).length = 32 := macF_len _ _
   rw [if_pos hc]
   exact expL_len key s many f _ _ _ (by rw [List.length_append, hbl]; omega)
  ·rw [if_neg hc]; omega
def expP (key : List Int) (s : ByteArray) : Bool := decide (key.length ≤ 1000000) && decide (s.size ≤ 100000)
def expF (key : List Int) (s : ByteArray) (many : Int) : List Int × Int × Unit := if many < 0 ∨ many > 8160 then ([], 1, ()) else ((expX key s many).take many.toNat, 0, ())
def s30 : CSpec := .pos nE (fun xs _ => expP xs.1 xs.2.1) fun xs _ => (expF xs.1 xs.2.1 xs.2.2.1, ())
theorem TE_eq {key : List Int} {s : ByteArray} (hp : expP key s = true) (many : Int) : (TE cE1 expX key s many).eval = some (expF key s many, ()) := by
 simp only [expP, Bool.and_eq_true, decide_eq_true_eq] at hp
 unfold TE expF
 simp only
 by_cases h1 : many < 0
 ·rw [ite_t (decide_eq_true h1), if_pos (.inl h1)]; rfl
 rw [ite_f (decide_eq_false h1)]
 by_cases h2 : many > 8160
 ·rw [ite_t (decide_eq_true h2), if_pos (.inr h2)]; rfl
 rw [ite_f (decide_eq_false h2), if_neg (by omega)]
 have e1 : cE1 key s many [] 1 [] = true := by
  simp only [cE1, Bool.and_eq_true, decide_eq_true_eq, true_and]
  omega
 have e2 := expL_len key s many 255 [] 1 [] (by rw [List.length_nil]; omega)
 have e3 : (decide ((0 : Int) ≤ 0) && (decide (0 ≤ many) && (decide True && decide (many ≤ ((expX key s many).length : Int))))) = true := by
  simp only [Bool.and_eq_true, decide_eq_true_eq, true_and]
  exact ⟨by omega, by omega, e2⟩
 rw [chk_eval e1, chk_eval e3]
 show some ((((expX key s many).take many.toNat).drop 0, (0 : Int), ()), ()) = _
 rw [List.drop_zero]
theorem ok30 : CSound Try.prog 116 s30 ∧ CLocal s30 :=
 pos_sound (L := LE cE1 expX) cN_sound Try.func116 (by kernel_rfl) (loops1 (by kernel_rfl) lE) fun xs hs _ _ hp => by
  obtain ⟨key, s, many, u⟩ := xs
  exact (tE macP macL cE1 expX key s many).trans (TE_eq hp many)
def orF : List Int → List Int → Int → Int
 | x :: a, y :: b, u => orF a b (orI .u8 u (xorI .u8 x y))
 | _, _, u => u
def cQ (b : List Int) (u : Int) (a : List Int) (n i : Int) : Bool := decide (u = 0) && (decide (n = (a.length : Int)) && (decide (i = 0) && (decide (a.length = b.length) && decide (a.length ≤ 9223372036854775807))))
def orX (a b : List Int) : Int := orF a b 0
theorem mQ (a b : List Int) (hab : a.length = b.length) (hm : a.length ≤ 9223372036854775807) : ∀ (m k : Nat) (u : Int), k + m = a.length →
  SQ.many (bodyK Try.prog (ctx []) L0 bQ) (m + 1) (b, u, a, (a.length : Int), (k : Int), ()) () = some (.exit 0, encS [5] [u8] [] 31 (orF (a.drop k) (b.drop k) u, ()) ())
 | 0, k, u, h => by
  refine rmany_inr ((rQ b u a a.length k).trans ?_) 0
  unfold GQ
  rw [ite_f (decide_eq_false (by omega)), List.drop_eq_nil_of_le (by omega : a.length ≤ k)]
  rfl
 | m + 1, k, u, h => by
  have h1 : k < a.length := by omega
  have h2 : k < b.length := by omega
  have w0 : w ((k : Int) + 1) = ((k + 1 : Nat) : Int) := (w_id (by omega) (by omega)).trans (by omega)
  have g1 : a.getD k 0 = a[k] := Gen.getD_cons h1 0
  have g2 : b.getD k 0 = b[k] := Gen.getD_cons h2 0
  refine (rmany_inl (d := ((b, orI .u8 u (xorI .u8 a[k] b[k]), a, (a.length : Int), ((k + 1 : Nat) : Int), ()), ())) ((rQ b u a a.length k).trans ?_) (m + 1)).trans ((mQ a b hab hm m (k + 1) _ (by omega)).trans ?_)
  ·unfold GQ
   rw [ite_t (decide_eq_true (show (k : Int) < (a.length : Int) by omega)), chk_eval (inArr_nat h1), chk_eval (inArr_nat h2), Int.toNat_natCast, g1, g2, w0]
   rfl
  ·rw [List.drop_eq_getElem_cons h1, List.drop_eq_getElem_cons h2]
   rfl
theorem lQ : LoopOK Try.prog (LQ cQ orX) bQ :=
 rloop_ok (L := LQ cQ orX) (L' := L0) nil_sound (loopsOK_of (by kernel_rfl)) SQ (F := FQ cQ orX) (i := 5) (by kernel_rfl) (fun _ => rfl) fun xs hs r h => by
  obtain ⟨b, u, a, n, i, u1⟩ := xs
  obtain ⟨h1, h2⟩ := Tr.chk_some h
  simp only [cQ, Bool.and_eq_true, decide_eq_true_eq] at h1
  obtain ⟨e1, e2, e3, e4, e5⟩ := h1
  have e2 : n = ((List.length (α := Int) a : Nat) : Int) := e2
  have e3 : i = ((0 : Nat) : Int) := e3
  subst e1; subst e2; subst e3
  exact ⟨_, (mQ a b e4 e5 (List.length (α := Int) a) 0 0 (by omega)).trans (congrArg some (Tr.ret_some h2))⟩
def eqF (a b : List Int) : Bool := bif (a.length : Int) != (b.length : Int) then false else orX a b == 0
def s31 : CSpec := .slp1 [bs, bs] (fun _ => true) .bool fun x => eqF x.1 x.2.1
theorem ok31 : CSound Try.prog 91 s31 ∧ CLocal s31 :=
 slpE1 (L := LQ cQ orX) nil_sound Try.func91 (by kernel_rfl) (loops1 (by kernel_rfl) lQ) fun xs hx hp => by
  obtain ⟨a, b, u⟩ := xs
  have hl : List.length (α := Int) a ≤ 9223372036854775807 := hx.1.1
  refine (tQ cQ orX a b).trans ?_
  have : (TQ cQ orX a b).eval = some (.v .bool (eqF a b)) := by
   unfold TQ eqF
   by_cases h : List.length (α := Int) a = List.length (α := Int) b
   ·have e1 : ((List.length (α := Int) a : Int) != (List.length (α := Int) b : Int)) = false := by simp [h]
    have e2 : cQ b 0 a (List.length (α := Int) a : Int) 0 = true := by
     simp only [cQ, Bool.and_eq_true, decide_eq_true_eq, true_and]
     exact ⟨h, hl⟩
    rw [ite_f e1, chk_eval e2, e1]
    rfl
   ·have e1 : ((List.length (α := Int) a : Int) != (List.length (α := Int) b : Int)) = true := by simp; omega
    rw [ite_t e1, e1]
    rfl
  exact this
end Go.Proofs.Ytaffancdidgkhaa.Mac
end
section
set_option linter.unusedVariables false
set_option maxRecDepth 100000
namespace Go.Proofs.Ytaffancdidgkhaa.Mac
open Go Vse Go.Proofs Gen
open Sha hiding wb wu getD_cons
theorem cR_sound : CtxSound Try.prog (ctx (cR rsumF filledP)) ∧ CtxLocal (ctx (cR rsumF filledP)) := ctx_sound ⟨ok17, trivial⟩
def xEl (k : List Int) (by_ : Int) (i : Nat) : Int := if i < k.length then xorI .u8 (k.getD i 0) by_ else by_
def xL (k : List Int) (by_ : Int) (i : Nat) : List Int := (List.range i).map (xEl k by_)
def xX (k : List Int) (by_ : Int) : List Int := xL k by_ 64
theorem xL_len (k : List Int) (by_ : Int) (i : Nat) : (xL k by_ i).length = i := by unfold xL; rw [List.length_map, List.length_range]
theorem xL_step (k : List Int) (by_ : Int) (i : Nat) : xL k by_ (i + 1) = xL k by_ i ++ [xEl k by_ i] := by unfold xL; rw [List.range_succ, List.map_append]; rfl
def cX (k : List Int) (i : Int) (out : List Int) : Bool := decide (i = 0) && decide (out = [])
theorem mX (key : List Int) (by_ : Int) : ∀ (m i : Nat), i + m = 64 →
  SX.many (bodyK Try.prog (ctx (cR rsumF filledP)) L0 bX) (m + 1) (key, by_, (), (i : Int), ()) (xL key by_ i, ()) = some (.exit 0, encS [6] [.vc 0 0] [.vec 0 u8] 36 ((), ()) (xX key by_, ()))
 | 0, i, h => by
  refine rmany_inr ((rX rsumF filledP key by_ i _).trans ?_) 0
  have : i = 64 := by omega
  subst this
  unfold GX
  rw [ite_f (decide_eq_false (by omega))]
  rfl
 | m + 1, i, h => by
  refine (rmany_inl (d := ((key, by_, (), ((i + 1 : Nat) : Int), ()), (xL key by_ (i + 1), ()))) ((rX rsumF filledP key by_ i _).trans ?_) (m + 1)).trans (mX key by_ m (i + 1) (by omega))
  have w0 : w ((i : Int) + 1) = ((i + 1 : Nat) : Int) := (w_id (by omega) (by omega)).trans (by omega)
  have e1 : ∀ x : Int, Vse.room ((xL key by_ i).length + [x].length) 1 = true := fun x => by simp only [Vse.room, xL_len, decide_eq_true_eq, List.length_singleton]; omega
  unfold GX
  rw [ite_t (decide_eq_true (show (i : Int) < 64 by omega)), w0]
  by_cases hi : i < key.length
  ·have hx : xEl key by_ i = xorI .u8 (key.getD i 0) by_ := if_pos hi
   rw [ite_t (decide_eq_true (show (i : Int) < (key.length : Int) by omega)), chk_eval (inArr_nat hi), chk_eval (e1 _), Int.toNat_natCast, xL_step, hx]
   rfl
  ·have hx : xEl key by_ i = by_ := if_neg hi
   rw [ite_f (decide_eq_false (show ¬ (i : Int) < (key.length : Int) by omega)), chk_eval (e1 _), xL_step, hx]
   rfl
theorem mX2 (key : List Int) (by_ : Int) : ∀ (m i : Nat), i + m = 64 →
  SX2.many (bodyK Try.prog (ctx (cR rsumF filledP)) L0 bX) (m + 1) (key, by_, (), (i : Int), ()) (xL key by_ i, ()) = some (.exit 0, encS [6] [.vc 1 0] [.dead, .vec 0 u8] 36 ((), ()) (xX key by_, ()))
 | 0, i, h => by
  refine rmany_inr ((rX2 rsumF filledP key by_ i _).trans ?_) 0
  have : i = 64 := by omega
  subst this
  unfold GX2
  rw [ite_f (decide_eq_false (by omega))]
  rfl
 | m + 1, i, h => by
  refine (rmany_inl (d := ((key, by_, (), ((i + 1 : Nat) : Int), ()), (xL key by_ (i + 1), ()))) ((rX2 rsumF filledP key by_ i _).trans ?_) (m + 1)).trans (mX2 key by_ m (i + 1) (by omega))
  have w0 : w ((i : Int) + 1) = ((i + 1 : Nat) : Int) := (w_id (by omega) (by omega)).trans (by omega)
  have e1 : ∀ x : Int, Vse.room ((xL key by_ i).length + [x].length) 1 = true := fun x => by simp only [Vse.room, xL_len, decide_eq_true_eq, List.length_singleton]; omega
  unfold GX2
  rw [ite_t (decide_eq_true (show (i : Int) < 64 by omega)), w0]
  by_cases hi : i < key.length
  ·have hx : xEl key by_ i = xorI .u8 (key.getD i 0) by_ := if_pos hi
   rw [ite_t (decide_eq_true (show (i : Int) < (key.length : Int) by omega)), chk_eval (inArr_nat hi), chk_eval (e1 _), Int.toNat_natCast, xL_step, hx]
   rfl
  ·have hx : xEl key by_ i = by_ := if_neg hi
   rw [ite_f (decide_eq_false (show ¬ (i : Int) < (key.length : Int) by omega)), chk_eval (e1 _), xL_step, hx]
   rfl
theorem lX1 : LoopOK Try.prog (fun j st => if j = 6 then SX.fn (FX cX xX) st else .fail) bX :=
 rloop_ok (L := fun j st => if j = 6 then SX.fn (FX cX xX) st else .fail) (L' := L0) cR_sound (loopsOK_of (by kernel_rfl)) SX (F := FX cX xX) (i := 6) (by kernel_rfl) (fun _ => rfl) fun xs hs r h => by
  obtain ⟨key, by_, u1, i, u2⟩ := xs
  obtain ⟨q, u3⟩ := hs
  obtain ⟨h1, h2⟩ := Tr.chk_some h
  simp only [cX, Bool.and_eq_true, decide_eq_true_eq] at h1
  obtain ⟨e1, e2⟩ := h1
  have e1 : i = ((0 : Nat) : Int) := e1
  subst e1; subst e2
  exact ⟨_, (mX key by_ 64 0 (by omega)).trans (congrArg some (Tr.ret_some h2))⟩
theorem lX2 : LoopOK Try.prog (fun j st => if j = 6 then SX2.fn (FX2 cX xX) st else .fail) bX :=
 rloop_ok (L := fun j st => if j = 6 then SX2.fn (FX2 cX xX) st else .fail) (L' := L0) cR_sound (loopsOK_of (by kernel_rfl)) SX2 (F := FX2 cX xX) (i := 6) (by kernel_rfl) (fun _ => rfl) fun xs hs r h => by
  obtain ⟨key, by_, u1, i, u2⟩ := xs
  obtain ⟨q, u3⟩ := hs
  obtain ⟨h1, h2⟩ := Tr.chk_some h
  simp only [cX, Bool.and_eq_true, decide_eq_true_eq] at h1
  obtain ⟨e1, e2⟩ := h1
  have e1 : i = ((0 : Nat) : Int) := e1
  subst e1; subst e2
  exact ⟨_, (mX2 key by_ 64 0 (by omega)).trans (congrArg some (Tr.ret_some h2))⟩
theorem lX : LoopOK Try.prog (LX cX xX) bX := loopOK_or (i := 6) (by kernel_rfl) (fun _ => rfl) (fun _ => rfl) (fun _ => rfl) lX1 lX2
def keyR (key : List Int) : List Int := if (key.length : Int) > 64 then all 32 (rsumF key) else key
def xorK (key : List Int) (by_ : Int) : List Int := xX (keyR key) by_
theorem xorK_len (key : List Int) (by_ : Int) : (xorK key by_).length = 64 := xL_len _ _ _
def s46 : CSpec := .pos nX (fun xs _ => filledP xs.1) fun xs _ => (((), ()), (xorK xs.1 xs.2.1, ()))
theorem TX_eq (key : List Int) (by_ : Int) (hp : filledP key = true) : (TX rsumF filledP cX xX key by_).eval = some (((), ()), (xorK key by_, ())) := by
 have hc : ∀ k : List Int, cX k 0 [] = true := fun k => rfl
 unfold TX xorK keyR
 by_cases h : (key.length : Int) > 64
 ·rw [ite_t (decide_eq_true h), chk_eval hp, if_pos h]
  simp only
  rw [chk_eval (hc _)]
  rfl
 ·rw [ite_f (decide_eq_false h), if_neg h]
  simp only
  rw [chk_eval (hc _)]
  rfl
theorem ok46 : CSound Try.prog 126 s46 ∧ CLocal s46 :=
 pos_sound (L := LX cX xX) cR_sound Try.func126 (by kernel_rfl) (loops1 (by kernel_rfl) lX) fun xs hs _ _ hp => by
  obtain ⟨key, by_, u⟩ := xs
  exact (tX rsumF filledP cX xX key by_).trans (TX_eq key by_ hp)
theorem cRM_sound : CtxSound Try.prog (ctx (cRM xorK filledP rsumF filledP)) ∧ CtxLocal (ctx (cRM xorK filledP rsumF filledP)) := ctx_sound ⟨ok46, ok17, trivial⟩
def rmacF (key b : List Int) : List Int := rsumF (xorK key 92 ++ all 32 (rsumF (xorK key 54 ++ b)))
def s33 : CSpec := .slp1 [bs, bs] (fun x => oneP x.1 x.2.1) d32 fun x => rmacF x.1 x.2.1
theorem T33_eq {key b : List Int} (hp : oneP key b = true) : (T33 xorK filledP rsumF filledP key b).eval = some (.v d32 (rmacF key b)) := by
 simp only [oneP, Bool.and_eq_true, decide_eq_true_eq] at hp
 have l1 := xorK_len key 54
 have l2 := xorK_len key 92
 have l3 := all_le 32 (rsumF (xorK key 54 ++ b))
 have e1 : filledP key = true := decide_eq_true (by omega)
 have e2 : Vse.room ((xorK key 54).length + b.length) 1 = true := by simp only [Vse.room, decide_eq_true_eq]; omega
 have e3 : filledP (xorK key 54 ++ b) = true := decide_eq_true (by rw [List.length_append]; omega)
 have e4 : Vse.room ((xorK key 92).length + (all 32 (rsumF (xorK key 54 ++ b))).length) 1 = true := by simp only [Vse.room, decide_eq_true_eq]; omega
 have e5 : filledP (xorK key 92 ++ all 32 (rsumF (xorK key 54 ++ b))) = true := decide_eq_true (by rw [List.length_append]; omega)
 unfold T33 rmacF
 simp only
 rw [chk_eval e1, chk_eval e2, chk_eval e3, chk_eval e1, chk_eval e4, chk_eval e5, Tr.eval]
theorem ok33 : CSound Try.prog 89 s33 ∧ CLocal s33 :=
 slpE1 (L := L0) cRM_sound Try.func89 (by kernel_rfl) (noLoopsL (by kernel_rfl)) fun xs hx hp => by
  obtain ⟨key, b, u⟩ := xs
  exact (t33 xorK filledP rsumF filledP key b).trans (T33_eq hp)
theorem cRE_sound : CtxSound Try.prog (ctx (cRE oneP rmacF)) ∧ CtxLocal (ctx (cRE oneP rmacF)) := ctx_sound ⟨ok33, trivial⟩
def blkR (key : List Int) (s : ByteArray) (last : List Int) (n : Int) : List Int := all 32 (rmacF key (((([] : List Int) ++ last) ++ strBytes s) ++ [wb n]))
def expR (key : List Int) (s : ByteArray) (many : Int) : Nat → List Int → Int → List Int → List Int
 | 0, _, _, out => out
 | f + 1, last, n, out => if (out.length : Int) < many then expR key s many f (blkR key s last n) (n + 1) (out ++ blkR key s last n) else out
def expY (key : List Int) (s : ByteArray) (many : Int) : List Int := expR key s many 255 [] 1 []
def cY (key : List Int) (s : ByteArray) (many n : Int) (out last : List Int) : Bool :=
 decide (last = []) && (decide (n = 1) && (decide (out = []) && (decide (many ≤ 8160) && (decide (key.length ≤ 1000000) && decide (s.size ≤ 100000)))))
theorem put8L_len (s : List Int) : ∀ (m i : Nat) (q : List Int), (put8L s i m q).length = q.length
 | 0, i, q => rfl
 | m + 1, i, q => by
  rw [put8L, put8L_len s m]
  unfold put8
  simp only [List.length_set]
theorem rsumF_len (b : List Int) : (rsumF b).length = 32 := by
 unfold rsumF put8F
 rw [put8L_len]
 rfl
theorem blkR_len (key : List Int) (s : ByteArray) (last : List Int) (n : Int) : (blkR key s last n).length = 32 := by
 have h : (rmacF key (((([] : List Int) ++ last) ++ strBytes s) ++ [wb n])).length = 32 := rsumF_len _
 unfold blkR
 rw [all_id h, h]
theorem mY {key : List Int} {s : ByteArray} (hk : key.length ≤ 1000000) (hs : s.size ≤ 100000) (many : Int) (hm : many ≤ 8160) : ∀ (f : Nat) (last : List Int) (n : Int) (out : List Int), many ≤ (out.length : Int) + 32 * f → last.length ≤ 32 → 0 ≤ n → n + f ≤ 1000 →
  SY.many (bodyK Try.prog (ctx (cRE oneP rmacF)) L0 bY) (f + 1) (key, s, many, (), (), n, ()) (out, last, ()) = some (.exit 0, encS [2, 8] [i64, .vc 0 0] [.vec 0 u8] 44 (many, (), ()) (expR key s many f last n out, ()))
 | 0, last, n, out, h, hl, h0, hn => by
  refine rmany_inr ((rY oneP rmacF key s many n out last).trans ?_) 0
  unfold GY
  rw [ite_f (decide_eq_false (by omega))]
  rfl
 | f + 1, last, n, out, h, hl, h0, hn => by
  by_cases hc : (out.length : Int) < many
  ·have hbl := blkR_len key s last n
   refine (rmany_inl (d := ((key, s, many, (), (), n + 1, ()), (out ++ blkR key s last n, blkR key s last n, ()))) ((rY oneP rmacF key s many n out last).trans ?_) (f + 1)).trans
    ((mY hk hs many hm f (blkR key s last n) (n + 1) (out ++ blkR key s last n) (by rw [List.length_append, hbl]; omega) (by omega) (by omega) (by omega)).trans ?_)
   ·have hsl := strBytes_len s
    have e1 : Vse.room (([] : List Int).length + last.length) 1 = true := by simp only [Vse.room, decide_eq_true_eq, List.length_nil]; omega
    have e2 : Vse.room (last.length + (strBytes s).length) 1 = true := by simp only [Vse.room, decide_eq_true_eq]; omega
    have e3 : Vse.room ((last ++ strBytes s).length + [wb n].length) 1 = true := by simp only [Vse.room, decide_eq_true_eq, List.length_append, List.length_singleton]; omega
    have e4 : oneP key ((last ++ strBytes s) ++ [wb n]) = true := by simp only [oneP, Bool.and_eq_true, decide_eq_true_eq, List.length_append, List.length_singleton]; omega
    have hb : all 32 (rmacF key ((last ++ strBytes s) ++ [wb n])) = blkR key s last n := rfl
    have e5 : Vse.room (([] : List Int).length + (blkR key s last n).length) 1 = true := by simp only [Vse.room, decide_eq_true_eq, List.length_nil]; omega
    have e6 : Vse.room (out.length + (blkR key s last n).length) 1 = true := by simp only [Vse.room, decide_eq_true_eq]; omega
    unfold GY
    simp only [List.nil_append, hb]
    rw [ite_t (decide_eq_true hc), chk_eval e1, chk_eval e2, chk_eval e3, chk_eval e4, chk_eval e5, chk_eval e6, w_id (by omega) (by omega)]
    rfl
   ·simp only [expR]
    rw [if_pos hc]
  ·refine rmany_inr ((rY oneP rmacF key s many n out last).trans ?_) (f + 1)
   unfold GY
   rw [ite_f (decide_eq_false hc)]
   simp only [expR]
   rw [if_neg hc]
   rfl
theorem lY : LoopOK Try.prog (LY cY expY) bY :=
 rloop_ok (L := LY cY expY) (L' := L0) cRE_sound (loopsOK_of (by kernel_rfl)) SY (F := FY cY expY) (i := 6) (by kernel_rfl) (fun _ => rfl) fun xs hs r h => by
  obtain ⟨key, s, many, u1, u2, n, u3⟩ := xs
  obtain ⟨out, last, u4⟩ := hs
  obtain ⟨h1, h2⟩ := Tr.chk_some h
  simp only [cY, Bool.and_eq_true, decide_eq_true_eq] at h1
  obtain ⟨e1, e2, e3, e4, e5, e6⟩ := h1
  subst e1; subst e2; subst e3
  exact ⟨_, (mY e5 e6 many e4 255 [] 1 [] (by rw [List.length_nil]; omega) (by simp) (by omega) (by omega)).trans (congrArg some (Tr.ret_some h2))⟩
theorem expR_len (key : List Int) (s : ByteArray) (many : Int) : ∀ (f : Nat) (last : List Int) (n : Int) (out : List Int), many ≤ (out.length : Int) + 32 * f → many ≤ ((expR key s many f last n out).length : Int)
 | 0, last, n, out, h => by simp only [expR]; omega
 | f + 1, last, n, out, h => by
  simp only [expR]
  by_cases hc : (out.length : Int) < many
  ·have hbl := blkR_len key s last n
   rw [if_pos hc]
   exact expR_len key s many f _ _ _ (by rw [List.length_append, hbl]; omega)
  ·rw [if_neg hc]; omega
def rexpF (key : List Int) (s : ByteArray) (many : Int) : List Int × Int × Unit := if many < 0 ∨ many > 8160 then ([], 1, ()) else ((expY key s many).take many.toNat, 0, ())
def s32 : CSpec := .pos nE (fun xs _ => expP xs.1 xs.2.1) fun xs _ => (rexpF xs.1 xs.2.1 xs.2.2.1, ())
theorem TY_eq {key : List Int} {s : ByteArray} (hp : expP key s = true) (many : Int) : (TY cY expY key s many).eval = some (rexpF key s many, ()) := by
 simp only [expP, Bool.and_eq_true, decide_eq_true_eq] at hp
 unfold TY rexpF
 simp only
 by_cases h1 : many < 0
 ·rw [ite_t (decide_eq_true h1), if_pos (.inl h1)]; rfl
 rw [ite_f (decide_eq_false h1)]
 by_cases h2 : many > 8160
 ·rw [ite_t (decide_eq_true h2), if_pos (.inr h2)]; rfl
 rw [ite_f (decide_eq_false h2), if_neg (by omega)]
 have e1 : cY key s many 1 [] [] = true := by
  simp only [cY, Bool.and_eq_true, decide_eq_true_eq, true_and]
  exact ⟨by omega, hp.1, hp.2⟩
 have e2 := expR_len key s many 255 [] 1 [] (by rw [List.length_nil]; omega)
 have e3 : (decide (0 ≤ many) && decide (many ≤ ((expY key s many).length : Int))) = true := by
  simp only [Bool.and_eq_true, decide_eq_true_eq]
  exact ⟨by omega, e2⟩
 rw [chk_eval e1, chk_eval e3]
 rfl
theorem ok32 : CSound Try.prog 122 s32 ∧ CLocal s32 :=
 pos_sound (L := LY cY expY) cRE_sound Try.func122 (by kernel_rfl) (loops1 (by kernel_rfl) lY) fun xs hs _ _ hp => by
  obtain ⟨key, s, many, u⟩ := xs
  exact (tY oneP rmacF cY expY key s many).trans (TY_eq hp many)
end Go.Proofs.Ytaffancdidgkhaa.Mac
end
section
set_option linter.unusedVariables false
set_option maxRecDepth 100000
namespace Go.Proofs.Ytaffancdidgkhaa.Mac
open Go Vse Go.Proofs Gen
open Sha hiding wb wu getD_cons
end Go.Proofs.Ytaffancdidgkhaa.Mac
end
section
set_option linter.unusedVariables false
set_option maxRecDepth 100000
namespace Go.Proofs.Ytaffancdidgkhaa.Mac
open Go Vse Go.Proofs Gen
open Sha hiding wb wu getD_cons
theorem over_get {k : List Int} {i : Nat} (hi : i < 64) : (overL z64 k)[i]? = some (if i < k.length then k.getD i 0 else 0) := by
 have hz : z64.length = 64 := rfl
 unfold overL
 rw [hz]
 have hl : (k.take 64).length = min 64 k.length := List.length_take
 by_cases h : i < k.length
 ·rw [List.getElem?_append_left (by omega), List.getElem?_take, if_pos hi, List.getElem?_eq_getElem h, if_pos h, List.getD_eq_getElem?_getD, List.getElem?_eq_getElem h]
  rfl
 ·rw [List.getElem?_append_right (by omega), hl, if_neg h]
  unfold z64
  rw [List.drop_replicate, List.getElem?_replicate, if_pos (by omega)]
theorem fill_eq {k : List Int} {by_ : Int} (h0 : xorI .u8 0 by_ = by_) : all 64 (xorF by_ (overL z64 k ++ [])) = xX k by_ := by
 have hl : (overL z64 k).length = 64 := (overL_len _ _).trans rfl
 rw [List.append_nil]
 have hx : (xorF by_ (overL z64 k)).length = 64 := by unfold xorF; rw [List.length_map, hl]
 rw [all_id hx]
 apply List.ext_getElem?
 intro i
 by_cases hi : i < 64
 ·unfold xorF xX xL
  rw [List.getElem?_map, List.getElem?_map, over_get hi, List.getElem?_range hi]
  simp only [Option.map_some, xEl]
  by_cases h : i < k.length
  ·rw [if_pos h, if_pos h]
  ·rw [if_neg h, if_neg h, h0]
 ·rw [List.getElem?_eq_none (by omega), List.getElem?_eq_none (by show (xL k by_ 64).length ≤ i; rw [xL_len]; omega)]
theorem key_same {key : List Int} (hB : Bytes key) (hl : key.length ≤ 1000000) : keyF key = overL z64 (keyR key) ++ [] := by
 unfold keyF keyR
 rw [sums_same hB (by omega)]
theorem fill_same {key : List Int} (hB : Bytes key) (hl : key.length ≤ 1000000) {by_ : Int} (h0 : xorI .u8 0 by_ = by_) : fillK key by_ = xorK key by_ := by
 unfold fillK xorK
 rw [key_same hB hl, fill_eq h0]
theorem x54 : xorI .u8 0 54 = 54 := by kernel_rfl
theorem x92 : xorI .u8 0 92 = 92 := by kernel_rfl
theorem wb_byte (x : Int) : 0 ≤ wb x ∧ wb x < 256 := by rw [show wb x = x % 256 from wb_mod x]; omega
theorem bytes_append {a b : List Int} (ha : Bytes a) (hb : Bytes b) : Bytes (a ++ b) := fun x hx => by
 rcases List.mem_append.1 hx with h | h
 ·exact ha x h
 ·exact hb x h
theorem bytes_fill (key : List Int) (by_ : Int) : Bytes (fillK key by_) := fun x hx => by
 unfold fillK all xorF at hx
 have hx := List.mem_of_mem_drop (List.mem_of_mem_take hx)
 obtain ⟨y, _, rfl⟩ := List.mem_map.1 hx
 exact wb_byte _
theorem bytes_set {l : List Int} (h : Bytes l) (i : Nat) (x : Int) : Bytes (l.set i (wb x)) := fun y hy => by
 rcases List.mem_or_eq_of_mem_set hy with h' | rfl
 ·exact h y h'
 ·exact wb_byte x
theorem bytes_outL (s : List Int) : ∀ (m i : Nat) (q : List Int), Bytes q → Bytes (outL s i m q)
 | 0, i, q, h => h
 | m + 1, i, q, h => by
  rw [outL]
  exact bytes_outL s m (i + 1) _ (bytes_set h i _)
theorem bytes_sha (b : List Int) : Bytes (shaF b) := by
 rw [shaF_hash]
 unfold sumH outF
 refine bytes_outL _ _ _ _ fun x hx => ?_
 have : ∀ x ∈ zeros32, x = 0 := by decide
 rw [this x hx]
 omega
theorem bytes_mac (key b : List Int) : Bytes (macF key b) := bytes_sha _
theorem mac_same {key b : List Int} (hk : Bytes key) (hb : Bytes b) (hl : key.length ≤ 1000000) (hl2 : b.length ≤ 1000000) : macF key b = rmacF key b := by
 have l1 := fillK_len key 54
 have l2 := fillK_len key 92
 have e1 : shaF (fillK key 54 ++ b) = rsumF (fillK key 54 ++ b) := sums_same (bytes_append (bytes_fill _ _) hb) (by rw [List.length_append]; omega)
 have h32 : all 32 (shaF (fillK key 54 ++ b)) = shaF (fillK key 54 ++ b) := all_id (shaF_len _)
 have e2 : shaF (fillK key 92 ++ shaF (fillK key 54 ++ b)) = rsumF (fillK key 92 ++ shaF (fillK key 54 ++ b)) :=
  sums_same (bytes_append (bytes_fill _ _) (bytes_sha _)) (by rw [List.length_append, shaF_len]; omega)
 unfold macF rmacF
 rw [h32, e2, e1, all_id (rsumF_len _), fill_same hk hl x54, fill_same hk hl x92]
theorem bytes_str (s : ByteArray) : Bytes (strBytes s) := fun x hx => by
 unfold strBytes at hx
 obtain ⟨c, _, rfl⟩ := List.mem_map.1 hx
 have := UInt8.toNat_lt c
 omega
theorem wb_wb (n : Int) : wb (wb n + 1) = wb (n + 1) := by
 have h : ∀ x, wb x = x % 256 := fun x => wb_mod x
 rw [h, h, h]; omega
theorem blk_same {key : List Int} {s : ByteArray} (hk : Bytes key) (hl : key.length ≤ 1000000) (hs : s.size ≤ 100000) {last : List Int} (hB : Bytes last) (h32 : last.length ≤ 32) (n : Int) : blkE key s last (wb n) = blkR key s last n := by
 have hf : [last, strBytes s, [wb n]].flatten = (([] ++ last) ++ strBytes s) ++ [wb n] := by
  simp only [List.flatten_cons, List.flatten_nil, List.append_nil, List.nil_append, List.append_assoc]
 have hm : Bytes ((([] ++ last) ++ strBytes s) ++ [wb n]) := bytes_append (bytes_append hB (bytes_str s)) fun x hx => by rw [List.mem_singleton.1 hx]; exact wb_byte n
 have hsl := strBytes_len s
 unfold blkE blkR
 rw [hf, mac_same hk hm hl (by simp only [List.length_append, List.length_singleton, List.length_nil]; omega)]
 exact (all_id (rsumF_len _)).symm
theorem exp_same {key : List Int} {s : ByteArray} (hk : Bytes key) (hl : key.length ≤ 1000000) (hs : s.size ≤ 100000) (many : Int) : ∀ (f : Nat) (last : List Int) (n : Int) (out : List Int), Bytes last → last.length ≤ 32 →
  expL key s many f last (wb n) out = expR key s many f last n out
 | 0, last, n, out, _, _ => rfl
 | f + 1, last, n, out, hB, h32 => by
  have hb := blk_same hk hl hs hB h32 n
  have h1 : Bytes (blkE key s last (wb n)) := bytes_mac _ _
  have h2 : (blkE key s last (wb n)).length = 32 := macF_len _ _
  rw [hb] at h1 h2
  simp only [expL, expR]
  rw [hb, wb_wb]
  by_cases hc : (out.length : Int) < many
  ·rw [if_pos hc, if_pos hc]
   exact exp_same hk hl hs many f _ _ _ h1 (by omega)
  ·rw [if_neg hc, if_neg hc]
theorem expand_same {key : List Int} {s : ByteArray} (hk : Bytes key) (hl : key.length ≤ 1000000) (hs : s.size ≤ 100000) (many : Int) : expF key s many = rexpF key s many := by
 unfold expF rexpF expX expY
 rw [← exp_same hk hl hs many 255 [] 1 [] (fun x hx => by cases hx) (by simp)]
 rfl
theorem or_zero {x y : Nat} : x ||| y = 0 ↔ x = 0 ∧ y = 0 := Nat.or_eq_zero_iff
theorem xor_zero {m n : Nat} : m ^^^ n = 0 ↔ m = n := by
 constructor
 ·intro h
  have e : m ^^^ (m ^^^ n) = n := by rw [← Nat.xor_assoc, Nat.xor_self, Nat.zero_xor]
  rw [h, Nat.xor_zero] at e
  exact e
 ·rintro rfl
  exact Nat.xor_self m
theorem orF_zero : ∀ (a b : List Int) (u : Nat), a.length = b.length → Bytes a → Bytes b → u < 256 → (orF a b u = 0 ↔ u = 0 ∧ a = b)
 | [], [], u, _, _, _, _ => by
  show (u : Int) = 0 ↔ _
  simp
 | [], _ :: _, _, h, _, _, _ => by cases h
 | _ :: _, [], _, h, _, _, _ => by cases h
 | x :: a, y :: b, u, h, ha, hb, hu => by
  obtain ⟨x0, x1⟩ := ha x (by simp)
  obtain ⟨y0, y1⟩ := hb y (by simp)
  obtain ⟨m, rfl⟩ := Int.eq_ofNat_of_zero_le x0
  obtain ⟨n, rfl⟩ := Int.eq_ofNat_of_zero_le y0
  have hm : m < 256 := by omega
  have hn : n < 256 := by omega
  have hx := xor_lt256 hm hn
  have ho : u ||| (m ^^^ n) < 256 := Nat.or_lt_two_pow (n := 8) hu hx
  have e1 : orI .u8 (u : Int) (xorI .u8 (m : Int) (n : Int)) = ((u ||| (m ^^^ n) : Nat) : Int) := by
   rw [xorI_u8 hm hn]
   exact orI_nat (by rw [max_u8]; omega) (by rw [max_u8]; omega) (by rw [max_u8]; omega)
  show orF a b (orI .u8 u (xorI .u8 m n)) = 0 ↔ _
  rw [e1, orF_zero a b _ (by simpa using h) (fun z hz => ha z (List.mem_cons_of_mem _ hz)) (fun z hz => hb z (List.mem_cons_of_mem _ hz)) ho, or_zero, xor_zero]
  constructor
  ·rintro ⟨⟨h1, h2⟩, h3⟩
   exact ⟨h1, by rw [h2, h3]⟩
  ·rintro ⟨h1, h2⟩
   simp only [List.cons.injEq] at h2
   exact ⟨⟨h1, by omega⟩, h2.2⟩
theorem eq_same {a b : List Int} (ha : Bytes a) (hb : Bytes b) : eqF a b = sameI a b := by
 unfold eqF sameI orX
 by_cases h : a.length = b.length
 ·have e1 : ((a.length : Int) != (b.length : Int)) = false := by simp [h]
  have := orF_zero a b 0 h ha hb (by omega)
  rw [e1]
  show (orF a b 0 == 0) = _
  have e2 : orF a b ((0 : Nat) : Int) = orF a b 0 := rfl
  rw [e2] at this
  by_cases hab : a = b
  ·rw [decide_eq_true hab, this.2 ⟨rfl, hab⟩]; rfl
  ·rw [decide_eq_false hab]
   have : ¬ orF a b 0 = 0 := fun hh => hab (this.1 hh).2
   simpa using this
 ·have e1 : ((a.length : Int) != (b.length : Int)) = true := by simp; omega
  rw [e1, decide_eq_false fun hab => h (by rw [hab])]
  rfl
theorem xor_self (x : Int) : xorI .u8 x x = 0 := by
 unfold xorI
 rw [BitVec.xor_self]
 rfl
theorem orF_self : ∀ a : List Int, orF a a 0 = 0
 | [] => rfl
 | x :: a => by
  show orF a a (orI .u8 0 (xorI .u8 x x)) = 0
  rw [xor_self]
  exact orF_self a
theorem eqF_self (a : List Int) : eqF a a = true := by
 unfold eqF orX
 rw [orF_self, bne_self_eq_false]
 rfl
end Go.Proofs.Ytaffancdidgkhaa.Mac
end
end
section
section
set_option linter.unusedVariables false
namespace Vse
open Go Go.ChangeShapes
def rngsOf : Code → List (Operand × Array Tmp × Code × Code)
 | .seq a b => rngsOf a ++ rngsOf b
 | .block _ c => rngsOf c
 | .rangeFunc g ps x y => [(g, ps, x, y)]
 | _ => []
theorem rngsOK_all {P : Program} {R : Loops} : ∀ {c : Code}, (∀ t ∈ rngsOf c, ∀ i, firstReg t.2.2.1 = some i → RunOK P (R i) (.rangeFunc t.1 t.2.1 t.2.2.1 t.2.2.2)) → RngsOK P R c := by
 intro c
 induction c with
 | seq a b iha ihb => intro h; exact ⟨iha fun t ht => h t (List.mem_append_left _ ht), ihb fun t ht => h t (List.mem_append_right _ ht)⟩
 | block id c ih => intro h; exact ih h
 | rangeFunc g ps x y => intro h; exact fun i hi => h (g, ps, x, y) (List.mem_singleton.2 rfl) i hi
 | _ => intro _; trivial
def fnSX (P : Program) (rn : St → Tr (Ex × St)) (Rs : List Ty) (fn : Func) (args : List AV) : Tr (AV × Heap) := (fnTX P rn fn args []).bind fun r => .ret (sealR Rs r)
theorem slpX {P : Program} {k : Nat} {fn : Func} (hf : P.funcs[k]? = some fn) {rn : St → Tr (Ex × St)} (hrn : RunOK P rn (bodyOf fn)) {As Rs : List Ty} {pre : HL As → Bool} {f : HL As → HL Rs}
  (hside : ((fn.name == "runtime.NumGoroutine") == false && fn.body.isSome && (As.all fun A => A.still false) && stillL Rs) = true)
  (h1 : ∀ xs, HL.ok As xs → pre xs = true → nrm (fnSX P rn Rs fn (mkArgs As xs)) = some (ofHL Rs (f xs))) :
  CSound P k (CSpec.slp As pre Rs f) ∧ CLocal (CSpec.slp As pre Rs f) := by
 simp only [Bool.and_eq_true, beq_iff_eq] at hside
 obtain ⟨⟨⟨hname, hb⟩, hA⟩, hR⟩ := hside
 obtain ⟨body, hb⟩ := Option.isSome_iff_exists.1 hb
 have hrn : RunOK P rn body := by
  unfold bodyOf at hrn
  rw [hb] at hrn
  exact hrn
 refine ⟨⟨fun args w => callFunc_enter hf hname hb args w, ?_⟩, slp_local As pre Rs f⟩
 intro g H w vs rvs fr out hI hargs _ he
 simp only [CSpec.slp] at he
 rw [takeE_takeAs] at he
 split at he
 ·rename_i xs hxs
  obtain ⟨hp, he⟩ := Tr.chk_some he
  have := Tr.ret_some he
  subst this
  have hargs' := takeAs_rep hI hA hargs hxs
  have hx := args_ok hargs'
  obtain ⟨H', h5⟩ := nrm_some (h1 xs hx hp)
  obtain ⟨r, h6, h7⟩ := Tr.bind_some h5
  have h7 := Tr.ret_some h7
  refine (fn_soundX hf hb hrn (lend_inv hI) hargs' h6).mono ?_
  rintro e w' ⟨rv, g', rfl, hle, hI', hv⟩
  obtain ⟨g1, s1, s2, s3⟩ := sealR_rep Rs (r := r) hI' hv
  rw [h7] at s2 s3
  obtain ⟨g'', q1, q2, q3⟩ := lend_back hI (hle.trans s1) s2
  exact ⟨rv, g'', rfl, q1, q2, still_VRep q3 (ofHL_still hR _) s3⟩
 ·exact (Tr.fail_some he).elim
theorem slpX1 {P : Program} {k : Nat} {fn : Func} (hf : P.funcs[k]? = some fn) {rn : St → Tr (Ex × St)} (hrn : RunOK P rn (bodyOf fn)) {As : List Ty} {R : Ty} {pre : HL As → Bool} {f : HL As → R.den}
  (hside : ((fn.name == "runtime.NumGoroutine") == false && fn.body.isSome && (As.all fun A => A.still false) && stillL [R]) = true)
  (h1 : ∀ xs, HL.ok As xs → pre xs = true → nrm (fnSX P rn [R] fn (mkArgs As xs)) = some (.v R (f xs))) :
  CSound P k (CSpec.slp1 As pre R f) ∧ CLocal (CSpec.slp1 As pre R f) := slpX hf hrn hside h1
end Vse
end
section
set_option linter.unusedVariables false
namespace Vse
open Go Go.ChangeShapes
section
variable {P : Program} {C : Ctx} {L : Loops} {g : G} {H : Heap} {w : World}
def idsQ (H : Heap) (v : AV) : List Nat :=
 match v with
 | .v (.vc e g) u => match getE H e with
  | .vec _ (.vc e' _) _ => [e, e']
  | .vec _ (.sub e' _) _ => [e, e']
  | _ => [e]
 | v => vcOf v
def allTake (b a : Ty) (E : Entry) : List a.den → Option (List (List b.den))
 | [] => some []
 | x :: l => match takeA (.imm false false b) (.v a x) [E] with
  | some y => match allTake b a E l with
   | some r => some (y :: r)
   | none => none
  | none => none
def takeN (b : Ty) (v : AV) (es : List Entry) : Option (List (List b.den)) :=
 match v with
 | .v (.vc e g) u => match es with
  | [.vec g' a l, E] => if g = g' then allTake b a E l else none
  | es => takeA (.imm false false (.imm false false b)) (.v (.vc e g) u) es
 | v => takeA (.imm false false (.imm false false b)) v es
theorem allTake_rep (hI : HInv g H w) {b a : Ty} (hb : b.still false = true) {e : Nat} (ha : (∃ k, a = .vc e k) ∨ ∃ p, a = .sub e p) : ∀ {l : List a.den} {L : List (List b.den)} {vs : List Value}, allTake b a (getE H e) l = some L → repL (Rep g a) l vs →
  repL (Rep (g.lend H w) (.imm false false b)) L vs ∧ L.length = l.length
 | [], L, vs, h, hr => by
  simp only [allTake, Option.some.injEq] at h
  subst h
  exact ⟨hr, rfl⟩
 | x :: l, L, vs, h, hr => by
  simp only [allTake] at h
  split at h
  ·rename_i y hy
   split at h
   ·rename_i r hrr
    simp only [Option.some.injEq] at h
    subst h
    obtain ⟨c1, c2, rfl, h1, h2⟩ := hr
    obtain ⟨q1, q2⟩ := allTake_rep hI hb ha hrr h2
    have hone : ∃ v1, c1 = [v1] := by
     rcases ha with ⟨k, rfl⟩ | ⟨p, rfl⟩
     ·obtain ⟨⟨v1, h0, _⟩, _⟩ := h1
      exact ⟨v1, h0⟩
     ·obtain ⟨⟨v1, h0, _⟩, _⟩ := h1
      exact ⟨v1, h0⟩
    obtain ⟨v1, rfl⟩ := hone
    have hv : VRep g (.v a x) v1 := by
     rcases ha with ⟨k, rfl⟩ | ⟨p, rfl⟩
     ·refine (VRep_v (by simp)).2 ?_
      simpa only [TRep, Ty.agg, Ty.sk, Sk.agg, Bool.false_eq_true, if_false] using h1
     ·refine (VRep_v (by simp)).2 ?_
      simpa only [TRep, Ty.agg, Ty.sk, Sk.agg, Bool.false_eq_true, if_false] using h1
    have hvc : ents H (vcOf (.v a x)) = [getE H e] := by
     rcases ha with ⟨k, rfl⟩ | ⟨p, rfl⟩ <;> rfl
    have := takeA_rep (A := .imm false false b) hI (by simpa [Ty.still] using hb) hv (by rw [hvc]; exact hy)
    have := (VRep_v (by simp)).1 this
    simp only [TRep, Ty.agg, Ty.sk, Sk.agg, Bool.false_eq_true, if_false] at this
    exact ⟨⟨[v1], c2, rfl, this, q1⟩, by simp only [List.length_cons, q2]⟩
   ·cases h
  ·cases h
theorem takeN_rep (hI : HInv g H w) {b : Ty} (hb : b.still false = true) {v : AV} {rv : Value} {L : List (List b.den)} (hv : VRep g v rv) (h : takeN b v (ents H (idsQ H v)) = some L) : VRep (g.lend H w) (.v (.imm false false (.imm false false b)) L) rv := by
 have hb2 : (Ty.imm false false (Ty.imm false false b)).still false = true := by simpa [Ty.still] using hb
 have old : ents H (idsQ H v) = ents H (vcOf v) → takeA (.imm false false (.imm false false b)) v (ents H (vcOf v)) = some L → VRep (g.lend H w) (.v (.imm false false (.imm false false b)) L) rv := fun _ h => takeA_rep hI hb2 hv h
 have nest : ∀ {e k e' : Nat} {u : Unit} {k' : Nat} {a : Ty} {l : List a.den}, v = .v (.vc e k) u → getE H e = .vec k' a l → ((∃ j, a = .vc e' j) ∨ ∃ p, a = .sub e' p) → k = k' → allTake b a (getE H e') l = some L → VRep (g.lend H w) (.v (.imm false false (.imm false false b)) L) rv := by
  rintro e k e' u k' a l rfl hE ha rfl hL
  have he := hI.ent e
  rw [hE] at he
  have hlive : (getE H e).live = true := by rw [hE]; rfl
  have hv := (VRep_v (by simp)).1 hv
  simp only [TRep, Ty.agg, Ty.sk, Sk.agg, Bool.false_eq_true, if_false, Rep, G.vcr, hI.sh, hE, shp] at hv
  obtain ⟨_, _, hv⟩ := hv
  refine (VRep_v (by simp)).2 ?_
  simp only [TRep, Ty.agg, Ty.sk, Sk.agg, Bool.false_eq_true, if_false]
  unfold Rep
  rcases hv trivial with ⟨hb0, h0, hh⟩ | ⟨bl, cap, hbl, hh, hcap, _⟩
  ·have hl0 : l = [] := List.eq_nil_of_length_eq_zero h0
   subst hl0
   simp only [allTake, Option.some.injEq] at hL
   subst hL
   exact ⟨none, 0, hh, by simp, by simp, by simp⟩
  ·rcases he with ⟨q1, _⟩ | ⟨b', cs, t, fz, vs, r, q1, q2, q3, q4, q5, q6, q7⟩
   ·rw [hbl] at q1; cases q1
   rw [hbl] at q1
   cases q1
   obtain ⟨p1, p2⟩ := allTake_rep hI hb ha hL q6
   have hgr : (g.lend H w).gr bl = some (.cells cs t fz) := by
    simp only [G.lend]
    rw [(hI.own _ _ hlive hbl).2]
    simp only [Option.isSome_none, Bool.false_eq_true, if_false]
    rw [if_pos ⟨e, hlive, hbl⟩]
    exact q2
   have hrd : reads (g.lend H w).gr ⟨bl, 0, none⟩ vs := by
    refine ⟨rfl, cs, t, fz, hgr, fun i v hi => ?_⟩
    have hj : i < vs.length := (List.getElem?_eq_some_iff.1 hi).1
    have : cs.toList[i]? = some v := by rw [q5, List.getElem?_append_left hj]; exact hi
    simpa using this
   exact ⟨_, cap, by rw [p2]; exact hh, by rw [p2]; exact hcap, by simp, fun _ => ⟨_, vs, rfl, p1, .inr ⟨rfl, hrd⟩⟩⟩
 unfold takeN at h
 split at h
 ·rename_i e k u
  cases hE : getE H e with
  | vec k' a l =>
   have hcase : ((∃ e', (∃ j, a = .vc e' j) ∨ ∃ p, a = .sub e' p) ∧ ∃ e', idsQ H (.v (.vc e k) u) = [e, e'] ∧ ((∃ j, a = .vc e' j) ∨ ∃ p, a = .sub e' p)) ∨ idsQ H (.v (.vc e k) u) = [e] := by
    unfold idsQ
    simp only [hE]
    split
    ·rename_i e' j l' heq
     simp only [Entry.vec.injEq] at heq
     exact .inl ⟨⟨e', .inl ⟨j, heq.2.1⟩⟩, e', rfl, .inl ⟨j, heq.2.1⟩⟩
    ·rename_i e' p l' heq
     simp only [Entry.vec.injEq] at heq
     exact .inl ⟨⟨e', .inr ⟨p, heq.2.1⟩⟩, e', rfl, .inr ⟨p, heq.2.1⟩⟩
    ·exact .inr rfl
   rcases hcase with ⟨_, e', hids, ha⟩ | hids
   ·rw [hids] at h
    simp only [ents, hE] at h
    split at h
    ·rename_i hk
     exact nest rfl hE ha hk h
    ·cases h
   ·rw [hids] at h
    simp only [ents] at h
    exact takeA_rep hI hb2 hv (by simpa [vcOf, ents] using h)
  | _ =>
   have hids : idsQ H (.v (.vc e k) u) = [e] := by unfold idsQ; simp only [hE]
   rw [hids] at h
   simp only [ents, hE] at h
   exact takeA_rep hI hb2 hv (by simpa [vcOf, ents, hE] using h)
 ·rename_i hnv
  have hids : idsQ H v = vcOf v := by
   unfold idsQ
   split
   ·rename_i e k u; exact (hnv e k u rfl).elim
   ·rfl
  rw [hids] at h
  exact takeA_rep hI hb2 hv h
def CSpec.slq (A b : Ty) (pre : A.den → List (List b.den) → Bool) (R : Ty) (f : A.den → List (List b.den) → R.den) : CSpec :=
 ⟨0, fun vs H => match vs with | [v1, v2] => vcOf v1 ++ idsQ H v2 | _ => [], fun _ _ => [],
  fun vs es _ => match vs with
  | [v1, v2] => match takeA A v1 (es.take (vcOf v1).length) with
   | some x => match takeN b v2 (es.drop (vcOf v1).length) with
    | some y => .chk (pre x y) (.ret (.v R (f x y), []))
    | none => .fail
   | none => .fail
  | _ => .fail⟩
theorem idsQ_same {H H' : Heap} {v : AV} (h : ∀ i ∈ idsQ H v, getE H' i = getE H i) : idsQ H' v = idsQ H v := by
 unfold idsQ at h ⊢
 split
 ·rename_i e k u
  have he : getE H' e = getE H e := by
   refine h e ?_
   simp only
   split <;> simp
  simp only [he]
 ·rfl
theorem slq_local (A b : Ty) (pre : A.den → List (List b.den) → Bool) (R : Ty) (f : A.den → List (List b.den) → R.den) : CLocal (CSpec.slq A b pre R f) where
 same vs H H' h := by
  refine ⟨?_, rfl⟩
  simp only [CSpec.slq] at h ⊢
  split
  ·rename_i v1 v2
   rw [idsQ_same fun i hi => h i (List.mem_append_right _ hi)]
  ·rfl
 turns vs H fr out h x hx := by
  simp only [CSpec.slq] at h
  split at h
  ·split at h
   ·split at h
    ·obtain ⟨_, h⟩ := Tr.chk_some h
     have := Tr.ret_some h
     subst this
     simp at hx
    ·exact (Tr.fail_some h).elim
   ·exact (Tr.fail_some h).elim
  ·exact (Tr.fail_some h).elim
theorem slqE1 (hC : CtxSound P C ∧ CtxLocal C) {k : Nat} {fn : Func} (hf : P.funcs[k]? = some fn) {A b R : Ty} {pre : A.den → List (List b.den) → Bool} {f : A.den → List (List b.den) → R.den}
  (hside : ((fn.name == "runtime.NumGoroutine") == false && fn.body.isSome && (A.still false && b.still false) && stillL [R]) = true)
  (hl : ∀ b ∈ loopsOf (bodyOf fn), LoopOK P L b)
  (h1 : ∀ x y, A.ok x → pre x y = true → nrm (fnS P C L [R] fn (mkArgs [A, .imm false false (.imm false false b)] (x, y, ()))) = some (.v R (f x y))) :
  CSound P k (CSpec.slq A b pre R f) ∧ CLocal (CSpec.slq A b pre R f) := by
 simp only [Bool.and_eq_true, beq_iff_eq] at hside
 obtain ⟨⟨⟨hname, hb⟩, hA, hbb⟩, hR⟩ := hside
 obtain ⟨body, hb⟩ := Option.isSome_iff_exists.1 hb
 have hl : LoopsOK P L body := by
  refine loopsOK_all ?_
  unfold bodyOf at hl
  rw [hb] at hl
  exact hl
 refine ⟨⟨fun args w => callFunc_enter hf hname hb args w, ?_⟩, slq_local A b pre R f⟩
 intro g H w vs rvs fr out hI hargs _ he
 simp only [CSpec.slq] at he
 split at he
 ·rename_i v1 v2
  obtain ⟨r1, rs, rfl, hv1, r2, rs2, rfl, hv2, hr3⟩ := hargs
  have hr3 : rs2 = [] := hr3
  subst hr3
  have e1 : (ents H (vcOf v1 ++ idsQ H v2)).take (vcOf v1).length = ents H (vcOf v1) := by rw [ents_append, ← ents_length H (vcOf v1), List.take_left]
  have e2 : (ents H (vcOf v1 ++ idsQ H v2)).drop (vcOf v1).length = ents H (idsQ H v2) := by rw [ents_append, ← ents_length H (vcOf v1), List.drop_left]
  rw [e1, e2] at he
  split at he
  ·rename_i x hx
   split at he
   ·rename_i y hy
    obtain ⟨hp, he⟩ := Tr.chk_some he
    have := Tr.ret_some he
    subst this
    have a1 := takeA_rep hI hA hv1 hx
    have a2 := takeN_rep hI hbb hv2 hy
    have hargs' : argsRep (g.lend H w) (mkArgs [A, .imm false false (.imm false false b)] (x, y, ())) [r1, r2] := ⟨r1, [r2], rfl, a1, r2, [], rfl, a2, rfl⟩
    have hx := args_ok hargs'
    obtain ⟨H', h5⟩ := nrm_some (h1 x y hx.1 hp)
    obtain ⟨r, h6, h7⟩ := Tr.bind_some h5
    have h7 := Tr.ret_some h7
    refine (fn_sound hC.1 hC.2 hf hb hl (lend_inv hI) hargs' (fnK_ok h6)).mono ?_
    rintro e w' ⟨rv, g', rfl, hle, hI', hv⟩
    obtain ⟨g1, s1, s2, s3⟩ := sealR_rep [R] (r := r) hI' hv
    rw [h7] at s2 s3
    obtain ⟨g'', q1, q2, q3⟩ := lend_back hI (hle.trans s1) s2
    exact ⟨rv, g'', rfl, q1, q2, still_VRep q3 (ofHL_still hR (f x y, ())) s3⟩
   ·exact (Tr.fail_some he).elim
  ·exact (Tr.fail_some he).elim
 ·exact (Tr.fail_some he).elim
end
end Vse
end
section
set_option linter.unusedVariables false
namespace Vse
open Go Go.Sort
section
variable {P : Program} {g : G} {H : Heap} {w : World}
end
end Vse
end
end
section
set_option linter.unusedVariables false
set_option maxRecDepth 100000
namespace Go.Proofs.Ytaffancdidgkhaa.Mac
open Go Vse Go.Proofs Gen Sha
abbrev lq : Ty := .imm false false bs
def SMq : RSpec := ⟨[0, 4, 5, 6, 16, 17, 18], 37, [bs, .ptr 0 [], .ptr 1 [], .ptr 2 [], lq, i64, i64], eM, eM, [], fun _ => ([0, 4, 5, 6], [bs, .ptr 0 [], .ptr 1 [], .ptr 2 []], eM)⟩
theorem rMq (i0 : Hs) (W : Wr) (p : List Int → Hs → Bool) (q : Hs → Bool) (D : Hs → List Int) (F : List Int → Int → List Int) (pf : List Int → Bool) (key : List Int) (l : List (List Int)) (n i : Int) (o : List Int) (h h' : Hs) :
  (SMq.round (bodyK Try.prog (ctx (cM i0 W p q D F pf)) L0 bM) (key, (), (), (), l, n, i, ()) (o, h, h', ())).eval = (GM W p key l n i o h h' : Tr SM.End).eval := by kernel_rfl
def FMq (c : List (List Int) → Int → Int → Hs → Bool) (Z : List (List Int) → Hs → Hs) (xs : HL SMq.Ts) (hs : HD SMq.Es) : Tr (Ex × St) :=
 .chk (c xs.2.2.2.2.1 xs.2.2.2.2.2.1 xs.2.2.2.2.2.2.1 hs.2.1) (.ret (.exit 0, encS [0, 4, 5, 6] [bs, .ptr 0 [], .ptr 1 [], .ptr 2 []] eM 37 (xs.1, (), (), (), ()) (hs.1, Z xs.2.2.2.2.1 hs.2.1, hs.2.2.1, ())))
def LMq (c : List (List Int) → Int → Int → Hs → Bool) (Z : List (List Int) → Hs → Hs) : Loops := fun j st => if j = 4 then SMq.fn (FMq c Z) st else .fail
theorem tMq (i : Hs) (W : Wr) (p : List Int → Hs → Bool) (q : Hs → Bool) (D : Hs → List Int) (F : List Int → Int → List Int) (pf : List Int → Bool) (c : List (List Int) → Int → Int → Hs → Bool) (Z : List (List Int) → Hs → Hs) (key : List Int) (l : List (List Int)) :
  nrm (fnS Try.prog (ctx (cM i W p q D F pf)) (LMq c Z) [d32] Try.f86 (mkArgs [bs, lq] (key, l, ()))) = (TM i W p q D F pf c Z key l).eval := by kernel_rfl
theorem mMq (key : List Int) (l : List (List Int)) (hl : l.length ≤ 1000000) (ht : tot l ≤ 1000000) (o : List Int) (h' : Hs) : ∀ (m k : Nat) (h : Hs), k + m = l.length → h.2.1.length ≤ 1000000 →
  SMq.many (bodyK Try.prog CMF L0 bM) (m + 1) (key, (), (), (), l, (l.length : Int), (k : Int), ()) (o, h, h', ()) = some (.exit 0, encS [0, 4, 5, 6] [bs, .ptr 0 [], .ptr 1 [], .ptr 2 []] eM 37 (key, (), (), (), ()) (o, zP (l.drop k) h, h', ()))
 | 0, k, h, hk, hr => by
  refine rmany_inr ((rMq h0 writeF writeP restP sumH fillK shaP key l l.length k o h h').trans ?_) 0
  rw [List.drop_eq_nil_of_le (by omega)]
  simp only [GM, Tr.eval, decide_eq_false (show ¬ ((k : Int) < (l.length : Int)) by omega)]
  rfl
 | m + 1, k, h, hk, hr => by
  have h1 : k < l.length := by omega
  have g1 : l.getD k [] = l[k] := Gen.getD_cons h1 []
  have hle := getElem_tot l k h1
  refine (rmany_inl (d := ((key, (), (), (), l, (l.length : Int), ((k + 1 : Nat) : Int), ()), (o, writeF l[k] h, h', ()))) ((rMq h0 writeF writeP restP sumH fillK shaP key l l.length k o h h').trans ?_) (m + 1)).trans
   ((mMq key l hl ht o h' m (k + 1) (writeF l[k] h) (by omega) (rest_le _ _)).trans ?_)
  ·have w0 : w ((k : Int) + 1) = ((k + 1 : Nat) : Int) := (w_id (by omega) (by omega)).trans (by omega)
   have e1 : writeP l[k] h = true := decide_eq_true (by omega)
   unfold GM
   simp only [Int.toNat_natCast, g1]
   rw [ite_t (decide_eq_true (show ((k : Int) < (l.length : Int)) by omega)), chk_eval (inArr_nat h1), chk_eval e1, w0]
   rfl
  ·rw [List.drop_eq_getElem_cons h1]
   simp only [zP, List.foldl_cons]
theorem lMq : LoopOK Try.prog (LMq cM1 zP) bM :=
 rloop_ok (L := LMq cM1 zP) (L' := L0) cM_sound (loopsOK_of (by kernel_rfl)) SMq (F := FMq cM1 zP) (i := 4) (by kernel_rfl) (fun _ => rfl) fun xs hs r h => by
  obtain ⟨key, u1, u2, u3, l, n, i, u4⟩ := xs
  obtain ⟨o, hh, h', u5⟩ := hs
  obtain ⟨h1, h2⟩ := Tr.chk_some h
  simp only [cM1, Bool.and_eq_true, decide_eq_true_eq] at h1
  obtain ⟨e1, e2, e3, e4, e5⟩ := h1
  have e1 : n = ((List.length (α := List Int) l : Nat) : Int) := e1
  have e2 : i = ((0 : Nat) : Int) := e2
  subst e1; subst e2
  have := mMq key l e5 e4 o h' (List.length (α := List Int) l) 0 hh (by omega) e3
  rw [List.drop_zero] at this
  exact ⟨_, this.trans (congrArg some (Tr.ret_some h2))⟩
def s29q : CSpec := .slq bs u8 (fun k l => macP k l) d32 fun k l => macF k (List.flatten (α := Int) l)
theorem ok29q : CSound Try.prog 86 s29q ∧ CLocal s29q :=
 slqE1 (L := LMq cM1 zP) cM_sound Try.func86 (by kernel_rfl) (loops1 (by kernel_rfl) lMq) fun key l hx hp =>
  (tMq h0 writeF writeP restP sumH fillK shaP cM1 zP key l).trans (TM_eq hp)
end Go.Proofs.Ytaffancdidgkhaa.Mac
end
section
set_option linter.unusedVariables false
set_option maxRecDepth 100000
namespace Go.Proofs.Ytaffancdidgkhaa.Seal
open Go Vse Go.Proofs Gen
abbrev w16 : Ty := .arr 16 u8
abbrev d32 : Ty := .arr 32 u8
abbrev Fl := List Int → List Int → List Int → List Int
abbrev Pb := List Int → Bool
abbrev Mq := List Int → List (List Int) → List Int
abbrev Pm := List Int → List (List Int) → Bool
def cS (P : Pb) (F : Fl) (pm : Pm) (M : Mq) : List (Nat × CSpec) := [(85, .slp1 [w16, w16, bs] (fun x => P x.2.2.1) bt fun x => F x.1 x.2.1 x.2.2.1), (86, .slq bs u8 (fun k l => pm k l) d32 fun k l => M k l)]
abbrev nS : PSpec := ⟨[w16, bs, .ptr 0 [], .ptr 1 []], [bt, i64], [.box bs, .box w16], [.dead, .dead], []⟩
abbrev all (n : Nat) (l : List Int) : List Int := (l.drop 0).take n
def TS (P : Pb) (F : Fl) (pm : Pm) (M : Mq) (hide seals plain first : List Int) : Tr nS.Out :=
 let a := all 16 first
 let fl := F hide first plain
 let d := fun l => all 32 (M seals [l])
 .ite (decide ((plain.length : Int) > 1000)) (.ret (([], 7, ()), ()))
  (.chk (P plain) (.ite (decide (fl.length = 0))
   (.chk (pm seals [a]) (.ite (decide ((d a).length = 0)) (.ret ((a, 0, ()), ())) (.chk (Vse.room (a.length + (d a).length) 1) (.ret ((a ++ d a, 0, ()), ())))))
   (.chk (Vse.room (a.length + fl.length) 1) (.chk (pm seals [a ++ fl]) (.chk (Vse.room ((a ++ fl).length + (d (a ++ fl)).length) 1) (.ret ((a ++ fl ++ d (a ++ fl), 0, ()), ())))))))
theorem tS (P : Pb) (F : Fl) (pm : Pm) (M : Mq) (hide seals plain first : List Int) :
  (fnP Try.prog (ctx (cS P F pm M)) L0 nS Try.f84 (hide, seals, (), (), ()) (plain, first, ())).eval = (TS P F pm M hide seals plain first).eval := by kernel_rfl
def cO (P : Pb) (F : Fl) (pm : Pm) (M : Mq) (Q : List Int → List Int → Bool) : List (Nat × CSpec) :=
 [(91, .slp1 [bs, bs] (fun _ => true) .bool fun x => Q x.1 x.2.1), (85, .slp1 [w16, w16, bs] (fun x => P x.2.2.1) bt fun x => F x.1 x.2.1 x.2.2.1), (86, .slq bs u8 (fun k l => pm k l) d32 fun k l => M k l)]
abbrev nO : PSpec := ⟨[w16, bs, .ptr 0 []], [bt, i64], [.box bs], [.dead], []⟩
def cut (l : List Int) (lo hi : Int) : List Int := (l.take hi.toNat).drop lo.toNat
def cutOK (l : List Int) (lo hi : Int) : Bool := decide (0 ≤ lo) && (decide (lo ≤ hi) && decide (hi ≤ (l.length : Int)))
def TO (P : Pb) (F : Fl) (pm : Pm) (M : Mq) (Q : List Int → List Int → Bool) (hide seals b : List Int) : Tr nO.Out :=
 let bad := fun n : Int => (.ret (([], n, ()), ()) : Tr nO.Out)
 let front := cut b 0 (w ((b.length : Int) - 32))
 let x := cut front 0 16
 let y := cut front 16 (front.length : Int)
 .ite (decide ((b.length : Int) < 48)) (bad 2) (.ite (decide ((b.length : Int) > 1048)) (bad 7) (.chk (cutOK b 0 (w ((b.length : Int) - 32))) (.chk (cutOK front 0 16) (.chk (cutOK front 16 (front.length : Int))
  (.chk (pm seals [x, y]) (.chk (cutOK b (front.length : Int) (b.length : Int)) (.ite (!Q (all 32 (M seals [x, y])) (cut b (front.length : Int) (b.length : Int))) (bad 6)
   (.chk (cutOK front 0 16) (.chk (decide (16 ≤ x.length)) (.chk (cutOK front 16 (front.length : Int)) (.chk (P y) (.ret ((F hide (x.take 16) y, 0, ()), ())))))))))))))
theorem tO (P : Pb) (F : Fl) (pm : Pm) (M : Mq) (Q : List Int → List Int → Bool) (hide seals b : List Int) :
  (fnP Try.prog (ctx (cO P F pm M Q)) L0 nO Try.f90 (hide, seals, (), ()) (b, ())).eval = (TO P F pm M Q hide seals b).eval := by kernel_rfl
abbrev kS : Nat := 84
abbrev kO : Nat := 90
abbrev fS : Ty := .fn kS (.prod (.ptr 0 []) (.prod (.ptr 1 []) .unit))
abbrev fO : Ty := .fn kO (.prod (.ptr 0 []) .unit)
abbrev Ef := List Int → ByteArray → Int → List Int × Int × Unit
abbrev Pe := List Int → ByteArray → Bool
abbrev nE : PSpec := ⟨[bs, .str, i64], [bt, i64], [], [], []⟩
abbrev Rs := List Int × Int × Unit
def cWS (E : Ef) (pe : Pe) (S : List Int → List Int → List Int → List Int → Rs) (ps : List Int → List Int → List Int → List Int → Bool) : List (Nat × CSpec) :=
 [(116, .pos nE (fun xs _ => pe xs.1 xs.2.1) fun xs _ => (E xs.1 xs.2.1 xs.2.2.1, ())), (84, .pos nS (fun xs hs => ps xs.1 xs.2.1 hs.1 hs.2.1) fun xs hs => (S xs.1 xs.2.1 hs.1 hs.2.1, ()))]
abbrev nWS : PSpec := ⟨[w16, .str, fS], [bt, i64], [.box bs, .box w16], [.dead, .dead], []⟩
def cWO (E : Ef) (pe : Pe) (O : List Int → List Int → List Int → Rs) (po : List Int → List Int → List Int → Bool) : List (Nat × CSpec) :=
 [(116, .pos nE (fun xs _ => pe xs.1 xs.2.1) fun xs _ => (E xs.1 xs.2.1 xs.2.2.1, ())), (90, .pos nO (fun xs hs => po xs.1 xs.2.1 hs.1) fun xs hs => (O xs.1 xs.2.1 hs.1, ()))]
abbrev nWO : PSpec := ⟨[w16, .str, fO], [bt, i64], [.box bs], [.dead], []⟩
def pur : ByteArray := ⟨#[98, 97, 114, 116, 105, 122, 97, 110, 32]⟩
def TW {α : Type} (E : Ef) (pe : Pe) (key : List Int) (s : ByteArray) (out : Rs → α) (p : List Int → List Int → Bool) (D : List Int → List Int → Rs) : Tr α :=
 let r := E (all 16 key) (pur ++ s) 48
 let hide := (cut r.1 0 16).take 16
 let seals := cut r.1 16 (r.1.length : Int)
 .ite (s == ByteArray.empty) (.ret (out ([], 1, ()))) (.ite (decide ((s.size : Int) > 40)) (.ret (out ([], 1, ()))) (.chk (decide (9 + s.size ≤ 9223372036854775807)) (.chk (pe (all 16 key) (pur ++ s))
  (.ite (r.2.1 != 0) (.ret (out ([], r.2.1, ()))) (.chk (cutOK r.1 0 16) (.chk (decide (16 ≤ (cut r.1 0 16).length)) (.chk (cutOK r.1 16 (r.1.length : Int)) (.chk (p hide seals) (.ret (out (D hide seals)))))))))))
theorem tWS (E : Ef) (pe : Pe) (S : List Int → List Int → List Int → List Int → Rs) (ps : List Int → List Int → List Int → List Int → Bool) (key : List Int) (s : ByteArray) (plain first : List Int) :
  (fnP Try.prog (ctx (cWS E pe S ps)) L0 nWS Try.f83 (key, s, ((), (), ()), ()) (plain, first, ())).eval = (TW E pe key s (fun r => (r, ())) (fun h k => ps h k plain first) (fun h k => S h k plain first) : Tr nWS.Out).eval := by kernel_rfl
theorem tWO (E : Ef) (pe : Pe) (O : List Int → List Int → List Int → Rs) (po : List Int → List Int → List Int → Bool) (key : List Int) (s : ByteArray) (b : List Int) :
  (fnP Try.prog (ctx (cWO E pe O po)) L0 nWO Try.f83 (key, s, ((), ()), ()) (b, ())).eval = (TW E pe key s (fun r => (r, ())) (fun h k => po h k b) (fun h k => O h k b) : Tr nWO.Out).eval := by kernel_rfl
def cSe (W : List Int → ByteArray → List Int → List Int → Rs) (pw : List Int → ByteArray → List Int → List Int → Bool) : List (Nat × CSpec) := [(83, .pos nWS (fun xs hs => pw xs.1 xs.2.1 hs.1 hs.2.1) fun xs hs => (W xs.1 xs.2.1 hs.1 hs.2.1, ()))]
abbrev nSe : PSpec := ⟨[w16, .str, w16, bs], [bt, i64], [], [], []⟩
theorem tSe (W : List Int → ByteArray → List Int → List Int → Rs) (pw : List Int → ByteArray → List Int → List Int → Bool) (key : List Int) (s : ByteArray) (first plain : List Int) :
  (fnP Try.prog (ctx (cSe W pw)) L0 nSe Try.f48 (key, s, first, plain, ()) ()).eval = (.chk (pw key s plain first) (.ret (W key s plain first, ())) : Tr nSe.Out).eval := by kernel_rfl
def cOp (W : List Int → ByteArray → List Int → Rs) (pw : List Int → ByteArray → List Int → Bool) : List (Nat × CSpec) := [(83, .pos nWO (fun xs hs => pw xs.1 xs.2.1 hs.1) fun xs hs => (W xs.1 xs.2.1 hs.1, ()))]
abbrev nOp : PSpec := ⟨[w16, .str, bs], [bt, i64], [], [], []⟩
theorem tOp (W : List Int → ByteArray → List Int → Rs) (pw : List Int → ByteArray → List Int → Bool) (key : List Int) (s : ByteArray) (b : List Int) :
  (fnP Try.prog (ctx (cOp W pw)) L0 nOp Try.f51 (key, s, b, ()) ()).eval = (.chk (pw key s b) (.ret (W key s b, ())) : Tr nOp.Out).eval := by kernel_rfl
end Go.Proofs.Ytaffancdidgkhaa.Seal
end
section
set_option linter.unusedVariables false
set_option maxRecDepth 100000
namespace Go.Proofs.Ytaffancdidgkhaa.Seal
open Go Vse Go.Proofs Gen
abbrev nK : PSpec := ⟨[w16, .str], [w16, bt], [], [], []⟩
def cK (E : Ef) (pe : Pe) : List (Nat × CSpec) := [(122, .pos nE (fun xs _ => pe xs.1 xs.2.1) fun xs _ => (E xs.1 xs.2.1 xs.2.2.1, ()))]
noncomputable def bK : Code := loopAt Try.f87 0
abbrev eK : List ETy := [.dead, .box w16, .box w16]
def SK : RSpec := ⟨[4, 6, 8, 9], 31, [.ptr 1 [], bt, .ptr 2 [], i64], eK, [.box w16, .box w16, .box w16], [], fun _ => ([4, 6, 8], [.ptr 1 [], bt, .ptr 2 []], eK)⟩
def GK (b : List Int) (i : Int) (r h : List Int) : Tr SK.End :=
 .ite (decide (i < 16)) (.chk (inArr i b.length) (.chk (inArrK .i64 i 16) (.ret (.inl (((), b, (), w (i + 1), ()), (r, h.set i.toNat (b.getD i.toNat 0), ()))))))
  (.ret (.inr (.exit 0, encS [4, 6, 8] [.ptr 1 [], bt, .ptr 2 []] eK 31 ((), b, (), ()) (r, h, ()))))
theorem rK (E : Ef) (pe : Pe) (b : List Int) (i : Int) (r h : List Int) : (SK.round (bodyK Try.prog (ctx (cK E pe)) L0 bK) ((), b, (), i, ()) (r, h, ())).eval = (GK b i r h).eval := by kernel_rfl
def FK (c : List Int → Int → List Int → Bool) (X : List Int → List Int) (xs : HL SK.Ts) (hs : HD SK.Es) : Tr (Ex × St) :=
 .chk (c xs.2.1 xs.2.2.2.1 hs.2.1) (.ret (.exit 0, encS [4, 6, 8] [.ptr 1 [], bt, .ptr 2 []] eK 31 ((), xs.2.1, (), ()) (hs.1, X xs.2.1, ())))
def LK (c : List Int → Int → List Int → Bool) (X : List Int → List Int) : Loops := fun j st => if j = 4 then SK.fn (FK c X) st else .fail
abbrev z16 : List Int := List.replicate 16 0
def TK (E : Ef) (pe : Pe) (c : List Int → Int → List Int → Bool) (X : List Int → List Int) (key : List Int) (s : ByteArray) : Tr nK.Out :=
 let b := (E (all 16 key) (pur ++ s) 48).1
 .chk (decide (9 + s.size ≤ 9223372036854775807)) (.chk (pe (all 16 key) (pur ++ s)) (.chk (c b 0 z16) (.chk (cutOK b 16 (b.length : Int)) (.ret ((X b, cut b 16 (b.length : Int), ()), ())))))
theorem tK (E : Ef) (pe : Pe) (c : List Int → Int → List Int → Bool) (X : List Int → List Int) (key : List Int) (s : ByteArray) :
  (fnP Try.prog (ctx (cK E pe)) (LK c X) nK Try.f87 (key, s, ()) ()).eval = (TK E pe c X key s).eval := by kernel_rfl
abbrev Kf := List Int → ByteArray → List Int × List Int × Unit
abbrev F2 := List Int → List Int → List Int
abbrev P2 := List Int → List Int → Bool
def cR (K : Kf) (pk : Pe) (P : Pb) (F : Fl) (pr : P2) (R : F2) : List (Nat × CSpec) :=
 [(87, .pos nK (fun xs _ => pk xs.1 xs.2.1) fun xs _ => (K xs.1 xs.2.1, ())), (88, .slp1 [w16, w16, bs] (fun x => P x.2.2.1) bt fun x => F x.1 x.2.1 x.2.2.1), (89, .slp1 [bs, bs] (fun x => pr x.1 x.2.1) d32 fun x => R x.1 x.2.1), (19, sSame)]
def TRS (K : Kf) (pk : Pe) (P : Pb) (F : Fl) (pr : P2) (R : F2) (key : List Int) (s : ByteArray) (first plain : List Int) : Tr nSe.Out :=
 let bad := fun n : Int => (.ret (([], n, ()), ()) : Tr nSe.Out)
 let o1 : List Int := [] ++ all 16 first
 let o2 := o1 ++ F (K key s).1 first plain
 let d := all 32 (R (K key s).2.1 o2)
 .ite (s == ByteArray.empty) (bad 1) (.ite (decide ((s.size : Int) > 40)) (bad 1) (.ite (decide ((plain.length : Int) > 1000)) (bad 7) (.chk (pk key s) (.chk (Vse.room (([] : List Int).length + (all 16 first).length) 1) (.chk (P plain)
  (.chk (Vse.room (o1.length + (F (K key s).1 first plain).length) 1) (.chk (pr (K key s).2.1 o2) (.chk (Vse.room (o2.length + d.length) 1) (.ret ((o2 ++ d, 0, ()), ()))))))))))
theorem tRS (K : Kf) (pk : Pe) (P : Pb) (F : Fl) (pr : P2) (R : F2) (key : List Int) (s : ByteArray) (first plain : List Int) :
  (fnP Try.prog (ctx (cR K pk P F pr R)) L0 nSe Try.f50 (key, s, first, plain, ()) ()).eval = (TRS K pk P F pr R key s first plain).eval := by kernel_rfl
noncomputable def bO : Code := loopAt Try.f53 0
abbrev eO : List ETy := [.dead, .box w16, .dead, .dead, .dead, .box w16]
def SO : RSpec := ⟨[2, 8, 10, 12, 13], 67, [bs, .ptr 1 [], bs, .ptr 5 [], i64], eO, [.box w16, .box w16, .vec 1 u8, .dead, .box d32, .box w16], [], fun _ => ([8, 10, 12], [.ptr 1 [], bs, .ptr 5 []], eO)⟩
def GO (b front : List Int) (i : Int) (h f : List Int) : Tr SO.End :=
 .ite (decide (i < 16)) (.chk (inArr i b.length) (.chk (inArrK .i64 i 16) (.ret (.inl ((b, (), front, (), w (i + 1), ()), (h, f.set i.toNat (b.getD i.toNat 0), ()))))))
  (.ret (.inr (.exit 0, encS [8, 10, 12] [.ptr 1 [], bs, .ptr 5 []] eO 67 ((), front, (), ()) (h, f, ()))))
theorem rO (K : Kf) (pk : Pe) (P : Pb) (F : Fl) (pr : P2) (R : F2) (b front : List Int) (i : Int) (h f : List Int) :
  (SO.round (bodyK Try.prog (ctx (cR K pk P F pr R)) L0 bO) (b, (), front, (), i, ()) (h, f, ())).eval = (GO b front i h f).eval := by kernel_rfl
def FO (c : List Int → Int → List Int → Bool) (X : List Int → List Int) (xs : HL SO.Ts) (hs : HD SO.Es) : Tr (Ex × St) :=
 .chk (c xs.1 xs.2.2.2.2.1 hs.2.1) (.ret (.exit 0, encS [8, 10, 12] [.ptr 1 [], bs, .ptr 5 []] eO 67 ((), xs.2.2.1, (), ()) (hs.1, X xs.1, ())))
def LO (c : List Int → Int → List Int → Bool) (X : List Int → List Int) : Loops := fun j st => if j = 14 then SO.fn (FO c X) st else .fail
def TRO (K : Kf) (pk : Pe) (P : Pb) (F : Fl) (pr : P2) (R : F2) (c : List Int → Int → List Int → Bool) (X : List Int → List Int) (key : List Int) (s : ByteArray) (b : List Int) : Tr nOp.Out :=
 let bad := fun n : Int => (.ret (([], n, ()), ()) : Tr nOp.Out)
 let n := w ((b.length : Int) - 32)
 let front := cut b 0 n
 let y := cut front 16 (front.length : Int)
 .ite (s == ByteArray.empty) (bad 1) (.ite (decide ((s.size : Int) > 40)) (bad 1) (.ite (decide ((b.length : Int) < 48)) (bad 2) (.ite (decide ((b.length : Int) > 1048)) (bad 7) (.chk (pk key s) (.chk (cutOK b 0 n)
  (.chk (Vse.room (([] : List Int).length + front.length) 1) (.chk (pr (K key s).2.1 ([] ++ front)) (.chk (cutOK b n (b.length : Int)) (.ite (!sameI (all 32 (R (K key s).2.1 ([] ++ front))) (cut b n (b.length : Int))) (bad 6)
   (.chk (c b 0 z16) (.chk (cutOK front 16 (front.length : Int)) (.chk (P y) (.ret ((F (K key s).1 (X b) y, 0, ()), ()))))))))))))))
theorem tRO (K : Kf) (pk : Pe) (P : Pb) (F : Fl) (pr : P2) (R : F2) (c : List Int → Int → List Int → Bool) (X : List Int → List Int) (key : List Int) (s : ByteArray) (b : List Int) :
  (fnP Try.prog (ctx (cR K pk P F pr R)) (LO c X) nOp Try.f53 (key, s, b, ()) ()).eval = (TRO K pk P F pr R c X key s b).eval := by kernel_rfl
end Go.Proofs.Ytaffancdidgkhaa.Seal
end
section
section
set_option linter.unusedVariables false
set_option maxRecDepth 100000
namespace Go.Proofs.Ytaffancdidgkhaa.Ctr
open Go Vse Go.Proofs Gen
abbrev w16 : Ty := .arr 16 u8
abbrev u64 : Ty := .int .u64
noncomputable def bN : Code := loopAt Try.f146 0
abbrev eN : List ETy := [.box w16, .box w16]
def SN : RSpec := ⟨[1, 2, 4, 5, 6], 29, [u64, .ptr 0 [], .ptr 1 [], u64, i64], eN, eN, [], fun _ => ([2, 4], [.ptr 0 [], .ptr 1 []], eN)⟩
def sumN (by_ carry x : Int) : Int := wu (carry + wu (wu x + andI .u64 by_ 255))
def GN (by_ carry i : Int) (q r : List Int) : Tr SN.End :=
 let c := sumN by_ carry (q.getD i.toNat 0)
 .ite (decide (i ≥ 0)) (.chk (inArrK .i64 i 16) (.chk (inArrK .i64 i 16) (.ret (.inl ((shrI .u64 by_ 8, (), (), shrI .u64 c 8, w (i - 1), ()), (q.set i.toNat (wb c), r, ()))))))
  (.ret (.inr (.exit 0, encS [2, 4] [.ptr 0 [], .ptr 1 []] eN 29 ((), (), ()) (q, r, ()))))
theorem rN (by_ carry i : Int) (q r : List Int) : (SN.round (bodyK Try.prog (ctx []) L0 bN) (by_, (), (), carry, i, ()) (q, r, ())).eval = (GN by_ carry i q r).eval := by kernel_rfl
def FN (c : Int → Int → List Int → Bool) (X : Int → List Int → List Int) (xs : HL SN.Ts) (hs : HD SN.Es) : Tr (Ex × St) :=
 .chk (c xs.2.2.2.1 xs.2.2.2.2.1 hs.1) (.ret (.exit 0, encS [2, 4] [.ptr 0 [], .ptr 1 []] eN 29 ((), (), ()) (X xs.1 hs.1, hs.2.1, ())))
def LN (c : Int → Int → List Int → Bool) (X : Int → List Int → List Int) : Loops := fun j st => if j = 3 then SN.fn (FN c X) st else .fail
def TN (c : Int → Int → List Int → Bool) (X : Int → List Int → List Int) (at_ : List Int) (by_ : Int) : Tr AV := .chk (c 0 15 at_) (.ret (.v w16 (X by_ at_)))
theorem tN (c : Int → Int → List Int → Bool) (X : Int → List Int → List Int) (at_ : List Int) (by_ : Int) :
  nrm (fnS Try.prog (ctx []) (LN c X) [w16] Try.f146 (mkArgs [w16, u64] (at_, by_, ()))) = (TN c X at_ by_).eval := by kernel_rfl
noncomputable def bR : Code := loopAt Try.f124 0
def SR : RSpec := ⟨[1, 2, 4, 5, 6], 31, [u64, .ptr 0 [], .ptr 1 [], u64, i64], eN, eN, [], fun _ => ([2, 4], [.ptr 0 [], .ptr 1 []], eN)⟩
def sumR (by_ carry x : Int) : Int := wu (wu (wu x + by_.tmod 256) + carry)
def GR (by_ carry i : Int) (q r : List Int) : Tr SR.End :=
 let c := sumR by_ carry (q.getD i.toNat 0)
 .ite (decide (i ≥ 0)) (.chk (inArrK .i64 i 16) (.chk (inArrK .i64 i 16) (.ret (.inl ((wu (by_.tdiv 256), (), (), wu (c.tdiv 256), w (i - 1), ()), (q.set i.toNat (wb (c.tmod 256)), r, ()))))))
  (.ret (.inr (.exit 0, encS [2, 4] [.ptr 0 [], .ptr 1 []] eN 31 ((), (), ()) (q, r, ()))))
theorem rR (by_ carry i : Int) (q r : List Int) : (SR.round (bodyK Try.prog (ctx []) L0 bR) (by_, (), (), carry, i, ()) (q, r, ())).eval = (GR by_ carry i q r).eval := by kernel_rfl
def FR (c : Int → Int → List Int → Bool) (X : Int → List Int → List Int) (xs : HL SR.Ts) (hs : HD SR.Es) : Tr (Ex × St) :=
 .chk (c xs.2.2.2.1 xs.2.2.2.2.1 hs.1) (.ret (.exit 0, encS [2, 4] [.ptr 0 [], .ptr 1 []] eN 31 ((), (), ()) (X xs.1 hs.1, hs.2.1, ())))
def LR (c : Int → Int → List Int → Bool) (X : Int → List Int → List Int) : Loops := fun j st => if j = 3 then SR.fn (FR c X) st else .fail
theorem tR (c : Int → Int → List Int → Bool) (X : Int → List Int → List Int) (at_ : List Int) (by_ : Int) :
  nrm (fnS Try.prog (ctx []) (LR c X) [w16] Try.f124 (mkArgs [w16, u64] (at_, by_, ()))) = (TN c X at_ by_).eval := by kernel_rfl
abbrev Nx := List Int → Int → List Int
abbrev En := List Int → List Int → List Int
def cF (N : Nx) (E : En) : List (Nat × CSpec) := [(124, .slp1 [w16, u64] (fun _ => true) w16 fun x => N x.1 x.2.1), (123, .fn1 [w16, w16] w16 fun x => E x.1 x.2.1)]
noncomputable def bF : Code := loopAt Try.f88 0
abbrev eF : List ETy := [.box w16, .box w16, .box w16, .vec 0 u8]
def SF : RSpec := ⟨[2, 3, 4, 7, 8, 9], 40, [bs, .ptr 0 [], .ptr 1 [], .vc 3 0, .ptr 2 [], i64], eF, [.box w16, .box w16, .box w16], [.slot 7 u8], fun _ => ([7], [.vc 3 0], [.dead, .dead, .dead, .vec 0 u8])⟩
def GF (N : Nx) (E : En) (b : List Int) (i : Int) (key at_ made out : List Int) : Tr SF.End :=
 let step (m : List Int) : Tr SF.End := .chk (inArr i b.length) (.chk (inArrK .i64 (i.tmod 16) 16) (.chk (Vse.room (out.length + [xorI .u8 (b.getD i.toNat 0) (m.getD (i.tmod 16).toNat 0)].length) 1)
  (.ret (.inl ((b, (), (), (), (), w (i + 1), ()), (key, at_, m, out ++ [xorI .u8 (b.getD i.toNat 0) (m.getD (i.tmod 16).toNat 0)], ()))))))
 .ite (decide (i < (b.length : Int))) (.ite (i.tmod 16 == 0) (step (E key (N at_ (wu (w (i.tdiv 16)))))) (step made))
  (.ret (.inr (.exit 0, encS [7] [.vc 3 0] [.dead, .dead, .dead, .vec 0 u8] 40 ((), ()) (out, ()))))
theorem rF (N : Nx) (E : En) (b : List Int) (i : Int) (key at_ made out : List Int) :
  (SF.round (bodyK Try.prog (ctx (cF N E)) L0 bF) (b, (), (), (), (), i, ()) (key, at_, made, out, ())).eval = (GF N E b i key at_ made out).eval := by kernel_rfl
def z16 : List Int := [0, 0, 0, 0, 0, 0, 0, 0, 0, 0, 0, 0, 0, 0, 0, 0]
def FF (c : List Int → Int → List Int → List Int → List Int → Bool) (X : List Int → List Int → List Int → List Int) (xs : HL SF.Ts) (hs : HD SF.Es) : Tr (Ex × St) :=
 .chk (c xs.1 xs.2.2.2.2.2.1 hs.2.1 hs.2.2.1 hs.2.2.2.1) (.ret (.exit 0, encS [7] [.vc 3 0] [.dead, .dead, .dead, .vec 0 u8] 40 ((), ()) (X hs.1 hs.2.1 xs.1, ())))
def LF (c : List Int → Int → List Int → List Int → List Int → Bool) (X : List Int → List Int → List Int → List Int) : Loops := fun j st => if j = 4 then SF.fn (FF c X) st else .fail
def TF (c : List Int → Int → List Int → List Int → List Int → Bool) (X : List Int → List Int → List Int → List Int) (key at_ b : List Int) : Tr AV := .chk (c b 0 at_ z16 []) (.ret (.v bt (X key at_ b)))
theorem tF (N : Nx) (E : En) (c : List Int → Int → List Int → List Int → List Int → Bool) (X : List Int → List Int → List Int → List Int) (key at_ b : List Int) :
  nrm (fnS Try.prog (ctx (cF N E)) (LF c X) [bt] Try.f88 (mkArgs [w16, w16, bs] (key, at_, b, ()))) = (TF c X key at_ b).eval := by kernel_rfl
end Go.Proofs.Ytaffancdidgkhaa.Ctr
end
section
set_option linter.unusedVariables false
set_option maxRecDepth 100000
namespace Go.Proofs.Ytaffancdidgkhaa.Ctr
open Go Vse Go.Proofs Gen
theorem inArrK64 {i : Int} {n : Nat} (hn : (n : Int) ≤ 9223372036854775807) (h0 : 0 ≤ i) (h1 : i < (n : Int)) : inArrK .i64 i n = true := by
 have e : (decide (0 ≤ IntKind.i64.min) && decide (IntKind.i64.max < (n : Int))) = false := by
  have : decide (0 ≤ IntKind.i64.min) = false := by decide
  rw [this]; rfl
 unfold inArrK
 rw [e]
 simp only [inArr, Bool.and_eq_true, decide_eq_true_eq]
 exact ⟨h0, h1⟩
theorem inArr_nat {k n : Nat} (h : k < n) : inArr (k : Int) n = true := by simp only [inArr, Bool.and_eq_true, decide_eq_true_eq]; omega
theorem wb_mod (x : Int) : wb x = x % 256 := by
 simp [IntKind.wrap, IntKind.signed, IntKind.bits]
theorem wu_mod (x : Int) : wu x = x % 18446744073709551616 := by
 simp [IntKind.wrap, IntKind.signed, IntKind.bits]
def nxL (by_ carry : Int) : Nat → List Int → List Int
 | 0, q => q
 | m + 1, q => nxL (shrI .u64 by_ 8) (shrI .u64 (sumN by_ carry (q.getD m 0)) 8) m (q.set m (wb (sumN by_ carry (q.getD m 0))))
def nextF (at_ : List Int) (by_ : Int) : List Int := nxL by_ 0 16 at_
def cN (carry i : Int) (q : List Int) : Bool := decide (carry = 0) && (decide (i = 15) && decide (q.length = 16))
theorem nxL_len : ∀ (m : Nat) (by_ carry : Int) (q : List Int), (nxL by_ carry m q).length = q.length
 | 0, _, _, _ => rfl
 | m + 1, by_, carry, q => by rw [nxL, nxL_len m, List.length_set]
theorem mN (r : List Int) : ∀ (m : Nat) (by_ carry : Int) (q : List Int), m ≤ 16 →
  SN.many (bodyK Try.prog (ctx []) L0 bN) (m + 1) (by_, (), (), carry, (m : Int) - 1, ()) (q, r, ()) = some (.exit 0, encS [2, 4] [.ptr 0 [], .ptr 1 []] eN 29 ((), (), ()) (nxL by_ carry m q, r, ()))
 | 0, by_, carry, q, h => by
  refine rmany_inr ((rN by_ carry _ q r).trans ?_) 0
  unfold GN
  simp only
  rw [ite_f (decide_eq_false (by omega))]
  rfl
 | m + 1, by_, carry, q, h => by
  have e1 : ((m + 1 : Nat) : Int) - 1 = (m : Int) := by omega
  rw [e1]
  refine (rmany_inl (d := ((shrI .u64 by_ 8, (), (), shrI .u64 (sumN by_ carry (q.getD m 0)) 8, (m : Int) - 1, ()), (q.set m (wb (sumN by_ carry (q.getD m 0))), r, ()))) ((rN by_ carry _ q r).trans ?_) (m + 1)).trans (mN r m _ _ _ (by omega))
  unfold GN
  simp only [Int.toNat_natCast]
  rw [ite_t (decide_eq_true (by omega)), chk_eval (inArrK64 (by omega) (by omega) (by omega)), chk_eval (inArrK64 (by omega) (by omega) (by omega)), w_id (by omega) (by omega)]
  rfl
theorem lN : LoopOK Try.prog (LN cN (fun by_ q => nextF q by_)) bN :=
 rloop_ok (L := LN cN (fun by_ q => nextF q by_)) (L' := L0) nil_sound (loopsOK_of (by kernel_rfl)) SN (F := FN cN (fun by_ q => nextF q by_)) (i := 3) (by kernel_rfl) (fun _ => rfl) fun xs hs r h => by
  obtain ⟨by_, u1, u2, carry, i, u3⟩ := xs
  obtain ⟨q, c, u4⟩ := hs
  obtain ⟨h1, h2⟩ := Tr.chk_some h
  simp only [cN, Bool.and_eq_true, decide_eq_true_eq] at h1
  obtain ⟨e1, e2, e3⟩ := h1
  have e2 : i = ((16 : Nat) : Int) - 1 := e2
  subst e1; subst e2
  exact ⟨_, (mN c 16 by_ 0 q (by omega)).trans (congrArg some (Tr.ret_some h2))⟩
def s26 : CSpec := .slp1 [w16, u64] (fun _ => true) w16 fun x => nextF x.1 x.2.1
theorem ok26 : CSound Try.prog 146 s26 ∧ CLocal s26 :=
 slpE1 (L := LN cN (fun by_ q => nextF q by_)) nil_sound Try.func146 (by kernel_rfl) (loops1 (by kernel_rfl) lN) fun xs hx hp => by
  obtain ⟨at_, by_, u⟩ := xs
  have hl : List.length (α := Int) at_ = 16 := hx.1.1
  have e1 : cN 0 15 at_ = true := by simp only [cN, Bool.and_eq_true, decide_eq_true_eq, true_and]; exact hl
  refine (tN cN (fun by_ q => nextF q by_) at_ by_).trans ?_
  have : (TN cN (fun by_ q => nextF q by_) at_ by_).eval = some (.v w16 (nextF at_ by_)) := by
   unfold TN
   rw [chk_eval e1]
   rfl
  exact this
def rnL (by_ carry : Int) : Nat → List Int → List Int
 | 0, q => q
 | m + 1, q => rnL (wu (by_.tdiv 256)) (wu ((sumR by_ carry (q.getD m 0)).tdiv 256)) m (q.set m (wb ((sumR by_ carry (q.getD m 0)).tmod 256)))
def rnextF (at_ : List Int) (by_ : Int) : List Int := rnL by_ 0 16 at_
theorem mR (r : List Int) : ∀ (m : Nat) (by_ carry : Int) (q : List Int), m ≤ 16 →
  SR.many (bodyK Try.prog (ctx []) L0 bR) (m + 1) (by_, (), (), carry, (m : Int) - 1, ()) (q, r, ()) = some (.exit 0, encS [2, 4] [.ptr 0 [], .ptr 1 []] eN 31 ((), (), ()) (rnL by_ carry m q, r, ()))
 | 0, by_, carry, q, h => by
  refine rmany_inr ((rR by_ carry _ q r).trans ?_) 0
  unfold GR
  simp only
  rw [ite_f (decide_eq_false (by omega))]
  rfl
 | m + 1, by_, carry, q, h => by
  have e1 : ((m + 1 : Nat) : Int) - 1 = (m : Int) := by omega
  rw [e1]
  refine (rmany_inl (d := ((wu (by_.tdiv 256), (), (), wu ((sumR by_ carry (q.getD m 0)).tdiv 256), (m : Int) - 1, ()), (q.set m (wb ((sumR by_ carry (q.getD m 0)).tmod 256)), r, ()))) ((rR by_ carry _ q r).trans ?_) (m + 1)).trans (mR r m _ _ _ (by omega))
  unfold GR
  simp only [Int.toNat_natCast]
  rw [ite_t (decide_eq_true (by omega)), chk_eval (inArrK64 (by omega) (by omega) (by omega)), chk_eval (inArrK64 (by omega) (by omega) (by omega)), w_id (by omega) (by omega)]
  rfl
theorem lR : LoopOK Try.prog (LR cN (fun by_ q => rnextF q by_)) bR :=
 rloop_ok (L := LR cN (fun by_ q => rnextF q by_)) (L' := L0) nil_sound (loopsOK_of (by kernel_rfl)) SR (F := FR cN (fun by_ q => rnextF q by_)) (i := 3) (by kernel_rfl) (fun _ => rfl) fun xs hs r h => by
  obtain ⟨by_, u1, u2, carry, i, u3⟩ := xs
  obtain ⟨q, c, u4⟩ := hs
  obtain ⟨h1, h2⟩ := Tr.chk_some h
  simp only [cN, Bool.and_eq_true, decide_eq_true_eq] at h1
  obtain ⟨e1, e2, e3⟩ := h1
  have e2 : i = ((16 : Nat) : Int) - 1 := e2
  subst e1; subst e2
  exact ⟨_, (mR c 16 by_ 0 q (by omega)).trans (congrArg some (Tr.ret_some h2))⟩
def s27 : CSpec := .slp1 [w16, u64] (fun _ => true) w16 fun x => rnextF x.1 x.2.1
theorem ok27 : CSound Try.prog 124 s27 ∧ CLocal s27 :=
 slpE1 (L := LR cN (fun by_ q => rnextF q by_)) nil_sound Try.func124 (by kernel_rfl) (loops1 (by kernel_rfl) lR) fun xs hx hp => by
  obtain ⟨at_, by_, u⟩ := xs
  have hl : List.length (α := Int) at_ = 16 := hx.1.1
  have e1 : cN 0 15 at_ = true := by simp only [cN, Bool.and_eq_true, decide_eq_true_eq, true_and]; exact hl
  refine (tR cN (fun by_ q => rnextF q by_) at_ by_).trans ?_
  have : (TN cN (fun by_ q => rnextF q by_) at_ by_).eval = some (.v w16 (rnextF at_ by_)) := by
   unfold TN
   rw [chk_eval e1]
   rfl
  exact this
def Bytes (l : List Int) : Prop := ∀ x ∈ l, 0 ≤ x ∧ x < 256
theorem bytes_get {q : List Int} (h : Bytes q) (m : Nat) : ∃ c : Nat, q.getD m 0 = (c : Int) ∧ c < 256 := by
 rw [List.getD_eq_getElem?_getD]
 cases hq : q[m]? with
 | none => exact ⟨0, rfl, by omega⟩
 | some x =>
  have := h x (List.mem_of_getElem? hq)
  exact ⟨x.toNat, by simp only [Option.getD_some]; omega, by omega⟩
theorem bytes_put {q : List Int} (h : Bytes q) (m : Nat) (x : Int) : Bytes (q.set m (wb x)) := fun y hy => by
 rcases List.mem_or_eq_of_mem_set hy with h' | rfl
 ·exact h y h'
 ·rw [wb_mod]; omega
theorem sumN_nat {b c x : Nat} (hb : b < 18446744073709551616) (hc : c < 4294967296) (hx : x < 256) : sumN (b : Int) (c : Int) (x : Int) = ((x + b % 256 + c : Nat) : Int) := by
 have h1 : andI .u64 (b : Int) 255 = ((b % 256 : Nat) : Int) := by
  have e := andI_nat (k := .u64) (m := b) (n := 255) (by rw [max_u64]; omega) (by rw [max_u64]; omega)
  have e2 : b &&& 255 = b % 256 := Nat.and_two_pow_sub_one_eq_mod b 8
  rw [e2] at e
  exact e
 unfold sumN
 rw [h1, wu_mod, wu_mod, wu_mod]
 omega
theorem sumR_nat {b c x : Nat} (hb : b < 18446744073709551616) (hc : c < 4294967296) (hx : x < 256) : sumR (b : Int) (c : Int) (x : Int) = ((x + b % 256 + c : Nat) : Int) := by
 have h1 : (b : Int).tmod 256 = ((b % 256 : Nat) : Int) := by rw [Int.tmod_eq_emod_of_nonneg (by omega)]; omega
 unfold sumR
 rw [h1, wu_mod, wu_mod, wu_mod]
 omega
theorem shr8 (n : Nat) : shrI .u64 (n : Int) 8 = ((n / 256 : Nat) : Int) := by
 unfold shrI
 show (n : Int).fdiv (2 ^ (min (8 : Int).toNat 64)) = _
 have : min (8 : Int).toNat 64 = 8 := by decide
 rw [this, Int.fdiv_eq_ediv_of_nonneg _ (by decide)]
 omega
theorem div8 {n : Nat} (h : n < 18446744073709551616) : wu ((n : Int).tdiv 256) = ((n / 256 : Nat) : Int) := by
 rw [Int.tdiv_eq_ediv_of_nonneg (by omega), wu_mod]
 omega
theorem next_same : ∀ (m : Nat) (b c : Nat) (q : List Int), b < 18446744073709551616 → c ≤ 2 → Bytes q → nxL (b : Int) (c : Int) m q = rnL (b : Int) (c : Int) m q
 | 0, _, _, _, _, _, _ => rfl
 | m + 1, b, c, q, hb, hc, hq => by
  obtain ⟨x, hx, hx2⟩ := bytes_get hq m
  rw [nxL, rnL, hx, sumN_nat hb (by omega) hx2, sumR_nat hb (by omega) hx2, shr8, shr8, div8 hb, div8 (by omega)]
  have h1 : wb (((x + b % 256 + c : Nat) : Int).tmod 256) = wb ((x + b % 256 + c : Nat) : Int) := by
   rw [Int.tmod_eq_emod_of_nonneg (by omega), wb_mod, wb_mod]; omega
  rw [h1]
  exact next_same m _ _ _ (by omega) (by omega) (bytes_put hq _ _)
def val (q : List Int) : Nat → Nat
 | 0 => 0
 | m + 1 => val q m * 256 + (q.getD m 0).toNat
theorem val_set : ∀ (m k : Nat) (q : List Int) (x : Int), m ≤ k → val (q.set k x) m = val q m
 | 0, _, _, _, _ => rfl
 | m + 1, k, q, x, h => by
  have : (q.set k x).getD m 0 = q.getD m 0 := by
   rw [List.getD_eq_getElem?_getD, List.getElem?_set_ne (by omega), List.getD_eq_getElem?_getD]
  rw [val, val, val_set m k q x (by omega), this]
theorem val_lt {q : List Int} (h : Bytes q) : ∀ m, val q m < 256 ^ m
 | 0 => by simp [val]
 | m + 1 => by
  obtain ⟨x, hx, hx2⟩ := bytes_get h m
  have := val_lt h m
  rw [val, hx, Int.toNat_natCast, Nat.pow_succ]
  omega
theorem nxL_get : ∀ (m : Nat) (by_ carry : Int) (q : List Int) (k : Nat), m ≤ k → (nxL by_ carry m q).getD k 0 = q.getD k 0
 | 0, _, _, _, _, _ => rfl
 | m + 1, by_, carry, q, k, h => by
  rw [nxL, nxL_get m _ _ _ k (by omega), List.getD_eq_getElem?_getD, List.getElem?_set_ne (by omega), List.getD_eq_getElem?_getD]
theorem bytes_nxL : ∀ (m : Nat) (by_ carry : Int) (q : List Int), Bytes q → Bytes (nxL by_ carry m q)
 | 0, _, _, _, h => h
 | m + 1, by_, carry, q, h => by
  rw [nxL]
  exact bytes_nxL m _ _ _ (bytes_put h _ _)
theorem nxL_val : ∀ (m : Nat) (b c : Nat) (q : List Int), b < 18446744073709551616 → c ≤ 2 → Bytes q → m ≤ q.length → val (nxL (b : Int) (c : Int) m q) m = (val q m + b + c) % 256 ^ m
 | 0, b, c, q, _, _, _, _ => by simp [val, Nat.mod_one]
 | m + 1, b, c, q, hb, hc, hq, hl => by
  obtain ⟨x, hx, hx2⟩ := bytes_get hq m
  have hs : wb ((x + b % 256 + c : Nat) : Int) = (((x + b % 256 + c) % 256 : Nat) : Int) := by rw [wb_mod]; omega
  have ih := nxL_val m (b / 256) ((x + b % 256 + c) / 256) (q.set m (wb ((x + b % 256 + c : Nat) : Int))) (by omega) (by omega) (bytes_put hq _ _) (by rw [List.length_set]; omega)
  rw [val_set m m q _ (Nat.le_refl m)] at ih
  have hg : (nxL ((b / 256 : Nat) : Int) (((x + b % 256 + c) / 256 : Nat) : Int) m (q.set m (wb ((x + b % 256 + c : Nat) : Int)))).getD m 0 = (((x + b % 256 + c) % 256 : Nat) : Int) := by
   rw [nxL_get m _ _ _ m (Nat.le_refl m), List.getD_eq_getElem?_getD, List.getElem?_set_self (by omega), hs]
   rfl
  rw [nxL, hx, sumN_nat hb (by omega) hx2, shr8, shr8, val, ih, hg, Int.toNat_natCast, val, hx, Int.toNat_natCast, Nat.pow_succ]
  have key : val q m * 256 + x + b + c = (val q m + b / 256 + (x + b % 256 + c) / 256) * 256 + (x + b % 256 + c) % 256 := by omega
  rw [key]
  generalize val q m + b / 256 + (x + b % 256 + c) / 256 = y
  have hr : (x + b % 256 + c) % 256 < 256 := Nat.mod_lt _ (by omega)
  generalize (x + b % 256 + c) % 256 = r at hr
  have hp : 0 < 256 ^ m := Nat.pow_pos (by omega)
  generalize 256 ^ m = p at hp
  have e1 : (y * 256 + r) / 256 = y := by omega
  have e2 : (y * 256 + r) % 256 = r := by omega
  rw [Nat.mul_comm p 256, Nat.mod_mul, e1, e2]
  omega
theorem val_inj : ∀ (m : Nat) (p q : List Int), Bytes p → Bytes q → val p m = val q m → ∀ k, k < m → p.getD k 0 = q.getD k 0
 | 0, _, _, _, _, _, k, hk => by omega
 | m + 1, p, q, hp, hq, h, k, hk => by
  obtain ⟨x, hx, hx2⟩ := bytes_get hp m
  obtain ⟨y, hy, hy2⟩ := bytes_get hq m
  rw [val, val, hx, hy, Int.toNat_natCast, Int.toNat_natCast] at h
  by_cases hkm : k = m
  ·subst hkm
   rw [hx, hy]; omega
  ·exact val_inj m p q hp hq (by omega) k (by omega)
theorem ext16 {p q : List Int} (hp : p.length = 16) (hq : q.length = 16) (h : ∀ k, k < 16 → p.getD k 0 = q.getD k 0) : p = q := by
 apply List.ext_getElem (by omega)
 intro i h1 h2
 have := h i (by omega)
 rw [List.getD_eq_getElem?_getD, List.getD_eq_getElem?_getD, List.getElem?_eq_getElem h1, List.getElem?_eq_getElem h2] at this
 exact this
theorem next_len (at_ : List Int) (by_ : Int) : (nextF at_ by_).length = at_.length := nxL_len 16 by_ 0 at_
theorem next_bytes {at_ : List Int} (h : Bytes at_) (by_ : Int) : Bytes (nextF at_ by_) := bytes_nxL 16 by_ 0 at_ h
theorem next_val {at_ : List Int} (h : Bytes at_) (hl : at_.length = 16) {b : Nat} (hb : b < 18446744073709551616) : val (nextF at_ (b : Int)) 16 = (val at_ 16 + b) % 256 ^ 16 := by
 have := nxL_val 16 b 0 at_ hb (by omega) h (by omega)
 exact this
theorem next_add {at_ : List Int} (h : Bytes at_) (hl : at_.length = 16) {a b : Nat} (hab : a + b < 18446744073709551616) : nextF (nextF at_ (a : Int)) (b : Int) = nextF at_ ((a + b : Nat) : Int) := by
 have h1 := next_bytes h (a : Int)
 refine ext16 (by rw [next_len, next_len, hl]) (by rw [next_len, hl]) (val_inj 16 _ _ (next_bytes h1 _) (next_bytes h _) ?_)
 rw [next_val h1 (by rw [next_len, hl]) (by omega), next_val h hl (by omega), next_val h hl hab]
 rw [Nat.mod_add_mod, Nat.add_assoc]
theorem next_zero {at_ : List Int} (h : Bytes at_) (hl : at_.length = 16) : nextF at_ 0 = at_ := by
 refine ext16 (by rw [next_len, hl]) hl (val_inj 16 _ _ (next_bytes h _) h ?_)
 have := next_val h hl (b := 0) (by omega)
 rw [Nat.add_zero, Nat.mod_eq_of_lt (val_lt h 16)] at this
 exact this
theorem nexts_same {at_ : List Int} (h : Bytes at_) {b : Nat} (hb : b < 18446744073709551616) : nextF at_ (b : Int) = rnextF at_ (b : Int) := next_same 16 b 0 at_ hb (by omega) h
end Go.Proofs.Ytaffancdidgkhaa.Ctr
end
section
set_option linter.unusedVariables false
set_option maxRecDepth 100000
namespace Go.Proofs.Ytaffancdidgkhaa.Ctr
open Go Vse Go.Proofs Gen
abbrev kM : Nat := 144
abbrev fM (e e' : Nat) : Ty := .fn kM (.prod (.ptr e []) (.prod (.ptr e' []) .unit))
abbrev nM : PSpec := ⟨[w16, w16], [fM 0 1], [], [.box w16, .box w16], []⟩
def s43 : CSpec := .pos nM (fun _ _ => true) fun xs _ => ((((), (), ()), ()), (xs.1, xs.2.1, ()))
theorem ok43 : CSound Try.prog 117 s43 ∧ CLocal s43 :=
 pos_sound (L := L0) nil_sound Try.func117 (by kernel_rfl) (noLoopsL (by kernel_rfl)) fun xs hs _ _ _ => by
  obtain ⟨key, at_, u⟩ := xs
  kernel_rfl
def rngAt : Code → List (Operand × Array Tmp × Code × Code)
 | .seq a b => rngAt a ++ rngAt b
 | .block _ c => rngAt c
 | .rangeFunc g ps x y => [(g, ps, x, y)]
 | _ => []
noncomputable def rngF : Operand × Array Tmp × Code × Code := ((rngAt (bodyOf Try.f85))[0]?).getD (.tmp 0, #[], .skip, .skip)
noncomputable def asgF : Code := rngF.2.2.1
noncomputable def bdyF : Code := rngF.2.2.2
def fst_ : Code → Code | .seq a _ => a | c => c
def snd_ : Code → Code | .seq _ b => b | c => c
def inn_ : Code → Code | .block _ c => c | .loop c => c | c => c
noncomputable def cI : Code := bodyOf Try.f144
noncomputable def cA : Code := inn_ (inn_ (inn_ cI))
noncomputable def R0 : Code := fst_ (fst_ cA)
noncomputable def R5 : Code := snd_ cA
noncomputable def cB : Code := inn_ (inn_ (snd_ (fst_ cA)))
noncomputable def R1 : Code := fst_ cB
noncomputable def CD : Code := fst_ (snd_ cB)
noncomputable def cY : Code := inn_ (fst_ (snd_ (snd_ cB)))
noncomputable def R2 : Code := fst_ cY
noncomputable def R3 : Code := fst_ (snd_ cY)
noncomputable def CR : Code := snd_ (snd_ cY)
noncomputable def R4 : Code := snd_ (snd_ (snd_ cB))
theorem cI_shape : cI = .block 0 (.loop (.block 1 (.seq (.seq R0 (.block 2 (.loop cB))) R5))) := by kernel_rfl
theorem cB_shape : cB = .seq R1 (.seq CD (.seq (.block 3 (.seq R2 (.seq R3 CR))) R4)) := by kernel_rfl
theorem CR_shape : CR = .cond (.tmp 15) .ret .skip := by kernel_rfl
abbrev eL : List ETy := [.box w16, .box w16, .box bs, .box (.vc 6 0), .box w16, .box w16, .vec 0 u8]
def SL : RSpec := ⟨[5, 7, 15], 32, [.ptr 2 [], .ptr 3 [], u8], eL, [.box w16, .box w16, .box bs, .box .nils, .box w16, .box w16], [.all 3 u8], fun _ => ([], [], eL)⟩
noncomputable def bodyL (st : St) : Tr (Ex × St) := (run Try.prog (ctx []) L0 asgF st).bind fun r => match r with
 | (.normal, s) => run Try.prog (ctx []) L0 bdyF s
 | r => .ret r
def GL (x : Int) (k a b k' a' out : List Int) : Tr SL.End :=
 let o : List Int := out ++ [xorI .u8 (b.getD (out.length : Int).toNat 0) x]
 .chk (inArr (out.length : Int) b.length) (.chk (Vse.room (out.length + [xorI .u8 (b.getD (out.length : Int).toNat 0) x].length) 1)
  (.ite ((o.length : Int) == (b.length : Int)) (.ret (.inr (.exit 0, encS [] [] eL 32 () (k, a, b, (), k', a', o, ())))) (.ret (.inl (((), (), x, ()), (k, a, b, (), k', a', o, ()))))))
theorem rL (x : Int) (k a b k' a' out : List Int) : (SL.round bodyL ((), (), x, ()) (k, a, b, (), k', a', out, ())).eval = (GL x k a b k' a' out).eval := by kernel_rfl
end Go.Proofs.Ytaffancdidgkhaa.Ctr
end
section
set_option linter.unusedVariables false
set_option maxRecDepth 100000
namespace Go.Proofs.Ytaffancdidgkhaa.Ctr
open Go Vse Go.Proofs Gen
abbrev CI (E : En) (N : Nx) : Ctx := ctx [(145, .fn1 [w16, w16] w16 fun x => E x.1 x.2.1), (146, .slp1 [w16, u64] (fun _ => true) w16 fun x => N x.1 x.2.1)]
def hL (k a b k' a' out : List Int) : Heap := encH eL (k, a, b, (), k', a', out, ())
def e0 (l : Nat) : List AV := (encS [0, 1, 2] [.it l, .ptr 4 [], .ptr 5 []] [] 19 ((), (), (), ()) ()).env
def e1 (l : Nat) (e : List Int) (j : Int) : List AV := (encS [0, 1, 2, 8, 9] [.it l, .ptr 4 [], .ptr 5 [], w16, i64] [] 19 ((), (), (), e, j, ()) ()).env
def e2 (l : Nat) (e : List Int) (j : Int) (t : Bool) : List AV := (encS [0, 1, 2, 8, 9, 10] [.it l, .ptr 4 [], .ptr 5 [], w16, i64, .bool] [] 19 ((), (), (), e, j, t, ()) ()).env
def e3 (l : Nat) (e : List Int) (j x : Int) : List AV := (encS [0, 1, 2, 5, 8, 9] [.it l, .ptr 4 [], .ptr 5 [], u8, w16, i64] [] 19 ((), (), (), x, e, j, ()) ()).env
noncomputable def pc (E : En) (N : Nx) (c : Code) (live : List Nat) (env : List AV) (H : Heap) : Tr (Ex × List AV × Heap) :=
 (run Try.prog (CI E N) L0 c ⟨env, H⟩).bind fun r => .ret (r.1, (keepS live r.2).env, r.2.heap)
theorem p0 (l : Nat) (E : En) (N : Nx) (k a b k' a' out : List Int) : (pc E N R0 [0, 1, 2, 8, 9] (e0 l) (hL k a b k' a' out)).eval = some (.normal, e1 l (E k' a') 0, hL k a b k' a' out) := by kernel_rfl
theorem p1 (l : Nat) (E : En) (N : Nx) (e : List Int) (j : Int) (k a b k' a' out : List Int) : (pc E N R1 [0, 1, 2, 8, 9, 10] (e1 l e j) (hL k a b k' a' out)).eval = some (.normal, e2 l e j (decide (j < 16)), hL k a b k' a' out) := by kernel_rfl
theorem pD (l : Nat) (E : En) (N : Nx) (e : List Int) (j : Int) (t : Bool) (k a b k' a' out : List Int) : (pc E N CD [0, 1, 2, 8, 9] (e2 l e j t) (hL k a b k' a' out)).eval =
  match t with | true => some (.normal, e1 l e j, hL k a b k' a' out) | false => some (.exit 2, e1 l e j, hL k a b k' a' out) := by kernel_rfl
theorem p2 (l : Nat) (E : En) (N : Nx) (e : List Int) (j : Int) (k a b k' a' out : List Int) : (pc E N R2 [0, 1, 2, 5, 8, 9] (e1 l e j) (hL k a b k' a' out)).eval =
  (Tr.chk (inArrK .i64 j 16) (.ret ((.normal, e3 l e j (e.getD j.toNat 0), hL k a b k' a' out) : Ex × List AV × Heap))).eval := by kernel_rfl
theorem p4 (l : Nat) (E : En) (N : Nx) (e : List Int) (j : Int) (k a b k' a' out : List Int) : (pc E N R4 [0, 1, 2, 8, 9] (e1 l e j) (hL k a b k' a' out)).eval = some (.normal, e1 l e (w (j + 1)), hL k a b k' a' out) := by kernel_rfl
theorem p5 (l : Nat) (E : En) (N : Nx) (e : List Int) (j : Int) (k a b k' a' out : List Int) : (pc E N R5 [0, 1, 2] (e1 l e j) (hL k a b k' a' out)).eval = some (.normal, e0 l, hL k a b k' (N a' 1) out) := by kernel_rfl
end Go.Proofs.Ytaffancdidgkhaa.Ctr
end
section
set_option linter.unusedVariables false
set_option maxRecDepth 100000
namespace Go.Proofs.Ytaffancdidgkhaa.Ctr
open Go Vse Go.Proofs Gen
def opsOf : Code → Array Oper | .region _ ops _ => ops | _ => #[]
noncomputable def oY (i : Nat) : Oper := ((opsOf R3)[i]?).getD { dst := none, op := .move (.tmp 0), type := 0, pos := "", after := #[], guard := none }
theorem R3_shape : R3 = .region 3 (opsOf R3) false ∧ (opsOf R3).toList = [oY 0, oY 1, oY 2, oY 3] := ⟨by kernel_rfl, by kernel_rfl⟩
theorem oY2 : (oY 2).op = .call { callee := .value (.tmp 12), args := #[.tmp 13], argTypes := #[5] } ∧ (oY 2).guard = none ∧ (oY 2).dst = some 14 := ⟨by kernel_rfl, by kernel_rfl, by kernel_rfl⟩
theorem exec_yield {a : Act} {w : World} {l : Nat} {o : Loop} {x : Value} (h1 : a.eval (.tmp 12) = .func (.yield l) #[] #[]) (h2 : a.eval (.tmp 13) = x) (hl : w.heap[l]? = some (.loop o)) (hp : o.params = #[15]) :
  (execOp a.eval (oY 2)).run Try.prog w = .ok (.round l o.fn (o.tmps.setIfInBounds 15 x) o.assign o.body) w := by
 unfold execOp
 rw [oY2.1]
 have := run_yield (P := Try.prog) (args := #[x]) hl (by rw [hp]; rfl)
 simp [resolve, h1, h2, Deferred.ofValue, invoke, this, hp]
end Go.Proofs.Ytaffancdidgkhaa.Ctr
end
section
set_option linter.unusedVariables false
set_option maxRecDepth 100000
namespace Go.Proofs.Ytaffancdidgkhaa.Ctr
open Go Vse Go.Proofs Gen
theorem plain16 {g g' : G} {e : List Int} {v : Value} (h : VRep g (.v w16 e) v) : VRep g' (.v w16 e) v := h
theorem plainI {g g' : G} {j : Int} {v : Value} (h : VRep g (.v i64 j) v) : VRep g' (.v i64 j) v := h
theorem plainY {g g' : G} {l : Nat} {v : Value} (h : VRep g (.v (.it l) ()) v) : VRep g' (.v (.it l) ()) v := h
theorem e1_move {g g3 : G} {l : Nat} {e : List Int} {j : Int} {a : Act} (he : EnvRep g (e1 l e j) a) (h1 : VRep g3 (.v (.ptr 4 []) ()) (a.tmps.getD 1 undef)) (h2 : VRep g3 (.v (.ptr 5 []) ()) (a.tmps.getD 2 undef)) : EnvRep g3 (e1 l e j) a := by
 refine ⟨he.1, fun i => ?_⟩
 have hi := he.2 i
 match i, hi with
 | 0, hi => exact plainY hi
 | 1, _ => exact h1
 | 2, _ => exact h2
 | 3, _ => exact trivial
 | 4, _ => exact trivial
 | 5, _ => exact trivial
 | 6, _ => exact trivial
 | 7, _ => exact trivial
 | 8, hi => exact plain16 hi
 | 9, hi => exact plainI hi
 | 10, _ => exact trivial
 | 11, _ => exact trivial
 | 12, _ => exact trivial
 | 13, _ => exact trivial
 | 14, _ => exact trivial
 | 15, _ => exact trivial
 | 16, _ => exact trivial
 | 17, _ => exact trivial
 | 18, _ => exact trivial
 | n + 19, hi => exact hi
end Go.Proofs.Ytaffancdidgkhaa.Ctr
end
section
set_option linter.unusedVariables false
set_option maxRecDepth 100000
namespace Go.Proofs.Ytaffancdidgkhaa.Ctr
open Go Vse Go.Proofs Gen
def e5 (l : Nat) (e : List Int) (j x : Int) : List AV := (encS [0, 1, 2, 5, 8, 9, 12, 13] [.it l, .ptr 4 [], .ptr 5 [], u8, w16, i64, .it l, u8] [] 19 ((), (), (), x, e, j, (), x, ()) ()).env
def e6 (l : Nat) (e : List Int) (j : Int) (t : Bool) : List AV := (encS [0, 1, 2, 8, 9, 14] [.it l, .ptr 4 [], .ptr 5 [], w16, i64, .bool] [] 19 ((), (), (), e, j, t, ()) ()).env
def e7 (l : Nat) (e : List Int) (j : Int) (t : Bool) : List AV := (encS [0, 1, 2, 8, 9, 15] [.it l, .ptr 4 [], .ptr 5 [], w16, i64, .bool] [] 19 ((), (), (), e, j, t, ()) ()).env
theorem s0 (l : Nat) (e : List Int) (j x : Int) (H : Heap) : ((Vse.stepT Try.prog (ctx []) (false, false) (opsOf R3).toList (oY 0) 0 ⟨e3 l e j x, H⟩).bind fun s => Vse.stepT Try.prog (ctx []) (false, false) (opsOf R3).toList (oY 1) 0 s).eval = some ⟨e5 l e j x, H⟩ := by kernel_rfl
theorem s3 (l : Nat) (e : List Int) (j : Int) (t : Bool) (H : Heap) : ((Vse.stepT Try.prog (ctx []) (false, false) (opsOf R3).toList (oY 3) 0 ⟨e6 l e j t, H⟩).bind fun s => .ret (keepE [0, 1, 2, 8, 9, 15] 0 s.env, s.heap)).eval = some (e7 l e j (!t), H) := by kernel_rfl
end Go.Proofs.Ytaffancdidgkhaa.Ctr
end
section
set_option linter.unusedVariables false
set_option maxRecDepth 100000
namespace Go.Proofs.Ytaffancdidgkhaa.Ctr
open Go Vse Go.Proofs Gen
theorem box_same {g0 g : G} (h : g0.leD g) {i : Nat} {s0 s : Sk} (h0 : g0.sh i = .box s0) (h1 : g.sh i = .box s) : g.sh i = g0.sh i ∧ g.bl i = g0.bl i := by
 cases h.ent i with
 | same a b c => exact ⟨a, b⟩
 | dead a => rw [a] at h1; cases h1
 | grew a b c => rw [a] at h0; cases h0
 | new a => rw [a] at h0; cases h0
theorem ptr_move {g0 g g3 : G} (h : g0.leD g) (h3 : g0.leD g3) {i : Nat} {s0 s s3 : Sk} (e0 : g0.sh i = .box s0) (e1 : g.sh i = .box s) (e3 : g3.sh i = .box s3) {v : Value} (hv : VRep g (.v (.ptr i []) ()) v) : VRep g3 (.v (.ptr i []) ()) v := by
 obtain ⟨a1, a2⟩ := box_same h e0 e1
 obtain ⟨b1, b2⟩ := box_same h3 e0 e3
 have hv := (VRep_v (by simp)).1 hv
 refine (VRep_v (by simp)).2 ?_
 simp only [TRep, Ty.agg, Ty.sk, Sk.agg, Bool.false_eq_true, if_false, Rep, G.bxr] at hv ⊢
 rw [b1, b2]
 rw [a1, a2] at hv
 exact hv
end Go.Proofs.Ytaffancdidgkhaa.Ctr
end
section
set_option linter.unusedVariables false
set_option maxRecDepth 100000
namespace Go.Proofs.Ytaffancdidgkhaa.Ctr
open Go Vse Go.Proofs Gen
theorem oY_guard : (oY 2).guard = none := oY2.2.1
theorem yield_call {g : G} {H : Heap} {w : World} {l r : Nat} {o : Loop} {g0 : G} {e : List Int} {j x : Int} {act : Act} {Q : Exit → Act → World → Prop}
  (hg : Going g0 g H w l r o) (hp : o.params = #[15]) (he : EnvRep g (e3 l e j x) act) (hd : act.defers = [])
  (hround : ∀ g2 a2 w2, Going g0 g2 H w2 l r o → EnvRep g2 (e5 l e j x) a2 → a2.defers = [] →
   RoundIn (FW none) 0 Try.prog l o.fn (o.tmps.setIfInBounds 15 (.int .u8 x)) o.assign o.body w2 fun
    | .returned v, w'' => wpListIn (FW none) 0 Try.prog (opsOf R3) Q [oY 3] (a2.put (oY 2).dst v) w''
    | .panicked chain, w'' => Q (.panic chain) a2 w''
    | .outgrown, _ => LetsOut Q) :
  R3.wpIn (FW none) 0 Try.prog Q act w := by
 rw [R3_shape.1]
 refine wpIn_region_list ?_
 rw [R3_shape.2]
 obtain ⟨st1, t1, t2⟩ := Tr.bind_some (s0 l e j x H)
 refine stepT_sound nil_sound.1 (g := g.lenl l r o) (st := ⟨e3 l e j x, H⟩) ⟨he.c hg.c, hg.inv, by show act.defers = g.ext.2; rw [hd, hg.ds]⟩ t1 fun g1 a1 w1 le1 hs1 => ?_
 refine stepT_sound nil_sound.1 hs1 t2 fun g2 a2 w2 le2 hs2 => ?_
 have hle := le1.trans le2
 have hgr : g2.gr = (g.lenl l r o).gr := hle.gr
 have hext : g2.ext = g.ext := hle.ext
 let g' : G := { g2 with gr := g.gr }
 have hg' : g'.lenl l r o = g2 := by
  cases g2
  simp only [G.lenl, g'] at hgr ⊢
  simp only [hgr]
 have hD : g.leD g' := ⟨hle.fr, rfl, by show g2.ext.1 = g.ext.1; rw [hext], fun e => by
  cases hle.ent e with
  | same a b c => exact .same a b c
  | dead a => exact .dead a
  | grew a b c => exact .grew a b c
  | new a => exact .new a⟩
 have hg2 : Going g0 g' H w2 l r o := ⟨hg.le.trans hD, by show g2.ext.2 = []; rw [hext]; exact hg.ds, by rw [hg']; exact hs2.heap, hg.new⟩
 have he2 : EnvRep g' (e5 l e j x) a2 := by
  have := lenl_c g' l r o
  rw [hg'] at this
  exact hs2.env.c this
 have hd2 : a2.defers = [] := by rw [hs2.defers, hext]; exact hg.ds
 have h12 : a2.eval (.tmp 12) = .func (.yield l) #[] #[] := by
  have := he2.2 12
  have := (VRep_v (T := .it l) (x := ()) (by simp)).1 this
  have q : a2.tmps.getD 12 undef = .func (.yield l) #[] #[] := by simpa only [TRep, Ty.agg, Ty.sk, Sk.agg, Bool.false_eq_true, if_false, Rep, List.cons.injEq, and_true] using this
  exact q
 have h13 : a2.eval (.tmp 13) = .int .u8 x := by
  have := he2.2 13
  have := (VRep_v (T := u8) (x := x) (by simp)).1 this
  simp only [TRep, Ty.agg, Ty.sk, Sk.agg, Bool.false_eq_true, if_false, Rep, List.cons.injEq, and_true] at this
  exact this.1
 unfold wpListIn
 rw [if_pos (by simp [Region.wanted, oY_guard])]
 refine ⟨fun _ _ => trivial, ?_⟩
 rw [Oper.semAt_eq _ _ _ (by rw [oY2.1]; intro c h; cases h), exec_yield h12 h13 hg2.row hp, Oper.uponIn_round]
 exact ⟨fun h => absurd h (by simp [Fence.wide]), hround g' a2 w2 hg2 he2 hd2⟩
end Go.Proofs.Ytaffancdidgkhaa.Ctr
end
section
set_option linter.unusedVariables false
set_option maxRecDepth 100000
namespace Go.Proofs.Ytaffancdidgkhaa.Ctr
open Go Vse Go.Proofs Gen
theorem asg_normal (x : Int) (k a b k' a' out : List Int) : ((run Try.prog (ctx []) L0 asgF (SL.enc ((), (), x, ()) (k, a, b, (), k', a', out, ()))).bind fun r => .ret r.1).eval = some .normal := by kernel_rfl
theorem round_of {x : Int} {k a b k' a' out : List Int} {d : SL.End} (h : (SL.round bodyL ((), (), x, ()) (k, a, b, (), k', a', out, ())).eval = some d) :
  ∃ st1 y st2, (run Try.prog (ctx []) L0 asgF (SL.enc ((), (), x, ()) (k, a, b, (), k', a', out, ()))).eval = some (.normal, st1) ∧ (run Try.prog (ctx []) L0 bdyF st1).eval = some (y, st2) ∧
   (match y with
    | .normal => ∃ dd, renTo SL.E0 SL.inis SL.live SL.Ts SL.Es SL.nt st2 = some dd ∧ d = .inl dd
    | y => ∃ st, SL.outSt y st2 = some st ∧ d = .inr (y, st)) := by
 obtain ⟨r1, q1, q2⟩ := Tr.bind_some (asg_normal x k a b k' a' out)
 have q2 := Tr.ret_some q2
 unfold RSpec.round at h
 obtain ⟨r, h1, h2⟩ := Tr.bind_some h
 unfold bodyL at h1
 obtain ⟨r2, h3, h4⟩ := Tr.bind_some h1
 rw [q1] at h3
 simp only [Option.some.injEq] at h3
 subst h3
 obtain ⟨y1, st1⟩ := r1
 simp only at q2
 subst q2
 obtain ⟨y, st2⟩ := r
 refine ⟨st1, y, st2, q1, h4, ?_⟩
 cases y with
 | normal =>
  simp only at h2
  split at h2
  ·rename_i dd hdd
   exact ⟨dd, hdd, (Tr.ret_some h2).symm⟩
  ·exact (Tr.fail_some h2).elim
 | exit i =>
  simp only at h2
  split at h2
  ·rename_i st hst
   exact ⟨st, hst, (Tr.ret_some h2).symm⟩
  ·exact (Tr.fail_some h2).elim
 | ret =>
  simp only at h2
  split at h2
  ·rename_i st hst
   exact ⟨st, hst, (Tr.ret_some h2).symm⟩
  ·exact (Tr.fail_some h2).elim
end Go.Proofs.Ytaffancdidgkhaa.Ctr
end
section
set_option linter.unusedVariables false
set_option maxRecDepth 100000
namespace Go.Proofs.Ytaffancdidgkhaa.Ctr
open Go Vse Go.Proofs Gen
def flipB (x : Int) (b out : List Int) : Int := xorI .u8 (b.getD out.length 0) x
theorem yield_round {g0 g : G} {w : World} {l r : Nat} {o : Loop} {x : Int} {k a b k' a' out : List Int} {f : FuncId} {tm : Array Value} {R : Ending → World → Prop}
  (hg : Going g0 g (hL k a b k' a' out) w l r o) (hds : g0.ext.2 = []) (ho : o.state = .ready) (h0 : ∀ t, isY (g0.sh t) SL.E0[t]?)
  (hF : EnvRep g (SL.enc ((), (), x, ()) (k, a, b, (), k', a', out, ())).env { tmps := tm, defers := [] }) (hin : out.length < b.length) (hsm : b.length ≤ 1000000)
  (hmore : (out ++ [flipB x b out]).length ≠ b.length → ∀ g3 w', Going g0 g3 (hL k a b k' a' (out ++ [flipB x b out])) w' l r { o with state := .ready, pending := none } → R (.returned (.bool true)) w')
  (hlast : (out ++ [flipB x b out]).length = b.length → ∀ g3 w', Going g0 g3 (hL k a b k' a' (out ++ [flipB x b out])) w' l r { o with state := .done, pending := some (.exit 0) } → R (.returned (.bool false)) w') :
  RoundIn (FW none) 0 Try.prog l f tm asgF bdyF w R := by
 have hl1 : LoopsOK Try.prog L0 asgF := loopsOK_of (by kernel_rfl)
 have hl2 : LoopsOK Try.prog L0 bdyF := loopsOK_of (by kernel_rfl)
 have c1 : inArr (out.length : Int) b.length = true := inArr_nat hin
 have c2 : Vse.room (out.length + [flipB x b out].length) 1 = true := by simp only [Vse.room, decide_eq_true_eq, List.length_singleton]; omega
 have hG : (GL x k a b k' a' out).eval = if (out ++ [flipB x b out]).length = b.length then some (.inr (.exit 0, encS [] [] eL 32 () (k, a, b, (), k', a', out ++ [flipB x b out], ())))
   else some (.inl (((), (), x, ()), (k, a, b, (), k', a', out ++ [flipB x b out], ()))) := by
  unfold GL
  simp only [Int.toNat_natCast]
  rw [chk_eval c1]
  refine (chk_eval c2 _).trans ?_
  by_cases heq : (out ++ [flipB x b out]).length = b.length
  ·rw [if_pos heq]
   refine (ite_t ?_ _ _).trans rfl
   show (((out ++ [flipB x b out]).length : Int) == (b.length : Int)) = true
   rw [heq]; exact beq_self_eq_true _
  ·rw [if_neg heq]
   refine (ite_f ?_ _ _).trans rfl
   show (((out ++ [flipB x b out]).length : Int) == (b.length : Int)) = false
   simp only [beq_eq_false_iff_ne, ne_eq]
   omega
 by_cases heq : (out ++ [flipB x b out]).length = b.length
 ·rw [if_pos heq] at hG
  obtain ⟨st1, y, st2, q1, q2, q3⟩ := round_of ((rL x k a b k' a' out).trans hG)
  cases y with
  | normal => obtain ⟨dd, _, h⟩ := q3; cases h
  | ret => obtain ⟨st, _, h⟩ := q3; cases h
  | exit i =>
   obtain ⟨st, h1, h2⟩ := q3
   simp only [Sum.inr.injEq, Prod.mk.injEq, Ex.exit.injEq] at h2
   obtain ⟨rfl, rfl⟩ := h2
   unfold RSpec.outSt at h1
   split at h1
   ·rename_i d hren
    simp only [Option.some.injEq] at h1
    refine Going.round nil_sound hl1 hl2 hg ho hF q1 q2 (.inr ⟨0, rfl⟩) fun g' w' a2 hD he2 hd2 => ⟨fun h => absurd h (by simp), fun id hid hgo => ?_⟩
    cases hid
    obtain ⟨g3, w1, _⟩ := Going.ren hgo hds he2 hd2 h0 hren
    have hh : (encS (SL.outs (.exit 0)).1 (SL.outs (.exit 0)).2.1 (SL.outs (.exit 0)).2.2 SL.nt d.1 d.2).heap = hL k a b k' a' (out ++ [flipB x b out]) := by rw [h1]; rfl
    rw [hh] at w1
    exact hlast heq g3 w' w1
   ·cases h1
 ·rw [if_neg heq] at hG
  obtain ⟨st1, y, st2, q1, q2, q3⟩ := round_of ((rL x k a b k' a' out).trans hG)
  cases y with
  | exit i => obtain ⟨st, _, h⟩ := q3; cases h
  | ret => obtain ⟨st, _, h⟩ := q3; cases h
  | normal =>
   obtain ⟨dd, hren, h2⟩ := q3
   simp only [Sum.inl.injEq] at h2
   subst h2
   refine Going.round nil_sound hl1 hl2 hg ho hF q1 q2 (.inl rfl) fun g' w' a2 hD he2 hd2 => ⟨fun _ hgo => ?_, fun id hid => absurd hid (by simp)⟩
   obtain ⟨g3, w1, _⟩ := Going.ren hgo hds he2 hd2 h0 hren
   exact hmore heq g3 w' w1
end Go.Proofs.Ytaffancdidgkhaa.Ctr
end
section
set_option linter.unusedVariables false
set_option maxRecDepth 100000
namespace Go.Proofs.Ytaffancdidgkhaa.Ctr
open Go Vse Go.Proofs Gen
def eW (x : Int) : List AV := (encS [5, 7, 15] [.ptr 2 [], .ptr 3 [], u8] [] 32 ((), (), x, ()) ()).env
theorem eW_rep {g : G} {tm : Array Value} {x : Int} (hn : tm.size = 32) (h5 : VRep g (.v (.ptr 2 []) ()) (tm.getD 5 undef)) (h7 : VRep g (.v (.ptr 3 []) ()) (tm.getD 7 undef)) (hx : inK .u8 x = true) :
  EnvRep g (eW x) { tmps := tm.setIfInBounds 15 (.int .u8 x), defers := [] } := by
 have hget : ∀ i, i ≠ 15 → (tm.setIfInBounds 15 (.int .u8 x)).getD i undef = tm.getD i undef := fun i hi => by
  simp only [Array.getD_eq_getD_getElem?]
  rw [Array.getElem?_setIfInBounds_ne (Ne.symm hi)]
 have h15 : (tm.setIfInBounds 15 (.int .u8 x)).getD 15 undef = .int .u8 x := by
  simp only [Array.getD_eq_getD_getElem?]
  rw [Array.getElem?_setIfInBounds_self_of_lt (by omega)]
  rfl
 refine ⟨by show 32 = (tm.setIfInBounds 15 _).size; rw [Array.size_setIfInBounds, hn], fun i => ?_⟩
 show VRep g (getV (eW x) i) ((tm.setIfInBounds 15 (.int .u8 x)).getD i undef)
 by_cases e5 : i = 5
 ·subst e5; rw [hget 5 (by omega)]; exact h5
 by_cases e7 : i = 7
 ·subst e7; rw [hget 7 (by omega)]; exact h7
 by_cases e15 : i = 15
 ·subst e15
  rw [h15]
  show VRep g (.v u8 x) _
  refine (VRep_v (T := u8) (x := x) (by simp)).2 ?_
  simp only [TRep, Ty.agg, Ty.sk, Sk.agg, Bool.false_eq_true, if_false, Rep]
  exact ⟨trivial, hx⟩
 by_cases hi : i < 32
 ·have key : ∀ i : Fin 32, i.1 ≠ 5 → i.1 ≠ 7 → i.1 ≠ 15 → getV (eW x) i.1 = AV.und := by
   intro i h1 h2 h3
   match i, h1, h2, h3 with
   | ⟨0, _⟩, _, _, _ => exact rfl
   | ⟨1, _⟩, _, _, _ => exact rfl
   | ⟨2, _⟩, _, _, _ => exact rfl
   | ⟨3, _⟩, _, _, _ => exact rfl
   | ⟨4, _⟩, _, _, _ => exact rfl
   | ⟨5, _⟩, h, _, _ => exact absurd rfl h
   | ⟨6, _⟩, _, _, _ => exact rfl
   | ⟨7, _⟩, _, h, _ => exact absurd rfl h
   | ⟨8, _⟩, _, _, _ => exact rfl
   | ⟨9, _⟩, _, _, _ => exact rfl
   | ⟨10, _⟩, _, _, _ => exact rfl
   | ⟨11, _⟩, _, _, _ => exact rfl
   | ⟨12, _⟩, _, _, _ => exact rfl
   | ⟨13, _⟩, _, _, _ => exact rfl
   | ⟨14, _⟩, _, _, _ => exact rfl
   | ⟨15, _⟩, _, _, h => exact absurd rfl h
   | ⟨16, _⟩, _, _, _ => exact rfl
   | ⟨17, _⟩, _, _, _ => exact rfl
   | ⟨18, _⟩, _, _, _ => exact rfl
   | ⟨19, _⟩, _, _, _ => exact rfl
   | ⟨20, _⟩, _, _, _ => exact rfl
   | ⟨21, _⟩, _, _, _ => exact rfl
   | ⟨22, _⟩, _, _, _ => exact rfl
   | ⟨23, _⟩, _, _, _ => exact rfl
   | ⟨24, _⟩, _, _, _ => exact rfl
   | ⟨25, _⟩, _, _, _ => exact rfl
   | ⟨26, _⟩, _, _, _ => exact rfl
   | ⟨27, _⟩, _, _, _ => exact rfl
   | ⟨28, _⟩, _, _, _ => exact rfl
   | ⟨29, _⟩, _, _, _ => exact rfl
   | ⟨30, _⟩, _, _, _ => exact rfl
   | ⟨31, _⟩, _, _, _ => exact rfl
   | ⟨n + 32, h⟩, _, _, _ => exact absurd h (by omega)
  rw [key ⟨i, hi⟩ e5 e7 e15]
  trivial
 ·have key : ∀ (l : List AV) (i : Nat), l.length ≤ i → getV l i = AV.none := by
   intro l
   induction l with
   | nil => intro i _; rfl
   | cons a l ih =>
    intro i h
    cases i with
    | zero => simp at h
    | succ i => exact ih i (by simpa using h)
  rw [key _ _ (show 32 ≤ i by omega), hget i e15, Array.getD_eq_getD_getElem?, Array.getElem?_eq_none (by omega)]
  exact ⟨#[], rfl, rfl⟩
end Go.Proofs.Ytaffancdidgkhaa.Ctr
end
section
set_option linter.unusedVariables false
set_option maxRecDepth 100000
namespace Go.Proofs.Ytaffancdidgkhaa.Ctr
open Go Vse Go.Proofs Gen
theorem leD_c {g g' : G} (h : g.leD g') : g.leC g' := ⟨fun b _ _ _ => h.fr b _, fun b _ _ _ hb => by rw [h.gr]; exact hb, h.ent⟩
theorem going_box {g0 g : G} {k a b k' a' out : List Int} {w : World} {l r : Nat} {o : Loop} (h : Going g0 g (hL k a b k' a' out) w l r o) : (∃ s, g.sh 4 = .box s) ∧ ∃ s, g.sh 5 = .box s := by
 have h4 := h.inv.sh 4
 have h5 := h.inv.sh 5
 exact ⟨⟨_, h4⟩, ⟨_, h5⟩⟩
theorem yield_back {g0 g2 g3 : G} {k a b k' a' out out' : List Int} {w2 w3 : World} {l r : Nat} {o o' : Loop} {e : List Int} {j x : Int} {a2 : Act} {t : Bool} {Q : Exit → Act → World → Prop}
  (hg2 : Going g0 g2 (hL k a b k' a' out) w2 l r o) (hg3 : Going g0 g3 (hL k a b k' a' out') w3 l r o') (b4 : ∃ s, g0.sh 4 = .box s) (b5 : ∃ s, g0.sh 5 = .box s)
  (he2 : EnvRep g2 (e5 l e j x) a2) (hd2 : a2.defers = [])
  (hn : ∀ g4 act' w', Going g0 g4 (hL k a b k' a' out') w' l r o' → EnvRep g4 (e7 l e j (!t)) act' → act'.defers = [] → Q .normal act' w') :
  wpListIn (FW none) 0 Try.prog (opsOf R3) Q [oY 3] (a2.put (oY 2).dst (.bool t)) w3 := by
 obtain ⟨⟨s4, q4⟩, ⟨s5, q5⟩⟩ := going_box hg2
 obtain ⟨⟨u4, v4⟩, ⟨u5, v5⟩⟩ := going_box hg3
 obtain ⟨z4, y4⟩ := b4
 obtain ⟨z5, y5⟩ := b5
 have h1 : EnvRep g2 (e1 l e j) a2 := keepE_rep he2 [0, 1, 2, 8, 9]
 have h3 : EnvRep g3 (e1 l e j) a2 := e1_move h1 (ptr_move hg2.le hg3.le y4 q4 v4 (h1.2 1)) (ptr_move hg2.le hg3.le y5 q5 v5 (h1.2 2))
 have h6 : EnvRep g3 (e6 l e j t) (a2.put (some 14) (.bool t)) := h3.put (some 14) (v := .v .bool t) ((VRep_v (by simp)).2 (TRep_bool.2 rfl))
 rw [oY2.2.2]
 obtain ⟨st, t1, t2⟩ := Tr.bind_some (s3 l e j t (hL k a b k' a' out'))
 have t2 := Tr.ret_some t2
 simp only [Prod.mk.injEq] at t2
 obtain ⟨k1, k2⟩ := t2
 refine stepT_sound nil_sound.1 (g := g3.lenl l r o') (st := ⟨e6 l e j t, hL k a b k' a' out'⟩) ⟨h6.c hg3.c, hg3.inv, by show (a2.put (some 14) (.bool t)).defers = g3.ext.2; rw [put_defers, hd2, hg3.ds]⟩ t1 fun g4 a4 w4 le4 hs4 => ?_
 have hgr : g4.gr = (g3.lenl l r o').gr := le4.gr
 have hext : g4.ext = g3.ext := le4.ext
 let g' : G := { g4 with gr := g3.gr }
 have hg' : g'.lenl l r o' = g4 := by
  cases g4
  simp only [G.lenl, g'] at hgr ⊢
  simp only [hgr]
 have hD : g3.leD g' := ⟨le4.fr, rfl, by show g4.ext.1 = g3.ext.1; rw [hext], fun e => by
  cases le4.ent e with
  | same a b c => exact .same a b c
  | dead a => exact .dead a
  | grew a b c => exact .grew a b c
  | new a => exact .new a⟩
 refine hn g' a4 w4 ⟨hg3.le.trans hD, by show g4.ext.2 = []; rw [hext]; exact hg3.ds, by rw [hg', ← k2]; exact hs4.heap, hg3.new⟩ ?_ (by rw [hs4.defers, hext]; exact hg3.ds)
 have := lenl_c g' l r o'
 rw [hg'] at this
 rw [← k1]
 exact keepE_rep (hs4.env.c this) _
end Go.Proofs.Ytaffancdidgkhaa.Ctr
end
end
section
section
set_option linter.unusedVariables false
set_option maxRecDepth 100000
namespace Go.Proofs.Ytaffancdidgkhaa.Aes
open Go Vse Go.Proofs
abbrev i64 : Ty := .int .i64
abbrev u8 : Ty := .int .u8
abbrev w (x : Int) : Int := IntKind.i64.wrap x
abbrev wb (x : Int) : Int := IntKind.u8.wrap x
theorem w_id {x : Int} (h : -9223372036854775808 ≤ x) (h' : x ≤ 9223372036854775807) : w x = x := by
 simp [IntKind.wrap, IntKind.signed, IntKind.bits]
 split <;> omega
theorem nil_sound : CtxSound Try.prog (ctx []) ∧ CtxLocal (ctx []) := ctx_sound trivial
def x40 (x : Int) : Int := bif decide (shlI .i64 x 1 ≥ 256) then xorI .i64 (shlI .i64 x 1) 283 else shlI .i64 x 1
def n40 (b x n : Int) : Int := xorI .i64 n (andI .i64 x (w (0 - w (andI .u8 b 1))))
def tl : Nat → Int → Int → Int → Int
 | 0, _, _, n => n
 | k + 1, b, x, n => tl k (shrI .u8 b 1) (x40 x) (n40 b x n)
def S40 : LSpec := ⟨[1, 5, 6, 9], [6], 30, [u8, i64, i64, i64], []⟩
noncomputable def b40 : Code := loopAt Try.f177 0
def F40 (xs : HL S40.Ts) (hs : HD S40.Es) : Tr (Ex × St) :=
 .chk (decide ((0 : Int) ≤ xs.2.2.2.1)) (.ret (.exit 0, encS [6] [i64] [] 30 (tl ((8 : Int) - xs.2.2.2.1).toNat xs.1 xs.2.1 xs.2.2.1, ()) ()))
def L40 : Loops := fun j st => if j = 3 then S40.fn F40 st else .fail
theorem r40 (b x n i : Int) : (S40.round (bodyK Try.prog (ctx []) L0 b40) (b, x, n, i, ()) ()).eval =
  bif decide (i < 8) then (bif decide (shlI .i64 x 1 ≥ 256) then some (.inl ((shrI .u8 b 1, xorI .i64 (shlI .i64 x 1) 283, n40 b x n, w (i + 1), ()), ()))
   else some (.inl ((shrI .u8 b 1, shlI .i64 x 1, n40 b x n, w (i + 1), ()), ())))
  else some (.inr (.exit 0, encS [6] [i64] [] 30 (n, ()) ())) := by kernel_rfl
theorem r40' (b x n i : Int) (h : i < 8) : (S40.round (bodyK Try.prog (ctx []) L0 b40) (b, x, n, i, ()) ()).eval = some (.inl ((shrI .u8 b 1, x40 x, n40 b x n, w (i + 1), ()), ())) := by
 rw [r40, decide_eq_true h]
 unfold x40
 cases decide (shlI .i64 x 1 ≥ 256) <;> rfl
theorem k40 : ∀ (k : Nat) (b x n i : Int), 0 ≤ i → (8 - i).toNat = k → S40.many (bodyK Try.prog (ctx []) L0 b40) (k + 1) (b, x, n, i, ()) () = some (.exit 0, encS [6] [i64] [] 30 (tl k b x n, ()) ())
 | 0, b, x, n, i, h0, hk => by
  refine many_inr ?_ 0
  rw [r40, decide_eq_false (by omega)]
  rfl
 | k + 1, b, x, n, i, h0, hk => by
  refine (many_inl (r40' b x n i (by omega)) (k + 1)).trans ?_
  rw [w_id (x := i + 1) (by omega) (by omega)]
  exact k40 k _ _ _ (i + 1) (by omega) (by omega)
theorem l40 : LoopOK Try.prog L40 b40 :=
 loop_ok (L := L40) (L' := L0) nil_sound (loopsOK_of (by kernel_rfl)) S40 (by kernel_rfl) (F := F40) (i := 3) (by kernel_rfl) (fun _ => rfl) fun xs hs r h => by
  obtain ⟨b, x, n, i, u⟩ := xs
  obtain ⟨h1, h2⟩ := Tr.chk_some h
  have := Tr.ret_some h2
  exact ⟨_, (k40 _ b x n i (of_decide_eq_true h1) rfl).trans (congrArg some this)⟩
def timesI (a b : Int) : Int := wb (tl 8 b (w a) 0)
def s40 : CSpec := .fn1 [u8, u8] u8 fun x => timesI x.1 x.2.1
theorem ok40 : CSound Try.prog 177 s40 ∧ CLocal s40 :=
 fn_okL (L := L40) nil_sound Try.func177 (by kernel_rfl) (fun b hb => by
  have : loopsOf (bodyOf Try.f177) = [b40] := by kernel_rfl
  rw [this] at hb
  rw [List.mem_singleton.1 hb]
  exact l40) (fun xs _ => by kernel_rfl) (fun xs _ => by kernel_rfl)
end Go.Proofs.Ytaffancdidgkhaa.Aes
end
section
set_option linter.unusedVariables false
set_option maxRecDepth 100000
namespace Go.Proofs.Ytaffancdidgkhaa.Aes
open Go Vse Go.Proofs
def x41 (x : Int) : Int := bif decide (w (2 * x) > 255) then xorI .i64 (w (2 * x)) 283 else w (2 * x)
def n41 (n x y : Int) : Int := bif (y.tmod 2 == 1) then xorI .i64 n x else n
def tr : Nat → Int → Int → Int → Int
 | 0, n, _, _ => n
 | k + 1, n, x, y => bif decide (y > 0) then tr k (n41 n x y) (x41 x) (w (y.tdiv 2)) else n
def S41 : LSpec := ⟨[5, 6, 7], [5], 30, [i64, i64, i64], []⟩
noncomputable def b41 : Code := loopAt Try.f151 0
def F41 (xs : HL S41.Ts) (hs : HD S41.Es) : Tr (Ex × St) :=
 .chk (decide ((0 : Int) ≤ xs.2.2.1) && decide (xs.2.2.1 < (256 : Int))) (.ret (.exit 0, encS [5] [i64] [] 30 (tr 8 xs.1 xs.2.1 xs.2.2.1, ()) ()))
def L41 : Loops := fun j st => if j = 4 then S41.fn F41 st else .fail
theorem r41 (n x y : Int) : (S41.round (bodyK Try.prog (ctx []) L0 b41) (n, x, y, ()) ()).eval =
  bif decide (y > 0) then (bif (y.tmod 2 == 1) then (bif decide (w (2 * x) > 255) then some (.inl ((xorI .i64 n x, xorI .i64 (w (2 * x)) 283, w (y.tdiv 2), ()), ()))
    else some (.inl ((xorI .i64 n x, w (2 * x), w (y.tdiv 2), ()), ())))
   else (bif decide (w (2 * x) > 255) then some (.inl ((n, xorI .i64 (w (2 * x)) 283, w (y.tdiv 2), ()), ()))
    else some (.inl ((n, w (2 * x), w (y.tdiv 2), ()), ()))))
  else some (.inr (.exit 0, encS [5] [i64] [] 30 (n, ()) ())) := by kernel_rfl
theorem r41' (n x y : Int) (h : y > 0) : (S41.round (bodyK Try.prog (ctx []) L0 b41) (n, x, y, ()) ()).eval = some (.inl ((n41 n x y, x41 x, w (y.tdiv 2), ()), ())) := by
 rw [r41, decide_eq_true h]
 unfold x41 n41
 cases (y.tmod 2 == 1) <;> cases decide (w (2 * x) > 255) <;> rfl
theorem k41 : ∀ (k : Nat) (n x y : Int), 0 ≤ y → y < 2 ^ k → y < 9223372036854775808 → S41.many (bodyK Try.prog (ctx []) L0 b41) (k + 1) (n, x, y, ()) () = some (.exit 0, encS [5] [i64] [] 30 (tr k n x y, ()) ())
 | 0, n, x, y, h0, hk, _ => by
  refine many_inr ?_ 0
  rw [r41, decide_eq_false (by simp at hk; omega)]
  rfl
 | k + 1, n, x, y, h0, hk, hb => by
  by_cases hy : y > 0
  ·refine (many_inl (r41' n x y hy) (k + 1)).trans ?_
   have e : w (y.tdiv 2) = y / 2 := by rw [Int.tdiv_eq_ediv_of_nonneg h0, w_id (by omega) (by omega)]
   have hk2 : y / 2 < 2 ^ k := by rw [Int.pow_succ] at hk; omega
   rw [e]
   refine (k41 k _ _ (y / 2) (by omega) hk2 (by omega)).trans ?_
   simp only [tr, decide_eq_true hy, cond_true, e]
  ·refine many_inr ?_ (k + 1)
   rw [r41, decide_eq_false hy]
   simp only [tr, decide_eq_false hy, cond_false]
theorem l41 : LoopOK Try.prog L41 b41 :=
 loop_ok (L := L41) (L' := L0) nil_sound (loopsOK_of (by kernel_rfl)) S41 (by kernel_rfl) (F := F41) (i := 4) (by kernel_rfl) (fun _ => rfl) fun xs hs r h => by
  obtain ⟨n, x, y, u⟩ := xs
  obtain ⟨h1, h2⟩ := Tr.chk_some h
  have := Tr.ret_some h2
  simp only [Bool.and_eq_true, decide_eq_true_eq] at h1
  exact ⟨_, (k41 8 n x y h1.1 h1.2 (Int.lt_trans (show (y : Int) < 256 from h1.2) (by decide))).trans (congrArg some this)⟩
def timesR (a b : Int) : Int := wb (tr 8 0 (w a) (w b))
def s41 : CSpec := .fn1 [u8, u8] u8 fun x => timesR x.1 x.2.1
theorem u8_iff {n : Int} : inK .u8 n = true ↔ 0 ≤ n ∧ n < 256 := by
 have e : inK .u8 n = (decide (0 ≤ n) && decide (n ≤ 255)) := rfl
 rw [e, Bool.and_eq_true, decide_eq_true_eq, decide_eq_true_eq]; omega
theorem fine41 (a b : Int) : (fnK Try.prog (ctx []) L41 Try.f151 (mkArgs [u8, u8] (a, b, ())) []).fine [u8] = (decide (0 ≤ w b) && decide (w b < 256)) := by kernel_rfl
theorem fine_b {b : Int} (hb : 0 ≤ b ∧ b < 256) : (decide (0 ≤ w b) && decide (w b < 256)) = true := by
 rw [w_id (by omega) (by omega)]
 simp; omega
theorem ok41 : CSound Try.prog 151 s41 ∧ CLocal s41 :=
 fn_okL (L := L41) nil_sound Try.func151 (by kernel_rfl) (fun b hb => by
  have : loopsOf (bodyOf Try.f151) = [b41] := by kernel_rfl
  rw [this] at hb
  rw [List.mem_singleton.1 hb]
  exact l41) (fun xs hx => by
   obtain ⟨a, b, u⟩ := xs
   obtain ⟨_, hb, _⟩ := hx
   have hb := u8_iff.1 hb
   exact (fine41 a b).trans (fine_b hb)) (fun xs _ => by kernel_rfl)
end Go.Proofs.Ytaffancdidgkhaa.Aes
end
section
set_option linter.unusedVariables false
set_option maxRecDepth 100000
namespace Go.Proofs.Ytaffancdidgkhaa.Aes
open Go Vse Go.Proofs
def xN (x : Nat) : Nat := if 2 * x ≥ 256 then (2 * x) ^^^ 283 else 2 * x
def nN (b x n : Nat) : Nat := if b % 2 = 1 then n ^^^ x else n
def tN : Nat → Nat → Nat → Nat → Nat
 | 0, _, _, n => n
 | k + 1, b, x, n => tN k (b / 2) (xN x) (nN b x n)
def mulN (a b : Nat) : Nat := tN 8 b a 0
theorem xN_lt : ∀ x, x < 256 → xN x < 256 := by decide +kernel
theorem x41_nat : ∀ x, x < 256 → x41 (x : Nat) = (xN x : Nat) := by decide +kernel
theorem xorI_i64 {m n : Nat} (hm : m < 256) (hn : n < 256) : xorI .i64 m n = ((m ^^^ n : Nat) : Int) := by
 have := xor_lt256 hm hn
 refine xorI_nat ?_ ?_ ?_ <;> rw [max_i64] <;> omega
theorem nN_lt {b x n : Nat} (hx : x < 256) (hn : n < 256) : nN b x n < 256 := by
 unfold nN; split
 ·exact xor_lt256 hn hx
 ·exact hn
theorem tN_lt : ∀ (k : Nat) {b x n : Nat}, x < 256 → n < 256 → tN k b x n < 256
 | 0, b, x, n, _, hn => hn
 | k + 1, b, x, n, hx, hn => tN_lt k (xN_lt x hx) (nN_lt hx hn)
theorem tN_zero : ∀ (k x n : Nat), tN k 0 x n = n
 | 0, x, n => rfl
 | k + 1, x, n => by simp only [tN]; exact tN_zero k _ _
theorem tr_nat : ∀ (k : Nat) {b x n : Nat}, b < 2 ^ k → b < 256 → x < 256 → n < 256 → tr k n x b = (tN k b x n : Nat)
 | 0, b, x, n, _, _, _, _ => rfl
 | k + 1, b, x, n, hk, hb, hx, hn => by
  simp only [tr]
  by_cases h : (b : Int) > 0
  ·rw [decide_eq_true h]
   simp only [cond_true, tN]
   have e1 : n41 n x b = (nN b x n : Nat) := by
    unfold n41 nN
    have e : (b : Int).tmod 2 = ((b % 2 : Nat) : Int) := rfl
    rw [e]
    by_cases h1 : b % 2 = 1
    ·rw [if_pos h1, h1]; exact xorI_i64 hn hx
    ·rw [if_neg h1, show b % 2 = 0 by omega]; rfl
   have e2 : w ((b : Int).tdiv 2) = ((b / 2 : Nat) : Int) := by
    rw [Int.tdiv_eq_ediv_of_nonneg (by omega), w_id (by omega) (by omega)]; omega
   rw [e1, e2, x41_nat x hx]
   exact tr_nat k (by rw [Nat.pow_succ] at hk; omega) (by omega) (xN_lt x hx) (nN_lt hx hn)
  ·rw [decide_eq_false h]
   simp only [cond_false]
   have : b = 0 := by omega
   subst this
   rw [tN_zero]
theorem mulN_lt {a b : Nat} (ha : a < 256) : mulN a b < 256 := tN_lt 8 ha (by decide)
theorem wb_nat {n : Nat} (h : n < 256) : wb (n : Int) = n := wrap_nat (by rw [max_u8]; omega)
theorem timesR_nat {a b : Nat} (ha : a < 256) (hb : b < 256) : timesR a b = (mulN a b : Nat) := by
 unfold timesR
 rw [w_id (by omega) (by omega), w_id (by omega) (by omega)]
 have := tr_nat 8 (b := b) (x := a) (n := 0) (by omega) hb ha (by decide)
 rw [show (0 : Int) = ((0 : Nat) : Int) from rfl, this]
 exact wb_nat (mulN_lt ha)
theorem tN_acc : ∀ (k b x n m : Nat), tN k b x (n ^^^ m) = tN k b x n ^^^ m
 | 0, _, _, _, _ => rfl
 | k + 1, b, x, n, m => by
  simp only [tN]
  have : nN b x (n ^^^ m) = nN b x n ^^^ m := by
   unfold nN; split
   ·rw [Nat.xor_assoc, Nat.xor_comm m x, ← Nat.xor_assoc]
   ·rfl
  rw [this]
  exact tN_acc k _ _ _ _
end Go.Proofs.Ytaffancdidgkhaa.Aes
end
section
set_option linter.unusedVariables false
set_option maxRecDepth 1000000
namespace Go.Proofs.Ytaffancdidgkhaa.Aes
open Go Vse Go.Proofs
def powL : List Int := [1, 3, 5, 15, 17, 51, 85, 255, 26, 46, 114, 150, 161, 248, 19, 53, 95, 225, 56, 72, 216, 115, 149, 164, 247, 2, 6, 10, 30, 34, 102, 170, 229, 52, 92, 228, 55, 89, 235, 38, 106, 190, 217, 112, 144, 171, 230, 49, 83, 245, 4, 12, 20, 60, 68, 204, 79, 209, 104, 184, 211, 110, 178, 205, 76, 212, 103, 169, 224, 59, 77, 215, 98, 166, 241, 8, 24, 40, 120, 136, 131, 158, 185, 208, 107, 189, 220, 127, 129, 152, 179, 206, 73, 219, 118, 154, 181, 196, 87, 249, 16, 48, 80, 240, 11, 29, 39, 105, 187, 214, 97, 163, 254, 25, 43, 125, 135, 146, 173, 236, 47, 113, 147, 174, 233, 32, 96, 160, 251, 22, 58, 78, 210, 109, 183, 194, 93, 231, 50, 86, 250, 21, 63, 65, 195, 94, 226, 61, 71, 201, 64, 192, 91, 237, 44, 116, 156, 191, 218, 117, 159, 186, 213, 100, 172, 239, 42, 126, 130, 157, 188, 223, 122, 142, 137, 128, 155, 182, 193, 88, 232, 35, 101, 175, 234, 37, 111, 177, 200, 67, 197, 84, 252, 31, 33, 99, 165, 244, 7, 9, 27, 45, 119, 153, 176, 203, 70, 202, 69, 207, 74, 222, 121, 139, 134, 145, 168, 227, 62, 66, 198, 81, 243, 14, 18, 54, 90, 238, 41, 123, 141, 140, 143, 138, 133, 148, 167, 242, 13, 23, 57, 75, 221, 124, 132, 151, 162, 253, 28, 36, 108, 180, 199, 82, 246]
def boxL : List Int := [99, 124, 119, 123, 242, 107, 111, 197, 48, 1, 103, 43, 254, 215, 171, 118, 202, 130, 201, 125, 250, 89, 71, 240, 173, 212, 162, 175, 156, 164, 114, 192, 183, 253, 147, 38, 54, 63, 247, 204, 52, 165, 229, 241, 113, 216, 49, 21, 4, 199, 35, 195, 24, 150, 5, 154, 7, 18, 128, 226, 235, 39, 178, 117, 9, 131, 44, 26, 27, 110, 90, 160, 82, 59, 214, 179, 41, 227, 47, 132, 83, 209, 0, 237, 32, 252, 177, 91, 106, 203, 190, 57, 74, 76, 88, 207, 208, 239, 170, 251, 67, 77, 51, 133, 69, 249, 2, 127, 80, 60, 159, 168, 81, 163, 64, 143, 146, 157, 56, 245, 188, 182, 218, 33, 16, 255, 243, 210, 205, 12, 19, 236, 95, 151, 68, 23, 196, 167, 126, 61, 100, 93, 25, 115, 96, 129, 79, 220, 34, 42, 144, 136, 70, 238, 184, 20, 222, 94, 11, 219, 224, 50, 58, 10, 73, 6, 36, 92, 194, 211, 172, 98, 145, 149, 228, 121, 231, 200, 55, 109, 141, 213, 78, 169, 108, 86, 244, 234, 101, 122, 174, 8, 186, 120, 37, 46, 28, 166, 180, 198, 232, 221, 116, 31, 75, 189, 139, 138, 112, 62, 181, 102, 72, 3, 246, 14, 97, 53, 87, 185, 134, 193, 29, 158, 225, 248, 152, 17, 105, 217, 142, 148, 155, 30, 135, 233, 206, 85, 40, 223, 140, 161, 137, 13, 191, 230, 66, 104, 65, 153, 45, 15, 176, 84, 187, 22]
abbrev t256 : Ty := .arr 256 (.int .u8)
abbrev t255 : Ty := .arr 255 (.int .u8)
abbrev t16 : Ty := .arr 16 (.int .u8)
def s39 : CSpec := .fn1 [] t256 fun _ => boxL
theorem ok39 : CSound Try.prog 148 s39 ∧ CLocal s39 := fn_ok1 nil_sound Try.func148 (by kernel_rfl) (fun xs _ => by kernel_rfl) (fun xs _ => by kernel_rfl)
def twiceI (b : Int) : Int := xorI .u8 (shlI .u8 b 1) (andI .u8 27 (wb (0 - shrI .u8 b 7)))
def s61 : CSpec := .fn1 [u8] u8 fun x => twiceI x.1
theorem ok61 : CSound Try.prog 168 s61 ∧ CLocal s61 := fn_ok1 nil_sound Try.func168 (by kernel_rfl) (fun xs _ => by kernel_rfl) (fun xs _ => by kernel_rfl)
def C1 : List (Nat × CSpec) := [(177, s40), (151, s41), (148, s39), (168, s61)]
theorem C1_sound : CtxSound Try.prog (ctx C1) ∧ CtxLocal (ctx C1) := ctx_sound ⟨ok40, ok41, ok39, ok61, trivial⟩
abbrev pt (e : Nat) : Ty := .ptr e []
def S59a : LSpec := ⟨[0, 1, 2, 9], [0, 1], 47, [pt 0, pt 1, u8, i64], [.box t256, .box t255]⟩
noncomputable def b59a : Code := loopAt Try.f166 0
theorem r59a (p i : Int) (o l : List Int) : (S59a.round (bodyK Try.prog (ctx C1) L0 b59a) ((), (), p, i, ()) (o, l, ())).eval =
  bif decide (i < 255) then (bif inArr i 255 then some (.inl (((), (), timesI p 3, w (i + 1), ()), (o, l.set i.toNat p, ()))) else none)
  else some (.inr (.exit 0, encS [0, 1] [pt 0, pt 1] [.box t256, .box t255] 47 ((), (), ()) (o, l, ()))) := by kernel_rfl
def powE (k : Nat) : Int := (powL ++ [1]).getD k 0
def lA (k : Nat) : List Int := (List.range 255).map fun j => if j < k then powE j else 0
theorem powE_next : ∀ k, k < 255 → timesI (powE k) 3 = powE (k + 1) := by decide +kernel
theorem lA_set {k : Nat} (h : k < 255) : (lA k).set k (powE k) = lA (k + 1) := by
 unfold lA
 apply List.ext_getElem
 ·simp
 ·intro j h1 h2
  simp only [List.getElem_set, List.getElem_map, List.getElem_range]
  by_cases hj : k = j
  ·subst hj; simp
  ·simp only [if_neg hj]
   by_cases hlt : j < k
   ·simp [hlt, Nat.lt_succ_of_lt hlt]
   ·simp [hlt, show ¬ j < k + 1 by omega]
theorem lA_end : lA 255 = powL := by decide +kernel
theorem lA_begin : lA 0 = List.replicate 255 0 := by decide +kernel
theorem k59a (o : List Int) : ∀ (m k : Nat), k + m = 255 → S59a.many (bodyK Try.prog (ctx C1) L0 b59a) (m + 1) ((), (), powE k, (k : Int), ()) (o, lA k, ()) =
  some (.exit 0, encS [0, 1] [pt 0, pt 1] [.box t256, .box t255] 47 ((), (), ()) (o, powL, ()))
 | 0, k, h => by
  refine many_inr ?_ 0
  rw [r59a, decide_eq_false (by omega), show k = 255 by omega, lA_end]
  rfl
 | m + 1, k, h => by
  refine (many_inl (d := (((), (), powE (k + 1), ((k + 1 : Nat) : Int), ()), (o, lA (k + 1), ()))) ?_ (m + 1)).trans (k59a o m (k + 1) (by omega))
  rw [r59a, decide_eq_true (by omega), show inArr (k : Int) 255 = true by simp [inArr]; omega]
  simp only [cond_true]
  rw [powE_next k (by omega), w_id (by omega) (by omega), show ((k : Int)).toNat = k by omega, lA_set (by omega)]
  rfl
def F59a (xs : HL S59a.Ts) (hs : HD S59a.Es) : Tr (Ex × St) :=
 .chk (decide (xs.2.2.1 = (1 : Int)) && (decide (xs.2.2.2.1 = (0 : Int)) && decide (hs.2.1 = List.replicate 255 (0 : Int))))
  (.ret (.exit 0, encS [0, 1] [pt 0, pt 1] [.box t256, .box t255] 47 ((), (), ()) (hs.1, powL, ())))
end Go.Proofs.Ytaffancdidgkhaa.Aes
end
section
set_option linter.unusedVariables false
set_option maxRecDepth 1000000
namespace Go.Proofs.Ytaffancdidgkhaa.Aes
open Go Vse Go.Proofs
noncomputable def b59b : Code := loopAt Try.f166 1
noncomputable def b59i : Code := ((loopsOf b59b)[0]?).getD .skip
def rot (r : Int) : Int := orI .u8 (shlI .u8 r 1) (shrI .u8 r 7)
def rots (r n : Int) : Int := xorI .u8 (xorI .u8 (xorI .u8 (xorI .u8 n (rot r)) (rot (rot r))) (rot (rot (rot r)))) (rot (rot (rot (rot r))))
def S59i : LSpec := ⟨[0, 1, 4, 6, 7, 8, 19, 20, 30], [0, 1, 4, 6, 8, 19, 20], 47, [pt 0, pt 1, pt 2, u8, u8, u8, t255, i64, i64], [.box t256, .box t255, .box t256]⟩
def F59i (xs : HL S59i.Ts) (hs : HD S59i.Es) : Tr (Ex × St) :=
 .chk (decide (xs.2.2.2.2.2.2.2.2.1 = (0 : Int))) (.ret (.exit 4, encS [0, 1, 4, 6, 8, 19, 20] [pt 0, pt 1, pt 2, u8, u8, t255, i64] S59i.Es 47
  ((), (), (), xs.2.2.2.1, rots xs.2.2.2.2.1 xs.2.2.2.2.2.1, xs.2.2.2.2.2.2.1, xs.2.2.2.2.2.2.2.1, ()) hs))
theorem k59i (p r n j : Int) (l : List Int) (hs : HD S59i.Es) : S59i.many (bodyK Try.prog (ctx C1) L0 b59i) 5 ((), (), (), p, r, n, l, j, (0 : Int), ()) hs =
  some (.exit 4, encS [0, 1, 4, 6, 8, 19, 20] [pt 0, pt 1, pt 2, u8, u8, t255, i64] S59i.Es 47 ((), (), (), p, rots r n, l, j, ()) hs) := by kernel_rfl
def L59i : Loops := fun j st => if j = 17 then S59i.fn F59i st else .fail
def S59b : LSpec := ⟨[0, 1, 4, 19, 20], [0, 4], 47, [pt 0, pt 1, pt 2, t255, i64], [.box t256, .box t255, .box t256]⟩
theorem k59b (o : List Int) : S59b.many (bodyK Try.prog (ctx C1) L59i b59b) 256 ((), (), (), powL, (0 : Int), ()) (o, powL, (List.replicate 256 (0 : Int)).set 0 99, ()) =
  some (.exit 2, encS [0, 4] [pt 0, pt 2] S59b.Es 47 ((), (), ()) (o, powL, boxL, ())) := by kernel_rfl
end Go.Proofs.Ytaffancdidgkhaa.Aes
end
section
set_option linter.unusedVariables false
set_option maxRecDepth 1000000
namespace Go.Proofs.Ytaffancdidgkhaa.Aes
open Go Vse Go.Proofs
theorem l59i : LoopOK Try.prog L59i b59i :=
 loop_ok (L := L59i) (L' := L0) C1_sound (loopsOK_of (by kernel_rfl)) S59i (by kernel_rfl) (F := F59i) (i := 17) (by kernel_rfl) (fun _ => rfl) fun xs hs r h => by
  obtain ⟨u0, u1, u2, p, q, n, l, j, i, u⟩ := xs
  obtain ⟨h1, h2⟩ := Tr.chk_some h
  have := Tr.ret_some h2
  have hi : i = (0 : Int) := of_decide_eq_true h1
  subst hi
  exact ⟨_, (k59i p q n j l hs).trans (congrArg some this)⟩
def F59b (xs : HL S59b.Ts) (hs : HD S59b.Es) : Tr (Ex × St) :=
 .chk (decide (xs.2.2.2.1 = powL) && (decide (xs.2.2.2.2.1 = (0 : Int)) && (decide (hs.2.1 = powL) && decide (hs.2.2.1 = (List.replicate 256 (0 : Int)).set 0 99))))
  (.ret (.exit 2, encS [0, 4] [pt 0, pt 2] S59b.Es 47 ((), (), ()) (hs.1, powL, boxL, ())))
def L59 : Loops := fun j st => if j = 4 then S59a.fn F59a st else if j = 12 then S59b.fn F59b st else .fail
theorem l59a : LoopOK Try.prog L59 b59a :=
 loop_ok (L := L59) (L' := L0) C1_sound (loopsOK_of (by kernel_rfl)) S59a (by kernel_rfl) (F := F59a) (i := 4) (by kernel_rfl) (fun _ => rfl) fun xs hs r h => by
  obtain ⟨u0, u1, p, i, u⟩ := xs
  obtain ⟨o, l, u2⟩ := hs
  obtain ⟨h1, h2⟩ := Tr.chk_some h
  have := Tr.ret_some h2
  simp only [Bool.and_eq_true, decide_eq_true_eq] at h1
  obtain ⟨e1, e2, e3⟩ := h1
  have e1 : p = powE 0 := e1
  have e2 : i = ((0 : Nat) : Int) := e2
  have e3 : l = lA 0 := e3.trans lA_begin.symm
  subst e1; subst e2; subst e3
  exact ⟨_, (k59a o 255 0 rfl).trans (congrArg some this)⟩
theorem l59b : LoopOK Try.prog L59 b59b :=
 loop_ok (L := L59) (L' := L59i) C1_sound (loopsOK_all (fun b hb => by
  have : loopsOf b59b = [b59i] := by kernel_rfl
  rw [this] at hb
  rw [List.mem_singleton.1 hb]
  exact l59i)) S59b (by kernel_rfl) (F := F59b) (i := 12) (by kernel_rfl) (fun _ => rfl) fun xs hs r h => by
  obtain ⟨u0, u1, u2, l, i, u⟩ := xs
  obtain ⟨o, l2, z, u3⟩ := hs
  obtain ⟨h1, h2⟩ := Tr.chk_some h
  have := Tr.ret_some h2
  simp only [Bool.and_eq_true, decide_eq_true_eq] at h1
  obtain ⟨e1, e2, e3, e4⟩ := h1
  have e1 : l = powL := e1
  have e2 : i = (0 : Int) := e2
  have e3 : l2 = powL := e3
  have e4 : z = (List.replicate 256 (0 : Int)).set 0 99 := e4
  subst e1; subst e2; subst e3; subst e4
  exact ⟨_, (k59b o).trans (congrArg some this)⟩
def s59 : CSpec := .fn1 [] t256 fun _ => boxL
theorem ok59 : CSound Try.prog 166 s59 ∧ CLocal s59 :=
 fn_okL (L := L59) C1_sound Try.func166 (by kernel_rfl) (fun b hb => by
  have : loopsOf (bodyOf Try.f166) = [b59a, b59b] := by kernel_rfl
  rw [this] at hb
  simp only [List.mem_cons, List.not_mem_nil, or_false] at hb
  rcases hb with rfl | rfl
  ·exact l59a
  ·exact l59b) (fun xs _ => by kernel_rfl) (fun xs _ => by kernel_rfl)
end Go.Proofs.Ytaffancdidgkhaa.Aes
end
section
set_option linter.unusedVariables false
set_option maxRecDepth 100000
namespace Go.Proofs.Ytaffancdidgkhaa.Aes
open Go Vse Go.Proofs
theorem tN_acc0 (k b x n : Nat) : tN k b x n = n ^^^ tN k b x 0 := by
 have := tN_acc k b x 0 n
 rw [Nat.zero_xor] at this
 rw [this, Nat.xor_comm]
theorem half_xor (b c : Nat) : (b ^^^ c) / 2 = b / 2 ^^^ c / 2 := by
 have := Nat.shiftRight_xor_distrib (a := b) (b := c) (i := 1)
 simpa [Nat.shiftRight_eq_div_pow] using this
theorem odd_xor (b c : Nat) : (b ^^^ c) % 2 = (b % 2 + c % 2) % 2 := by
 have h := Nat.xor_mod_two_pow (a := b) (b := c) (n := 1)
 simp only [Nat.pow_one] at h
 rw [h]
 rcases Nat.mod_two_eq_zero_or_one b with e | e <;> rcases Nat.mod_two_eq_zero_or_one c with e' | e' <;> rw [e, e'] <;> decide
theorem tN_add (k : Nat) : ∀ (b c x : Nat), tN k (b ^^^ c) x 0 = tN k b x 0 ^^^ tN k c x 0 := by
 induction k with
 | zero => intro b c x; simp [tN]
 | succ k ih =>
  intro b c x
  simp only [tN]
  rw [half_xor, tN_acc0 k _ _ (nN (b ^^^ c) x 0), tN_acc0 k _ _ (nN b x 0), tN_acc0 k _ _ (nN c x 0), ih]
  have hn : nN (b ^^^ c) x 0 = nN b x 0 ^^^ nN c x 0 := by
   unfold nN
   rw [odd_xor]
   rcases Nat.mod_two_eq_zero_or_one b with e | e <;> rcases Nat.mod_two_eq_zero_or_one c with e' | e' <;> simp [e, e']
  rw [hn]
  generalize nN b x 0 = p
  generalize nN c x 0 = q
  generalize tN k (b / 2) (xN x) 0 = r
  generalize tN k (c / 2) (xN x) 0 = s
  rw [Nat.xor_assoc, Nat.xor_assoc, ← Nat.xor_assoc q, Nat.xor_comm q r, Nat.xor_assoc r q s]
theorem mul_add (a b c : Nat) : mulN a (b ^^^ c) = mulN a b ^^^ mulN a c := tN_add 8 b c a
theorem xN_add : ∀ a, a < 256 → ∀ d, d < 256 → xN (a ^^^ d) = xN a ^^^ xN d := by decide +kernel
theorem tN_add' (k : Nat) : ∀ (b x y : Nat), x < 256 → y < 256 → tN k b (x ^^^ y) 0 = tN k b x 0 ^^^ tN k b y 0 := by
 induction k with
 | zero => intro b x y _ _; simp [tN]
 | succ k ih =>
  intro b x y hx hy
  simp only [tN]
  rw [xN_add x hx y hy, tN_acc0 k _ _ (nN b (x ^^^ y) 0), tN_acc0 k _ _ (nN b x 0), tN_acc0 k _ _ (nN b y 0), ih _ _ _ (xN_lt x hx) (xN_lt y hy)]
  have hn : nN b (x ^^^ y) 0 = nN b x 0 ^^^ nN b y 0 := by
   unfold nN
   rcases Nat.mod_two_eq_zero_or_one b with e | e <;> simp [e]
  rw [hn]
  generalize nN b x 0 = p
  generalize nN b y 0 = q
  generalize tN k (b / 2) (xN x) 0 = r
  generalize tN k (b / 2) (xN y) 0 = s
  rw [Nat.xor_assoc, Nat.xor_assoc, ← Nat.xor_assoc q, Nat.xor_comm q r, Nat.xor_assoc r q s]
theorem add_mul {a d : Nat} (b : Nat) (ha : a < 256) (hd : d < 256) : mulN (a ^^^ d) b = mulN a b ^^^ mulN d b := tN_add' 8 b a d ha hd
theorem low_bit : ∀ a, a < 256 → a = 0 ∨ ∃ i, i < 8 ∧ ∃ b, b < a ∧ a = b ^^^ 2 ^ i := by
 intro a ha
 by_cases h0 : a = 0
 ·exact .inl h0
 ·refine .inr ?_
  have : ∀ a, a < 256 → a ≠ 0 → (a - 2 ^ a.log2) ^^^ 2 ^ a.log2 = a ∧ a.log2 < 8 ∧ 2 ^ a.log2 ≤ a ∧ 0 < 2 ^ a.log2 := by decide +kernel
  obtain ⟨h1, h2, h3, h4⟩ := this a ha h0
  exact ⟨a.log2, h2, a - 2 ^ a.log2, by omega, h1.symm⟩
theorem add_ext {g h : Nat → Nat} (hg : ∀ x y, x < 256 → y < 256 → g (x ^^^ y) = g x ^^^ g y) (hh : ∀ x y, x < 256 → y < 256 → h (x ^^^ y) = h x ^^^ h y)
  (he : ∀ i, i < 8 → g (2 ^ i) = h (2 ^ i)) : ∀ a, a < 256 → g a = h a := by
 intro a
 induction a using Nat.strongRecOn with
 | _ a ih =>
  intro ha
  rcases low_bit a ha with rfl | ⟨i, hi, b, hb, e⟩
  ·have h1 := hg 0 0 (by decide) (by decide)
   have h2 := hh 0 0 (by decide) (by decide)
   simp only [Nat.xor_self] at h1 h2
   rw [h1, h2]
  ·have hp : 2 ^ i < 256 := Nat.lt_of_lt_of_le (Nat.pow_lt_pow_right (by decide) hi) (by decide)
   rw [e, hg b _ (by omega) hp, hh b _ (by omega) hp, ih b hb (by omega), he i hi]
theorem mul_comm0 : ∀ i, i < 8 → ∀ j, j < 8 → mulN (2 ^ i) (2 ^ j) = mulN (2 ^ j) (2 ^ i) := by decide +kernel
theorem mul_comm {a b : Nat} (ha : a < 256) (hb : b < 256) : mulN a b = mulN b a := by
 refine add_ext (g := fun x => mulN x b) (h := fun x => mulN b x) (fun x y hx hy => add_mul b hx hy) (fun x y _ _ => mul_add b x y) (fun i hi => ?_) a ha
 have hp : 2 ^ i < 256 := Nat.lt_of_lt_of_le (Nat.pow_lt_pow_right (by decide) hi) (by decide)
 exact add_ext (g := fun y => mulN (2 ^ i) y) (h := fun y => mulN y (2 ^ i)) (fun x y _ _ => mul_add _ x y) (fun x y hx hy => add_mul _ hx hy) (fun j hj => mul_comm0 i hi j hj) b hb
theorem mul_assoc0 : ∀ i, i < 8 → ∀ j, j < 8 → ∀ k, k < 8 → mulN (mulN (2 ^ i) (2 ^ j)) (2 ^ k) = mulN (2 ^ i) (mulN (2 ^ j) (2 ^ k)) := by decide +kernel
theorem mul_assoc {a b c : Nat} (ha : a < 256) (hb : b < 256) (hc : c < 256) : mulN (mulN a b) c = mulN a (mulN b c) := by
 have pow : ∀ i, i < 8 → 2 ^ i < 256 := fun i hi => Nat.lt_of_lt_of_le (Nat.pow_lt_pow_right (by decide) hi) (by decide)
 refine add_ext (g := fun x => mulN (mulN x b) c) (h := fun x => mulN x (mulN b c)) (fun x y hx hy => ?_) (fun x y hx hy => add_mul _ hx hy) (fun i hi => ?_) a ha
 ·show mulN (mulN (x ^^^ y) b) c = _
  rw [add_mul b hx hy, add_mul c (mulN_lt hx) (mulN_lt hy)]
 refine add_ext (g := fun y => mulN (mulN (2 ^ i) y) c) (h := fun y => mulN (2 ^ i) (mulN y c)) (fun x y _ _ => ?_) (fun x y hx hy => ?_) (fun j hj => ?_) b hb
 ·show mulN (mulN (2 ^ i) (x ^^^ y)) c = _
  rw [mul_add, add_mul c (mulN_lt (pow i hi)) (mulN_lt (pow i hi))]
 ·show mulN (2 ^ i) (mulN (x ^^^ y) c) = _
  rw [add_mul c hx hy, mul_add]
 refine add_ext (g := fun z => mulN (mulN (2 ^ i) (2 ^ j)) z) (h := fun z => mulN (2 ^ i) (mulN (2 ^ j) z)) (fun x y _ _ => mul_add _ x y) (fun x y _ _ => ?_) (fun k hk => mul_assoc0 i hi j hj k hk) c hc
 show mulN (2 ^ i) (mulN (2 ^ j) (x ^^^ y)) = _
 rw [mul_add, mul_add]
theorem mul_one' : ∀ a, a < 256 → mulN 1 a = a := by decide +kernel
end Go.Proofs.Ytaffancdidgkhaa.Aes
end
section
set_option linter.unusedVariables false
set_option maxRecDepth 1000000
namespace Go.Proofs.Ytaffancdidgkhaa.Aes
open Go Vse Go.Proofs
def C2 : List (Nat × CSpec) := (166, s59) :: C1
theorem C2_sound : CtxSound Try.prog (ctx C2) ∧ CtxLocal (ctx C2) := ctx_sound ⟨ok59, ok40, ok41, ok39, ok61, trivial⟩
def S62 : LSpec := ⟨[2, 3, 4, 5], [2, 4], 20, [pt 0, pt 1, pt 2, i64], [.box t16, .box t16, .box t16]⟩
noncomputable def b62 : Code := loopAt Try.f150 0
def xorAt (a b : List Int) (i : Nat) : List Int := a.set i (xorI .u8 (a.getD i 0) (b.getD i 0))
theorem r62 (i : Int) (a b o : List Int) : (S62.round (bodyK Try.prog (ctx []) L0 b62) ((), (), (), i, ()) (a, b, o, ())).eval =
  bif decide (i < 16) then (bif inArr i 16 then some (.inl (((), (), (), w (i + 1), ()), (xorAt a b i.toNat, b, o, ()))) else none)
  else some (.inr (.exit 0, encS [2, 4] [pt 0, pt 2] S62.Es 20 ((), (), ()) (a, b, o, ()))) := by
 have e : (S62.round (bodyK Try.prog (ctx []) L0 b62) ((), (), (), i, ()) (a, b, o, ())).eval =
  bif decide (i < 16) then (bif inArr i 16 then (bif inArr i 16 then (bif inArr i 16 then some (.inl (((), (), (), w (i + 1), ()), (xorAt a b i.toNat, b, o, ()))) else none) else none) else none)
  else some (.inr (.exit 0, encS [2, 4] [pt 0, pt 2] S62.Es 20 ((), (), ()) (a, b, o, ()))) := by kernel_rfl
 rw [e]
 cases decide (i < 16) <;> cases inArr i 16 <;> rfl
def lX (a b : List Int) (k : Nat) : List Int := (List.range 16).map fun j => if j < k then xorI .u8 (a.getD j 0) (b.getD j 0) else a.getD j 0
theorem lX_set {a b : List Int} {k : Nat} (h : k < 16) : xorAt (lX a b k) b k = lX a b (k + 1) := by
 unfold xorAt
 have hk : (lX a b k).getD k 0 = a.getD k 0 := by
  unfold lX
  rw [List.getD_eq_getElem?_getD, List.getElem?_map, List.getElem?_range h]
  simp
 rw [hk]
 unfold lX
 apply List.ext_getElem
 ·simp
 ·intro j h1 h2
  simp only [List.getElem_set, List.getElem_map, List.getElem_range]
  by_cases hj : k = j
  ·subst hj; simp
  ·simp only [if_neg hj]
   by_cases hlt : j < k
   ·simp [hlt, Nat.lt_succ_of_lt hlt]
   ·simp [hlt, show ¬ j < k + 1 by omega]
theorem lX_begin {a b : List Int} (h : a.length = 16) : lX a b 0 = a := by
 unfold lX
 apply List.ext_getElem
 ·simp [h]
 ·intro j h1 h2
  simp [List.getD_eq_getElem?_getD, List.getElem?_eq_getElem h2]
def xorF (a b : List Int) : List Int := lX a b 16
theorem k62 (a b o : List Int) : ∀ (m k : Nat), k + m = 16 → S62.many (bodyK Try.prog (ctx []) L0 b62) (m + 1) ((), (), (), (k : Int), ()) (lX a b k, b, o, ()) =
  some (.exit 0, encS [2, 4] [pt 0, pt 2] S62.Es 20 ((), (), ()) (xorF a b, b, o, ()))
 | 0, k, h => by
  refine many_inr ?_ 0
  rw [r62, decide_eq_false (by omega), show k = 16 by omega]
  rfl
 | m + 1, k, h => by
  refine (many_inl (d := (((), (), (), ((k + 1 : Nat) : Int), ()), (lX a b (k + 1), b, o, ()))) ?_ (m + 1)).trans (k62 a b o m (k + 1) (by omega))
  rw [r62, decide_eq_true (by omega), show inArr (k : Int) 16 = true by simp [inArr]; omega]
  simp only [cond_true]
  rw [w_id (by omega) (by omega), show ((k : Int)).toNat = k by omega, lX_set (by omega)]
  rfl
def F62 (xs : HL S62.Ts) (hs : HD S62.Es) : Tr (Ex × St) :=
 .chk (decide (xs.2.2.2.1 = (0 : Int)) && decide ((hs.1 : List Int).length = 16)) (.ret (.exit 0, encS [2, 4] [pt 0, pt 2] S62.Es 20 ((), (), ()) (xorF hs.1 hs.2.1, hs.2.1, hs.2.2.1, ())))
def L62 : Loops := fun j st => if j = 2 then S62.fn F62 st else .fail
theorem l62 : LoopOK Try.prog L62 b62 :=
 loop_ok (L := L62) (L' := L0) nil_sound (loopsOK_of (by kernel_rfl)) S62 (by kernel_rfl) (F := F62) (i := 2) (by kernel_rfl) (fun _ => rfl) fun xs hs r h => by
  obtain ⟨u0, u1, u2, i, u⟩ := xs
  obtain ⟨a, b, o, u3⟩ := hs
  obtain ⟨h1, h2⟩ := Tr.chk_some h
  have := Tr.ret_some h2
  simp only [Bool.and_eq_true, decide_eq_true_eq] at h1
  obtain ⟨e1, e2⟩ := h1
  have e1 : i = ((0 : Nat) : Int) := e1
  subst e1
  have e3 : lX a b 0 = a := lX_begin e2
  have := (k62 a b o 16 0 rfl).trans (congrArg some this)
  rw [e3] at this
  exact ⟨_, this⟩
def s62 : CSpec := .fn1 [t16, t16] t16 fun x => xorF x.1 x.2.1
theorem fine62 (a b : List Int) : (fnK Try.prog (ctx []) L62 Try.f150 (mkArgs [t16, t16] (a, b, ())) []).fine [t16] = (decide ((0 : Int) = 0) && decide (a.length = 16)) := by kernel_rfl
theorem ok62 : CSound Try.prog 150 s62 ∧ CLocal s62 :=
 fn_okL (L := L62) nil_sound Try.func150 (by kernel_rfl) (fun b hb => by
  have : loopsOf (bodyOf Try.f150) = [b62] := by kernel_rfl
  rw [this] at hb
  rw [List.mem_singleton.1 hb]
  exact l62) (fun xs hx => by
   obtain ⟨a, b, u⟩ := xs
   refine (fine62 a b).trans ?_
   rw [decide_eq_true (show a.length = 16 from hx.1.1)]
   rfl) (fun xs _ => by kernel_rfl)
end Go.Proofs.Ytaffancdidgkhaa.Aes
end
section
set_option linter.unusedVariables false
set_option maxRecDepth 1000000
namespace Go.Proofs.Ytaffancdidgkhaa.Aes
open Go Vse Go.Proofs
end Go.Proofs.Ytaffancdidgkhaa.Aes
end
end

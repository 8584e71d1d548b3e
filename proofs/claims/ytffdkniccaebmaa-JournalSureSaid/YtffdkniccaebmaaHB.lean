import Derived.Test.YtffdkniccaebmaaHA

section
/- The laws of layer 1 (sha): what they answer, but for the document's own digest. -/
set_option linter.unusedVariables false
set_option maxRecDepth 100000
namespace Go.Proofs.Ytffdkniccaebmaa.Sha
open Go Vse Go.Proofs Gen

abbrev yes : Tr AV := .ret (.v .bool true)
abbrev no : Tr AV := .ret (.v .bool false)
def eqA (a b : List Int) : Bool := eqList (fun x y => decide (x = y)) a b
theorem eqA_self : ∀ a : List Int, eqA a a = true
  | [] => rfl
  | x :: a => by
    have := eqA_self a
    unfold eqA at this ⊢
    simp only [eqList, decide_true, Bool.true_and]
    exact this

abbrev Fb := List Int → List Int
abbrev Pb := List Int → Bool
/-! ShaSums -/

def T3 (S : Fb) (p : Pb) (R : Fb) (p' : Pb) (b : List Int) : Tr AV :=
  .ite (decide ((b.length : Int) > 400)) yes (.chk (p b) (.chk (p' b) (.ret (.v .bool (eqA (S b) (R b))))))
/-! ShaKeeps -/

def T5 (S : Fb) (p : Pb) (i : Hs) (W : Wr) (pw : List Int → Hs → Bool) (q : Hs → Bool) (D : Hs → List Int) (b : List Int) (n : Int) : Tr AV :=
  let own : List Int := [] ++ b
  .ite (decide ((b.length : Int) > 400)) yes (.ite (decide (n < 0)) yes (.ite (decide (n ≥ (b.length : Int))) yes (.chk (Vse.room (([] : List Int).length + b.length) 1) (.chk (p own) (.chk (pw own i) (.chk (inArr n own.length) (.chk (inArr n own.length)
    (.ite (sameI own b) (.chk (q (W own i)) (.ret (.v .bool (eqA (D (W own i)) (S own))))) no))))))))
/-! ShaParts -/

def SP : RSpec := ⟨[0, 3, 4, 6, 7, 8], 50, [lt, .bool, bt, .ptr 0 [], .vc 1 0, i64], [.box hT, .vec 0 u8], [.box .unit], [.slot 7 u8], fun x => match x with | .ret => ([2], [.bool], [.dead]) | _ => ([3, 4, 6], [.bool, bt, .ptr 0 []], [.box hT])⟩
def GP (S : Fb) (p : Pb) (W : Wr) (pw : List Int → Hs → Bool) (q : Hs → Bool) (D : Hs → List Int) (l : List (List Int)) (up : Bool) (all : List Int) (i : Int) (h : Hs) (so : List Int) : Tr SP.End :=
  let x : List Int := l.getD i.toNat []
  .ite (decide (i < (l.length : Int))) (.chk (inArr i l.length) (.chk (pw x h) (.chk (inArr i l.length) (.chk (Vse.room (so.length + x.length) 1) (.chk (q (W x h)) (.chk (p (so ++ x))
      (.ite (!(eqA (D (W x h)) (S (so ++ x)))) (.ret (.inr (.ret, encS [2] [.bool] [.dead] 50 (false, ()) ()))) (.ret (.inl ((l, up, all, (), (), w (i + 1), ()), (W x h, so ++ x, ()))))))))))) 
    (.ret (.inr (.exit 0, encS [3, 4, 6] [.bool, bt, .ptr 0 []] [.box hT] 50 (up, all, (), ()) (h, ()))))
def FP (c : List (List Int) → Int → Hs → List Int → Bool) (Z : List (List Int) → Hs → Hs) (xs : HL SP.Ts) (hs : HD SP.Es) : Tr (Ex × St) :=
  .chk (c xs.1 xs.2.2.2.2.2.1 hs.1 hs.2.1) (.ret (.exit 0, encS [3, 4, 6] [.bool, bt, .ptr 0 []] [.box hT] 50 (xs.2.1, xs.2.2.1, (), ()) (Z xs.1 hs.1, ())))
def LP (c : List (List Int) → Int → Hs → List Int → Bool) (Z : List (List Int) → Hs → Hs) : Loops := fun j st => if j = 8 then SP.fn (FP c Z) st else .fail
end Go.Proofs.Ytffdkniccaebmaa.Sha

end
section
/- The laws of layer 1 (sha) that need no other digest: however bytes are written in parts, the digest is that of them all; what was written stays. -/
set_option linter.unusedVariables false
set_option maxRecDepth 100000
namespace Go.Proofs.Ytffdkniccaebmaa.Sha
open Go Vse Go.Proofs Gen

theorem absF_short {s all : List Int} (h : all.length < 64) : absF s all = (s, all) := by
  unfold absF
  rw [Nat.div_eq_of_lt h]
  rfl
theorem absF_long {s all : List Int} (h : 64 ≤ all.length) : absF s all = absF (mixF s (all.take 64)) (all.drop 64) := by
  unfold absF
  have : all.length / 64 = (all.drop 64).length / 64 + 1 := by rw [List.length_drop]; omega
  rw [this, absorb]

theorem absF_append : ∀ (n : Nat) (s y x : List Int), y.length / 64 = n → absF (absF s y).1 ((absF s y).2 ++ x) = absF s (y ++ x)
  | 0, s, y, x, h => by rw [absF_short (s := s) (all := y) (by omega)]
  | n + 1, s, y, x, h => by
    have hy : 64 ≤ y.length := by omega
    rw [absF_long (s := s) hy, absF_append n _ _ x (by rw [List.length_drop]; omega), absF_long (s := s) (all := y ++ x) (by rw [List.length_append]; omega)]
    rw [List.take_append_of_le_length hy, List.drop_append_of_le_length hy]

def hashOf (y : List Int) : Hs := writeF y h0

theorem wu_id {x : Int} (h : 0 ≤ x) (h' : x ≤ 18446744073709551615) : wu x = x := by
  simp [IntKind.wrap, IntKind.signed, IntKind.bits]
  omega

theorem write_chain {y x : List Int} (h : y.length + x.length ≤ 1000000000000) : writeF x (hashOf y) = hashOf (y ++ x) := by
  unfold hashOf writeF h0
  simp only [List.nil_append]
  rw [absF_append _ init y x rfl]
  have : wu (wu (0 + wu (y.length : Int)) + wu (x.length : Int)) = wu (0 + wu ((y ++ x).length : Int)) := by
    rw [List.length_append]
    rw [wu_id (x := (y.length : Int)) (by omega) (by omega), wu_id (x := (x.length : Int)) (by omega) (by omega), wu_id (x := 0 + (y.length : Int)) (by omega) (by omega), wu_id (by omega) (by omega), wu_id (x := ((y.length + x.length : Nat) : Int)) (by omega) (by omega), wu_id (by omega) (by omega)]
    omega
  rw [this]

theorem hash_rest (y : List Int) : (hashOf y).2.1.length < 64 := by
  show (absF h0.1 (h0.2.1 ++ y)).2.length < 64
  rw [abs_rest]
  exact Nat.mod_lt _ (by omega)
theorem hash_restP (y : List Int) : restP (hashOf y) = true := decide_eq_true (by have := hash_rest y; omega)
theorem hash_nil : hashOf [] = h0 := by
  unfold hashOf writeF h0
  rw [absF_short (by simp)]
  rfl
theorem shaF_hash (y : List Int) : shaF y = sumH (hashOf y) := rfl

/-! lists of bytes -/

def tot (l : List (List Int)) : Nat := (l.map List.length).sum
/-! ShaParts -/

def cP (l : List (List Int)) (i : Int) (h : Hs) (so : List Int) : Bool :=
  decide (i = 0) && (decide (h.1 = init) && (decide (h.2.1 = []) && (decide (h.2.2.1 = 0) && (decide (so = []) && (decide (tot l ≤ 1000000) && decide (l.length ≤ 1000000))))))
def zP (l : List (List Int)) (h : Hs) : Hs := l.foldl (fun h x => writeF x h) h

theorem zP_hash : ∀ (l : List (List Int)) (y : List Int), y.length + tot l ≤ 1000000000 → zP l (hashOf y) = hashOf (y ++ l.flatten)
  | [], y, _ => by simp [zP]
  | x :: l, y, h => by
    simp only [tot, List.map_cons, List.sum_cons] at h
    have := zP_hash l (y ++ x) (by simp only [tot, List.length_append]; omega)
    simp only [zP, List.foldl_cons] at this ⊢
    rw [write_chain (by omega), this]
    simp

theorem getElem_tot : ∀ (l : List (List Int)) (k : Nat) (h : k < l.length), l[k].length ≤ tot l
  | x :: l, 0, h => by simp [tot]
  | x :: l, k + 1, h => by
    have := getElem_tot l k (by simpa using h)
    simp only [tot, List.map_cons, List.sum_cons, List.getElem_cons_succ] at this ⊢
    omega

theorem tot_drop (l : List (List Int)) (k : Nat) (h : k < l.length) : tot (l.drop k) = l[k].length + tot (l.drop (k + 1)) := by
  rw [List.drop_eq_getElem_cons h]
  simp only [tot, List.map_cons, List.sum_cons]

theorem T5_true {b : List Int} {n : Int} : (T5 shaF shaP h0 writeF writeP restP sumH b n).eval = some (.v .bool true) := by
  unfold T5
  simp only [List.nil_append]
  by_cases h1 : (b.length : Int) > 400
  · rw [ite_t (decide_eq_true h1)]; rfl
  rw [ite_f (decide_eq_false h1)]
  by_cases h2 : n < 0
  · rw [ite_t (decide_eq_true h2)]; rfl
  rw [ite_f (decide_eq_false h2)]
  by_cases h3 : n ≥ (b.length : Int)
  · rw [ite_t (decide_eq_true h3)]; rfl
  rw [ite_f (decide_eq_false h3)]
  have i1 : inArr n b.length = true := by simp only [inArr, Bool.and_eq_true, decide_eq_true_eq]; omega
  have e1 : Vse.room (([] : List Int).length + b.length) 1 = true := by simp only [Vse.room, decide_eq_true_eq, List.length_nil]; omega
  have e2 : shaP b = true := decide_eq_true (by omega)
  have e3 : writeP b h0 = true := decide_eq_true (by show 0 + b.length ≤ _; omega)
  have e4 : sameI b b = true := by simp [sameI]
  rw [chk_eval e1, chk_eval e2, chk_eval e3, chk_eval i1, chk_eval i1, ite_t e4, chk_eval (b := restP (writeF b h0)) (hash_restP b), shaF_hash]
  unfold hashOf
  rw [eqA_self]
  rfl

end Go.Proofs.Ytffdkniccaebmaa.Sha

end
section
/- The digest is the document's (layer 1, sha): plain lemmas on numbers and lists. -/
set_option linter.unusedVariables false
set_option maxRecDepth 100000
namespace Go.Proofs.Ytffdkniccaebmaa.Sha
open Go Vse Go.Proofs Gen

/-- a number of 32 bits -/
def U (x : Int) : Prop := 0 ≤ x ∧ x < 4294967296
def Us (l : List Int) : Prop := ∀ x ∈ l, U x
def Bytes (l : List Int) : Prop := ∀ x ∈ l, 0 ≤ x ∧ x < 256

theorem w3_mod (x : Int) : w3 x = x % 4294967296 := by
  simp [IntKind.wrap, IntKind.signed, IntKind.bits]
theorem w3_U (x : Int) : U (w3 x) := by rw [w3_mod]; exact ⟨Int.emod_nonneg _ (by omega), Int.emod_lt_of_pos _ (by omega)⟩
theorem w3_id {x : Int} (h : U x) : w3 x = x := by rw [w3_mod]; exact Int.emod_eq_of_lt h.1 h.2
theorem wb_mod (x : Int) : wb x = x % 256 := by
  simp [IntKind.wrap, IntKind.signed, IntKind.bits]
theorem U.nat {x : Int} (h : U x) : ∃ n : Nat, x = n ∧ n < 4294967296 := ⟨x.toNat, by have := h.1; omega, by have := h.1; have := h.2; omega⟩
theorem U_nat {n : Nat} (h : n < 4294967296) : U (n : Int) := ⟨by omega, by omega⟩

/-! bits turned -/

def stepN (n : Nat) : Nat := n / 2 + n % 2 * 2147483648
theorem step1_nat {n : Nat} (h : n < 4294967296) : step1 (n : Int) = ((stepN n : Nat) : Int) := by
  have e1 : ((n : Nat) : Int).tmod 2 = ((n % 2 : Nat) : Int) := by rw [Int.tmod_eq_emod_of_nonneg (by omega)]; omega
  have e2 : ((n : Nat) : Int).tdiv 2 = ((n / 2 : Nat) : Int) := by rw [Int.tdiv_eq_ediv_of_nonneg (by omega)]; omega
  have e3 : half1 (n : Int) = ((n / 2 : Nat) : Int) := by unfold half1; rw [e2]; exact w3_id (U_nat (by omega))
  unfold step1 stepN
  rw [e1, e3]
  by_cases hn : ((n % 2 : Nat) : Int) = 1
  · rw [if_pos hn, w3_id ⟨by omega, by omega⟩]; omega
  · rw [if_neg hn]; omega
theorem stepN_lt {n : Nat} (h : n < 4294967296) : stepN n < 4294967296 := by unfold stepN; omega

/-- turned to the right by so many -/
def rotN (n m : Nat) : Nat := n / 2 ^ m + n % 2 ^ m * 2 ^ (32 - m)
theorem rotN_step (n m : Nat) (hm : m ≤ 31) : rotN (stepN n) m = rotN n (m + 1) := by
  unfold rotN stepN
  have hp : 0 < 2 ^ m := Nat.two_pow_pos _
  have h1 : n % 2 * 2147483648 = (n % 2 * 2 ^ (31 - m)) * 2 ^ m := by
    rw [Nat.mul_assoc, ← Nat.pow_add, show 31 - m + m = 31 by omega]
  have h2 : (n / 2 + n % 2 * 2147483648) / 2 ^ m = n / 2 / 2 ^ m + n % 2 * 2 ^ (31 - m) := by rw [h1, Nat.add_mul_div_right _ _ hp]
  have h3 : (n / 2 + n % 2 * 2147483648) % 2 ^ m = n / 2 % 2 ^ m := by rw [h1, Nat.add_mul_mod_self_right]
  have h4 : n / 2 ^ (m + 1) = n / 2 / 2 ^ m := by rw [Nat.pow_succ, Nat.mul_comm, ← Nat.div_div_eq_div_mul]
  have h5 : n % 2 ^ (m + 1) = n % 2 + 2 * (n / 2 % 2 ^ m) := by rw [Nat.pow_succ, Nat.mul_comm, Nat.mod_mul]
  have h6 : 2 ^ (32 - m) = 2 * 2 ^ (31 - m) := by rw [show 32 - m = (31 - m) + 1 by omega, Nat.pow_succ, Nat.mul_comm]
  rw [h2, h3, h4, h5, h6, show 32 - (m + 1) = 31 - m by omega]
  generalize n / 2 / 2 ^ m = a
  generalize n / 2 % 2 ^ m = b
  generalize 2 ^ (31 - m) = c
  generalize n % 2 = d
  rw [Nat.add_mul, Nat.mul_assoc 2 b c, ← Nat.mul_assoc b 2 c, Nat.mul_comm b 2, Nat.mul_assoc 2 b c]
  omega
theorem rightN_rot : ∀ (m n : Nat), m ≤ 32 → n < 4294967296 → rightN m (n : Int) = ((rotN n m : Nat) : Int)
  | 0, n, _, h => by simp [rightN, rotN, Nat.mod_one]
  | m + 1, n, hm, h => by
    rw [rightN, step1_nat h, rightN_rot m _ (by omega) (stepN_lt h), rotN_step n m (by omega)]

theorem or_add {a b k : Nat} (h : b < 2 ^ k) : a * 2 ^ k ||| b = a * 2 ^ k + b := by
  rw [Nat.mul_comm, ← Nat.two_pow_add_eq_or_of_lt h]
theorem rotF_rot {n : Nat} (h : n < 4294967296) (a : Nat) (h1 : 1 ≤ a) (h2 : a ≤ 31) : rotF (n : Int) (-(a : Int)) = ((rotN n a : Nat) : Int) := by
  have s1 : andI .u64 (IntKind.u64.wrap (-(a : Int))) 31 = ((32 - a : Nat) : Int) := by
    have key : ∀ a : Nat, a < 32 → 1 ≤ a → andI .u64 (IntKind.u64.wrap (-(a : Int))) 31 = ((32 - a : Nat) : Int) := by decide
    exact key a (by omega) h1
  have s2 : IntKind.u64.wrap (32 - ((32 - a : Nat) : Int)) = (a : Int) := (wu_id (by omega) (by omega)).trans (by omega)
  unfold rotF
  rw [s1, s2]
  have hp : 0 < 2 ^ a := Nat.two_pow_pos _
  have hmul : 4294967296 = 2 ^ a * 2 ^ (32 - a) := by rw [← Nat.pow_add, show a + (32 - a) = 32 by omega]
  have e1 : shlI .u32 (n : Int) ((32 - a : Nat) : Int) = ((n % 2 ^ a * 2 ^ (32 - a) : Nat) : Int) := by
    unfold shlI
    have hmin : min (((32 - a : Nat) : Int)).toNat IntKind.u32.bits = 32 - a := by
      rw [Int.toNat_natCast]; show min (32 - a) 32 = 32 - a; omega
    rw [hmin]
    show w3 ((n : Int) * 2 ^ (32 - a)) = _
    rw [w3_mod]
    have : ((n : Int) * 2 ^ (32 - a)) % 4294967296 = ((n * 2 ^ (32 - a) % 4294967296 : Nat) : Int) := by
      rw [Int.natCast_emod, Int.natCast_mul, Int.natCast_pow]; rfl
    rw [this, hmul, Nat.mul_mod_mul_right]
  have e2 : shrI .u32 (n : Int) (a : Int) = ((n / 2 ^ a : Nat) : Int) := by
    unfold shrI
    have hmin : min ((a : Int)).toNat IntKind.u32.bits = a := by
      rw [Int.toNat_natCast]; show min a 32 = a; omega
    rw [hmin, Int.fdiv_eq_ediv_of_nonneg _ (by exact_mod_cast Nat.zero_le _)]
    rw [Int.natCast_ediv, Int.natCast_pow]; rfl
  rw [e1, e2]
  have hlt : n / 2 ^ a < 2 ^ (32 - a) := by
    rw [Nat.div_lt_iff_lt_mul hp, Nat.mul_comm, ← hmul]; exact h
  have hlt2 : n % 2 ^ a * 2 ^ (32 - a) + n / 2 ^ a < 4294967296 := by
    have h3 : n % 2 ^ a < 2 ^ a := Nat.mod_lt _ hp
    have h4 : (n % 2 ^ a + 1) * 2 ^ (32 - a) ≤ 2 ^ a * 2 ^ (32 - a) := Nat.mul_le_mul_right _ h3
    rw [← hmul, Nat.add_mul, Nat.one_mul] at h4
    omega
  have hor : n % 2 ^ a * 2 ^ (32 - a) ||| n / 2 ^ a = n % 2 ^ a * 2 ^ (32 - a) + n / 2 ^ a := or_add hlt
  unfold rotN
  generalize n % 2 ^ a * 2 ^ (32 - a) = p at hor hlt2 ⊢
  generalize n / 2 ^ a = q at hor hlt2 ⊢
  rw [orI_nat (by rw [max_u32]; omega) (by rw [max_u32]; omega) (by rw [hor, max_u32]; omega), hor]
  congr 1
  omega

theorem rot_right {x : Int} (h : U x) (a : Nat) (h1 : 1 ≤ a) (h2 : a ≤ 31) : rotF x (-(a : Int)) = rightF x (a : Int) := by
  obtain ⟨n, rfl, hn⟩ := h.nat
  rw [rotF_rot hn a h1 h2]
  unfold rightF
  rw [Int.toNat_natCast, rightN_rot a n (by omega) hn]

theorem turn_right {x : Int} (h : U x) (a b : Nat) (ha : 1 ≤ a ∧ a ≤ 31) (hb : 1 ≤ b ∧ b ≤ 31) (v : Int) : turnF x (a : Int) (b : Int) v = xorI .u32 (xorI .u32 (rightF x a) (rightF x b)) v := by
  show xorI .u32 (xorI .u32 (rotF x (w (0 - (a : Int)))) (rotF x (w (0 - (b : Int))))) v = _
  rw [w_id (x := 0 - (a : Int)) (by omega) (by omega), w_id (x := 0 - (b : Int)) (by omega) (by omega), show 0 - (a : Int) = -(a : Int) by omega, show 0 - (b : Int) = -(b : Int) by omega, rot_right h a ha.1 ha.2, rot_right h b hb.1 hb.2]

theorem shr_div {x : Int} (h : U x) (k : Nat) (hk : k ≤ 31) : shrI .u32 x (k : Int) = w3 (x.tdiv (2 ^ k : Nat)) := by
  obtain ⟨n, rfl, hn⟩ := h.nat
  have hp : 0 < 2 ^ k := Nat.two_pow_pos _
  have e : ((n : Nat) : Int).tdiv ((2 ^ k : Nat) : Int) = ((n / 2 ^ k : Nat) : Int) := by rw [Int.tdiv_eq_ediv_of_nonneg (by omega)]; rfl
  rw [e, w3_id (U_nat (Nat.lt_of_le_of_lt (Nat.div_le_self _ _) hn))]
  unfold shrI
  have hmin : min ((k : Int)).toNat IntKind.u32.bits = k := by
    rw [Int.toNat_natCast]; show min k 32 = k; omega
  rw [hmin, Int.fdiv_eq_ediv_of_nonneg _ (by exact_mod_cast Nat.zero_le _), Int.natCast_ediv, Int.natCast_pow]; rfl

theorem not_sub {x : Int} (h : U x) : xorI .u32 4294967295 x = w3 (4294967295 - x) := by
  obtain ⟨n, rfl, hn⟩ := h.nat
  have e : BitVec.ofInt IntKind.u32.bits 4294967295 = BitVec.allOnes 32 := by show BitVec.ofInt 32 4294967295 = BitVec.allOnes 32; decide
  unfold xorI
  rw [e, ofInt_nat]
  show w3 (((BitVec.allOnes 32 ^^^ BitVec.ofNat 32 n).toNat : Nat) : Int) = _
  rw [BitVec.allOnes_xor, BitVec.toNat_not, BitVec.toNat_ofNat, Nat.mod_eq_of_lt (by omega)]
  congr 1
  omega

end Go.Proofs.Ytffdkniccaebmaa.Sha

end
section
/- The digest is the document's (layer 1, sha): blocks, and all of them. -/
set_option linter.unusedVariables false
set_option maxRecDepth 100000
namespace Go.Proofs.Ytffdkniccaebmaa.Sha
open Go Vse Go.Proofs Gen

/-! sixty-four numbers -/

theorem shl_or {x c : Nat} (hx : x < 16777216) (hc : c < 256) : orI .u32 (shlI .u32 (x : Int) 8) (w3 (c : Int)) = ((x * 256 + c : Nat) : Int) := by
  have e1 : shlI .u32 (x : Int) 8 = ((x * 2 ^ 8 : Nat) : Int) := by
    unfold shlI
    show w3 ((x : Int) * 2 ^ (min (8 : Int).toNat 32)) = _
    have : min (8 : Int).toNat 32 = 8 := by decide
    rw [this, w3_id ⟨by omega, by omega⟩]
    omega
  have hor : x * 2 ^ 8 ||| c = x * 2 ^ 8 + c := or_add (by omega)
  rw [e1, w3_id (U_nat (by omega)), orI_nat (by rw [max_u32]; omega) (by rw [max_u32]; omega) (by rw [hor, max_u32]; omega), hor]

theorem getD_set {v : List Int} {k : Nat} (h : k < v.length) (x : Int) : (v.set k x).getD k 0 = x := by
  rw [List.getD_eq_getElem?_getD, List.getElem?_set_self h]; rfl

theorem put4_num {v : List Int} {k : Nat} (hk : k < v.length) (h0 : v.getD k 0 = 0) {c0 c1 c2 c3 : Nat} (h0' : c0 < 256) (h1 : c1 < 256) (h2 : c2 < 256) (h3 : c3 < 256) :
    put4 v (k : Int) [(c0 : Int), (c1 : Int), (c2 : Int), (c3 : Int)] = v.set k (((c0 * 16777216 + c1 * 65536 + c2 * 256 + c3 : Nat)) : Int) := by
  have step : ∀ (u : List Int) (x c : Nat), k < u.length → u.getD k 0 = (x : Int) → x < 16777216 → c < 256 → put1 u (k : Int) (c : Int) = u.set k ((x * 256 + c : Nat) : Int) := by
    intro u x c hu hx hx2 hc
    unfold put1
    rw [Int.toNat_natCast, hx, shl_or hx2 hc]
  show put1 (put1 (put1 (put1 v k c0) k c1) k c2) k c3 = _
  rw [step v 0 c0 hk h0 (by omega) h0']
  rw [step _ (0 * 256 + c0) c1 (by simpa using hk) (getD_set hk _) (by omega) h1, List.set_set]
  rw [step _ ((0 * 256 + c0) * 256 + c1) c2 (by simpa using hk) (getD_set hk _) (by omega) h2, List.set_set]
  rw [step _ (((0 * 256 + c0) * 256 + c1) * 256 + c2) c3 (by simpa using hk) (getD_set hk _) (by omega) h3, List.set_set]
  congr 2
  omega

theorem byte_nat {l : List Int} (h : Bytes l) {k : Nat} (hk : k < l.length) : ∃ c : Nat, l[k] = (c : Int) ∧ c < 256 := by
  have := h _ (List.getElem_mem hk)
  exact ⟨l[k].toNat, by omega, by omega⟩

theorem part4_four {b : List Int} {i : Nat} (h : 4 * i + 3 < b.length) : part4 b i = [b[4 * i]'(by omega), b[4 * i + 1]'(by omega), b[4 * i + 2]'(by omega), b[4 * i + 3]] := by
  unfold part4
  rw [List.drop_take, show 4 * i + 4 - 4 * i = 4 by omega, List.drop_eq_getElem_cons (by omega), List.drop_eq_getElem_cons (by omega), List.drop_eq_getElem_cons (by omega), List.drop_eq_getElem_cons (by omega)]
  simp only [List.take_succ_cons, List.take_zero]

theorem num4_eq {b : List Int} {i : Nat} (hi : i < 16) (h : b.length = 64) {c0 c1 c2 c3 : Nat} (e0 : b[4 * i]'(by omega) = (c0 : Int)) (e1 : b[4 * i + 1]'(by omega) = (c1 : Int)) (e2 : b[4 * i + 2]'(by omega) = (c2 : Int)) (e3 : b[4 * i + 3]'(by omega) = (c3 : Int))
    (h0 : c0 < 256) (h1 : c1 < 256) (h2 : c2 < 256) (h3 : c3 < 256) : num4 b (i : Int) = ((c0 * 16777216 + c1 * 65536 + c2 * 256 + c3 : Nat) : Int) := by
  have w1 : w (4 * (i : Int)) = ((4 * i : Nat) : Int) := (w_id (by omega) (by omega)).trans (by omega)
  have w2 : w (((4 * i : Nat) : Int) + 1) = ((4 * i + 1 : Nat) : Int) := (w_id (by omega) (by omega)).trans (by omega)
  have w3' : w (((4 * i : Nat) : Int) + 2) = ((4 * i + 2 : Nat) : Int) := (w_id (by omega) (by omega)).trans (by omega)
  have w4 : w (((4 * i : Nat) : Int) + 3) = ((4 * i + 3 : Nat) : Int) := (w_id (by omega) (by omega)).trans (by omega)
  unfold num4
  simp only [w1, w2, w3', w4, Int.toNat_natCast, getD_cons (show 4 * i < b.length by omega), getD_cons (show 4 * i + 1 < b.length by omega), getD_cons (show 4 * i + 2 < b.length by omega), getD_cons (show 4 * i + 3 < b.length by omega), e0, e1, e2, e3]
  simp only [w3_mod]
  omega

theorem schedL_add (t : Tu) (b : List Int) : ∀ (m n i : Nat) (v : List Int), schedL t b i (m + n) v = schedL t b (i + m) n (schedL t b i m v)
  | 0, n, i, v => by rw [Nat.zero_add, Nat.add_zero]; rfl
  | m + 1, n, i, v => by
    rw [show m + 1 + n = (m + n) + 1 by omega, schedL, schedL_add t b m n (i + 1), show i + 1 + m = i + (m + 1) by omega]
    rfl

theorem set_mid (p : List Int) (n : Nat) (x : Int) : (p ++ List.replicate (n + 1) 0).set p.length x = (p ++ [x]) ++ List.replicate n 0 := by
  rw [List.set_append_right _ _ (Nat.le_refl _), Nat.sub_self, List.replicate_succ, List.set_cons_zero, List.append_assoc]
  rfl
theorem getD_left (p q : List Int) {k : Nat} (h : k < p.length) : (p ++ q).getD k 0 = p.getD k 0 := by
  rw [List.getD_eq_getElem?_getD, List.getElem?_append_left h, ← List.getD_eq_getElem?_getD]
theorem getD_mid (p : List Int) (n : Nat) : (p ++ List.replicate (n + 1) 0).getD p.length 0 = 0 := by
  rw [List.getD_eq_getElem?_getD, List.getElem?_append_right (Nat.le_refl _), Nat.sub_self]
  rfl

theorem num4_part {b : List Int} (hb : b.length = 64) (hB : Bytes b) {v : List Int} {i : Nat} (hi : i < 16) (hv : i < v.length) (h0 : v.getD i 0 = 0) : put4 v (i : Int) (part4 b i) = v.set i (num4 b (i : Int)) ∧ U (num4 b (i : Int)) := by
  obtain ⟨c0, e0, l0⟩ := byte_nat hB (k := 4 * i) (by omega)
  obtain ⟨c1, e1, l1⟩ := byte_nat hB (k := 4 * i + 1) (by omega)
  obtain ⟨c2, e2, l2⟩ := byte_nat hB (k := 4 * i + 2) (by omega)
  obtain ⟨c3, e3, l3⟩ := byte_nat hB (k := 4 * i + 3) (by omega)
  rw [part4_four (by omega), e0, e1, e2, e3, put4_num hv h0 l0 l1 l2 l3, num4_eq hi hb e0 e1 e2 e3 l0 l1 l2 l3]
  exact ⟨rfl, U_nat (by omega)⟩

theorem Us_snoc {p : List Int} {x : Int} (h : Us p) (hx : U x) : Us (p ++ [x]) := by
  intro y hy
  rcases List.mem_append.1 hy with hy | hy
  · exact h y hy
  · rw [List.mem_singleton.1 hy]; exact hx

theorem stage1 {b : List Int} (hb : b.length = 64) (hB : Bytes b) (t : Tu) : ∀ (m i : Nat) (p : List Int), i + m = 16 → p.length = i → Us p →
    schedL t b i m (p ++ List.replicate (64 - i) 0) = sch1 b i m p ++ List.replicate 48 0 ∧ Us (sch1 b i m p)
  | 0, i, p, h, hp, hU => by
    have : i = 16 := by omega
    subst this
    exact ⟨rfl, hU⟩
  | m + 1, i, p, h, hp, hU => by
    have hi : i < 16 := by omega
    subst hp
    have e64 : 64 - p.length = (63 - p.length) + 1 := by omega
    obtain ⟨q1, q2⟩ := num4_part hb hB (v := p ++ List.replicate (64 - p.length) 0) hi (by simp; omega) (by rw [e64]; exact getD_mid p _)
    have hm : schedL t b p.length (m + 1) (p ++ List.replicate (64 - p.length) 0) = schedL t b (p.length + 1) m ((p ++ [num4 b (p.length : Int)]) ++ List.replicate (63 - p.length) 0) := by
      rw [schedL, if_pos hi, q1, e64, set_mid]
    rw [hm]
    have := stage1 hb hB t m (p.length + 1) (p ++ [num4 b (p.length : Int)]) (by omega) (by simp) (Us_snoc hU q2)
    rw [show 64 - (p.length + 1) = 63 - p.length by omega] at this
    exact this

theorem getD_U {l : List Int} (h : Us l) (k : Nat) : U (l.getD k 0) := by
  rw [List.getD_eq_getElem?_getD]
  cases hk : l[k]? with
  | none => exact ⟨by simp, by simp⟩
  | some x => exact h x (List.mem_of_getElem? hk)

theorem step2_eq {p q : List Int} (hU : Us p) (h16 : 16 ≤ p.length) (h64 : p.length < 64) : step2 turnF (p ++ q) (p.length : Int) = (p ++ q).set p.length (num2 rightF p (p.length : Int)) ∧ U (num2 rightF p (p.length : Int)) := by
  have j1 : w ((p.length : Int) - 15) = ((p.length - 15 : Nat) : Int) := (w_id (by omega) (by omega)).trans (by omega)
  have j2 : w ((p.length : Int) - 2) = ((p.length - 2 : Nat) : Int) := (w_id (by omega) (by omega)).trans (by omega)
  have j3 : w ((p.length : Int) - 16) = ((p.length - 16 : Nat) : Int) := (w_id (by omega) (by omega)).trans (by omega)
  have j4 : w ((p.length : Int) - 7) = ((p.length - 7 : Nat) : Int) := (w_id (by omega) (by omega)).trans (by omega)
  have x1 := getD_U hU (p.length - 15)
  have x2 := getD_U hU (p.length - 2)
  refine ⟨?_, ?_⟩
  · unfold step2 num2
    simp only [j1, j2, j3, j4, Int.toNat_natCast, getD_left p q (show p.length - 15 < p.length by omega), getD_left p q (show p.length - 2 < p.length by omega), getD_left p q (show p.length - 16 < p.length by omega), getD_left p q (show p.length - 7 < p.length by omega)]
    have t1 := turn_right x1 7 18 (by omega) (by omega) (shrI .u32 (p.getD (p.length - 15) 0) ((3 : Nat) : Int))
    have t2 := turn_right x2 17 19 (by omega) (by omega) (shrI .u32 (p.getD (p.length - 2) 0) ((10 : Nat) : Int))
    rw [shr_div x1 3 (by omega)] at t1
    rw [shr_div x2 10 (by omega)] at t2
    have s1 := shr_div x1 3 (by omega)
    have s2 := shr_div x2 10 (by omega)
    have t1' : turnF (p.getD (p.length - 15) 0) 7 18 (shrI .u32 (p.getD (p.length - 15) 0) 3) = xorI .u32 (xorI .u32 (rightF (p.getD (p.length - 15) 0) 7) (rightF (p.getD (p.length - 15) 0) 18)) (w3 ((p.getD (p.length - 15) 0).tdiv 8)) := by
      have : shrI .u32 (p.getD (p.length - 15) 0) 3 = w3 ((p.getD (p.length - 15) 0).tdiv ((2 ^ 3 : Nat) : Int)) := s1
      rw [this]; exact t1
    have t2' : turnF (p.getD (p.length - 2) 0) 17 19 (shrI .u32 (p.getD (p.length - 2) 0) 10) = xorI .u32 (xorI .u32 (rightF (p.getD (p.length - 2) 0) 17) (rightF (p.getD (p.length - 2) 0) 19)) (w3 ((p.getD (p.length - 2) 0).tdiv 1024)) := by
      have : shrI .u32 (p.getD (p.length - 2) 0) 10 = w3 ((p.getD (p.length - 2) 0).tdiv ((2 ^ 10 : Nat) : Int)) := s2
      rw [this]; exact t2
    rw [t1', t2']
  · unfold num2
    exact w3_U _

theorem stage2 {b : List Int} : ∀ (m i : Nat) (p : List Int), i + m = 64 → 16 ≤ i → p.length = i → Us p → schedL turnF b i m (p ++ List.replicate (64 - i) 0) = sch2 rightF i m p
  | 0, i, p, h, h16, hp, hU => by
    have : i = 64 := by omega
    subst this
    simp [schedL, sch2]
  | m + 1, i, p, h, h16, hp, hU => by
    subst hp
    have e64 : 64 - p.length = (63 - p.length) + 1 := by omega
    obtain ⟨q1, q2⟩ := step2_eq (q := List.replicate (64 - p.length) 0) hU h16 (by omega)
    have hm : schedL turnF b p.length (m + 1) (p ++ List.replicate (64 - p.length) 0) = schedL turnF b (p.length + 1) m ((p ++ [num2 rightF p (p.length : Int)]) ++ List.replicate (63 - p.length) 0) := by
      rw [schedL, if_neg (by omega), q1, e64, set_mid]
    rw [hm]
    have := stage2 (b := b) m (p.length + 1) (p ++ [num2 rightF p (p.length : Int)]) (by omega) (by omega) (by simp) (Us_snoc hU q2)
    rw [show 64 - (p.length + 1) = 63 - p.length by omega] at this
    rw [this]
    rfl

theorem sched_same {b : List Int} (hb : b.length = 64) (hB : Bytes b) : schedF b zeros64 = sch2F (sch1F b) := by
  have z : zeros64 = [] ++ List.replicate (64 - 0) 0 := by rfl
  obtain ⟨h1, h2⟩ := stage1 hb hB turnF 16 0 [] rfl rfl (fun x hx => by cases hx)
  have hl : (sch1 b 0 16 []).length = 16 := sch1_len b 16 0 []
  unfold schedF
  rw [show (64 : Nat) = 16 + 48 from rfl, schedL_add, z, h1, Nat.zero_add]
  exact stage2 48 16 _ rfl (by omega) hl h2

/-! rounds -/

theorem round_same {l0 l1 l2 l3 l4 l5 l6 l7 : Int} (h0 : U l0) (h4 : U l4) (k x : Int) : round1 rotF turnF [l0, l1, l2, l3, l4, l5, l6, l7] k x = roundR rightF [l0, l1, l2, l3, l4, l5, l6, l7] k x := by
  have ht : tF rotF turnF [l0, l1, l2, l3, l4, l5, l6, l7] k x = rT rightF l4 l5 l6 l7 k x := by
    show w3 (w3 (w3 (w3 (l7 + turnF l4 ((6 : Nat) : Int) ((11 : Nat) : Int) (rotF l4 (-((25 : Nat) : Int)))) + xorI .u32 (andI .u32 l4 l5) (andI .u32 (xorI .u32 4294967295 l4) l6)) + k) + x) = _
    rw [turn_right h4 6 11 (by omega) (by omega), rot_right h4 25 (by omega) (by omega), not_sub h4]
    rfl
  have hu : uF rotF turnF [l0, l1, l2, l3, l4, l5, l6, l7] = rU rightF l0 l1 l2 := by
    show w3 (turnF l0 ((2 : Nat) : Int) ((13 : Nat) : Int) (rotF l0 (-((22 : Nat) : Int))) + xorI .u32 (xorI .u32 (andI .u32 l0 l1) (andI .u32 l0 l2)) (andI .u32 l1 l2)) = _
    rw [turn_right h0 2 13 (by omega) (by omega), rot_right h0 22 (by omega) (by omega)]
    rfl
  unfold round1
  rw [ht, hu]
  rfl

theorem roundR_U {l0 l1 l2 l3 l4 l5 l6 l7 : Int} (h : Us [l0, l1, l2, l3, l4, l5, l6, l7]) (k x : Int) : Us (roundR rightF [l0, l1, l2, l3, l4, l5, l6, l7] k x) := by
  intro y hy
  have hy : y ∈ [w3 (rT rightF l4 l5 l6 l7 k x + rU rightF l0 l1 l2), l0, l1, l2, w3 (l3 + rT rightF l4 l5 l6 l7 k x), l4, l5, l6] := hy
  simp only [List.mem_cons, List.not_mem_nil, or_false] at hy
  rcases hy with rfl | rfl | rfl | rfl | rfl | rfl | rfl | rfl
  · exact w3_U _
  · exact h _ (by simp)
  · exact h _ (by simp)
  · exact h _ (by simp)
  · exact w3_U _
  · exact h _ (by simp)
  · exact h _ (by simp)
  · exact h _ (by simp)

theorem rounds_same (ks v : List Int) : ∀ (m i : Nat) (l : List Int), l.length = 8 → Us l → roundsL turnF rotF ks v i m l = rndsR rightF ks v i m l ∧ Us (rndsR rightF ks v i m l)
  | 0, i, l, h, hU => ⟨rfl, hU⟩
  | m + 1, i, l, h, hU => by
    obtain ⟨l0, l1, l2, l3, l4, l5, l6, l7, rfl⟩ := eight h
    rw [roundsL, round_same (hU _ (by simp)) (hU _ (by simp)), rndsR]
    exact rounds_same ks v m (i + 1) _ rfl (roundR_U hU _ _)

/-! added -/

theorem add_same {l s : List Int} (hl : l.length = 8) (hs : s.length = 8) : addF l s = addRF s l ∧ Us (addRF s l) := by
  obtain ⟨l0, l1, l2, l3, l4, l5, l6, l7, rfl⟩ := eight hl
  obtain ⟨s0, s1, s2, s3, s4, s5, s6, s7, rfl⟩ := eight hs
  have e1 : addF [l0, l1, l2, l3, l4, l5, l6, l7] [s0, s1, s2, s3, s4, s5, s6, s7] = [w3 (s0 + l0), w3 (s1 + l1), w3 (s2 + l2), w3 (s3 + l3), w3 (s4 + l4), w3 (s5 + l5), w3 (s6 + l6), w3 (s7 + l7)] := rfl
  have e2 : addRF [s0, s1, s2, s3, s4, s5, s6, s7] [l0, l1, l2, l3, l4, l5, l6, l7] = [w3 (l0 + s0), w3 (l1 + s1), w3 (l2 + s2), w3 (l3 + s3), w3 (l4 + s4), w3 (l5 + s5), w3 (l6 + s6), w3 (l7 + s7)] := rfl
  rw [e1, e2, Int.add_comm l0, Int.add_comm l1, Int.add_comm l2, Int.add_comm l3, Int.add_comm l4, Int.add_comm l5, Int.add_comm l6, Int.add_comm l7]
  refine ⟨rfl, fun y hy => ?_⟩
  simp only [List.mem_cons, List.not_mem_nil, or_false] at hy
  rcases hy with rfl | rfl | rfl | rfl | rfl | rfl | rfl | rfl <;> exact w3_U _

theorem mix_block {s b : List Int} (hs : s.length = 8) (hU : Us s) (hb : b.length = 64) (hB : Bytes b) : mixF s b = blockF s b ∧ Us (blockF s b) := by
  obtain ⟨r1, r2⟩ := rounds_same consts (sch2F (sch1F b)) 64 0 s hs hU
  have hlen : (rndsF consts (sch2F (sch1F b)) s).length = 8 := rndsR_len rightF consts _ 64 0 s hs
  obtain ⟨a1, a2⟩ := add_same hlen hs
  refine ⟨?_, a2⟩
  unfold mixF blockF
  rw [sched_same hb hB]
  show addF (roundsL turnF rotF consts (sch2F (sch1F b)) 0 64 s) s = _
  rw [r1]
  exact a1

theorem abs_blocks : ∀ (n : Nat) (s a : List Int), a.length / 64 = n → s.length = 8 → Us s → Bytes a → (absF s a).1 = blocksF n s a ∧ Us (blocksF n s a)
  | 0, s, a, h, hs, hU, hB => ⟨by rw [absF_short (by omega)]; rfl, hU⟩
  | n + 1, s, a, h, hs, hU, hB => by
    obtain ⟨m1, m2⟩ := mix_block hs hU (b := a.take 64) (by rw [List.length_take]; omega) (fun x hx => hB x (List.mem_of_mem_take hx))
    rw [absF_long (by omega), m1, blocksF]
    exact abs_blocks n _ _ (by rw [List.length_drop]; omega) (blockF_len _ hs) m2 (fun x hx => hB x (List.mem_of_mem_drop hx))

/-! bytes of a state -/

theorem out_same {s : List Int} (hs : s.length = 8) (hU : Us s) : outF s zeros32 = put8F s zeros32 := by
  obtain ⟨s0, s1, s2, s3, s4, s5, s6, s7, rfl⟩ := eight hs
  have b3 : ∀ x, U x → wb (shrI .u32 x 24) = wb (w3 (x.tdiv 16777216)) := fun x hx => by rw [show shrI .u32 x 24 = w3 (x.tdiv ((2 ^ 24 : Nat) : Int)) from shr_div hx 24 (by omega)]; rfl
  have b2 : ∀ x, U x → wb (shrI .u32 x 16) = wb ((w3 (x.tdiv 65536)).tmod 256) := fun x hx => by
    rw [show shrI .u32 x 16 = w3 (x.tdiv ((2 ^ 16 : Nat) : Int)) from shr_div hx 16 (by omega)]
    show wb (w3 (x.tdiv 65536)) = _
    have := (w3_U (x.tdiv 65536)).1
    generalize w3 (x.tdiv 65536) = y at this ⊢
    rw [wb_mod, wb_mod, Int.tmod_eq_emod_of_nonneg this]; omega
  have b1 : ∀ x, U x → wb (shrI .u32 x 8) = wb ((w3 (x.tdiv 256)).tmod 256) := fun x hx => by
    rw [show shrI .u32 x 8 = w3 (x.tdiv ((2 ^ 8 : Nat) : Int)) from shr_div hx 8 (by omega)]
    show wb (w3 (x.tdiv 256)) = _
    have := (w3_U (x.tdiv 256)).1
    generalize w3 (x.tdiv 256) = y at this ⊢
    rw [wb_mod, wb_mod, Int.tmod_eq_emod_of_nonneg this]; omega
  have b0 : ∀ x, U x → wb (shrI .u32 x 0) = wb (x.tmod 256) := fun x hx => by
    rw [show shrI .u32 x 0 = w3 (x.tdiv ((2 ^ 0 : Nat) : Int)) from shr_div hx 0 (by omega)]
    show wb (w3 (x.tdiv 1)) = _
    rw [Int.tdiv_one, w3_id hx, wb_mod, wb_mod, Int.tmod_eq_emod_of_nonneg hx.1]; omega
  have four : ∀ x, U x → [wb (shrI .u32 x 24), wb (shrI .u32 x 16), wb (shrI .u32 x 8), wb (shrI .u32 x 0)] = [wb (w3 (x.tdiv 16777216)), wb ((w3 (x.tdiv 65536)).tmod 256), wb ((w3 (x.tdiv 256)).tmod 256), wb (x.tmod 256)] := fun x hx => by rw [b3 x hx, b2 x hx, b1 x hx, b0 x hx]
  have h0 := four s0 (hU _ (by simp))
  have h1 := four s1 (hU _ (by simp))
  have h2 := four s2 (hU _ (by simp))
  have h3 := four s3 (hU _ (by simp))
  have h4 := four s4 (hU _ (by simp))
  have h5 := four s5 (hU _ (by simp))
  have h6 := four s6 (hU _ (by simp))
  have h7 := four s7 (hU _ (by simp))
  have e1 : outF [s0, s1, s2, s3, s4, s5, s6, s7] zeros32 = [wb (shrI .u32 s0 24), wb (shrI .u32 s0 16), wb (shrI .u32 s0 8), wb (shrI .u32 s0 0)] ++ ([wb (shrI .u32 s1 24), wb (shrI .u32 s1 16), wb (shrI .u32 s1 8), wb (shrI .u32 s1 0)] ++ ([wb (shrI .u32 s2 24), wb (shrI .u32 s2 16), wb (shrI .u32 s2 8), wb (shrI .u32 s2 0)] ++
    ([wb (shrI .u32 s3 24), wb (shrI .u32 s3 16), wb (shrI .u32 s3 8), wb (shrI .u32 s3 0)] ++ ([wb (shrI .u32 s4 24), wb (shrI .u32 s4 16), wb (shrI .u32 s4 8), wb (shrI .u32 s4 0)] ++ ([wb (shrI .u32 s5 24), wb (shrI .u32 s5 16), wb (shrI .u32 s5 8), wb (shrI .u32 s5 0)] ++
    ([wb (shrI .u32 s6 24), wb (shrI .u32 s6 16), wb (shrI .u32 s6 8), wb (shrI .u32 s6 0)] ++ [wb (shrI .u32 s7 24), wb (shrI .u32 s7 16), wb (shrI .u32 s7 8), wb (shrI .u32 s7 0)])))))) := by kernel_rfl
  have e2 : put8F [s0, s1, s2, s3, s4, s5, s6, s7] zeros32 = [wb (w3 (s0.tdiv 16777216)), wb ((w3 (s0.tdiv 65536)).tmod 256), wb ((w3 (s0.tdiv 256)).tmod 256), wb (s0.tmod 256)] ++ ([wb (w3 (s1.tdiv 16777216)), wb ((w3 (s1.tdiv 65536)).tmod 256), wb ((w3 (s1.tdiv 256)).tmod 256), wb (s1.tmod 256)] ++ ([wb (w3 (s2.tdiv 16777216)), wb ((w3 (s2.tdiv 65536)).tmod 256), wb ((w3 (s2.tdiv 256)).tmod 256), wb (s2.tmod 256)] ++ ([wb (w3 (s3.tdiv 16777216)), wb ((w3 (s3.tdiv 65536)).tmod 256), wb ((w3 (s3.tdiv 256)).tmod 256), wb (s3.tmod 256)] ++ ([wb (w3 (s4.tdiv 16777216)), wb ((w3 (s4.tdiv 65536)).tmod 256), wb ((w3 (s4.tdiv 256)).tmod 256), wb (s4.tmod 256)] ++ ([wb (w3 (s5.tdiv 16777216)), wb ((w3 (s5.tdiv 65536)).tmod 256), wb ((w3 (s5.tdiv 256)).tmod 256), wb (s5.tmod 256)] ++ ([wb (w3 (s6.tdiv 16777216)), wb ((w3 (s6.tdiv 65536)).tmod 256), wb ((w3 (s6.tdiv 256)).tmod 256), wb (s6.tmod 256)] ++ ([wb (w3 (s7.tdiv 16777216)), wb ((w3 (s7.tdiv 65536)).tmod 256), wb ((w3 (s7.tdiv 256)).tmod 256), wb (s7.tmod 256)]))))))) := by kernel_rfl
  rw [e1, h0, h1, h2, h3, h4, h5, h6, h7, e2]

/-! filled up -/

theorem tail_byte {n i : Nat} (hn : n < 2305843009213693952) (hi : i ≤ 7) : wb (shrI .u64 (shlI .u64 (n : Int) 3) (w (8 * (i : Int)))) = wb ((wu (((8 * n : Nat) : Int).tdiv (unit1 i))).tmod 256) := by
  have e1 : shlI .u64 (n : Int) 3 = ((8 * n : Nat) : Int) := by
    unfold shlI
    show wu ((n : Int) * 2 ^ (min (3 : Int).toNat 64)) = _
    have : min (3 : Int).toNat 64 = 3 := by decide
    rw [this, wu_id (by omega) (by omega)]
    omega
  have e2 : w (8 * (i : Int)) = ((8 * i : Nat) : Int) := (w_id (by omega) (by omega)).trans (by omega)
  have e3 : unit1 i = ((2 ^ (8 * i) : Nat) : Int) := by
    unfold unit1
    rw [Nat.pow_mul]
    exact (Int.natCast_pow 256 i).symm
  have e4 : shrI .u64 ((8 * n : Nat) : Int) ((8 * i : Nat) : Int) = ((8 * n / 2 ^ (8 * i) : Nat) : Int) := by
    unfold shrI
    have hmin : min (((8 * i : Nat) : Int)).toNat IntKind.u64.bits = 8 * i := by
      rw [Int.toNat_natCast]; show min (8 * i) 64 = 8 * i; omega
    rw [hmin, Int.fdiv_eq_ediv_of_nonneg _ (by exact_mod_cast Nat.zero_le _), Int.natCast_ediv, Int.natCast_pow]; rfl
  have e5 : ((8 * n : Nat) : Int).tdiv ((2 ^ (8 * i) : Nat) : Int) = ((8 * n / 2 ^ (8 * i) : Nat) : Int) := by
    rw [Int.tdiv_eq_ediv_of_nonneg (by omega)]; exact (Int.natCast_ediv _ _).symm
  have hle : 8 * n / 2 ^ (8 * i) ≤ 8 * n := Nat.div_le_self _ _
  rw [e1, e2, e4, e3, e5]
  generalize 8 * n / 2 ^ (8 * i) = y at hle ⊢
  rw [wu_id (by omega) (by omega), wb_mod, wb_mod, Int.tmod_eq_emod_of_nonneg (by omega)]
  omega

theorem fill_same {b : List Int} (hb : b.length ≤ 10000000000) : b ++ fillF (hashOf b) = filledF b := by
  have hm : (hashOf b).2.2.1 = (b.length : Int) := by
    show wu (0 + wu (b.length : Int)) = _
    rw [wu_id (x := (b.length : Int)) (by omega) (by omega), wu_id (by omega) (by omega)]; omega
  have hr : (hashOf b).2.1.length = b.length % 64 := by
    show (absF h0.1 (h0.2.1 ++ b)).2.length = _
    rw [abs_rest]
    rfl
  have hp : padN ((hashOf b).2.1.length + 1) = padM (b.length + 1) := by
    rw [hr]; unfold padN padM; omega
  have ht : tail8 (hashOf b) = tailF (wu (w (8 * (b.length : Int)))) := by
    have e1 : wu (w (8 * (b.length : Int))) = ((8 * b.length : Nat) : Int) := by
      rw [w_id (by omega) (by omega), wu_id (by omega) (by omega)]; omega
    have tb : ∀ i : Nat, i ≤ 7 → tailB (hashOf b) i = wb ((wu (((8 * b.length : Nat) : Int).tdiv (unit1 i))).tmod 256) := fun i hi => by
      unfold tailB
      rw [hm]
      exact tail_byte (by omega) hi
    rw [e1]
    unfold tail8
    rw [tb 7 (by omega), tb 6 (by omega), tb 5 (by omega), tb 4 (by omega), tb 3 (by omega), tb 2 (by omega), tb 1 (by omega), tb 0 (by omega)]
    rfl
  unfold fillF filledF padL padR
  rw [ht, List.length_append, List.length_singleton]
  rw [hp]
  simp only [List.append_assoc]

theorem init_U : Us init := by
  intro x hx
  have : ∀ x ∈ init, 0 ≤ x ∧ x < 4294967296 := by decide
  exact this x hx

theorem filled_bytes {b : List Int} (hB : Bytes b) : Bytes (filledF b) := by
  have hw : ∀ x, 0 ≤ wb x ∧ wb x < 256 := fun x => by rw [wb_mod]; omega
  have ht : ∀ (n : Int) (m : Nat), Bytes (tailR n m) := by
    intro n m
    induction m with
    | zero => intro x hx; cases hx
    | succ m ih =>
      intro x hx
      rcases List.mem_cons.1 hx with rfl | hx
      · exact hw _
      · exact ih x hx
  intro x hx
  unfold filledF padR at hx
  simp only [List.mem_append, List.mem_singleton, List.mem_replicate] at hx
  rcases hx with ((hx | hx) | hx) | hx
  · exact hB x hx
  · subst hx; omega
  · obtain ⟨_, rfl⟩ := hx; omega
  · exact ht _ _ x hx

/-- the digest is the document's -/
theorem sums_same {b : List Int} (hB : Bytes b) (hb : b.length ≤ 10000000000) : shaF b = rsumF b := by
  have hl := filledF_len b
  have h1 : (writeF (fillF (hashOf b)) ((hashOf b).1, (hashOf b).2.1, 0, ())).1 = (absF init (filledF b)).1 := by
    show (absF (absF h0.1 (h0.2.1 ++ b)).1 ((absF h0.1 (h0.2.1 ++ b)).2 ++ fillF (hashOf b))).1 = _
    show (absF (absF init b).1 ((absF init b).2 ++ fillF (hashOf b))).1 = _
    rw [absF_append _ init b _ rfl, fill_same hb]
  obtain ⟨a1, a2⟩ := abs_blocks _ init (filledF b) rfl rfl init_U (filled_bytes hB)
  have hlen : (blocksF ((filledF b).length / 64) init (filledF b)).length = 8 := blocksF_len _ _ _ rfl
  rw [shaF_hash]
  unfold sumH rsumF blkF
  rw [h1, a1, out_same hlen a2]

theorem T3_true {b : List Int} (hB : Bytes b) : (T3 shaF shaP rsumF filledP b).eval = some (.v .bool true) := by
  unfold T3
  by_cases h : (b.length : Int) > 400
  · rw [ite_t (decide_eq_true h)]; rfl
  rw [ite_f (decide_eq_false h), chk_eval (b := shaP b) (decide_eq_true (by omega)), chk_eval (b := filledP b) (decide_eq_true (by omega)), sums_same hB (by omega), eqA_self]
  rfl

theorem bytes_wf {b : List Int} (h : bt.wf b) : Bytes b := fun x hx => by
  have h : (Lit.int .u8 x).wf = true := h.2 x hx
  simp [Lit.wf, IntKind.min, IntKind.max, IntKind.signed, IntKind.bits] at h
  omega

end Go.Proofs.Ytffdkniccaebmaa.Sha

end

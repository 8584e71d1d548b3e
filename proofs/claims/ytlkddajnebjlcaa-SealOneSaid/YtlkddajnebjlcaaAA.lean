import Derived.Test.YtlkddajnebjlcaaM5
import Derived.Test.YtlkddajnebjlcaaProg
import Derived.KernelRfl

section
/- What the functions of layer 3 (aes) give: the product of two bytes. -/
set_option linter.unusedVariables false
set_option maxRecDepth 100000
namespace Go.Proofs.Ytlkddajnebjlcaa.Aes
open Go Vse Go.Proofs

abbrev i64 : Ty := .int .i64
abbrev u8 : Ty := .int .u8
abbrev w (x : Int) : Int := IntKind.i64.wrap x
abbrev wb (x : Int) : Int := IntKind.u8.wrap x

theorem w_id {x : Int} (h : -9223372036854775808 ≤ x) (h' : x ≤ 9223372036854775807) : w x = x := by
  simp [IntKind.wrap, IntKind.signed, IntKind.bits]
  split <;> omega

theorem nil_sound : CtxSound Try.prog (ctx []) ∧ CtxLocal (ctx []) := ctx_sound trivial

/-! aes.Times -/

def x40 (x : Int) : Int := bif decide (shlI .i64 x 1 ≥ 256) then xorI .i64 (shlI .i64 x 1) 283 else shlI .i64 x 1
def n40 (b x n : Int) : Int := xorI .i64 n (andI .i64 x (w (0 - w (andI .u8 b 1))))
def tl : Nat → Int → Int → Int → Int
  | 0, _, _, n => n
  | k + 1, b, x, n => tl k (shrI .u8 b 1) (x40 x) (n40 b x n)

def S40 : LSpec := ⟨[1, 5, 6, 9], [6], 30, [u8, i64, i64, i64], []⟩
noncomputable def b40 : Code := loopAt Try.f65 0
def F40 (xs : HL S40.Ts) (hs : HD S40.Es) : Tr (Ex × St) :=
  .chk (decide ((0 : Int) ≤ xs.2.2.2.1)) (.ret (.exit 0, encS [6] [i64] [] 30 (tl ((8 : Int) - xs.2.2.2.1).toNat xs.1 xs.2.1 xs.2.2.1, ()) ()))
def L40 : Loops := fun j st => if j = 3 then S40.fn F40 st else .fail

theorem r40 (b x n i : Int) : (S40.round (bodyK Try.prog (ctx []) L0 b40) (b, x, n, i, ()) ()).eval =
    bif decide (i < 8) then (bif decide (shlI .i64 x 1 ≥ 256) then some (.inl ((shrI .u8 b 1, xorI .i64 (shlI .i64 x 1) 283, n40 b x n, w (i + 1), ()), ()))
      else some (.inl ((shrI .u8 b 1, shlI .i64 x 1, n40 b x n, w (i + 1), ()), ())))
    else some (.inr (.exit 0, encS [6] [i64] [] 30 (n, ()) ())) := by kernel_rfl

theorem r40' (b x n i : Int) (h : i < 8) : (S40.round (bodyK Try.prog (ctx []) L0 b40) (b, x, n, i, ()) ()).eval = some (.inl ((shrI .u8 b 1, x40 x, n40 b x n, w (i + 1), ()), ())) := by
  rw [r40, decide_eq_true h]
  unfold x40
  cases decide (shlI .i64 x 1 ≥ 256) <;> rfl

theorem k40 : ∀ (k : Nat) (b x n i : Int), 0 ≤ i → (8 - i).toNat = k → S40.many (bodyK Try.prog (ctx []) L0 b40) (k + 1) (b, x, n, i, ()) () = some (.exit 0, encS [6] [i64] [] 30 (tl k b x n, ()) ())
  | 0, b, x, n, i, h0, hk => by
    refine many_inr ?_ 0
    rw [r40, decide_eq_false (by omega)]
    rfl
  | k + 1, b, x, n, i, h0, hk => by
    refine (many_inl (r40' b x n i (by omega)) (k + 1)).trans ?_
    rw [w_id (x := i + 1) (by omega) (by omega)]
    exact k40 k _ _ _ (i + 1) (by omega) (by omega)

theorem l40 : LoopOK Try.prog L40 b40 :=
  loop_ok (L := L40) (L' := L0) nil_sound (loopsOK_of (by kernel_rfl)) S40 (by kernel_rfl) (F := F40) (i := 3) (by kernel_rfl) (fun _ => rfl) fun xs hs r h => by
    obtain ⟨b, x, n, i, u⟩ := xs
    obtain ⟨h1, h2⟩ := Tr.chk_some h
    have := Tr.ret_some h2
    exact ⟨_, (k40 _ b x n i (of_decide_eq_true h1) rfl).trans (congrArg some this)⟩

def timesI (a b : Int) : Int := wb (tl 8 b (w a) 0)
def s40 : CSpec := .fn1 [u8, u8] u8 fun x => timesI x.1 x.2.1
theorem ok40 : CSound Try.prog 65 s40 ∧ CLocal s40 :=
  fn_okL (L := L40) nil_sound Try.func65 (by kernel_rfl) (fun b hb => by
    have : loopsOf (bodyOf Try.f65) = [b40] := by kernel_rfl
    rw [this] at hb
    rw [List.mem_singleton.1 hb]
    exact l40) (fun xs _ => by kernel_rfl) (fun xs _ => by kernel_rfl)

end Go.Proofs.Ytlkddajnebjlcaa.Aes

end
section
/- What the functions of layer 3 (aes) give: the product of two bytes, by the document. -/
set_option linter.unusedVariables false
set_option maxRecDepth 100000
namespace Go.Proofs.Ytlkddajnebjlcaa.Aes
open Go Vse Go.Proofs

/-! bartizanref03.Times -/

def x41 (x : Int) : Int := bif decide (w (2 * x) > 255) then xorI .i64 (w (2 * x)) 283 else w (2 * x)
def n41 (n x y : Int) : Int := bif (y.tmod 2 == 1) then xorI .i64 n x else n
def tr : Nat → Int → Int → Int → Int
  | 0, n, _, _ => n
  | k + 1, n, x, y => bif decide (y > 0) then tr k (n41 n x y) (x41 x) (w (y.tdiv 2)) else n

def S41 : LSpec := ⟨[5, 6, 7], [5], 30, [i64, i64, i64], []⟩
noncomputable def b41 : Code := loopAt Try.f61 0
def F41 (xs : HL S41.Ts) (hs : HD S41.Es) : Tr (Ex × St) :=
  .chk (decide ((0 : Int) ≤ xs.2.2.1) && decide (xs.2.2.1 < (256 : Int))) (.ret (.exit 0, encS [5] [i64] [] 30 (tr 8 xs.1 xs.2.1 xs.2.2.1, ()) ()))
def L41 : Loops := fun j st => if j = 4 then S41.fn F41 st else .fail

theorem r41 (n x y : Int) : (S41.round (bodyK Try.prog (ctx []) L0 b41) (n, x, y, ()) ()).eval =
    bif decide (y > 0) then (bif (y.tmod 2 == 1) then (bif decide (w (2 * x) > 255) then some (.inl ((xorI .i64 n x, xorI .i64 (w (2 * x)) 283, w (y.tdiv 2), ()), ()))
        else some (.inl ((xorI .i64 n x, w (2 * x), w (y.tdiv 2), ()), ())))
      else (bif decide (w (2 * x) > 255) then some (.inl ((n, xorI .i64 (w (2 * x)) 283, w (y.tdiv 2), ()), ()))
        else some (.inl ((n, w (2 * x), w (y.tdiv 2), ()), ()))))
    else some (.inr (.exit 0, encS [5] [i64] [] 30 (n, ()) ())) := by kernel_rfl

theorem r41' (n x y : Int) (h : y > 0) : (S41.round (bodyK Try.prog (ctx []) L0 b41) (n, x, y, ()) ()).eval = some (.inl ((n41 n x y, x41 x, w (y.tdiv 2), ()), ())) := by
  rw [r41, decide_eq_true h]
  unfold x41 n41
  cases (y.tmod 2 == 1) <;> cases decide (w (2 * x) > 255) <;> rfl

theorem k41 : ∀ (k : Nat) (n x y : Int), 0 ≤ y → y < 2 ^ k → y < 9223372036854775808 → S41.many (bodyK Try.prog (ctx []) L0 b41) (k + 1) (n, x, y, ()) () = some (.exit 0, encS [5] [i64] [] 30 (tr k n x y, ()) ())
  | 0, n, x, y, h0, hk, _ => by
    refine many_inr ?_ 0
    rw [r41, decide_eq_false (by simp at hk; omega)]
    rfl
  | k + 1, n, x, y, h0, hk, hb => by
    by_cases hy : y > 0
    · refine (many_inl (r41' n x y hy) (k + 1)).trans ?_
      have e : w (y.tdiv 2) = y / 2 := by rw [Int.tdiv_eq_ediv_of_nonneg h0, w_id (by omega) (by omega)]
      have hk2 : y / 2 < 2 ^ k := by rw [Int.pow_succ] at hk; omega
      rw [e]
      refine (k41 k _ _ (y / 2) (by omega) hk2 (by omega)).trans ?_
      simp only [tr, decide_eq_true hy, cond_true, e]
    · refine many_inr ?_ (k + 1)
      rw [r41, decide_eq_false hy]
      simp only [tr, decide_eq_false hy, cond_false]

theorem l41 : LoopOK Try.prog L41 b41 :=
  loop_ok (L := L41) (L' := L0) nil_sound (loopsOK_of (by kernel_rfl)) S41 (by kernel_rfl) (F := F41) (i := 4) (by kernel_rfl) (fun _ => rfl) fun xs hs r h => by
    obtain ⟨n, x, y, u⟩ := xs
    obtain ⟨h1, h2⟩ := Tr.chk_some h
    have := Tr.ret_some h2
    simp only [Bool.and_eq_true, decide_eq_true_eq] at h1
    exact ⟨_, (k41 8 n x y h1.1 h1.2 (Int.lt_trans (show (y : Int) < 256 from h1.2) (by decide))).trans (congrArg some this)⟩

def timesR (a b : Int) : Int := wb (tr 8 0 (w a) (w b))
def s41 : CSpec := .fn1 [u8, u8] u8 fun x => timesR x.1 x.2.1

theorem u8_iff {n : Int} : inK .u8 n = true ↔ 0 ≤ n ∧ n < 256 := by
  have e : inK .u8 n = (decide (0 ≤ n) && decide (n ≤ 255)) := rfl
  rw [e, Bool.and_eq_true, decide_eq_true_eq, decide_eq_true_eq]; omega

theorem fine41 (a b : Int) : (fnK Try.prog (ctx []) L41 Try.f61 (mkArgs [u8, u8] (a, b, ())) []).fine [u8] = (decide (0 ≤ w b) && decide (w b < 256)) := by kernel_rfl

theorem fine_b {b : Int} (hb : 0 ≤ b ∧ b < 256) : (decide (0 ≤ w b) && decide (w b < 256)) = true := by
  rw [w_id (by omega) (by omega)]
  simp; omega

theorem ok41 : CSound Try.prog 61 s41 ∧ CLocal s41 :=
  fn_okL (L := L41) nil_sound Try.func61 (by kernel_rfl) (fun b hb => by
    have : loopsOf (bodyOf Try.f61) = [b41] := by kernel_rfl
    rw [this] at hb
    rw [List.mem_singleton.1 hb]
    exact l41) (fun xs hx => by
      obtain ⟨a, b, u⟩ := xs
      obtain ⟨_, hb, _⟩ := hx
      have hb := u8_iff.1 hb
      exact (fine41 a b).trans (fine_b hb)) (fun xs _ => by kernel_rfl)

end Go.Proofs.Ytlkddajnebjlcaa.Aes

end
section
/- Products of bytes, as natural numbers: both ways are one. -/
set_option linter.unusedVariables false
set_option maxRecDepth 100000
namespace Go.Proofs.Ytlkddajnebjlcaa.Aes
open Go Vse Go.Proofs

def xN (x : Nat) : Nat := if 2 * x ≥ 256 then (2 * x) ^^^ 283 else 2 * x
def nN (b x n : Nat) : Nat := if b % 2 = 1 then n ^^^ x else n
def tN : Nat → Nat → Nat → Nat → Nat
  | 0, _, _, n => n
  | k + 1, b, x, n => tN k (b / 2) (xN x) (nN b x n)

def mulN (a b : Nat) : Nat := tN 8 b a 0

theorem xN_lt : ∀ x, x < 256 → xN x < 256 := by decide +kernel
theorem x40_nat : ∀ x, x < 256 → x40 (x : Nat) = (xN x : Nat) := by decide +kernel
theorem x41_nat : ∀ x, x < 256 → x41 (x : Nat) = (xN x : Nat) := by decide +kernel
theorem shr_nat : ∀ b, b < 256 → shrI .u8 (b : Nat) 1 = ((b / 2 : Nat) : Int) := by decide +kernel
theorem and_nat : ∀ b, b < 256 → w (0 - w (andI .u8 (b : Nat) 1)) = if b % 2 = 1 then -1 else 0 := by decide +kernel

theorem xorI_i64 {m n : Nat} (hm : m < 256) (hn : n < 256) : xorI .i64 m n = ((m ^^^ n : Nat) : Int) := by
  have := xor_lt256 hm hn
  refine xorI_nat ?_ ?_ ?_ <;> rw [max_i64] <;> omega

theorem nN_lt {b x n : Nat} (hx : x < 256) (hn : n < 256) : nN b x n < 256 := by
  unfold nN; split
  · exact xor_lt256 hn hx
  · exact hn

theorem n40_nat {b x n : Nat} (hb : b < 256) (hx : x < 256) (hn : n < 256) : n40 b x n = (nN b x n : Nat) := by
  unfold n40 nN
  rw [and_nat b hb]
  split
  · rw [and_all (by omega), xorI_i64 hn hx]
  · rw [and_none (by omega)]
    have := xorI_i64 hn (show 0 < 256 by decide)
    simpa using this

theorem tN_lt : ∀ (k : Nat) {b x n : Nat}, x < 256 → n < 256 → tN k b x n < 256
  | 0, b, x, n, _, hn => hn
  | k + 1, b, x, n, hx, hn => tN_lt k (xN_lt x hx) (nN_lt hx hn)

theorem tl_nat : ∀ (k : Nat) {b x n : Nat}, b < 256 → x < 256 → n < 256 → tl k b x n = (tN k b x n : Nat)
  | 0, b, x, n, _, _, _ => rfl
  | k + 1, b, x, n, hb, hx, hn => by
    simp only [tl, tN]
    rw [shr_nat b hb, x40_nat x hx, n40_nat hb hx hn]
    exact tl_nat k (by omega) (xN_lt x hx) (nN_lt hx hn)

theorem tN_zero : ∀ (k x n : Nat), tN k 0 x n = n
  | 0, x, n => rfl
  | k + 1, x, n => by simp only [tN]; exact tN_zero k _ _

theorem tr_nat : ∀ (k : Nat) {b x n : Nat}, b < 2 ^ k → b < 256 → x < 256 → n < 256 → tr k n x b = (tN k b x n : Nat)
  | 0, b, x, n, _, _, _, _ => rfl
  | k + 1, b, x, n, hk, hb, hx, hn => by
    simp only [tr]
    by_cases h : (b : Int) > 0
    · rw [decide_eq_true h]
      simp only [cond_true, tN]
      have e1 : n41 n x b = (nN b x n : Nat) := by
        unfold n41 nN
        have e : (b : Int).tmod 2 = ((b % 2 : Nat) : Int) := rfl
        rw [e]
        by_cases h1 : b % 2 = 1
        · rw [if_pos h1, h1]; exact xorI_i64 hn hx
        · rw [if_neg h1, show b % 2 = 0 by omega]; rfl
      have e2 : w ((b : Int).tdiv 2) = ((b / 2 : Nat) : Int) := by
        rw [Int.tdiv_eq_ediv_of_nonneg (by omega), w_id (by omega) (by omega)]; omega
      rw [e1, e2, x41_nat x hx]
      exact tr_nat k (by rw [Nat.pow_succ] at hk; omega) (by omega) (xN_lt x hx) (nN_lt hx hn)
    · rw [decide_eq_false h]
      simp only [cond_false]
      have : b = 0 := by omega
      subst this
      rw [tN_zero]

theorem mulN_lt {a b : Nat} (ha : a < 256) : mulN a b < 256 := tN_lt 8 ha (by decide)

theorem wb_nat {n : Nat} (h : n < 256) : wb (n : Int) = n := wrap_nat (by rw [max_u8]; omega)

theorem timesI_nat {a b : Nat} (ha : a < 256) (hb : b < 256) : timesI a b = (mulN a b : Nat) := by
  unfold timesI
  rw [w_id (by omega) (by omega)]
  have := tl_nat 8 hb ha (show 0 < 256 by decide)
  rw [show (0 : Int) = ((0 : Nat) : Int) from rfl, this]
  exact wb_nat (mulN_lt ha)

theorem timesR_nat {a b : Nat} (ha : a < 256) (hb : b < 256) : timesR a b = (mulN a b : Nat) := by
  unfold timesR
  rw [w_id (by omega) (by omega), w_id (by omega) (by omega)]
  have := tr_nat 8 (b := b) (x := a) (n := 0) (by omega) hb ha (by decide)
  rw [show (0 : Int) = ((0 : Nat) : Int) from rfl, this]
  exact wb_nat (mulN_lt ha)

/-! the field's laws -/

theorem tN_acc : ∀ (k b x n m : Nat), tN k b x (n ^^^ m) = tN k b x n ^^^ m
  | 0, _, _, _, _ => rfl
  | k + 1, b, x, n, m => by
    simp only [tN]
    have : nN b x (n ^^^ m) = nN b x n ^^^ m := by
      unfold nN; split
      · rw [Nat.xor_assoc, Nat.xor_comm m x, ← Nat.xor_assoc]
      · rfl
    rw [this]
    exact tN_acc k _ _ _ _

end Go.Proofs.Ytlkddajnebjlcaa.Aes

end
section
/- What the functions of layer 3 (aes) give: the table of boxes. -/
set_option linter.unusedVariables false
set_option maxRecDepth 1000000
namespace Go.Proofs.Ytlkddajnebjlcaa.Aes
open Go Vse Go.Proofs

def powL : List Int := [1, 3, 5, 15, 17, 51, 85, 255, 26, 46, 114, 150, 161, 248, 19, 53, 95, 225, 56, 72, 216, 115, 149, 164, 247, 2, 6, 10, 30, 34, 102, 170, 229, 52, 92, 228, 55, 89, 235, 38, 106, 190, 217, 112, 144, 171, 230, 49, 83, 245, 4, 12, 20, 60, 68, 204, 79, 209, 104, 184, 211, 110, 178, 205, 76, 212, 103, 169, 224, 59, 77, 215, 98, 166, 241, 8, 24, 40, 120, 136, 131, 158, 185, 208, 107, 189, 220, 127, 129, 152, 179, 206, 73, 219, 118, 154, 181, 196, 87, 249, 16, 48, 80, 240, 11, 29, 39, 105, 187, 214, 97, 163, 254, 25, 43, 125, 135, 146, 173, 236, 47, 113, 147, 174, 233, 32, 96, 160, 251, 22, 58, 78, 210, 109, 183, 194, 93, 231, 50, 86, 250, 21, 63, 65, 195, 94, 226, 61, 71, 201, 64, 192, 91, 237, 44, 116, 156, 191, 218, 117, 159, 186, 213, 100, 172, 239, 42, 126, 130, 157, 188, 223, 122, 142, 137, 128, 155, 182, 193, 88, 232, 35, 101, 175, 234, 37, 111, 177, 200, 67, 197, 84, 252, 31, 33, 99, 165, 244, 7, 9, 27, 45, 119, 153, 176, 203, 70, 202, 69, 207, 74, 222, 121, 139, 134, 145, 168, 227, 62, 66, 198, 81, 243, 14, 18, 54, 90, 238, 41, 123, 141, 140, 143, 138, 133, 148, 167, 242, 13, 23, 57, 75, 221, 124, 132, 151, 162, 253, 28, 36, 108, 180, 199, 82, 246]
def boxL : List Int := [99, 124, 119, 123, 242, 107, 111, 197, 48, 1, 103, 43, 254, 215, 171, 118, 202, 130, 201, 125, 250, 89, 71, 240, 173, 212, 162, 175, 156, 164, 114, 192, 183, 253, 147, 38, 54, 63, 247, 204, 52, 165, 229, 241, 113, 216, 49, 21, 4, 199, 35, 195, 24, 150, 5, 154, 7, 18, 128, 226, 235, 39, 178, 117, 9, 131, 44, 26, 27, 110, 90, 160, 82, 59, 214, 179, 41, 227, 47, 132, 83, 209, 0, 237, 32, 252, 177, 91, 106, 203, 190, 57, 74, 76, 88, 207, 208, 239, 170, 251, 67, 77, 51, 133, 69, 249, 2, 127, 80, 60, 159, 168, 81, 163, 64, 143, 146, 157, 56, 245, 188, 182, 218, 33, 16, 255, 243, 210, 205, 12, 19, 236, 95, 151, 68, 23, 196, 167, 126, 61, 100, 93, 25, 115, 96, 129, 79, 220, 34, 42, 144, 136, 70, 238, 184, 20, 222, 94, 11, 219, 224, 50, 58, 10, 73, 6, 36, 92, 194, 211, 172, 98, 145, 149, 228, 121, 231, 200, 55, 109, 141, 213, 78, 169, 108, 86, 244, 234, 101, 122, 174, 8, 186, 120, 37, 46, 28, 166, 180, 198, 232, 221, 116, 31, 75, 189, 139, 138, 112, 62, 181, 102, 72, 3, 246, 14, 97, 53, 87, 185, 134, 193, 29, 158, 225, 248, 152, 17, 105, 217, 142, 148, 155, 30, 135, 233, 206, 85, 40, 223, 140, 161, 137, 13, 191, 230, 66, 104, 65, 153, 45, 15, 176, 84, 187, 22]

abbrev t256 : Ty := .arr 256 (.int .u8)
abbrev t255 : Ty := .arr 255 (.int .u8)
abbrev t16 : Ty := .arr 16 (.int .u8)

def s39 : CSpec := .fn1 [] t256 fun _ => boxL
theorem ok39 : CSound Try.prog 58 s39 ∧ CLocal s39 := fn_ok1 nil_sound Try.func58 (by kernel_rfl) (fun xs _ => by kernel_rfl) (fun xs _ => by kernel_rfl)

def twiceI (b : Int) : Int := xorI .u8 (shlI .u8 b 1) (andI .u8 27 (wb (0 - shrI .u8 b 7)))
def s61 : CSpec := .fn1 [u8] u8 fun x => twiceI x.1
theorem ok61 : CSound Try.prog 64 s61 ∧ CLocal s61 := fn_ok1 nil_sound Try.func64 (by kernel_rfl) (fun xs _ => by kernel_rfl) (fun xs _ => by kernel_rfl)

/-! aes.boxes: the powers of three -/

def C1 : List (Nat × CSpec) := [(65, s40), (61, s41), (58, s39), (64, s61)]
theorem C1_sound : CtxSound Try.prog (ctx C1) ∧ CtxLocal (ctx C1) := ctx_sound ⟨ok40, ok41, ok39, ok61, trivial⟩

abbrev pt (e : Nat) : Ty := .ptr e []
def S59a : LSpec := ⟨[0, 1, 2, 9], [0, 1], 47, [pt 0, pt 1, u8, i64], [.box t256, .box t255]⟩
noncomputable def b59a : Code := loopAt Try.f62 0
theorem r59a (p i : Int) (o l : List Int) : (S59a.round (bodyK Try.prog (ctx C1) L0 b59a) ((), (), p, i, ()) (o, l, ())).eval =
    bif decide (i < 255) then (bif inArr i 255 then some (.inl (((), (), timesI p 3, w (i + 1), ()), (o, l.set i.toNat p, ()))) else none)
    else some (.inr (.exit 0, encS [0, 1] [pt 0, pt 1] [.box t256, .box t255] 47 ((), (), ()) (o, l, ()))) := by kernel_rfl

def powE (k : Nat) : Int := (powL ++ [1]).getD k 0
/-- the powers so far -/
def lA (k : Nat) : List Int := (List.range 255).map fun j => if j < k then powE j else 0

theorem powE_next : ∀ k, k < 255 → timesI (powE k) 3 = powE (k + 1) := by decide +kernel

theorem lA_set {k : Nat} (h : k < 255) : (lA k).set k (powE k) = lA (k + 1) := by
  unfold lA
  apply List.ext_getElem
  · simp
  · intro j h1 h2
    simp only [List.getElem_set, List.getElem_map, List.getElem_range]
    by_cases hj : k = j
    · subst hj; simp
    · simp only [if_neg hj]
      by_cases hlt : j < k
      · simp [hlt, Nat.lt_succ_of_lt hlt]
      · simp [hlt, show ¬ j < k + 1 by omega]

theorem lA_end : lA 255 = powL := by decide +kernel
theorem lA_begin : lA 0 = List.replicate 255 0 := by decide +kernel

theorem k59a (o : List Int) : ∀ (m k : Nat), k + m = 255 → S59a.many (bodyK Try.prog (ctx C1) L0 b59a) (m + 1) ((), (), powE k, (k : Int), ()) (o, lA k, ()) =
    some (.exit 0, encS [0, 1] [pt 0, pt 1] [.box t256, .box t255] 47 ((), (), ()) (o, powL, ()))
  | 0, k, h => by
    refine many_inr ?_ 0
    rw [r59a, decide_eq_false (by omega), show k = 255 by omega, lA_end]
    rfl
  | m + 1, k, h => by
    refine (many_inl (d := (((), (), powE (k + 1), ((k + 1 : Nat) : Int), ()), (o, lA (k + 1), ()))) ?_ (m + 1)).trans (k59a o m (k + 1) (by omega))
    rw [r59a, decide_eq_true (by omega), show inArr (k : Int) 255 = true by simp [inArr]; omega]
    simp only [cond_true]
    rw [powE_next k (by omega), w_id (by omega) (by omega), show ((k : Int)).toNat = k by omega, lA_set (by omega)]
    rfl

def F59a (xs : HL S59a.Ts) (hs : HD S59a.Es) : Tr (Ex × St) :=
  .chk (decide (xs.2.2.1 = (1 : Int)) && (decide (xs.2.2.2.1 = (0 : Int)) && decide (hs.2.1 = List.replicate 255 (0 : Int))))
    (.ret (.exit 0, encS [0, 1] [pt 0, pt 1] [.box t256, .box t255] 47 ((), (), ()) (hs.1, powL, ())))

end Go.Proofs.Ytlkddajnebjlcaa.Aes

end
section
/- What the functions of layer 3 (aes) give: the boxes, as aes reckons them. -/
set_option linter.unusedVariables false
set_option maxRecDepth 1000000
namespace Go.Proofs.Ytlkddajnebjlcaa.Aes
open Go Vse Go.Proofs

noncomputable def b59b : Code := loopAt Try.f62 1
noncomputable def b59i : Code := ((loopsOf b59b)[0]?).getD .skip
def rot (r : Int) : Int := orI .u8 (shlI .u8 r 1) (shrI .u8 r 7)
def rots (r n : Int) : Int := xorI .u8 (xorI .u8 (xorI .u8 (xorI .u8 n (rot r)) (rot (rot r))) (rot (rot (rot r)))) (rot (rot (rot (rot r))))

def S59i : LSpec := ⟨[0, 1, 4, 6, 7, 8, 19, 20, 30], [0, 1, 4, 6, 8, 19, 20], 47, [pt 0, pt 1, pt 2, u8, u8, u8, t255, i64, i64], [.box t256, .box t255, .box t256]⟩
def F59i (xs : HL S59i.Ts) (hs : HD S59i.Es) : Tr (Ex × St) :=
  .chk (decide (xs.2.2.2.2.2.2.2.2.1 = (0 : Int))) (.ret (.exit 4, encS [0, 1, 4, 6, 8, 19, 20] [pt 0, pt 1, pt 2, u8, u8, t255, i64] S59i.Es 47
    ((), (), (), xs.2.2.2.1, rots xs.2.2.2.2.1 xs.2.2.2.2.2.1, xs.2.2.2.2.2.2.1, xs.2.2.2.2.2.2.2.1, ()) hs))
theorem k59i (p r n j : Int) (l : List Int) (hs : HD S59i.Es) : S59i.many (bodyK Try.prog (ctx C1) L0 b59i) 5 ((), (), (), p, r, n, l, j, (0 : Int), ()) hs =
    some (.exit 4, encS [0, 1, 4, 6, 8, 19, 20] [pt 0, pt 1, pt 2, u8, u8, t255, i64] S59i.Es 47 ((), (), (), p, rots r n, l, j, ()) hs) := by kernel_rfl
def L59i : Loops := fun j st => if j = 17 then S59i.fn F59i st else .fail

def S59b : LSpec := ⟨[0, 1, 4, 19, 20], [0, 4], 47, [pt 0, pt 1, pt 2, t255, i64], [.box t256, .box t255, .box t256]⟩
theorem k59b (o : List Int) : S59b.many (bodyK Try.prog (ctx C1) L59i b59b) 256 ((), (), (), powL, (0 : Int), ()) (o, powL, (List.replicate 256 (0 : Int)).set 0 99, ()) =
    some (.exit 2, encS [0, 4] [pt 0, pt 2] S59b.Es 47 ((), (), ()) (o, powL, boxL, ())) := by kernel_rfl

end Go.Proofs.Ytlkddajnebjlcaa.Aes

end
section
/- What the functions of layer 3 (aes) give: boxes, summed up. -/
set_option linter.unusedVariables false
set_option maxRecDepth 1000000
namespace Go.Proofs.Ytlkddajnebjlcaa.Aes
open Go Vse Go.Proofs

theorem l59i : LoopOK Try.prog L59i b59i :=
  loop_ok (L := L59i) (L' := L0) C1_sound (loopsOK_of (by kernel_rfl)) S59i (by kernel_rfl) (F := F59i) (i := 17) (by kernel_rfl) (fun _ => rfl) fun xs hs r h => by
    obtain ⟨u0, u1, u2, p, q, n, l, j, i, u⟩ := xs
    obtain ⟨h1, h2⟩ := Tr.chk_some h
    have := Tr.ret_some h2
    have hi : i = (0 : Int) := of_decide_eq_true h1
    subst hi
    exact ⟨_, (k59i p q n j l hs).trans (congrArg some this)⟩

def F59b (xs : HL S59b.Ts) (hs : HD S59b.Es) : Tr (Ex × St) :=
  .chk (decide (xs.2.2.2.1 = powL) && (decide (xs.2.2.2.2.1 = (0 : Int)) && (decide (hs.2.1 = powL) && decide (hs.2.2.1 = (List.replicate 256 (0 : Int)).set 0 99))))
    (.ret (.exit 2, encS [0, 4] [pt 0, pt 2] S59b.Es 47 ((), (), ()) (hs.1, powL, boxL, ())))

def L59 : Loops := fun j st => if j = 4 then S59a.fn F59a st else if j = 12 then S59b.fn F59b st else .fail

theorem l59a : LoopOK Try.prog L59 b59a :=
  loop_ok (L := L59) (L' := L0) C1_sound (loopsOK_of (by kernel_rfl)) S59a (by kernel_rfl) (F := F59a) (i := 4) (by kernel_rfl) (fun _ => rfl) fun xs hs r h => by
    obtain ⟨u0, u1, p, i, u⟩ := xs
    obtain ⟨o, l, u2⟩ := hs
    obtain ⟨h1, h2⟩ := Tr.chk_some h
    have := Tr.ret_some h2
    simp only [Bool.and_eq_true, decide_eq_true_eq] at h1
    obtain ⟨e1, e2, e3⟩ := h1
    have e1 : p = powE 0 := e1
    have e2 : i = ((0 : Nat) : Int) := e2
    have e3 : l = lA 0 := e3.trans lA_begin.symm
    subst e1; subst e2; subst e3
    exact ⟨_, (k59a o 255 0 rfl).trans (congrArg some this)⟩

theorem l59b : LoopOK Try.prog L59 b59b :=
  loop_ok (L := L59) (L' := L59i) C1_sound (loopsOK_all (fun b hb => by
    have : loopsOf b59b = [b59i] := by kernel_rfl
    rw [this] at hb
    rw [List.mem_singleton.1 hb]
    exact l59i)) S59b (by kernel_rfl) (F := F59b) (i := 12) (by kernel_rfl) (fun _ => rfl) fun xs hs r h => by
    obtain ⟨u0, u1, u2, l, i, u⟩ := xs
    obtain ⟨o, l2, z, u3⟩ := hs
    obtain ⟨h1, h2⟩ := Tr.chk_some h
    have := Tr.ret_some h2
    simp only [Bool.and_eq_true, decide_eq_true_eq] at h1
    obtain ⟨e1, e2, e3, e4⟩ := h1
    have e1 : l = powL := e1
    have e2 : i = (0 : Int) := e2
    have e3 : l2 = powL := e3
    have e4 : z = (List.replicate 256 (0 : Int)).set 0 99 := e4
    subst e1; subst e2; subst e3; subst e4
    exact ⟨_, (k59b o).trans (congrArg some this)⟩

def s59 : CSpec := .fn1 [] t256 fun _ => boxL
theorem ok59 : CSound Try.prog 62 s59 ∧ CLocal s59 :=
  fn_okL (L := L59) C1_sound Try.func62 (by kernel_rfl) (fun b hb => by
    have : loopsOf (bodyOf Try.f62) = [b59a, b59b] := by kernel_rfl
    rw [this] at hb
    simp only [List.mem_cons, List.not_mem_nil, or_false] at hb
    rcases hb with rfl | rfl
    · exact l59a
    · exact l59b) (fun xs _ => by kernel_rfl) (fun xs _ => by kernel_rfl)

end Go.Proofs.Ytlkddajnebjlcaa.Aes

end
section
/- Products of bytes: they go over sums, either way, and in any order. -/
set_option linter.unusedVariables false
set_option maxRecDepth 100000
namespace Go.Proofs.Ytlkddajnebjlcaa.Aes
open Go Vse Go.Proofs

theorem tN_acc0 (k b x n : Nat) : tN k b x n = n ^^^ tN k b x 0 := by
  have := tN_acc k b x 0 n
  rw [Nat.zero_xor] at this
  rw [this, Nat.xor_comm]

theorem half_xor (b c : Nat) : (b ^^^ c) / 2 = b / 2 ^^^ c / 2 := by
  have := Nat.shiftRight_xor_distrib (a := b) (b := c) (i := 1)
  simpa [Nat.shiftRight_eq_div_pow] using this

theorem odd_xor (b c : Nat) : (b ^^^ c) % 2 = (b % 2 + c % 2) % 2 := by
  have h := Nat.xor_mod_two_pow (a := b) (b := c) (n := 1)
  simp only [Nat.pow_one] at h
  rw [h]
  rcases Nat.mod_two_eq_zero_or_one b with e | e <;> rcases Nat.mod_two_eq_zero_or_one c with e' | e' <;> rw [e, e'] <;> decide

theorem tN_add (k : Nat) : ∀ (b c x : Nat), tN k (b ^^^ c) x 0 = tN k b x 0 ^^^ tN k c x 0 := by
  induction k with
  | zero => intro b c x; simp [tN]
  | succ k ih =>
    intro b c x
    simp only [tN]
    rw [half_xor, tN_acc0 k _ _ (nN (b ^^^ c) x 0), tN_acc0 k _ _ (nN b x 0), tN_acc0 k _ _ (nN c x 0), ih]
    have hn : nN (b ^^^ c) x 0 = nN b x 0 ^^^ nN c x 0 := by
      unfold nN
      rw [odd_xor]
      rcases Nat.mod_two_eq_zero_or_one b with e | e <;> rcases Nat.mod_two_eq_zero_or_one c with e' | e' <;> simp [e, e']
    rw [hn]
    generalize nN b x 0 = p
    generalize nN c x 0 = q
    generalize tN k (b / 2) (xN x) 0 = r
    generalize tN k (c / 2) (xN x) 0 = s
    rw [Nat.xor_assoc, Nat.xor_assoc, ← Nat.xor_assoc q, Nat.xor_comm q r, Nat.xor_assoc r q s]

theorem mul_add (a b c : Nat) : mulN a (b ^^^ c) = mulN a b ^^^ mulN a c := tN_add 8 b c a

theorem xN_add : ∀ a, a < 256 → ∀ d, d < 256 → xN (a ^^^ d) = xN a ^^^ xN d := by decide +kernel

theorem tN_add' (k : Nat) : ∀ (b x y : Nat), x < 256 → y < 256 → tN k b (x ^^^ y) 0 = tN k b x 0 ^^^ tN k b y 0 := by
  induction k with
  | zero => intro b x y _ _; simp [tN]
  | succ k ih =>
    intro b x y hx hy
    simp only [tN]
    rw [xN_add x hx y hy, tN_acc0 k _ _ (nN b (x ^^^ y) 0), tN_acc0 k _ _ (nN b x 0), tN_acc0 k _ _ (nN b y 0), ih _ _ _ (xN_lt x hx) (xN_lt y hy)]
    have hn : nN b (x ^^^ y) 0 = nN b x 0 ^^^ nN b y 0 := by
      unfold nN
      rcases Nat.mod_two_eq_zero_or_one b with e | e <;> simp [e]
    rw [hn]
    generalize nN b x 0 = p
    generalize nN b y 0 = q
    generalize tN k (b / 2) (xN x) 0 = r
    generalize tN k (b / 2) (xN y) 0 = s
    rw [Nat.xor_assoc, Nat.xor_assoc, ← Nat.xor_assoc q, Nat.xor_comm q r, Nat.xor_assoc r q s]

theorem add_mul {a d : Nat} (b : Nat) (ha : a < 256) (hd : d < 256) : mulN (a ^^^ d) b = mulN a b ^^^ mulN d b := tN_add' 8 b a d ha hd

/-- what goes over sums is known by what it makes of eight bytes -/
theorem low_bit : ∀ a, a < 256 → a = 0 ∨ ∃ i, i < 8 ∧ ∃ b, b < a ∧ a = b ^^^ 2 ^ i := by
  intro a ha
  by_cases h0 : a = 0
  · exact .inl h0
  · refine .inr ?_
    have : ∀ a, a < 256 → a ≠ 0 → (a - 2 ^ a.log2) ^^^ 2 ^ a.log2 = a ∧ a.log2 < 8 ∧ 2 ^ a.log2 ≤ a ∧ 0 < 2 ^ a.log2 := by decide +kernel
    obtain ⟨h1, h2, h3, h4⟩ := this a ha h0
    exact ⟨a.log2, h2, a - 2 ^ a.log2, by omega, h1.symm⟩

theorem add_ext {g h : Nat → Nat} (hg : ∀ x y, x < 256 → y < 256 → g (x ^^^ y) = g x ^^^ g y) (hh : ∀ x y, x < 256 → y < 256 → h (x ^^^ y) = h x ^^^ h y)
    (he : ∀ i, i < 8 → g (2 ^ i) = h (2 ^ i)) : ∀ a, a < 256 → g a = h a := by
  intro a
  induction a using Nat.strongRecOn with
  | _ a ih =>
    intro ha
    rcases low_bit a ha with rfl | ⟨i, hi, b, hb, e⟩
    · have h1 := hg 0 0 (by decide) (by decide)
      have h2 := hh 0 0 (by decide) (by decide)
      simp only [Nat.xor_self] at h1 h2
      rw [h1, h2]
    · have hp : 2 ^ i < 256 := Nat.lt_of_lt_of_le (Nat.pow_lt_pow_right (by decide) hi) (by decide)
      rw [e, hg b _ (by omega) hp, hh b _ (by omega) hp, ih b hb (by omega), he i hi]

theorem mul_comm0 : ∀ i, i < 8 → ∀ j, j < 8 → mulN (2 ^ i) (2 ^ j) = mulN (2 ^ j) (2 ^ i) := by decide +kernel
theorem mul_comm {a b : Nat} (ha : a < 256) (hb : b < 256) : mulN a b = mulN b a := by
  refine add_ext (g := fun x => mulN x b) (h := fun x => mulN b x) (fun x y hx hy => add_mul b hx hy) (fun x y _ _ => mul_add b x y) (fun i hi => ?_) a ha
  have hp : 2 ^ i < 256 := Nat.lt_of_lt_of_le (Nat.pow_lt_pow_right (by decide) hi) (by decide)
  exact add_ext (g := fun y => mulN (2 ^ i) y) (h := fun y => mulN y (2 ^ i)) (fun x y _ _ => mul_add _ x y) (fun x y hx hy => add_mul _ hx hy) (fun j hj => mul_comm0 i hi j hj) b hb

theorem mul_assoc0 : ∀ i, i < 8 → ∀ j, j < 8 → ∀ k, k < 8 → mulN (mulN (2 ^ i) (2 ^ j)) (2 ^ k) = mulN (2 ^ i) (mulN (2 ^ j) (2 ^ k)) := by decide +kernel
theorem mul_assoc {a b c : Nat} (ha : a < 256) (hb : b < 256) (hc : c < 256) : mulN (mulN a b) c = mulN a (mulN b c) := by
  have pow : ∀ i, i < 8 → 2 ^ i < 256 := fun i hi => Nat.lt_of_lt_of_le (Nat.pow_lt_pow_right (by decide) hi) (by decide)
  refine add_ext (g := fun x => mulN (mulN x b) c) (h := fun x => mulN x (mulN b c)) (fun x y hx hy => ?_) (fun x y hx hy => add_mul _ hx hy) (fun i hi => ?_) a ha
  · show mulN (mulN (x ^^^ y) b) c = _
    rw [add_mul b hx hy, add_mul c (mulN_lt hx) (mulN_lt hy)]
  refine add_ext (g := fun y => mulN (mulN (2 ^ i) y) c) (h := fun y => mulN (2 ^ i) (mulN y c)) (fun x y _ _ => ?_) (fun x y hx hy => ?_) (fun j hj => ?_) b hb
  · show mulN (mulN (2 ^ i) (x ^^^ y)) c = _
    rw [mul_add, add_mul c (mulN_lt (pow i hi)) (mulN_lt (pow i hi))]
  · show mulN (2 ^ i) (mulN (x ^^^ y) c) = _
    rw [add_mul c hx hy, mul_add]
  refine add_ext (g := fun z => mulN (mulN (2 ^ i) (2 ^ j)) z) (h := fun z => mulN (2 ^ i) (mulN (2 ^ j) z)) (fun x y _ _ => mul_add _ x y) (fun x y _ _ => ?_) (fun k hk => mul_assoc0 i hi j hj k hk) c hc
  show mulN (2 ^ i) (mulN (2 ^ j) (x ^^^ y)) = _
  rw [mul_add, mul_add]

theorem mul_one' : ∀ a, a < 256 → mulN 1 a = a := by decide +kernel

end Go.Proofs.Ytlkddajnebjlcaa.Aes

end
section
/- What the functions of layer 3 (aes) give: a box, the sum of two blocks. -/
set_option linter.unusedVariables false
set_option maxRecDepth 1000000
namespace Go.Proofs.Ytlkddajnebjlcaa.Aes
open Go Vse Go.Proofs

def C2 : List (Nat × CSpec) := (62, s59) :: C1
theorem C2_sound : CtxSound Try.prog (ctx C2) ∧ CtxLocal (ctx C2) := ctx_sound ⟨ok59, ok40, ok41, ok39, ok61, trivial⟩

def boxI (b : Int) : Int := boxL.getD b.toNat 0
def s42 : CSpec := .fn1 [u8] u8 fun x => boxI x.1

/-! bartizanref03.xored -/

def S62 : LSpec := ⟨[2, 3, 4, 5], [2, 4], 20, [pt 0, pt 1, pt 2, i64], [.box t16, .box t16, .box t16]⟩
noncomputable def b62 : Code := loopAt Try.f60 0
def xorAt (a b : List Int) (i : Nat) : List Int := a.set i (xorI .u8 (a.getD i 0) (b.getD i 0))
theorem r62 (i : Int) (a b o : List Int) : (S62.round (bodyK Try.prog (ctx []) L0 b62) ((), (), (), i, ()) (a, b, o, ())).eval =
    bif decide (i < 16) then (bif inArr i 16 then some (.inl (((), (), (), w (i + 1), ()), (xorAt a b i.toNat, b, o, ()))) else none)
    else some (.inr (.exit 0, encS [2, 4] [pt 0, pt 2] S62.Es 20 ((), (), ()) (a, b, o, ()))) := by
  have e : (S62.round (bodyK Try.prog (ctx []) L0 b62) ((), (), (), i, ()) (a, b, o, ())).eval =
    bif decide (i < 16) then (bif inArr i 16 then (bif inArr i 16 then (bif inArr i 16 then some (.inl (((), (), (), w (i + 1), ()), (xorAt a b i.toNat, b, o, ()))) else none) else none) else none)
    else some (.inr (.exit 0, encS [2, 4] [pt 0, pt 2] S62.Es 20 ((), (), ()) (a, b, o, ()))) := by kernel_rfl
  rw [e]
  cases decide (i < 16) <;> cases inArr i 16 <;> rfl

/-- the first k sums, behind them what was there -/
def lX (a b : List Int) (k : Nat) : List Int := (List.range 16).map fun j => if j < k then xorI .u8 (a.getD j 0) (b.getD j 0) else a.getD j 0

theorem lX_set {a b : List Int} {k : Nat} (h : k < 16) : xorAt (lX a b k) b k = lX a b (k + 1) := by
  unfold xorAt
  have hk : (lX a b k).getD k 0 = a.getD k 0 := by
    unfold lX
    rw [List.getD_eq_getElem?_getD, List.getElem?_map, List.getElem?_range h]
    simp
  rw [hk]
  unfold lX
  apply List.ext_getElem
  · simp
  · intro j h1 h2
    simp only [List.getElem_set, List.getElem_map, List.getElem_range]
    by_cases hj : k = j
    · subst hj; simp
    · simp only [if_neg hj]
      by_cases hlt : j < k
      · simp [hlt, Nat.lt_succ_of_lt hlt]
      · simp [hlt, show ¬ j < k + 1 by omega]

theorem lX_begin {a b : List Int} (h : a.length = 16) : lX a b 0 = a := by
  unfold lX
  apply List.ext_getElem
  · simp [h]
  · intro j h1 h2
    simp [List.getD_eq_getElem?_getD, List.getElem?_eq_getElem h2]

def xorF (a b : List Int) : List Int := lX a b 16

theorem k62 (a b o : List Int) : ∀ (m k : Nat), k + m = 16 → S62.many (bodyK Try.prog (ctx []) L0 b62) (m + 1) ((), (), (), (k : Int), ()) (lX a b k, b, o, ()) =
    some (.exit 0, encS [2, 4] [pt 0, pt 2] S62.Es 20 ((), (), ()) (xorF a b, b, o, ()))
  | 0, k, h => by
    refine many_inr ?_ 0
    rw [r62, decide_eq_false (by omega), show k = 16 by omega]
    rfl
  | m + 1, k, h => by
    refine (many_inl (d := (((), (), (), ((k + 1 : Nat) : Int), ()), (lX a b (k + 1), b, o, ()))) ?_ (m + 1)).trans (k62 a b o m (k + 1) (by omega))
    rw [r62, decide_eq_true (by omega), show inArr (k : Int) 16 = true by simp [inArr]; omega]
    simp only [cond_true]
    rw [w_id (by omega) (by omega), show ((k : Int)).toNat = k by omega, lX_set (by omega)]
    rfl

def F62 (xs : HL S62.Ts) (hs : HD S62.Es) : Tr (Ex × St) :=
  .chk (decide (xs.2.2.2.1 = (0 : Int)) && decide ((hs.1 : List Int).length = 16)) (.ret (.exit 0, encS [2, 4] [pt 0, pt 2] S62.Es 20 ((), (), ()) (xorF hs.1 hs.2.1, hs.2.1, hs.2.2.1, ())))
def L62 : Loops := fun j st => if j = 2 then S62.fn F62 st else .fail

theorem l62 : LoopOK Try.prog L62 b62 :=
  loop_ok (L := L62) (L' := L0) nil_sound (loopsOK_of (by kernel_rfl)) S62 (by kernel_rfl) (F := F62) (i := 2) (by kernel_rfl) (fun _ => rfl) fun xs hs r h => by
    obtain ⟨u0, u1, u2, i, u⟩ := xs
    obtain ⟨a, b, o, u3⟩ := hs
    obtain ⟨h1, h2⟩ := Tr.chk_some h
    have := Tr.ret_some h2
    simp only [Bool.and_eq_true, decide_eq_true_eq] at h1
    obtain ⟨e1, e2⟩ := h1
    have e1 : i = ((0 : Nat) : Int) := e1
    subst e1
    have e3 : lX a b 0 = a := lX_begin e2
    have := (k62 a b o 16 0 rfl).trans (congrArg some this)
    rw [e3] at this
    exact ⟨_, this⟩

def s62 : CSpec := .fn1 [t16, t16] t16 fun x => xorF x.1 x.2.1

theorem fine62 (a b : List Int) : (fnK Try.prog (ctx []) L62 Try.f60 (mkArgs [t16, t16] (a, b, ())) []).fine [t16] = (decide ((0 : Int) = 0) && decide (a.length = 16)) := by kernel_rfl

theorem ok62 : CSound Try.prog 60 s62 ∧ CLocal s62 :=
  fn_okL (L := L62) nil_sound Try.func60 (by kernel_rfl) (fun b hb => by
    have : loopsOf (bodyOf Try.f60) = [b62] := by kernel_rfl
    rw [this] at hb
    rw [List.mem_singleton.1 hb]
    exact l62) (fun xs hx => by
      obtain ⟨a, b, u⟩ := xs
      refine (fine62 a b).trans ?_
      rw [decide_eq_true (show a.length = 16 from hx.1.1)]
      rfl) (fun xs _ => by kernel_rfl)

end Go.Proofs.Ytlkddajnebjlcaa.Aes

end
section
/- What the functions of layer 3 (aes) give: a bit of a byte, by the document. -/
set_option linter.unusedVariables false
set_option maxRecDepth 1000000
namespace Go.Proofs.Ytlkddajnebjlcaa.Aes
open Go Vse Go.Proofs

end Go.Proofs.Ytlkddajnebjlcaa.Aes

end

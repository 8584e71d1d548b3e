/- What the functions of layer 3 (aes) give: the product of two bytes, by the document. -/
import Derived.Test.YtlkddajnebjlcaaA1
set_option linter.unusedVariables false
set_option maxRecDepth 100000
namespace Go.Proofs.Ytlkddajnebjlcaa.Aes
open Go Vse Go.Proofs

/-! bartizanref03.Times -/

def x41 (x : Int) : Int := bif decide (w (2 * x) > 255) then xorI .i64 (w (2 * x)) 283 else w (2 * x)
def n41 (n x y : Int) : Int := bif (y.tmod 2 == 1) then xorI .i64 n x else n
def tr : Nat → Int → Int → Int → Int
  | 0, n, _, _ => n
  | k + 1, n, x, y => bif decide (y > 0) then tr k (n41 n x y) (x41 x) (w (y.tdiv 2)) else n

def S41 : LSpec := ⟨[5, 6, 7], [5], 30, [i64, i64, i64], []⟩
noncomputable def b41 : Code := loopAt Try.f61 0
def F41 (xs : HL S41.Ts) (hs : HD S41.Es) : Tr (Ex × St) :=
  .chk (decide ((0 : Int) ≤ xs.2.2.1) && decide (xs.2.2.1 < (256 : Int))) (.ret (.exit 0, encS [5] [i64] [] 30 (tr 8 xs.1 xs.2.1 xs.2.2.1, ()) ()))
def L41 : Loops := fun j st => if j = 4 then S41.fn F41 st else .fail

theorem r41 (n x y : Int) : (S41.round (bodyK Try.prog (ctx []) L0 b41) (n, x, y, ()) ()).eval =
    bif decide (y > 0) then (bif (y.tmod 2 == 1) then (bif decide (w (2 * x) > 255) then some (.inl ((xorI .i64 n x, xorI .i64 (w (2 * x)) 283, w (y.tdiv 2), ()), ()))
        else some (.inl ((xorI .i64 n x, w (2 * x), w (y.tdiv 2), ()), ())))
      else (bif decide (w (2 * x) > 255) then some (.inl ((n, xorI .i64 (w (2 * x)) 283, w (y.tdiv 2), ()), ()))
        else some (.inl ((n, w (2 * x), w (y.tdiv 2), ()), ()))))
    else some (.inr (.exit 0, encS [5] [i64] [] 30 (n, ()) ())) := by kernel_rfl

theorem r41' (n x y : Int) (h : y > 0) : (S41.round (bodyK Try.prog (ctx []) L0 b41) (n, x, y, ()) ()).eval = some (.inl ((n41 n x y, x41 x, w (y.tdiv 2), ()), ())) := by
  rw [r41, decide_eq_true h]
  unfold x41 n41
  cases (y.tmod 2 == 1) <;> cases decide (w (2 * x) > 255) <;> rfl

theorem k41 : ∀ (k : Nat) (n x y : Int), 0 ≤ y → y < 2 ^ k → y < 9223372036854775808 → S41.many (bodyK Try.prog (ctx []) L0 b41) (k + 1) (n, x, y, ()) () = some (.exit 0, encS [5] [i64] [] 30 (tr k n x y, ()) ())
  | 0, n, x, y, h0, hk, _ => by
    refine many_inr ?_ 0
    rw [r41, decide_eq_false (by simp at hk; omega)]
    rfl
  | k + 1, n, x, y, h0, hk, hb => by
    by_cases hy : y > 0
    · refine (many_inl (r41' n x y hy) (k + 1)).trans ?_
      have e : w (y.tdiv 2) = y / 2 := by rw [Int.tdiv_eq_ediv_of_nonneg h0, w_id (by omega) (by omega)]
      have hk2 : y / 2 < 2 ^ k := by rw [Int.pow_succ] at hk; omega
      rw [e]
      refine (k41 k _ _ (y / 2) (by omega) hk2 (by omega)).trans ?_
      simp only [tr, decide_eq_true hy, cond_true, e]
    · refine many_inr ?_ (k + 1)
      rw [r41, decide_eq_false hy]
      simp only [tr, decide_eq_false hy, cond_false]

theorem l41 : LoopOK Try.prog L41 b41 :=
  loop_ok (L := L41) (L' := L0) nil_sound (loopsOK_of (by kernel_rfl)) S41 (by kernel_rfl) (F := F41) (i := 4) (by kernel_rfl) (fun _ => rfl) fun xs hs r h => by
    obtain ⟨n, x, y, u⟩ := xs
    obtain ⟨h1, h2⟩ := Tr.chk_some h
    have := Tr.ret_some h2
    simp only [Bool.and_eq_true, decide_eq_true_eq] at h1
    exact ⟨_, (k41 8 n x y h1.1 h1.2 (Int.lt_trans (show (y : Int) < 256 from h1.2) (by decide))).trans (congrArg some this)⟩

def timesR (a b : Int) : Int := wb (tr 8 0 (w a) (w b))
def s41 : CSpec := .fn1 [u8, u8] u8 fun x => timesR x.1 x.2.1

theorem u8_iff {n : Int} : inK .u8 n = true ↔ 0 ≤ n ∧ n < 256 := by
  have e : inK .u8 n = (decide (0 ≤ n) && decide (n ≤ 255)) := rfl
  rw [e, Bool.and_eq_true, decide_eq_true_eq, decide_eq_true_eq]; omega

theorem fine41 (a b : Int) : (fnK Try.prog (ctx []) L41 Try.f61 (mkArgs [u8, u8] (a, b, ())) []).fine [u8] = (decide (0 ≤ w b) && decide (w b < 256)) := by kernel_rfl

theorem fine_b {b : Int} (hb : 0 ≤ b ∧ b < 256) : (decide (0 ≤ w b) && decide (w b < 256)) = true := by
  rw [w_id (by omega) (by omega)]
  simp; omega

theorem ok41 : CSound Try.prog 61 s41 ∧ CLocal s41 :=
  fn_okL (L := L41) nil_sound Try.func61 (by kernel_rfl) (fun b hb => by
    have : loopsOf (bodyOf Try.f61) = [b41] := by kernel_rfl
    rw [this] at hb
    rw [List.mem_singleton.1 hb]
    exact l41) (fun xs hx => by
      obtain ⟨a, b, u⟩ := xs
      obtain ⟨_, hb, _⟩ := hx
      have hb := u8_iff.1 hb
      exact (fine41 a b).trans (fine_b hb)) (fun xs _ => by kernel_rfl)

end Go.Proofs.Ytlkddajnebjlcaa.Aes

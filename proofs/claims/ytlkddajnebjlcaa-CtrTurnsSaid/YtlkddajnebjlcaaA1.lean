/- What the functions of layer 3 (aes) give: the product of two bytes. -/
import Derived.Test.YtlkddajnebjlcaaM5
import Derived.Test.YtlkddajnebjlcaaProg
import Derived.KernelRfl
set_option linter.unusedVariables false
set_option maxRecDepth 100000
namespace Go.Proofs.Ytlkddajnebjlcaa.Aes
open Go Vse Go.Proofs

abbrev i64 : Ty := .int .i64
abbrev u8 : Ty := .int .u8
abbrev w (x : Int) : Int := IntKind.i64.wrap x
abbrev wb (x : Int) : Int := IntKind.u8.wrap x

theorem w_id {x : Int} (h : -9223372036854775808 ≤ x) (h' : x ≤ 9223372036854775807) : w x = x := by
  simp [IntKind.wrap, IntKind.signed, IntKind.bits]
  split <;> omega

theorem nil_sound : CtxSound Try.prog (ctx []) ∧ CtxLocal (ctx []) := ctx_sound trivial

/-! aes.Times -/

def x40 (x : Int) : Int := bif decide (shlI .i64 x 1 ≥ 256) then xorI .i64 (shlI .i64 x 1) 283 else shlI .i64 x 1
def n40 (b x n : Int) : Int := xorI .i64 n (andI .i64 x (w (0 - w (andI .u8 b 1))))
def tl : Nat → Int → Int → Int → Int
  | 0, _, _, n => n
  | k + 1, b, x, n => tl k (shrI .u8 b 1) (x40 x) (n40 b x n)

def S40 : LSpec := ⟨[1, 5, 6, 9], [6], 30, [u8, i64, i64, i64], []⟩
noncomputable def b40 : Code := loopAt Try.f65 0
def F40 (xs : HL S40.Ts) (hs : HD S40.Es) : Tr (Ex × St) :=
  .chk (decide ((0 : Int) ≤ xs.2.2.2.1)) (.ret (.exit 0, encS [6] [i64] [] 30 (tl ((8 : Int) - xs.2.2.2.1).toNat xs.1 xs.2.1 xs.2.2.1, ()) ()))
def L40 : Loops := fun j st => if j = 3 then S40.fn F40 st else .fail

theorem r40 (b x n i : Int) : (S40.round (bodyK Try.prog (ctx []) L0 b40) (b, x, n, i, ()) ()).eval =
    bif decide (i < 8) then (bif decide (shlI .i64 x 1 ≥ 256) then some (.inl ((shrI .u8 b 1, xorI .i64 (shlI .i64 x 1) 283, n40 b x n, w (i + 1), ()), ()))
      else some (.inl ((shrI .u8 b 1, shlI .i64 x 1, n40 b x n, w (i + 1), ()), ())))
    else some (.inr (.exit 0, encS [6] [i64] [] 30 (n, ()) ())) := by kernel_rfl

theorem r40' (b x n i : Int) (h : i < 8) : (S40.round (bodyK Try.prog (ctx []) L0 b40) (b, x, n, i, ()) ()).eval = some (.inl ((shrI .u8 b 1, x40 x, n40 b x n, w (i + 1), ()), ())) := by
  rw [r40, decide_eq_true h]
  unfold x40
  cases decide (shlI .i64 x 1 ≥ 256) <;> rfl

theorem k40 : ∀ (k : Nat) (b x n i : Int), 0 ≤ i → (8 - i).toNat = k → S40.many (bodyK Try.prog (ctx []) L0 b40) (k + 1) (b, x, n, i, ()) () = some (.exit 0, encS [6] [i64] [] 30 (tl k b x n, ()) ())
  | 0, b, x, n, i, h0, hk => by
    refine many_inr ?_ 0
    rw [r40, decide_eq_false (by omega)]
    rfl
  | k + 1, b, x, n, i, h0, hk => by
    refine (many_inl (r40' b x n i (by omega)) (k + 1)).trans ?_
    rw [w_id (x := i + 1) (by omega) (by omega)]
    exact k40 k _ _ _ (i + 1) (by omega) (by omega)

theorem l40 : LoopOK Try.prog L40 b40 :=
  loop_ok (L := L40) (L' := L0) nil_sound (loopsOK_of (by kernel_rfl)) S40 (by kernel_rfl) (F := F40) (i := 3) (by kernel_rfl) (fun _ => rfl) fun xs hs r h => by
    obtain ⟨b, x, n, i, u⟩ := xs
    obtain ⟨h1, h2⟩ := Tr.chk_some h
    have := Tr.ret_some h2
    exact ⟨_, (k40 _ b x n i (of_decide_eq_true h1) rfl).trans (congrArg some this)⟩

def timesI (a b : Int) : Int := wb (tl 8 b (w a) 0)
def s40 : CSpec := .fn1 [u8, u8] u8 fun x => timesI x.1 x.2.1
theorem ok40 : CSound Try.prog 65 s40 ∧ CLocal s40 :=
  fn_okL (L := L40) nil_sound Try.func65 (by kernel_rfl) (fun b hb => by
    have : loopsOf (bodyOf Try.f65) = [b40] := by kernel_rfl
    rw [this] at hb
    rw [List.mem_singleton.1 hb]
    exact l40) (fun xs _ => by kernel_rfl) (fun xs _ => by kernel_rfl)

end Go.Proofs.Ytlkddajnebjlcaa.Aes

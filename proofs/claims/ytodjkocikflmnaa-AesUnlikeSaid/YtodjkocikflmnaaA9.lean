/- What the functions of layer 3 (aes) give: a bit of a byte, by the document. -/
import Derived.Test.YtodjkocikflmnaaA8
set_option linter.unusedVariables false
set_option maxRecDepth 1000000
namespace Go.Proofs.Ytodjkocikflmnaa.Aes
open Go Vse Go.Proofs

def hl : Nat → Int → Int
  | 0, n => n
  | m + 1, n => hl m (w (n.tdiv 2))
def S60 : LSpec := ⟨[1, 5, 6], [5], 19, [i64, i64, i64], []⟩
noncomputable def b60 : Code := loopAt Try.f60 0
theorem r60 (i n k : Int) : (S60.round (bodyK Try.prog (ctx []) L0 b60) (i, n, k, ()) ()).eval =
    bif decide (k < i.tmod 8) then some (.inl ((i, w (n.tdiv 2), w (k + 1), ()), ())) else some (.inr (.exit 0, encS [5] [i64] [] 19 (n, ()) ())) := by kernel_rfl

theorem tmod8 (i : Int) : i.tmod 8 < 8 := by
  have := Int.tmod_lt_of_pos i (show (0 : Int) < 8 by decide)
  exact this

theorem k60 (i : Int) : ∀ (m : Nat) (n k : Int), 0 ≤ k → (i.tmod 8 - k).toNat = m → S60.many (bodyK Try.prog (ctx []) L0 b60) (m + 1) (i, n, k, ()) () = some (.exit 0, encS [5] [i64] [] 19 (hl m n, ()) ())
  | 0, n, k, h0, hm => by
    refine many_inr ?_ 0
    rw [r60, decide_eq_false (by omega)]
    rfl
  | m + 1, n, k, h0, hm => by
    have := tmod8 i
    refine (many_inl (d := ((i, w (n.tdiv 2), k + 1, ()), ())) ?_ (m + 1)).trans (k60 i m _ (k + 1) (by omega) (by omega))
    rw [r60, decide_eq_true (by omega), w_id (x := k + 1) (by omega) (by omega)]
    rfl

def F60 (xs : HL S60.Ts) (hs : HD S60.Es) : Tr (Ex × St) :=
  .chk (decide ((0 : Int) ≤ xs.2.2.1)) (.ret (.exit 0, encS [5] [i64] [] 19 (hl (Int.tmod xs.1 8 - xs.2.2.1).toNat xs.2.1, ()) ()))
def L60 : Loops := fun j st => if j = 3 then S60.fn F60 st else .fail

theorem l60 : LoopOK Try.prog L60 b60 :=
  loop_ok (L := L60) (L' := L0) nil_sound (loopsOK_of (by kernel_rfl)) S60 (by kernel_rfl) (F := F60) (i := 3) (by kernel_rfl) (fun _ => rfl) fun xs hs r h => by
    obtain ⟨i, n, k, u⟩ := xs
    obtain ⟨h1, h2⟩ := Tr.chk_some h
    have := Tr.ret_some h2
    exact ⟨_, (k60 i _ n k (of_decide_eq_true h1) rfl).trans (congrArg some this)⟩

def bitI (b i : Int) : Int := (hl (i.tmod 8 - 0).toNat (w b)).tmod 2
def s60 : CSpec := .fn1 [u8, i64] i64 fun x => bitI x.1 x.2.1
theorem ok60 : CSound Try.prog 60 s60 ∧ CLocal s60 :=
  fn_okL (L := L60) nil_sound Try.func60 (by kernel_rfl) (fun b hb => by
    have : loopsOf (bodyOf Try.f60) = [b60] := by kernel_rfl
    rw [this] at hb
    rw [List.mem_singleton.1 hb]
    exact l60) (fun xs _ => by kernel_rfl) (fun xs _ => by kernel_rfl)

end Go.Proofs.Ytodjkocikflmnaa.Aes

/- What the functions of layer 3 (aes) give: the document's box. -/
import Derived.Test.YtodjkocikflmnaaA16
set_option linter.unusedVariables false
set_option maxRecDepth 1000000
namespace Go.Proofs.Ytodjkocikflmnaa.Aes
open Go Vse Go.Proofs

noncomputable def b43a : Code := ((loopsOf (bodyOf Try.f43))[0]?).getD .skip
noncomputable def b43b : Code := ((loopsOf (bodyOf Try.f43))[1]?).getD .skip
def S43a : LSpec := ⟨[0, 3, 4], [3], 58, [u8, u8, i64], []⟩

def C5 : List (Nat × CSpec) := (60, s60) :: C4
theorem C5_sound : CtxSound Try.prog (ctx C5) ∧ CtxLocal (ctx C5) := ctx_sound ⟨ok60, ok45, ok44, ok62, ok59, ok40, ok41, ok39, ok61, trivial⟩

theorem r43a (b r i : Int) : (S43a.round (bodyK Try.prog (ctx C5) L0 b43a) (b, r, i, ()) ()).eval =
    bif decide (i < 256) then (bif decide (timesR b (wb i) = 1) then some (.inl ((b, wb i, w (i + 1), ()), ())) else some (.inl ((b, r, w (i + 1), ()), ())))
    else some (.inr (.exit 0, encS [3] [u8] [] 58 (r, ()) ())) := by kernel_rfl

/-- the last of so many numbers whose product with b is 1 -/
def lastInv : Nat → Int → Int → Int → Int
  | 0, _, _, r => r
  | k + 1, b, i, r => lastInv k b (i + 1) (bif decide (timesR b (wb i) = 1) then wb i else r)

theorem k43a : ∀ (k : Nat) (b r i : Int), 0 ≤ i → i + k = 256 → S43a.many (bodyK Try.prog (ctx C5) L0 b43a) (k + 1) (b, r, i, ()) () = some (.exit 0, encS [3] [u8] [] 58 (lastInv k b i r, ()) ())
  | 0, b, r, i, h0, hk => by
    refine many_inr ?_ 0
    rw [r43a, decide_eq_false (by omega)]
    rfl
  | k + 1, b, r, i, h0, hk => by
    refine (many_inl (d := ((b, (bif decide (timesR b (wb i) = 1) then wb i else r), i + 1, ()), ())) ?_ (k + 1)).trans (k43a k b _ (i + 1) (by omega) (by omega))
    rw [r43a, decide_eq_true (by omega), w_id (by omega) (by omega)]
    cases decide (timesR b (wb i) = 1) <;> rfl

def F43a (xs : HL S43a.Ts) (hs : HD S43a.Es) : Tr (Ex × St) := .chk (decide (xs.2.2.1 = (1 : Int))) (.ret (.exit 0, encS [3] [u8] [] 58 (lastInv 255 xs.1 1 xs.2.1, ()) ()))
noncomputable def L43 : Loops := fun j st => if j = 3 then S43a.fn F43a st else if j = 10 then runLoop Try.prog (ctx C5) L0 9 b43b st else .fail

theorem l43a : LoopOK Try.prog L43 b43a :=
  loop_ok (L := L43) (L' := L0) C5_sound (loopsOK_of (by kernel_rfl)) S43a (by kernel_rfl) (F := F43a) (i := 3) (by kernel_rfl) (fun _ => rfl) fun xs hs r h => by
    obtain ⟨b, q, i, u⟩ := xs
    obtain ⟨h1, h2⟩ := Tr.chk_some h
    have := Tr.ret_some h2
    have h1 : i = (1 : Int) := of_decide_eq_true h1
    subst h1
    exact ⟨256, (k43a 255 b q 1 (by omega) (by omega)).trans (congrArg some this)⟩
theorem l43b : LoopOK Try.prog L43 b43b := runLoop_ok (L' := L0) C5_sound (loopsOK_of (by kernel_rfl)) (i := 10) (n := 9) (by kernel_rfl) (fun _ => rfl)

/-- the sum of a byte's bits -/
def sumB (r i : Int) : Int := (w (w (w (w (w (bitI r i + bitI r (w (i + 4))) + bitI r (w (i + 5))) + bitI r (w (i + 6))) + bitI r (w (i + 7))) + bitI 99 i)).tmod 2
def boxSum (r : Int) : Int :=
  let f (n u i : Int) : Int := w (n + w (u * sumB r i))
  wb (f (f (f (f (f (f (f (f 0 1 0) 2 1) 4 2) 8 3) 16 4) 32 5) 64 6) 128 7)
def boxR (b : Int) : Int := boxSum (lastInv 255 b 1 0)

def s43 : CSpec := .fn1 [u8] u8 fun x => boxR x.1
theorem ok43 : CSound Try.prog 43 s43 ∧ CLocal s43 :=
  fn_okL (L := L43) C5_sound Try.func43 (by kernel_rfl) (fun b hb => by
    have : loopsOf (bodyOf Try.f43) = [b43a, b43b] := by kernel_rfl
    rw [this] at hb
    simp only [List.mem_cons, List.not_mem_nil, or_false] at hb
    rcases hb with rfl | rfl
    · exact l43a
    · exact l43b) (fun xs hx => by kernel_rfl) (fun xs _ => by kernel_rfl)

end Go.Proofs.Ytodjkocikflmnaa.Aes

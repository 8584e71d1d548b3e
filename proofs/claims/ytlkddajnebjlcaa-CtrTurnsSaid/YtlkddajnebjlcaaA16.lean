/- What the functions of layer 3 (aes) give: the document's block under a key, summed up. -/
import Derived.Test.YtlkddajnebjlcaaA15
set_option linter.unusedVariables false
set_option maxRecDepth 1000000
namespace Go.Proofs.Ytlkddajnebjlcaa.Aes
open Go Vse Go.Proofs

def mixR (t : List Int) : List Int := (List.range 16).map fun i => xorI .u8 (xorI .u8 (xorI .u8 (timesR 2 (t.getD i 0)) (timesR 3 (t.getD (i - i % 4 + (i + 1) % 4) 0))) (t.getD (i - i % 4 + (i + 2) % 4) 0)) (t.getD (i - i % 4 + (i + 3) % 4) 0)

def F47a (xs : HL S47a.Ts) (hs : HD S47a.Es) : Tr (Ex × St) :=
  .chk (decide (xs.2.2.2.2.2.2.1 = (0 : Int)) && decide ((hs.2.2.2.2.2.2.1 : List Int).length = 16))
    (.ret (.exit 2, encS S47a.out [pt 2, pt 3, pt 4, pt 5, i64, pt 6] E47a 110 ((), (), (), (), xs.2.2.2.2.1, (), ()) (hs.1, hs.2.1, hs.2.2.1, hs.2.2.2.1, hs.2.2.2.2.1, hs.2.2.2.2.2.1, subI hs.2.2.2.1 hs.2.2.2.2.2.1, ())))
def F47b (xs : HL S47b.Ts) (hs : HD S47b.Es) : Tr (Ex × St) :=
  .chk (decide (xs.2.2.2.2.2.2.2.1 = (0 : Int)) && (decide ((1 : Int) ≤ xs.2.2.2.2.1) && (decide (xs.2.2.2.2.1 ≤ (10 : Int)) && decide ((hs.2.2.2.2.2.2.2.1 : List Int).length = 16))))
    (.ret (.exit 6, encS S47b.out [pt 2, pt 3, pt 4, pt 5, i64, pt 7] E47b 110 ((), (), (), (), xs.2.2.2.2.1, (), ())
      (hs.1, hs.2.1, hs.2.2.1, hs.2.2.2.1, hs.2.2.2.2.1, hs.2.2.2.2.2.1, hs.2.2.2.2.2.2.1, (bif decide (xs.2.2.2.2.1 < (10 : Int)) then mixR hs.2.2.2.2.2.2.1 else hs.2.2.2.2.2.2.2.1), ())))

noncomputable def L47i : Loops := fun j st => if j = 9 then S47a.fn F47a st else if j = 17 then S47b.fn F47b st else .fail
noncomputable def L47 : Loops := fun j st => if j = 5 then runLoop Try.prog (ctx C4) L47i 11 b47 st else .fail

theorem l47a : LoopOK Try.prog L47i b47a :=
  loop_ok (L := L47i) (L' := A47a) C4_sound (autoL_ok C4_sound 5 b47a A47a (of_decide_eq_true (by kernel_rfl)) fun _ _ _ => rfl) S47a (by kernel_rfl) (F := F47a) (i := 9) (by kernel_rfl) (fun _ => rfl) fun xs hs r h => by
    obtain ⟨u0, u1, u2, u3, n, u4, c, u⟩ := xs
    obtain ⟨key, blk, o, box, ks, b, t, u7⟩ := hs
    obtain ⟨h1, h2⟩ := Tr.chk_some h
    have := Tr.ret_some h2
    simp only [Bool.and_eq_true, decide_eq_true_eq] at h1
    obtain ⟨e1, e2⟩ := h1
    have e1 : c = (0 : Int) := e1
    subst e1
    obtain ⟨x0, x1, x2, x3, x4, x5, x6, x7, x8, x9, xa, xb, xc, xd, xe, xf, rfl⟩ := len16 (show t.length = 16 from e2)
    refine ⟨17, iter_many (G := G47a) (fun xs hs r h => (r47a xs.2.2.2.2.1 xs.2.2.2.2.2.2.1 hs.1 hs.2.1 hs.2.2.1 hs.2.2.2.1 hs.2.2.2.2.2.1 hs.2.2.2.2.2.2.1 hs.2.2.2.2.1).trans h) 17 _ _ _ (Eq.trans ?_ (congrArg some this))⟩
    kernel_rfl

theorem le10 {n : Int} (h : 1 ≤ n) (h' : n ≤ 10) : n = 1 ∨ n = 2 ∨ n = 3 ∨ n = 4 ∨ n = 5 ∨ n = 6 ∨ n = 7 ∨ n = 8 ∨ n = 9 ∨ n = 10 := by omega

theorem l47b : LoopOK Try.prog L47i b47b :=
  loop_ok (L := L47i) (L' := A47b) C4_sound (autoL_ok C4_sound 5 b47b A47b (of_decide_eq_true (by kernel_rfl)) fun _ _ _ => rfl) S47b (by kernel_rfl) (F := F47b) (i := 17) (by kernel_rfl) (fun _ => rfl) fun xs hs r h => by
    obtain ⟨u0, u1, u2, u3, n, u4, u5, c, u⟩ := xs
    obtain ⟨key, blk, o, box, ks, b, t, m, u7⟩ := hs
    obtain ⟨h1, h2⟩ := Tr.chk_some h
    have := Tr.ret_some h2
    simp only [Bool.and_eq_true, decide_eq_true_eq] at h1
    obtain ⟨e1, e2, e3, e4⟩ := h1
    have e1 : c = (0 : Int) := e1
    subst e1
    have e2 : (1 : Int) ≤ n := e2
    have e3 : n ≤ (10 : Int) := e3
    obtain ⟨x0, x1, x2, x3, x4, x5, x6, x7, x8, x9, xa, xb, xc, xd, xe, xf, rfl⟩ := len16 (show m.length = 16 from e4)
    refine ⟨17, iter_many (G := G47b) (fun xs hs r h => (r47b xs.2.2.2.2.1 xs.2.2.2.2.2.2.2.1 hs.1 hs.2.1 hs.2.2.1 hs.2.2.2.1 hs.2.2.2.2.2.1 hs.2.2.2.2.2.2.1 hs.2.2.2.2.2.2.2.1 hs.2.2.2.2.1).trans h) 17 _ _ _ (Eq.trans ?_ (congrArg some this))⟩
    have hn := le10 e2 e3
    rcases hn with rfl | rfl | rfl | rfl | rfl | rfl | rfl | rfl | rfl | rfl <;> (refine (?_ : _ = _); kernel_rfl)

theorem l47 : LoopOK Try.prog L47 b47 :=
  runLoop_ok (L' := L47i) C4_sound (loopsOK_all (fun b hb => by
    have : loopsOf b47 = [b47a, b47b] := by kernel_rfl
    rw [this] at hb
    simp only [List.mem_cons, List.not_mem_nil, or_false] at hb
    rcases hb with rfl | rfl
    · exact l47a
    · exact l47b)) (i := 5) (n := 11) (by kernel_rfl) (fun _ => rfl)

def roundR (ks : List (List Int)) (n : Nat) (b : List Int) : List Int := xorF (bif decide ((n : Int) < 10) then mixR (subI boxL b) else subI boxL b) (rowOf ks n)
def encR (key b : List Int) : List Int :=
  let ks := keysI key
  roundR ks 10 (roundR ks 9 (roundR ks 8 (roundR ks 7 (roundR ks 6 (roundR ks 5 (roundR ks 4 (roundR ks 3 (roundR ks 2 (roundR ks 1 (xorF b (rowOf ks 0)))))))))))

def s47 : CSpec := .fn1 [t16, t16] t16 fun x => encR x.1 x.2.1
theorem ok47 : CSound Try.prog 44 s47 ∧ CLocal s47 :=
  fn_okL (L := L47) C4_sound Try.func44 (by kernel_rfl) (fun b hb => by
    have : loopsOf (bodyOf Try.f44) = [b47] := by kernel_rfl
    rw [this] at hb
    rw [List.mem_singleton.1 hb]
    exact l47) (fun xs hx => by kernel_rfl) (fun xs _ => by kernel_rfl)

end Go.Proofs.Ytlkddajnebjlcaa.Aes

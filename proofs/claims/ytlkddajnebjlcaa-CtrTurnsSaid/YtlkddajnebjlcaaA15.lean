/- What the functions of layer 3 (aes) give: the document's block under a key. -/
import Derived.Test.YtlkddajnebjlcaaA14
set_option linter.unusedVariables false
set_option maxRecDepth 1000000
namespace Go.Proofs.Ytlkddajnebjlcaa.Aes
open Go Vse Go.Proofs

def C4 : List (Nat × CSpec) := (59, s45) :: C3
theorem C4_sound : CtxSound Try.prog (ctx C4) ∧ CtxLocal (ctx C4) := ctx_sound ⟨ok45, ok44, ok62, ok59, ok40, ok41, ok39, ok61, trivial⟩

noncomputable def b47 : Code := ((loopsOf (bodyOf Try.f44))[0]?).getD .skip
noncomputable def b47a : Code := ((loopsOf b47)[0]?).getD .skip
noncomputable def b47b : Code := ((loopsOf b47)[1]?).getD .skip

abbrev E47a : List ETy := [.box t16, .box t16, .box t16, .box t256, .box t11, .box t16, .box t16]
abbrev E47b : List ETy := [.box t16, .box t16, .box t16, .box t256, .box t11, .box t16, .box t16, .box t16]
def S47a : LSpec := ⟨[4, 5, 6, 7, 8, 9, 10], [4, 5, 6, 7, 8, 9], 110, [pt 2, pt 3, pt 4, pt 5, i64, pt 6, i64], E47a⟩
abbrev i4 (c r : Int) : Int := w (w (4 * c) + r)
abbrev j4 (c r : Int) : Int := w (w (4 * (w (c + r)).tmod 4) + r)
def turnAt (box b t : List Int) (c r : Int) : List Int := t.set (i4 c r).toNat (box.getD (b.getD (j4 c r).toNat 0).toNat 0)
def G47a (xs : HL S47a.Ts) (hs : HD S47a.Es) : Tr S47a.End :=
  let n := xs.2.2.2.2.1
  let c := xs.2.2.2.2.2.2.1
  let box := hs.2.2.2.1
  let b := hs.2.2.2.2.2.1
  let t := hs.2.2.2.2.2.2.1
  .ite (decide (c < 4)) (.chk (inArr (j4 c 0) 16) (.chk (inArr (i4 c 0) 16) (.chk (inArr (j4 c 1) 16) (.chk (inArr (i4 c 1) 16) (.chk (inArr (j4 c 2) 16) (.chk (inArr (i4 c 2) 16) (.chk (inArr (j4 c 3) 16) (.chk (inArr (i4 c 3) 16)
      (.ret (.inl (((), (), (), (), n, (), w (c + 1), ()), (hs.1, hs.2.1, hs.2.2.1, box, hs.2.2.2.2.1, b, turnAt box b (turnAt box b (turnAt box b (turnAt box b t c 0) c 1) c 2) c 3, ()))))))))))))
    (.ret (.inr (.exit 2, encS S47a.out [pt 2, pt 3, pt 4, pt 5, i64, pt 6] E47a 110 ((), (), (), (), n, (), ()) hs)))
noncomputable def A47a : Loops := autoL Try.prog (ctx C4) 5 b47a
theorem r47a (n c : Int) (key blk o box b t : List Int) (ks : List (List Int)) : (S47a.round (bodyK Try.prog (ctx C4) A47a b47a) ((), (), (), (), n, (), c, ()) (key, blk, o, box, ks, b, t, ())).eval =
    (G47a ((), (), (), (), n, (), c, ()) (key, blk, o, box, ks, b, t, ())).eval := by kernel_rfl

def S47b : LSpec := ⟨[4, 5, 6, 7, 8, 9, 12, 13], [4, 5, 6, 7, 8, 12], 110, [pt 2, pt 3, pt 4, pt 5, i64, pt 6, pt 7, i64], E47b⟩
abbrev k4 (c r k : Int) : Int := w (w (4 * c) + (w (r + k)).tmod 4)
def mixC (t m : List Int) (c r : Int) : List Int := m.set (i4 c r).toNat (xorI .u8 (xorI .u8 (xorI .u8 (timesR 2 (t.getD (i4 c r).toNat 0)) (timesR 3 (t.getD (k4 c r 1).toNat 0))) (t.getD (k4 c r 2).toNat 0)) (t.getD (k4 c r 3).toNat 0))
def chkC {α : Type} (c r : Int) (x : Tr α) : Tr α := .chk (inArr (i4 c r) 16) (.chk (inArr (k4 c r 1) 16) (.chk (inArr (k4 c r 2) 16) (.chk (inArr (k4 c r 3) 16) (.chk (inArr (i4 c r) 16) x))))
def G47b (xs : HL S47b.Ts) (hs : HD S47b.Es) : Tr S47b.End :=
  let n := xs.2.2.2.2.1
  let c := xs.2.2.2.2.2.2.2.1
  let t := hs.2.2.2.2.2.2.1
  let m := hs.2.2.2.2.2.2.2.1
  let E : Tr S47b.End := .ret (.inr (.exit 6, encS S47b.out [pt 2, pt 3, pt 4, pt 5, i64, pt 7] E47b 110 ((), (), (), (), n, (), ()) hs))
  .ite (decide (c < 4)) (.ite (decide (n < 10)) (chkC c 0 (chkC c 1 (chkC c 2 (chkC c 3
      (.ret (.inl (((), (), (), (), n, (), (), w (c + 1), ()), (hs.1, hs.2.1, hs.2.2.1, hs.2.2.2.1, hs.2.2.2.2.1, hs.2.2.2.2.2.1, t, mixC t (mixC t (mixC t (mixC t m c 0) c 1) c 2) c 3, ()))))))))
    E) E
noncomputable def A47b : Loops := autoL Try.prog (ctx C4) 5 b47b
theorem r47b (n c : Int) (key blk o box b t m : List Int) (ks : List (List Int)) : (S47b.round (bodyK Try.prog (ctx C4) A47b b47b) ((), (), (), (), n, (), (), c, ()) (key, blk, o, box, ks, b, t, m, ())).eval =
    (G47b ((), (), (), (), n, (), (), c, ()) (key, blk, o, box, ks, b, t, m, ())).eval := by kernel_rfl

end Go.Proofs.Ytlkddajnebjlcaa.Aes

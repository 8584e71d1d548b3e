/- What the functions of layer 3 (aes) give: a block under a key: the loops. -/
import Derived.Test.YtlkddajnebjlcaaA11
set_option linter.unusedVariables false
set_option maxRecDepth 1000000
namespace Go.Proofs.Ytlkddajnebjlcaa.Aes
open Go Vse Go.Proofs

def C3 : List (Nat × CSpec) := (63, s44) :: (60, s62) :: C2
theorem C3_sound : CtxSound Try.prog (ctx C3) ∧ CtxLocal (ctx C3) := ctx_sound ⟨ok44, ok62, ok59, ok40, ok41, ok39, ok61, trivial⟩

noncomputable def b46a : Code := ((loopsOf (bodyOf Try.f57))[0]?).getD .skip
noncomputable def b46o : Code := ((loopsOf (bodyOf Try.f57))[1]?).getD .skip
noncomputable def b46b : Code := ((loopsOf b46o)[0]?).getD .skip
noncomputable def b46c : Code := ((loopsOf b46o)[1]?).getD .skip

abbrev E46 : List ETy := [.box t16, .box t16, .box t16, .box t256, .box t11]
abbrev E46i : List ETy := [.box t16, .box t16, .box t16, .box t256, .box t11, .box t16]
def S46a : LSpec := ⟨[3, 4, 5, 6, 21], [3, 4, 5, 6], 117, [pt 1, pt 2, pt 3, pt 4, i64], E46⟩
def G46a (xs : HL S46a.Ts) (hs : HD S46a.Es) : Tr S46a.End :=
  let i := xs.2.2.2.2.1
  let b := hs.2.1
  let ks := hs.2.2.2.2.1
  .ite (decide (i < 16)) (.chk (inArr i 16) (.chk (inArr i 16) (.chk (inArr i 16) (.ret (.inl (((), (), (), (), w (i + 1), ()), (hs.1, xorAt b (rowOf ks 0) i.toNat, hs.2.2.1, hs.2.2.2.1, ks, ())))))))
    (.ret (.inr (.exit 0, encS [3, 4, 5, 6] [pt 1, pt 2, pt 3, pt 4] E46 117 ((), (), (), (), ()) hs)))
theorem r46a (i : Int) (key b o box : List Int) (ks : List (List Int)) : (S46a.round (bodyK Try.prog (ctx C3) L0 b46a) ((), (), (), (), i, ()) (key, b, o, box, ks, ())).eval =
    (G46a ((), (), (), (), i, ()) (key, b, o, box, ks, ())).eval := by kernel_rfl

def S46b : LSpec := ⟨[3, 4, 5, 6, 8, 9, 34, 37], [3, 4, 5, 6, 8, 9, 34], 117, [pt 1, pt 2, pt 3, pt 4, i64, pt 5, i64, i64], E46i⟩
def subAt (box b t : List Int) (i : Int) : List Int := t.set i.toNat (box.getD (b.getD ((w (i + w (4 * i.tmod 4))).tmod 16).toNat 0).toNat 0)
def G46b (xs : HL S46b.Ts) (hs : HD S46b.Es) : Tr S46b.End :=
  let n := xs.2.2.2.2.1
  let i := xs.2.2.2.2.2.2.2.1
  let n' := xs.2.2.2.2.2.2.1
  let b := hs.2.1
  let box := hs.2.2.2.1
  let t := hs.2.2.2.2.2.1
  .ite (decide (i < 16)) (.chk (inArr ((w (i + w (4 * i.tmod 4))).tmod 16) 16) (.chk (inArr i 16) (.ret (.inl (((), (), (), (), n, (), n', w (i + 1), ()), (hs.1, b, hs.2.2.1, box, hs.2.2.2.2.1, subAt box b t i, ()))))))
    (.ret (.inr (.exit 4, encS S46b.out [pt 1, pt 2, pt 3, pt 4, i64, pt 5, i64] E46i 117 ((), (), (), (), n, (), n', ()) hs)))
theorem r46b (n n' i : Int) (key b o box t : List Int) (ks : List (List Int)) : (S46b.round (bodyK Try.prog (ctx C3) L0 b46b) ((), (), (), (), n, (), n', i, ()) (key, b, o, box, ks, t, ())).eval =
    (G46b ((), (), (), (), n, (), n', i, ()) (key, b, o, box, ks, t, ())).eval := by kernel_rfl

def S46c : LSpec := ⟨[3, 4, 5, 6, 8, 9, 34, 53], [3, 4, 5, 6, 34], 117, [pt 1, pt 2, pt 3, pt 4, i64, pt 5, i64, i64], E46i⟩
def colI (i k : Int) : Int := w (w (i - i.tmod 4) + (w (i.tmod 4 + k)).tmod 4)
def mixB (x y z q : Int) : Int := xorI .u8 (xorI .u8 (xorI .u8 (twiceI (xorI .u8 x y)) y) z) q
def lastAt (b t : List Int) (k : List Int) (i : Int) : List Int :=
  let l := b.set i.toNat (t.getD i.toNat 0)
  l.set i.toNat (xorI .u8 (l.getD i.toNat 0) (k.getD i.toNat 0))
def mixAt (b t : List Int) (k : List Int) (i : Int) : List Int :=
  let l := (b.set i.toNat (t.getD i.toNat 0)).set i.toNat (mixB (t.getD i.toNat 0) (t.getD (colI i 1).toNat 0) (t.getD (colI i 2).toNat 0) (t.getD (colI i 3).toNat 0))
  l.set i.toNat (xorI .u8 (l.getD i.toNat 0) (k.getD i.toNat 0))
def G46c (xs : HL S46c.Ts) (hs : HD S46c.Es) : Tr S46c.End :=
  let n := xs.2.2.2.2.1
  let i := xs.2.2.2.2.2.2.2.1
  let n' := xs.2.2.2.2.2.2.1
  let b := hs.2.1
  let ks := hs.2.2.2.2.1
  let t := hs.2.2.2.2.2.1
  let A : Tr S46c.End := .chk (inArr i 16) (.chk (inArr i 16) (.chk (inArr (w (n + 1)) 11) (.chk (inArr i 16) (.chk (inArr i 16) (.ret (.inl (((), (), (), (), n, (), n', w (i + 1), ()), (hs.1, mixAt b t (rowOf ks (w (n + 1)).toNat) i, hs.2.2.1, hs.2.2.2.1, ks, t, ()))))))))
  let B : Tr S46c.End := .chk (inArr i 16) (.chk (inArr (w (n + 1)) 11) (.chk (inArr i 16) (.chk (inArr i 16) (.ret (.inl (((), (), (), (), n, (), n', w (i + 1), ()), (hs.1, lastAt b t (rowOf ks (w (n + 1)).toNat) i, hs.2.2.1, hs.2.2.2.1, ks, t, ())))))))
  .ite (decide (i < 16)) (.chk (inArr i 16) (.chk (inArr (colI i 1) 16) (.chk (inArr (colI i 2) 16) (.chk (inArr (colI i 3) 16) (.chk (inArr i 16) (.ite (decide (n < 9)) A B))))))
    (.ret (.inr (.exit 6, encS S46c.out [pt 1, pt 2, pt 3, pt 4, i64] E46i 117 ((), (), (), (), n', ()) hs)))
theorem r46c (n n' i : Int) (key b o box t : List Int) (ks : List (List Int)) : (S46c.round (bodyK Try.prog (ctx C3) L0 b46c) ((), (), (), (), n, (), n', i, ()) (key, b, o, box, ks, t, ())).eval =
    (G46c ((), (), (), (), n, (), n', i, ()) (key, b, o, box, ks, t, ())).eval := by kernel_rfl

end Go.Proofs.Ytlkddajnebjlcaa.Aes

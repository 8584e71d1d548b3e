/- What the functions of layer 3 (aes) give: the boxes, as aes reckons them. -/
import Derived.Test.YtlkddajnebjlcaaA4
set_option linter.unusedVariables false
set_option maxRecDepth 1000000
namespace Go.Proofs.Ytlkddajnebjlcaa.Aes
open Go Vse Go.Proofs

noncomputable def b59b : Code := loopAt Try.f62 1
noncomputable def b59i : Code := ((loopsOf b59b)[0]?).getD .skip
def rot (r : Int) : Int := orI .u8 (shlI .u8 r 1) (shrI .u8 r 7)
def rots (r n : Int) : Int := xorI .u8 (xorI .u8 (xorI .u8 (xorI .u8 n (rot r)) (rot (rot r))) (rot (rot (rot r)))) (rot (rot (rot (rot r))))

def S59i : LSpec := ⟨[0, 1, 4, 6, 7, 8, 19, 20, 30], [0, 1, 4, 6, 8, 19, 20], 47, [pt 0, pt 1, pt 2, u8, u8, u8, t255, i64, i64], [.box t256, .box t255, .box t256]⟩
def F59i (xs : HL S59i.Ts) (hs : HD S59i.Es) : Tr (Ex × St) :=
  .chk (decide (xs.2.2.2.2.2.2.2.2.1 = (0 : Int))) (.ret (.exit 4, encS [0, 1, 4, 6, 8, 19, 20] [pt 0, pt 1, pt 2, u8, u8, t255, i64] S59i.Es 47
    ((), (), (), xs.2.2.2.1, rots xs.2.2.2.2.1 xs.2.2.2.2.2.1, xs.2.2.2.2.2.2.1, xs.2.2.2.2.2.2.2.1, ()) hs))
theorem k59i (p r n j : Int) (l : List Int) (hs : HD S59i.Es) : S59i.many (bodyK Try.prog (ctx C1) L0 b59i) 5 ((), (), (), p, r, n, l, j, (0 : Int), ()) hs =
    some (.exit 4, encS [0, 1, 4, 6, 8, 19, 20] [pt 0, pt 1, pt 2, u8, u8, t255, i64] S59i.Es 47 ((), (), (), p, rots r n, l, j, ()) hs) := by kernel_rfl
def L59i : Loops := fun j st => if j = 17 then S59i.fn F59i st else .fail

def S59b : LSpec := ⟨[0, 1, 4, 19, 20], [0, 4], 47, [pt 0, pt 1, pt 2, t255, i64], [.box t256, .box t255, .box t256]⟩
theorem k59b (o : List Int) : S59b.many (bodyK Try.prog (ctx C1) L59i b59b) 256 ((), (), (), powL, (0 : Int), ()) (o, powL, (List.replicate 256 (0 : Int)).set 0 99, ()) =
    some (.exit 2, encS [0, 4] [pt 0, pt 2] S59b.Es 47 ((), (), ()) (o, powL, boxL, ())) := by kernel_rfl

end Go.Proofs.Ytlkddajnebjlcaa.Aes

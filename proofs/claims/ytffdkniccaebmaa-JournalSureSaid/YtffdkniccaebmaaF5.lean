/- What the functions of layer 9 (field) give: lists of bytes, one behind the other; are lists of bytes the same. -/
import Derived.Test.YtffdkniccaebmaaF4
set_option linter.unusedVariables false
set_option maxRecDepth 100000
namespace Go.Proofs.Ytffdkniccaebmaa.Fld
open Go Vse Go.Proofs

def allG : List (List Int) → List Int → Nat → List Int × Nat
  | [], o, n => (o, n)
  | p :: r, o, n => bif decide (n < 100000) then allG r (o ++ p) (n + p.length + 1) else (o, n)
def short (p : List Int) : Bool := decide (p.length ≤ 140737488351232)
def preAll (l : List (List Int)) : Bool := l.all short

theorem getD_cons {α : Type} {l : List α} {k : Nat} (h : k < l.length) (d : α) : l.getD k d = l[k] := by rw [List.getD_eq_getElem?_getD, List.getElem?_eq_getElem h]; rfl
def out24 (o : List Int) (n : Nat) : Ex × St := (.exit 0, encS [4, 5] [.vc 0 1, i64] [.vec 1 u8] 33 ((), (n : Int), ()) (o, ()))


def F24 (xs : HL S24.Ts) (hs : HD S24.Es) : Tr (Ex × St) :=
  .chk (decide (xs.2.2.1 = (0 : Int)) && (decide (xs.2.2.2.1 = (0 : Int)) && (decide (List.length (α := Int) hs.1 = 0) && (decide (List.length (α := List Int) xs.1 ≤ 9223372036854775807) && preAll xs.1))))
    (.ret (out24 (allG xs.1 [] 0).1 (allG xs.1 [] 0).2))
noncomputable def L24 : Loops := fun j st => if j = 4 then S24.fn F24 st else .fail
def allI (l : List (List Int)) : HL [bt, i64] := ((allG l [] 0).1, ((allG l [] 0).2 : Int), ())
def s24 : CSpec := .slp [ls] (fun x => preAll x.1) [bt, i64] fun x => allI x.1
/-! bartizanref09.Same -/

def S33i : LSpec := ⟨[0, 1, 5, 6], [0, 1, 4, 5], 53, [ls, ls, i64, i64], []⟩
noncomputable def b33 : Code := loopAt Try.f94 0
noncomputable def b33i : Code := ((loopsOf b33)[0]?).getD .skip
def G33i (xs : HL S33i.Ts) (hs : HD S33i.Es) : Tr S33i.End :=
  let a : List (List Int) := xs.1
  let b : List (List Int) := xs.2.1
  let i := xs.2.2.1
  let k := xs.2.2.2.1
  let p : List Int := a.getD i.toNat []
  let q : List Int := b.getD i.toNat []
  .chk (inArr i a.length) (.ite (decide (k < (p.length : Int))) (.chk (inArr i a.length) (.chk (inArr k p.length) (.chk (inArr i b.length) (.chk (inArr k q.length)
    (.ite (p.getD k.toNat 0 != q.getD k.toNat 0) (.ret (.inr (.ret, encS [0, 1, 4, 5] [ls, ls, .bool, i64] [] 53 (a, b, false, i, ()) ()))) (.ret (.inl ((a, b, i, w (k + 1), ()), ()))))))))
    (.ret (.inr (.exit 2, encS [0, 1, 5] [ls, ls, i64] [] 53 (a, b, i, ()) ()))))
theorem r33i (a b : List (List Int)) (i k : Int) : (S33i.round (bodyK Try.prog (ctx []) L0 b33i) (a, b, i, k, ()) ()).eval = (G33i (a, b, i, k, ()) ()).eval := by kernel_rfl

end Go.Proofs.Ytffdkniccaebmaa.Fld

/- Keys of keys (layer 2, mac), and the document's answers: walks. -/
import Derived.Test.YtlkddajnebjlcaaK2
set_option linter.unusedVariables false
set_option maxRecDepth 100000
namespace Go.Proofs.Ytlkddajnebjlcaa.Mac
open Go Vse Go.Proofs Gen
open Sha hiding wb wu getD_cons

abbrev Mc := List Int → List (List Int) → List Int
abbrev Pc := List Int → List (List Int) → Bool
def cN (p : Pc) (M : Mc) : List (Nat × CSpec) := [(29, .slp1 [bs, ls] (fun x => p x.1 x.2.1) d32 fun x => M x.1 x.2.1)]

/-! Extract -/

def T34 (p : Pc) (M : Mc) (salt key : List Int) : Tr AV := .chk (p salt [key]) (.ret (.v d32 (M salt [key])))
theorem t34 (p : Pc) (M : Mc) (salt key : List Int) : nrm (fnS Try.prog (ctx (cN p M)) L0 [d32] Try.f34 (mkArgs [bs, bt] (salt, key, ()))) = (T34 p M salt key).eval := by kernel_rfl

/-! Expand -/

abbrev nE : PSpec := ⟨[bs, .str, i64], [bt, i64], [], [], []⟩
noncomputable def bE : Code := loopAt Try.f30 0
def SE : RSpec := ⟨[0, 1, 2, 8, 9, 10], 40, [bs, .str, i64, .vc 0 0, bt, u8], [.vec 0 u8], [], [.slot 8 u8], fun _ => ([2, 8], [i64, .vc 0 0], [.vec 0 u8])⟩
def GE (p : Pc) (M : Mc) (key : List Int) (s : ByteArray) (many : Int) (last : List Int) (n : Int) (out : List Int) : Tr SE.End :=
  let d : List Int := all 32 (M key [last, strBytes s, [n]])
  .ite (decide ((out.length : Int) < many)) (.chk (p key [last, strBytes s, [n]]) (.chk (Vse.room (out.length + d.length) 1) (.ret (.inl ((key, s, many, (), d, wb (n + 1), ()), (out ++ d, ()))))))
    (.ret (.inr (.exit 0, encS [2, 8] [i64, .vc 0 0] [.vec 0 u8] 40 (many, (), ()) (out, ()))))
theorem rE (p : Pc) (M : Mc) (key : List Int) (s : ByteArray) (many : Int) (last : List Int) (n : Int) (out : List Int) :
    (SE.round (bodyK Try.prog (ctx (cN p M)) L0 bE) (key, s, many, (), last, n, ()) (out, ())).eval = (GE p M key s many last n out).eval := by kernel_rfl

def FE (c : List Int → ByteArray → Int → List Int → Int → List Int → Bool) (X : List Int → ByteArray → Int → List Int) (xs : HL SE.Ts) (hs : HD SE.Es) : Tr (Ex × St) :=
  .chk (c xs.1 xs.2.1 xs.2.2.1 xs.2.2.2.2.1 xs.2.2.2.2.2.1 hs.1) (.ret (.exit 0, encS [2, 8] [i64, .vc 0 0] [.vec 0 u8] 40 (xs.2.2.1, (), ()) (X xs.1 xs.2.1 xs.2.2.1, ())))
def LE (c : List Int → ByteArray → Int → List Int → Int → List Int → Bool) (X : List Int → ByteArray → Int → List Int) : Loops := fun j st => if j = 5 then SE.fn (FE c X) st else .fail
def TE (c : List Int → ByteArray → Int → List Int → Int → List Int → Bool) (X : List Int → ByteArray → Int → List Int) (key : List Int) (s : ByteArray) (many : Int) : Tr nE.Out :=
  let bad : Tr nE.Out := .ret (([], 1, ()), ())
  let out : List Int := X key s many
  .ite (decide (many < 0)) bad (.ite (decide (many > 8160)) bad (.chk (c key s many [] 1 []) (.chk (decide ((0 : Int) ≤ 0) && (decide (0 ≤ many) && (decide (many = many) && decide (many ≤ (out.length : Int))))) (.ret (((out.take many.toNat).drop (0 : Int).toNat, 0, ()), ())))))
theorem tE (p : Pc) (M : Mc) (c : List Int → ByteArray → Int → List Int → Int → List Int → Bool) (X : List Int → ByteArray → Int → List Int) (key : List Int) (s : ByteArray) (many : Int) :
    (fnP Try.prog (ctx (cN p M)) (LE c X) nE Try.f30 (key, s, many, ()) ()).eval = (TE c X key s many).eval := by kernel_rfl

/-! Equal -/

noncomputable def bQ : Code := loopAt Try.f31 0
def SQ : RSpec := ⟨[1, 5, 13, 14, 15], 31, [bs, u8, bs, i64, i64], [], [], [], fun _ => ([5], [u8], [])⟩
def GQ (b : List Int) (u : Int) (a : List Int) (n i : Int) : Tr SQ.End :=
  .ite (decide (i < n)) (.chk (inArr i a.length) (.chk (inArr i b.length) (.ret (.inl ((b, orI .u8 u (xorI .u8 (a.getD i.toNat 0) (b.getD i.toNat 0)), a, n, w (i + 1), ()), ())))))
    (.ret (.inr (.exit 0, encS [5] [u8] [] 31 (u, ()) ())))
theorem rQ (b : List Int) (u : Int) (a : List Int) (n i : Int) : (SQ.round (bodyK Try.prog (ctx []) L0 bQ) (b, u, a, n, i, ()) ()).eval = (GQ b u a n i).eval := by kernel_rfl
def FQ (c : List Int → Int → List Int → Int → Int → Bool) (X : List Int → List Int → Int) (xs : HL SQ.Ts) (hs : HD SQ.Es) : Tr (Ex × St) :=
  .chk (c xs.1 xs.2.1 xs.2.2.1 xs.2.2.2.1 xs.2.2.2.2.1) (.ret (.exit 0, encS [5] [u8] [] 31 (X xs.2.2.1 xs.1, ()) ()))
def LQ (c : List Int → Int → List Int → Int → Int → Bool) (X : List Int → List Int → Int) : Loops := fun j st => if j = 5 then SQ.fn (FQ c X) st else .fail
def TQ (c : List Int → Int → List Int → Int → Int → Bool) (X : List Int → List Int → Int) (a b : List Int) : Tr AV :=
  .ite ((a.length : Int) != (b.length : Int)) (.ret (.v .bool false)) (.chk (c b 0 a (a.length : Int) 0) (.ret (.v .bool (X a b == 0))))
theorem tQ (c : List Int → Int → List Int → Int → Int → Bool) (X : List Int → List Int → Int) (a b : List Int) :
    nrm (fnS Try.prog (ctx []) (LQ c X) [.bool] Try.f31 (mkArgs [bs, bs] (a, b, ()))) = (TQ c X a b).eval := by kernel_rfl

end Go.Proofs.Ytlkddajnebjlcaa.Mac

/- The document's codes and keys (layer 2): walks. -/
import Derived.Test.YtlkddajnebjlcaaK3
import Derived.Test.YtlkddajnebjlcaaH8
set_option linter.unusedVariables false
set_option maxRecDepth 100000
namespace Go.Proofs.Ytlkddajnebjlcaa.Mac
open Go Vse Go.Proofs Gen
open Sha hiding wb wu getD_cons

/-! a key, filled up -/

def cR (R : List Int → List Int) (p : List Int → Bool) : List (Nat × CSpec) := [(17, .slp1 [bs] (fun x => p x.1) d32 fun x => R x.1)]
noncomputable def bX : Code := loopAt Try.f46 0
def SX : RSpec := ⟨[0, 1, 6, 7], 36, [bs, u8, .vc 0 0, i64], [.vec 0 u8], [], [.slot 6 u8], fun _ => ([6], [.vc 0 0], [.vec 0 u8])⟩
def GX (key : List Int) (by_ i : Int) (out : List Int) : Tr SX.End :=
  .ite (decide (i < 64)) (.ite (decide (i < (key.length : Int)))
      (.chk (inArr i key.length) (.chk (Vse.room (out.length + [xorI .u8 (key.getD i.toNat 0) by_].length) 1) (.ret (.inl ((key, by_, (), w (i + 1), ()), (out ++ [xorI .u8 (key.getD i.toNat 0) by_], ()))))))
      (.chk (Vse.room (out.length + [by_].length) 1) (.ret (.inl ((key, by_, (), w (i + 1), ()), (out ++ [by_], ()))))))
    (.ret (.inr (.exit 0, encS [6] [.vc 0 0] [.vec 0 u8] 36 ((), ()) (out, ()))))
theorem rX (R : List Int → List Int) (p : List Int → Bool) (key : List Int) (by_ i : Int) (out : List Int) : (SX.round (bodyK Try.prog (ctx (cR R p)) L0 bX) (key, by_, (), i, ()) (out, ())).eval = (GX key by_ i out).eval := by kernel_rfl
def SX2 : RSpec := ⟨[0, 1, 6, 7], 36, [bs, u8, .vc 1 0, i64], [.dead, .vec 0 u8], [.box d32], [.slot 6 u8], fun _ => ([6], [.vc 1 0], [.dead, .vec 0 u8])⟩
def GX2 (key : List Int) (by_ i : Int) (out : List Int) : Tr SX2.End :=
  .ite (decide (i < 64)) (.ite (decide (i < (key.length : Int)))
      (.chk (inArr i key.length) (.chk (Vse.room (out.length + [xorI .u8 (key.getD i.toNat 0) by_].length) 1) (.ret (.inl ((key, by_, (), w (i + 1), ()), (out ++ [xorI .u8 (key.getD i.toNat 0) by_], ()))))))
      (.chk (Vse.room (out.length + [by_].length) 1) (.ret (.inl ((key, by_, (), w (i + 1), ()), (out ++ [by_], ()))))))
    (.ret (.inr (.exit 0, encS [6] [.vc 1 0] [.dead, .vec 0 u8] 36 ((), ()) (out, ()))))
theorem rX2 (R : List Int → List Int) (p : List Int → Bool) (key : List Int) (by_ i : Int) (out : List Int) : (SX2.round (bodyK Try.prog (ctx (cR R p)) L0 bX) (key, by_, (), i, ()) (out, ())).eval = (GX2 key by_ i out).eval := by kernel_rfl

def FX (c : List Int → Int → List Int → Bool) (X : List Int → Int → List Int) (xs : HL SX.Ts) (hs : HD SX.Es) : Tr (Ex × St) :=
  .chk (c xs.1 xs.2.2.2.1 hs.1) (.ret (.exit 0, encS [6] [.vc 0 0] [.vec 0 u8] 36 ((), ()) (X xs.1 xs.2.1, ())))
def FX2 (c : List Int → Int → List Int → Bool) (X : List Int → Int → List Int) (xs : HL SX2.Ts) (hs : HD SX2.Es) : Tr (Ex × St) :=
  .chk (c xs.1 xs.2.2.2.1 hs.1) (.ret (.exit 0, encS [6] [.vc 1 0] [.dead, .vec 0 u8] 36 ((), ()) (X xs.1 xs.2.1, ())))
def LX (c : List Int → Int → List Int → Bool) (X : List Int → Int → List Int) : Loops := fun j st => if j = 6 then orL (fun st => heapIs SX.E0 st.heap) (SX.fn (FX c X)) (SX2.fn (FX2 c X)) st else .fail
abbrev nX : PSpec := ⟨[bs, u8], [.vc 0 0], [], [.vec 0 u8], []⟩
def TX (R : List Int → List Int) (p : List Int → Bool) (c : List Int → Int → List Int → Bool) (X : List Int → Int → List Int) (key : List Int) (by_ : Int) : Tr nX.Out :=
  let go (k : List Int) : Tr nX.Out := .chk (c k 0 []) (.ret (((), ()), (X k by_, ())))
  .ite (decide ((key.length : Int) > 64)) (.chk (p key) (go (all 32 (R key)))) (go key)
theorem tX (R : List Int → List Int) (p : List Int → Bool) (c : List Int → Int → List Int → Bool) (X : List Int → Int → List Int) (key : List Int) (by_ : Int) :
    (fnP Try.prog (ctx (cR R p)) (LX c X) nX Try.f46 (key, by_, ()) ()).eval = (TX R p c X key by_).eval := by kernel_rfl

/-! the code -/

def cRM (X : List Int → Int → List Int) (px : List Int → Bool) (R : List Int → List Int) (p : List Int → Bool) : List (Nat × CSpec) :=
  [(46, .pos nX (fun xs _ => px xs.1) fun xs _ => (((), ()), (X xs.1 xs.2.1, ()))), (17, .slp1 [bs] (fun x => p x.1) d32 fun x => R x.1)]
def T33 (X : List Int → Int → List Int) (px : List Int → Bool) (R : List Int → List Int) (p : List Int → Bool) (key b : List Int) : Tr AV :=
  let d : List Int := all 32 (R (X key 54 ++ b))
  .chk (px key) (.chk (Vse.room ((X key 54).length + b.length) 1) (.chk (p (X key 54 ++ b)) (.chk (px key) (.chk (Vse.room ((X key 92).length + d.length) 1) (.chk (p (X key 92 ++ d)) (.ret (.v d32 (R (X key 92 ++ d)))))))))
theorem t33 (X : List Int → Int → List Int) (px : List Int → Bool) (R : List Int → List Int) (p : List Int → Bool) (key b : List Int) :
    nrm (fnS Try.prog (ctx (cRM X px R p)) L0 [d32] Try.f33 (mkArgs [bs, bs] (key, b, ()))) = (T33 X px R p key b).eval := by kernel_rfl

/-! keys -/

def cRE (p : List Int → List Int → Bool) (M : List Int → List Int → List Int) : List (Nat × CSpec) := [(33, .slp1 [bs, bs] (fun x => p x.1 x.2.1) d32 fun x => M x.1 x.2.1)]
noncomputable def bY : Code := loopAt Try.f32 0
def SY : RSpec := ⟨[0, 1, 2, 8, 9, 10], 44, [bs, .str, i64, .vc 0 0, .vc 1 0, i64], [.vec 0 u8, .vec 0 u8], [], [.slot 8 u8, .slot 9 u8], fun _ => ([2, 8], [i64, .vc 0 0], [.vec 0 u8])⟩
def GY (p : List Int → List Int → Bool) (M : List Int → List Int → List Int) (key : List Int) (s : ByteArray) (many n : Int) (out last : List Int) : Tr SY.End :=
  let m1 : List Int := [] ++ last
  let m2 : List Int := m1 ++ strBytes s
  let m : List Int := m2 ++ [wb n]
  let d : List Int := [] ++ all 32 (M key m)
  .ite (decide ((out.length : Int) < many)) (.chk (Vse.room (([] : List Int).length + last.length) 1) (.chk (Vse.room (m1.length + (strBytes s).length) 1) (.chk (Vse.room (m2.length + [wb n].length) 1) (.chk (p key m)
      (.chk (Vse.room (([] : List Int).length + (all 32 (M key m)).length) 1) (.chk (Vse.room (out.length + d.length) 1) (.ret (.inl ((key, s, many, (), (), w (n + 1), ()), (out ++ d, d, ()))))))))))
    (.ret (.inr (.exit 0, encS [2, 8] [i64, .vc 0 0] [.vec 0 u8] 44 (many, (), ()) (out, ()))))
theorem rY (p : List Int → List Int → Bool) (M : List Int → List Int → List Int) (key : List Int) (s : ByteArray) (many n : Int) (out last : List Int) :
    (SY.round (bodyK Try.prog (ctx (cRE p M)) L0 bY) (key, s, many, (), (), n, ()) (out, last, ())).eval = (GY p M key s many n out last).eval := by kernel_rfl

def FY (c : List Int → ByteArray → Int → Int → List Int → List Int → Bool) (X : List Int → ByteArray → Int → List Int) (xs : HL SY.Ts) (hs : HD SY.Es) : Tr (Ex × St) :=
  .chk (c xs.1 xs.2.1 xs.2.2.1 xs.2.2.2.2.2.1 hs.1 hs.2.1) (.ret (.exit 0, encS [2, 8] [i64, .vc 0 0] [.vec 0 u8] 44 (xs.2.2.1, (), ()) (X xs.1 xs.2.1 xs.2.2.1, ())))
def LY (c : List Int → ByteArray → Int → Int → List Int → List Int → Bool) (X : List Int → ByteArray → Int → List Int) : Loops := fun j st => if j = 6 then SY.fn (FY c X) st else .fail
def TY (c : List Int → ByteArray → Int → Int → List Int → List Int → Bool) (X : List Int → ByteArray → Int → List Int) (key : List Int) (s : ByteArray) (many : Int) : Tr nE.Out :=
  let bad : Tr nE.Out := .ret (([], 1, ()), ())
  let out : List Int := X key s many
  .ite (decide (many < 0)) bad (.ite (decide (many > 8160)) bad (.chk (c key s many 1 [] []) (.chk (decide (0 ≤ many) && decide (many ≤ (out.length : Int))) (.ret ((out.take many.toNat, 0, ()), ())))))
theorem tY (p : List Int → List Int → Bool) (M : List Int → List Int → List Int) (c : List Int → ByteArray → Int → Int → List Int → List Int → Bool) (X : List Int → ByteArray → Int → List Int) (key : List Int) (s : ByteArray) (many : Int) :
    (fnP Try.prog (ctx (cRE p M)) (LY c X) nE Try.f32 (key, s, many, ()) ()).eval = (TY c X key s many).eval := by kernel_rfl

end Go.Proofs.Ytlkddajnebjlcaa.Mac

/- The clock (layer 8): walks of ClockTrue. -/
import Derived.Test.YtmolcddccjgliaaV2
set_option linter.unusedVariables false
set_option maxRecDepth 100000
namespace Go.Proofs.Ytmolcddccjgliaa.Clock
open Go Vse Go.Proofs Gen Sweep

abbrev tV : Ty := .prod i64 (.prod i64 (.prod .bool (.prod tS (.prod i64 (.prod i64 (.prod i64 (.prod i64 .unit)))))))
abbrev svt : Ty := .imm true false tV
abbrev Par := Int → Int → Int → Int × Bool × Unit
def cZ (U : Bool) (pf : Pl) (Sa : Sam) (Ne : New) (No : Nows) (Se : Sets) (G : Gr) (Ri : tS.den → Bool) (Ha : tS.den → Int → Bool) (Pa : Par) : List (Nat × CSpec) :=
  [(20, .slp1 [] (fun _ => true) .bool fun _ => U), (21, .pos nSa (fun _ _ => true) fun x _ => (Sa x.1 x.2.1 x.2.2.1 x.2.2.2.1, ())), (23, .pos nNe (fun _ _ => true) fun x _ => (Ne x.1, ())), (25, .pos nNo (fun _ _ => true) fun x _ => (No x.1 x.2.1, ())),
    (28, .pos nSe (fun x _ => pf x.2.2.1) fun x _ => (Se x.1 x.2.1 x.2.2.1 x.2.2.2.1, ())), (32, .fn1 [tS, i64, i64] tS fun x => G x.1 x.2.1 x.2.2.1), (16, .fn1 [tS] .bool fun x => Ri x.1), (17, .fn1 [tS, i64] .bool fun x => Ha x.1 x.2.1),
    (31, .pos nPa (fun _ _ => true) fun x _ => (Pa x.1 x.2.1 x.2.2.1, ()))]
noncomputable def bZ : Code := loopAt Try.f8 0
noncomputable def bZi : Code := ((loopsOf bZ)[0]?).getD .skip
abbrev eZi : List ETy := [.box t5, .box tC, .vec 0 tS, .box tV, .box tS, .box tS]
abbrev oZi : List Ty := [svt, .ptr 0 [], .bool, i64, i64, i64, .ptr 1 [], i64, .vc 2 0, i64, .ptr 5 []]
def SZi : RSpec := ⟨[0, 3, 5, 6, 7, 8, 9, 11, 12, 13, 16, 18, 23, 25], 325, [svt, .ptr 0 [], .bool, i64, i64, i64, .ptr 1 [], i64, .vc 2 0, i64, i64, i64, .ptr 5 [], i64], eZi, eZi, [], fun _ => ([0, 3, 5, 6, 7, 8, 9, 11, 12, 13, 23], oZi, eZi)⟩
def GZi (G : Gr) (l : List tV.den) (U : Bool) (now read ppm liars i to back k : Int) (hn : List Int) (hc : tC.den) (m : TL) (hx : tV.den) (ht hs : tS.den) : Tr SZi.End :=
  .ite (decide (k < (m.length : Int))) (.chk (inArr k m.length) (.chk (inArr k m.length) (.ret (.inl ((l, (), U, now, read, ppm, (), liars, (), i, to, back, (), w (k + 1), ()), (hn, hc, m.set k.toNat (G (m.getD k.toNat (dflt tS)) (w (to + back)) ppm), hx, ht, hs, ()))))))
    (.ret (.inr (.exit 2, encS [0, 3, 5, 6, 7, 8, 9, 11, 12, 13, 23] oZi eZi 325 (l, (), U, now, read, ppm, (), liars, (), i, (), ()) (hn, hc, m, hx, ht, hs, ()))))
theorem rZi (U : Bool) (pf : Pl) (Sa : Sam) (Ne : New) (No : Nows) (Se : Sets) (G : Gr) (Ri : tS.den → Bool) (Ha : tS.den → Int → Bool) (Pa : Par) (l : List tV.den) (W : Bool) (now read ppm liars i to back k : Int) (hn : List Int) (hc : tC.den) (m : TL) (hx : tV.den) (ht hs : tS.den) :
    (SZi.round (bodyK Try.prog (ctx (cZ U pf Sa Ne No Se G Ri Ha Pa)) L0 bZi) (l, (), W, now, read, ppm, (), liars, (), i, to, back, (), k, ()) (hn, hc, m, hx, ht, hs, ())).eval = (GZi G l W now read ppm liars i to back k hn hc m hx ht hs).eval := by kernel_rfl
def FZi (c : TL → Int → Bool) (M : TL → Int → Int → TL) (xs : HL SZi.Ts) (hs : HD SZi.Es) : Tr (Ex × St) :=
  .chk (c hs.2.2.1 xs.2.2.2.2.2.2.2.2.2.2.2.2.2.1) (.ret (.exit 2, encS [0, 3, 5, 6, 7, 8, 9, 11, 12, 13, 23] oZi eZi 325 (xs.1, (), xs.2.2.1, xs.2.2.2.1, xs.2.2.2.2.1, xs.2.2.2.2.2.1, (), xs.2.2.2.2.2.2.2.1, (), xs.2.2.2.2.2.2.2.2.2.1, (), ()) (hs.1, hs.2.1, M hs.2.2.1 (w (xs.2.2.2.2.2.2.2.2.2.2.1 + xs.2.2.2.2.2.2.2.2.2.2.2.1)) xs.2.2.2.2.2.1, hs.2.2.2)))
def LZi (c : TL → Int → Bool) (M : TL → Int → Int → TL) : Loops := fun j st => if j = 36 then SZi.fn (FZi c M) st else .fail

abbrev eZ : List ETy := [.box t5, .box tC, .vec 0 tS]
abbrev oZ : List Ty := [svt, .ptr 0 [], .bool, i64, i64, i64, .ptr 1 [], i64, .vc 2 0]
def SZ : RSpec := ⟨[0, 3, 5, 6, 7, 8, 9, 11, 12, 13], 325, [svt, .ptr 0 [], .bool, i64, i64, i64, .ptr 1 [], i64, .vc 2 0, i64], eZ, [.box t5, .box tC], [.slot 12 tS], fun x => match x with | .ret => ([4], [.bool], [.dead, .dead, .dead]) | _ => ([0, 3, 5, 6, 7, 8, 9, 11, 12], oZ, eZ)⟩
def GZ (Sa : Sam) (Ri : tS.den → Bool) (Pa : Par) (c : TL → Int → Bool) (M : TL → Int → Int → TL) (l : List tV.den) (U : Bool) (now read ppm liars i : Int) (hn : List Int) (hc : tC.den) (m : TL) : Tr SZ.End :=
  let x := l.getD i.toNat (dflt tV)
  let a := x.2.2.2.2.1
  let b := x.2.2.2.2.2.1
  let out := fun b : Bool => (.ret (.inr (.ret, encS [4] [.bool] [.dead, .dead, .dead] 325 (b, ()) ())) : Tr SZ.End)
  let up := out U
  let p1 := Pa a x.2.2.2.2.2.2.1 ppm
  let p2 := Pa b x.2.2.2.2.2.2.2.1 ppm
  let p3 := Pa (w (a + b)) (w (x.2.2.2.2.2.2.1 + x.2.2.2.2.2.2.2.1)) ppm
  let read' := w (w (read + p1.1) + p2.1)
  let go := fun (told : tS.den) (liars : Int) => (.ite (!Ri told) up (let s := Sa told read read' ppm
    .ite (!(s.2.1 == 0)) (out false) (.chk (c m 0) (.chk (Vse.room ((M m (w (p1.1 + p2.1)) ppm).length + 1) 16) (.ret (.inl ((l, (), U, w (w (now + a) + b), read', ppm, (), liars, (), w (i + 1), ()), (hn, hc, M m (w (p1.1 + p2.1)) ppm ++ [s.1], ()))))))) : Tr SZ.End)
  .ite (decide (i < (l.length : Int))) (.chk (inArr i l.length) (.ite (decide (x.1 ≥ 0)) (.ite (decide (x.2.1 ≥ 0)) (.ite (decide (x.1 < 1099511627776)) (.ite (decide (x.2.1 < 1099511627776)) (.ite (decide (a ≥ 0)) (.ite (decide (b ≥ 0)) (.ite (decide (a < 1073741824)) (.ite (!decide (b < 1073741824)) up
    (.ite (!p1.2.1) up (.ite (!p2.2.1) up (.ite (!p3.2.1) up (.ite x.2.2.1 (go x.2.2.2.1 (w (liars + 1))) (go (w (w (now + a) - x.1), w (w (now + a) + x.2.1), ()) liars)))))
    ) up) up) up) up) up) up) up))
    (.ret (.inr (.exit 0, encS [0, 3, 5, 6, 7, 8, 9, 11, 12] oZ eZ 325 (l, (), U, now, read, ppm, (), liars, (), ()) (hn, hc, m, ()))))
theorem rZ (U : Bool) (pf : Pl) (Sa : Sam) (Ne : New) (No : Nows) (Se : Sets) (G : Gr) (Ri : tS.den → Bool) (Ha : tS.den → Int → Bool) (Pa : Par) (c : TL → Int → Bool) (M : TL → Int → Int → TL) (l : List tV.den) (W : Bool) (now read ppm liars i : Int) (hn : List Int) (hc : tC.den) (m : TL) :
    (SZ.round (bodyK Try.prog (ctx (cZ U pf Sa Ne No Se G Ri Ha Pa)) (LZi c M) bZ) (l, (), W, now, read, ppm, (), liars, (), i, ()) (hn, hc, m, ())).eval = (GZ Sa Ri Pa c M l W now read ppm liars i hn hc m).eval := by kernel_rfl

end Go.Proofs.Ytmolcddccjgliaa.Clock

/- The clock (layer 8): the walk of ClockTrue as a whole. -/
import Derived.Test.YtmolcddccjgliaaV3
set_option linter.unusedVariables false
set_option maxRecDepth 100000
namespace Go.Proofs.Ytmolcddccjgliaa.Clock
open Go Vse Go.Proofs Gen Sweep

/-- what a round of servers leaves: the time, the reading, liars, samples; whether it goes through -/
abbrev Out4 := Int × Int × Int × TL
def FZ (c : List tV.den → Bool → Int → Int → Int → Int → Int → TL → Bool) (B : List tV.den → Int → Int → Int → Bool) (E : List tV.den → Int → Int → Int → Out4) (xs : HL SZ.Ts) (hs : HD SZ.Es) : Tr (Ex × St) :=
  let l := xs.1
  let U := xs.2.2.1
  let now := xs.2.2.2.1
  let read := xs.2.2.2.2.1
  let ppm := xs.2.2.2.2.2.1
  .chk (c l U now read ppm xs.2.2.2.2.2.2.2.1 xs.2.2.2.2.2.2.2.2.2.1 hs.2.2.1) (.ite (B l now read ppm) (.ret (.ret, encS [4] [.bool] [.dead, .dead, .dead] 325 (true, ()) ()))
    (let e := E l now read ppm
    .ret (.exit 0, encS [0, 3, 5, 6, 7, 8, 9, 11, 12] oZ eZ 325 (l, (), U, e.1, e.2.1, ppm, (), e.2.2.1, (), ()) (hs.1, hs.2.1, e.2.2.2, ()))))
def LZ (c : List tV.den → Bool → Int → Int → Int → Int → Int → TL → Bool) (B : List tV.den → Int → Int → Int → Bool) (E : List tV.den → Int → Int → Int → Out4) : Loops := fun j st => if j = 13 then SZ.fn (FZ c B E) st else .fail
def T8 (U : Bool) (pf : Pl) (Ne : New) (No : Nows) (Se : Sets) (Ha : tS.den → Int → Bool) (Pa : Par) (c : List tV.den → Bool → Int → Int → Int → Int → Int → TL → Bool) (B : List tV.den → Int → Int → Int → Bool) (E : List tV.den → Int → Int → Int → Out4) (l : List tV.den) (n0 n1 n2 n3 n4 : Int) : Tr AV :=
  let up := bl U
  let k := Ne n2
  let e := E l n0 n1 n2
  let d := Se k.1 e.2.1 e.2.2.2 e.2.2.1
  let s := No d.1 e.2.1
  let p := Pa n3 n4 n2
  let u := No d.1 (w (e.2.1 + p.1))
  .ite (decide ((l.length : Int) = 0)) up (.ite (decide ((l.length : Int) > 12)) up (.ite (decide (n0 < 0)) up (.ite (decide (n0 > 1099511627776)) up (.ite (decide (n1 < 0)) up (.ite (decide (n1 > 1099511627776)) up (.ite (decide (n2 < 0)) up (.ite (decide (n2 > 100000)) up (.ite (decide (n3 < 0)) up (.ite (decide (n3 > 1099511627776)) up
    (.ite (!(k.2.1 == 0)) no (.chk (c l U n0 n1 n2 0 0 []) (.ite (B l n0 n1 n2) (bl true) (.ite (decide (e.2.2.1 ≥ (l.length : Int))) up (.chk (pf e.2.2.2) (.ite (!(d.2.1 == 0)) no (.ite (!(s.2.1 == 0)) no (.ite (!Ha s.1 e.1) no
      (.ite (!p.2.1) up (.ite U (.ite (u.2.1 == 0) (bl (Ha u.1 (w (e.1 + n3)))) no) no)))))))))))))))))))
theorem t8 (U : Bool) (pf : Pl) (Sa : Sam) (Ne : New) (No : Nows) (Se : Sets) (G : Gr) (Ri : tS.den → Bool) (Ha : tS.den → Int → Bool) (Pa : Par) (c : List tV.den → Bool → Int → Int → Int → Int → Int → TL → Bool) (B : List tV.den → Int → Int → Int → Bool) (E : List tV.den → Int → Int → Int → Out4) (l : List tV.den) (n0 n1 n2 n3 n4 : Int) :
    nrm (fnK Try.prog (ctx (cZ U pf Sa Ne No Se G Ri Ha Pa)) (LZ c B E) Try.f8 (mkArgs [svt, t5] (l, [n0, n1, n2, n3, n4], ())) []) = (T8 U pf Ne No Se Ha Pa c B E l n0 n1 n2 n3 n4).eval := by kernel_rfl

end Go.Proofs.Ytmolcddccjgliaa.Clock

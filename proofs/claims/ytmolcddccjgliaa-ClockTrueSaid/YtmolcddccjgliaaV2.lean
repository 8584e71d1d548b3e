/- The clock (layer 8): walks of awake and ClockTells. -/
import Derived.Test.YtmolcddccjgliaaV1
set_option linter.unusedVariables false
set_option maxRecDepth 100000
namespace Go.Proofs.Ytmolcddccjgliaa.Clock
open Go Vse Go.Proofs Gen Sweep

abbrev Sam := tS.den → Int → Int → Int → tS.den × Int × Unit
abbrev New := Int → tC.den × Int × Unit
abbrev Nows := tC.den → Int → tS.den × Int × Unit
abbrev Sets := tC.den → Int → TL → Int → tC.den × Int × Unit
def cK (U : Bool) (pf : Pl) (Sa RSa : Sam) (Ne RNe : New) (No RNo : Nows) (Se RSe : Sets) (M : tC.den → Bool) (Of : tC.den → tC.den) : List (Nat × CSpec) :=
  [(20, .slp1 [] (fun _ => true) .bool fun _ => U), (21, .pos nSa (fun _ _ => true) fun x _ => (Sa x.1 x.2.1 x.2.2.1 x.2.2.2.1, ())), (22, .pos nSa (fun _ _ => true) fun x _ => (RSa x.1 x.2.1 x.2.2.1 x.2.2.2.1, ())),
    (23, .pos nNe (fun _ _ => true) fun x _ => (Ne x.1, ())), (24, .pos nNe (fun _ _ => true) fun x _ => (RNe x.1, ())), (25, .pos nNo (fun _ _ => true) fun x _ => (No x.1 x.2.1, ())), (26, .pos nNo (fun _ _ => true) fun x _ => (RNo x.1 x.2.1, ())),
    (28, .pos nSe (fun x _ => pf x.2.2.1) fun x _ => (Se x.1 x.2.1 x.2.2.1 x.2.2.2.1, ())), (29, .pos nSe (fun x _ => pf x.2.2.1) fun x _ => (RSe x.1 x.2.1 x.2.2.1 x.2.2.2.1, ())), (27, .slp1 [tC] (fun _ => true) .bool fun x => M x.1), (30, .fn1 [tC] tC fun x => Of x.1)]
def cA (pf : Pl) (Sa : Sam) (Ne : New) (No : Nows) (Se : Sets) (Of : tC.den → tC.den) : List (Nat × CSpec) :=
  [(21, .pos nSa (fun _ _ => true) fun x _ => (Sa x.1 x.2.1 x.2.2.1 x.2.2.2.1, ())), (23, .pos nNe (fun _ _ => true) fun x _ => (Ne x.1, ())), (25, .pos nNo (fun _ _ => true) fun x _ => (No x.1 x.2.1, ())),
    (28, .pos nSe (fun x _ => pf x.2.2.1) fun x _ => (Se x.1 x.2.1 x.2.2.1 x.2.2.2.1, ())), (30, .fn1 [tC] tC fun x => Of x.1)]

def TA (pf : Pl) (Sa : Sam) (Ne : New) (No : Nows) (Se : Sets) (Of : tC.den → tC.den) : Tr AV :=
  let s := Sa (10, 20, ()) 5 9 0
  let c := Ne 1000
  let g := No c.1 9
  let d := Se c.1 9 [s.1] 0
  let n := No d.1 1009
  .chk (pf [s.1]) (.ite (s.2.1 == 0) (.ite (eqT tS s.1 (10, 24, ())) (.ite (c.2.1 == 0) (.ite (g.2.1 == 11) (.ite (d.2.1 == 0) (.ite (n.2.1 == 0) (.ite (eqT tS n.1 (1009, 1025, ())) (bl (eqT tC (Of d.1) c.1)) no) no) no) no) no) no) no)
theorem tA (pf : Pl) (Sa : Sam) (Ne : New) (No : Nows) (Se : Sets) (Of : tC.den → tC.den) : nrm (fnS Try.prog (ctx (cA pf Sa Ne No Se Of)) L0 [.bool] Try.f20 (mkArgs [] ())) = (TA pf Sa Ne No Se Of).eval := by kernel_rfl

abbrev t5 : Ty := .arr 5 i64
def T7 (U : Bool) (pf : Pl) (Sa RSa : Sam) (Ne RNe : New) (No RNo : Nows) (Se RSe : Sets) (M : tC.den → Bool) (Of : tC.den → tC.den) (c : tC.den) (l : TL) (n0 n1 n2 n3 n4 : Int) : Tr AV :=
  let up := bl U
  .ite (decide ((l.length : Int) > 70)) up (.ite (decide (n3 < -200000)) up (.ite (decide (n3 > 200000)) up (.ite (decide (n4 < -100)) up (.ite (decide (n4 > 100)) up
    (let a := Sa c.2.2.2.1 n0 n1 n3
    let b := RSa c.2.2.2.1 n0 n1 n3
    let x := Ne n3
    let y := RNe n3
    let s := No c n2
    let t := RNo c n2
    .ite (!eqT tS a.1 b.1) no (.ite (!(a.2.1 == b.2.1)) no (.ite (!eqT tC x.1 y.1) no (.ite (!(x.2.1 == y.2.1)) no (.ite (!eqT tS s.1 t.1) no (.ite (!(s.2.1 == t.2.1)) no (.ite (!M c) up
      (let d := Se c n2 l n4
      let o := RSe c n2 l n4
      .chk (pf l) (.chk (pf l) (.ite U (.ite (eqT tC d.1 o.1) (.ite (d.2.1 == o.2.1) (bl (eqT tC (Of c) (c.1, false, 0, (0, 0, ()), ()))) no) no) no))))))))))))))
theorem t7 (U : Bool) (pf : Pl) (Sa RSa : Sam) (Ne RNe : New) (No RNo : Nows) (Se RSe : Sets) (M : tC.den → Bool) (Of : tC.den → tC.den) (c : tC.den) (l : TL) (n0 n1 n2 n3 n4 : Int) :
    nrm (fnK Try.prog (ctx (cK U pf Sa RSa Ne RNe No RNo Se RSe M Of)) L0 Try.f7 (mkArgs [tC, sst, t5] (c, l, [n0, n1, n2, n3, n4], ())) []) = (T7 U pf Sa RSa Ne RNe No RNo Se RSe M Of c l n0 n1 n2 n3 n4).eval := by kernel_rfl

end Go.Proofs.Ytmolcddccjgliaa.Clock

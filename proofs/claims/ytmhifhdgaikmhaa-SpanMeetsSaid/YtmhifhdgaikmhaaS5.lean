/- What the other statements of layer 6 (span) give, as plain functions of integers. -/
import Derived.Test.YtmhifhdgaikmhaaS3
set_option linter.unusedVariables false
set_option maxRecDepth 100000
namespace Go.Proofs.Ytmhifhdgaikmhaa.Span
open Go Vse Go.Proofs

def growsRest (s : tS.den) (t k r p q : Int) : Bool :=
  decide (q > slackF k p) || (!(hasF s t) || (hasF (growF s k p) (w (t + r)) && (rightF (growF s k p) && decide (widthF (growF s k p) = w (widthF s + w (2 * slackF k p))))))
def growsF (s : tS.den) (t k r p : Int) : Bool :=
  decide (p < 0) || (decide (p > 100000) || (decide (k < 0) || (decide (k > 1099511627776) || (decide (r < 0) || (decide (r > 2199023255552) || (!(rightF s) ||
  (decide (s.1 < -576460752303423488) || (decide (s.2.1 > 576460752303423488) || (bif decide (w (r - k) < 0) then growsRest s t k r p (w (0 - (w (r - k)))) else growsRest s t k r p (w (r - k))))))))))) 

theorem grows_fold (s : tS.den) (a b c d : Int) : (fnK Try.prog (ctx L4) L0 Try.f3 (mkArgs [tS, .arr 4 i64] (s, [a, b, c, d], ())) []).fold1 .bool = growsF s a b c d := by kernel_rfl
theorem grows_fine (s : tS.den) (a b c d : Int) : (fnK Try.prog (ctx L4) L0 Try.f3 (mkArgs [tS, .arr 4 i64] (s, [a, b, c, d], ())) []).fine [.bool] = true := by kernel_rfl

def meets3 (a b : tS.den) (t : Int) (both one x : Bool) : Bool := eqT .bool both x && (bif !one then decide (widthF (hullF a b) ≥ widthF a) else (hasF (hullF a b) t && decide (widthF (hullF a b) ≥ widthF a)))
def meets2 (a b : tS.den) (t : Int) (both one : Bool) : Bool :=
  eqT tS (meetF a b).1 (meetF b a).1 && (eqT .bool (meetF a b).2.1 (meetF b a).2.1 && (bif (meetF a b).2.1 then meets3 a b t both one (hasF (meetF a b).1 t) else meets3 a b t both one false))
def meets1 (a b : tS.den) (t : Int) (both : Bool) : Bool := bif hasF a t then meets2 a b t both true else meets2 a b t both (hasF b t)
def meetsF (a b : tS.den) (t : Int) : Bool := !(rightF a) || (!(rightF b) || (bif hasF a t then meets1 a b t (hasF b t) else meets1 a b t false))

theorem meets_fold (a b : tS.den) (t : Int) : (fnK Try.prog (ctx L4) L0 Try.f6 (mkArgs [tS, tS, i64] (a, b, t, ())) []).fold1 .bool = meetsF a b t := by kernel_rfl
theorem meets_fine (a b : tS.den) (t : Int) : (fnK Try.prog (ctx L4) L0 Try.f6 (mkArgs [tS, tS, i64] (a, b, t, ())) []).fine [.bool] = true := by kernel_rfl

def tells1 (a b : tS.den) (n m c : Int) : Bool :=
  !(rRightF a) || (!(rRightF b) || (eqT tS (hullF a b) (minI a.1 b.1, maxI a.2.1 b.2.1, ()) && (decide (widthF a = w (a.2.1 - a.1)) && eqT tS (growF a m c) (rGrowF a m c))))
def tellsF (a b : tS.den) (n m c : Int) : Bool := decide (c < -200000) || (decide (c > 200000) ||
  (bif !eqT .bool (rightF a) (rRightF a) then false else bif !eqT .bool (hasF a n) (rHasF a n) then false else bif !eqT tS (meetF a b).1 (meetF a b).1 then false else
   bif !eqT .bool (meetF a b).2.1 (meetF a b).2.1 then false else bif !(decide (slackF m c = rSlackF m c)) then false else tells1 a b n m c))
theorem tells_fold (a b : tS.den) (n m c : Int) : (fnK Try.prog (ctx L4) L0 Try.f5 (mkArgs [tS, tS, .arr 3 i64] (a, b, [n, m, c], ())) []).fold1 .bool = tellsF a b n m c := by kernel_rfl
theorem tells_fine (a b : tS.den) (n m c : Int) : (fnK Try.prog (ctx L4) L0 Try.f5 (mkArgs [tS, tS, .arr 3 i64] (a, b, [n, m, c], ())) []).fine [.bool] = true := by kernel_rfl

end Go.Proofs.Ytmhifhdgaikmhaa.Span

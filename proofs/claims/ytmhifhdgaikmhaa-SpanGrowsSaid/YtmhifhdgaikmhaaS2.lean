/- What the statements of layer 6 (span) give, as plain functions of integers. -/
import Derived.Test.YtmhifhdgaikmhaaS1
set_option linter.unusedVariables false
set_option maxRecDepth 100000
namespace Go.Proofs.Ytmhifhdgaikmhaa.Span
open Go Vse Go.Proofs

def stepsF (s : tS.den) (a b c : Int) : Bool :=
  decide (c < 0) || (decide (c > 100000) || (decide (a < 0) || (decide (b < 0) || (decide (a > 288230376151711744) || (decide (b > 288230376151711744) || (!(rightF s) ||
  (decide ((growF (growF s a c) b c).1 ≤ (growF s (w (a + b)) c).1) && (decide ((growF (growF s a c) b c).2.1 ≥ (growF s (w (a + b)) c).2.1) &&
   (decide (slackF (w (a + b)) c ≤ w (slackF a c + slackF b c)) && decide (w (slackF a c + slackF b c) ≤ w (slackF (w (a + b)) c + 1)))))))))))

theorem steps_fold (s : tS.den) (a b c : Int) : (fnK Try.prog (ctx L4) L0 Try.f4 (mkArgs [tS, .arr 3 i64] (s, [a, b, c], ())) []).fold1 .bool = stepsF s a b c := by kernel_rfl
theorem steps_fine (s : tS.den) (a b c : Int) : (fnK Try.prog (ctx L4) L0 Try.f4 (mkArgs [tS, .arr 3 i64] (s, [a, b, c], ())) []).fine [.bool] = true := by kernel_rfl

end Go.Proofs.Ytmhifhdgaikmhaa.Span

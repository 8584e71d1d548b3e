/- Counters (layer 4, ctr): a call of yield. -/
import Derived.Test.YtlkddajnebjlcaaL5
set_option linter.unusedVariables false
set_option maxRecDepth 100000
namespace Go.Proofs.Ytlkddajnebjlcaa.Ctr
open Go Vse Go.Proofs Gen

def opsOf : Code → Array Oper | .region _ ops _ => ops | _ => #[]
noncomputable def oY (i : Nat) : Oper := ((opsOf R3)[i]?).getD { dst := none, op := .move (.tmp 0), type := 0, pos := "", after := #[], guard := none }
theorem R3_shape : R3 = .region 3 (opsOf R3) false ∧ (opsOf R3).toList = [oY 0, oY 1, oY 2, oY 3] := ⟨by kernel_rfl, by kernel_rfl⟩
theorem oY2 : (oY 2).op = .call { callee := .value (.tmp 12), args := #[.tmp 13], argTypes := #[5] } ∧ (oY 2).guard = none ∧ (oY 2).dst = some 14 := ⟨by kernel_rfl, by kernel_rfl, by kernel_rfl⟩

theorem exec_yield {a : Act} {w : World} {l : Nat} {o : Loop} {x : Value} (h1 : a.eval (.tmp 12) = .func (.yield l) #[] #[]) (h2 : a.eval (.tmp 13) = x) (hl : w.heap[l]? = some (.loop o)) (hp : o.params = #[15]) :
    (execOp a.eval (oY 2)).run Try.prog w = .ok (.round l o.fn (o.tmps.setIfInBounds 15 x) o.assign o.body) w := by
  unfold execOp
  rw [oY2.1]
  have := run_yield (P := Try.prog) (args := #[x]) hl (by rw [hp]; rfl)
  simp [resolve, h1, h2, Deferred.ofValue, invoke, this, hp]

end Go.Proofs.Ytlkddajnebjlcaa.Ctr

/- Counters (layer 4, ctr): pointers under other memory. -/
import Derived.Test.YtlkddajnebjlcaaL8
set_option linter.unusedVariables false
set_option maxRecDepth 100000
namespace Go.Proofs.Ytlkddajnebjlcaa.Ctr
open Go Vse Go.Proofs Gen

/-- what is a variable as the loop begins and is one now stands where it stood -/
theorem box_same {g0 g : G} (h : g0.leD g) {i : Nat} {s0 s : Sk} (h0 : g0.sh i = .box s0) (h1 : g.sh i = .box s) : g.sh i = g0.sh i ∧ g.bl i = g0.bl i := by
  cases h.ent i with
  | same a b c => exact ⟨a, b⟩
  | dead a => rw [a] at h1; cases h1
  | grew a b c => rw [a] at h0; cases h0
  | new a => rw [a] at h0; cases h0

theorem ptr_move {g0 g g3 : G} (h : g0.leD g) (h3 : g0.leD g3) {i : Nat} {s0 s s3 : Sk} (e0 : g0.sh i = .box s0) (e1 : g.sh i = .box s) (e3 : g3.sh i = .box s3) {v : Value} (hv : VRep g (.v (.ptr i []) ()) v) : VRep g3 (.v (.ptr i []) ()) v := by
  obtain ⟨a1, a2⟩ := box_same h e0 e1
  obtain ⟨b1, b2⟩ := box_same h3 e0 e3
  have hv := (VRep_v (by simp)).1 hv
  refine (VRep_v (by simp)).2 ?_
  simp only [TRep, Ty.agg, Ty.sk, Sk.agg, Bool.false_eq_true, if_false, Rep, G.bxr] at hv ⊢
  rw [b1, b2]
  rw [a1, a2] at hv
  exact hv

end Go.Proofs.Ytlkddajnebjlcaa.Ctr

/- Counters (layer 4, ctr): a call of what Flip ranges over. -/
import Derived.Test.YtlkddajnebjlcaaL19
set_option linter.unusedVariables false
set_option maxRecDepth 100000
namespace Go.Proofs.Ytlkddajnebjlcaa.Ctr
open Go Vse Go.Proofs Gen

theorem made_calls {E : En} {N : Nx} (hC : CtxSound Try.prog (CI E N) ∧ CtxLocal (CI E N)) {g0 g : G} {l r : Nat} {o : Loop} (hS : Start g0 o) (ho : o.state = .ready) (hpn : o.pending = none) {k a b k' a' : List Int} (hsm : b.length ≤ 1000000) (hin : 0 < b.length)
    {w : World} {v1 v2 : Value} (hg : Going g0 g (hL k a b k' a' []) w l r o) (h1 : VRep g (.v (.ptr 4 []) ()) v1) (h2 : VRep g (.v (.ptr 5 []) ()) v2) {R : Ending → World → Prop}
    (hret : ∀ q j : Nat, j < 16 → (outs (E k' (atB N a' q)) b (outB E N k' a' b q) (j + 1)).length = b.length → ∀ g w v, Going g0 g (hL k a b k' (atB N a' q) (outs (E k' (atB N a' q)) b (outB E N k' a' b q) (j + 1))) w l r { o with state := .done, pending := some (.exit 0) } → R (.returned v) w) :
    CallsIn (FW none) 0 Try.prog kM #[.func (.yield l) #[] #[], v1, v2] w R := by
  refine callsIn_of_wp (F := FW none) (c := cI) Try.func56 (by kernel_rfl) trivial ?_
  refine outer hC hS ho hpn hsm (fun q j hj heq g2 a2 w2 hg2 hd2 => ?_) hg ?_ rfl hin
  · refine ⟨hd2, .tuple #[], ?_, hret q j hj heq g2 w2 _ hg2⟩
    have : (Try.f56).results = #[] := by kernel_rfl
    simp [results, this]
  · have hnt : (Try.f56).ntmps = 19 := by kernel_rfl
    rw [hnt]
    have htm : (#[.func (.yield l) #[] #[], v1, v2] : Array Value) ++ Array.replicate (19 - (#[.func (.yield l) #[] #[], v1, v2] : Array Value).size) undef = (Value.func (.yield l) #[] #[] :: v1 :: v2 :: List.replicate 16 undef).toArray := by
      apply Array.ext'
      simp
    rw [htm]
    have harg : argsRep g (e0 l) (Value.func (.yield l) #[] #[] :: v1 :: v2 :: List.replicate 16 undef) := by
      refine ⟨_, _, rfl, (VRep_v (T := .it l) (x := ()) (by simp)).2 (by simp only [TRep, Ty.agg, Ty.sk, Sk.agg, Bool.false_eq_true, if_false, Rep]), ⟨_, _, rfl, h1, ⟨_, _, rfl, h2, ?_⟩⟩⟩
      have : ∀ n, argsRep g (List.replicate n AV.und) (List.replicate n undef) := by
        intro n
        induction n with
        | zero => rfl
        | succ n ih => exact ⟨_, _, rfl, trivial, ih⟩
      exact this 16
    refine ⟨rfl, fun i => ?_⟩
    have := argsRep_get harg i
    simpa [Array.getD_eq_getD_getElem?, List.getD_eq_getElem?_getD] using this

end Go.Proofs.Ytlkddajnebjlcaa.Ctr

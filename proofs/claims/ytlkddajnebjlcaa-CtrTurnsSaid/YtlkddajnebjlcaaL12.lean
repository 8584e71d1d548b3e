/- Counters (layer 4, ctr): a round of Flip's loop, while it goes on. -/
import Derived.Test.YtlkddajnebjlcaaL11
set_option linter.unusedVariables false
set_option maxRecDepth 100000
namespace Go.Proofs.Ytlkddajnebjlcaa.Ctr
open Go Vse Go.Proofs Gen

def flipB (x : Int) (b out : List Int) : Int := xorI .u8 (b.getD out.length 0) x

theorem yield_round {g0 g : G} {w : World} {l r : Nat} {o : Loop} {x : Int} {k a b k' a' out : List Int} {f : FuncId} {tm : Array Value} {R : Ending → World → Prop}
    (hg : Going g0 g (hL k a b k' a' out) w l r o) (hds : g0.ext.2 = []) (ho : o.state = .ready) (h0 : ∀ t, isY (g0.sh t) SL.E0[t]?)
    (hF : EnvRep g (SL.enc ((), (), x, ()) (k, a, b, (), k', a', out, ())).env { tmps := tm, defers := [] }) (hin : out.length < b.length) (hsm : b.length ≤ 1000000)
    (hmore : (out ++ [flipB x b out]).length ≠ b.length → ∀ g3 w', Going g0 g3 (hL k a b k' a' (out ++ [flipB x b out])) w' l r { o with state := .ready, pending := none } → R (.returned (.bool true)) w')
    (hlast : (out ++ [flipB x b out]).length = b.length → ∀ g3 w', Going g0 g3 (hL k a b k' a' (out ++ [flipB x b out])) w' l r { o with state := .done, pending := some (.exit 0) } → R (.returned (.bool false)) w') :
    RoundIn (FW none) 0 Try.prog l f tm asgF bdyF w R := by
  have hl1 : LoopsOK Try.prog L0 asgF := loopsOK_of (by kernel_rfl)
  have hl2 : LoopsOK Try.prog L0 bdyF := loopsOK_of (by kernel_rfl)
  have c1 : inArr (out.length : Int) b.length = true := inArr_nat hin
  have c2 : Vse.room (out.length + [flipB x b out].length) 1 = true := by simp only [Vse.room, decide_eq_true_eq, List.length_singleton]; omega
  have hG : (GL x k a b k' a' out).eval = if (out ++ [flipB x b out]).length = b.length then some (.inr (.exit 0, encS [] [] eL 32 () (k, a, b, (), k', a', out ++ [flipB x b out], ())))
      else some (.inl (((), (), x, ()), (k, a, b, (), k', a', out ++ [flipB x b out], ()))) := by
    unfold GL
    simp only [Int.toNat_natCast]
    rw [chk_eval c1]
    refine (chk_eval c2 _).trans ?_
    by_cases heq : (out ++ [flipB x b out]).length = b.length
    · rw [if_pos heq]
      refine (ite_t ?_ _ _).trans rfl
      show (((out ++ [flipB x b out]).length : Int) == (b.length : Int)) = true
      rw [heq]; exact beq_self_eq_true _
    · rw [if_neg heq]
      refine (ite_f ?_ _ _).trans rfl
      show (((out ++ [flipB x b out]).length : Int) == (b.length : Int)) = false
      simp only [beq_eq_false_iff_ne, ne_eq]
      omega
  by_cases heq : (out ++ [flipB x b out]).length = b.length
  · rw [if_pos heq] at hG
    obtain ⟨st1, y, st2, q1, q2, q3⟩ := round_of ((rL x k a b k' a' out).trans hG)
    cases y with
    | normal => obtain ⟨dd, _, h⟩ := q3; cases h
    | ret => obtain ⟨st, _, h⟩ := q3; cases h
    | exit i =>
      obtain ⟨st, h1, h2⟩ := q3
      simp only [Sum.inr.injEq, Prod.mk.injEq, Ex.exit.injEq] at h2
      obtain ⟨rfl, rfl⟩ := h2
      unfold RSpec.outSt at h1
      split at h1
      · rename_i d hren
        simp only [Option.some.injEq] at h1
        refine Going.round nil_sound hl1 hl2 hg ho hF q1 q2 (.inr ⟨0, rfl⟩) fun g' w' a2 hD he2 hd2 => ⟨fun h => absurd h (by simp), fun id hid hgo => ?_⟩
        cases hid
        obtain ⟨g3, w1, _⟩ := Going.ren hgo hds he2 hd2 h0 hren
        have hh : (encS (SL.outs (.exit 0)).1 (SL.outs (.exit 0)).2.1 (SL.outs (.exit 0)).2.2 SL.nt d.1 d.2).heap = hL k a b k' a' (out ++ [flipB x b out]) := by rw [h1]; rfl
        rw [hh] at w1
        exact hlast heq g3 w' w1
      · cases h1
  · rw [if_neg heq] at hG
    obtain ⟨st1, y, st2, q1, q2, q3⟩ := round_of ((rL x k a b k' a' out).trans hG)
    cases y with
    | exit i => obtain ⟨st, _, h⟩ := q3; cases h
    | ret => obtain ⟨st, _, h⟩ := q3; cases h
    | normal =>
      obtain ⟨dd, hren, h2⟩ := q3
      simp only [Sum.inl.injEq] at h2
      subst h2
      refine Going.round nil_sound hl1 hl2 hg ho hF q1 q2 (.inl rfl) fun g' w' a2 hD he2 hd2 => ⟨fun _ hgo => ?_, fun id hid => absurd hid (by simp)⟩
      obtain ⟨g3, w1, _⟩ := Going.ren hgo hds he2 hd2 h0 hren
      exact hmore heq g3 w' w1

end Go.Proofs.Ytlkddajnebjlcaa.Ctr

/- Counters (layer 4, ctr): the inner loop, walked. -/
import Derived.Test.YtlkddajnebjlcaaL17
set_option linter.unusedVariables false
set_option maxRecDepth 100000
namespace Go.Proofs.Ytlkddajnebjlcaa.Ctr
open Go Vse Go.Proofs Gen

theorem inner {E : En} {N : Nx} (hC : CtxSound Try.prog (CI E N) ∧ CtxLocal (CI E N)) {g0 : G} {l r : Nat} {o : Loop} (hS : Start g0 o) (ho : o.state = .ready) (hpn : o.pending = none) {k a b k' a' out e : List Int} (hsm : b.length ≤ 1000000)
    {Q : Exit → Act → World → Prop}
    (hend : ∀ g act w, Going g0 g (hL k a b k' a' (outs e b out 16)) w l r o → EnvRep g (e1 l e 16) act → act.defers = [] → (outs e b out 16).length < b.length → Q (.exit 2) act w)
    (hret : ∀ j : Nat, j < 16 → (outs e b out (j + 1)).length = b.length → ∀ g act w, Going g0 g (hL k a b k' a' (outs e b out (j + 1))) w l r { o with state := .done, pending := some (.exit 0) } → act.defers = [] → Q .ret act w)
    {g : G} {act : Act} {w : World} (hg : Going g0 g (hL k a b k' a' out) w l r o) (he : EnvRep g (e1 l e 0) act) (hd : act.defers = []) (hin : out.length < b.length) : (Code.loop cB).wpIn (FW none) 0 Try.prog Q act w := by
  refine wpIn_loop_ghost (fun n act w => ∃ (j : Nat) (g : G), j ≤ 16 ∧ n = 16 - j ∧ Going g0 g (hL k a b k' a' (outs e b out j)) w l r o ∧ EnvRep g (e1 l e (j : Int)) act ∧ act.defers = [] ∧ (outs e b out j).length < b.length) 16
    ⟨0, g, by omega, by omega, hg, he, hd, hin⟩ ?_
  rintro n act w ⟨j, g, hj, rfl, hg, he, hd, hin⟩
  rw [cB_shape]
  refine wpIn_seq (pc_piece hC (loopsOK_of (by kernel_rfl)) (p1 l E N e (j : Int) k a b k' a' (outs e b out j)) hg he hd fun g1 a1 w1 hg1 he1 hd1 => ?_)
  simp only [Ex.out, Exit.then]
  by_cases h16 : j < 16
  · rw [decide_eq_true (show (j : Int) < 16 by omega)] at he1
    refine wpIn_seq (pc_piece hC (loopsOK_of (by kernel_rfl)) (pD l E N e (j : Int) true k a b k' a' (outs e b out j)) hg1 he1 hd1 fun g2 a2 w2 hg2 he2 hd2 => ?_)
    simp only [Ex.out, Exit.then]
    refine wpIn_seq (wpIn_block ?_)
    have hp2 : (pc E N R2 [0, 1, 2, 5, 8, 9] (e1 l e (j : Int)) (hL k a b k' a' (outs e b out j))).eval = some (.normal, e3 l e (j : Int) (e.getD j 0), hL k a b k' a' (outs e b out j)) := by
      refine (p2 l E N e (j : Int) k a b k' a' (outs e b out j)).trans ((chk_eval (inArrK64 (by omega) (by omega) (by omega)) _).trans ?_)
      rw [Int.toNat_natCast]
      rfl
    refine wpIn_seq (pc_piece hC (loopsOK_of (by kernel_rfl)) hp2 hg2 he2 hd2 fun g3 a3 w3 hg3 he3 hd3 => ?_)
    simp only [Ex.out, Exit.then]
    refine wpIn_seq (yieldR hS hg3 ho he3 hd3 hin hsm (fun hne g4 a4 w4 hg4 he4 hd4 => ?_) (fun heq g4 a4 w4 hg4 he4 hd4 => ?_))
    · simp only [Exit.then]
      rw [rec_same ho hpn] at hg4
      rw [CR_shape]
      have hv : a4.eval (.tmp 15) = .bool false := by
        have := (VRep_v (T := .bool) (x := false) (by simp)).1 (he4.2 15)
        rw [TRep_bool] at this
        exact this
      refine wpIn_cond_false hv (wpIn_skip ?_)
      simp only [Exit.inBlock, Exit.then]
      have he5 : EnvRep g4 (e1 l e (j : Int)) a4 := keepE_rep he4 [0, 1, 2, 8, 9]
      refine pc_piece hC (loopsOK_of (by kernel_rfl)) (p4 l E N e (j : Int) k a b k' a' (outs e b out (j + 1))) hg4 he5 hd4 fun g5 a5 w5 hg5 he6 hd5 => ?_
      simp only [Ex.out, Exit.then]
      have hw : Gen.w ((j : Int) + 1) = ((j + 1 : Nat) : Int) := (w_id (by omega) (by omega)).trans (by omega)
      rw [hw] at he6
      refine ⟨16 - (j + 1), by omega, j + 1, g5, by omega, rfl, hg5, he6, hd5, ?_⟩
      have hl := outs_len e b out (j + 1)
      have hl2 := outs_len e b out j
      have hne : (outs e b out (j + 1)).length ≠ b.length := hne
      omega
    · simp only [Exit.then]
      rw [CR_shape]
      have hv : a4.eval (.tmp 15) = .bool true := by
        have := (VRep_v (T := .bool) (x := true) (by simp)).1 (he4.2 15)
        rw [TRep_bool] at this
        exact this
      refine wpIn_cond_true hv (wpIn_ret ?_)
      simp only [Exit.inBlock, Exit.then]
      exact hret j h16 heq g4 a4 w4 hg4 hd4
  · have h16 : j = 16 := by omega
    subst h16
    rw [decide_eq_false (show ¬ ((16 : Nat) : Int) < 16 by omega)] at he1
    refine wpIn_seq (pc_piece hC (loopsOK_of (by kernel_rfl)) (pD l E N e ((16 : Nat) : Int) false k a b k' a' (outs e b out 16)) hg1 he1 hd1 fun g2 a2 w2 hg2 he2 hd2 => ?_)
    simp only [Ex.out, Exit.then]
    exact hend g2 a2 w2 hg2 he2 hd2 hin

end Go.Proofs.Ytlkddajnebjlcaa.Ctr

/- Counters (layer 4, ctr): what Flip ranges over, walked. -/
import Derived.Test.YtlkddajnebjlcaaL18
set_option linter.unusedVariables false
set_option maxRecDepth 100000
namespace Go.Proofs.Ytlkddajnebjlcaa.Ctr
open Go Vse Go.Proofs Gen

/-- the counter of a block, and the bytes ahead of it -/
def atB (N : Nx) (a : List Int) : Nat → List Int
  | 0 => a
  | q + 1 => N (atB N a q) 1
def outB (E : En) (N : Nx) (k a b : List Int) : Nat → List Int
  | 0 => []
  | q + 1 => outs (E k (atB N a q)) b (outB E N k a b q) 16
theorem outB_len (E : En) (N : Nx) (k a b : List Int) : ∀ q, (outB E N k a b q).length = 16 * q
  | 0 => rfl
  | q + 1 => by rw [outB, outs_len, outB_len E N k a b q]; omega

theorem outer {E : En} {N : Nx} (hC : CtxSound Try.prog (CI E N) ∧ CtxLocal (CI E N)) {g0 : G} {l r : Nat} {o : Loop} (hS : Start g0 o) (ho : o.state = .ready) (hpn : o.pending = none) {k a b k' a' : List Int} (hsm : b.length ≤ 1000000)
    {Q : Exit → Act → World → Prop}
    (hret : ∀ q j : Nat, j < 16 → (outs (E k' (atB N a' q)) b (outB E N k' a' b q) (j + 1)).length = b.length → ∀ g act w, Going g0 g (hL k a b k' (atB N a' q) (outs (E k' (atB N a' q)) b (outB E N k' a' b q) (j + 1))) w l r { o with state := .done, pending := some (.exit 0) } → act.defers = [] → Q .ret act w)
    {g : G} {act : Act} {w : World} (hg : Going g0 g (hL k a b k' a' []) w l r o) (he : EnvRep g (e0 l) act) (hd : act.defers = []) (hin : 0 < b.length) : cI.wpIn (FW none) 0 Try.prog Q act w := by
  rw [cI_shape]
  refine wpIn_block ?_
  refine wpIn_loop_ghost (fun n act w => ∃ (q : Nat) (g : G), n = b.length - 16 * q ∧ Going g0 g (hL k a b k' (atB N a' q) (outB E N k' a' b q)) w l r o ∧ EnvRep g (e0 l) act ∧ act.defers = [] ∧ 16 * q < b.length) b.length
    ⟨0, g, by omega, hg, he, hd, by omega⟩ ?_
  rintro n act w ⟨q, g, rfl, hg, he, hd, hin⟩
  have hl := outB_len E N k' a' b q
  refine wpIn_block (wpIn_seq (wpIn_seq (pc_piece hC (loopsOK_of (by kernel_rfl)) (p0 l E N k a b k' (atB N a' q) (outB E N k' a' b q)) hg he hd fun g1 a1 w1 hg1 he1 hd1 => ?_)))
  simp only [Ex.out, Exit.then]
  refine wpIn_block (inner hC hS ho hpn hsm (fun g2 a2 w2 hg2 he2 hd2 hlt => ?_) (fun j hj heq g2 a2 w2 hg2 hd2 => ?_) hg1 he1 hd1 (by omega))
  · simp only [Exit.inBlock, if_true, Exit.then]
    refine pc_piece hC (loopsOK_of (by kernel_rfl)) (p5 l E N (E k' (atB N a' q)) 16 k a b k' (atB N a' q) (outB E N k' a' b (q + 1))) hg2 he2 hd2 fun g3 a3 w3 hg3 he3 hd3 => ?_
    simp only [Ex.out, Exit.inBlock, Exit.then]
    have hl2 : (outs (E k' (atB N a' q)) b (outB E N k' a' b q) 16).length = 16 * q + 16 := by rw [outs_len, hl]
    exact ⟨b.length - 16 * (q + 1), by omega, q + 1, g3, rfl, hg3, he3, hd3, by omega⟩
  · simp only [Exit.inBlock, Exit.then]
    exact hret q j hj heq g2 a2 w2 hg2 hd2

end Go.Proofs.Ytlkddajnebjlcaa.Ctr

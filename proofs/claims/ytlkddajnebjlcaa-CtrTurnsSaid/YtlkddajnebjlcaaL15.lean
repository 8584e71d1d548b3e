/- Counters (layer 4, ctr): one byte is yielded. -/
import Derived.Test.YtlkddajnebjlcaaL14
set_option linter.unusedVariables false
set_option maxRecDepth 100000
namespace Go.Proofs.Ytlkddajnebjlcaa.Ctr
open Go Vse Go.Proofs Gen

/-- what holds of the loop as it begins -/
structure Start (g0 : G) (o : Loop) : Prop where
  ds : g0.ext.2 = []
  h0 : ∀ t, isY (g0.sh t) SL.E0[t]?
  b4 : ∃ s, g0.sh 4 = .box s
  b5 : ∃ s, g0.sh 5 = .box s
  ps : o.params = #[15]
  asg : o.assign = asgF
  bdy : o.body = bdyF
  tm : o.tmps.size = 32
  h5 : VRep g0 (.v (.ptr 2 []) ()) (o.tmps.getD 5 undef)
  h7 : VRep g0 (.v (.ptr 3 []) ()) (o.tmps.getD 7 undef)

theorem yieldR {g0 g : G} {k a b k' a' out : List Int} {w : World} {l r : Nat} {o : Loop} {e : List Int} {j x : Int} {act : Act} {Q : Exit → Act → World → Prop}
    (hS : Start g0 o) (hg : Going g0 g (hL k a b k' a' out) w l r o) (ho : o.state = .ready) (he : EnvRep g (e3 l e j x) act) (hd : act.defers = []) (hin : out.length < b.length) (hsm : b.length ≤ 1000000)
    (hmore : (out ++ [flipB x b out]).length ≠ b.length → ∀ g4 act' w', Going g0 g4 (hL k a b k' a' (out ++ [flipB x b out])) w' l r { o with state := .ready, pending := none } → EnvRep g4 (e7 l e j false) act' → act'.defers = [] → Q .normal act' w')
    (hlast : (out ++ [flipB x b out]).length = b.length → ∀ g4 act' w', Going g0 g4 (hL k a b k' a' (out ++ [flipB x b out])) w' l r { o with state := .done, pending := some (.exit 0) } → EnvRep g4 (e7 l e j true) act' → act'.defers = [] → Q .normal act' w') :
    R3.wpIn (FW none) 0 Try.prog Q act w := by
  refine yield_call hg hS.ps he hd fun g2 a2 w2 hg2 he2 hd2 => ?_
  rw [hS.asg, hS.bdy]
  have hx : inK .u8 x = true := by
    have := (VRep_v (T := u8) (x := x) (by simp)).1 (he2.2 13)
    simp only [TRep, Ty.agg, Ty.sk, Sk.agg, Bool.false_eq_true, if_false, Rep, List.cons.injEq, and_true] at this
    exact this.2
  have hc := leD_c hg2.le
  refine yield_round hg2 hS.ds ho hS.h0 (eW_rep hS.tm (VRep_monoC hc hS.h5) (VRep_monoC hc hS.h7) hx) hin hsm (fun hne g3 w' hg3 => ?_) (fun heq g3 w' hg3 => ?_)
  · exact yield_back (t := true) hg2 hg3 hS.b4 hS.b5 he2 hd2 (hmore hne)
  · exact yield_back (t := false) hg2 hg3 hS.b4 hS.b5 he2 hd2 (hlast heq)

end Go.Proofs.Ytlkddajnebjlcaa.Ctr

/- Counters (layer 4, ctr): the region that calls yield, up to the call. -/
import Derived.Test.YtlkddajnebjlcaaL9
set_option linter.unusedVariables false
set_option maxRecDepth 100000
namespace Go.Proofs.Ytlkddajnebjlcaa.Ctr
open Go Vse Go.Proofs Gen

theorem oY_guard : (oY 2).guard = none := oY2.2.1

theorem yield_call {g : G} {H : Heap} {w : World} {l r : Nat} {o : Loop} {g0 : G} {e : List Int} {j x : Int} {act : Act} {Q : Exit → Act → World → Prop}
    (hg : Going g0 g H w l r o) (hp : o.params = #[15]) (he : EnvRep g (e3 l e j x) act) (hd : act.defers = [])
    (hround : ∀ g2 a2 w2, Going g0 g2 H w2 l r o → EnvRep g2 (e5 l e j x) a2 → a2.defers = [] →
      RoundIn (FW none) 0 Try.prog l o.fn (o.tmps.setIfInBounds 15 (.int .u8 x)) o.assign o.body w2 fun
        | .returned v, w'' => wpListIn (FW none) 0 Try.prog (opsOf R3) Q [oY 3] (a2.put (oY 2).dst v) w''
        | .panicked chain, w'' => Q (.panic chain) a2 w''
        | .outgrown, _ => LetsOut Q) :
    R3.wpIn (FW none) 0 Try.prog Q act w := by
  rw [R3_shape.1]
  refine wpIn_region_list ?_
  rw [R3_shape.2]
  obtain ⟨st1, t1, t2⟩ := Tr.bind_some (s0 l e j x H)
  refine stepT_sound nil_sound.1 (g := g.lenl l r o) (st := ⟨e3 l e j x, H⟩) ⟨he.c hg.c, hg.inv, by show act.defers = g.ext.2; rw [hd, hg.ds]⟩ t1 fun g1 a1 w1 le1 hs1 => ?_
  refine stepT_sound nil_sound.1 hs1 t2 fun g2 a2 w2 le2 hs2 => ?_
  have hle := le1.trans le2
  have hgr : g2.gr = (g.lenl l r o).gr := hle.gr
  have hext : g2.ext = g.ext := hle.ext
  let g' : G := { g2 with gr := g.gr }
  have hg' : g'.lenl l r o = g2 := by
    cases g2
    simp only [G.lenl, g'] at hgr ⊢
    simp only [hgr]
  have hD : g.leD g' := ⟨hle.fr, rfl, by show g2.ext.1 = g.ext.1; rw [hext], fun e => by
    cases hle.ent e with
    | same a b c => exact .same a b c
    | dead a => exact .dead a
    | grew a b c => exact .grew a b c
    | new a => exact .new a⟩
  have hg2 : Going g0 g' H w2 l r o := ⟨hg.le.trans hD, by show g2.ext.2 = []; rw [hext]; exact hg.ds, by rw [hg']; exact hs2.heap, hg.new⟩
  have he2 : EnvRep g' (e5 l e j x) a2 := by
    have := lenl_c g' l r o
    rw [hg'] at this
    exact hs2.env.c this
  have hd2 : a2.defers = [] := by rw [hs2.defers, hext]; exact hg.ds
  have h12 : a2.eval (.tmp 12) = .func (.yield l) #[] #[] := by
    have := he2.2 12
    have := (VRep_v (T := .it l) (x := ()) (by simp)).1 this
    have q : a2.tmps.getD 12 undef = .func (.yield l) #[] #[] := by simpa only [TRep, Ty.agg, Ty.sk, Sk.agg, Bool.false_eq_true, if_false, Rep, List.cons.injEq, and_true] using this
    exact q
  have h13 : a2.eval (.tmp 13) = .int .u8 x := by
    have := he2.2 13
    have := (VRep_v (T := u8) (x := x) (by simp)).1 this
    simp only [TRep, Ty.agg, Ty.sk, Sk.agg, Bool.false_eq_true, if_false, Rep, List.cons.injEq, and_true] at this
    exact this.1
  unfold wpListIn
  rw [if_pos (by simp [Region.wanted, oY_guard])]
  refine ⟨fun _ _ => trivial, ?_⟩
  rw [Oper.semAt_eq _ _ _ (by rw [oY2.1]; intro c h; cases h), exec_yield h12 h13 hg2.row hp, Oper.uponIn_round]
  exact ⟨fun h => absurd h (by simp [Fence.wide]), hround g' a2 w2 hg2 he2 hd2⟩

end Go.Proofs.Ytlkddajnebjlcaa.Ctr

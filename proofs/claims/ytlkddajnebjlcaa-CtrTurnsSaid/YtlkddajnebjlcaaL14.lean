/- Counters (layer 4, ctr): the region that calls yield, whole. -/
import Derived.Test.YtlkddajnebjlcaaL13
set_option linter.unusedVariables false
set_option maxRecDepth 100000
namespace Go.Proofs.Ytlkddajnebjlcaa.Ctr
open Go Vse Go.Proofs Gen

theorem leD_c {g g' : G} (h : g.leD g') : g.leC g' := ⟨fun b _ _ _ => h.fr b _, fun b _ _ _ hb => by rw [h.gr]; exact hb, h.ent⟩
theorem going_box {g0 g : G} {k a b k' a' out : List Int} {w : World} {l r : Nat} {o : Loop} (h : Going g0 g (hL k a b k' a' out) w l r o) : (∃ s, g.sh 4 = .box s) ∧ ∃ s, g.sh 5 = .box s := by
  have h4 := h.inv.sh 4
  have h5 := h.inv.sh 5
  exact ⟨⟨_, h4⟩, ⟨_, h5⟩⟩

/-- behind a round: yield's answer, and what is not -/
theorem yield_back {g0 g2 g3 : G} {k a b k' a' out out' : List Int} {w2 w3 : World} {l r : Nat} {o o' : Loop} {e : List Int} {j x : Int} {a2 : Act} {t : Bool} {Q : Exit → Act → World → Prop}
    (hg2 : Going g0 g2 (hL k a b k' a' out) w2 l r o) (hg3 : Going g0 g3 (hL k a b k' a' out') w3 l r o') (b4 : ∃ s, g0.sh 4 = .box s) (b5 : ∃ s, g0.sh 5 = .box s)
    (he2 : EnvRep g2 (e5 l e j x) a2) (hd2 : a2.defers = [])
    (hn : ∀ g4 act' w', Going g0 g4 (hL k a b k' a' out') w' l r o' → EnvRep g4 (e7 l e j (!t)) act' → act'.defers = [] → Q .normal act' w') :
    wpListIn (FW none) 0 Try.prog (opsOf R3) Q [oY 3] (a2.put (oY 2).dst (.bool t)) w3 := by
  obtain ⟨⟨s4, q4⟩, ⟨s5, q5⟩⟩ := going_box hg2
  obtain ⟨⟨u4, v4⟩, ⟨u5, v5⟩⟩ := going_box hg3
  obtain ⟨z4, y4⟩ := b4
  obtain ⟨z5, y5⟩ := b5
  have h1 : EnvRep g2 (e1 l e j) a2 := keepE_rep he2 [0, 1, 2, 8, 9]
  have h3 : EnvRep g3 (e1 l e j) a2 := e1_move h1 (ptr_move hg2.le hg3.le y4 q4 v4 (h1.2 1)) (ptr_move hg2.le hg3.le y5 q5 v5 (h1.2 2))
  have h6 : EnvRep g3 (e6 l e j t) (a2.put (some 14) (.bool t)) := h3.put (some 14) (v := .v .bool t) ((VRep_v (by simp)).2 (TRep_bool.2 rfl))
  rw [oY2.2.2]
  obtain ⟨st, t1, t2⟩ := Tr.bind_some (s3 l e j t (hL k a b k' a' out'))
  have t2 := Tr.ret_some t2
  simp only [Prod.mk.injEq] at t2
  obtain ⟨k1, k2⟩ := t2
  refine stepT_sound nil_sound.1 (g := g3.lenl l r o') (st := ⟨e6 l e j t, hL k a b k' a' out'⟩) ⟨h6.c hg3.c, hg3.inv, by show (a2.put (some 14) (.bool t)).defers = g3.ext.2; rw [put_defers, hd2, hg3.ds]⟩ t1 fun g4 a4 w4 le4 hs4 => ?_
  have hgr : g4.gr = (g3.lenl l r o').gr := le4.gr
  have hext : g4.ext = g3.ext := le4.ext
  let g' : G := { g4 with gr := g3.gr }
  have hg' : g'.lenl l r o' = g4 := by
    cases g4
    simp only [G.lenl, g'] at hgr ⊢
    simp only [hgr]
  have hD : g3.leD g' := ⟨le4.fr, rfl, by show g4.ext.1 = g3.ext.1; rw [hext], fun e => by
    cases le4.ent e with
    | same a b c => exact .same a b c
    | dead a => exact .dead a
    | grew a b c => exact .grew a b c
    | new a => exact .new a⟩
  refine hn g' a4 w4 ⟨hg3.le.trans hD, by show g4.ext.2 = []; rw [hext]; exact hg3.ds, by rw [hg', ← k2]; exact hs4.heap, hg3.new⟩ ?_ (by rw [hs4.defers, hext]; exact hg3.ds)
  have := lenl_c g' l r o'
  rw [hg'] at this
  rw [← k1]
  exact keepE_rep (hs4.env.c this) _

end Go.Proofs.Ytlkddajnebjlcaa.Ctr

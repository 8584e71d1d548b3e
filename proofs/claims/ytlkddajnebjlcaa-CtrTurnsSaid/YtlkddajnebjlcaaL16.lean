/- Counters (layer 4, ctr): the iterator's pieces, while the loop goes on. -/
import Derived.Test.YtlkddajnebjlcaaL15
set_option linter.unusedVariables false
set_option maxRecDepth 100000
namespace Go.Proofs.Ytlkddajnebjlcaa.Ctr
open Go Vse Go.Proofs Gen

theorem pc_piece {E : En} {N : Nx} (hC : CtxSound Try.prog (CI E N) ∧ CtxLocal (CI E N)) {c : Code} (hl : LoopsOK Try.prog L0 c) {live : List Nat} {env env' : List AV} {H H' : Heap} {x : Ex} (hp : (pc E N c live env H).eval = some (x, env', H'))
    {g0 g : G} {w : World} {l r : Nat} {o : Loop} {a : Act} {Q : Exit → Act → World → Prop} (hg : Going g0 g H w l r o) (he : EnvRep g env a) (hd : a.defers = [])
    (hn : ∀ g' a' w', Going g0 g' H' w' l r o → EnvRep g' env' a' → a'.defers = [] → Q x.out a' w') : c.wpIn (FW none) 0 Try.prog Q a w := by
  obtain ⟨⟨y, st⟩, q1, q2⟩ := Tr.bind_some hp
  have q2 := Tr.ret_some q2
  simp only [Prod.mk.injEq] at q2
  obtain ⟨rfl, q3, rfl⟩ := q2
  refine Going.piece hC hl hg he hd q1 fun g' a' w' hg' hD he' hd' => hn g' a' w' hg' ?_ hd'
  rw [← q3]
  exact keepE_rep he' live

end Go.Proofs.Ytlkddajnebjlcaa.Ctr

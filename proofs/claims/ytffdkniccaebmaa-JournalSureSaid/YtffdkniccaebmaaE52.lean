/- Loops that are simply run, whatever they make. Nothing here is about one program. -/
import Derived.Test.YtffdkniccaebmaaE50
set_option linter.unusedVariables false
namespace Vse
open Go Go.ChangeShapes

/-- the loop's rounds, at most so many; all that is made stays -/
def unrollK (body : St → Tr (Ex × St)) : Nat → St → Tr (Ex × St)
  | 0, _ => .fail
  | n + 1, st => (body st).bind fun r => match r.1 with
    | .normal => unrollK body n r.2
    | x => .ret (x, r.2)

section
variable {P : Program} {C : Ctx} {L : Loops}

theorem unrollK_sound {rd : Option Nat} (hC : CtxSound P C ∧ CtxLocal C) {c : Code} (hl : LoopsOK P L c) {n : Nat} {g : G} {st st' : St} {a : Act} {w : World} {x : Ex} {Q : Exit → Act → World → Prop}
    (hs : SRep g st a w) (he : (unrollK (bodyK P C L c) n st).eval = some (x, st')) (hn : ∀ g' a' w', g.le g' → SRep g' st' a' w' → Q x.out a' w') :
    (Code.loop c).wpIn (FW rd) 0 P Q a w := by
  refine wpIn_loop_ghost (fun m a w => ∃ g1 s, g.le g1 ∧ SRep g1 s a w ∧ (unrollK (bodyK P C L c) m s).eval = some (x, st')) n ⟨g, st, G.le.refl g, hs, he⟩ ?_
  rintro m a w ⟨g1, s, hle, hs1, he1⟩
  cases m with
  | zero => exact (Tr.fail_some he1).elim
  | succ m =>
    obtain ⟨r, h1, h2⟩ := Tr.bind_some he1
    obtain ⟨y, s2⟩ := r
    refine code_sound hC.1 hC.2 c hl hs1 (bodyK_ok h1) ?_
    intro g2 a' w' hle2 hs2
    simp only at h2
    cases y with
    | normal => exact ⟨m, Nat.lt_succ_self m, g2, _, hle.trans hle2, hs2, h2⟩
    | exit i =>
      have := Tr.ret_some h2
      simp only [Prod.mk.injEq] at this
      obtain ⟨rfl, rfl⟩ := this
      exact hn _ _ _ (hle.trans hle2) hs2
    | ret =>
      have := Tr.ret_some h2
      simp only [Prod.mk.injEq] at this
      obtain ⟨rfl, rfl⟩ := this
      exact hn _ _ _ (hle.trans hle2) hs2

/-- a loop that is simply run -/
def runLoopK (P : Program) (C : Ctx) (L : Loops) (n : Nat) (c : Code) (st : St) : Tr (Ex × St) := unrollK (bodyK P C L c) n st

theorem runLoopK_ok {L' : Loops} (hC : CtxSound P C ∧ CtxLocal C) {c : Code} (hl : LoopsOK P L' c) {i n : Nat} (hi : firstReg c = some i) (hL : ∀ st, L i st = runLoopK P C L' n c st) : LoopOK P L c := by
  intro j hj rd g st a w x st' Q hs he hn
  rw [hi] at hj
  cases hj
  rw [hL] at he
  exact unrollK_sound hC hl hs he hn
end
end Vse

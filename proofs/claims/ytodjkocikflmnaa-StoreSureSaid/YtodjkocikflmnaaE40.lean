/- A function that has two kinds of results. Nothing here is about one program. -/
import Derived.Test.YtodjkocikflmnaaE39
set_option linter.unusedVariables false
namespace Vse
open Go Go.ChangeShapes

/-- one of two summaries, as what comes in tells -/
def CSpec.two (sel : List AV → List Entry → Option Bool) (c d : CSpec) : CSpec :=
  ⟨max c.new d.new, c.ids, c.wr, fun vs es fr => match sel vs es with
    | some b => .ite b (c.core vs es fr) (d.core vs es fr)
    | none => .fail⟩

theorem freeAt_less {H : Heap} : ∀ {n m fr : Nat}, m ≤ n → freeAt H fr n = true → freeAt H fr m = true
  | _, 0, _, _, _ => rfl
  | 0, m + 1, _, h, _ => by omega
  | n + 1, m + 1, fr, h, hf => by
    simp only [freeAt, Bool.and_eq_true] at hf ⊢
    exact ⟨hf.1, freeAt_less (by omega) hf.2⟩

theorem two_sound {P : Program} {k : Nat} {c d : CSpec} (sel : List AV → List Entry → Option Bool) (hi : c.ids = d.ids) (hw : c.wr = d.wr) (hc : CSound P k c ∧ CLocal c) (hd : CSound P k d ∧ CLocal d) : CSound P k (CSpec.two sel c d) ∧ CLocal (CSpec.two sel c d) := by
  refine ⟨⟨hc.1.enter, ?_⟩, ⟨hc.2.same, ?_⟩⟩
  · intro g H w vs rvs fr out hI ha hf he
    simp only [CSpec.two] at he hf
    split at he
    · rename_i b _
      rcases Tr.ite_some he with ⟨_, he⟩ | ⟨_, he⟩
      · exact hc.1.calls g H w vs rvs fr out hI ha (freeAt_less (Nat.le_max_left _ _) hf) he
      · rw [hi] at he
        exact hd.1.calls g H w vs rvs fr out hI ha (freeAt_less (Nat.le_max_right _ _) hf) he
    · exact (Tr.fail_some he).elim
  · intro vs H fr out he x hx
    simp only [CSpec.two] at he ⊢
    split at he
    · rename_i b _
      rcases Tr.ite_some he with ⟨_, he⟩ | ⟨_, he⟩
      · rcases hc.2.turns vs H fr out he x hx with h | h
        · exact .inl h
        · exact .inr ⟨h.1, Nat.lt_of_lt_of_le h.2 (Nat.add_le_add_left (Nat.le_max_left _ _) _)⟩
      · rw [hi] at he
        rcases hd.2.turns vs H fr out he x hx with h | h
        · rw [hw]; exact .inl h
        · exact .inr ⟨h.1, Nat.lt_of_lt_of_le h.2 (Nat.add_le_add_left (Nat.le_max_right _ _) _)⟩
    · exact (Tr.fail_some he).elim

/-- ..by what comes in, as data -/
def posSel (S : PSpec) (sel : HL S.As → HD S.Es → Bool) (vs : List AV) (es : List Entry) : Option Bool :=
  let le := lendVs S.As vs
  let ids0 := reachE 5 (es.drop le.length) (rootVs S.As vs)
  match convArgs (rnIn S (dedupN ids0) (putE ids0 (es.drop le.length)) (putE le (es.take le.length))) S.As vs with
  | some xs => match decC (rnIn S (dedupN ids0) (putE ids0 (es.drop le.length)) fun _ => .dead) S.Es ((dedupN ids0).map (putE ids0 (es.drop le.length))) with
    | some hs => some (sel xs hs)
    | none => none
  | none => none

end Vse

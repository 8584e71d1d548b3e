/- A function with two kinds of arguments. Nothing here is about one program. -/
import Derived.Test.YtffdkniccaebmaaM5
set_option linter.unusedVariables false
namespace Vse
open Go Go.ChangeShapes

/-- one of two summaries, as the arguments' kinds tell -/
def CSpec.kin (sel : List AV → Bool) (c d : CSpec) : CSpec :=
  ⟨max c.new d.new, fun vs H => match sel vs with | true => c.ids vs H | false => d.ids vs H, fun vs H => match sel vs with | true => c.wr vs H | false => d.wr vs H,
    fun vs es fr => match sel vs with | true => c.core vs es fr | false => d.core vs es fr⟩

theorem kin_sound {P : Program} {k : Nat} {c d : CSpec} (sel : List AV → Bool) (hc : CSound P k c ∧ CLocal c) (hd : CSound P k d ∧ CLocal d) : CSound P k (CSpec.kin sel c d) ∧ CLocal (CSpec.kin sel c d) := by
  refine ⟨⟨hc.1.enter, ?_⟩, ⟨fun vs H H' h => ?_, ?_⟩⟩
  · intro g H w vs rvs fr out hI ha hf he
    simp only [CSpec.kin] at he hf
    cases hs : sel vs with
    | true => rw [hs] at he; exact hc.1.calls g H w vs rvs fr out hI ha (freeAt_less (Nat.le_max_left _ _) hf) he
    | false => rw [hs] at he; exact hd.1.calls g H w vs rvs fr out hI ha (freeAt_less (Nat.le_max_right _ _) hf) he
  · simp only [CSpec.kin] at h ⊢
    cases hs : sel vs with
    | true => rw [hs] at h; exact hc.2.same vs H H' h
    | false => rw [hs] at h; exact hd.2.same vs H H' h
  · intro vs H fr out he x hx
    simp only [CSpec.kin] at he ⊢
    cases hs : sel vs with
    | true =>
      rw [hs] at he
      rcases hc.2.turns vs H fr out he x hx with h | h
      · exact .inl h
      · exact .inr ⟨h.1, Nat.lt_of_lt_of_le h.2 (Nat.add_le_add_left (Nat.le_max_left _ _) _)⟩
    | false =>
      rw [hs] at he
      rcases hd.2.turns vs H fr out he x hx with h | h
      · exact .inl h
      · exact .inr ⟨h.1, Nat.lt_of_lt_of_le h.2 (Nat.add_le_add_left (Nat.le_max_right _ _) _)⟩

/-- is the first argument nil? -/
def nil1 : List AV → Bool
  | .v .nilp _ :: _ => true
  | _ => false
end Vse

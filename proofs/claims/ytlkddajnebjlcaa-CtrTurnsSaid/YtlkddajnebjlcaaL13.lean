/- Counters (layer 4, ctr): Flip's slots in a round. -/
import Derived.Test.YtlkddajnebjlcaaL12
set_option linter.unusedVariables false
set_option maxRecDepth 100000
namespace Go.Proofs.Ytlkddajnebjlcaa.Ctr
open Go Vse Go.Proofs Gen

def eW (x : Int) : List AV := (encS [5, 7, 15] [.ptr 2 [], .ptr 3 [], u8] [] 32 ((), (), x, ()) ()).env
theorem eW_enc (x : Int) (hs : HD SL.Es) : (SL.enc ((), (), x, ()) hs).env = eW x := rfl

/-- a round's slots: two variables, and the byte that was yielded -/
theorem eW_rep {g : G} {tm : Array Value} {x : Int} (hn : tm.size = 32) (h5 : VRep g (.v (.ptr 2 []) ()) (tm.getD 5 undef)) (h7 : VRep g (.v (.ptr 3 []) ()) (tm.getD 7 undef)) (hx : inK .u8 x = true) :
    EnvRep g (eW x) { tmps := tm.setIfInBounds 15 (.int .u8 x), defers := [] } := by
  have hget : ∀ i, i ≠ 15 → (tm.setIfInBounds 15 (.int .u8 x)).getD i undef = tm.getD i undef := fun i hi => by
    simp only [Array.getD_eq_getD_getElem?]
    rw [Array.getElem?_setIfInBounds_ne (Ne.symm hi)]
  have h15 : (tm.setIfInBounds 15 (.int .u8 x)).getD 15 undef = .int .u8 x := by
    simp only [Array.getD_eq_getD_getElem?]
    rw [Array.getElem?_setIfInBounds_self_of_lt (by omega)]
    rfl
  refine ⟨by show 32 = (tm.setIfInBounds 15 _).size; rw [Array.size_setIfInBounds, hn], fun i => ?_⟩
  show VRep g (getV (eW x) i) ((tm.setIfInBounds 15 (.int .u8 x)).getD i undef)
  by_cases e5 : i = 5
  · subst e5; rw [hget 5 (by omega)]; exact h5
  by_cases e7 : i = 7
  · subst e7; rw [hget 7 (by omega)]; exact h7
  by_cases e15 : i = 15
  · subst e15
    rw [h15]
    show VRep g (.v u8 x) _
    refine (VRep_v (T := u8) (x := x) (by simp)).2 ?_
    simp only [TRep, Ty.agg, Ty.sk, Sk.agg, Bool.false_eq_true, if_false, Rep]
    exact ⟨trivial, hx⟩
  by_cases hi : i < 32
  · have key : ∀ i : Fin 32, i.1 ≠ 5 → i.1 ≠ 7 → i.1 ≠ 15 → getV (eW x) i.1 = AV.und := by
      intro i h1 h2 h3
      match i, h1, h2, h3 with
      | ⟨0, _⟩, _, _, _ => exact rfl
      | ⟨1, _⟩, _, _, _ => exact rfl
      | ⟨2, _⟩, _, _, _ => exact rfl
      | ⟨3, _⟩, _, _, _ => exact rfl
      | ⟨4, _⟩, _, _, _ => exact rfl
      | ⟨5, _⟩, h, _, _ => exact absurd rfl h
      | ⟨6, _⟩, _, _, _ => exact rfl
      | ⟨7, _⟩, _, h, _ => exact absurd rfl h
      | ⟨8, _⟩, _, _, _ => exact rfl
      | ⟨9, _⟩, _, _, _ => exact rfl
      | ⟨10, _⟩, _, _, _ => exact rfl
      | ⟨11, _⟩, _, _, _ => exact rfl
      | ⟨12, _⟩, _, _, _ => exact rfl
      | ⟨13, _⟩, _, _, _ => exact rfl
      | ⟨14, _⟩, _, _, _ => exact rfl
      | ⟨15, _⟩, _, _, h => exact absurd rfl h
      | ⟨16, _⟩, _, _, _ => exact rfl
      | ⟨17, _⟩, _, _, _ => exact rfl
      | ⟨18, _⟩, _, _, _ => exact rfl
      | ⟨19, _⟩, _, _, _ => exact rfl
      | ⟨20, _⟩, _, _, _ => exact rfl
      | ⟨21, _⟩, _, _, _ => exact rfl
      | ⟨22, _⟩, _, _, _ => exact rfl
      | ⟨23, _⟩, _, _, _ => exact rfl
      | ⟨24, _⟩, _, _, _ => exact rfl
      | ⟨25, _⟩, _, _, _ => exact rfl
      | ⟨26, _⟩, _, _, _ => exact rfl
      | ⟨27, _⟩, _, _, _ => exact rfl
      | ⟨28, _⟩, _, _, _ => exact rfl
      | ⟨29, _⟩, _, _, _ => exact rfl
      | ⟨30, _⟩, _, _, _ => exact rfl
      | ⟨31, _⟩, _, _, _ => exact rfl
      | ⟨n + 32, h⟩, _, _, _ => exact absurd h (by omega)
    rw [key ⟨i, hi⟩ e5 e7 e15]
    trivial
  · have key : ∀ (l : List AV) (i : Nat), l.length ≤ i → getV l i = AV.none := by
      intro l
      induction l with
      | nil => intro i _; rfl
      | cons a l ih =>
        intro i h
        cases i with
        | zero => simp at h
        | succ i => exact ih i (by simpa using h)
    rw [key _ _ (show 32 ≤ i by omega), hget i e15, Array.getD_eq_getD_getElem?, Array.getElem?_eq_none (by omega)]
    exact ⟨#[], rfl, rfl⟩

end Go.Proofs.Ytlkddajnebjlcaa.Ctr

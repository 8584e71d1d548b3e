/- Counters (layer 4, ctr): the iterator's slots under other memory. -/
import Derived.Test.YtlkddajnebjlcaaL6
set_option linter.unusedVariables false
set_option maxRecDepth 100000
namespace Go.Proofs.Ytlkddajnebjlcaa.Ctr
open Go Vse Go.Proofs Gen

theorem plain16 {g g' : G} {e : List Int} {v : Value} (h : VRep g (.v w16 e) v) : VRep g' (.v w16 e) v := h
theorem plainI {g g' : G} {j : Int} {v : Value} (h : VRep g (.v i64 j) v) : VRep g' (.v i64 j) v := h
theorem plainY {g g' : G} {l : Nat} {v : Value} (h : VRep g (.v (.it l) ()) v) : VRep g' (.v (.it l) ()) v := h

theorem e1_move {g g3 : G} {l : Nat} {e : List Int} {j : Int} {a : Act} (he : EnvRep g (e1 l e j) a) (h1 : VRep g3 (.v (.ptr 4 []) ()) (a.tmps.getD 1 undef)) (h2 : VRep g3 (.v (.ptr 5 []) ()) (a.tmps.getD 2 undef)) : EnvRep g3 (e1 l e j) a := by
  refine ⟨he.1, fun i => ?_⟩
  have hi := he.2 i
  match i, hi with
  | 0, hi => exact plainY hi
  | 1, _ => exact h1
  | 2, _ => exact h2
  | 3, _ => exact trivial
  | 4, _ => exact trivial
  | 5, _ => exact trivial
  | 6, _ => exact trivial
  | 7, _ => exact trivial
  | 8, hi => exact plain16 hi
  | 9, hi => exact plainI hi
  | 10, _ => exact trivial
  | 11, _ => exact trivial
  | 12, _ => exact trivial
  | 13, _ => exact trivial
  | 14, _ => exact trivial
  | 15, _ => exact trivial
  | 16, _ => exact trivial
  | 17, _ => exact trivial
  | 18, _ => exact trivial
  | n + 19, hi => exact hi

end Go.Proofs.Ytlkddajnebjlcaa.Ctr

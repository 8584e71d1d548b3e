/- Counters (layer 4, ctr): the inner loop: the bytes of a block are yielded. -/
import Derived.Test.YtlkddajnebjlcaaL16
set_option linter.unusedVariables false
set_option maxRecDepth 100000
namespace Go.Proofs.Ytlkddajnebjlcaa.Ctr
open Go Vse Go.Proofs Gen

/-- the bytes behind so many of a block's -/
def outs (e b out : List Int) : Nat → List Int
  | 0 => out
  | n + 1 => outs e b out n ++ [flipB (e.getD n 0) b (outs e b out n)]
theorem outs_len (e b out : List Int) : ∀ n, (outs e b out n).length = out.length + n
  | 0 => rfl
  | n + 1 => by rw [outs, List.length_append, outs_len e b out n, List.length_singleton]; omega

theorem rec_same {o : Loop} (h1 : o.state = .ready) (h2 : o.pending = none) : { o with state := .ready, pending := none } = o := by
  cases o
  simp only at h1 h2
  subst h1; subst h2
  rfl

end Go.Proofs.Ytlkddajnebjlcaa.Ctr

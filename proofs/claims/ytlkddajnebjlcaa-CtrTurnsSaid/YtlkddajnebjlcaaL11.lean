/- Counters (layer 4, ctr): a round of Flip's loop. -/
import Derived.Test.YtlkddajnebjlcaaL10
set_option linter.unusedVariables false
set_option maxRecDepth 100000
namespace Go.Proofs.Ytlkddajnebjlcaa.Ctr
open Go Vse Go.Proofs Gen

theorem asg_normal (x : Int) (k a b k' a' out : List Int) : ((run Try.prog (ctx []) L0 asgF (SL.enc ((), (), x, ()) (k, a, b, (), k', a', out, ()))).bind fun r => .ret r.1).eval = some .normal := by kernel_rfl

theorem round_of {x : Int} {k a b k' a' out : List Int} {d : SL.End} (h : (SL.round bodyL ((), (), x, ()) (k, a, b, (), k', a', out, ())).eval = some d) :
    ∃ st1 y st2, (run Try.prog (ctx []) L0 asgF (SL.enc ((), (), x, ()) (k, a, b, (), k', a', out, ()))).eval = some (.normal, st1) ∧ (run Try.prog (ctx []) L0 bdyF st1).eval = some (y, st2) ∧
      (match y with
        | .normal => ∃ dd, renTo SL.E0 SL.inis SL.live SL.Ts SL.Es SL.nt st2 = some dd ∧ d = .inl dd
        | y => ∃ st, SL.outSt y st2 = some st ∧ d = .inr (y, st)) := by
  obtain ⟨r1, q1, q2⟩ := Tr.bind_some (asg_normal x k a b k' a' out)
  have q2 := Tr.ret_some q2
  unfold RSpec.round at h
  obtain ⟨r, h1, h2⟩ := Tr.bind_some h
  unfold bodyL at h1
  obtain ⟨r2, h3, h4⟩ := Tr.bind_some h1
  rw [q1] at h3
  simp only [Option.some.injEq] at h3
  subst h3
  obtain ⟨y1, st1⟩ := r1
  simp only at q2
  subst q2
  obtain ⟨y, st2⟩ := r
  refine ⟨st1, y, st2, q1, h4, ?_⟩
  cases y with
  | normal =>
    simp only at h2
    split at h2
    · rename_i dd hdd
      exact ⟨dd, hdd, (Tr.ret_some h2).symm⟩
    · exact (Tr.fail_some h2).elim
  | exit i =>
    simp only at h2
    split at h2
    · rename_i st hst
      exact ⟨st, hst, (Tr.ret_some h2).symm⟩
    · exact (Tr.fail_some h2).elim
  | ret =>
    simp only at h2
    split at h2
    · rename_i st hst
      exact ⟨st, hst, (Tr.ret_some h2).symm⟩
    · exact (Tr.fail_some h2).elim

end Go.Proofs.Ytlkddajnebjlcaa.Ctr

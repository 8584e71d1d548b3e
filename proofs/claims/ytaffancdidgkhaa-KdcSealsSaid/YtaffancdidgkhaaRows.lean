/-
  No cell of these rows narrows 'for every input' (looked for: loops, veiled, ifaces, maps, wideKeys, modest, calm, conditions, laid).
  DERIVED. THE GIVEN ROWS OF THIS SEAT. 7 by the template 'for every input the law returns true; each argument reads behind the call as it read before'; 0 by the template 'total and deterministic' (their statements: YtaffancdidgkhaaTotals.lean).
  GIVEN WITH THE SEED: the statements are not yours to turn. If you find one false, say at which input.
  Laid BY PROGRAM, IN A SANDBOX (cutbox-rows.mjs): the forced cells as the released guide's own fill.sh prints them over the translation a1125a656923895c… (all of the seat's roots in one cut). By AI agents, Wed Nov 11 2026. No macro, syntax, notation, axiom, sorry.
-/
import Derived.Test.YtaffancdidgkhaaChecked
import GoSem.Claim
import GoSem.ClaimJoined
import GoSem.ClaimMapViews
import Derived.JoinedTies
import Derived.KernelRfl
namespace Go.Proofs.Ytaffancdidgkhaa
/- THE CELL 'sum', in the pinned program and in every row, IS THE sha256 OF THE DUMP (.gsa) THAT YtaffancdidgkhaaProg.lean LOADS. Nothing in Lean hashes anything: it is a label: what it is worth is what the hold of that sum in a sandbox is worth. -/
noncomputable def Try.pinned : Pinned := { name := "ytaffancdidgkhaa", sum := "a1125a656923895c98b2f0de12933b12b71760e1030a822031eb8c850d85b76a", checked := Try.checked }
namespace Rows
def none {H : Type} : Left H := { results := [], args := [] }

/-- 'bartizanlaw16.KdcAnswers': WHATEVER THE INPUT: true; the input reads as it did. -/
def kdcAnswersSpec : ChangeSpec := { name := "kdcAnswers", fn := fun _ => fun
  | [d1, d2, d3] => { results := [.lit (.bool true)], args := [d1, d2, d3] }
  | _ => none }
def kdcAnswersRow : OpenClaim := { program := "ytaffancdidgkhaa", sum := "a1125a656923895c98b2f0de12933b12b71760e1030a822031eb8c850d85b76a", func := "bartizan/bartizanlaw16.KdcAnswers", spec := "kdcAnswers", unfollowed := true, recurses := true, plainKeys := false, apart := false }
def KdcAnswersSaid : Prop := kdcAnswersRow.holds Try.pinned (OpenSpec.ofChange kdcAnswersSpec)

/-- ITS FALSE NEIGHBOUR: 'it returns false'. Refute it at one input. -/
def kdcAnswersWrong : ChangeSpec := { name := "kdcAnswers", fn := fun _ => fun
  | [d1, d2, d3] => { results := [.lit (.bool false)], args := [d1, d2, d3] }
  | _ => none }
def KdcAnswersWrongFalsely : Prop := kdcAnswersRow.holds Try.pinned (OpenSpec.ofChange kdcAnswersWrong)

/-- 'bartizanlaw16.KdcSeals': WHATEVER THE INPUT: true; the input reads as it did. -/
def kdcSealsSpec : ChangeSpec := { name := "kdcSeals", fn := fun _ => fun
  | [d1, d2, d3] => { results := [.lit (.bool true)], args := [d1, d2, d3] }
  | _ => none }
def kdcSealsRow : OpenClaim := { program := "ytaffancdidgkhaa", sum := "a1125a656923895c98b2f0de12933b12b71760e1030a822031eb8c850d85b76a", func := "bartizan/bartizanlaw16.KdcSeals", spec := "kdcSeals", unfollowed := true, recurses := true, plainKeys := false, apart := false }
def KdcSealsSaid : Prop := kdcSealsRow.holds Try.pinned (OpenSpec.ofChange kdcSealsSpec)

/-- ITS FALSE NEIGHBOUR: 'it returns false'. Refute it at one input. -/
def kdcSealsWrong : ChangeSpec := { name := "kdcSeals", fn := fun _ => fun
  | [d1, d2, d3] => { results := [.lit (.bool false)], args := [d1, d2, d3] }
  | _ => none }
def KdcSealsWrongFalsely : Prop := kdcSealsRow.holds Try.pinned (OpenSpec.ofChange kdcSealsWrong)

/-- 'bartizanlaw17.GuestOnce': WHATEVER THE INPUT: true; the input reads as it did. -/
def guestOnceSpec : ChangeSpec := { name := "guestOnce", fn := fun _ => fun
  | [d1, d2, d3] => { results := [.lit (.bool true)], args := [d1, d2, d3] }
  | _ => none }
def guestOnceRow : OpenClaim := { program := "ytaffancdidgkhaa", sum := "a1125a656923895c98b2f0de12933b12b71760e1030a822031eb8c850d85b76a", func := "bartizan/bartizanlaw17.GuestOnce", spec := "guestOnce", unfollowed := true, recurses := true, plainKeys := false, apart := false }
def GuestOnceSaid : Prop := guestOnceRow.holds Try.pinned (OpenSpec.ofChange guestOnceSpec)

/-- ITS FALSE NEIGHBOUR: 'it returns false'. Refute it at one input. -/
def guestOnceWrong : ChangeSpec := { name := "guestOnce", fn := fun _ => fun
  | [d1, d2, d3] => { results := [.lit (.bool false)], args := [d1, d2, d3] }
  | _ => none }
def GuestOnceWrongFalsely : Prop := guestOnceRow.holds Try.pinned (OpenSpec.ofChange guestOnceWrong)

/-- 'bartizanlaw16.KdcBoth': WHATEVER THE INPUT: true; the input reads as it did. -/
def kdcBothSpec : ChangeSpec := { name := "kdcBoth", fn := fun _ => fun
  | [d1, d2, d3] => { results := [.lit (.bool true)], args := [d1, d2, d3] }
  | _ => none }
def kdcBothRow : OpenClaim := { program := "ytaffancdidgkhaa", sum := "a1125a656923895c98b2f0de12933b12b71760e1030a822031eb8c850d85b76a", func := "bartizan/bartizanlaw16.KdcBoth", spec := "kdcBoth", unfollowed := true, recurses := true, plainKeys := false, apart := false }
def KdcBothSaid : Prop := kdcBothRow.holds Try.pinned (OpenSpec.ofChange kdcBothSpec)

/-- ITS FALSE NEIGHBOUR: 'it returns false'. Refute it at one input. -/
def kdcBothWrong : ChangeSpec := { name := "kdcBoth", fn := fun _ => fun
  | [d1, d2, d3] => { results := [.lit (.bool false)], args := [d1, d2, d3] }
  | _ => none }
def KdcBothWrongFalsely : Prop := kdcBothRow.holds Try.pinned (OpenSpec.ofChange kdcBothWrong)

/-- 'bartizanlaw17.GuestRefuses': WHATEVER THE INPUT: true; the input reads as it did. -/
def guestRefusesSpec : ChangeSpec := { name := "guestRefuses", fn := fun _ => fun
  | [d1, d2, d3] => { results := [.lit (.bool true)], args := [d1, d2, d3] }
  | _ => none }
def guestRefusesRow : OpenClaim := { program := "ytaffancdidgkhaa", sum := "a1125a656923895c98b2f0de12933b12b71760e1030a822031eb8c850d85b76a", func := "bartizan/bartizanlaw17.GuestRefuses", spec := "guestRefuses", unfollowed := true, recurses := true, plainKeys := false, apart := false }
def GuestRefusesSaid : Prop := guestRefusesRow.holds Try.pinned (OpenSpec.ofChange guestRefusesSpec)

/-- ITS FALSE NEIGHBOUR: 'it returns false'. Refute it at one input. -/
def guestRefusesWrong : ChangeSpec := { name := "guestRefuses", fn := fun _ => fun
  | [d1, d2, d3] => { results := [.lit (.bool false)], args := [d1, d2, d3] }
  | _ => none }
def GuestRefusesWrongFalsely : Prop := guestRefusesRow.holds Try.pinned (OpenSpec.ofChange guestRefusesWrong)

/-- 'bartizanlaw18.HostOnce': WHATEVER THE INPUT: true; the input reads as it did. -/
def hostOnceSpec : ChangeSpec := { name := "hostOnce", fn := fun _ => fun
  | [d1, d2] => { results := [.lit (.bool true)], args := [d1, d2] }
  | _ => none }
def hostOnceRow : OpenClaim := { program := "ytaffancdidgkhaa", sum := "a1125a656923895c98b2f0de12933b12b71760e1030a822031eb8c850d85b76a", func := "bartizan/bartizanlaw18.HostOnce", spec := "hostOnce", unfollowed := true, recurses := true, plainKeys := false, apart := false }
def HostOnceSaid : Prop := hostOnceRow.holds Try.pinned (OpenSpec.ofChange hostOnceSpec)

/-- ITS FALSE NEIGHBOUR: 'it returns false'. Refute it at one input. -/
def hostOnceWrong : ChangeSpec := { name := "hostOnce", fn := fun _ => fun
  | [d1, d2] => { results := [.lit (.bool false)], args := [d1, d2] }
  | _ => none }
def HostOnceWrongFalsely : Prop := hostOnceRow.holds Try.pinned (OpenSpec.ofChange hostOnceWrong)

/-- 'bartizanlaw18.HostForgets': WHATEVER THE INPUT: true; the input reads as it did. -/
def hostForgetsSpec : ChangeSpec := { name := "hostForgets", fn := fun _ => fun
  | [d1, d2, d3] => { results := [.lit (.bool true)], args := [d1, d2, d3] }
  | _ => none }
def hostForgetsRow : OpenClaim := { program := "ytaffancdidgkhaa", sum := "a1125a656923895c98b2f0de12933b12b71760e1030a822031eb8c850d85b76a", func := "bartizan/bartizanlaw18.HostForgets", spec := "hostForgets", unfollowed := true, recurses := true, plainKeys := false, apart := false }
def HostForgetsSaid : Prop := hostForgetsRow.holds Try.pinned (OpenSpec.ofChange hostForgetsSpec)

/-- ITS FALSE NEIGHBOUR: 'it returns false'. Refute it at one input. -/
def hostForgetsWrong : ChangeSpec := { name := "hostForgets", fn := fun _ => fun
  | [d1, d2, d3] => { results := [.lit (.bool false)], args := [d1, d2, d3] }
  | _ => none }
def HostForgetsWrongFalsely : Prop := hostForgetsRow.holds Try.pinned (OpenSpec.ofChange hostForgetsWrong)

/- THE SECOND FORM. 'bulk': how many values and letters a reading holds, each counted each time it is reached (what is shared counts as often as it is met; a slice's spare places count too). A statement '..UptoSaid' is the law's where the arguments, and the package variables that the reading takes, are together of bulk at most 1048576: NARROWER than '..Said'. Prove '..Said' where nothing that the law and all that it calls make is longer than what came in: it says more and counts as full. Else prove '..UptoSaid'. A law counts once. -/
mutual
def uptoBulk {H : Type} : DataW H → Nat
  | .lit (.string bytes) => bytes.length + 1
  | .lit _ => 1
  | .nil => 1
  | .ptr d => uptoBulk d + 1
  | .slice elems spare => uptoBulkAll elems + uptoBulkAll spare + 1
  | .agg parts => uptoBulkAll parts + 1
  | .iface _ d => uptoBulk d + 1
  | .map entries => uptoBulkEntries entries + 1
  | .held _ => 1
def uptoBulkAll {H : Type} : List (DataW H) → Nat
  | [] => 0
  | d :: r => uptoBulk d + uptoBulkAll r
def uptoBulkEntries {H : Type} : List (Lit × DataW H) → Nat
  | [] => 0
  | x :: r => uptoBulkEntry x + uptoBulkEntries r
def uptoBulkEntry {H : Type} : Lit × DataW H → Nat
  | (.string bytes, d) => bytes.length + uptoBulk d + 1
  | (_, d) => uptoBulk d + 1
 end
def uptoSmall : (H : Type) → List (DataW H) → Bool := fun _ ds => decide (uptoBulkAll ds ≤ 1048576)
def OpenSpec.upto (s : _root_.Go.ChangeSpec) : _root_.Go.OpenSpec := { _root_.Go.OpenSpec.ofChange s with cond := some uptoSmall }

/-- 'bartizanlaw16.KdcAnswers', WHERE WHAT IT READS IS OF BULK AT MOST 1048576: true; the input reads as it did. -/
def kdcAnswersUptoRow : OpenClaim := { program := "ytaffancdidgkhaa", sum := "a1125a656923895c98b2f0de12933b12b71760e1030a822031eb8c850d85b76a", func := "bartizan/bartizanlaw16.KdcAnswers", spec := "kdcAnswers", unfollowed := true, recurses := true, plainKeys := false, apart := false, narrowed := true }
def KdcAnswersUptoSaid : Prop := kdcAnswersUptoRow.holds Try.pinned (OpenSpec.upto kdcAnswersSpec)

/-- 'bartizanlaw16.KdcSeals', WHERE WHAT IT READS IS OF BULK AT MOST 1048576: true; the input reads as it did. -/
def kdcSealsUptoRow : OpenClaim := { program := "ytaffancdidgkhaa", sum := "a1125a656923895c98b2f0de12933b12b71760e1030a822031eb8c850d85b76a", func := "bartizan/bartizanlaw16.KdcSeals", spec := "kdcSeals", unfollowed := true, recurses := true, plainKeys := false, apart := false, narrowed := true }
def KdcSealsUptoSaid : Prop := kdcSealsUptoRow.holds Try.pinned (OpenSpec.upto kdcSealsSpec)

/-- 'bartizanlaw17.GuestOnce', WHERE WHAT IT READS IS OF BULK AT MOST 1048576: true; the input reads as it did. -/
def guestOnceUptoRow : OpenClaim := { program := "ytaffancdidgkhaa", sum := "a1125a656923895c98b2f0de12933b12b71760e1030a822031eb8c850d85b76a", func := "bartizan/bartizanlaw17.GuestOnce", spec := "guestOnce", unfollowed := true, recurses := true, plainKeys := false, apart := false, narrowed := true }
def GuestOnceUptoSaid : Prop := guestOnceUptoRow.holds Try.pinned (OpenSpec.upto guestOnceSpec)

/-- 'bartizanlaw16.KdcBoth', WHERE WHAT IT READS IS OF BULK AT MOST 1048576: true; the input reads as it did. -/
def kdcBothUptoRow : OpenClaim := { program := "ytaffancdidgkhaa", sum := "a1125a656923895c98b2f0de12933b12b71760e1030a822031eb8c850d85b76a", func := "bartizan/bartizanlaw16.KdcBoth", spec := "kdcBoth", unfollowed := true, recurses := true, plainKeys := false, apart := false, narrowed := true }
def KdcBothUptoSaid : Prop := kdcBothUptoRow.holds Try.pinned (OpenSpec.upto kdcBothSpec)

/-- 'bartizanlaw17.GuestRefuses', WHERE WHAT IT READS IS OF BULK AT MOST 1048576: true; the input reads as it did. -/
def guestRefusesUptoRow : OpenClaim := { program := "ytaffancdidgkhaa", sum := "a1125a656923895c98b2f0de12933b12b71760e1030a822031eb8c850d85b76a", func := "bartizan/bartizanlaw17.GuestRefuses", spec := "guestRefuses", unfollowed := true, recurses := true, plainKeys := false, apart := false, narrowed := true }
def GuestRefusesUptoSaid : Prop := guestRefusesUptoRow.holds Try.pinned (OpenSpec.upto guestRefusesSpec)

/-- 'bartizanlaw18.HostOnce', WHERE WHAT IT READS IS OF BULK AT MOST 1048576: true; the input reads as it did. -/
def hostOnceUptoRow : OpenClaim := { program := "ytaffancdidgkhaa", sum := "a1125a656923895c98b2f0de12933b12b71760e1030a822031eb8c850d85b76a", func := "bartizan/bartizanlaw18.HostOnce", spec := "hostOnce", unfollowed := true, recurses := true, plainKeys := false, apart := false, narrowed := true }
def HostOnceUptoSaid : Prop := hostOnceUptoRow.holds Try.pinned (OpenSpec.upto hostOnceSpec)

/-- 'bartizanlaw18.HostForgets', WHERE WHAT IT READS IS OF BULK AT MOST 1048576: true; the input reads as it did. -/
def hostForgetsUptoRow : OpenClaim := { program := "ytaffancdidgkhaa", sum := "a1125a656923895c98b2f0de12933b12b71760e1030a822031eb8c850d85b76a", func := "bartizan/bartizanlaw18.HostForgets", spec := "hostForgets", unfollowed := true, recurses := true, plainKeys := false, apart := false, narrowed := true }
def HostForgetsUptoSaid : Prop := hostForgetsUptoRow.holds Try.pinned (OpenSpec.upto hostForgetsSpec)

end Rows
end Go.Proofs.Ytaffancdidgkhaa

/-
  No cell of these rows narrows 'for every input' (looked for: loops, veiled, ifaces, maps, wideKeys, modest, calm, conditions, laid).
  DERIVED. THE GIVEN ROWS OF THIS SEAT. 6 by the template 'for every input the law returns true; each argument reads behind the call as it read before'; 0 by the template 'total and deterministic' (their statements: YtmolcddccjgliaaTotals.lean).
  GIVEN WITH THE SEED: the statements are not yours to turn. If you find one false, say at which input.
  Laid BY PROGRAM, IN A SANDBOX (cutbox-rows.mjs): the forced cells as the released guide's own fill.sh prints them over the translation 220a56d91ef33f19… (all of the seat's roots in one cut). By AI agents, Wed Nov 11 2026. No macro, syntax, notation, axiom, sorry.
-/
import Derived.Test.YtmolcddccjgliaaChecked
import GoSem.Claim
import GoSem.ClaimJoined
import GoSem.ClaimMapViews
import Derived.JoinedTies
import Derived.KernelRfl
namespace Go.Proofs.Ytmolcddccjgliaa
/- THE CELL 'sum', in the pinned program and in every row, IS THE sha256 OF THE DUMP (.gsa) THAT YtmolcddccjgliaaProg.lean LOADS. Nothing in Lean hashes anything: it is a label: what it is worth is what the hold of that sum in a sandbox is worth. -/
noncomputable def Try.pinned : Pinned := { name := "ytmolcddccjgliaa", sum := "220a56d91ef33f1908027a4b4df3ae1e713858d07b01c3430a5d2b59e79c858c", checked := Try.checked }
namespace Rows
def none {H : Type} : Left H := { results := [], args := [] }

/-- 'bartizanlaw07.SweepTells': WHATEVER THE INPUT: true; the input reads as it did. -/
def sweepTellsSpec : ChangeSpec := { name := "sweepTells", fn := fun _ => fun
  | [d1, d2, d3] => { results := [.lit (.bool true)], args := [d1, d2, d3] }
  | _ => none }
def sweepTellsRow : OpenClaim := { program := "ytmolcddccjgliaa", sum := "220a56d91ef33f1908027a4b4df3ae1e713858d07b01c3430a5d2b59e79c858c", func := "bartizan/bartizanlaw07.SweepTells", spec := "sweepTells", unfollowed := true, recurses := true, apart := false }
def SweepTellsSaid : Prop := sweepTellsRow.holds Try.pinned (OpenSpec.ofChange sweepTellsSpec)

/-- ITS FALSE NEIGHBOUR: 'it returns false'. Refute it at one input. -/
def sweepTellsWrong : ChangeSpec := { name := "sweepTells", fn := fun _ => fun
  | [d1, d2, d3] => { results := [.lit (.bool false)], args := [d1, d2, d3] }
  | _ => none }
def SweepTellsWrongFalsely : Prop := sweepTellsRow.holds Try.pinned (OpenSpec.ofChange sweepTellsWrong)

/-- 'bartizanlaw07.SweepMore': WHATEVER THE INPUT: true; the input reads as it did. -/
def sweepMoreSpec : ChangeSpec := { name := "sweepMore", fn := fun _ => fun
  | [d1, d2] => { results := [.lit (.bool true)], args := [d1, d2] }
  | _ => none }
def sweepMoreRow : OpenClaim := { program := "ytmolcddccjgliaa", sum := "220a56d91ef33f1908027a4b4df3ae1e713858d07b01c3430a5d2b59e79c858c", func := "bartizan/bartizanlaw07.SweepMore", spec := "sweepMore", unfollowed := true, recurses := true, apart := false }
def SweepMoreSaid : Prop := sweepMoreRow.holds Try.pinned (OpenSpec.ofChange sweepMoreSpec)

/-- ITS FALSE NEIGHBOUR: 'it returns false'. Refute it at one input. -/
def sweepMoreWrong : ChangeSpec := { name := "sweepMore", fn := fun _ => fun
  | [d1, d2] => { results := [.lit (.bool false)], args := [d1, d2] }
  | _ => none }
def SweepMoreWrongFalsely : Prop := sweepMoreRow.holds Try.pinned (OpenSpec.ofChange sweepMoreWrong)

/-- 'bartizanlaw07.SweepOrder': WHATEVER THE INPUT: true; the input reads as it did. -/
def sweepOrderSpec : ChangeSpec := { name := "sweepOrder", fn := fun _ => fun
  | [d1, d2] => { results := [.lit (.bool true)], args := [d1, d2] }
  | _ => none }
def sweepOrderRow : OpenClaim := { program := "ytmolcddccjgliaa", sum := "220a56d91ef33f1908027a4b4df3ae1e713858d07b01c3430a5d2b59e79c858c", func := "bartizan/bartizanlaw07.SweepOrder", spec := "sweepOrder", unfollowed := true, recurses := true, apart := false }
def SweepOrderSaid : Prop := sweepOrderRow.holds Try.pinned (OpenSpec.ofChange sweepOrderSpec)

/-- ITS FALSE NEIGHBOUR: 'it returns false'. Refute it at one input. -/
def sweepOrderWrong : ChangeSpec := { name := "sweepOrder", fn := fun _ => fun
  | [d1, d2] => { results := [.lit (.bool false)], args := [d1, d2] }
  | _ => none }
def SweepOrderWrongFalsely : Prop := sweepOrderRow.holds Try.pinned (OpenSpec.ofChange sweepOrderWrong)

/-- 'bartizanlaw07.SweepTrue': WHATEVER THE INPUT: true; the input reads as it did. -/
def sweepTrueSpec : ChangeSpec := { name := "sweepTrue", fn := fun _ => fun
  | [d1, d2, d3] => { results := [.lit (.bool true)], args := [d1, d2, d3] }
  | _ => none }
def sweepTrueRow : OpenClaim := { program := "ytmolcddccjgliaa", sum := "220a56d91ef33f1908027a4b4df3ae1e713858d07b01c3430a5d2b59e79c858c", func := "bartizan/bartizanlaw07.SweepTrue", spec := "sweepTrue", unfollowed := true, recurses := true, apart := false }
def SweepTrueSaid : Prop := sweepTrueRow.holds Try.pinned (OpenSpec.ofChange sweepTrueSpec)

/-- ITS FALSE NEIGHBOUR: 'it returns false'. Refute it at one input. -/
def sweepTrueWrong : ChangeSpec := { name := "sweepTrue", fn := fun _ => fun
  | [d1, d2, d3] => { results := [.lit (.bool false)], args := [d1, d2, d3] }
  | _ => none }
def SweepTrueWrongFalsely : Prop := sweepTrueRow.holds Try.pinned (OpenSpec.ofChange sweepTrueWrong)

/-- 'bartizanlaw08.ClockTells': WHATEVER THE INPUT: true; the input reads as it did. -/
def clockTellsSpec : ChangeSpec := { name := "clockTells", fn := fun _ => fun
  | [d1, d2, d3] => { results := [.lit (.bool true)], args := [d1, d2, d3] }
  | _ => none }
def clockTellsRow : OpenClaim := { program := "ytmolcddccjgliaa", sum := "220a56d91ef33f1908027a4b4df3ae1e713858d07b01c3430a5d2b59e79c858c", func := "bartizan/bartizanlaw08.ClockTells", spec := "clockTells", unfollowed := true, recurses := true, apart := false }
def ClockTellsSaid : Prop := clockTellsRow.holds Try.pinned (OpenSpec.ofChange clockTellsSpec)

/-- ITS FALSE NEIGHBOUR: 'it returns false'. Refute it at one input. -/
def clockTellsWrong : ChangeSpec := { name := "clockTells", fn := fun _ => fun
  | [d1, d2, d3] => { results := [.lit (.bool false)], args := [d1, d2, d3] }
  | _ => none }
def ClockTellsWrongFalsely : Prop := clockTellsRow.holds Try.pinned (OpenSpec.ofChange clockTellsWrong)

/-- 'bartizanlaw08.ClockTrue': WHATEVER THE INPUT: true; the input reads as it did. -/
def clockTrueSpec : ChangeSpec := { name := "clockTrue", fn := fun _ => fun
  | [d1, d2] => { results := [.lit (.bool true)], args := [d1, d2] }
  | _ => none }
def clockTrueRow : OpenClaim := { program := "ytmolcddccjgliaa", sum := "220a56d91ef33f1908027a4b4df3ae1e713858d07b01c3430a5d2b59e79c858c", func := "bartizan/bartizanlaw08.ClockTrue", spec := "clockTrue", unfollowed := true, recurses := true, apart := false }
def ClockTrueSaid : Prop := clockTrueRow.holds Try.pinned (OpenSpec.ofChange clockTrueSpec)

/-- ITS FALSE NEIGHBOUR: 'it returns false'. Refute it at one input. -/
def clockTrueWrong : ChangeSpec := { name := "clockTrue", fn := fun _ => fun
  | [d1, d2] => { results := [.lit (.bool false)], args := [d1, d2] }
  | _ => none }
def ClockTrueWrongFalsely : Prop := clockTrueRow.holds Try.pinned (OpenSpec.ofChange clockTrueWrong)

/- THE SECOND FORM. 'bulk': how many values and letters a reading holds, each counted each time it is reached (what is shared counts as often as it is met; a slice's spare places count too). A statement '..UptoSaid' is the law's where the arguments, and the package variables that the reading takes, are together of bulk at most 1048576: NARROWER than '..Said'. Prove '..Said' where nothing that the law and all that it calls make is longer than what came in: it says more and counts as full. Else prove '..UptoSaid'. A law counts once. -/
mutual
def uptoBulk {H : Type} : DataW H → Nat
  | .lit (.string bytes) => bytes.length + 1
  | .lit _ => 1
  | .nil => 1
  | .ptr d => uptoBulk d + 1
  | .slice elems spare => uptoBulkAll elems + uptoBulkAll spare + 1
  | .agg parts => uptoBulkAll parts + 1
  | .iface _ d => uptoBulk d + 1
  | .map entries => uptoBulkEntries entries + 1
  | .held _ => 1
def uptoBulkAll {H : Type} : List (DataW H) → Nat
  | [] => 0
  | d :: r => uptoBulk d + uptoBulkAll r
def uptoBulkEntries {H : Type} : List (Lit × DataW H) → Nat
  | [] => 0
  | x :: r => uptoBulkEntry x + uptoBulkEntries r
def uptoBulkEntry {H : Type} : Lit × DataW H → Nat
  | (.string bytes, d) => bytes.length + uptoBulk d + 1
  | (_, d) => uptoBulk d + 1
 end
def uptoSmall : (H : Type) → List (DataW H) → Bool := fun _ ds => decide (uptoBulkAll ds ≤ 1048576)
def OpenSpec.upto (s : _root_.Go.ChangeSpec) : _root_.Go.OpenSpec := { _root_.Go.OpenSpec.ofChange s with cond := some uptoSmall }

/-- 'bartizanlaw07.SweepTells', WHERE WHAT IT READS IS OF BULK AT MOST 1048576: true; the input reads as it did. -/
def sweepTellsUptoRow : OpenClaim := { program := "ytmolcddccjgliaa", sum := "220a56d91ef33f1908027a4b4df3ae1e713858d07b01c3430a5d2b59e79c858c", func := "bartizan/bartizanlaw07.SweepTells", spec := "sweepTells", unfollowed := true, recurses := true, apart := false, narrowed := true }
def SweepTellsUptoSaid : Prop := sweepTellsUptoRow.holds Try.pinned (OpenSpec.upto sweepTellsSpec)

/-- 'bartizanlaw07.SweepMore', WHERE WHAT IT READS IS OF BULK AT MOST 1048576: true; the input reads as it did. -/
def sweepMoreUptoRow : OpenClaim := { program := "ytmolcddccjgliaa", sum := "220a56d91ef33f1908027a4b4df3ae1e713858d07b01c3430a5d2b59e79c858c", func := "bartizan/bartizanlaw07.SweepMore", spec := "sweepMore", unfollowed := true, recurses := true, apart := false, narrowed := true }
def SweepMoreUptoSaid : Prop := sweepMoreUptoRow.holds Try.pinned (OpenSpec.upto sweepMoreSpec)

/-- 'bartizanlaw07.SweepOrder', WHERE WHAT IT READS IS OF BULK AT MOST 1048576: true; the input reads as it did. -/
def sweepOrderUptoRow : OpenClaim := { program := "ytmolcddccjgliaa", sum := "220a56d91ef33f1908027a4b4df3ae1e713858d07b01c3430a5d2b59e79c858c", func := "bartizan/bartizanlaw07.SweepOrder", spec := "sweepOrder", unfollowed := true, recurses := true, apart := false, narrowed := true }
def SweepOrderUptoSaid : Prop := sweepOrderUptoRow.holds Try.pinned (OpenSpec.upto sweepOrderSpec)

/-- 'bartizanlaw07.SweepTrue', WHERE WHAT IT READS IS OF BULK AT MOST 1048576: true; the input reads as it did. -/
def sweepTrueUptoRow : OpenClaim := { program := "ytmolcddccjgliaa", sum := "220a56d91ef33f1908027a4b4df3ae1e713858d07b01c3430a5d2b59e79c858c", func := "bartizan/bartizanlaw07.SweepTrue", spec := "sweepTrue", unfollowed := true, recurses := true, apart := false, narrowed := true }
def SweepTrueUptoSaid : Prop := sweepTrueUptoRow.holds Try.pinned (OpenSpec.upto sweepTrueSpec)

/-- 'bartizanlaw08.ClockTells', WHERE WHAT IT READS IS OF BULK AT MOST 1048576: true; the input reads as it did. -/
def clockTellsUptoRow : OpenClaim := { program := "ytmolcddccjgliaa", sum := "220a56d91ef33f1908027a4b4df3ae1e713858d07b01c3430a5d2b59e79c858c", func := "bartizan/bartizanlaw08.ClockTells", spec := "clockTells", unfollowed := true, recurses := true, apart := false, narrowed := true }
def ClockTellsUptoSaid : Prop := clockTellsUptoRow.holds Try.pinned (OpenSpec.upto clockTellsSpec)

/-- 'bartizanlaw08.ClockTrue', WHERE WHAT IT READS IS OF BULK AT MOST 1048576: true; the input reads as it did. -/
def clockTrueUptoRow : OpenClaim := { program := "ytmolcddccjgliaa", sum := "220a56d91ef33f1908027a4b4df3ae1e713858d07b01c3430a5d2b59e79c858c", func := "bartizan/bartizanlaw08.ClockTrue", spec := "clockTrue", unfollowed := true, recurses := true, apart := false, narrowed := true }
def ClockTrueUptoSaid : Prop := clockTrueUptoRow.holds Try.pinned (OpenSpec.upto clockTrueSpec)

end Rows
end Go.Proofs.Ytmolcddccjgliaa

/-
  No cell of these rows narrows 'for every input' (looked for: loops, veiled, ifaces, maps, wideKeys, modest, calm, conditions, laid).
  DERIVED. THE GIVEN ROWS OF THIS SEAT. 11 by the template 'for every input the law returns true; each argument reads behind the call as it read before'; 0 by the template 'total and deterministic' (their statements: YtffdkniccaebmaaTotals.lean).
  GIVEN WITH THE SEED: the statements are not yours to turn. If you find one false, say at which input.
  Laid BY PROGRAM, IN A SANDBOX (cutbox-rows.mjs): the forced cells as the released guide's own fill.sh prints them over the translation a890450afe004472… (all of the seat's roots in one cut). By AI agents, Wed Nov 11 2026. No macro, syntax, notation, axiom, sorry.
-/
import Derived.Test.YtffdkniccaebmaaChecked
import GoSem.Claim
import GoSem.ClaimJoined
import GoSem.ClaimMapViews
import Derived.JoinedTies
import Derived.KernelRfl
namespace Go.Proofs.Ytffdkniccaebmaa
/- THE CELL 'sum', in the pinned program and in every row, IS THE sha256 OF THE DUMP (.gsa) THAT YtffdkniccaebmaaProg.lean LOADS. Nothing in Lean hashes anything: it is a label: what it is worth is what the hold of that sum in a sandbox is worth. -/
noncomputable def Try.pinned : Pinned := { name := "ytffdkniccaebmaa", sum := "a890450afe00447289ad7a68cfd2c8e73f8d55eb7de35efbb4dcb733091d5bb0", checked := Try.checked }
namespace Rows
def none {H : Type} : Left H := { results := [], args := [] }

/-- 'bartizanlaw20.AuditTells': WHATEVER THE INPUT: true; the input reads as it did. -/
def auditTellsSpec : ChangeSpec := { name := "auditTells", fn := fun _ => fun
  | [d1, d2, d3] => { results := [.lit (.bool true)], args := [d1, d2, d3] }
  | _ => none }
def auditTellsRow : OpenClaim := { program := "ytffdkniccaebmaa", sum := "a890450afe00447289ad7a68cfd2c8e73f8d55eb7de35efbb4dcb733091d5bb0", func := "bartizan/bartizanlaw20.AuditTells", spec := "auditTells", plainKeys := false, apart := false }
def AuditTellsSaid : Prop := auditTellsRow.holds Try.pinned (OpenSpec.ofChange auditTellsSpec)

/-- ITS FALSE NEIGHBOUR: 'it returns false'. Refute it at one input. -/
def auditTellsWrong : ChangeSpec := { name := "auditTells", fn := fun _ => fun
  | [d1, d2, d3] => { results := [.lit (.bool false)], args := [d1, d2, d3] }
  | _ => none }
def AuditTellsWrongFalsely : Prop := auditTellsRow.holds Try.pinned (OpenSpec.ofChange auditTellsWrong)

/-- 'bartizanlaw20.AuditPairs': WHATEVER THE INPUT: true; the input reads as it did. -/
def auditPairsSpec : ChangeSpec := { name := "auditPairs", fn := fun _ => fun
  | [d] => { results := [.lit (.bool true)], args := [d] }
  | _ => none }
def auditPairsRow : OpenClaim := { program := "ytffdkniccaebmaa", sum := "a890450afe00447289ad7a68cfd2c8e73f8d55eb7de35efbb4dcb733091d5bb0", func := "bartizan/bartizanlaw20.AuditPairs", spec := "auditPairs", plainKeys := false, apart := false }
def AuditPairsSaid : Prop := auditPairsRow.holds Try.pinned (OpenSpec.ofChange auditPairsSpec)

/-- ITS FALSE NEIGHBOUR: 'it returns false'. Refute it at one input. -/
def auditPairsWrong : ChangeSpec := { name := "auditPairs", fn := fun _ => fun
  | [d] => { results := [.lit (.bool false)], args := [d] }
  | _ => none }
def AuditPairsWrongFalsely : Prop := auditPairsRow.holds Try.pinned (OpenSpec.ofChange auditPairsWrong)

/-- 'bartizanlaw12.NetDoes': WHATEVER THE INPUT: true; the input reads as it did. -/
def netDoesSpec : ChangeSpec := { name := "netDoes", fn := fun _ => fun
  | [d1, d2] => { results := [.lit (.bool true)], args := [d1, d2] }
  | _ => none }
def netDoesRow : OpenClaim := { program := "ytffdkniccaebmaa", sum := "a890450afe00447289ad7a68cfd2c8e73f8d55eb7de35efbb4dcb733091d5bb0", func := "bartizan/bartizanlaw12.NetDoes", spec := "netDoes", plainKeys := false, apart := false }
def NetDoesSaid : Prop := netDoesRow.holds Try.pinned (OpenSpec.ofChange netDoesSpec)

/-- ITS FALSE NEIGHBOUR: 'it returns false'. Refute it at one input. -/
def netDoesWrong : ChangeSpec := { name := "netDoes", fn := fun _ => fun
  | [d1, d2] => { results := [.lit (.bool false)], args := [d1, d2] }
  | _ => none }
def NetDoesWrongFalsely : Prop := netDoesRow.holds Try.pinned (OpenSpec.ofChange netDoesWrong)

/-- 'bartizanlaw12.NetOrder': WHATEVER THE INPUT: true; the input reads as it did. -/
def netOrderSpec : ChangeSpec := { name := "netOrder", fn := fun _ => fun
  | [d1, d2] => { results := [.lit (.bool true)], args := [d1, d2] }
  | _ => none }
def netOrderRow : OpenClaim := { program := "ytffdkniccaebmaa", sum := "a890450afe00447289ad7a68cfd2c8e73f8d55eb7de35efbb4dcb733091d5bb0", func := "bartizan/bartizanlaw12.NetOrder", spec := "netOrder", plainKeys := false, apart := false }
def NetOrderSaid : Prop := netOrderRow.holds Try.pinned (OpenSpec.ofChange netOrderSpec)

/-- ITS FALSE NEIGHBOUR: 'it returns false'. Refute it at one input. -/
def netOrderWrong : ChangeSpec := { name := "netOrder", fn := fun _ => fun
  | [d1, d2] => { results := [.lit (.bool false)], args := [d1, d2] }
  | _ => none }
def NetOrderWrongFalsely : Prop := netOrderRow.holds Try.pinned (OpenSpec.ofChange netOrderWrong)

/-- 'bartizanlaw12.NetOwn': WHATEVER THE INPUT: true; the input reads as it did. -/
def netOwnSpec : ChangeSpec := { name := "netOwn", fn := fun _ => fun
  | [d] => { results := [.lit (.bool true)], args := [d] }
  | _ => none }
def netOwnRow : OpenClaim := { program := "ytffdkniccaebmaa", sum := "a890450afe00447289ad7a68cfd2c8e73f8d55eb7de35efbb4dcb733091d5bb0", func := "bartizan/bartizanlaw12.NetOwn", spec := "netOwn", plainKeys := false, apart := false }
def NetOwnSaid : Prop := netOwnRow.holds Try.pinned (OpenSpec.ofChange netOwnSpec)

/-- ITS FALSE NEIGHBOUR: 'it returns false'. Refute it at one input. -/
def netOwnWrong : ChangeSpec := { name := "netOwn", fn := fun _ => fun
  | [d] => { results := [.lit (.bool false)], args := [d] }
  | _ => none }
def NetOwnWrongFalsely : Prop := netOwnRow.holds Try.pinned (OpenSpec.ofChange netOwnWrong)

/-- 'bartizanlaw09.FieldOwn': WHATEVER THE INPUT: true; the input reads as it did. -/
def fieldOwnSpec : ChangeSpec := { name := "fieldOwn", fn := fun _ => fun
  | [d] => { results := [.lit (.bool true)], args := [d] }
  | _ => none }
def fieldOwnRow : OpenClaim := { program := "ytffdkniccaebmaa", sum := "a890450afe00447289ad7a68cfd2c8e73f8d55eb7de35efbb4dcb733091d5bb0", func := "bartizan/bartizanlaw09.FieldOwn", spec := "fieldOwn", plainKeys := false, apart := false }
def FieldOwnSaid : Prop := fieldOwnRow.holds Try.pinned (OpenSpec.ofChange fieldOwnSpec)

/-- ITS FALSE NEIGHBOUR: 'it returns false'. Refute it at one input. -/
def fieldOwnWrong : ChangeSpec := { name := "fieldOwn", fn := fun _ => fun
  | [d] => { results := [.lit (.bool false)], args := [d] }
  | _ => none }
def FieldOwnWrongFalsely : Prop := fieldOwnRow.holds Try.pinned (OpenSpec.ofChange fieldOwnWrong)

/-- 'bartizanlaw14.JournalSure': WHATEVER THE INPUT: true; the input reads as it did. -/
def journalSureSpec : ChangeSpec := { name := "journalSure", fn := fun _ => fun
  | [d1, d2] => { results := [.lit (.bool true)], args := [d1, d2] }
  | _ => none }
def journalSureRow : OpenClaim := { program := "ytffdkniccaebmaa", sum := "a890450afe00447289ad7a68cfd2c8e73f8d55eb7de35efbb4dcb733091d5bb0", func := "bartizan/bartizanlaw14.JournalSure", spec := "journalSure", plainKeys := false, apart := false }
def JournalSureSaid : Prop := journalSureRow.holds Try.pinned (OpenSpec.ofChange journalSureSpec)

/-- ITS FALSE NEIGHBOUR: 'it returns false'. Refute it at one input. -/
def journalSureWrong : ChangeSpec := { name := "journalSure", fn := fun _ => fun
  | [d1, d2] => { results := [.lit (.bool false)], args := [d1, d2] }
  | _ => none }
def JournalSureWrongFalsely : Prop := journalSureRow.holds Try.pinned (OpenSpec.ofChange journalSureWrong)

/-- 'bartizanlaw15.BookTells': WHATEVER THE INPUT: true; the input reads as it did. -/
def bookTellsSpec : ChangeSpec := { name := "bookTells", fn := fun _ => fun
  | [d1, d2, d3] => { results := [.lit (.bool true)], args := [d1, d2, d3] }
  | _ => none }
def bookTellsRow : OpenClaim := { program := "ytffdkniccaebmaa", sum := "a890450afe00447289ad7a68cfd2c8e73f8d55eb7de35efbb4dcb733091d5bb0", func := "bartizan/bartizanlaw15.BookTells", spec := "bookTells", unfollowed := true, recurses := true, plainKeys := false, apart := false }
def BookTellsSaid : Prop := bookTellsRow.holds Try.pinned (OpenSpec.ofChange bookTellsSpec)

/-- ITS FALSE NEIGHBOUR: 'it returns false'. Refute it at one input. -/
def bookTellsWrong : ChangeSpec := { name := "bookTells", fn := fun _ => fun
  | [d1, d2, d3] => { results := [.lit (.bool false)], args := [d1, d2, d3] }
  | _ => none }
def BookTellsWrongFalsely : Prop := bookTellsRow.holds Try.pinned (OpenSpec.ofChange bookTellsWrong)

/-- 'bartizanlaw15.BookRises': WHATEVER THE INPUT: true; the input reads as it did. -/
def bookRisesSpec : ChangeSpec := { name := "bookRises", fn := fun _ => fun
  | [d] => { results := [.lit (.bool true)], args := [d] }
  | _ => none }
def bookRisesRow : OpenClaim := { program := "ytffdkniccaebmaa", sum := "a890450afe00447289ad7a68cfd2c8e73f8d55eb7de35efbb4dcb733091d5bb0", func := "bartizan/bartizanlaw15.BookRises", spec := "bookRises", unfollowed := true, recurses := true, plainKeys := false, apart := false }
def BookRisesSaid : Prop := bookRisesRow.holds Try.pinned (OpenSpec.ofChange bookRisesSpec)

/-- ITS FALSE NEIGHBOUR: 'it returns false'. Refute it at one input. -/
def bookRisesWrong : ChangeSpec := { name := "bookRises", fn := fun _ => fun
  | [d] => { results := [.lit (.bool false)], args := [d] }
  | _ => none }
def BookRisesWrongFalsely : Prop := bookRisesRow.holds Try.pinned (OpenSpec.ofChange bookRisesWrong)

/-- 'bartizanlaw15.BookDoes': WHATEVER THE INPUT: true; the input reads as it did. -/
def bookDoesSpec : ChangeSpec := { name := "bookDoes", fn := fun _ => fun
  | [d1, d2] => { results := [.lit (.bool true)], args := [d1, d2] }
  | _ => none }
def bookDoesRow : OpenClaim := { program := "ytffdkniccaebmaa", sum := "a890450afe00447289ad7a68cfd2c8e73f8d55eb7de35efbb4dcb733091d5bb0", func := "bartizan/bartizanlaw15.BookDoes", spec := "bookDoes", unfollowed := true, recurses := true, plainKeys := false, apart := false }
def BookDoesSaid : Prop := bookDoesRow.holds Try.pinned (OpenSpec.ofChange bookDoesSpec)

/-- ITS FALSE NEIGHBOUR: 'it returns false'. Refute it at one input. -/
def bookDoesWrong : ChangeSpec := { name := "bookDoes", fn := fun _ => fun
  | [d1, d2] => { results := [.lit (.bool false)], args := [d1, d2] }
  | _ => none }
def BookDoesWrongFalsely : Prop := bookDoesRow.holds Try.pinned (OpenSpec.ofChange bookDoesWrong)

/-- 'bartizanlaw15.BookSure': WHATEVER THE INPUT: true; the input reads as it did. -/
def bookSureSpec : ChangeSpec := { name := "bookSure", fn := fun _ => fun
  | [d1, d2] => { results := [.lit (.bool true)], args := [d1, d2] }
  | _ => none }
def bookSureRow : OpenClaim := { program := "ytffdkniccaebmaa", sum := "a890450afe00447289ad7a68cfd2c8e73f8d55eb7de35efbb4dcb733091d5bb0", func := "bartizan/bartizanlaw15.BookSure", spec := "bookSure", unfollowed := true, recurses := true, plainKeys := false, apart := false }
def BookSureSaid : Prop := bookSureRow.holds Try.pinned (OpenSpec.ofChange bookSureSpec)

/-- ITS FALSE NEIGHBOUR: 'it returns false'. Refute it at one input. -/
def bookSureWrong : ChangeSpec := { name := "bookSure", fn := fun _ => fun
  | [d1, d2] => { results := [.lit (.bool false)], args := [d1, d2] }
  | _ => none }
def BookSureWrongFalsely : Prop := bookSureRow.holds Try.pinned (OpenSpec.ofChange bookSureWrong)

/- THE SECOND FORM. 'bulk': how many values and letters a reading holds, each counted each time it is reached (what is shared counts as often as it is met; a slice's spare places count too). A statement '..UptoSaid' is the law's where the arguments, and the package variables that the reading takes, are together of bulk at most 1048576: NARROWER than '..Said'. Prove '..Said' where nothing that the law and all that it calls make is longer than what came in: it says more and counts as full. Else prove '..UptoSaid'. A law counts once. -/
mutual
def uptoBulk {H : Type} : DataW H → Nat
  | .lit (.string bytes) => bytes.length + 1
  | .lit _ => 1
  | .nil => 1
  | .ptr d => uptoBulk d + 1
  | .slice elems spare => uptoBulkAll elems + uptoBulkAll spare + 1
  | .agg parts => uptoBulkAll parts + 1
  | .iface _ d => uptoBulk d + 1
  | .map entries => uptoBulkEntries entries + 1
  | .held _ => 1
def uptoBulkAll {H : Type} : List (DataW H) → Nat
  | [] => 0
  | d :: r => uptoBulk d + uptoBulkAll r
def uptoBulkEntries {H : Type} : List (Lit × DataW H) → Nat
  | [] => 0
  | x :: r => uptoBulkEntry x + uptoBulkEntries r
def uptoBulkEntry {H : Type} : Lit × DataW H → Nat
  | (.string bytes, d) => bytes.length + uptoBulk d + 1
  | (_, d) => uptoBulk d + 1
 end
def uptoSmall : (H : Type) → List (DataW H) → Bool := fun _ ds => decide (uptoBulkAll ds ≤ 1048576)
def OpenSpec.upto (s : _root_.Go.ChangeSpec) : _root_.Go.OpenSpec := { _root_.Go.OpenSpec.ofChange s with cond := some uptoSmall }

/-- 'bartizanlaw20.AuditTells', WHERE WHAT IT READS IS OF BULK AT MOST 1048576: true; the input reads as it did. -/
def auditTellsUptoRow : OpenClaim := { program := "ytffdkniccaebmaa", sum := "a890450afe00447289ad7a68cfd2c8e73f8d55eb7de35efbb4dcb733091d5bb0", func := "bartizan/bartizanlaw20.AuditTells", spec := "auditTells", plainKeys := false, apart := false, narrowed := true }
def AuditTellsUptoSaid : Prop := auditTellsUptoRow.holds Try.pinned (OpenSpec.upto auditTellsSpec)

/-- 'bartizanlaw20.AuditPairs', WHERE WHAT IT READS IS OF BULK AT MOST 1048576: true; the input reads as it did. -/
def auditPairsUptoRow : OpenClaim := { program := "ytffdkniccaebmaa", sum := "a890450afe00447289ad7a68cfd2c8e73f8d55eb7de35efbb4dcb733091d5bb0", func := "bartizan/bartizanlaw20.AuditPairs", spec := "auditPairs", plainKeys := false, apart := false, narrowed := true }
def AuditPairsUptoSaid : Prop := auditPairsUptoRow.holds Try.pinned (OpenSpec.upto auditPairsSpec)

/-- 'bartizanlaw12.NetDoes', WHERE WHAT IT READS IS OF BULK AT MOST 1048576: true; the input reads as it did. -/
def netDoesUptoRow : OpenClaim := { program := "ytffdkniccaebmaa", sum := "a890450afe00447289ad7a68cfd2c8e73f8d55eb7de35efbb4dcb733091d5bb0", func := "bartizan/bartizanlaw12.NetDoes", spec := "netDoes", plainKeys := false, apart := false, narrowed := true }
def NetDoesUptoSaid : Prop := netDoesUptoRow.holds Try.pinned (OpenSpec.upto netDoesSpec)

/-- 'bartizanlaw12.NetOrder', WHERE WHAT IT READS IS OF BULK AT MOST 1048576: true; the input reads as it did. -/
def netOrderUptoRow : OpenClaim := { program := "ytffdkniccaebmaa", sum := "a890450afe00447289ad7a68cfd2c8e73f8d55eb7de35efbb4dcb733091d5bb0", func := "bartizan/bartizanlaw12.NetOrder", spec := "netOrder", plainKeys := false, apart := false, narrowed := true }
def NetOrderUptoSaid : Prop := netOrderUptoRow.holds Try.pinned (OpenSpec.upto netOrderSpec)

/-- 'bartizanlaw12.NetOwn', WHERE WHAT IT READS IS OF BULK AT MOST 1048576: true; the input reads as it did. -/
def netOwnUptoRow : OpenClaim := { program := "ytffdkniccaebmaa", sum := "a890450afe00447289ad7a68cfd2c8e73f8d55eb7de35efbb4dcb733091d5bb0", func := "bartizan/bartizanlaw12.NetOwn", spec := "netOwn", plainKeys := false, apart := false, narrowed := true }
def NetOwnUptoSaid : Prop := netOwnUptoRow.holds Try.pinned (OpenSpec.upto netOwnSpec)

/-- 'bartizanlaw09.FieldOwn', WHERE WHAT IT READS IS OF BULK AT MOST 1048576: true; the input reads as it did. -/
def fieldOwnUptoRow : OpenClaim := { program := "ytffdkniccaebmaa", sum := "a890450afe00447289ad7a68cfd2c8e73f8d55eb7de35efbb4dcb733091d5bb0", func := "bartizan/bartizanlaw09.FieldOwn", spec := "fieldOwn", plainKeys := false, apart := false, narrowed := true }
def FieldOwnUptoSaid : Prop := fieldOwnUptoRow.holds Try.pinned (OpenSpec.upto fieldOwnSpec)

/-- 'bartizanlaw14.JournalSure', WHERE WHAT IT READS IS OF BULK AT MOST 1048576: true; the input reads as it did. -/
def journalSureUptoRow : OpenClaim := { program := "ytffdkniccaebmaa", sum := "a890450afe00447289ad7a68cfd2c8e73f8d55eb7de35efbb4dcb733091d5bb0", func := "bartizan/bartizanlaw14.JournalSure", spec := "journalSure", plainKeys := false, apart := false, narrowed := true }
def JournalSureUptoSaid : Prop := journalSureUptoRow.holds Try.pinned (OpenSpec.upto journalSureSpec)

/-- 'bartizanlaw15.BookTells', WHERE WHAT IT READS IS OF BULK AT MOST 1048576: true; the input reads as it did. -/
def bookTellsUptoRow : OpenClaim := { program := "ytffdkniccaebmaa", sum := "a890450afe00447289ad7a68cfd2c8e73f8d55eb7de35efbb4dcb733091d5bb0", func := "bartizan/bartizanlaw15.BookTells", spec := "bookTells", unfollowed := true, recurses := true, plainKeys := false, apart := false, narrowed := true }
def BookTellsUptoSaid : Prop := bookTellsUptoRow.holds Try.pinned (OpenSpec.upto bookTellsSpec)

/-- 'bartizanlaw15.BookRises', WHERE WHAT IT READS IS OF BULK AT MOST 1048576: true; the input reads as it did. -/
def bookRisesUptoRow : OpenClaim := { program := "ytffdkniccaebmaa", sum := "a890450afe00447289ad7a68cfd2c8e73f8d55eb7de35efbb4dcb733091d5bb0", func := "bartizan/bartizanlaw15.BookRises", spec := "bookRises", unfollowed := true, recurses := true, plainKeys := false, apart := false, narrowed := true }
def BookRisesUptoSaid : Prop := bookRisesUptoRow.holds Try.pinned (OpenSpec.upto bookRisesSpec)

/-- 'bartizanlaw15.BookDoes', WHERE WHAT IT READS IS OF BULK AT MOST 1048576: true; the input reads as it did. -/
def bookDoesUptoRow : OpenClaim := { program := "ytffdkniccaebmaa", sum := "a890450afe00447289ad7a68cfd2c8e73f8d55eb7de35efbb4dcb733091d5bb0", func := "bartizan/bartizanlaw15.BookDoes", spec := "bookDoes", unfollowed := true, recurses := true, plainKeys := false, apart := false, narrowed := true }
def BookDoesUptoSaid : Prop := bookDoesUptoRow.holds Try.pinned (OpenSpec.upto bookDoesSpec)

/-- 'bartizanlaw15.BookSure', WHERE WHAT IT READS IS OF BULK AT MOST 1048576: true; the input reads as it did. -/
def bookSureUptoRow : OpenClaim := { program := "ytffdkniccaebmaa", sum := "a890450afe00447289ad7a68cfd2c8e73f8d55eb7de35efbb4dcb733091d5bb0", func := "bartizan/bartizanlaw15.BookSure", spec := "bookSure", unfollowed := true, recurses := true, plainKeys := false, apart := false, narrowed := true }
def BookSureUptoSaid : Prop := bookSureUptoRow.holds Try.pinned (OpenSpec.upto bookSureSpec)

end Rows
end Go.Proofs.Ytffdkniccaebmaa

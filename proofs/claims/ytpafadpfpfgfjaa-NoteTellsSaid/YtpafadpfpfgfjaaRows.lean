/-
  No cell of these rows narrows 'for every input' (looked for: loops, veiled, ifaces, maps, wideKeys, modest, calm, conditions, laid).
  DERIVED. THE GIVEN ROWS OF THIS SEAT. 8 by the template 'for every input the law returns true; each argument reads behind the call as it read before'; 0 by the template 'total and deterministic' (their statements: YtpafadpfpfgfjaaTotals.lean).
  GIVEN WITH THE SEED: the statements are not yours to turn. If you find one false, say at which input.
  Laid BY PROGRAM, IN A SANDBOX (cutbox-rows.mjs): the forced cells as the released guide's own fill.sh prints them over the translation 5232ced186952fa8… (all of the seat's roots in one cut). By AI agents, Wed Nov 11 2026. No macro, syntax, notation, axiom, sorry.
-/
import Derived.Test.YtpafadpfpfgfjaaChecked
import GoSem.Claim
import GoSem.ClaimJoined
import GoSem.ClaimMapViews
import Derived.JoinedTies
import Derived.KernelRfl
namespace Go.Proofs.Ytpafadpfpfgfjaa
/- THE CELL 'sum', in the pinned program and in every row, IS THE sha256 OF THE DUMP (.gsa) THAT YtpafadpfpfgfjaaProg.lean LOADS. Nothing in Lean hashes anything: it is a label: what it is worth is what the hold of that sum in a sandbox is worth. -/
noncomputable def Try.pinned : Pinned := { name := "ytpafadpfpfgfjaa", sum := "5232ced186952fa80e101b3d4e344f237de72d69a61ad1ece08d93cc87193217", checked := Try.checked }
namespace Rows
def none {H : Type} : Left H := { results := [], args := [] }

/-- 'bartizanlaw17.GuestOnce': WHATEVER THE INPUT: true; the input reads as it did. -/
def guestOnceSpec : ChangeSpec := { name := "guestOnce", fn := fun _ => fun
  | [d1, d2, d3] => { results := [.lit (.bool true)], args := [d1, d2, d3] }
  | _ => none }
def guestOnceRow : OpenClaim := { program := "ytpafadpfpfgfjaa", sum := "5232ced186952fa80e101b3d4e344f237de72d69a61ad1ece08d93cc87193217", func := "bartizan/bartizanlaw17.GuestOnce", spec := "guestOnce", unfollowed := true, recurses := true, plainKeys := false, apart := false }
def GuestOnceSaid : Prop := guestOnceRow.holds Try.pinned (OpenSpec.ofChange guestOnceSpec)

/-- ITS FALSE NEIGHBOUR: 'it returns false'. Refute it at one input. -/
def guestOnceWrong : ChangeSpec := { name := "guestOnce", fn := fun _ => fun
  | [d1, d2, d3] => { results := [.lit (.bool false)], args := [d1, d2, d3] }
  | _ => none }
def GuestOnceWrongFalsely : Prop := guestOnceRow.holds Try.pinned (OpenSpec.ofChange guestOnceWrong)

/-- 'bartizanlaw17.GuestRefuses': WHATEVER THE INPUT: true; the input reads as it did. -/
def guestRefusesSpec : ChangeSpec := { name := "guestRefuses", fn := fun _ => fun
  | [d1, d2, d3] => { results := [.lit (.bool true)], args := [d1, d2, d3] }
  | _ => none }
def guestRefusesRow : OpenClaim := { program := "ytpafadpfpfgfjaa", sum := "5232ced186952fa80e101b3d4e344f237de72d69a61ad1ece08d93cc87193217", func := "bartizan/bartizanlaw17.GuestRefuses", spec := "guestRefuses", unfollowed := true, recurses := true, plainKeys := false, apart := false }
def GuestRefusesSaid : Prop := guestRefusesRow.holds Try.pinned (OpenSpec.ofChange guestRefusesSpec)

/-- ITS FALSE NEIGHBOUR: 'it returns false'. Refute it at one input. -/
def guestRefusesWrong : ChangeSpec := { name := "guestRefuses", fn := fun _ => fun
  | [d1, d2, d3] => { results := [.lit (.bool false)], args := [d1, d2, d3] }
  | _ => none }
def GuestRefusesWrongFalsely : Prop := guestRefusesRow.holds Try.pinned (OpenSpec.ofChange guestRefusesWrong)

/-- 'bartizanlaw16.KdcBoth': WHATEVER THE INPUT: true; the input reads as it did. -/
def kdcBothSpec : ChangeSpec := { name := "kdcBoth", fn := fun _ => fun
  | [d1, d2, d3] => { results := [.lit (.bool true)], args := [d1, d2, d3] }
  | _ => none }
def kdcBothRow : OpenClaim := { program := "ytpafadpfpfgfjaa", sum := "5232ced186952fa80e101b3d4e344f237de72d69a61ad1ece08d93cc87193217", func := "bartizan/bartizanlaw16.KdcBoth", spec := "kdcBoth", unfollowed := true, recurses := true, plainKeys := false, apart := false }
def KdcBothSaid : Prop := kdcBothRow.holds Try.pinned (OpenSpec.ofChange kdcBothSpec)

/-- ITS FALSE NEIGHBOUR: 'it returns false'. Refute it at one input. -/
def kdcBothWrong : ChangeSpec := { name := "kdcBoth", fn := fun _ => fun
  | [d1, d2, d3] => { results := [.lit (.bool false)], args := [d1, d2, d3] }
  | _ => none }
def KdcBothWrongFalsely : Prop := kdcBothRow.holds Try.pinned (OpenSpec.ofChange kdcBothWrong)

/-- 'bartizanlaw18.HostOnce': WHATEVER THE INPUT: true; the input reads as it did. -/
def hostOnceSpec : ChangeSpec := { name := "hostOnce", fn := fun _ => fun
  | [d1, d2] => { results := [.lit (.bool true)], args := [d1, d2] }
  | _ => none }
def hostOnceRow : OpenClaim := { program := "ytpafadpfpfgfjaa", sum := "5232ced186952fa80e101b3d4e344f237de72d69a61ad1ece08d93cc87193217", func := "bartizan/bartizanlaw18.HostOnce", spec := "hostOnce", unfollowed := true, recurses := true, plainKeys := false, apart := false }
def HostOnceSaid : Prop := hostOnceRow.holds Try.pinned (OpenSpec.ofChange hostOnceSpec)

/-- ITS FALSE NEIGHBOUR: 'it returns false'. Refute it at one input. -/
def hostOnceWrong : ChangeSpec := { name := "hostOnce", fn := fun _ => fun
  | [d1, d2] => { results := [.lit (.bool false)], args := [d1, d2] }
  | _ => none }
def HostOnceWrongFalsely : Prop := hostOnceRow.holds Try.pinned (OpenSpec.ofChange hostOnceWrong)

/-- 'bartizanlaw18.HostForgets': WHATEVER THE INPUT: true; the input reads as it did. -/
def hostForgetsSpec : ChangeSpec := { name := "hostForgets", fn := fun _ => fun
  | [d1, d2, d3] => { results := [.lit (.bool true)], args := [d1, d2, d3] }
  | _ => none }
def hostForgetsRow : OpenClaim := { program := "ytpafadpfpfgfjaa", sum := "5232ced186952fa80e101b3d4e344f237de72d69a61ad1ece08d93cc87193217", func := "bartizan/bartizanlaw18.HostForgets", spec := "hostForgets", unfollowed := true, recurses := true, plainKeys := false, apart := false }
def HostForgetsSaid : Prop := hostForgetsRow.holds Try.pinned (OpenSpec.ofChange hostForgetsSpec)

/-- ITS FALSE NEIGHBOUR: 'it returns false'. Refute it at one input. -/
def hostForgetsWrong : ChangeSpec := { name := "hostForgets", fn := fun _ => fun
  | [d1, d2, d3] => { results := [.lit (.bool false)], args := [d1, d2, d3] }
  | _ => none }
def HostForgetsWrongFalsely : Prop := hostForgetsRow.holds Try.pinned (OpenSpec.ofChange hostForgetsWrong)

/-- 'bartizanlaw10.NoteTells': WHATEVER THE INPUT: true; the input reads as it did. -/
def noteTellsSpec : ChangeSpec := { name := "noteTells", fn := fun _ => fun
  | [d1, d2] => { results := [.lit (.bool true)], args := [d1, d2] }
  | _ => none }
def noteTellsRow : OpenClaim := { program := "ytpafadpfpfgfjaa", sum := "5232ced186952fa80e101b3d4e344f237de72d69a61ad1ece08d93cc87193217", func := "bartizan/bartizanlaw10.NoteTells", spec := "noteTells", unfollowed := true, recurses := true, plainKeys := false, apart := false }
def NoteTellsSaid : Prop := noteTellsRow.holds Try.pinned (OpenSpec.ofChange noteTellsSpec)

/-- ITS FALSE NEIGHBOUR: 'it returns false'. Refute it at one input. -/
def noteTellsWrong : ChangeSpec := { name := "noteTells", fn := fun _ => fun
  | [d1, d2] => { results := [.lit (.bool false)], args := [d1, d2] }
  | _ => none }
def NoteTellsWrongFalsely : Prop := noteTellsRow.holds Try.pinned (OpenSpec.ofChange noteTellsWrong)

/-- 'bartizanlaw10.NoteBack': WHATEVER THE INPUT: true; the input reads as it did. -/
def noteBackSpec : ChangeSpec := { name := "noteBack", fn := fun _ => fun
  | [d1, d2] => { results := [.lit (.bool true)], args := [d1, d2] }
  | _ => none }
def noteBackRow : OpenClaim := { program := "ytpafadpfpfgfjaa", sum := "5232ced186952fa80e101b3d4e344f237de72d69a61ad1ece08d93cc87193217", func := "bartizan/bartizanlaw10.NoteBack", spec := "noteBack", unfollowed := true, recurses := true, plainKeys := false, apart := false }
def NoteBackSaid : Prop := noteBackRow.holds Try.pinned (OpenSpec.ofChange noteBackSpec)

/-- ITS FALSE NEIGHBOUR: 'it returns false'. Refute it at one input. -/
def noteBackWrong : ChangeSpec := { name := "noteBack", fn := fun _ => fun
  | [d1, d2] => { results := [.lit (.bool false)], args := [d1, d2] }
  | _ => none }
def NoteBackWrongFalsely : Prop := noteBackRow.holds Try.pinned (OpenSpec.ofChange noteBackWrong)

/-- 'bartizanlaw09.FieldOwn': WHATEVER THE INPUT: true; the input reads as it did. -/
def fieldOwnSpec : ChangeSpec := { name := "fieldOwn", fn := fun _ => fun
  | [d] => { results := [.lit (.bool true)], args := [d] }
  | _ => none }
def fieldOwnRow : OpenClaim := { program := "ytpafadpfpfgfjaa", sum := "5232ced186952fa80e101b3d4e344f237de72d69a61ad1ece08d93cc87193217", func := "bartizan/bartizanlaw09.FieldOwn", spec := "fieldOwn", plainKeys := false, apart := false }
def FieldOwnSaid : Prop := fieldOwnRow.holds Try.pinned (OpenSpec.ofChange fieldOwnSpec)

/-- ITS FALSE NEIGHBOUR: 'it returns false'. Refute it at one input. -/
def fieldOwnWrong : ChangeSpec := { name := "fieldOwn", fn := fun _ => fun
  | [d] => { results := [.lit (.bool false)], args := [d] }
  | _ => none }
def FieldOwnWrongFalsely : Prop := fieldOwnRow.holds Try.pinned (OpenSpec.ofChange fieldOwnWrong)

/- THE SECOND FORM. 'bulk': how many values and letters a reading holds, each counted each time it is reached (what is shared counts as often as it is met; a slice's spare places count too). A statement '..UptoSaid' is the law's where the arguments, and the package variables that the reading takes, are together of bulk at most 1048576: NARROWER than '..Said'. Prove '..Said' where nothing that the law and all that it calls make is longer than what came in: it says more and counts as full. Else prove '..UptoSaid'. A law counts once. -/
mutual
def uptoBulk {H : Type} : DataW H → Nat
  | .lit (.string bytes) => bytes.length + 1
  | .lit _ => 1
  | .nil => 1
  | .ptr d => uptoBulk d + 1
  | .slice elems spare => uptoBulkAll elems + uptoBulkAll spare + 1
  | .agg parts => uptoBulkAll parts + 1
  | .iface _ d => uptoBulk d + 1
  | .map entries => uptoBulkEntries entries + 1
  | .held _ => 1
def uptoBulkAll {H : Type} : List (DataW H) → Nat
  | [] => 0
  | d :: r => uptoBulk d + uptoBulkAll r
def uptoBulkEntries {H : Type} : List (Lit × DataW H) → Nat
  | [] => 0
  | x :: r => uptoBulkEntry x + uptoBulkEntries r
def uptoBulkEntry {H : Type} : Lit × DataW H → Nat
  | (.string bytes, d) => bytes.length + uptoBulk d + 1
  | (_, d) => uptoBulk d + 1
 end
def uptoSmall : (H : Type) → List (DataW H) → Bool := fun _ ds => decide (uptoBulkAll ds ≤ 1048576)
def OpenSpec.upto (s : _root_.Go.ChangeSpec) : _root_.Go.OpenSpec := { _root_.Go.OpenSpec.ofChange s with cond := some uptoSmall }

/-- 'bartizanlaw17.GuestOnce', WHERE WHAT IT READS IS OF BULK AT MOST 1048576: true; the input reads as it did. -/
def guestOnceUptoRow : OpenClaim := { program := "ytpafadpfpfgfjaa", sum := "5232ced186952fa80e101b3d4e344f237de72d69a61ad1ece08d93cc87193217", func := "bartizan/bartizanlaw17.GuestOnce", spec := "guestOnce", unfollowed := true, recurses := true, plainKeys := false, apart := false, narrowed := true }
def GuestOnceUptoSaid : Prop := guestOnceUptoRow.holds Try.pinned (OpenSpec.upto guestOnceSpec)

/-- 'bartizanlaw17.GuestRefuses', WHERE WHAT IT READS IS OF BULK AT MOST 1048576: true; the input reads as it did. -/
def guestRefusesUptoRow : OpenClaim := { program := "ytpafadpfpfgfjaa", sum := "5232ced186952fa80e101b3d4e344f237de72d69a61ad1ece08d93cc87193217", func := "bartizan/bartizanlaw17.GuestRefuses", spec := "guestRefuses", unfollowed := true, recurses := true, plainKeys := false, apart := false, narrowed := true }
def GuestRefusesUptoSaid : Prop := guestRefusesUptoRow.holds Try.pinned (OpenSpec.upto guestRefusesSpec)

/-- 'bartizanlaw16.KdcBoth', WHERE WHAT IT READS IS OF BULK AT MOST 1048576: true; the input reads as it did. -/
def kdcBothUptoRow : OpenClaim := { program := "ytpafadpfpfgfjaa", sum := "5232ced186952fa80e101b3d4e344f237de72d69a61ad1ece08d93cc87193217", func := "bartizan/bartizanlaw16.KdcBoth", spec := "kdcBoth", unfollowed := true, recurses := true, plainKeys := false, apart := false, narrowed := true }
def KdcBothUptoSaid : Prop := kdcBothUptoRow.holds Try.pinned (OpenSpec.upto kdcBothSpec)

/-- 'bartizanlaw18.HostOnce', WHERE WHAT IT READS IS OF BULK AT MOST 1048576: true; the input reads as it did. -/
def hostOnceUptoRow : OpenClaim := { program := "ytpafadpfpfgfjaa", sum := "5232ced186952fa80e101b3d4e344f237de72d69a61ad1ece08d93cc87193217", func := "bartizan/bartizanlaw18.HostOnce", spec := "hostOnce", unfollowed := true, recurses := true, plainKeys := false, apart := false, narrowed := true }
def HostOnceUptoSaid : Prop := hostOnceUptoRow.holds Try.pinned (OpenSpec.upto hostOnceSpec)

/-- 'bartizanlaw18.HostForgets', WHERE WHAT IT READS IS OF BULK AT MOST 1048576: true; the input reads as it did. -/
def hostForgetsUptoRow : OpenClaim := { program := "ytpafadpfpfgfjaa", sum := "5232ced186952fa80e101b3d4e344f237de72d69a61ad1ece08d93cc87193217", func := "bartizan/bartizanlaw18.HostForgets", spec := "hostForgets", unfollowed := true, recurses := true, plainKeys := false, apart := false, narrowed := true }
def HostForgetsUptoSaid : Prop := hostForgetsUptoRow.holds Try.pinned (OpenSpec.upto hostForgetsSpec)

/-- 'bartizanlaw10.NoteTells', WHERE WHAT IT READS IS OF BULK AT MOST 1048576: true; the input reads as it did. -/
def noteTellsUptoRow : OpenClaim := { program := "ytpafadpfpfgfjaa", sum := "5232ced186952fa80e101b3d4e344f237de72d69a61ad1ece08d93cc87193217", func := "bartizan/bartizanlaw10.NoteTells", spec := "noteTells", unfollowed := true, recurses := true, plainKeys := false, apart := false, narrowed := true }
def NoteTellsUptoSaid : Prop := noteTellsUptoRow.holds Try.pinned (OpenSpec.upto noteTellsSpec)

/-- 'bartizanlaw10.NoteBack', WHERE WHAT IT READS IS OF BULK AT MOST 1048576: true; the input reads as it did. -/
def noteBackUptoRow : OpenClaim := { program := "ytpafadpfpfgfjaa", sum := "5232ced186952fa80e101b3d4e344f237de72d69a61ad1ece08d93cc87193217", func := "bartizan/bartizanlaw10.NoteBack", spec := "noteBack", unfollowed := true, recurses := true, plainKeys := false, apart := false, narrowed := true }
def NoteBackUptoSaid : Prop := noteBackUptoRow.holds Try.pinned (OpenSpec.upto noteBackSpec)

/-- 'bartizanlaw09.FieldOwn', WHERE WHAT IT READS IS OF BULK AT MOST 1048576: true; the input reads as it did. -/
def fieldOwnUptoRow : OpenClaim := { program := "ytpafadpfpfgfjaa", sum := "5232ced186952fa80e101b3d4e344f237de72d69a61ad1ece08d93cc87193217", func := "bartizan/bartizanlaw09.FieldOwn", spec := "fieldOwn", plainKeys := false, apart := false, narrowed := true }
def FieldOwnUptoSaid : Prop := fieldOwnUptoRow.holds Try.pinned (OpenSpec.upto fieldOwnSpec)

end Rows
end Go.Proofs.Ytpafadpfpfgfjaa

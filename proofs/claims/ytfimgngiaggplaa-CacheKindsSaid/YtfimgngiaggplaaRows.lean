/-
  No cell of these rows narrows 'for every input' (looked for: loops, veiled, ifaces, maps, wideKeys, modest, calm, conditions, laid).
  DERIVED. THE GIVEN ROWS OF THIS SEAT. 11 by the template 'for every input the law returns true; each argument reads behind the call as it read before'; 0 by the template 'total and deterministic' (their statements: YtfimgngiaggplaaTotals.lean).
  GIVEN WITH THE SEED: the statements are not yours to turn. If you find one false, say at which input.
  Laid BY PROGRAM, IN A SANDBOX (cutbox-rows.mjs): the forced cells as the released guide's own fill.sh prints them over the translation 874cac240c0f7b4b… (all of the seat's roots in one cut). By AI agents, Wed Nov 11 2026. No macro, syntax, notation, axiom, sorry.
-/
import Derived.Test.YtfimgngiaggplaaChecked
import GoSem.Claim
import GoSem.ClaimJoined
import GoSem.ClaimMapViews
import Derived.JoinedTies
import Derived.KernelRfl
namespace Go.Proofs.Ytfimgngiaggplaa
/- THE CELL 'sum', in the pinned program and in every row, IS THE sha256 OF THE DUMP (.gsa) THAT YtfimgngiaggplaaProg.lean LOADS. Nothing in Lean hashes anything: it is a label: what it is worth is what the hold of that sum in a sandbox is worth. -/
noncomputable def Try.pinned : Pinned := { name := "ytfimgngiaggplaa", sum := "874cac240c0f7b4b2651e6666e0cae1d094395478a046d3d6a647b59406741df", checked := Try.checked }
namespace Rows
def none {H : Type} : Left H := { results := [], args := [] }

/-- 'bartizanlaw20.AuditTells': WHATEVER THE INPUT: true; the input reads as it did. -/
def auditTellsSpec : ChangeSpec := { name := "auditTells", fn := fun _ => fun
  | [d1, d2, d3] => { results := [.lit (.bool true)], args := [d1, d2, d3] }
  | _ => none }
def auditTellsRow : OpenClaim := { program := "ytfimgngiaggplaa", sum := "874cac240c0f7b4b2651e6666e0cae1d094395478a046d3d6a647b59406741df", func := "bartizan/bartizanlaw20.AuditTells", spec := "auditTells", plainKeys := false, apart := false }
def AuditTellsSaid : Prop := auditTellsRow.holds Try.pinned (OpenSpec.ofChange auditTellsSpec)

/-- ITS FALSE NEIGHBOUR: 'it returns false'. Refute it at one input. -/
def auditTellsWrong : ChangeSpec := { name := "auditTells", fn := fun _ => fun
  | [d1, d2, d3] => { results := [.lit (.bool false)], args := [d1, d2, d3] }
  | _ => none }
def AuditTellsWrongFalsely : Prop := auditTellsRow.holds Try.pinned (OpenSpec.ofChange auditTellsWrong)

/-- 'bartizanlaw20.AuditPairs': WHATEVER THE INPUT: true; the input reads as it did. -/
def auditPairsSpec : ChangeSpec := { name := "auditPairs", fn := fun _ => fun
  | [d] => { results := [.lit (.bool true)], args := [d] }
  | _ => none }
def auditPairsRow : OpenClaim := { program := "ytfimgngiaggplaa", sum := "874cac240c0f7b4b2651e6666e0cae1d094395478a046d3d6a647b59406741df", func := "bartizan/bartizanlaw20.AuditPairs", spec := "auditPairs", plainKeys := false, apart := false }
def AuditPairsSaid : Prop := auditPairsRow.holds Try.pinned (OpenSpec.ofChange auditPairsSpec)

/-- ITS FALSE NEIGHBOUR: 'it returns false'. Refute it at one input. -/
def auditPairsWrong : ChangeSpec := { name := "auditPairs", fn := fun _ => fun
  | [d] => { results := [.lit (.bool false)], args := [d] }
  | _ => none }
def AuditPairsWrongFalsely : Prop := auditPairsRow.holds Try.pinned (OpenSpec.ofChange auditPairsWrong)

/-- 'bartizanlaw12.NetDoes': WHATEVER THE INPUT: true; the input reads as it did. -/
def netDoesSpec : ChangeSpec := { name := "netDoes", fn := fun _ => fun
  | [d1, d2] => { results := [.lit (.bool true)], args := [d1, d2] }
  | _ => none }
def netDoesRow : OpenClaim := { program := "ytfimgngiaggplaa", sum := "874cac240c0f7b4b2651e6666e0cae1d094395478a046d3d6a647b59406741df", func := "bartizan/bartizanlaw12.NetDoes", spec := "netDoes", plainKeys := false, apart := false }
def NetDoesSaid : Prop := netDoesRow.holds Try.pinned (OpenSpec.ofChange netDoesSpec)

/-- ITS FALSE NEIGHBOUR: 'it returns false'. Refute it at one input. -/
def netDoesWrong : ChangeSpec := { name := "netDoes", fn := fun _ => fun
  | [d1, d2] => { results := [.lit (.bool false)], args := [d1, d2] }
  | _ => none }
def NetDoesWrongFalsely : Prop := netDoesRow.holds Try.pinned (OpenSpec.ofChange netDoesWrong)

/-- 'bartizanlaw12.NetOrder': WHATEVER THE INPUT: true; the input reads as it did. -/
def netOrderSpec : ChangeSpec := { name := "netOrder", fn := fun _ => fun
  | [d1, d2] => { results := [.lit (.bool true)], args := [d1, d2] }
  | _ => none }
def netOrderRow : OpenClaim := { program := "ytfimgngiaggplaa", sum := "874cac240c0f7b4b2651e6666e0cae1d094395478a046d3d6a647b59406741df", func := "bartizan/bartizanlaw12.NetOrder", spec := "netOrder", plainKeys := false, apart := false }
def NetOrderSaid : Prop := netOrderRow.holds Try.pinned (OpenSpec.ofChange netOrderSpec)

/-- ITS FALSE NEIGHBOUR: 'it returns false'. Refute it at one input. -/
def netOrderWrong : ChangeSpec := { name := "netOrder", fn := fun _ => fun
  | [d1, d2] => { results := [.lit (.bool false)], args := [d1, d2] }
  | _ => none }
def NetOrderWrongFalsely : Prop := netOrderRow.holds Try.pinned (OpenSpec.ofChange netOrderWrong)

/-- 'bartizanlaw12.NetOwn': WHATEVER THE INPUT: true; the input reads as it did. -/
def netOwnSpec : ChangeSpec := { name := "netOwn", fn := fun _ => fun
  | [d] => { results := [.lit (.bool true)], args := [d] }
  | _ => none }
def netOwnRow : OpenClaim := { program := "ytfimgngiaggplaa", sum := "874cac240c0f7b4b2651e6666e0cae1d094395478a046d3d6a647b59406741df", func := "bartizan/bartizanlaw12.NetOwn", spec := "netOwn", plainKeys := false, apart := false }
def NetOwnSaid : Prop := netOwnRow.holds Try.pinned (OpenSpec.ofChange netOwnSpec)

/-- ITS FALSE NEIGHBOUR: 'it returns false'. Refute it at one input. -/
def netOwnWrong : ChangeSpec := { name := "netOwn", fn := fun _ => fun
  | [d] => { results := [.lit (.bool false)], args := [d] }
  | _ => none }
def NetOwnWrongFalsely : Prop := netOwnRow.holds Try.pinned (OpenSpec.ofChange netOwnWrong)

/-- 'bartizanlaw11.CacheDoes': WHATEVER THE INPUT: true; the input reads as it did. -/
def cacheDoesSpec : ChangeSpec := { name := "cacheDoes", fn := fun _ => fun
  | [d1, d2] => { results := [.lit (.bool true)], args := [d1, d2] }
  | _ => none }
def cacheDoesRow : OpenClaim := { program := "ytfimgngiaggplaa", sum := "874cac240c0f7b4b2651e6666e0cae1d094395478a046d3d6a647b59406741df", func := "bartizan/bartizanlaw11.CacheDoes", spec := "cacheDoes", plainKeys := false, apart := false }
def CacheDoesSaid : Prop := cacheDoesRow.holds Try.pinned (OpenSpec.ofChange cacheDoesSpec)

/-- ITS FALSE NEIGHBOUR: 'it returns false'. Refute it at one input. -/
def cacheDoesWrong : ChangeSpec := { name := "cacheDoes", fn := fun _ => fun
  | [d1, d2] => { results := [.lit (.bool false)], args := [d1, d2] }
  | _ => none }
def CacheDoesWrongFalsely : Prop := cacheDoesRow.holds Try.pinned (OpenSpec.ofChange cacheDoesWrong)

/-- 'bartizanlaw11.CacheBound': WHATEVER THE INPUT: true; the input reads as it did. -/
def cacheBoundSpec : ChangeSpec := { name := "cacheBound", fn := fun _ => fun
  | [d1, d2] => { results := [.lit (.bool true)], args := [d1, d2] }
  | _ => none }
def cacheBoundRow : OpenClaim := { program := "ytfimgngiaggplaa", sum := "874cac240c0f7b4b2651e6666e0cae1d094395478a046d3d6a647b59406741df", func := "bartizan/bartizanlaw11.CacheBound", spec := "cacheBound", plainKeys := false, apart := false }
def CacheBoundSaid : Prop := cacheBoundRow.holds Try.pinned (OpenSpec.ofChange cacheBoundSpec)

/-- ITS FALSE NEIGHBOUR: 'it returns false'. Refute it at one input. -/
def cacheBoundWrong : ChangeSpec := { name := "cacheBound", fn := fun _ => fun
  | [d1, d2] => { results := [.lit (.bool false)], args := [d1, d2] }
  | _ => none }
def CacheBoundWrongFalsely : Prop := cacheBoundRow.holds Try.pinned (OpenSpec.ofChange cacheBoundWrong)

/-- 'bartizanlaw11.CacheKinds': WHATEVER THE INPUT: true; the input reads as it did. -/
def cacheKindsSpec : ChangeSpec := { name := "cacheKinds", fn := fun _ => fun
  | [d1, d2] => { results := [.lit (.bool true)], args := [d1, d2] }
  | _ => none }
def cacheKindsRow : OpenClaim := { program := "ytfimgngiaggplaa", sum := "874cac240c0f7b4b2651e6666e0cae1d094395478a046d3d6a647b59406741df", func := "bartizan/bartizanlaw11.CacheKinds", spec := "cacheKinds", plainKeys := false, apart := false }
def CacheKindsSaid : Prop := cacheKindsRow.holds Try.pinned (OpenSpec.ofChange cacheKindsSpec)

/-- ITS FALSE NEIGHBOUR: 'it returns false'. Refute it at one input. -/
def cacheKindsWrong : ChangeSpec := { name := "cacheKinds", fn := fun _ => fun
  | [d1, d2] => { results := [.lit (.bool false)], args := [d1, d2] }
  | _ => none }
def CacheKindsWrongFalsely : Prop := cacheKindsRow.holds Try.pinned (OpenSpec.ofChange cacheKindsWrong)

/-- 'bartizanlaw09.FieldOwn': WHATEVER THE INPUT: true; the input reads as it did. -/
def fieldOwnSpec : ChangeSpec := { name := "fieldOwn", fn := fun _ => fun
  | [d] => { results := [.lit (.bool true)], args := [d] }
  | _ => none }
def fieldOwnRow : OpenClaim := { program := "ytfimgngiaggplaa", sum := "874cac240c0f7b4b2651e6666e0cae1d094395478a046d3d6a647b59406741df", func := "bartizan/bartizanlaw09.FieldOwn", spec := "fieldOwn", plainKeys := false, apart := false }
def FieldOwnSaid : Prop := fieldOwnRow.holds Try.pinned (OpenSpec.ofChange fieldOwnSpec)

/-- ITS FALSE NEIGHBOUR: 'it returns false'. Refute it at one input. -/
def fieldOwnWrong : ChangeSpec := { name := "fieldOwn", fn := fun _ => fun
  | [d] => { results := [.lit (.bool false)], args := [d] }
  | _ => none }
def FieldOwnWrongFalsely : Prop := fieldOwnRow.holds Try.pinned (OpenSpec.ofChange fieldOwnWrong)

/-- 'bartizanlaw10.NoteTells': WHATEVER THE INPUT: true; the input reads as it did. -/
def noteTellsSpec : ChangeSpec := { name := "noteTells", fn := fun _ => fun
  | [d1, d2] => { results := [.lit (.bool true)], args := [d1, d2] }
  | _ => none }
def noteTellsRow : OpenClaim := { program := "ytfimgngiaggplaa", sum := "874cac240c0f7b4b2651e6666e0cae1d094395478a046d3d6a647b59406741df", func := "bartizan/bartizanlaw10.NoteTells", spec := "noteTells", unfollowed := true, recurses := true, plainKeys := false, apart := false }
def NoteTellsSaid : Prop := noteTellsRow.holds Try.pinned (OpenSpec.ofChange noteTellsSpec)

/-- ITS FALSE NEIGHBOUR: 'it returns false'. Refute it at one input. -/
def noteTellsWrong : ChangeSpec := { name := "noteTells", fn := fun _ => fun
  | [d1, d2] => { results := [.lit (.bool false)], args := [d1, d2] }
  | _ => none }
def NoteTellsWrongFalsely : Prop := noteTellsRow.holds Try.pinned (OpenSpec.ofChange noteTellsWrong)

/-- 'bartizanlaw10.NoteBack': WHATEVER THE INPUT: true; the input reads as it did. -/
def noteBackSpec : ChangeSpec := { name := "noteBack", fn := fun _ => fun
  | [d1, d2] => { results := [.lit (.bool true)], args := [d1, d2] }
  | _ => none }
def noteBackRow : OpenClaim := { program := "ytfimgngiaggplaa", sum := "874cac240c0f7b4b2651e6666e0cae1d094395478a046d3d6a647b59406741df", func := "bartizan/bartizanlaw10.NoteBack", spec := "noteBack", unfollowed := true, recurses := true, plainKeys := false, apart := false }
def NoteBackSaid : Prop := noteBackRow.holds Try.pinned (OpenSpec.ofChange noteBackSpec)

/-- ITS FALSE NEIGHBOUR: 'it returns false'. Refute it at one input. -/
def noteBackWrong : ChangeSpec := { name := "noteBack", fn := fun _ => fun
  | [d1, d2] => { results := [.lit (.bool false)], args := [d1, d2] }
  | _ => none }
def NoteBackWrongFalsely : Prop := noteBackRow.holds Try.pinned (OpenSpec.ofChange noteBackWrong)

/- THE SECOND FORM. 'bulk': how many values and letters a reading holds, each counted each time it is reached (what is shared counts as often as it is met; a slice's spare places count too). A statement '..UptoSaid' is the law's where the arguments, and the package variables that the reading takes, are together of bulk at most 1048576: NARROWER than '..Said'. Prove '..Said' where nothing that the law and all that it calls make is longer than what came in: it says more and counts as full. Else prove '..UptoSaid'. A law counts once. -/
mutual
def uptoBulk {H : Type} : DataW H → Nat
  | .lit (.string bytes) => bytes.length + 1
  | .lit _ => 1
  | .nil => 1
  | .ptr d => uptoBulk d + 1
  | .slice elems spare => uptoBulkAll elems + uptoBulkAll spare + 1
  | .agg parts => uptoBulkAll parts + 1
  | .iface _ d => uptoBulk d + 1
  | .map entries => uptoBulkEntries entries + 1
  | .held _ => 1
def uptoBulkAll {H : Type} : List (DataW H) → Nat
  | [] => 0
  | d :: r => uptoBulk d + uptoBulkAll r
def uptoBulkEntries {H : Type} : List (Lit × DataW H) → Nat
  | [] => 0
  | x :: r => uptoBulkEntry x + uptoBulkEntries r
def uptoBulkEntry {H : Type} : Lit × DataW H → Nat
  | (.string bytes, d) => bytes.length + uptoBulk d + 1
  | (_, d) => uptoBulk d + 1
 end
def uptoSmall : (H : Type) → List (DataW H) → Bool := fun _ ds => decide (uptoBulkAll ds ≤ 1048576)
def OpenSpec.upto (s : _root_.Go.ChangeSpec) : _root_.Go.OpenSpec := { _root_.Go.OpenSpec.ofChange s with cond := some uptoSmall }

/-- 'bartizanlaw20.AuditTells', WHERE WHAT IT READS IS OF BULK AT MOST 1048576: true; the input reads as it did. -/
def auditTellsUptoRow : OpenClaim := { program := "ytfimgngiaggplaa", sum := "874cac240c0f7b4b2651e6666e0cae1d094395478a046d3d6a647b59406741df", func := "bartizan/bartizanlaw20.AuditTells", spec := "auditTells", plainKeys := false, apart := false, narrowed := true }
def AuditTellsUptoSaid : Prop := auditTellsUptoRow.holds Try.pinned (OpenSpec.upto auditTellsSpec)

/-- 'bartizanlaw20.AuditPairs', WHERE WHAT IT READS IS OF BULK AT MOST 1048576: true; the input reads as it did. -/
def auditPairsUptoRow : OpenClaim := { program := "ytfimgngiaggplaa", sum := "874cac240c0f7b4b2651e6666e0cae1d094395478a046d3d6a647b59406741df", func := "bartizan/bartizanlaw20.AuditPairs", spec := "auditPairs", plainKeys := false, apart := false, narrowed := true }
def AuditPairsUptoSaid : Prop := auditPairsUptoRow.holds Try.pinned (OpenSpec.upto auditPairsSpec)

/-- 'bartizanlaw12.NetDoes', WHERE WHAT IT READS IS OF BULK AT MOST 1048576: true; the input reads as it did. -/
def netDoesUptoRow : OpenClaim := { program := "ytfimgngiaggplaa", sum := "874cac240c0f7b4b2651e6666e0cae1d094395478a046d3d6a647b59406741df", func := "bartizan/bartizanlaw12.NetDoes", spec := "netDoes", plainKeys := false, apart := false, narrowed := true }
def NetDoesUptoSaid : Prop := netDoesUptoRow.holds Try.pinned (OpenSpec.upto netDoesSpec)

/-- 'bartizanlaw12.NetOrder', WHERE WHAT IT READS IS OF BULK AT MOST 1048576: true; the input reads as it did. -/
def netOrderUptoRow : OpenClaim := { program := "ytfimgngiaggplaa", sum := "874cac240c0f7b4b2651e6666e0cae1d094395478a046d3d6a647b59406741df", func := "bartizan/bartizanlaw12.NetOrder", spec := "netOrder", plainKeys := false, apart := false, narrowed := true }
def NetOrderUptoSaid : Prop := netOrderUptoRow.holds Try.pinned (OpenSpec.upto netOrderSpec)

/-- 'bartizanlaw12.NetOwn', WHERE WHAT IT READS IS OF BULK AT MOST 1048576: true; the input reads as it did. -/
def netOwnUptoRow : OpenClaim := { program := "ytfimgngiaggplaa", sum := "874cac240c0f7b4b2651e6666e0cae1d094395478a046d3d6a647b59406741df", func := "bartizan/bartizanlaw12.NetOwn", spec := "netOwn", plainKeys := false, apart := false, narrowed := true }
def NetOwnUptoSaid : Prop := netOwnUptoRow.holds Try.pinned (OpenSpec.upto netOwnSpec)

/-- 'bartizanlaw11.CacheDoes', WHERE WHAT IT READS IS OF BULK AT MOST 1048576: true; the input reads as it did. -/
def cacheDoesUptoRow : OpenClaim := { program := "ytfimgngiaggplaa", sum := "874cac240c0f7b4b2651e6666e0cae1d094395478a046d3d6a647b59406741df", func := "bartizan/bartizanlaw11.CacheDoes", spec := "cacheDoes", plainKeys := false, apart := false, narrowed := true }
def CacheDoesUptoSaid : Prop := cacheDoesUptoRow.holds Try.pinned (OpenSpec.upto cacheDoesSpec)

/-- 'bartizanlaw11.CacheBound', WHERE WHAT IT READS IS OF BULK AT MOST 1048576: true; the input reads as it did. -/
def cacheBoundUptoRow : OpenClaim := { program := "ytfimgngiaggplaa", sum := "874cac240c0f7b4b2651e6666e0cae1d094395478a046d3d6a647b59406741df", func := "bartizan/bartizanlaw11.CacheBound", spec := "cacheBound", plainKeys := false, apart := false, narrowed := true }
def CacheBoundUptoSaid : Prop := cacheBoundUptoRow.holds Try.pinned (OpenSpec.upto cacheBoundSpec)

/-- 'bartizanlaw11.CacheKinds', WHERE WHAT IT READS IS OF BULK AT MOST 1048576: true; the input reads as it did. -/
def cacheKindsUptoRow : OpenClaim := { program := "ytfimgngiaggplaa", sum := "874cac240c0f7b4b2651e6666e0cae1d094395478a046d3d6a647b59406741df", func := "bartizan/bartizanlaw11.CacheKinds", spec := "cacheKinds", plainKeys := false, apart := false, narrowed := true }
def CacheKindsUptoSaid : Prop := cacheKindsUptoRow.holds Try.pinned (OpenSpec.upto cacheKindsSpec)

/-- 'bartizanlaw09.FieldOwn', WHERE WHAT IT READS IS OF BULK AT MOST 1048576: true; the input reads as it did. -/
def fieldOwnUptoRow : OpenClaim := { program := "ytfimgngiaggplaa", sum := "874cac240c0f7b4b2651e6666e0cae1d094395478a046d3d6a647b59406741df", func := "bartizan/bartizanlaw09.FieldOwn", spec := "fieldOwn", plainKeys := false, apart := false, narrowed := true }
def FieldOwnUptoSaid : Prop := fieldOwnUptoRow.holds Try.pinned (OpenSpec.upto fieldOwnSpec)

/-- 'bartizanlaw10.NoteTells', WHERE WHAT IT READS IS OF BULK AT MOST 1048576: true; the input reads as it did. -/
def noteTellsUptoRow : OpenClaim := { program := "ytfimgngiaggplaa", sum := "874cac240c0f7b4b2651e6666e0cae1d094395478a046d3d6a647b59406741df", func := "bartizan/bartizanlaw10.NoteTells", spec := "noteTells", unfollowed := true, recurses := true, plainKeys := false, apart := false, narrowed := true }
def NoteTellsUptoSaid : Prop := noteTellsUptoRow.holds Try.pinned (OpenSpec.upto noteTellsSpec)

/-- 'bartizanlaw10.NoteBack', WHERE WHAT IT READS IS OF BULK AT MOST 1048576: true; the input reads as it did. -/
def noteBackUptoRow : OpenClaim := { program := "ytfimgngiaggplaa", sum := "874cac240c0f7b4b2651e6666e0cae1d094395478a046d3d6a647b59406741df", func := "bartizan/bartizanlaw10.NoteBack", spec := "noteBack", unfollowed := true, recurses := true, plainKeys := false, apart := false, narrowed := true }
def NoteBackUptoSaid : Prop := noteBackUptoRow.holds Try.pinned (OpenSpec.upto noteBackSpec)

end Rows
end Go.Proofs.Ytfimgngiaggplaa

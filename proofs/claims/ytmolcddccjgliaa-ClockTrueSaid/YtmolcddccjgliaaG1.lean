/- What is used by all layers: names of types; are bytes the same; lists of bytes, one behind the other. -/
import Derived.Test.YtmolcddccjgliaaM5
import Derived.Test.YtmolcddccjgliaaProg
import Derived.KernelRfl
set_option linter.unusedVariables false
set_option maxRecDepth 100000
namespace Go.Proofs.Ytmolcddccjgliaa.Gen
open Go Vse Go.Proofs

abbrev i64 : Ty := .int .i64
abbrev u8 : Ty := .int .u8
abbrev bs : Ty := .imm false false u8
abbrev bt : Ty := .imm true false u8
abbrev w (x : Int) : Int := IntKind.i64.wrap x
abbrev wb (x : Int) : Int := IntKind.u8.wrap x
abbrev wu (x : Int) : Int := IntKind.u64.wrap x

theorem w_id {x : Int} (h : -9223372036854775808 ≤ x) (h' : x ≤ 9223372036854775807) : w x = x := by
  simp [IntKind.wrap, IntKind.signed, IntKind.bits]
  split <;> omega

theorem nil_sound : CtxSound Try.prog (ctx []) ∧ CtxLocal (ctx []) := ctx_sound trivial

/-! bartizanref01.All -/

abbrev ls : Ty := .imm false false bt
abbrev lt : Ty := .imm true false bt

end Go.Proofs.Ytmolcddccjgliaa.Gen

/- The statements of layer 10 (note) hold: NoteTells. No conditions but the given ones. Part 5. -/
import Derived.Test.YtpafadpfpfgfjaaJ4
import Derived.Shelf.SlicesE.Clone
import Derived.Shelf.SlicesE.Delete
import Derived.Test.YtpafadpfpfgfjaaRows
import Derived.ProofKit
import Derived.SizedLaws
set_option linter.unusedVariables false
set_option linter.unusedSimpArgs false
section
set_option linter.unusedVariables false
set_option linter.unusedSimpArgs false
set_option maxRecDepth 100000
namespace Go.Proofs.Ytpafadpfpfgfjaa.Nte
open Go Vse Go.Proofs Gen
open Kdc (w16 lt tN Nt zero16 note0 e0 nameF hasF w_succ inArr_of getD_of)
abbrev iN : Ty := .ip true tN
abbrev part16 (x : List Int) : List Int := (x.drop 0).take 16
def cloB_ren : Go.Shelf.Ren := ⟨fun | 41 => 80 | n => n, fun | 22 => 34 | 23 => 5 | 4 => 4 | n => n, fun | n => n⟩
theorem cloB : Go.Proofs.SlLaysE0.n41 Try.prog cloB_ren := {
 mixed := by kernel_rfl
 f41 := ⟨Try.f80.name, by decide, Try.func80.trans (congrArg some (by kernel_rfl))⟩
 t4 := Try.underlying4
 a4 := Try.isAgg4
 z4 := Try.sizeOf4
 v4 := Try.zeroValue4
 t22 := Try.underlying34
 a22 := Try.isAgg34
 z22 := Try.sizeOf34
 v22 := Try.zeroValue34 }
theorem tClS (l : List Int) : nrm (fnS Try.prog (ctx []) L0 [bt] Try.f80 (mkArgs [.imm true true u8] (l, ()))) = (Tr.chk (Vse.room (0 + l.length) 1) (.ret (.v bt l)) : Tr AV).eval := by kernel_rfl
def okC (l : List Int) : Bool := decide (l.length ≤ 140737488355328)
def sClS : CSpec := .slp1 [bt] (fun xs => okC xs.1) bt fun xs => xs.1
theorem okClS : CSound Try.prog 80 sClS ∧ CLocal sClS :=
 clone_sound (A := u8) nil_sound Try.func80 rfl rfl (by kernel_rfl) (noLoopsL (by kernel_rfl)) (fun n c w => AnyE.slices_Clone_nil cloB n c w) fun l hl => (tClS l).trans (chk_eval (by
  have := of_decide_eq_true hl
  simp [Vse.room]; omega) _)
abbrev nGf (T : Ty) : PSpec := ⟨[iN], [.ip true T], [], [], []⟩
abbrev nPf (m : Nat) : PSpec := ⟨[.ptr 0 []], [.ptr 0 [.fld m]], [.box tN], [.box tN], []⟩
def sGf (T : Ty) (f : Nt → T.den) : CSpec := .pos (nGf T) (fun _ _ => true) fun xs _ => ((f xs.1, ()), ())
def sPf (m : Nat) : CSpec := .pos (nPf m) (fun _ _ => true) fun xs hs => (((), ()), hs)
theorem okGA : CSound Try.prog 113 (sGf .str fun n => n.2.1) ∧ CLocal (sGf .str fun n => n.2.1) :=
 pos_sound (L := L0) nil_sound Try.func113 (by kernel_rfl) (noLoopsL (by kernel_rfl)) fun xs hs hx hh hp => (show ∀ n : Nt, (fnP Try.prog (ctx []) L0 (nGf .str) Try.f113 (n, ()) ()).eval = (.ret ((n.2.1, ()), ()) : Tr (nGf .str).Out).eval from fun n => by kernel_rfl) xs.1
theorem okPA : CSound Try.prog 113 (sPf 1) ∧ CLocal (sPf 1) :=
 pos_sound (L := L0) nil_sound Try.func113 (by kernel_rfl) (noLoopsL (by kernel_rfl)) fun xs hs hx hh hp => (show ∀ n : Nt, (fnP Try.prog (ctx []) L0 (nPf 1) Try.f113 ((), ()) (n, ())).eval = (.ret (((), ()), (n, ())) : Tr (nPf 1).Out).eval from fun n => by kernel_rfl) hs.1
theorem okGB : CSound Try.prog 114 (sGf .str fun n => n.2.2.1) ∧ CLocal (sGf .str fun n => n.2.2.1) :=
 pos_sound (L := L0) nil_sound Try.func114 (by kernel_rfl) (noLoopsL (by kernel_rfl)) fun xs hs hx hh hp => (show ∀ n : Nt, (fnP Try.prog (ctx []) L0 (nGf .str) Try.f114 (n, ()) ()).eval = (.ret ((n.2.2.1, ()), ()) : Tr (nGf .str).Out).eval from fun n => by kernel_rfl) xs.1
theorem okPB : CSound Try.prog 114 (sPf 2) ∧ CLocal (sPf 2) :=
 pos_sound (L := L0) nil_sound Try.func114 (by kernel_rfl) (noLoopsL (by kernel_rfl)) fun xs hs hx hh hp => (show ∀ n : Nt, (fnP Try.prog (ctx []) L0 (nPf 2) Try.f114 ((), ()) (n, ())).eval = (.ret (((), ()), (n, ())) : Tr (nPf 2).Out).eval from fun n => by kernel_rfl) hs.1
theorem okGX : CSound Try.prog 116 (sGf w16 fun n => n.2.2.2.1) ∧ CLocal (sGf w16 fun n => n.2.2.2.1) :=
 pos_sound (L := L0) nil_sound Try.func116 (by kernel_rfl) (noLoopsL (by kernel_rfl)) fun xs hs hx hh hp => (show ∀ n : Nt, (fnP Try.prog (ctx []) L0 (nGf w16) Try.f116 (n, ()) ()).eval = (.ret ((n.2.2.2.1, ()), ()) : Tr (nGf w16).Out).eval from fun n => by kernel_rfl) xs.1
theorem okPX : CSound Try.prog 116 (sPf 3) ∧ CLocal (sPf 3) :=
 pos_sound (L := L0) nil_sound Try.func116 (by kernel_rfl) (noLoopsL (by kernel_rfl)) fun xs hs hx hh hp => (show ∀ n : Nt, (fnP Try.prog (ctx []) L0 (nPf 3) Try.f116 ((), ()) (n, ())).eval = (.ret (((), ()), (n, ())) : Tr (nPf 3).Out).eval from fun n => by kernel_rfl) hs.1
theorem okGY : CSound Try.prog 117 (sGf w16 fun n => n.2.2.2.2.1) ∧ CLocal (sGf w16 fun n => n.2.2.2.2.1) :=
 pos_sound (L := L0) nil_sound Try.func117 (by kernel_rfl) (noLoopsL (by kernel_rfl)) fun xs hs hx hh hp => (show ∀ n : Nt, (fnP Try.prog (ctx []) L0 (nGf w16) Try.f117 (n, ()) ()).eval = (.ret ((n.2.2.2.2.1, ()), ()) : Tr (nGf w16).Out).eval from fun n => by kernel_rfl) xs.1
theorem okPY : CSound Try.prog 117 (sPf 4) ∧ CLocal (sPf 4) :=
 pos_sound (L := L0) nil_sound Try.func117 (by kernel_rfl) (noLoopsL (by kernel_rfl)) fun xs hs hx hh hp => (show ∀ n : Nt, (fnP Try.prog (ctx []) L0 (nPf 4) Try.f117 ((), ()) (n, ())).eval = (.ret (((), ()), (n, ())) : Tr (nPf 4).Out).eval from fun n => by kernel_rfl) hs.1
theorem okGP : CSound Try.prog 119 (sGf bt fun n => n.2.2.2.2.2.1) ∧ CLocal (sGf bt fun n => n.2.2.2.2.2.1) :=
 pos_sound (L := L0) nil_sound Try.func119 (by kernel_rfl) (noLoopsL (by kernel_rfl)) fun xs hs hx hh hp => (show ∀ n : Nt, (fnP Try.prog (ctx []) L0 (nGf bt) Try.f119 (n, ()) ()).eval = (.ret ((n.2.2.2.2.2.1, ()), ()) : Tr (nGf bt).Out).eval from fun n => by kernel_rfl) xs.1
theorem okPP : CSound Try.prog 119 (sPf 5) ∧ CLocal (sPf 5) :=
 pos_sound (L := L0) nil_sound Try.func119 (by kernel_rfl) (noLoopsL (by kernel_rfl)) fun xs hs hx hh hp => (show ∀ n : Nt, (fnP Try.prog (ctx []) L0 (nPf 5) Try.f119 ((), ()) (n, ())).eval = (.ret (((), ()), (n, ())) : Tr (nPf 5).Out).eval from fun n => by kernel_rfl) hs.1
theorem okGQ : CSound Try.prog 120 (sGf bt fun n => n.2.2.2.2.2.2.1) ∧ CLocal (sGf bt fun n => n.2.2.2.2.2.2.1) :=
 pos_sound (L := L0) nil_sound Try.func120 (by kernel_rfl) (noLoopsL (by kernel_rfl)) fun xs hs hx hh hp => (show ∀ n : Nt, (fnP Try.prog (ctx []) L0 (nGf bt) Try.f120 (n, ()) ()).eval = (.ret ((n.2.2.2.2.2.2.1, ()), ()) : Tr (nGf bt).Out).eval from fun n => by kernel_rfl) xs.1
theorem okPQ : CSound Try.prog 120 (sPf 6) ∧ CLocal (sPf 6) :=
 pos_sound (L := L0) nil_sound Try.func120 (by kernel_rfl) (noLoopsL (by kernel_rfl)) fun xs hs hx hh hp => (show ∀ n : Nt, (fnP Try.prog (ctx []) L0 (nPf 6) Try.f120 ((), ()) (n, ())).eval = (.ret (((), ()), (n, ())) : Tr (nPf 6).Out).eval from fun n => by kernel_rfl) hs.1
theorem okGR : CSound Try.prog 121 (sGf bt fun n => n.2.2.2.2.2.2.2.1) ∧ CLocal (sGf bt fun n => n.2.2.2.2.2.2.2.1) :=
 pos_sound (L := L0) nil_sound Try.func121 (by kernel_rfl) (noLoopsL (by kernel_rfl)) fun xs hs hx hh hp => (show ∀ n : Nt, (fnP Try.prog (ctx []) L0 (nGf bt) Try.f121 (n, ()) ()).eval = (.ret ((n.2.2.2.2.2.2.2.1, ()), ()) : Tr (nGf bt).Out).eval from fun n => by kernel_rfl) xs.1
theorem okPR : CSound Try.prog 121 (sPf 7) ∧ CLocal (sPf 7) :=
 pos_sound (L := L0) nil_sound Try.func121 (by kernel_rfl) (noLoopsL (by kernel_rfl)) fun xs hs hx hh hp => (show ∀ n : Nt, (fnP Try.prog (ctx []) L0 (nPf 7) Try.f121 ((), ()) (n, ())).eval = (.ret (((), ()), (n, ())) : Tr (nPf 7).Out).eval from fun n => by kernel_rfl) hs.1
abbrev nNg (k : Nat) : PSpec := ⟨[iN, .ptr 0 []], [bt], [.box (.fn k .unit)], [.box (.fn k .unit)], []⟩
abbrev nNs (k : Nat) : PSpec := ⟨[.ptr 0 [], bt, .ptr 1 []], [.bool], [.box tN, .box (.fn k .unit)], [.box tN, .box (.fn k .unit)], []⟩
def sNg (k : Nat) (f : Nt → List Int) : CSpec := .pos (nNg k) (fun _ _ => true) fun xs hs => ((f xs.1, ()), hs)
def sNs (k : Nat) (p : List Int → Bool) (ok : List Int → Bool) (f : Nt → List Int → Nt) : CSpec := .pos (nNs k) (fun xs _ => p xs.2.1) fun xs hs => ((ok xs.2.1, ()), (f hs.1 xs.2.1, hs.2))
def firstFn : List Entry → Option Nat
 | .box (.fn k _) _ :: _ => some k
 | _ :: l => firstFn l
 | [] => none
def selFn (k : Nat) : List AV → List Entry → Option Bool := fun _ es => match firstFn es with
 | some j => some (decide (j = k))
 | none => none
abbrev yes1 : List Int → Bool := fun _ => true
abbrev wordF : List Int → HL [w16, i64] := fun a => Fld.wordI a
def getA (n : Nt) : List Int := strBytes n.2.1
def setA (n : Nt) (b : List Int) : Nt := (n.1, bytesStr b, n.2.2)
theorem okNgA : CSound Try.prog 134 (sNg 113 getA) ∧ CLocal (sNg 113 getA) :=
 pos_sound (L := L0) (C := ctx [(113, sGf .str fun n => n.2.1)]) (ctx_sound ⟨okGA, trivial⟩) Try.func134 (by kernel_rfl) (noLoopsL (by kernel_rfl)) fun xs hs hx hh hp =>
  (show ∀ n : Nt, (fnP Try.prog (ctx [(113, sGf .str fun n => n.2.1)]) L0 (nNg 113) Try.f134 (n, (), ()) ((), ())).eval = (.ret ((getA n, ()), ((), ())) : Tr (nNg 113).Out).eval from fun n => by kernel_rfl) xs.1
theorem tNsA (n : Nt) (b : List Int) : (fnP Try.prog (ctx [(113, sPf 1), (48, .sl1 [.str] .bool fun x => nameF x.1)]) L0 (nNs 113) Try.f135 ((), b, (), ()) (n, (), ())).eval = (.ret ((nameF (bytesStr b), ()), (setA n b, (), ())) : Tr (nNs 113).Out).eval := by kernel_rfl
abbrev okA : List Int → Bool := fun b => nameF (bytesStr b)
theorem okNsA : CSound Try.prog 135 (sNs 113 yes1 okA setA) ∧ CLocal (sNs 113 yes1 okA setA) :=
 pos_sound (L := L0) (C := ctx [(113, sPf 1), (48, .sl1 [.str] .bool fun x => nameF x.1)]) (ctx_sound ⟨okPA, Fld.ok36, trivial⟩) Try.func135 (by kernel_rfl) (noLoopsL (by kernel_rfl)) fun xs hs hx hh hp => (tNsA hs.1 xs.2.1).trans rfl
def getB (n : Nt) : List Int := strBytes n.2.2.1
def setB (n : Nt) (b : List Int) : Nt := (n.1, n.2.1, bytesStr b, n.2.2.2)
theorem okNgB : CSound Try.prog 134 (sNg 114 getB) ∧ CLocal (sNg 114 getB) :=
 pos_sound (L := L0) (C := ctx [(114, sGf .str fun n => n.2.2.1)]) (ctx_sound ⟨okGB, trivial⟩) Try.func134 (by kernel_rfl) (noLoopsL (by kernel_rfl)) fun xs hs hx hh hp =>
  (show ∀ n : Nt, (fnP Try.prog (ctx [(114, sGf .str fun n => n.2.2.1)]) L0 (nNg 114) Try.f134 (n, (), ()) ((), ())).eval = (.ret ((getB n, ()), ((), ())) : Tr (nNg 114).Out).eval from fun n => by kernel_rfl) xs.1
theorem tNsB (n : Nt) (b : List Int) : (fnP Try.prog (ctx [(114, sPf 2), (48, .sl1 [.str] .bool fun x => nameF x.1)]) L0 (nNs 114) Try.f135 ((), b, (), ()) (n, (), ())).eval = (.ret ((nameF (bytesStr b), ()), (setB n b, (), ())) : Tr (nNs 114).Out).eval := by kernel_rfl
abbrev okB : List Int → Bool := fun b => nameF (bytesStr b)
theorem okNsB : CSound Try.prog 135 (sNs 114 yes1 okB setB) ∧ CLocal (sNs 114 yes1 okB setB) :=
 pos_sound (L := L0) (C := ctx [(114, sPf 2), (48, .sl1 [.str] .bool fun x => nameF x.1)]) (ctx_sound ⟨okPB, Fld.ok36, trivial⟩) Try.func135 (by kernel_rfl) (noLoopsL (by kernel_rfl)) fun xs hs hx hh hp => (tNsB hs.1 xs.2.1).trans rfl
def getX (n : Nt) : List Int := part16 n.2.2.2.1
def setX (n : Nt) (b : List Int) : Nt := (n.1, n.2.1, n.2.2.1, (wordF b).1, n.2.2.2.2)
theorem okNgX : CSound Try.prog 136 (sNg 116 getX) ∧ CLocal (sNg 116 getX) :=
 pos_sound (L := L0) (C := ctx [(116, sGf w16 fun n => n.2.2.2.1)]) (ctx_sound ⟨okGX, trivial⟩) Try.func136 (by kernel_rfl) (noLoopsL (by kernel_rfl)) fun xs hs hx hh hp =>
  (show ∀ n : Nt, (fnP Try.prog (ctx [(116, sGf w16 fun n => n.2.2.2.1)]) L0 (nNg 116) Try.f136 (n, (), ()) ((), ())).eval = (.ret ((getX n, ()), ((), ())) : Tr (nNg 116).Out).eval from fun n => by kernel_rfl) xs.1
theorem tNsX (n : Nt) (b : List Int) : (fnP Try.prog (ctx [(116, sPf 3), (79, .sl [bs] [w16, i64] fun x => wordF x.1)]) L0 (nNs 116) Try.f137 ((), b, (), ()) (n, (), ())).eval = (.ret (((wordF b).2.1 == 0, ()), (setX n b, (), ())) : Tr (nNs 116).Out).eval := by kernel_rfl
abbrev okX : List Int → Bool := fun b => (wordF b).2.1 == 0
theorem okNsX : CSound Try.prog 137 (sNs 116 yes1 okX setX) ∧ CLocal (sNs 116 yes1 okX setX) :=
 pos_sound (L := L0) (C := ctx [(116, sPf 3), (79, .sl [bs] [w16, i64] fun x => wordF x.1)]) (ctx_sound ⟨okPX, Fld.ok31, trivial⟩) Try.func137 (by kernel_rfl) (noLoopsL (by kernel_rfl)) fun xs hs hx hh hp => (tNsX hs.1 xs.2.1).trans rfl
def getY (n : Nt) : List Int := part16 n.2.2.2.2.1
def setY (n : Nt) (b : List Int) : Nt := (n.1, n.2.1, n.2.2.1, n.2.2.2.1, (wordF b).1, n.2.2.2.2.2)
theorem okNgY : CSound Try.prog 136 (sNg 117 getY) ∧ CLocal (sNg 117 getY) :=
 pos_sound (L := L0) (C := ctx [(117, sGf w16 fun n => n.2.2.2.2.1)]) (ctx_sound ⟨okGY, trivial⟩) Try.func136 (by kernel_rfl) (noLoopsL (by kernel_rfl)) fun xs hs hx hh hp =>
  (show ∀ n : Nt, (fnP Try.prog (ctx [(117, sGf w16 fun n => n.2.2.2.2.1)]) L0 (nNg 117) Try.f136 (n, (), ()) ((), ())).eval = (.ret ((getY n, ()), ((), ())) : Tr (nNg 117).Out).eval from fun n => by kernel_rfl) xs.1
theorem tNsY (n : Nt) (b : List Int) : (fnP Try.prog (ctx [(117, sPf 4), (79, .sl [bs] [w16, i64] fun x => wordF x.1)]) L0 (nNs 117) Try.f137 ((), b, (), ()) (n, (), ())).eval = (.ret (((wordF b).2.1 == 0, ()), (setY n b, (), ())) : Tr (nNs 117).Out).eval := by kernel_rfl
abbrev okY : List Int → Bool := fun b => (wordF b).2.1 == 0
theorem okNsY : CSound Try.prog 137 (sNs 117 yes1 okY setY) ∧ CLocal (sNs 117 yes1 okY setY) :=
 pos_sound (L := L0) (C := ctx [(117, sPf 4), (79, .sl [bs] [w16, i64] fun x => wordF x.1)]) (ctx_sound ⟨okPY, Fld.ok31, trivial⟩) Try.func137 (by kernel_rfl) (noLoopsL (by kernel_rfl)) fun xs hs hx hh hp => (tNsY hs.1 xs.2.1).trans rfl
def getP (n : Nt) : List Int := n.2.2.2.2.2.1
def setP (n : Nt) (b : List Int) : Nt := (n.1, n.2.1, n.2.2.1, n.2.2.2.1, n.2.2.2.2.1, b, n.2.2.2.2.2.2)
theorem okNgP : CSound Try.prog 138 (sNg 119 getP) ∧ CLocal (sNg 119 getP) :=
 pos_sound (L := L0) (C := ctx [(119, sGf bt fun n => n.2.2.2.2.2.1)]) (ctx_sound ⟨okGP, trivial⟩) Try.func138 (by kernel_rfl) (noLoopsL (by kernel_rfl)) fun xs hs hx hh hp =>
  (show ∀ n : Nt, (fnP Try.prog (ctx [(119, sGf bt fun n => n.2.2.2.2.2.1)]) L0 (nNg 119) Try.f138 (n, (), ()) ((), ())).eval = (.ret ((getP n, ()), ((), ())) : Tr (nNg 119).Out).eval from fun n => by kernel_rfl) xs.1
theorem tNsP (n : Nt) (b : List Int) : (fnP Try.prog (ctx [(119, sPf 5), (80, sClS)]) L0 (nNs 119) Try.f139 ((), b, (), ()) (n, (), ())).eval = (.chk (okC b) (.ret ((true, ()), (setP n b, (), ()))) : Tr (nNs 119).Out).eval := by kernel_rfl
abbrev okP : List Int → Bool := yes1
theorem okNsP : CSound Try.prog 139 (sNs 119 okC okP setP) ∧ CLocal (sNs 119 okC okP setP) :=
 pos_sound (L := L0) (C := ctx [(119, sPf 5), (80, sClS)]) (ctx_sound ⟨okPP, okClS, trivial⟩) Try.func139 (by kernel_rfl) (noLoopsL (by kernel_rfl)) fun xs hs hx hh hp => (tNsP hs.1 xs.2.1).trans (chk_eval hp _)
def getQ (n : Nt) : List Int := n.2.2.2.2.2.2.1
def setQ (n : Nt) (b : List Int) : Nt := (n.1, n.2.1, n.2.2.1, n.2.2.2.1, n.2.2.2.2.1, n.2.2.2.2.2.1, b, n.2.2.2.2.2.2.2)
theorem okNgQ : CSound Try.prog 138 (sNg 120 getQ) ∧ CLocal (sNg 120 getQ) :=
 pos_sound (L := L0) (C := ctx [(120, sGf bt fun n => n.2.2.2.2.2.2.1)]) (ctx_sound ⟨okGQ, trivial⟩) Try.func138 (by kernel_rfl) (noLoopsL (by kernel_rfl)) fun xs hs hx hh hp =>
  (show ∀ n : Nt, (fnP Try.prog (ctx [(120, sGf bt fun n => n.2.2.2.2.2.2.1)]) L0 (nNg 120) Try.f138 (n, (), ()) ((), ())).eval = (.ret ((getQ n, ()), ((), ())) : Tr (nNg 120).Out).eval from fun n => by kernel_rfl) xs.1
theorem tNsQ (n : Nt) (b : List Int) : (fnP Try.prog (ctx [(120, sPf 6), (80, sClS)]) L0 (nNs 120) Try.f139 ((), b, (), ()) (n, (), ())).eval = (.chk (okC b) (.ret ((true, ()), (setQ n b, (), ()))) : Tr (nNs 120).Out).eval := by kernel_rfl
abbrev okQ : List Int → Bool := yes1
theorem okNsQ : CSound Try.prog 139 (sNs 120 okC okQ setQ) ∧ CLocal (sNs 120 okC okQ setQ) :=
 pos_sound (L := L0) (C := ctx [(120, sPf 6), (80, sClS)]) (ctx_sound ⟨okPQ, okClS, trivial⟩) Try.func139 (by kernel_rfl) (noLoopsL (by kernel_rfl)) fun xs hs hx hh hp => (tNsQ hs.1 xs.2.1).trans (chk_eval hp _)
def getR (n : Nt) : List Int := n.2.2.2.2.2.2.2.1
def setR (n : Nt) (b : List Int) : Nt := (n.1, n.2.1, n.2.2.1, n.2.2.2.1, n.2.2.2.2.1, n.2.2.2.2.2.1, n.2.2.2.2.2.2.1, b, n.2.2.2.2.2.2.2.2)
theorem okNgR : CSound Try.prog 138 (sNg 121 getR) ∧ CLocal (sNg 121 getR) :=
 pos_sound (L := L0) (C := ctx [(121, sGf bt fun n => n.2.2.2.2.2.2.2.1)]) (ctx_sound ⟨okGR, trivial⟩) Try.func138 (by kernel_rfl) (noLoopsL (by kernel_rfl)) fun xs hs hx hh hp =>
  (show ∀ n : Nt, (fnP Try.prog (ctx [(121, sGf bt fun n => n.2.2.2.2.2.2.2.1)]) L0 (nNg 121) Try.f138 (n, (), ()) ((), ())).eval = (.ret ((getR n, ()), ((), ())) : Tr (nNg 121).Out).eval from fun n => by kernel_rfl) xs.1
theorem tNsR (n : Nt) (b : List Int) : (fnP Try.prog (ctx [(121, sPf 7), (80, sClS)]) L0 (nNs 121) Try.f139 ((), b, (), ()) (n, (), ())).eval = (.chk (okC b) (.ret ((true, ()), (setR n b, (), ()))) : Tr (nNs 121).Out).eval := by kernel_rfl
abbrev okR : List Int → Bool := yes1
theorem okNsR : CSound Try.prog 139 (sNs 121 okC okR setR) ∧ CLocal (sNs 121 okC okR setR) :=
 pos_sound (L := L0) (C := ctx [(121, sPf 7), (80, sClS)]) (ctx_sound ⟨okPR, okClS, trivial⟩) Try.func139 (by kernel_rfl) (noLoopsL (by kernel_rfl)) fun xs hs hx hh hp => (tNsR hs.1 xs.2.1).trans (chk_eval hp _)
abbrev tPt (a b : Nat) : Ty := .prod (.fn a (.prod (.ptr 0 []) .unit)) (.prod (.fn b (.prod (.ptr 0 []) .unit)) .unit)
abbrev nNm (k a b : Nat) : PSpec := ⟨[.fn k .unit], [tPt a b], [], [.box (.fn k .unit)], []⟩
abbrev nPt (k a b : Nat) : PSpec := ⟨[.int .i32], [tPt a b], [], [.box (.fn k .unit)], []⟩
def sNm (k a b : Nat) : CSpec := .pos (nNm k a b) (fun _ _ => true) fun _ _ => (((((), ()), ((), ()), ()), ()), ((), ()))
def sPt (k a b : Nat) (c : Int) : CSpec := .pos (nPt k a b) (fun xs _ => decide (xs.1 = c)) fun _ _ => (((((), ()), ((), ()), ()), ()), ((), ()))
def selC (x : Int) : List AV → List Entry → Option Bool := fun vs _ => match vs with
 | [.v (.int .i32) c] => some (decide (c = x))
 | _ => none
theorem okNmA : CSound Try.prog 112 (sNm 113 134 135) ∧ CLocal (sNm 113 134 135) :=
 pos_sound (L := L0) nil_sound Try.func112 (by kernel_rfl) (noLoopsL (by kernel_rfl)) fun xs hs hx hh hp => by kernel_rfl
theorem okNmB : CSound Try.prog 112 (sNm 114 134 135) ∧ CLocal (sNm 114 134 135) :=
 pos_sound (L := L0) nil_sound Try.func112 (by kernel_rfl) (noLoopsL (by kernel_rfl)) fun xs hs hx hh hp => by kernel_rfl
theorem okNmX : CSound Try.prog 115 (sNm 116 136 137) ∧ CLocal (sNm 116 136 137) :=
 pos_sound (L := L0) nil_sound Try.func115 (by kernel_rfl) (noLoopsL (by kernel_rfl)) fun xs hs hx hh hp => by kernel_rfl
theorem okNmY : CSound Try.prog 115 (sNm 117 136 137) ∧ CLocal (sNm 117 136 137) :=
 pos_sound (L := L0) nil_sound Try.func115 (by kernel_rfl) (noLoopsL (by kernel_rfl)) fun xs hs hx hh hp => by kernel_rfl
theorem okNmP : CSound Try.prog 118 (sNm 119 138 139) ∧ CLocal (sNm 119 138 139) :=
 pos_sound (L := L0) nil_sound Try.func118 (by kernel_rfl) (noLoopsL (by kernel_rfl)) fun xs hs hx hh hp => by kernel_rfl
theorem okNmQ : CSound Try.prog 118 (sNm 120 138 139) ∧ CLocal (sNm 120 138 139) :=
 pos_sound (L := L0) nil_sound Try.func118 (by kernel_rfl) (noLoopsL (by kernel_rfl)) fun xs hs hx hh hp => by kernel_rfl
theorem okNmR : CSound Try.prog 118 (sNm 121 138 139) ∧ CLocal (sNm 121 138 139) :=
 pos_sound (L := L0) nil_sound Try.func118 (by kernel_rfl) (noLoopsL (by kernel_rfl)) fun xs hs hx hh hp => by kernel_rfl
theorem okPtA : CSound Try.prog 88 (sPt 113 134 135 65) ∧ CLocal (sPt 113 134 135 65) :=
 pos_sound (L := L0) (C := ctx [(112, sNm 113 134 135)]) (ctx_sound ⟨okNmA, trivial⟩) Try.func88 (by kernel_rfl) (noLoopsL (by kernel_rfl)) fun xs hs hx hh hp => by
  obtain ⟨c, u⟩ := xs
  have hc : c = (65 : Int) := of_decide_eq_true hp
  subst hc
  change _ = _
  kernel_rfl
theorem okPtB : CSound Try.prog 88 (sPt 114 134 135 66) ∧ CLocal (sPt 114 134 135 66) :=
 pos_sound (L := L0) (C := ctx [(112, sNm 114 134 135)]) (ctx_sound ⟨okNmB, trivial⟩) Try.func88 (by kernel_rfl) (noLoopsL (by kernel_rfl)) fun xs hs hx hh hp => by
  obtain ⟨c, u⟩ := xs
  have hc : c = (66 : Int) := of_decide_eq_true hp
  subst hc
  change _ = _
  kernel_rfl
theorem okPtX : CSound Try.prog 88 (sPt 116 136 137 88) ∧ CLocal (sPt 116 136 137 88) :=
 pos_sound (L := L0) (C := ctx [(115, sNm 116 136 137)]) (ctx_sound ⟨okNmX, trivial⟩) Try.func88 (by kernel_rfl) (noLoopsL (by kernel_rfl)) fun xs hs hx hh hp => by
  obtain ⟨c, u⟩ := xs
  have hc : c = (88 : Int) := of_decide_eq_true hp
  subst hc
  change _ = _
  kernel_rfl
theorem okPtY : CSound Try.prog 88 (sPt 117 136 137 89) ∧ CLocal (sPt 117 136 137 89) :=
 pos_sound (L := L0) (C := ctx [(115, sNm 117 136 137)]) (ctx_sound ⟨okNmY, trivial⟩) Try.func88 (by kernel_rfl) (noLoopsL (by kernel_rfl)) fun xs hs hx hh hp => by
  obtain ⟨c, u⟩ := xs
  have hc : c = (89 : Int) := of_decide_eq_true hp
  subst hc
  change _ = _
  kernel_rfl
theorem okPtP : CSound Try.prog 88 (sPt 119 138 139 80) ∧ CLocal (sPt 119 138 139 80) :=
 pos_sound (L := L0) (C := ctx [(118, sNm 119 138 139)]) (ctx_sound ⟨okNmP, trivial⟩) Try.func88 (by kernel_rfl) (noLoopsL (by kernel_rfl)) fun xs hs hx hh hp => by
  obtain ⟨c, u⟩ := xs
  have hc : c = (80 : Int) := of_decide_eq_true hp
  subst hc
  change _ = _
  kernel_rfl
theorem okPtQ : CSound Try.prog 88 (sPt 120 138 139 81) ∧ CLocal (sPt 120 138 139 81) :=
 pos_sound (L := L0) (C := ctx [(118, sNm 120 138 139)]) (ctx_sound ⟨okNmQ, trivial⟩) Try.func88 (by kernel_rfl) (noLoopsL (by kernel_rfl)) fun xs hs hx hh hp => by
  obtain ⟨c, u⟩ := xs
  have hc : c = (81 : Int) := of_decide_eq_true hp
  subst hc
  change _ = _
  kernel_rfl
theorem okPtR : CSound Try.prog 88 (sPt 121 138 139 82) ∧ CLocal (sPt 121 138 139 82) :=
 pos_sound (L := L0) (C := ctx [(118, sNm 121 138 139)]) (ctx_sound ⟨okNmR, trivial⟩) Try.func88 (by kernel_rfl) (noLoopsL (by kernel_rfl)) fun xs hs hx hh hp => by
  obtain ⟨c, u⟩ := xs
  have hc : c = (82 : Int) := of_decide_eq_true hp
  subst hc
  change _ = _
  kernel_rfl
def sParted : CSpec := (.two (selC 65) (sPt 113 134 135 65) (.two (selC 66) (sPt 114 134 135 66) (.two (selC 88) (sPt 116 136 137 88) (.two (selC 89) (sPt 117 136 137 89) (.two (selC 80) (sPt 119 138 139 80) (.two (selC 81) (sPt 120 138 139 81) (sPt 121 138 139 82)))))))
theorem okParted : CSound Try.prog 88 sParted ∧ CLocal sParted := (two_sound _ rfl rfl okPtA (two_sound _ rfl rfl okPtB (two_sound _ rfl rfl okPtX (two_sound _ rfl rfl okPtY (two_sound _ rfl rfl okPtP (two_sound _ rfl rfl okPtQ okPtR))))))
def sGetName : CSpec := (.two (selFn 113) (sNg 113 getA) (sNg 114 getB))
theorem okGetName : CSound Try.prog 134 sGetName ∧ CLocal sGetName := (two_sound _ rfl rfl okNgA okNgB)
def sSetName : CSpec := (.two (selFn 113) (sNs 113 yes1 okA setA) (sNs 114 yes1 okB setB))
theorem okSetName : CSound Try.prog 135 sSetName ∧ CLocal sSetName := (two_sound _ rfl rfl okNsA okNsB)
def sGetWord : CSpec := (.two (selFn 116) (sNg 116 getX) (sNg 117 getY))
theorem okGetWord : CSound Try.prog 136 sGetWord ∧ CLocal sGetWord := (two_sound _ rfl rfl okNgX okNgY)
def sSetWord : CSpec := (.two (selFn 116) (sNs 116 yes1 okX setX) (sNs 117 yes1 okY setY))
theorem okSetWord : CSound Try.prog 137 sSetWord ∧ CLocal sSetWord := (two_sound _ rfl rfl okNsX okNsY)
def sGetBlob : CSpec := (.two (selFn 119) (sNg 119 getP) (.two (selFn 120) (sNg 120 getQ) (sNg 121 getR)))
theorem okGetBlob : CSound Try.prog 138 sGetBlob ∧ CLocal sGetBlob := (two_sound _ rfl rfl okNgP (two_sound _ rfl rfl okNgQ okNgR))
def sSetBlob : CSpec := (.two (selFn 119) (sNs 119 okC okP setP) (.two (selFn 120) (sNs 120 okC okQ setQ) (sNs 121 okC okR setR)))
theorem okSetBlob : CSound Try.prog 139 sSetBlob ∧ CLocal sSetBlob := (two_sound _ rfl rfl okNsP (two_sound _ rfl rfl okNsQ okNsR))
end Go.Proofs.Ytpafadpfpfgfjaa.Nte
end
section
set_option linter.unusedVariables false
namespace Vse
open Go Go.ChangeShapes
def unrollK (body : St → Tr (Ex × St)) : Nat → St → Tr (Ex × St)
 | 0, _ => .fail
 | n + 1, st => (body st).bind fun r => match r.1 with
  | .normal => unrollK body n r.2
  | x => .ret (x, r.2)
section
variable {P : Program} {C : Ctx} {L : Loops}
theorem unrollK_sound {rd : Option Nat} (hC : CtxSound P C ∧ CtxLocal C) {c : Code} (hl : LoopsOK P L c) {n : Nat} {g : G} {st st' : St} {a : Act} {w : World} {x : Ex} {Q : Exit → Act → World → Prop}
  (hs : SRep g st a w) (he : (unrollK (bodyK P C L c) n st).eval = some (x, st')) (hn : ∀ g' a' w', g.le g' → SRep g' st' a' w' → Q x.out a' w') :
  (Code.loop c).wpIn (FW rd) 0 P Q a w := by
 refine wpIn_loop_ghost (fun m a w => ∃ g1 s, g.le g1 ∧ SRep g1 s a w ∧ (unrollK (bodyK P C L c) m s).eval = some (x, st')) n ⟨g, st, G.le.refl g, hs, he⟩ ?_
 rintro m a w ⟨g1, s, hle, hs1, he1⟩
 cases m with
 | zero => exact (Tr.fail_some he1).elim
 | succ m =>
  obtain ⟨r, h1, h2⟩ := Tr.bind_some he1
  obtain ⟨y, s2⟩ := r
  refine code_sound hC.1 hC.2 c hl hs1 (bodyK_ok h1) ?_
  intro g2 a' w' hle2 hs2
  simp only at h2
  cases y with
  | normal => exact ⟨m, Nat.lt_succ_self m, g2, _, hle.trans hle2, hs2, h2⟩
  | exit i =>
   have := Tr.ret_some h2
   simp only [Prod.mk.injEq] at this
   obtain ⟨rfl, rfl⟩ := this
   exact hn _ _ _ (hle.trans hle2) hs2
  | ret =>
   have := Tr.ret_some h2
   simp only [Prod.mk.injEq] at this
   obtain ⟨rfl, rfl⟩ := this
   exact hn _ _ _ (hle.trans hle2) hs2
def runLoopK (P : Program) (C : Ctx) (L : Loops) (n : Nat) (c : Code) (st : St) : Tr (Ex × St) := unrollK (bodyK P C L c) n st
theorem runLoopK_ok {L' : Loops} (hC : CtxSound P C ∧ CtxLocal C) {c : Code} (hl : LoopsOK P L' c) {i n : Nat} (hi : firstReg c = some i) (hL : ∀ st, L i st = runLoopK P C L' n c st) : LoopOK P L c := by
 intro j hj rd g st a w x st' Q hs he hn
 rw [hi] at hj
 cases hj
 rw [hL] at he
 exact unrollK_sound hC hl hs he hn
end
end Vse
end
section
set_option linter.unusedVariables false
set_option linter.unusedSimpArgs false
set_option maxRecDepth 100000
namespace Go.Proofs.Ytpafadpfpfgfjaa.Nte
open Go Vse Go.Proofs Gen
open Kdc (w16 tN Nt zero16 note0 e0 nameF hasF lHas w_succ inArr_of getD_of)
abbrev nHa : PSpec := ⟨[i64], [.str], [], [], []⟩
def sHa (k : Int) (s : ByteArray) : CSpec := .pos nHa (fun xs _ => decide (xs.1 = k)) fun xs _ => ((s, ()), ())
def THa (k : Int) : Tr nHa.Out := .ite (decide (k < 1)) (.ret ((e0, ()), ())) (.ite (decide (k > 16)) (.ret ((e0, ()), ())) (.chk (inArr k lHas.length) (.ret ((lHas.getD k.toNat e0, ()), ()))))
theorem tHa (k : Int) : (fnP Try.prog (ctx []) L0 nHa Try.f87 (k, ()) ()).eval = (THa k).eval := by kernel_rfl
theorem THa_eq (k : Int) : (THa k).eval = some ((hasF k, ()), ()) := by
 unfold THa hasF
 have e : (lHas.length : Int) = 17 := by decide
 by_cases h1 : k < 1
 ·rw [ite_t (decide_eq_true h1), if_pos h1]; rfl
 ·rw [ite_f (decide_eq_false h1), if_neg h1, e]
  by_cases h2 : (17 : Int) ≤ k
  ·rw [ite_t (decide_eq_true (by omega)), if_pos h2]; rfl
  ·rw [ite_f (decide_eq_false (by omega)), if_neg h2, chk_eval (by simp only [inArr, Bool.and_eq_true, decide_eq_true_eq]; omega)]; rfl
theorem okHa (k : Int) : CSound Try.prog 87 (sHa k (hasF k)) ∧ CLocal (sHa k (hasF k)) :=
 pos_sound (L := L0) nil_sound Try.func87 (by kernel_rfl) (noLoopsL (by kernel_rfl)) fun xs hs hx hh hp => by
  have hk : xs.1 = k := of_decide_eq_true hp
  rw [← hk]
  exact (tHa xs.1).trans (THa_eq xs.1)
theorem has_mem (k : Int) : hasF k ∈ lHas := by
 have h0 : e0 ∈ lHas := List.mem_cons_self
 unfold hasF
 split
 ·exact h0
 split
 ·exact h0
 ·rename_i h1 h2
  have : k.toNat < lHas.length := by omega
  rw [getD_of this]
  exact List.getElem_mem this
abbrev nPs : PSpec := ⟨[tN], [Gen.lt], [], [], []⟩
def kPs : Cut := ⟨0, [.box tN], [], [1], [iN], [.dead], 21⟩
noncomputable def bPs : Code := loopAt Try.f58 0
def cPs (k : Int) (s : ByteArray) : List (Nat × CSpec) := [(87, sHa k s), (88, sParted), (134, sGetName), (136, sGetWord), (138, sGetBlob)]
noncomputable def LPs (k : Int) (s : ByteArray) : Loops := fun j st => if j = 3 then runLoopK Try.prog (ctx (cPs k s)) L0 6 bPs st else .fail
def getF (n : Nt) (c : Int) : List Int := if c = 65 then getA n else if c = 66 then getB n else if c = 88 then getX n else if c = 89 then getY n else if c = 80 then getP n else if c = 81 then getQ n else getR n
def partsN (n : Nt) : List (List Int) := (strBytes (hasF n.1)).map (getF n)
def TPs (s : ByteArray) (n : Nt) (k : Int) : Tr nPs.Out := .chk (decide (n.1 = k)) (.ret (((strBytes s).map (getF n), ()), ()))
noncomputable abbrev runPs (k : Int) (s : ByteArray) : St → Tr (Ex × St) := runCut Try.prog (ctx (cPs k s)) (LPs k s) kPs 0 (bodyOf Try.f58)
def QPs (s : ByteArray) : Prop := ∀ (k : Int) (n : Nt), (fnPX Try.prog (runPs k s) nPs Try.f58 (n, ()) ()).eval = (TPs s n k).eval
theorem qPs0 : QPs ⟨#[]⟩ := fun k n => by kernel_rfl
theorem qPs1 : QPs ⟨#[65, 88]⟩ := fun k n => by kernel_rfl
theorem qPs2 : QPs ⟨#[66, 80, 89]⟩ := fun k n => by kernel_rfl
theorem qPs3 : QPs ⟨#[80, 81, 89]⟩ := fun k n => by kernel_rfl
theorem qPs4 : QPs ⟨#[81, 80]⟩ := fun k n => by kernel_rfl
theorem qPs5 : QPs ⟨#[80]⟩ := fun k n => by kernel_rfl
theorem qPs6 : QPs ⟨#[65, 88, 66, 89]⟩ := fun k n => by kernel_rfl
theorem qPs7 : QPs ⟨#[80, 81]⟩ := fun k n => by kernel_rfl
theorem qPs8 : QPs ⟨#[80, 81, 82, 89]⟩ := fun k n => by kernel_rfl
theorem qPs9 : QPs ⟨#[81, 88]⟩ := fun k n => by kernel_rfl
theorem qPs10 : QPs ⟨#[89, 80]⟩ := fun k n => by kernel_rfl
theorem qPs11 : QPs ⟨#[65]⟩ := fun k n => by kernel_rfl
theorem qPs : ∀ s ∈ lHas, QPs s := fun s hs => by
 unfold lHas at hs
 simp only [List.mem_cons, List.not_mem_nil, or_false] at hs
 rcases hs with rfl | rfl | rfl | rfl | rfl | rfl | rfl | rfl | rfl | rfl | rfl | rfl | rfl | rfl | rfl | rfl | rfl
 ·exact qPs0
 ·exact qPs1
 ·exact qPs2
 ·exact qPs3
 ·exact qPs4
 ·exact qPs5
 ·exact qPs1
 ·exact qPs6
 ·exact qPs7
 ·exact qPs8
 ·exact qPs5
 ·exact qPs9
 ·exact qPs10
 ·exact qPs5
 ·exact qPs1
 ·exact qPs5
 ·exact qPs11
def kindOf : List AV → Int
 | [.v (.prod (.int .i64) _) x] => x.1
 | _ => 0
theorem cPs_sound (k : Int) : CtxSound Try.prog (ctx (cPs k (hasF k))) ∧ CtxLocal (ctx (cPs k (hasF k))) := ctx_sound ⟨okHa k, okParted, okGetName, okGetWord, okGetBlob, trivial⟩
theorem lPs (k : Int) : LoopOK Try.prog (LPs k (hasF k)) bPs := runLoopK_ok (L' := L0) (n := 6) (cPs_sound k) (loopsOK_of (by kernel_rfl)) (i := 3) (by kernel_rfl) (fun _ => rfl)
theorem loops_Ps : loopsOf (bodyOf Try.f58) = [bPs] := by kernel_rfl
def sPs (f : Nt → List (List Int)) : CSpec := .pos nPs (fun _ _ => true) fun xs _ => ((f xs.1, ()), ())
theorem okPs : CSound Try.prog 58 (sPs partsN) ∧ CLocal (sPs partsN) :=
 pos_soundX (fnX := fun vs H => fnTX Try.prog (runPs (kindOf vs) (hasF (kindOf vs))) Try.f58 vs H) (fun args w => callFunc_enter Try.func58 (by kernel_rfl) (c := bodyOf Try.f58) (by kernel_rfl) args w)
  (fun {g H H' w vs rvs v} hI hargs he => fn_soundX Try.func58 (c := bodyOf Try.f58) (by kernel_rfl) (runCut_ok (cPs_sound (kindOf vs)) kPs 0 _ (loopsOK_all fun b hb => by
   rw [loops_Ps, List.mem_singleton] at hb
   subst hb
   exact lPs (kindOf vs))) hI hargs he)
  fun xs hs hx hh hp => by
   obtain ⟨n, u⟩ := xs
   refine (qPs (hasF n.1) (has_mem n.1) n.1 n).trans ?_
   unfold TPs
   rw [chk_eval (decide_eq_true rfl)]
   rfl
abbrev nMd : PSpec := ⟨[i64, Gen.ls], [tN, .bool], [], [], []⟩
noncomputable def bMd : Code := loopAt Try.f59 0
def cMd (k : Int) (s : ByteArray) : List (Nat × CSpec) := [(87, sHa k s), (88, sParted), (135, sSetName), (137, sSetWord), (139, sSetBlob)]
noncomputable def LMd (k : Int) (s : ByteArray) : Loops := fun j st => if j = 6 then runLoopK Try.prog (ctx (cMd k s)) L0 6 bMd st else .fail
def okF (c : Int) (b : List Int) : Bool := if c = 65 then okA b else if c = 66 then okB b else if c = 88 then okX b else if c = 89 then okY b else true
def preF (c : Int) (b : List Int) : Bool := if c = 65 then true else if c = 66 then true else if c = 88 then true else if c = 89 then true else okC b
def setF (n : Nt) (c : Int) (b : List Int) : Nt := if c = 65 then setA n b else if c = 66 then setB n b else if c = 88 then setX n b else if c = 89 then setY n b else if c = 80 then setP n b else if c = 81 then setQ n b else setR n b
def TMs : List Int → Nat → Nt → List (List Int) → Tr nMd.Out
 | [], _, n, _ => .ret ((n, true, ()), ())
 | c :: cs, i, n, l => .chk (inArr (i : Int) l.length) (.chk (preF c (l.getD i [])) (.ite (!okF c (l.getD i [])) (.ret ((note0, false, ()), ())) (TMs cs (i + 1) (setF n c (l.getD i [])) l)))
def no0 (k : Int) : Nt := (k, e0, e0, zero16, zero16, [], [], [], ())
def TMd (s : ByteArray) (j : Int) (l : List (List Int)) (k : Int) : Tr nMd.Out := .chk (decide (j = k)) (.ite (s == e0) (.ret ((note0, false, ()), ())) (.ite (!decide ((l.length : Int) = (s.size : Int))) (.ret ((note0, false, ()), ())) (TMs (strBytes s) 0 (no0 j) l)))
def QMd (s : ByteArray) : Prop := ∀ (k : Int) (j : Int) (l : List (List Int)), (fnP Try.prog (ctx (cMd k s)) (LMd k s) nMd Try.f59 (j, l, ()) ()).eval = (TMd s j l k).eval
theorem qMd0 : QMd ⟨#[]⟩ := fun k j l => by kernel_rfl
theorem qMd1 : QMd ⟨#[65, 88]⟩ := fun k j l => by kernel_rfl
theorem qMd2 : QMd ⟨#[66, 80, 89]⟩ := fun k j l => by kernel_rfl
theorem qMd3 : QMd ⟨#[80, 81, 89]⟩ := fun k j l => by kernel_rfl
theorem qMd4 : QMd ⟨#[81, 80]⟩ := fun k j l => by kernel_rfl
theorem qMd5 : QMd ⟨#[80]⟩ := fun k j l => by kernel_rfl
theorem qMd6 : QMd ⟨#[65, 88, 66, 89]⟩ := fun k j l => by kernel_rfl
theorem qMd7 : QMd ⟨#[80, 81]⟩ := fun k j l => by kernel_rfl
theorem qMd8 : QMd ⟨#[80, 81, 82, 89]⟩ := fun k j l => by kernel_rfl
theorem qMd9 : QMd ⟨#[81, 88]⟩ := fun k j l => by kernel_rfl
theorem qMd10 : QMd ⟨#[89, 80]⟩ := fun k j l => by kernel_rfl
theorem qMd11 : QMd ⟨#[65]⟩ := fun k j l => by kernel_rfl
theorem qMd : ∀ s ∈ lHas, QMd s := fun s hs => by
 unfold lHas at hs
 simp only [List.mem_cons, List.not_mem_nil, or_false] at hs
 rcases hs with rfl | rfl | rfl | rfl | rfl | rfl | rfl | rfl | rfl | rfl | rfl | rfl | rfl | rfl | rfl | rfl | rfl
 ·exact qMd0
 ·exact qMd1
 ·exact qMd2
 ·exact qMd3
 ·exact qMd4
 ·exact qMd5
 ·exact qMd1
 ·exact qMd6
 ·exact qMd7
 ·exact qMd8
 ·exact qMd5
 ·exact qMd9
 ·exact qMd10
 ·exact qMd5
 ·exact qMd1
 ·exact qMd5
 ·exact qMd11
end Go.Proofs.Ytpafadpfpfgfjaa.Nte
end
section
set_option linter.unusedVariables false
set_option linter.unusedSimpArgs false
set_option maxRecDepth 100000
namespace Go.Proofs.Ytpafadpfpfgfjaa.Kdc
open Go Vse Go.Proofs Gen
open Fld (putI splitI hd1 hd2 preB encL)
open Seal (Bytes badL)
open Ctr (B16)
theorem bytesStr_snoc (l : List Int) (x : Int) : bytesStr (l ++ [x]) = (bytesStr l).push (UInt8.ofNat x.toNat) := by unfold bytesStr; rw [List.foldl_append]; rfl
theorem strBytes_push (s : ByteArray) (c : UInt8) : strBytes (s.push c) = strBytes s ++ [(c.toNat : Int)] := by
 unfold strBytes
 rw [ByteArray.data_push, Array.toList_push, List.map_append]
 rfl
theorem strBytes_of (l : List Int) (h : Bytes l) : strBytes (bytesStr l) = l := by
 rw [← List.reverse_reverse l] at h ⊢
 generalize l.reverse = r at h ⊢
 induction r with
 | nil => rfl
 | cons x r ih =>
  rw [List.reverse_cons] at h ⊢
  have hx := h x (by simp)
  rw [bytesStr_snoc, strBytes_push, ih fun y hy => h y (List.mem_append_left _ hy)]
  have e : ((UInt8.ofNat x.toNat).toNat : Int) = x := by
   rw [UInt8.toNat_ofNat']
   omega
  rw [e]
theorem strBytes_bytes (s : ByteArray) : Bytes (strBytes s) := fun x hx => by
 unfold strBytes at hx
 obtain ⟨c, _, rfl⟩ := List.mem_map.1 hx
 have := c.toNat_lt
 omega
theorem encL_bytes : ∀ {l : List (List Int)} {b : List Int}, encL l = b → Bytes b → ∀ p ∈ l, Bytes p
 | [], _, _, _, p, hp => by cases hp
 | q :: l, b, e, hb, p, hp => by
  have e : hd1 q ++ q ++ encL l = b := e
  rcases List.mem_cons.1 hp with rfl | hp
  ·intro x hx; exact hb x (by rw [← e]; simp [hx])
  ·exact encL_bytes (l := l) rfl (fun x hx => hb x (by rw [← e]; simp [hx])) p hp
theorem split_bytes {b : List Int} {r : List (List Int)} (hb : Bytes b) (h : splitI b = (r, 0, ())) : ∀ p ∈ r, Bytes p := by
 unfold splitI at h
 cases hs : Fld.splitG (b.length + 1) b [] with
 | mk c r' =>
  rw [hs] at h
  simp only at h
  by_cases hc : c = 0
  ·subst hc
   simp only [decide_true, cond_true, Prod.mk.injEq, and_true] at h
   subst h
   obtain ⟨l, h1, h2, h3, h4⟩ := Fld.enc_split _ b [] r' hb (by omega) (by simp) hs
   simp only [List.nil_append] at h1
   subst h1
   exact encL_bytes h2 hb
  ·rw [decide_eq_false hc] at h
   simp only [cond_false, Prod.mk.injEq] at h
   exact absurd h.2.1 hc
theorem encL_put {l : List (List Int)} (h20 : l.length ≤ 20) (h5 : ∀ p ∈ l, p.length ≤ 500) : putF l = (encL l, 0, ()) := by
 show putI hd1 l = _
 unfold Fld.putI
 rw [decide_eq_false (show ¬ (l.length : Int) > 20 by omega), Fld.putG_enc l [] h5]
 simp
end Go.Proofs.Ytpafadpfpfgfjaa.Kdc
end
section
set_option linter.unusedVariables false
set_option linter.unusedSimpArgs false
set_option maxRecDepth 100000
namespace Go.Proofs.Ytpafadpfpfgfjaa.Kdc
open Go Vse Go.Proofs Gen
open Fld (putI splitI hd1 hd2 preB encL)
open Seal (Bytes badL)
open Ctr (B16)
abbrev Ds := List (List Int)
end Go.Proofs.Ytpafadpfpfgfjaa.Kdc
end
section
set_option linter.unusedVariables false
set_option linter.unusedSimpArgs false
set_option maxRecDepth 100000
namespace Go.Proofs.Ytpafadpfpfgfjaa.Kdc
open Go Vse Go.Proofs Gen
abbrev nAk : PSpec := ⟨[], [.bool], [], [], []⟩
def b16k (x : Int) : List Int := (List.replicate 16 0).set 0 x
def sUp (f : Bool) : CSpec := .pos nAk (fun _ _ => true) fun _ _ => ((f, ()), ())
def sSa (f : Nt → Nt → Bool) : CSpec := .pos nSa (fun _ _ => true) fun xs _ => ((f xs.1 xs.2.1, ()), ())
end Go.Proofs.Ytpafadpfpfgfjaa.Kdc
end
section
set_option linter.unusedVariables false
set_option linter.unusedSimpArgs false
set_option maxRecDepth 100000
namespace Go.Proofs.Ytpafadpfpfgfjaa.Kdc
open Go Vse Go.Proofs Gen
open Fld (putI splitI hd1 hd2 preB encL)
open Seal (Bytes badL)
open Ctr (B16)
theorem str_self (s : ByteArray) : (s == s) = true := (MapKept.bytes_beq s s).2 rfl
abbrev smF : List Int → List Int → Bool := Fld.sameI
def sameN (a b : Nt) : Bool := decide (a.1 = b.1) && ((a.2.1 == b.2.1) && ((a.2.2.1 == b.2.2.1) && (eqT w16 a.2.2.2.1 b.2.2.2.1 && (eqT w16 a.2.2.2.2.1 b.2.2.2.2.1 && (smF a.2.2.2.2.2.1 b.2.2.2.2.2.1 && (smF a.2.2.2.2.2.2.1 b.2.2.2.2.2.2.1 && smF a.2.2.2.2.2.2.2.1 b.2.2.2.2.2.2.2.1))))))
theorem okSa : CSound Try.prog 40 (sSa sameN) ∧ CLocal (sSa sameN) :=
 pos_sound (L := L0) (C := ctx [(26, .sl1 [bs, bs] .bool fun x => smF x.1 x.2.1)]) (ctx_sound ⟨Fld.ok19, trivial⟩) Try.func40 (by kernel_rfl) (noLoopsL (by kernel_rfl)) fun xs hs hx hh hp => by
  obtain ⟨a, b, u⟩ := xs
  refine (tSa smF a b).trans ?_
  show _ = some ((sameN a b, ()), ())
  unfold TSa sameN
  cases decide (a.1 = b.1) <;> cases (a.2.1 == b.2.1) <;> cases (a.2.2.1 == b.2.2.1) <;> cases eqT w16 a.2.2.2.1 b.2.2.2.1 <;> cases eqT w16 a.2.2.2.2.1 b.2.2.2.2.1 <;> cases smF a.2.2.2.2.2.1 b.2.2.2.2.2.1 <;> cases smF a.2.2.2.2.2.2.1 b.2.2.2.2.2.2.1 <;> rfl
theorem sm_self (a : List Int) : smF a a = true := decide_eq_true rfl
theorem eqW_self (x : List Int) : eqT w16 x x = true := (eqT_iff w16 x x (by decide)).2 rfl
theorem sameN_self (a : Nt) : sameN a a = true := by
 unfold sameN
 rw [decide_eq_true rfl, sm_self, sm_self, sm_self, eqW_self, eqW_self, str_self, str_self]
 rfl
end Go.Proofs.Ytpafadpfpfgfjaa.Kdc
end
section
set_option linter.unusedVariables false
namespace Vse
open Go Go.ChangeShapes Go.Proofs Go.Sort Go.Shelf
section
variable {P : Program} {C : Ctx} {L : Loops} {g : G} {H : Heap} {w : World}
abbrev Cel := { v : Value // v.oneCell' = true }
instance : Inhabited Cel := ⟨⟨.bool false, rfl⟩⟩
end
end Vse
end
section
set_option linter.unusedVariables false
set_option linter.unusedSimpArgs false
set_option maxRecDepth 100000
namespace Go.Proofs.Ytpafadpfpfgfjaa.Gst
open Go Vse Go.Proofs Gen
def okL (l : List Int) : Bool := decide (l.length ≤ 100000)
end Go.Proofs.Ytpafadpfpfgfjaa.Gst
end
section
set_option linter.unusedVariables false
set_option linter.unusedSimpArgs false
set_option maxRecDepth 100000
namespace Go.Proofs.Ytpafadpfpfgfjaa.Gst
open Go Vse Go.Proofs Gen
open Kdc (w16 lt tN Nt Rs Rl Rf Sdf Ds zero16 note0 e0 nSm)
abbrev tEv : Ty := .prod i64 (.prod i64 (.prod i64 (.prod .str (.prod .str (.prod w16 (.prod w16 (.prod w16 .unit)))))))
abbrev lEv : Ty := .imm true false tEv
abbrev tTa : Ty := .prod .str (.prod tN (.prod lEv .unit))
abbrev Gd := ByteArray × List Int × Unit × Unit × Unit
abbrev Wt := Int × Int × List Int × List Int × List Int × Bool × List Int × Unit
abbrev Tk := Int × List Int × List Int × Unit
abbrev Ev := Int × Int × Int × ByteArray × ByteArray × List Int × List Int × List Int × Unit
abbrev Ws := List (ByteArray × Wt)
abbrev Ts := List (ByteArray × Tk)
def nt (kind : Int) (a : ByteArray) (x y : List Int) (p q : List Int) : Nt := (kind, a, e0, x, y, p, q, [], ())
end Go.Proofs.Ytpafadpfpfgfjaa.Gst
end
section
set_option linter.unusedVariables false
set_option linter.unusedSimpArgs false
set_option maxRecDepth 100000
namespace Go.Proofs.Ytpafadpfpfgfjaa.Gst
open Go Vse Go.Proofs Gen
open Kdc (w16 lt tN Nt Rs Rl Rf Sdf Ds zero16 note0 e0 nSm)
abbrev Cof := Wt → ByteArray → List Int → Int
abbrev Anf := Wt → Int → ByteArray → List Int → List Int → Nt
abbrev Dof := Gd → Wt → ByteArray → List Int → List Ev
abbrev Tof := List (List Int) → Int → Int → Int → ByteArray × List Int × List Int × Bool
abbrev Tf := List Int → Int × Int × Unit
def ta0 : tTa.den := (e0, note0, [], ())
section
variable (R : Rf) (C : List Int → List Int) (co : Cof) (an : Anf) (pd : List Int → Bool) (ev : Dof) (pt : List (List Int) → Int → Int → Int → Bool) (to : Tof) (pl : ByteArray → Bool) (lb : Wt → ByteArray → ByteArray) (T : Tf)
end
end Go.Proofs.Ytpafadpfpfgfjaa.Gst
end
section
set_option linter.unusedVariables false
set_option linter.unusedSimpArgs false
set_option maxRecDepth 100000
namespace Go.Proofs.Ytpafadpfpfgfjaa.Gst
open Go Vse Go.Proofs Gen
open Kdc (w16 lt tN Nt Rs Rl Rf Sdf Ds zero16 note0 e0 nSm)
abbrev Gu := Gd × Ws × Ts × Unit
end Go.Proofs.Ytpafadpfpfgfjaa.Gst
end
section
set_option linter.unusedVariables false
set_option linter.unusedSimpArgs false
set_option maxRecDepth 100000
namespace Go.Proofs.Ytpafadpfpfgfjaa.Gst
open Go Vse Go.Proofs Gen
open Kdc (w16 lt tN Nt Rs Rl Rf Sdf Ds zero16 note0 e0 nSm w_succ inArr_of getD_of nameF)
abbrev Tak := tTa.den × Int × Gu
def bad (u : Gu) (k : Int) : Tak := (ta0, k, u)
end Go.Proofs.Ytpafadpfpfgfjaa.Gst
end
section
set_option linter.unusedVariables false
set_option linter.unusedSimpArgs false
set_option maxRecDepth 100000
namespace Go.Proofs.Ytpafadpfpfgfjaa.Gst
open Go Vse Go.Proofs Gen
open Kdc (w16 lt tN Nt Rs Rl Rf Sdf Ds zero16 note0 e0 nSm w_succ inArr_of getD_of nameF sNB)
abbrev Ac := Int × Int × ByteArray × List Int × Nt × Unit
end Go.Proofs.Ytpafadpfpfgfjaa.Gst
end
section
set_option linter.unusedVariables false
set_option linter.unusedSimpArgs false
set_option maxRecDepth 100000
namespace Go.Proofs.Ytpafadpfpfgfjaa.Gst
open Go Vse Go.Proofs Gen
open Kdc (w16 lt tN Nt Rs Rl Rf Sdf Ds zero16 note0 e0 nSm w_succ inArr_of getD_of nameF)
section
variable {V : Ty}
end
abbrev nOf (p : ByteArray × Wt) : List Int := p.2.2.2.1
abbrev fOf (e : Ev) : List Int := e.2.2.2.2.2.1
structure Inv (nm : ByteArray) (bg : List (List Int)) (dn : List Ev) (u : Gu) : Prop where
 who : u.1.1 = nm
 wn : ∀ p ∈ u.2.1, nOf p ∈ bg
 wd : ∀ p ∈ u.2.1, ∀ e ∈ dn, fOf e ≠ nOf p
 wp : ∀ p ∈ u.2.1, p.1 ≠ nm
 pw : u.2.1.Pairwise fun p q => nOf p ≠ nOf q
 tp : ∀ t ∈ u.2.2.1, t.1 ≠ nm
 db : ∀ e ∈ dn, fOf e ∈ bg
 wl : ∀ p ∈ u.2.1, okL p.2.2.2.2.2.2.2.1 = true
 tl : ∀ t ∈ u.2.2.1, okL t.2.2.1 = true
end Go.Proofs.Ytpafadpfpfgfjaa.Gst
end
section
set_option linter.unusedVariables false
set_option linter.unusedSimpArgs false
set_option maxRecDepth 100000
namespace Go.Proofs.Ytpafadpfpfgfjaa.Gst
open Go Vse Go.Proofs Gen
open Kdc (w16 lt tN Nt Rs Rl Rf Sdf Ds zero16 note0 e0 nSm w_succ inArr_of getD_of nameF sNB nAk)
abbrev Cev := ByteArray → List (List Int) → List Ev → List Ev → Int → Bool
abbrev Stf := Gu → Int → ByteArray → List Int → Nt × Int × Gu
abbrev Agf := Gu → ByteArray → List Int → Nt × Int × Gu
abbrev Tkf := Gu → ByteArray → Nt → List Int → Tak
section
variable (c : List (List Int) → Int → Bool) (fs : List (List Int) → List Int → Bool) (c2 : Cev) (de : List Ev → List Ev → List Ev) (st : Stf) (ag : Agf) (tk : Tkf)
 (nm : ByteArray) (l : List Ac) (up : Bool) (bg : List (List Int)) (dn : List Ev) (i : Int) (a : Ac)
end
end Go.Proofs.Ytpafadpfpfgfjaa.Gst
end
section
set_option linter.unusedVariables false
set_option linter.unusedSimpArgs false
set_option maxRecDepth 100000
namespace Go.Proofs.Ytpafadpfpfgfjaa.Gst
open Go Vse Go.Proofs Gen
open Kdc (w16 lt tN Nt Rs Rl Rf Sdf Ds zero16 note0 e0 nSm w_succ inArr_of getD_of nameF sNB nAk)
def SEq : RSpec := ⟨[0, 1, 12, 13], 26, [bs, bs, i64, i64], [], [], [], fun x => match x with | .ret => ([4], [.bool], []) | _ => ([], [], [])⟩
noncomputable def bEq : Code := loopAt Try.f54 0
def GEq (a b : List Int) (n i : Int) : Tr SEq.End :=
 .ite (decide (i < n)) (.chk (inArr i a.length) (.chk (inArr i b.length) (.ite (!decide (a.getD i.toNat 0 = b.getD i.toNat 0)) (.ret (.inr (.ret, encS [4] [.bool] [] 26 (false, ()) ()))) (.ret (.inl ((a, b, n, w (i + 1), ()), ()))))))
  (.ret (.inr (.exit 0, encS [] [] [] 26 () ())))
theorem rEq (a b : List Int) (n i : Int) : (SEq.round (bodyK Try.prog (ctx []) L0 bEq) (a, b, n, i, ()) ()).eval = (GEq a b n i).eval := by kernel_rfl
theorem mEq (a b : List Int) (hl : a.length ≤ 9223372036854775807) (hb : b.length = a.length) : ∀ (m k : Nat), k + m = a.length →
  SEq.many (bodyK Try.prog (ctx []) L0 bEq) (m + 1) (a, b, (a.length : Int), (k : Int), ()) () = if a.drop k = b.drop k then some (.exit 0, encS [] [] [] 26 () ()) else some (.ret, encS [4] [.bool] [] 26 (false, ()) ())
 | 0, k, h => by
  have e1 : a.drop k = [] := List.drop_eq_nil_of_le (by omega)
  have e2 : b.drop k = [] := List.drop_eq_nil_of_le (by omega)
  rw [e1, e2, if_pos rfl]
  refine rmany_inr ((rEq a b _ _).trans ?_) 0
  unfold GEq
  rw [ite_f (decide_eq_false (by omega))]
  rfl
 | m + 1, k, h => by
  have h1 : k < a.length := by omega
  have h2 : k < b.length := by omega
  have e1 := List.drop_eq_getElem_cons h1
  have e2 := List.drop_eq_getElem_cons h2
  by_cases hq : a[k] = b[k]
  ·have e3 : (a.drop k = b.drop k) = (a.drop (k + 1) = b.drop (k + 1)) := by simp only [e1, e2, hq, List.cons.injEq, true_and]
   simp only [e3]
   refine (rmany_inl (d := ((a, b, (a.length : Int), ((k + 1 : Nat) : Int), ()), ())) ((rEq a b _ _).trans ?_) (m + 1)).trans (mEq a b hl hb m (k + 1) (by omega))
   unfold GEq
   rw [ite_t (decide_eq_true (by omega)), chk_eval (inArr_of h1), chk_eval (inArr_of h2), Int.toNat_natCast, getD_of h1, getD_of h2, ite_f (by simp [hq]), w_succ h1 hl]
   rfl
  ·rw [if_neg (by rw [e1, e2]; exact fun hh => hq (List.cons.inj hh).1)]
   refine rmany_inr ((rEq a b _ _).trans ?_) _
   unfold GEq
   rw [ite_t (decide_eq_true (by omega)), chk_eval (inArr_of h1), chk_eval (inArr_of h2), Int.toNat_natCast, getD_of h1, getD_of h2, ite_t (by simp [hq])]
   rfl
def cEq (a b : List Int) (n i : Int) : Bool := decide (a.length ≤ 9223372036854775807) && (decide (b.length = a.length) && (decide (n = (a.length : Int)) && decide (i = 0)))
abbrev sameF : List Int → List Int → Bool := Fld.sameI
def FEq (c : List Int → List Int → Int → Int → Bool) (f : List Int → List Int → Bool) (xs : HL SEq.Ts) (hs : HD SEq.Es) : Tr (Ex × St) :=
 .chk (c xs.1 xs.2.1 xs.2.2.1 xs.2.2.2.1) (.ite (f xs.1 xs.2.1) (.ret (.exit 0, encS [] [] [] 26 () ())) (.ret (.ret, encS [4] [.bool] [] 26 (false, ()) ())))
def LEq (c : List Int → List Int → Int → Int → Bool) (f : List Int → List Int → Bool) : Loops := fun j st => if j = 4 then SEq.fn (FEq c f) st else .fail
theorem lEq : LoopOK Try.prog (LEq cEq sameF) bEq :=
 rloop_ok (L := LEq cEq sameF) (L' := L0) nil_sound (loopsOK_of (by kernel_rfl)) SEq (F := FEq cEq sameF) (i := 4) (by kernel_rfl) (fun _ => rfl) fun xs hs q h => by
  obtain ⟨a, b, n, i, u⟩ := xs
  obtain ⟨h1, h2⟩ := Tr.chk_some h
  simp only [cEq, Bool.and_eq_true, decide_eq_true_eq] at h1
  obtain ⟨hl, hb, hn, e2⟩ := h1
  have e2 : i = ((0 : Nat) : Int) := e2
  have hn : n = ((List.length (α := Int) a : Nat) : Int) := hn
  subst e2; subst hn
  refine ⟨List.length (α := Int) a + 1, ?_⟩
  have := mEq a b hl hb (List.length (α := Int) a) 0 (by omega)
  rw [List.drop_zero, List.drop_zero] at this
  refine this.trans ?_
  rcases Tr.ite_some h2 with ⟨hx, h3⟩ | ⟨hx, h3⟩
  ·have hx : a = b := of_decide_eq_true hx
   rw [if_pos hx]
   exact congrArg some (Tr.ret_some h3)
  ·have hx : ¬ a = b := of_decide_eq_false hx
   rw [if_neg hx]
   exact congrArg some (Tr.ret_some h3)
def TEq (c : List Int → List Int → Int → Int → Bool) (f : List Int → List Int → Bool) (a b : List Int) : Tr AV :=
 .ite (!decide ((a.length : Int) = (b.length : Int))) (.ret (.v .bool false)) (.chk (c a b (a.length : Int) 0) (.ite (f a b) (.ret (.v .bool true)) (.ret (.v .bool false))))
theorem tEqL (c : List Int → List Int → Int → Int → Bool) (f : List Int → List Int → Bool) (a b : List Int) :
  nrm (fnS Try.prog (ctx []) (LEq c f) [.bool] Try.f54 (mkArgs [bs, bs] (a, b, ()))) = (TEq c f a b).eval := by kernel_rfl
def sSl2 (f : List Int → List Int → Bool) : CSpec := .slp1 [bs, bs] (fun _ => true) .bool fun x => f x.1 x.2.1
theorem okEqL : CSound Try.prog 54 (sSl2 sameF) ∧ CLocal (sSl2 sameF) :=
 slpE1 (L := LEq cEq sameF) nil_sound Try.func54 (by kernel_rfl) (loops1 (by kernel_rfl) lEq) fun xs hx hp => by
  obtain ⟨a, b, u⟩ := xs
  have hl : List.length (α := Int) a ≤ 9223372036854775807 := hx.1.1
  refine (tEqL cEq sameF a b).trans ?_
  show _ = some (AV.v .bool (sameF a b))
  unfold TEq
  by_cases h : List.length (α := Int) a = List.length (α := Int) b
  ·rw [ite_f (by simp [h]), chk_eval (by unfold cEq; rw [decide_eq_true hl, decide_eq_true h.symm]; simp)]
   cases sameF a b <;> rfl
  ·rw [ite_t (by simp; omega), show sameF a b = false from decide_eq_false fun hh => h (by rw [hh])]; rfl
theorem tSaN (E : List Int → List Int → Bool) (a b : Nt) : (fnP Try.prog (ctx [(54, sSl2 E)]) L0 Kdc.nSa Try.f18 (a, b, ()) ()).eval = (Kdc.TSa E a b).eval := by kernel_rfl
theorem okSaN : CSound Try.prog 18 (Kdc.sSa Kdc.sameN) ∧ CLocal (Kdc.sSa Kdc.sameN) :=
 pos_sound (L := L0) (C := ctx [(54, sSl2 Kdc.smF)]) (ctx_sound ⟨okEqL, trivial⟩) Try.func18 (by kernel_rfl) (noLoopsL (by kernel_rfl)) fun xs hs hx hh hp => by
  obtain ⟨a, b, u⟩ := xs
  refine (tSaN Kdc.smF a b).trans ?_
  show _ = some ((Kdc.sameN a b, ()), ())
  unfold Kdc.TSa Kdc.sameN
  cases decide (a.1 = b.1) <;> cases (a.2.1 == b.2.1) <;> cases (a.2.2.1 == b.2.2.1) <;> cases eqT w16 a.2.2.2.1 b.2.2.2.1 <;> cases eqT w16 a.2.2.2.2.1 b.2.2.2.2.1 <;> cases Kdc.smF a.2.2.2.2.2.1 b.2.2.2.2.2.1 <;> cases Kdc.smF a.2.2.2.2.2.2.1 b.2.2.2.2.2.2.1 <;> rfl
end Go.Proofs.Ytpafadpfpfgfjaa.Gst
end
section
set_option linter.unusedVariables false
set_option linter.unusedSimpArgs false
set_option maxRecDepth 100000
namespace Go.Proofs.Ytpafadpfpfgfjaa.Nte
open Go Vse Go.Proofs Gen
open Kdc (w16 tN Nt zero16 note0 e0 nameF hasF lHas w_succ inArr_of getD_of nSm)
def mdS : List Int → Nat → Nt → List (List Int) → Nt × Bool
 | [], _, n, _ => (n, true)
 | c :: cs, i, n, l => if okF c (l.getD i []) = true then mdS cs (i + 1) (setF n c (l.getD i [])) l else (note0, false)
def madeF (k : Int) (l : List (List Int)) : Nt × Bool :=
 if (hasF k == e0) = true then (note0, false) else if (l.length : Int) = ((hasF k).size : Int) then mdS (strBytes (hasF k)) 0 (no0 k) l else (note0, false)
theorem preF_ok {c : Int} {b : List Int} (h : okC b = true) : preF c b = true := by
 unfold preF
 split
 ·rfl
 split
 ·rfl
 split
 ·rfl
 split
 ·rfl
 ·exact h
def kindA : List AV → Int
 | .v (.int .i64) x :: _ => x
 | _ => 0
theorem cMd_sound (k : Int) : CtxSound Try.prog (ctx (cMd k (hasF k))) ∧ CtxLocal (ctx (cMd k (hasF k))) := ctx_sound ⟨okHa k, okParted, okSetName, okSetWord, okSetBlob, trivial⟩
theorem lMd (k : Int) : LoopOK Try.prog (LMd k (hasF k)) bMd := runLoopK_ok (L' := L0) (n := 6) (cMd_sound k) (loopsOK_of (by kernel_rfl)) (i := 6) (by kernel_rfl) (fun _ => rfl)
theorem loops_Md : loopsOf (bodyOf Try.f59) = [bMd] := by kernel_rfl
theorem size_str (s : ByteArray) : (strBytes s).length = s.size := Fld.strBytes_length s
abbrev fBg : Ty := .fn 61 .unit
abbrev nB1 : PSpec := ⟨[bt], [.bool], [], [], []⟩
def big1 (b : List Int) : Bool := decide ((b.length : Int) > 500)
theorem okB1 : CSound Try.prog 61 (.pos nB1 (fun _ _ => true) fun xs _ => ((big1 xs.1, ()), ())) ∧ CLocal (.pos nB1 (fun _ _ => true) fun xs _ => ((big1 xs.1, ()), ())) :=
 pos_sound (L := L0) nil_sound Try.func61 (by kernel_rfl) (noLoopsL (by kernel_rfl)) fun xs hs hx hh hp =>
  (show ∀ b : List Int, (fnP Try.prog (ctx []) L0 nB1 Try.f61 (b, ()) ()).eval = (.ret ((big1 b, ()), ()) : Tr nB1.Out).eval from fun b => by kernel_rfl) xs.1
def cBg : List (Nat × CSpec) := [(61, .pos nB1 (fun _ _ => true) fun xs _ => ((big1 xs.1, ()), ()))]
theorem cBg_sound : CtxSound Try.prog (ctx cBg) ∧ CtxLocal (ctx cBg) := ctx_sound ⟨okB1, trivial⟩
abbrev nIb : PSpec := ⟨[Gen.ls, fBg], [i64], [], [], []⟩
def SBg : RSpec := ⟨[0, 1, 7, 8], 19, [Gen.ls, fBg, i64, i64], [], [], [], fun x => match x with | .ret => ([4], [i64], []) | _ => ([], [], [])⟩
noncomputable def bBg : Code := loopAt Try.f89 0
def GBg (l : List (List Int)) (n i : Int) : Tr SBg.End :=
 .ite (decide (i < n)) (.chk (inArr i l.length) (.ite (big1 (l.getD i.toNat [])) (.ret (.inr (.ret, encS [4] [i64] [] 19 (i, ()) ()))) (.ret (.inl ((l, (), n, w (i + 1), ()), ())))))
  (.ret (.inr (.exit 0, encS [] [] [] 19 () ())))
theorem rBg (l : List (List Int)) (n i : Int) : (SBg.round (bodyK Try.prog (ctx cBg) L0 bBg) (l, (), n, i, ()) ()).eval = (GBg l n i).eval := by kernel_rfl
def hasB (l : List (List Int)) : Bool := l.any big1
def idxB (l : List (List Int)) : Int := if hasB l = true then (l.findIdx big1 : Nat) else -1
def cB2 (l : List (List Int)) (n i : Int) : Bool := decide (l.length ≤ 9223372036854775807) && (decide (n = (l.length : Int)) && decide (i = 0))
def FBg (c : List (List Int) → Int → Int → Bool) (h : List (List Int) → Bool) (ix : List (List Int) → Int) (xs : HL SBg.Ts) (hs : HD SBg.Es) : Tr (Ex × St) :=
 .chk (c xs.1 xs.2.2.1 xs.2.2.2.1) (.ite (h xs.1) (.ret (.ret, encS [4] [i64] [] 19 (ix xs.1, ()) ())) (.ret (.exit 0, encS [] [] [] 19 () ())))
def LBg (c : List (List Int) → Int → Int → Bool) (h : List (List Int) → Bool) (ix : List (List Int) → Int) : Loops := fun j st => if j = 2 then SBg.fn (FBg c h ix) st else .fail
theorem mBg (l : List (List Int)) (hl : l.length ≤ 9223372036854775807) : ∀ (m k : Nat), k + m = l.length →
  SBg.many (bodyK Try.prog (ctx cBg) L0 bBg) (m + 1) (l, (), (l.length : Int), (k : Int), ()) () = if hasB (l.drop k) = true then some (.ret, encS [4] [i64] [] 19 (((k + (l.drop k).findIdx big1 : Nat) : Int), ()) ()) else some (.exit 0, encS [] [] [] 19 () ())
 | 0, k, h => by
  have e1 : l.drop k = [] := List.drop_eq_nil_of_le (by omega)
  rw [e1, if_neg (by simp [hasB])]
  refine rmany_inr ((rBg l _ _).trans ?_) 0
  unfold GBg
  rw [ite_f (decide_eq_false (by omega))]
  rfl
 | m + 1, k, h => by
  have h1 : k < l.length := by omega
  have e2 : (l.drop k) = l[k] :: l.drop (k + 1) := List.drop_eq_getElem_cons h1
  cases hq : big1 l[k] with
  | true =>
   have e3 : hasB (l.drop k) = true := by simp only [hasB, e2, List.any_cons, hq, Bool.true_or]
   have e4 : (l.drop k).findIdx big1 = 0 := by rw [e2, List.findIdx_cons, hq]; rfl
   rw [if_pos e3, e4]
   refine rmany_inr ((rBg l _ _).trans ?_) _
   unfold GBg
   rw [Int.toNat_natCast, ite_t (decide_eq_true (by omega)), chk_eval (inArr_of h1), getD_of h1, ite_t hq]
   rfl
  | false =>
   have e3 : hasB (l.drop k) = hasB (l.drop (k + 1)) := by simp only [hasB, e2, List.any_cons, hq, Bool.false_or]
   have e4 : k + (l.drop k).findIdx big1 = k + 1 + (l.drop (k + 1)).findIdx big1 := by rw [e2, List.findIdx_cons, hq]; simp only [cond_false]; omega
   rw [e3, e4]
   refine (rmany_inl (d := ((l, (), (l.length : Int), ((k + 1 : Nat) : Int), ()), ())) ((rBg l _ _).trans ?_) (m + 1)).trans (mBg l hl m (k + 1) (by omega))
   unfold GBg
   rw [Int.toNat_natCast, ite_t (decide_eq_true (by omega)), chk_eval (inArr_of h1), getD_of h1, ite_f hq, w_succ h1 hl]
   rfl
theorem lBg : LoopOK Try.prog (LBg cB2 hasB idxB) bBg :=
 rloop_ok (L := LBg cB2 hasB idxB) (L' := L0) cBg_sound (loopsOK_of (by kernel_rfl)) SBg (F := FBg cB2 hasB idxB) (i := 2) (by kernel_rfl) (fun _ => rfl) fun xs hs q h => by
  obtain ⟨l, u1, n, i, u⟩ := xs
  obtain ⟨h1, h2⟩ := Tr.chk_some h
  simp only [cB2, Bool.and_eq_true, decide_eq_true_eq] at h1
  obtain ⟨hl, hn, e2⟩ := h1
  have e2 : i = ((0 : Nat) : Int) := e2
  have hn : n = ((List.length (α := List Int) l : Nat) : Int) := hn
  subst e2; subst hn
  refine ⟨List.length (α := List Int) l + 1, ?_⟩
  have := mBg l hl (List.length (α := List Int) l) 0 (by omega)
  rw [List.drop_zero] at this
  refine this.trans ?_
  rcases Tr.ite_some h2 with ⟨hx, h3⟩ | ⟨hx, h3⟩
  ·have hx : hasB l = true := hx
   have e : ((0 + List.findIdx (α := List Int) big1 l : Nat) : Int) = idxB l := by unfold idxB; rw [if_pos hx, Nat.zero_add]
   rw [if_pos hx, e]
   exact congrArg some (Tr.ret_some h3)
  ·have hx : hasB l = false := hx
   rw [if_neg (by rw [hx]; simp)]
   exact congrArg some (Tr.ret_some h3)
def TIb (c : List (List Int) → Int → Int → Bool) (h : List (List Int) → Bool) (ix : List (List Int) → Int) (l : List (List Int)) : Tr nIb.Out := .chk (c l (l.length : Int) 0) (.ite (h l) (.ret ((ix l, ()), ())) (.ret (((-1 : Int), ()), ())))
theorem tIb (c : List (List Int) → Int → Int → Bool) (h : List (List Int) → Bool) (ix : List (List Int) → Int) (l : List (List Int)) :
  (fnP Try.prog (ctx cBg) (LBg c h ix) nIb Try.f89 (l, (), ()) ()).eval = (TIb c h ix l).eval := by kernel_rfl
def sIb (ix : List (List Int) → Int) : CSpec := .pos nIb (fun _ _ => true) fun xs _ => ((ix xs.1, ()), ())
theorem okIb : CSound Try.prog 89 (sIb idxB) ∧ CLocal (sIb idxB) :=
 pos_sound (L := LBg cB2 hasB idxB) cBg_sound Try.func89 (by kernel_rfl) (loops1 (by kernel_rfl) lBg) fun xs hs hx hh hp => by
  obtain ⟨l, u1, u⟩ := xs
  have hl : List.length (α := List Int) l ≤ 9223372036854775807 := hx.1.1
  refine (tIb cB2 hasB idxB l).trans ?_
  show _ = some ((idxB l, ()), ())
  unfold TIb
  rw [chk_eval (by unfold cB2; rw [decide_eq_true hl]; simp)]
  cases h : hasB l with
  | true => rw [ite_t rfl]; rfl
  | false => rw [ite_f rfl]; unfold idxB; rw [if_neg (by rw [h]; simp)]; rfl
abbrev nCf : PSpec := ⟨[Gen.ls, fBg], [.bool], [], [], []⟩
def sCf (h : List (List Int) → Bool) : CSpec := .pos nCf (fun _ _ => true) fun xs _ => ((h xs.1, ()), ())
theorem okCf : CSound Try.prog 60 (sCf hasB) ∧ CLocal (sCf hasB) :=
 pos_sound (L := L0) (C := ctx [(89, sIb idxB)]) (ctx_sound ⟨okIb, trivial⟩) Try.func60 (by kernel_rfl) (noLoopsL (by kernel_rfl)) fun xs hs hx hh hp => by
  obtain ⟨l, u1, u⟩ := xs
  refine ((show ∀ (ix : List (List Int) → Int) (l : List (List Int)), (fnP Try.prog (ctx [(89, sIb ix)]) L0 nCf Try.f60 (l, (), ()) ()).eval = (.ret ((decide (ix l ≥ 0), ()), ()) : Tr nCf.Out).eval from fun ix l => by kernel_rfl) idxB l).trans ?_
  show some ((decide (idxB l ≥ 0), ()), ()) = some ((hasB l, ()), ())
  unfold idxB
  cases h : hasB l with
  | true => rw [if_pos rfl, decide_eq_true (by omega)]
  | false => rw [if_neg (by simp), decide_eq_false (by omega)]
end Go.Proofs.Ytpafadpfpfgfjaa.Nte
end
section
set_option linter.unusedVariables false
set_option linter.unusedSimpArgs false
set_option maxRecDepth 100000
namespace Go.Proofs.Ytpafadpfpfgfjaa.Nte
open Go Vse Go.Proofs Gen
open Kdc (w16 tN Nt zero16 note0 e0 nameF hasF lHas w_succ inArr_of getD_of nSm sameN)
def rightN (n : Nt) : Bool := (madeF n.1 (partsN n)).2 && (sameN n (madeF n.1 (partsN n)).1 && !hasB (partsN n))
def sRi (p f : Nt → Bool) : CSpec := .pos nSm (fun xs _ => p xs.1) fun xs _ => ((f xs.1, ()), ())
open Kdc (Bk Ds Rs Sdf Rf sUp sNB)
end Go.Proofs.Ytpafadpfpfgfjaa.Nte
end
section
set_option linter.unusedVariables false
set_option linter.unusedSimpArgs false
set_option maxRecDepth 100000
namespace Go.Proofs.Ytpafadpfpfgfjaa.Nte
open Go Vse Go.Proofs Gen
open Kdc (w16 tN Nt zero16 note0 e0 nameF hasF lHas w_succ inArr_of getD_of nSm sameN strBytes_of strBytes_bytes rightF Bk Ds str_self sameN_self)
open Seal (Bytes badL)
open Ctr (B16)
open Fld (encL hd1)
theorem str_str (s : ByteArray) : bytesStr (strBytes s) = s := by
 have h := strBytes_of (strBytes s) (strBytes_bytes s)
 generalize bytesStr (strBytes s) = t at h ⊢
 unfold strBytes at h
 have h2 := (List.map_inj_right (fun (x y : UInt8) (e : (x.toNat : Int) = (y.toNat : Int)) => UInt8.toNat_inj.1 (by omega))).1 h
 obtain ⟨⟨a⟩⟩ := s
 obtain ⟨⟨b⟩⟩ := t
 simp only at h2
 rw [h2]
theorem name_size {s : ByteArray} (h : nameF s = true) : s.size ≤ 20 := by
 have h : Fld.nameI s = true := h
 unfold Fld.nameI at h
 simp only [Bool.and_eq_true, decide_eq_true_eq] at h
 exact h.2.2
theorem word_b16 {x : List Int} (h : x.length = 16) : wordF x = (x, 0, ()) := by
 show Fld.wordI x = _
 unfold Fld.wordI
 rw [decide_eq_true h]; rfl
theorem big_of {l : List (List Int)} (h : ∀ p ∈ l, p.length ≤ 500) : hasB l = false := by
 unfold hasB
 rw [List.any_eq_false]
 intro p hp hh
 have := h p hp
 have hh : ((p.length : Int) > 500) := of_decide_eq_true hh
 omega
end Go.Proofs.Ytpafadpfpfgfjaa.Nte
end
section
set_option linter.unusedVariables false
set_option linter.unusedSimpArgs false
set_option maxRecDepth 100000
namespace Go.Proofs.Ytpafadpfpfgfjaa.Nte
open Go Vse Go.Proofs Gen
open Kdc (w16 tN Nt zero16 note0 e0 nameF hasF lHas w_succ inArr_of getD_of nSm sameN strBytes_of strBytes_bytes rightF Bk Ds str_self sameN_self)
open Seal (Bytes badL)
open Ctr (B16)
abbrev smI : List Int → List Int → Bool := fun a b => Fld.sameI a b
section
variable {b : Bk} {n : Nt} {d : Ds}
theorem same_t {a : List Int} : smI a a = true := decide_eq_true rfl
end
end Go.Proofs.Ytpafadpfpfgfjaa.Nte
end
section
set_option linter.unusedVariables false
set_option linter.unusedSimpArgs false
set_option maxRecDepth 100000
namespace Go.Proofs.Ytpafadpfpfgfjaa.Nte
open Go Vse Go.Proofs Gen
open Kdc (w16 tN Nt zero16 note0 e0 nameF hasF lHas w_succ inArr_of getD_of nSm sameN strBytes_of strBytes_bytes sNB)
def preL : List Int → Nat → List (List Int) → Bool
 | [], _, _ => true
 | c :: cs, i, l => preF c (l.getD i []) && preL cs (i + 1) l
theorem TMs_eq2 {l : List (List Int)} : ∀ (cs : List Int) (i : Nat) (n : Nt), preL cs i l = true → i + cs.length ≤ l.length → (TMs cs i n l).eval = some (((mdS cs i n l).1, (mdS cs i n l).2, ()), ())
 | [], i, n, _, h => rfl
 | c :: cs, i, n, hl, h => by
  have h1 : i < l.length := by simp only [List.length_cons] at h; omega
  have hl : (preF c (l.getD i []) && preL cs (i + 1) l) = true := hl
  rw [Bool.and_eq_true] at hl
  unfold TMs mdS
  rw [chk_eval (inArr_of h1), chk_eval hl.1]
  cases ho : okF c (l.getD i []) with
  | true => rw [ite_f (show (!true) = false from rfl), if_pos rfl]; exact TMs_eq2 cs (i + 1) _ hl.2 (by simp only [List.length_cons] at h; omega)
  | false => rw [ite_t (show (!false) = true from rfl), if_neg (by simp)]; rfl
def preMd (k : Int) (l : List (List Int)) : Bool := preL (strBytes (hasF k)) 0 l
def sMd2 (p : Int → List (List Int) → Bool) (f : Int → List (List Int) → Nt × Bool) : CSpec := .pos nMd (fun xs _ => p xs.1 xs.2.1) fun xs _ => (((f xs.1 xs.2.1).1, (f xs.1 xs.2.1).2, ()), ())
theorem okMd2 : CSound Try.prog 59 (sMd2 preMd madeF) ∧ CLocal (sMd2 preMd madeF) :=
 pos_soundX (fnX := fun vs H => fnK Try.prog (ctx (cMd (kindA vs) (hasF (kindA vs)))) (LMd (kindA vs) (hasF (kindA vs))) Try.f59 vs H) (fun args w => callFunc_enter Try.func59 (by kernel_rfl) (c := bodyOf Try.f59) (by kernel_rfl) args w)
  (fun {g H H' w vs rvs v} hI hargs he => fn_sound (cMd_sound (kindA vs)).1 (cMd_sound (kindA vs)).2 Try.func59 (c := bodyOf Try.f59) (by kernel_rfl) (loopsOK_all fun b hb => by
   rw [loops_Md, List.mem_singleton] at hb
   subst hb
   exact lMd (kindA vs)) hI hargs (fnK_ok he))
  fun xs hs hx hh hp => by
   obtain ⟨k, l, u⟩ := xs
   have hp : preL (strBytes (hasF k)) 0 l = true := hp
   refine (qMd (hasF k) (has_mem k) k k l).trans ?_
   show _ = some (((madeF k l).1, (madeF k l).2, ()), ())
   unfold TMd madeF
   rw [chk_eval (decide_eq_true rfl)]
   cases h1 : (hasF k == e0) with
   | true => rw [ite_t rfl, if_pos rfl]; rfl
   | false =>
    rw [ite_f rfl, if_neg (by simp)]
    by_cases h2 : (List.length (α := List Int) l : Int) = ((hasF k).size : Int)
    ·rw [ite_f (by simp [h2]), if_pos h2]
     exact TMs_eq2 _ 0 _ hp (by rw [size_str]; omega)
    ·rw [ite_t (by simp [h2]), if_neg h2]; rfl
def cRi2 (pp : Nt → List (List Int)) (pm : Int → List (List Int) → Bool) (md : Int → List (List Int) → Nt × Bool) (sm : Nt → Nt → Bool) (h : List (List Int) → Bool) : List (Nat × CSpec) :=
 [(58, sPs pp), (59, sMd2 pm md), (18, Kdc.sSa sm), (60, sCf h)]
def TRi2 (pp : Nt → List (List Int)) (pm : Int → List (List Int) → Bool) (md : Int → List (List Int) → Nt × Bool) (sm : Nt → Nt → Bool) (h : List (List Int) → Bool) (n : Nt) : Tr nSm.Out :=
 .chk (pm n.1 (pp n)) (.ite (md n.1 (pp n)).2 (.ite (sm n (md n.1 (pp n)).1) (.ret ((!h (pp n), ()), ())) (.ret ((false, ()), ()))) (.ret ((false, ()), ())))
theorem tRi2 (pp : Nt → List (List Int)) (pm : Int → List (List Int) → Bool) (md : Int → List (List Int) → Nt × Bool) (sm : Nt → Nt → Bool) (h : List (List Int) → Bool) (n : Nt) :
  (fnP Try.prog (ctx (cRi2 pp pm md sm h)) L0 nSm Try.f23 (n, ()) ()).eval = (TRi2 pp pm md sm h n).eval := by kernel_rfl
def preN2 (n : Nt) : Bool := okC n.2.2.2.2.2.1 && (okC n.2.2.2.2.2.2.1 && okC n.2.2.2.2.2.2.2.1)
theorem preL_map {g : Int → List Int} (h : ∀ c, preF c (g c) = true) : ∀ (cs ds : List Int), preL cs ds.length ((ds ++ cs).map g) = true
 | [], ds => rfl
 | c :: cs, ds => by
  have e1 : ((ds ++ c :: cs).map g).getD ds.length [] = g c := by
   rw [List.getD_eq_getElem?_getD, List.getElem?_map, List.getElem?_append_right (Nat.le_refl _), Nat.sub_self]; rfl
  have e2 := preL_map h cs (ds ++ [c])
  rw [List.length_append, List.length_singleton, List.append_assoc] at e2
  show (preF c (((ds ++ c :: cs).map g).getD ds.length []) && preL cs (ds.length + 1) ((ds ++ c :: cs).map g)) = true
  rw [e1, h c, Bool.true_and]
  exact e2
theorem pre_parts {n : Nt} (h : preN2 n = true) : preMd n.1 (partsN n) = true := by
 unfold preN2 at h
 simp only [Bool.and_eq_true] at h
 refine preL_map (g := getF n) (fun c => ?_) _ []
 unfold preF getF
 by_cases h1 : c = 65
 ·rw [if_pos h1]
 rw [if_neg h1, if_neg h1]
 by_cases h2 : c = 66
 ·rw [if_pos h2]
 rw [if_neg h2, if_neg h2]
 by_cases h3 : c = 88
 ·rw [if_pos h3]
 rw [if_neg h3, if_neg h3]
 by_cases h4 : c = 89
 ·rw [if_pos h4]
 rw [if_neg h4, if_neg h4]
 by_cases h5 : c = 80
 ·rw [if_pos h5]; exact h.1
 rw [if_neg h5]
 by_cases h6 : c = 81
 ·rw [if_pos h6]; exact h.2.1
 rw [if_neg h6]; exact h.2.2
theorem okRi2 : CSound Try.prog 23 (sRi preN2 rightN) ∧ CLocal (sRi preN2 rightN) :=
 pos_sound (L := L0) (C := ctx (cRi2 partsN preMd madeF sameN hasB)) (ctx_sound ⟨okPs, okMd2, Gst.okSaN, okCf, trivial⟩) Try.func23 (by kernel_rfl) (noLoopsL (by kernel_rfl)) fun xs hs hx hh hp => by
  obtain ⟨n, u⟩ := xs
  refine (tRi2 partsN preMd madeF sameN hasB n).trans ?_
  show _ = some ((rightN n, ()), ())
  unfold TRi2 rightN
  rw [chk_eval (pre_parts hp)]
  cases (madeF n.1 (partsN n)).2 with
  | false => rw [ite_f rfl]; rfl
  | true =>
   rw [ite_t rfl]
   cases sameN n (madeF n.1 (partsN n)).1 with
   | false => rw [ite_f rfl]; rfl
   | true => rw [ite_t rfl]; rfl
abbrev nPu : PSpec := ⟨[tN], [bt, i64], [], [], []⟩
abbrev nRd : PSpec := ⟨[bt], [tN, i64], [], [], []⟩
abbrev Puf := List (List Int) → HL [bt, i64]
abbrev Spf := List Int → HL [Gen.lt, i64]
def cPu (pr ri : Nt → Bool) (pp : Nt → List (List Int)) (pu : Puf) : List (Nat × CSpec) := [(23, sRi pr ri), (58, sPs pp), (43, .sl [Gen.ls] [bt, i64] fun x => pu x.1)]
def cRd (pb : List Int → Bool) (sp : Spf) (pm : Int → List (List Int) → Bool) (md : Int → List (List Int) → Nt × Bool) : List (Nat × CSpec) := [(44, .slp [bs] (fun x => pb x.1) [Gen.lt, i64] fun x => sp x.1), (59, sMd2 pm md)]
def TPu (pr ri : Nt → Bool) (pp : Nt → List (List Int)) (pu : Puf) (n : Nt) : Tr nPu.Out :=
 .chk (pr n) (.ite (!ri n) (.ret (([], (3 : Int), ()), ())) (.ite ((pu (pp n)).2.1 != 0) (.ret (([], (3 : Int), ()), ())) (.chk (Vse.room (1 + (pu (pp n)).1.length) 1) (.ret (([IntKind.u8.wrap n.1] ++ (pu (pp n)).1, (0 : Int), ()), ())))))
theorem tPu (pr ri : Nt → Bool) (pp : Nt → List (List Int)) (pu : Puf) (n : Nt) : (fnP Try.prog (ctx (cPu pr ri pp pu)) L0 nPu Try.f36 (n, ()) ()).eval = (TPu pr ri pp pu n).eval := by kernel_rfl
abbrev tail1 (b : List Int) : List Int := (b.take b.length).drop 1
def TRd (pb : List Int → Bool) (sp : Spf) (pm : Int → List (List Int) → Bool) (md : Int → List (List Int) → Nt × Bool) (b : List Int) : Tr nRd.Out :=
 let k := IntKind.i64.wrap (b.getD 0 0)
 let l := sp (tail1 b)
 .ite (decide ((b.length : Int) = 0)) (.ret ((note0, (3 : Int), ()), ())) (.chk (decide ((1 : Int) ≤ (b.length : Int)) && decide ((b.length : Int) ≤ (b.length : Int))) (.chk (pb (tail1 b)) (.chk (inArr 0 b.length) (.chk (pm k l.1)
  (.ite (l.2.1 != 0) (.ret ((note0, (3 : Int), ()), ())) (.ite (!(md k l.1).2) (.ret ((note0, (3 : Int), ()), ())) (.ret (((md k l.1).1, (0 : Int), ()), ()))))))))
theorem tRd (pb : List Int → Bool) (sp : Spf) (pm : Int → List (List Int) → Bool) (md : Int → List (List Int) → Nt × Bool) (b : List Int) : (fnP Try.prog (ctx (cRd pb sp pm md)) L0 nRd Try.f38 (b, ()) ()).eval = (TRd pb sp pm md b).eval := by kernel_rfl
end Go.Proofs.Ytpafadpfpfgfjaa.Nte
end
section
set_option linter.unusedVariables false
set_option linter.unusedSimpArgs false
set_option maxRecDepth 100000
namespace Go.Proofs.Ytpafadpfpfgfjaa.Nte
open Go Vse Go.Proofs Gen
open Kdc (w16 tN Nt zero16 note0 e0 nameF hasF lHas w_succ inArr_of getD_of nSm sameN strBytes_of strBytes_bytes sNB)
open Fld (putI splitI encL hd1 Bytes)
theorem encL_len : ∀ l : List (List Int), (∀ p ∈ l, p.length ≤ 500) → (encL l).length ≤ 502 * l.length
 | [], _ => by simp [encL]
 | p :: r, h => by
  have := encL_len r fun q hq => h q (by simp [hq])
  have hp := h p (by simp)
  have hh : (hd1 p).length = 2 := rfl
  simp only [encL, List.length_append, List.length_cons, hh]
  omega
theorem has_len (k : Int) : (strBytes (hasF k)).length ≤ 4 := (by decide +kernel : ∀ s ∈ lHas, (strBytes s).length ≤ 4) _ (has_mem k)
theorem parts_len (n : Nt) : (partsN n).length ≤ 4 := by
 unfold partsN
 rw [List.length_map]; exact has_len _
theorem right_short {n : Nt} (h : rightN n = true) : ∀ p ∈ partsN n, p.length ≤ 500 := fun p hp => by
 unfold rightN at h
 simp only [Bool.and_eq_true, Bool.not_eq_true'] at h
 have h := h.2.2
 unfold hasB at h
 rw [List.any_eq_false] at h
 have := h p hp
 unfold big1 at this
 have : ¬ ((p.length : Int) > 500) := fun hh => this (decide_eq_true hh)
 omega
theorem right_put {n : Nt} (h : rightN n = true) : putI hd1 (partsN n) = (encL (partsN n), 0, ()) := Kdc.encL_put (by have := parts_len n; omega) (right_short h)
def putN (n : Nt) : List Int × Int := if rightN n = true then ([wb n.1] ++ encL (partsN n), 0) else ([], 3)
def sPu (p : Nt → Bool) (f : Nt → List Int × Int) : CSpec := .pos nPu (fun xs _ => p xs.1) fun xs _ => (((f xs.1).1, (f xs.1).2, ()), ())
theorem okPu : CSound Try.prog 36 (sPu preN2 putN) ∧ CLocal (sPu preN2 putN) :=
 pos_sound (L := L0) (C := ctx (cPu preN2 rightN partsN (fun l => putI hd1 l))) (ctx_sound ⟨okRi2, okPs, Fld.ok25, trivial⟩) Try.func36 (by kernel_rfl) (noLoopsL (by kernel_rfl)) fun xs hs hx hh hp => by
  obtain ⟨n, u⟩ := xs
  refine (tPu preN2 rightN partsN (fun l => putI hd1 l) n).trans ?_
  show _ = some (((putN n).1, (putN n).2, ()), ())
  unfold TPu putN
  rw [chk_eval hp]
  cases h : rightN n with
  | false => rw [ite_t (show (!false) = true from rfl), if_neg (by simp)]; rfl
  | true =>
   have hl := encL_len _ (right_short h)
   have hn := parts_len n
   rw [ite_f (show (!true) = false from rfl), if_pos rfl]
   dsimp only
   rw [right_put h, ite_f (by rfl), chk_eval (by simp only [Vse.room, decide_eq_true_eq]; omega)]
   rfl
def readN (b : List Int) : Nt × Int :=
 if b.length = 0 then (note0, 3) else if (splitI (b.drop 1)).2.1 ≠ 0 then (note0, 3) else if (madeF (b.getD 0 0) (splitI (b.drop 1)).1).2 = false then (note0, 3) else ((madeF (b.getD 0 0) (splitI (b.drop 1)).1).1, 0)
theorem split_small {b : List Int} (hb : Bytes b) : ∀ p ∈ (splitI b).1, p.length ≤ 500 := by
 unfold splitI
 cases hs : Fld.splitG (b.length + 1) b [] with
 | mk c r' =>
  dsimp only
  by_cases hc : c = 0
  ·subst hc
   simp only [decide_true, cond_true]
   obtain ⟨l, h1, h2, h3, h4⟩ := Fld.enc_split _ b [] r' hb (by omega) (by simp) hs
   simp only [List.nil_append] at h1
   subst h1
   exact h3
  ·rw [decide_eq_false hc]
   simp only [cond_false]
   intro p hp; cases hp
theorem preL_all : ∀ (cs : List Int) (i : Nat) (l : List (List Int)), (∀ p ∈ l, p.length ≤ 500) → preL cs i l = true
 | [], i, l, h => rfl
 | c :: cs, i, l, h => by
  have hc : okC (l.getD i []) = true := by
   rw [List.getD_eq_getElem?_getD]
   cases e : l[i]? with
   | none => rfl
   | some p => exact decide_eq_true (by have := h p (List.mem_of_getElem? e); show p.length ≤ _; omega)
  show (preF c (l.getD i []) && preL cs (i + 1) l) = true
  rw [preF_ok hc, preL_all cs (i + 1) l h]; rfl
theorem bt_bytes {b : List Int} (h : Ty.ok bt b) : Bytes b := Fld.bytes_ok h
def sRd (p : List Int → Bool) (f : List Int → Nt × Int) : CSpec := .pos nRd (fun xs _ => p xs.1) fun xs _ => (((f xs.1).1, (f xs.1).2, ()), ())
theorem okRd : CSound Try.prog 38 (sRd okC readN) ∧ CLocal (sRd okC readN) :=
 pos_sound (L := L0) (C := ctx (cRd Fld.preB (fun b => splitI b) preMd madeF)) (ctx_sound ⟨Fld.ok27, okMd2, trivial⟩) Try.func38 (by kernel_rfl) (noLoopsL (by kernel_rfl)) fun xs hs hx hh hp => by
  obtain ⟨b, u⟩ := xs
  have hb : Bytes b := bt_bytes hx.1
  have hl : List.length (α := Int) b ≤ 140737488355328 := of_decide_eq_true hp
  refine (tRd Fld.preB (fun b => splitI b) preMd madeF b).trans ?_
  show _ = some (((readN b).1, (readN b).2, ()), ())
  unfold TRd readN
  dsimp only
  have et : tail1 b = List.drop (α := Int) 1 b := by show (List.take (α := Int) (List.length (α := Int) b) b).drop 1 = _; rw [List.take_length]
  have ek : IntKind.i64.wrap (List.getD (α := Int) b 0 0) = List.getD (α := Int) b 0 0 := by
   have := Fld.bytes_get hb 0
   exact w_id (by omega) (by omega)
  rw [et, ek]
  by_cases h0 : List.length (α := Int) b = 0
  ·rw [ite_t (decide_eq_true (by omega)), if_pos h0]; rfl
  have hm : preMd (List.getD (α := Int) b 0 0) (splitI (List.drop (α := Int) 1 b)).1 = true := preL_all _ _ _ (split_small (Fld.bytes_drop hb 1))
  rw [ite_f (decide_eq_false (by omega)), if_neg h0, chk_eval (by simp; omega), chk_eval (show Fld.preB (List.drop (α := Int) 1 b) = true from decide_eq_true (by rw [List.length_drop]; omega)), chk_eval (by simp only [inArr, Bool.and_eq_true, decide_eq_true_eq]; omega), chk_eval hm]
  by_cases h1 : (splitI (List.drop (α := Int) 1 b)).2.1 = 0
  ·rw [ite_f (by rw [h1]; rfl), if_neg (not_not_intro h1)]
   cases h2 : (madeF (List.getD (α := Int) b 0 0) (splitI (List.drop (α := Int) 1 b)).1).2 with
   | false => rw [ite_t (show (!false) = true from rfl), if_pos rfl]; rfl
   | true => rw [ite_f (show (!true) = false from rfl), if_neg (by simp)]; rfl
  ·rw [ite_t (by rw [bne_iff_ne]; exact h1), if_pos h1]; rfl
def cA10 (p ri : Nt → Bool) (pu : Nt → List Int × Int) (q : List Int → Bool) (rd : List Int → Nt × Int) (sm : Nt → Nt → Bool) : List (Nat × CSpec) :=
 [(36, sPu p pu), (38, sRd q rd), (18, Kdc.sSa sm), (23, sRi p ri)]
end Go.Proofs.Ytpafadpfpfgfjaa.Nte
end
section
set_option linter.unusedVariables false
set_option linter.unusedSimpArgs false
set_option maxRecDepth 100000
namespace Go.Proofs.Ytpafadpfpfgfjaa.Nte
open Go Vse Go.Proofs Gen
open Kdc (w16 tN Nt zero16 note0 e0 nameF hasF lHas w_succ inArr_of getD_of nSm sameN sameN_self strBytes_of strBytes_bytes sNB)
open Fld (putI splitI encL hd1 Bytes)
def Ltr (c : Int) : Prop := c = 65 ∨ c = 66 ∨ c = 88 ∨ c = 89 ∨ c = 80 ∨ c = 81 ∨ c = 82
instance (c : Int) : Decidable (Ltr c) := inferInstanceAs (Decidable (_ ∨ _ ∨ _ ∨ _ ∨ _ ∨ _ ∨ _))
theorem has_ltr (k : Int) : (∀ c ∈ strBytes (hasF k), Ltr c) ∧ (strBytes (hasF k)).Nodup := (by decide +kernel : ∀ s ∈ lHas, (∀ c ∈ strBytes s, Ltr c) ∧ (strBytes s).Nodup) _ (has_mem k)
theorem word_back {b : List Int} (h : ((wordF b).2.1 == 0) = true) : part16 (wordF b).1 = b := by
 by_cases hl : b.length = 16
 ·rw [word_b16 hl]
  show (b.drop 0).take 16 = b
  rw [List.drop_zero, List.take_of_length_le (by omega)]
 ·have : wordF b = (Fld.z16, 3, ()) := by
   show Fld.wordI b = _
   unfold Fld.wordI
   rw [decide_eq_false hl]; rfl
  rw [this] at h
  cases h
theorem get_set {n : Nt} {c : Int} {b : List Int} (hc : Ltr c) (ho : okF c b = true) (hb : Bytes b) : getF (setF n c b) c = b := by
 rcases hc with rfl | rfl | rfl | rfl | rfl | rfl | rfl
 ·exact strBytes_of b hb
 ·exact strBytes_of b hb
 ·exact word_back ho
 ·exact word_back ho
 ·rfl
 ·rfl
 ·rfl
theorem get_other {n : Nt} {c c' : Int} {b : List Int} (hc : Ltr c) (hc' : Ltr c') (hne : c' ≠ c) : getF (setF n c b) c' = getF n c' := by
 rcases hc with rfl | rfl | rfl | rfl | rfl | rfl | rfl <;> rcases hc' with rfl | rfl | rfl | rfl | rfl | rfl | rfl <;> first | rfl | exact absurd rfl hne
theorem kind_set {n : Nt} {c : Int} {b : List Int} (hc : Ltr c) : (setF n c b).1 = n.1 := by
 rcases hc with rfl | rfl | rfl | rfl | rfl | rfl | rfl <;> rfl
theorem md_parts {l : List (List Int)} (hb : ∀ i, Bytes (l.getD i [])) : ∀ (cs : List Int) (i : Nat) (n m : Nt), mdS cs i n l = (m, true) → (∀ c ∈ cs, Ltr c) → cs.Nodup →
  m.1 = n.1 ∧ (∀ c', Ltr c' → c' ∉ cs → getF m c' = getF n c') ∧ cs.map (getF m) = (List.range' i cs.length).map fun j => l.getD j []
 | [], i, n, m, h, _, _ => by
  have h : (n, true) = (m, true) := h
  cases h
  exact ⟨rfl, fun _ _ _ => rfl, rfl⟩
 | c :: cs, i, n, m, h, hl, hn => by
  unfold mdS at h
  split at h
  ·rename_i ho
   have hc := hl c List.mem_cons_self
   obtain ⟨hn1, hn2⟩ := List.nodup_cons.1 hn
   obtain ⟨q1, q2, q3⟩ := md_parts hb cs (i + 1) _ m h (fun c' hc' => hl c' (List.mem_cons_of_mem _ hc')) hn2
   refine ⟨q1.trans (kind_set hc), fun c' h1 h2 => ?_, ?_⟩
   ·rw [q2 c' h1 (fun hh => h2 (List.mem_cons_of_mem _ hh))]
    exact get_other hc h1 (fun hh => h2 (by rw [hh]; exact List.mem_cons_self))
   ·rw [List.map_cons, q2 c hc hn1, get_set hc ho (hb i), q3, List.length_cons, List.range'_succ, List.map_cons]
  ·cases h
theorem range_getD (l : List (List Int)) : (List.range' 0 l.length).map (fun j => l.getD j []) = l := by
 apply List.ext_getElem
 ·simp
 ·intro j h1 h2
  simp only [List.getElem_map, List.getElem_range', Nat.zero_add, Nat.one_mul]
  exact getD_of h2 []
theorem wb_small {k : Int} (h : 0 ≤ k ∧ k < 256) : wb k = k := by
 show IntKind.u8.wrap k = k
 simp [IntKind.wrap, IntKind.signed, IntKind.bits]
 omega
theorem put_read {b : List Int} (hb : Bytes b) (h : (readN b).2 = 0) : putN (readN b).1 = (b, 0) ∧ rightN (readN b).1 = true := by
 unfold readN at h ⊢
 split at h
 ·cases h
 rename_i h0
 rw [if_neg h0]
 split at h
 ·cases h
 rename_i h1
 rw [if_neg h1]
 split at h
 ·cases h
 rename_i h2
 rw [if_neg h2]
 have h1 : (splitI (b.drop 1)).2.1 = 0 := Decidable.of_not_not h1
 have h2 : (madeF (b.getD 0 0) (splitI (b.drop 1)).1).2 = true := by simpa using h2
 have hk := Fld.bytes_get hb 0
 have hB := Fld.bytes_drop hb 1
 have hs : splitI (b.drop 1) = ((splitI (b.drop 1)).1, 0, ()) := by
  rw [← h1]
 generalize hl : (splitI (b.drop 1)).1 = l at h2 hs ⊢
 generalize hkk : b.getD 0 0 = k at h2 hk ⊢
 have hlb : ∀ p ∈ l, Bytes p := Kdc.split_bytes hB hs
 have hl5 : ∀ p ∈ l, p.length ≤ 500 := by rw [← hl]; exact split_small hB
 have hg : ∀ i, Bytes (l.getD i []) := fun i => by
  rw [List.getD_eq_getElem?_getD]
  cases e : l[i]? with
  | none => intro x hx; cases hx
  | some p => exact hlb p (List.mem_of_getElem? e)
 have hput := Fld.split_put hB hs
 have hm : ∃ m, madeF k l = (m, true) ∧ m.1 = k ∧ partsN m = l := by
  unfold madeF at h2 ⊢
  split at h2
  ·cases h2
  rename_i g1
  rw [if_neg g1]
  split at h2
  ·rename_i g2
   rw [if_pos g2]
   obtain ⟨a1, a2⟩ := has_ltr k
   generalize hr : mdS (strBytes (hasF k)) 0 (no0 k) l = r at h2 ⊢
   obtain ⟨m, t⟩ := r
   have h2 : t = true := h2
   subst h2
   obtain ⟨q1, _, q3⟩ := md_parts hg _ 0 _ m hr a1 a2
   refine ⟨m, rfl, q1, ?_⟩
   have q1 : m.1 = k := q1
   unfold partsN
   rw [q1, q3, size_str, show (hasF k).size = l.length by omega]
   exact range_getD l
  ·cases h2
 obtain ⟨m, e1, e2, e3⟩ := hm
 rw [e1]
 have hr : rightN m = true := by
  unfold rightN
  rw [e2, e3, e1, big_of hl5]
  show (true && (sameN m m && !false)) = true
  rw [sameN_self]; rfl
 refine ⟨?_, hr⟩
 show putN m = _
 unfold putN
 rw [if_pos hr, e3, e2, wb_small hk]
 have : encL l = b.drop 1 := by
  have h4 := right_put hr
  rw [e3, hput] at h4
  exact (congrArg (fun x => x.1) h4).symm
 rw [this, ← hkk]
 have : [b.getD 0 0] ++ b.drop 1 = b := by
  cases b with
  | nil => exact absurd rfl h0
  | cons x r => rfl
 rw [this]
end Go.Proofs.Ytpafadpfpfgfjaa.Nte
end
section
set_option linter.unusedVariables false
set_option linter.unusedSimpArgs false
set_option maxRecDepth 100000
namespace Go.Proofs.Ytpafadpfpfgfjaa.Nte
open Go Vse Go.Proofs Gen
open Kdc (w16 tN Nt zero16 note0 e0 nameF hasF lHas w_succ inArr_of getD_of nSm sameN sameN_self strBytes_of strBytes_bytes sNB nAk b16k smallF)
abbrev Puf2 := Nt → List Int × Int
abbrev Rdf := List Int → Nt × Int
abbrev sBob : ByteArray := ⟨#[98, 111, 98]⟩
def n1W : Nt := (2, e0, sBob, zero16, b16k 7, [120, 121], [], [], ())
def n2W : Nt := (2, sBob, e0, zero16, zero16, [], [], [], ())
section
variable (p ri : Nt → Bool) (pu : Puf2) (q : List Int → Bool) (rd : Rdf) (sm : Nt → Nt → Bool)
def TA10 : Tr nAk.Out :=
 let no : Tr nAk.Out := .ret ((false, ()), ())
 let x := (pu n1W).1
 .chk (p n1W) (.chk (q x) (.chk (p n2W) (.ite ((pu n1W).2 == 0) (.ite ((x.length : Int) == 28) (.chk (inArr 0 x.length) (.ite (x.getD 0 0 == 2) (.chk (inArr 2 x.length) (.ite (x.getD 2 0 == 3) (.ite ((rd x).2 == 0) (.ite (sm n1W (rd x).1) (.chk (p n1W) (.ite (ri n1W)
  (.ite ((pu n2W).2 == 3) (.ret ((!sm n1W note0, ()), ())) no) no)) no) no) no)) no)) no) no)))
theorem tA10 : (fnP Try.prog (ctx (cA10 p ri pu q rd sm)) L0 nAk Try.f34 () ()).eval = (TA10 p ri pu q rd sm).eval := by kernel_rfl
end
end Go.Proofs.Ytpafadpfpfgfjaa.Nte
end
section
set_option linter.unusedVariables false
set_option linter.unusedSimpArgs false
set_option maxRecDepth 100000
namespace Go.Proofs.Ytpafadpfpfgfjaa.Nte
open Go Vse Go.Proofs Gen
open Kdc (w16 tN Nt zero16 note0 e0 nameF hasF lHas w_succ inArr_of getD_of nSm sameN sameN_self strBytes_of strBytes_bytes sNB nAk b16k smallF)
open Fld (putI splitI encL hd1 Bytes)
theorem TA10_true : (TA10 preN2 rightN putN okC readN sameN).eval = some ((true, ()), ()) := by kernel_rfl
theorem cA10_sound : CtxSound Try.prog (ctx (cA10 preN2 rightN putN okC readN sameN)) ∧ CtxLocal (ctx (cA10 preN2 rightN putN okC readN sameN)) := ctx_sound ⟨okPu, okRd, Gst.okSaN, okRi2, trivial⟩
theorem okUp10 : CSound Try.prog 34 (Kdc.sUp true) ∧ CLocal (Kdc.sUp true) :=
 pos_sound (L := L0) cA10_sound Try.func34 (by kernel_rfl) (noLoopsL (by kernel_rfl)) fun xs hs hx hh hp => (tA10 preN2 rightN putN okC readN sameN).trans TA10_true
theorem okC_sz {l : List Int} (h : Ty.sz bt l) : okC l = true := decide_eq_true (by
 have := h.1
 simp only [reachBytes] at this
 omega)
end Go.Proofs.Ytpafadpfpfgfjaa.Nte
end
section
set_option linter.unusedVariables false
set_option linter.unusedSimpArgs false
set_option maxRecDepth 100000
namespace Go.Proofs.Ytpafadpfpfgfjaa.Nte
open Go Vse Go.Proofs Gen
open Kdc (w16 tN Nt zero16 note0 e0 nameF hasF lHas w_succ inArr_of getD_of nSm sameN sameN_self strBytes_of strBytes_bytes sNB)
open Fld (putI splitI encL hd1 hd2 Bytes)
theorem okHaR (k : Int) : CSound Try.prog 73 (sHa k (hasF k)) ∧ CLocal (sHa k (hasF k)) :=
 pos_sound (L := L0) nil_sound Try.func73 (by kernel_rfl) (noLoopsL (by kernel_rfl)) fun xs hs hx hh hp => by
  have hk : xs.1 = k := of_decide_eq_true hp
  rw [← hk]
  exact (Kdc.tHa xs.1).trans (Kdc.THa_eq xs.1)
def kPr : Cut := ⟨0, [.box tN], [], [1], [iN], [.dead], 86⟩
noncomputable def bPr : Code := loopAt Try.f37 0
def cPr (ri : Nt → Bool) (k : Int) (s : ByteArray) (pu : Puf) : List (Nat × CSpec) := [(41, sNB ri), (73, sHa k s), (74, .sl [Gen.ls] [bt, i64] fun x => pu x.1)]
noncomputable def LPr (ri : Nt → Bool) (k : Int) (s : ByteArray) (pu : Puf) : Loops := fun j st => if j = 6 then runLoopK Try.prog (ctx (cPr ri k s pu)) L0 6 bPr st else .fail
noncomputable abbrev runPr (ri : Nt → Bool) (k : Int) (s : ByteArray) (pu : Puf) : St → Tr (Ex × St) := runCut Try.prog (ctx (cPr ri k s pu)) (LPr ri k s pu) kPr 0 (bodyOf Try.f37)
def TPr (ri : Nt → Bool) (s : ByteArray) (pu : Puf) (n : Nt) (k : Int) : Tr nPu.Out :=
 .ite (!ri n) (.ret (([], (3 : Int), ()), ())) (.chk (decide (n.1 = k)) (.chk (Vse.room (1 + (pu ((strBytes s).map (getF n))).1.length) 1) (.ret (([IntKind.u8.wrap n.1] ++ (pu ((strBytes s).map (getF n))).1, (0 : Int), ()), ()))))
def QPr (s : ByteArray) : Prop := ∀ (ri : Nt → Bool) (pu : Puf) (k : Int) (n : Nt), (fnPX Try.prog (runPr ri k s pu) nPu Try.f37 (n, ()) ()).eval = (TPr ri s pu n k).eval
theorem qPr0 : QPr ⟨#[]⟩ := fun ri pu k n => by kernel_rfl
theorem qPr1 : QPr ⟨#[65, 88]⟩ := fun ri pu k n => by kernel_rfl
theorem qPr2 : QPr ⟨#[66, 80, 89]⟩ := fun ri pu k n => by kernel_rfl
theorem qPr3 : QPr ⟨#[80, 81, 89]⟩ := fun ri pu k n => by kernel_rfl
theorem qPr4 : QPr ⟨#[81, 80]⟩ := fun ri pu k n => by kernel_rfl
theorem qPr5 : QPr ⟨#[80]⟩ := fun ri pu k n => by kernel_rfl
theorem qPr6 : QPr ⟨#[65, 88, 66, 89]⟩ := fun ri pu k n => by kernel_rfl
theorem qPr7 : QPr ⟨#[80, 81]⟩ := fun ri pu k n => by kernel_rfl
theorem qPr8 : QPr ⟨#[80, 81, 82, 89]⟩ := fun ri pu k n => by kernel_rfl
theorem qPr9 : QPr ⟨#[81, 88]⟩ := fun ri pu k n => by kernel_rfl
theorem qPr10 : QPr ⟨#[89, 80]⟩ := fun ri pu k n => by kernel_rfl
theorem qPr11 : QPr ⟨#[65]⟩ := fun ri pu k n => by kernel_rfl
theorem qPr : ∀ s ∈ lHas, QPr s := fun s hs => by
 unfold lHas at hs
 simp only [List.mem_cons, List.not_mem_nil, or_false] at hs
 rcases hs with rfl | rfl | rfl | rfl | rfl | rfl | rfl | rfl | rfl | rfl | rfl | rfl | rfl | rfl | rfl | rfl | rfl
 ·exact qPr0
 ·exact qPr1
 ·exact qPr2
 ·exact qPr3
 ·exact qPr4
 ·exact qPr5
 ·exact qPr1
 ·exact qPr6
 ·exact qPr7
 ·exact qPr8
 ·exact qPr5
 ·exact qPr9
 ·exact qPr10
 ·exact qPr5
 ·exact qPr1
 ·exact qPr5
 ·exact qPr11
noncomputable def bRr : Code := loopAt Try.f39 0
abbrev Wdf := List Int → HL [w16, i64]
def cRr (k : Int) (s : ByteArray) (pb : List Int → Bool) (sp : Spf) (wd : Wdf) (pu : Nt → List Int × Int) (s1 : List Int → List Int → Bool) : List (Nat × CSpec) :=
 [(73, sHa k s), (75, .slp [bs] (fun x => pb x.1) [Gen.lt, i64] fun x => sp x.1), (76, .sl [bs] [w16, i64] fun x => wd x.1), (37, sPu (fun _ => true) pu), (26, .sl1 [bs, bs] .bool fun x => s1 x.1 x.2.1)]
noncomputable def LRr (k : Int) (s : ByteArray) (pb : List Int → Bool) (sp : Spf) (wd : Wdf) (pu : Nt → List Int × Int) (s1 : List Int → List Int → Bool) : Loops := fun j st => if j = 9 then runLoopK Try.prog (ctx (cRr k s pb sp wd pu s1)) L0 6 bRr st else .fail
def setG (wd : Wdf) (n : Nt) (c : Int) (b : List Int) : Nt := if c = 65 then setA n b else if c = 66 then setB n b else if c = 88 then (n.1, n.2.1, n.2.2.1, (wd b).1, n.2.2.2.2) else if c = 89 then (n.1, n.2.1, n.2.2.1, n.2.2.2.1, (wd b).1, n.2.2.2.2.2) else if c = 80 then setP n b else if c = 81 then setQ n b else setR n b
def two (c : Int) : Bool := !(decide (c = 88) || decide (c = 89))
def TRs (wd : Wdf) (fin : Nt → Tr nRd.Out) : List Int → Nat → Nt → List (List Int) → Tr nRd.Out
 | [], _, n, _ => fin n
 | c :: cs, i, n, l => .chk (inArr (i : Int) l.length) (if two c = true then .chk (inArr (i : Int) l.length) (TRs wd fin cs (i + 1) (setG wd n c (l.getD i [])) l) else TRs wd fin cs (i + 1) (setG wd n c (l.getD i [])) l)
def TRr (s : ByteArray) (pb : List Int → Bool) (sp : Spf) (wd : Wdf) (pu : Nt → List Int × Int) (s1 : List Int → List Int → Bool) (b : List Int) (k : Int) : Tr nRd.Out :=
 let er : Tr nRd.Out := .ret ((note0, (3 : Int), ()), ())
 let l := sp (tail1 b)
 .ite (decide ((b.length : Int) = 0)) er (.chk (inArr 0 b.length) (.chk (decide (IntKind.i64.wrap (b.getD 0 0) = k)) (.chk (decide ((1 : Int) ≤ (b.length : Int)) && decide ((b.length : Int) ≤ (b.length : Int))) (.chk (pb (tail1 b)) (.ite (l.2.1 != 0) er (.ite (s == e0) er
  (.ite (!decide ((l.1.length : Int) = (s.size : Int))) er (.chk (inArr 0 b.length) (TRs wd (fun m => .ite ((pu m).2 != 0) er (.ite (!s1 b (pu m).1) er (.ret ((m, (0 : Int), ()), ())))) (strBytes s) 0 (no0 (IntKind.i64.wrap (b.getD 0 0))) l.1)))))))))
def QRr (s : ByteArray) : Prop := ∀ (pb : List Int → Bool) (sp : Spf) (wd : Wdf) (pu : Nt → List Int × Int) (s1 : List Int → List Int → Bool) (k : Int) (b : List Int), (fnP Try.prog (ctx (cRr k s pb sp wd pu s1)) (LRr k s pb sp wd pu s1) nRd Try.f39 (b, ()) ()).eval = (TRr s pb sp wd pu s1 b k).eval
theorem qRr0 : QRr ⟨#[]⟩ := fun pb sp wd pu s1 k b => by kernel_rfl
theorem qRr1 : QRr ⟨#[65, 88]⟩ := fun pb sp wd pu s1 k b => by kernel_rfl
theorem qRr2 : QRr ⟨#[66, 80, 89]⟩ := fun pb sp wd pu s1 k b => by kernel_rfl
theorem qRr3 : QRr ⟨#[80, 81, 89]⟩ := fun pb sp wd pu s1 k b => by kernel_rfl
theorem qRr4 : QRr ⟨#[81, 80]⟩ := fun pb sp wd pu s1 k b => by kernel_rfl
theorem qRr5 : QRr ⟨#[80]⟩ := fun pb sp wd pu s1 k b => by kernel_rfl
theorem qRr6 : QRr ⟨#[65, 88, 66, 89]⟩ := fun pb sp wd pu s1 k b => by kernel_rfl
theorem qRr7 : QRr ⟨#[80, 81]⟩ := fun pb sp wd pu s1 k b => by kernel_rfl
theorem qRr8 : QRr ⟨#[80, 81, 82, 89]⟩ := fun pb sp wd pu s1 k b => by kernel_rfl
theorem qRr9 : QRr ⟨#[81, 88]⟩ := fun pb sp wd pu s1 k b => by kernel_rfl
theorem qRr10 : QRr ⟨#[89, 80]⟩ := fun pb sp wd pu s1 k b => by kernel_rfl
theorem qRr11 : QRr ⟨#[65]⟩ := fun pb sp wd pu s1 k b => by kernel_rfl
theorem qRr : ∀ s ∈ lHas, QRr s := fun s hs => by
 unfold lHas at hs
 simp only [List.mem_cons, List.not_mem_nil, or_false] at hs
 rcases hs with rfl | rfl | rfl | rfl | rfl | rfl | rfl | rfl | rfl | rfl | rfl | rfl | rfl | rfl | rfl | rfl | rfl
 ·exact qRr0
 ·exact qRr1
 ·exact qRr2
 ·exact qRr3
 ·exact qRr4
 ·exact qRr5
 ·exact qRr1
 ·exact qRr6
 ·exact qRr7
 ·exact qRr8
 ·exact qRr5
 ·exact qRr9
 ·exact qRr10
 ·exact qRr5
 ·exact qRr1
 ·exact qRr5
 ·exact qRr11
end Go.Proofs.Ytpafadpfpfgfjaa.Nte
end
section
set_option linter.unusedVariables false
set_option linter.unusedSimpArgs false
set_option maxRecDepth 100000
namespace Go.Proofs.Ytpafadpfpfgfjaa.Nte
open Go Vse Go.Proofs Gen
open Kdc (w16 tN Nt zero16 note0 e0 nameF hasF lHas w_succ inArr_of getD_of nSm sameN sameN_self strBytes_of strBytes_bytes sNB rightF inF)
open Fld (putI splitI encL hd1 hd2 Bytes)
def fill1 (m n : Nt) (f : Int → Bool) : Nt :=
 (m.1, (if f 65 = true then n.2.1 else m.2.1), (if f 66 = true then n.2.2.1 else m.2.2.1), (if f 88 = true then n.2.2.2.1 else m.2.2.2.1), (if f 89 = true then n.2.2.2.2.1 else m.2.2.2.2.1),
  (if f 80 = true then n.2.2.2.2.2.1 else m.2.2.2.2.2.1), (if f 81 = true then n.2.2.2.2.2.2.1 else m.2.2.2.2.2.2.1), (if f 82 = true then n.2.2.2.2.2.2.2.1 else m.2.2.2.2.2.2.2.1), ())
theorem word_part {x : List Int} (h : x.length = 16) : wordF (part16 x) = (x, 0, ()) := by
 have : part16 x = x := by
  show (x.drop 0).take 16 = x
  rw [List.drop_zero, List.take_of_length_le (by omega)]
 rw [this]; exact word_b16 h
theorem set_get {m n : Nt} {c : Int} (hc : Ltr c) (hX : n.2.2.2.1.length = 16) (hY : n.2.2.2.2.1.length = 16) : setF m c (getF n c) = fill1 m n (fun x => decide (x = c)) := by
 rcases hc with rfl | rfl | rfl | rfl | rfl | rfl | rfl
 ·show setA m (strBytes n.2.1) = _
  unfold setA; rw [str_str]; rfl
 ·show setB m (strBytes n.2.2.1) = _
  unfold setB; rw [str_str]; rfl
 ·show setX m (part16 n.2.2.2.1) = _
  unfold setX; rw [word_part hX]; rfl
 ·show setY m (part16 n.2.2.2.2.1) = _
  unfold setY; rw [word_part hY]; rfl
 ·rfl
 ·rfl
 ·rfl
theorem fill_fill (m n : Nt) (f g : Int → Bool) : fill1 (fill1 m n f) n g = fill1 m n fun x => g x || f x := by
 have h : ∀ {A : Type} (a b : Bool) (x y : A), (if a = true then x else if b = true then x else y) = if (a || b) = true then x else y := fun a b x y => by cases a <;> cases b <;> rfl
 unfold fill1
 simp only [h]
theorem md_fill {n : Nt} {l : List (List Int)} (hX : n.2.2.2.1.length = 16) (hY : n.2.2.2.2.1.length = 16) : ∀ (cs : List Int) (i : Nat) (m : Nt), (∀ c ∈ cs, Ltr c) → (∀ j, j < cs.length → l.getD (i + j) [] = getF n (cs.getD j 0)) →
  mdS cs i m l = if cs.all (fun c => okF c (getF n c)) = true then (fill1 m n fun x => cs.any fun y => decide (x = y), true) else (note0, false)
 | [], i, m, _, _ => rfl
 | c :: cs, i, m, hl, hg => by
  have h0 : l.getD i [] = getF n c := hg 0 (by simp)
  unfold mdS
  rw [h0, List.all_cons]
  cases ho : okF c (getF n c) with
  | false => rw [if_neg (by simp), Bool.false_and, if_neg (by simp)]
  | true =>
   rw [if_pos rfl, Bool.true_and, set_get (hl c List.mem_cons_self) hX hY, md_fill hX hY cs (i + 1) _ (fun c' h => hl c' (List.mem_cons_of_mem _ h)) (fun j hj => by
    have := hg (j + 1) (by simp only [List.length_cons]; omega)
    rw [show i + 1 + j = i + (j + 1) by omega, this]; rfl), fill_fill]
   have e : (fun x => (cs.any fun y => decide (x = y)) || decide (x = c)) = fun x => (c :: cs).any fun y => decide (x = y) := by
    funext x; rw [List.any_cons, Bool.or_comm]
   rw [e]
theorem in_any (s : ByteArray) (c : Int) : ((strBytes s).any fun y => decide (c = y)) = inF s c := by
 unfold Kdc.inF
 congr 1
 funext y
 rw [Bool.eq_iff_iff, decide_eq_true_eq, beq_iff_eq]
 exact eq_comm
theorem all_ltr (s : ByteArray) (f : Int → Bool) (hl : ∀ c ∈ strBytes s, Ltr c) : (strBytes s).all f = true ↔
  ((inF s 65 = true → f 65 = true) ∧ (inF s 66 = true → f 66 = true) ∧ (inF s 88 = true → f 88 = true) ∧ (inF s 89 = true → f 89 = true) ∧ (inF s 80 = true → f 80 = true) ∧ (inF s 81 = true → f 81 = true) ∧ (inF s 82 = true → f 82 = true)) := by
 have hi : ∀ c, inF s c = true ↔ c ∈ strBytes s := fun c => by
  unfold Kdc.inF
  rw [List.any_eq_true]
  exact ⟨fun ⟨x, hx, e⟩ => by rw [beq_iff_eq] at e; rw [← e]; exact hx, fun h => ⟨c, h, beq_self_eq_true c⟩⟩
 rw [List.all_eq_true]
 constructor
 ·intro h
  exact ⟨fun g => h _ ((hi _).1 g), fun g => h _ ((hi _).1 g), fun g => h _ ((hi _).1 g), fun g => h _ ((hi _).1 g), fun g => h _ ((hi _).1 g), fun g => h _ ((hi _).1 g), fun g => h _ ((hi _).1 g)⟩
 ·rintro ⟨h1, h2, h3, h4, h5, h6, h7⟩ c hc
  have hm := (hi c).2 hc
  rcases hl c hc with rfl | rfl | rfl | rfl | rfl | rfl | rfl
  ·exact h1 hm
  ·exact h2 hm
  ·exact h3 hm
  ·exact h4 hm
  ·exact h5 hm
  ·exact h6 hm
  ·exact h7 hm
theorem name_e0 : nameF e0 = false := by decide +kernel
theorem smI_nil (l : List Int) : Kdc.smF l [] = decide ((l.length : Int) = 0) := by
 unfold Kdc.smF Fld.sameI
 rw [decide_eq_decide]
 cases l <;> simp
 omega
def fA (A : ByteArray) (i : Bool) : Bool := !(i != (A != e0)) && !((A != e0) && !nameF A)
def fP (P : List Int) (i : Bool) : Bool := !(!i && decide ((P.length : Int) > 0)) && decide ((P.length : Int) ≤ 500)
theorem name_ne {A : ByteArray} (h : nameF A = true) : (A == e0) = false := by
 cases hA : (A == e0) with
 | false => rfl
 | true =>
  have := (MapKept.bytes_beq A e0).1 hA
  subst this
  rw [name_e0] at h; cases h
theorem compA (A : ByteArray) (i : Bool) : fA A i = true ↔ ((i = true → nameF A = true) ∧ (A == (if i = true then A else e0)) = true ∧ (i = true → big1 (strBytes A) = false)) := by
 have hu : fA A i = (!(i != !(A == e0)) && !(!(A == e0) && !nameF A)) := rfl
 rw [hu]
 cases hA : (A == e0) with
 | true =>
  have hn : nameF A = false := by
   cases h : nameF A with
   | false => rfl
   | true => have := name_ne h; rw [hA] at this; cases this
  rw [hn]
  cases i with
  | true => simp
  | false => rw [if_neg (by simp), hA]; simp
 | false =>
  cases i with
  | true =>
   rw [if_pos rfl, Kdc.str_self]
   cases hn : nameF A with
   | false => simp
   | true =>
    have := name_size hn
    have hb : big1 (strBytes A) = false := decide_eq_false (by rw [size_str]; omega)
    simp [hb]
  | false => rw [if_neg (by simp), hA]; simp
theorem compP (P : List Int) (i : Bool) : fP P i = true ↔ (Kdc.smF P (if i = true then P else []) = true ∧ (i = true → big1 P = false)) := by
 unfold fP
 cases i with
 | true =>
  rw [if_pos rfl, Kdc.sm_self]
  unfold big1
  simp
 | false =>
  rw [if_neg (by simp), smI_nil]
  by_cases h : P.length = 0
  ·simp [h]
  ·have h2 : (0 : Int) < (P.length : Int) := by omega
   simp [h, h2]
theorem rightF_iff (n : Nt) : rightF n = true ↔ ((hasF n.1 == e0) = false ∧ fA n.2.1 (inF (hasF n.1) 65) = true ∧ fA n.2.2.1 (inF (hasF n.1) 66) = true ∧ (inF (hasF n.1) 88 = true ∨ eqT w16 n.2.2.2.1 zero16 = true) ∧ (inF (hasF n.1) 89 = true ∨ eqT w16 n.2.2.2.2.1 zero16 = true) ∧
  fP n.2.2.2.2.2.1 (inF (hasF n.1) 80) = true ∧ fP n.2.2.2.2.2.2.1 (inF (hasF n.1) 81) = true ∧ fP n.2.2.2.2.2.2.2.1 (inF (hasF n.1) 82) = true) := by
 have e : rightF n = Kdc.rightG hasF inF nameF n := rfl
 rw [e]
 unfold Kdc.rightG Kdc.g2 Kdc.g3 Kdc.g4 Kdc.g5 fA fP
 generalize inF (hasF n.1) 65 = i1
 generalize inF (hasF n.1) 66 = i2
 generalize inF (hasF n.1) 88 = i3
 generalize inF (hasF n.1) 89 = i4
 generalize inF (hasF n.1) 80 = i5
 generalize inF (hasF n.1) 81 = i6
 generalize inF (hasF n.1) 82 = i7
 generalize eqT w16 n.2.2.2.1 zero16 = x1
 generalize eqT w16 n.2.2.2.2.1 zero16 = x2
 have h3 : ∀ i x : Bool, (!(!i && !x)) = true ↔ (i = true ∨ x = true) := by decide
 simp only [Bool.and_eq_true, Bool.not_eq_true', ← h3]
 constructor
 ·rintro ⟨a, ⟨⟨⟨b1, b2⟩, b3⟩, b4⟩, ⟨c1, c2⟩, ⟨⟨d1, d2⟩, d3⟩, ⟨⟨e1, e2⟩, e3⟩⟩
  exact ⟨a, ⟨b1, b3⟩, ⟨b2, b4⟩, c1, c2, ⟨d1, e1⟩, ⟨d2, e2⟩, ⟨d3, e3⟩⟩
 ·rintro ⟨a, ⟨b1, b3⟩, ⟨b2, b4⟩, c1, c2, ⟨d1, e1⟩, ⟨d2, e2⟩, ⟨d3, e3⟩⟩
  exact ⟨a, ⟨⟨⟨b1, b2⟩, b3⟩, b4⟩, ⟨c1, c2⟩, ⟨⟨d1, d2⟩, d3⟩, ⟨⟨e1, e2⟩, e3⟩⟩
theorem rightN_iff {n : Nt} (hX : n.2.2.2.1.length = 16) (hY : n.2.2.2.2.1.length = 16) : rightN n = true ↔ ((hasF n.1 == e0) = false ∧
  (strBytes (hasF n.1)).all (fun c => okF c (getF n c)) = true ∧ sameN n (fill1 (no0 n.1) n (inF (hasF n.1))) = true ∧ (strBytes (hasF n.1)).all (fun c => !big1 (getF n c)) = true) := by
 obtain ⟨a1, a2⟩ := has_ltr n.1
 have hm : madeF n.1 (partsN n) = if (hasF n.1 == e0) = true then (note0, false) else if (strBytes (hasF n.1)).all (fun c => okF c (getF n c)) = true then (fill1 (no0 n.1) n (inF (hasF n.1)), true) else (note0, false) := by
  unfold madeF
  cases he : (hasF n.1 == e0) with
  | true => rw [if_pos rfl, if_pos rfl]
  | false =>
   rw [if_neg (show ¬ (false = true) by simp), if_neg (show ¬ (false = true) by simp), if_pos (by unfold partsN; rw [List.length_map, size_str]), md_fill hX hY _ 0 _ a1 (fun j hj => by
    unfold partsN
    rw [Nat.zero_add, List.getD_eq_getElem?_getD, List.getElem?_map, List.getElem?_eq_getElem hj, List.getD_eq_getElem?_getD, List.getElem?_eq_getElem hj]
    rfl)]
   have e : (fun x => (strBytes (hasF n.1)).any fun y => decide (x = y)) = inF (hasF n.1) := by funext x; exact in_any _ x
   rw [e]
 have hbg : hasB (partsN n) = !(strBytes (hasF n.1)).all (fun c => !big1 (getF n c)) := by
  unfold hasB partsN
  rw [List.any_map, List.not_all_eq_any_not]
  congr 1
  funext c
  simp
 unfold rightN
 rw [hm, hbg, Bool.not_not]
 cases he : (hasF n.1 == e0) with
 | true => rw [if_pos rfl]; simp
 | false =>
  rw [if_neg (by simp)]
  cases ho : (strBytes (hasF n.1)).all (fun c => okF c (getF n c)) with
  | false => rw [if_neg (by simp)]; simp
  | true => rw [if_pos rfl]; simp
theorem right_same {n : Nt} (hX : n.2.2.2.1.length = 16) (hY : n.2.2.2.2.1.length = 16) : rightN n = rightF n := by
 obtain ⟨a1, a2⟩ := has_ltr n.1
 rw [Bool.eq_iff_iff, rightN_iff hX hY, rightF_iff, all_ltr _ _ a1, all_ltr _ _ a1, compA, compA, compP, compP, compP]
 have hw : ∀ x : List Int, x.length = 16 → (part16 x).length = 16 := fun x h => by
  show ((x.drop 0).take 16).length = 16
  rw [List.drop_zero, List.length_take]; omega
 have hbX : big1 (getF n 88) = false := decide_eq_false (by rw [show getF n 88 = part16 n.2.2.2.1 from rfl, hw _ hX]; omega)
 have hbY : big1 (getF n 89) = false := decide_eq_false (by rw [show getF n 89 = part16 n.2.2.2.2.1 from rfl, hw _ hY]; omega)
 have hoX : okF 88 (getF n 88) = true := by
  show ((wordF (part16 n.2.2.2.1)).2.1 == 0) = true
  rw [word_part hX]; rfl
 have hoY : okF 89 (getF n 89) = true := by
  show ((wordF (part16 n.2.2.2.2.1)).2.1 == 0) = true
  rw [word_part hY]; rfl
 have hoA : okF 65 (getF n 65) = nameF n.2.1 := by
  show nameF (bytesStr (strBytes n.2.1)) = _
  rw [str_str]
 have hoB : okF 66 (getF n 66) = nameF n.2.2.1 := by
  show nameF (bytesStr (strBytes n.2.2.1)) = _
  rw [str_str]
 have hsm : sameN n (fill1 (no0 n.1) n (inF (hasF n.1))) = true ↔ ((n.2.1 == (if inF (hasF n.1) 65 = true then n.2.1 else e0)) = true ∧ (n.2.2.1 == (if inF (hasF n.1) 66 = true then n.2.2.1 else e0)) = true ∧
   (inF (hasF n.1) 88 = true ∨ eqT w16 n.2.2.2.1 zero16 = true) ∧ (inF (hasF n.1) 89 = true ∨ eqT w16 n.2.2.2.2.1 zero16 = true) ∧ Kdc.smF n.2.2.2.2.2.1 (if inF (hasF n.1) 80 = true then n.2.2.2.2.2.1 else []) = true ∧
   Kdc.smF n.2.2.2.2.2.2.1 (if inF (hasF n.1) 81 = true then n.2.2.2.2.2.2.1 else []) = true ∧ Kdc.smF n.2.2.2.2.2.2.2.1 (if inF (hasF n.1) 82 = true then n.2.2.2.2.2.2.2.1 else []) = true) := by
  have hx : ∀ (i : Bool) (x : List Int), eqT w16 x (if i = true then x else zero16) = true ↔ (i = true ∨ eqT w16 x zero16 = true) := fun i x => by
   cases i with
   | true => rw [if_pos rfl, Kdc.eqW_self]; simp
   | false => rw [if_neg (by simp)]; simp
  rw [← hx, ← hx]
  unfold sameN
  simp only [Bool.and_eq_true]
  constructor
  ·rintro ⟨_, h⟩; exact h
  ·intro h; exact ⟨decide_eq_true rfl, h⟩
 rw [hsm, hoX, hoY, hoA, hoB, hbX, hbY]
 simp only [show ∀ x, okF 80 x = true from fun _ => rfl, show ∀ x, okF 81 x = true from fun _ => rfl, show ∀ x, okF 82 x = true from fun _ => rfl, show getF n 65 = strBytes n.2.1 from rfl, show getF n 66 = strBytes n.2.2.1 from rfl, show getF n 80 = n.2.2.2.2.2.1 from rfl, show getF n 81 = n.2.2.2.2.2.2.1 from rfl, show getF n 82 = n.2.2.2.2.2.2.2.1 from rfl, Bool.not_eq_true', Bool.not_false, implies_true, true_and, and_true]
 constructor
 ·rintro ⟨a, ⟨b1, b2⟩, ⟨c1, c2, c3, c4, c5, c6, c7⟩, ⟨d1, d2, d5, d6, d7⟩⟩
  exact ⟨a, ⟨b1, c1, d1⟩, ⟨b2, c2, d2⟩, c3, c4, ⟨c5, d5⟩, ⟨c6, d6⟩, ⟨c7, d7⟩⟩
 ·rintro ⟨a, ⟨b1, c1, d1⟩, ⟨b2, c2, d2⟩, c3, c4, ⟨c5, d5⟩, ⟨c6, d6⟩, ⟨c7, d7⟩⟩
  exact ⟨a, ⟨b1, b2⟩, ⟨c1, c2, c3, c4, c5, c6, c7⟩, ⟨d1, d2, d5, d6, d7⟩⟩
end Go.Proofs.Ytpafadpfpfgfjaa.Nte
end
section
set_option linter.unusedVariables false
set_option linter.unusedSimpArgs false
set_option maxRecDepth 100000
namespace Go.Proofs.Ytpafadpfpfgfjaa.Nte
open Go Vse Go.Proofs Gen
open Kdc (w16 tN Nt zero16 note0 e0 nameF hasF lHas w_succ inArr_of getD_of nSm sameN sameN_self strBytes_of strBytes_bytes sNB rightF inF)
open Fld (putI splitI encL hd1 hd2 Bytes)
theorem ok_words {n : Nt} (h : Ty.ok tN n) : n.2.2.2.1.length = 16 ∧ n.2.2.2.2.1.length = 16 := ⟨h.2.2.2.1.1, h.2.2.2.2.1.1⟩
abbrev pu2 : Puf := fun l => putI hd2 l
theorem cPr_sound (k : Int) : CtxSound Try.prog (ctx (cPr rightF k (hasF k) pu2)) ∧ CtxLocal (ctx (cPr rightF k (hasF k) pu2)) := ctx_sound ⟨Kdc.okRi, okHaR k, Fld.ok26, trivial⟩
theorem lPr (k : Int) : LoopOK Try.prog (LPr rightF k (hasF k) pu2) bPr := runLoopK_ok (L' := L0) (n := 6) (cPr_sound k) (loopsOK_of (by kernel_rfl)) (i := 6) (by kernel_rfl) (fun _ => rfl)
theorem loops_Pr : loopsOf (bodyOf Try.f37) = [bPr] := by kernel_rfl
theorem okPr : CSound Try.prog 37 (sPu (fun _ => true) putN) ∧ CLocal (sPu (fun _ => true) putN) :=
 pos_soundX (fnX := fun vs H => fnTX Try.prog (runPr rightF (kindOf vs) (hasF (kindOf vs)) pu2) Try.f37 vs H) (fun args w => callFunc_enter Try.func37 (by kernel_rfl) (c := bodyOf Try.f37) (by kernel_rfl) args w)
  (fun {g H H' w vs rvs v} hI hargs he => fn_soundX Try.func37 (c := bodyOf Try.f37) (by kernel_rfl) (runCut_ok (cPr_sound (kindOf vs)) kPr 0 _ (loopsOK_all fun b hb => by
   rw [loops_Pr, List.mem_singleton] at hb
   subst hb
   exact lPr (kindOf vs))) hI hargs he)
  fun xs hs hx hh hp => by
   obtain ⟨n, u⟩ := xs
   obtain ⟨hX, hY⟩ := ok_words hx.1
   refine (qPr (hasF n.1) (has_mem n.1) rightF pu2 n.1 n).trans ?_
   show _ = some (((putN n).1, (putN n).2, ()), ())
   unfold TPr putN
   rw [right_same hX hY]
   cases h : rightF n with
   | false => rw [ite_t (show (!false) = true from rfl), if_neg (by simp)]; rfl
   | true =>
    have hN : rightN n = true := (right_same hX hY).trans h
    have hl := encL_len _ (right_short hN)
    have hn := parts_len n
    rw [ite_f (show (!true) = false from rfl), if_pos rfl, chk_eval (decide_eq_true rfl)]
    have e : pu2 ((strBytes (hasF n.1)).map (getF n)) = (encL (partsN n), 0, ()) := by
     show putI hd2 (partsN n) = _
     rw [← Fld.putI_same]; exact right_put hN
    rw [e, chk_eval (by simp only [Vse.room, decide_eq_true_eq]; omega)]
    rfl
def foldN : List Int → Nat → Nt → List (List Int) → Nt
 | [], _, n, _ => n
 | c :: cs, i, n, l => foldN cs (i + 1) (setF n c (l.getD i [])) l
abbrev wdF : Wdf := fun a => Fld.wordI a
theorem TRs_eq {l : List (List Int)} (fin : Nt → Tr nRd.Out) : ∀ (cs : List Int) (i : Nat) (n : Nt), i + cs.length ≤ l.length → (TRs wdF fin cs i n l).eval = (fin (foldN cs i n l)).eval
 | [], i, n, h => rfl
 | c :: cs, i, n, h => by
  have h1 : i < l.length := by simp only [List.length_cons] at h; omega
  have ih := TRs_eq (l := l) fin cs (i + 1) (setF n c (l.getD i [])) (by simp only [List.length_cons] at h; omega)
  unfold TRs
  rw [chk_eval (inArr_of h1)]
  by_cases h2 : two c = true
  ·rw [if_pos h2, chk_eval (inArr_of h1)]; exact ih
  ·rw [if_neg h2]; exact ih
theorem md_fold {l : List (List Int)} : ∀ (cs : List Int) (i : Nat) (n : Nt), (mdS cs i n l).2 = true → (mdS cs i n l).1 = foldN cs i n l
 | [], i, n, h => rfl
 | c :: cs, i, n, h => by
  unfold mdS at h ⊢
  split at h
  ·rename_i ho
   rw [if_pos ho]
   exact md_fold cs (i + 1) _ h
  ·cases h
theorem fold_kind {l : List (List Int)} : ∀ (cs : List Int) (i : Nat) (n : Nt), (∀ c ∈ cs, Ltr c) → (foldN cs i n l).1 = n.1
 | [], i, n, h => rfl
 | c :: cs, i, n, h => (fold_kind cs (i + 1) _ (fun c' h' => h c' (List.mem_cons_of_mem _ h'))).trans (kind_set (h c List.mem_cons_self))
def kindR : List AV → Int
 | .v (.imm _ _ (.int .u8)) x :: _ => IntKind.i64.wrap (List.getD (α := Int) x 0 0)
 | _ => 0
abbrev cRrF (k : Int) := cRr k (hasF k) Fld.preB (fun b => splitI b) wdF putN smI
theorem cRr_sound (k : Int) : CtxSound Try.prog (ctx (cRrF k)) ∧ CtxLocal (ctx (cRrF k)) := ctx_sound ⟨okHaR k, Fld.ok28, Fld.ok32, okPr, Fld.ok19, trivial⟩
theorem lRr (k : Int) : LoopOK Try.prog (LRr k (hasF k) Fld.preB (fun b => splitI b) wdF putN smI) bRr := runLoopK_ok (L' := L0) (n := 6) (cRr_sound k) (loopsOK_of (by kernel_rfl)) (i := 9) (by kernel_rfl) (fun _ => rfl)
theorem loops_Rr : loopsOf (bodyOf Try.f39) = [bRr] := by kernel_rfl
theorem read_plain {b : List Int} (hb : Bytes b) (hl : b.length ≤ 140737488355328) : (TRr (hasF (IntKind.i64.wrap (b.getD 0 0))) Fld.preB (fun b => splitI b) wdF putN smI b (IntKind.i64.wrap (b.getD 0 0))).eval = some (((readN b).1, (readN b).2, ()), ()) := by
 have et : tail1 b = b.drop 1 := by show (b.take b.length).drop 1 = _; rw [List.take_length]
 have hk := Fld.bytes_get hb 0
 have ek : IntKind.i64.wrap (b.getD 0 0) = b.getD 0 0 := w_id (by omega) (by omega)
 unfold TRr
 dsimp only
 rw [et, ek]
 by_cases h0 : b.length = 0
 ·rw [ite_t (decide_eq_true (by omega))]
  unfold readN
  rw [if_pos h0]; rfl
 rw [ite_f (decide_eq_false (by omega)), chk_eval (by simp only [inArr, Bool.and_eq_true, decide_eq_true_eq]; omega), chk_eval (decide_eq_true rfl), chk_eval (by simp; omega), chk_eval (show Fld.preB (b.drop 1) = true from decide_eq_true (by rw [List.length_drop]; omega))]
 by_cases h1 : (splitI (b.drop 1)).2.1 = 0
 case neg =>
  rw [ite_t (by rw [bne_iff_ne]; exact h1)]
  unfold readN
  rw [if_neg h0, if_pos h1]; rfl
 rw [ite_f (by rw [h1]; rfl)]
 have hR : readN b = if (madeF (b.getD 0 0) (splitI (b.drop 1)).1).2 = false then (note0, 3) else ((madeF (b.getD 0 0) (splitI (b.drop 1)).1).1, 0) := by
  unfold readN
  rw [if_neg h0, if_neg (not_not_intro h1)]
 cases h2 : (hasF (b.getD 0 0) == e0) with
 | true =>
  rw [ite_t rfl, hR]
  unfold madeF
  rw [if_pos h2]; rfl
 | false =>
  rw [ite_f rfl]
  by_cases h3 : ((splitI (b.drop 1)).1.length : Int) = ((hasF (b.getD 0 0)).size : Int)
  case neg =>
   have e : madeF (b.getD 0 0) (splitI (b.drop 1)).1 = (note0, false) := by
    unfold madeF
    rw [if_neg (by rw [h2]; decide), if_neg h3]
   rw [ite_t (by rw [decide_eq_false h3]; rfl), hR, e]; rfl
  rw [ite_f (by rw [decide_eq_true h3]; rfl), chk_eval (by simp only [inArr, Bool.and_eq_true, decide_eq_true_eq]; omega)]
  have hm : madeF (b.getD 0 0) (splitI (b.drop 1)).1 = mdS (strBytes (hasF (b.getD 0 0))) 0 (no0 (b.getD 0 0)) (splitI (b.drop 1)).1 := by
   unfold madeF
   rw [if_neg (by rw [h2]; simp), if_pos h3]
  refine (TRs_eq _ _ 0 _ (by rw [size_str]; omega)).trans ?_
  obtain ⟨a1, a2⟩ := has_ltr (b.getD 0 0)
  have hkd := fold_kind (l := (splitI (b.drop 1)).1) _ 0 (no0 (b.getD 0 0)) a1
  generalize hf : foldN (strBytes (hasF (b.getD 0 0))) 0 (no0 (b.getD 0 0)) (splitI (b.drop 1)).1 = m at hkd ⊢
  have hkd : m.1 = b.getD 0 0 := hkd
  cases h4 : (madeF (b.getD 0 0) (splitI (b.drop 1)).1).2 with
  | true =>
   have hr2 : (readN b).2 = 0 := by rw [hR, h4]; rfl
   have hr1 : (readN b).1 = m := by
    rw [hR, h4]
    show (madeF _ _).1 = m
    rw [hm] at h4 ⊢
    rw [← hf]
    exact md_fold _ _ _ h4
   obtain ⟨p1, p2⟩ := put_read hb hr2
   rw [hr1] at p1 ⊢
   rw [hr2, p1, ite_f (by rfl), ite_f (by rw [show smI b b = true from decide_eq_true rfl]; rfl)]
   rfl
  | false =>
   have hr : readN b = (note0, 3) := by rw [hR, h4]; rfl
   rw [hr]
   cases h5 : ((putN m).2 != 0) with
   | true => rw [ite_t rfl]; rfl
   | false =>
    rw [ite_f rfl]
    cases h6 : smI b (putN m).1 with
    | false => rw [ite_t (by rfl)]; rfl
    | true =>
     exfalso
     have hb6 : b = (putN m).1 := of_decide_eq_true h6
     have hri : rightN m = true := by
      cases hh : rightN m with
      | true => rfl
      | false =>
       unfold putN at h5
       rw [if_neg (by rw [hh]; simp)] at h5
       cases h5
     have hp := Fld.put_split (right_put hri)
     have hb7 : b.drop 1 = encL (partsN m) := by
      rw [hb6]
      unfold putN
      rw [if_pos hri]
      rfl
     have hs : (splitI (b.drop 1)).1 = partsN m := by rw [hb7, hp]
     have hri' := hri
     unfold rightN at hri'
     simp only [Bool.and_eq_true] at hri'
     have h8 := hri'.1
     rw [hkd, ← hs, h4] at h8
     cases h8
theorem okRr : CSound Try.prog 39 (sRd okC readN) ∧ CLocal (sRd okC readN) :=
 pos_soundX (fnX := fun vs H => fnK Try.prog (ctx (cRrF (kindR vs))) (LRr (kindR vs) (hasF (kindR vs)) Fld.preB (fun b => splitI b) wdF putN smI) Try.f39 vs H) (fun args w => callFunc_enter Try.func39 (by kernel_rfl) (c := bodyOf Try.f39) (by kernel_rfl) args w)
  (fun {g H H' w vs rvs v} hI hargs he => fn_sound (cRr_sound (kindR vs)).1 (cRr_sound (kindR vs)).2 Try.func39 (c := bodyOf Try.f39) (by kernel_rfl) (loopsOK_all fun b hb => by
   rw [loops_Rr, List.mem_singleton] at hb
   subst hb
   exact lRr (kindR vs)) hI hargs (fnK_ok he))
  fun xs hs hx hh hp => by
   obtain ⟨b, u⟩ := xs
   have hb : Bytes b := bt_bytes hx.1
   have hl : List.length (α := Int) b ≤ 140737488355328 := of_decide_eq_true hp
   exact (qRr (hasF (IntKind.i64.wrap (List.getD (α := Int) b 0 0))) (has_mem _) Fld.preB (fun b => splitI b) wdF putN smI (IntKind.i64.wrap (List.getD (α := Int) b 0 0)) b).trans (read_plain hb hl)
end Go.Proofs.Ytpafadpfpfgfjaa.Nte
end
section
set_option linter.unusedVariables false
set_option linter.unusedSimpArgs false
set_option maxRecDepth 100000
namespace Go.Proofs.Ytpafadpfpfgfjaa.Nte
open Go Vse Go.Proofs Gen
open Kdc (w16 tN Nt zero16 note0 e0 nameF hasF lHas w_succ inArr_of getD_of nSm sameN sameN_self strBytes_of strBytes_bytes sNB rightF inF smallF)
open Fld (putI splitI encL hd1 hd2 Bytes)
def cNt (up : Bool) (sl : Nt → Bool) (s1 : List Int → List Int → Bool) (p ri : Nt → Bool) (pu : Nt → List Int × Int) (q : List Int → Bool) (rd : List Int → Nt × Int) (sm : Nt → Nt → Bool)
  (pr : Nt → List Int × Int) (rr : List Int → Nt × Int) (sa : Nt → Nt → Bool) (rf : Nt → Bool) : List (Nat × CSpec) :=
 [(34, Kdc.sUp up), (35, sNB sl), (26, .sl1 [bs, bs] .bool fun x => s1 x.1 x.2.1), (37, sPu (fun _ => true) pr), (39, sRd q rr), (40, Kdc.sSa sa), (41, sNB rf)] ++ cA10 p ri pu q rd sm
section
variable (up : Bool) (sl : Nt → Bool) (s1 : List Int → List Int → Bool) (p ri : Nt → Bool) (pu : Nt → List Int × Int) (q : List Int → Bool) (rd : List Int → Nt × Int) (sm : Nt → Nt → Bool) (pr : Nt → List Int × Int) (rr : List Int → Nt × Int) (sa : Nt → Nt → Bool) (rf : Nt → Bool)
def TNt (l : List Nt) (b : List Int) : Tr AV :=
 let no : Tr AV := .ret (.v .bool false)
 let x := l.getD 0 (dflt tN)
 let y := l.getD 1 (dflt tN)
 .ite (!sl x) (.ret (.v .bool up)) (.ite (!sl y) (.ret (.v .bool up)) (.ite (decide ((b.length : Int) > 2000)) (.ret (.v .bool up)) (.chk (p x) (.chk (q b) (.chk (q b) (.ite up (.chk (p x) (.ite (ri x == rf x) (.ite (s1 (pu x).1 (pr x).1) (.ite ((pu x).2 == (pr x).2)
  (.ite (sa (rd b).1 (rr b).1) (.ite ((rd b).2 == (rr b).2) (.ret (.v .bool (sm x y == sa x y))) no) no) no) no) no)) no))))))
theorem tNt (l : List Nt) (b : List Int) : nrm (fnK Try.prog (ctx (cNt up sl s1 p ri pu q rd sm pr rr sa rf)) L0 Try.f8 (mkArgs [.arr 2 tN, bt] (l, b, ())) []) = (TNt up sl s1 p ri pu q rd sm pr rr sa rf l b).eval := by kernel_rfl
end
theorem cNt_sound : CtxSound Try.prog (ctx (cNt true smallF smI preN2 rightN putN okC readN sameN putN readN sameN rightF)) ∧ CtxLocal (ctx (cNt true smallF smI preN2 rightN putN okC readN sameN putN readN sameN rightF)) :=
 ctx_sound ⟨okUp10, Kdc.okSm, Fld.ok19, okPr, okRr, Kdc.okSa, Kdc.okRi, okPu, okRd, Gst.okSaN, okRi2, trivial⟩
theorem TNt_true {l : List Nt} {b : List Int} (hp : preN2 (l.getD 0 (dflt tN)) = true) (hX : (l.getD 0 (dflt tN)).2.2.2.1.length = 16) (hY : (l.getD 0 (dflt tN)).2.2.2.2.1.length = 16) (hl : okC b = true) :
  (TNt true smallF smI preN2 rightN putN okC readN sameN putN readN sameN rightF l b).eval = some (.v .bool true) := by
 unfold TNt
 dsimp only
 generalize l.getD 1 (dflt tN) = y
 generalize l.getD 0 (dflt tN) = x at hp hX hY
 cases h1 : smallF x with
 | false => rw [ite_t (show (!false) = true from rfl)]; rfl
 | true =>
  rw [ite_f (show (!true) = false from rfl)]
  cases h2 : smallF y with
  | false => rw [ite_t (show (!false) = true from rfl)]; rfl
  | true =>
   rw [ite_f (show (!true) = false from rfl)]
   by_cases h3 : ((b.length : Int) > 2000)
   ·rw [ite_t (decide_eq_true h3)]; rfl
   rw [ite_f (decide_eq_false h3), chk_eval hp, chk_eval hl, chk_eval hl, ite_t rfl, chk_eval hp, ite_t (by rw [right_same hX hY]; exact beq_self_eq_true _), ite_t (by exact same_t), ite_t (beq_self_eq_true _), ite_t (by rw [sameN_self]), ite_t (beq_self_eq_true _), beq_self_eq_true]
   rfl
theorem Nt_law (l : List Nt) (b : List Int) (hn : Ty.sz (.arr 2 tN) l) (hb : Ty.sz bt b) (hw : Ty.wf (.arr 2 tN) l) : nrm (fnK Try.prog (ctx (cNt true smallF smI preN2 rightN putN okC readN sameN putN readN sameN rightF)) L0 Try.f8 (mkArgs [.arr 2 tN, bt] (l, b, ())) []) = some (.v .bool true) := by
 have hlen : List.length (α := Nt) l = 2 := hw.1
 have hm : List.getD (α := Nt) l 0 (dflt tN) ∈ (l : List Nt) := by
  rw [List.getD_eq_getElem?_getD, List.getElem?_eq_getElem (by omega)]
  exact List.getElem_mem _
 have hz := hn _ hm
 have hv := hw.2 _ hm
 refine (tNt true smallF smI preN2 rightN putN okC readN sameN putN readN sameN rightF l b).trans (TNt_true ?_ hv.2.2.2.1.1 hv.2.2.2.2.1.1 (okC_sz hb))
 unfold preN2
 rw [okC_sz hz.2.2.2.2.2.1, okC_sz hz.2.2.2.2.2.2.1, okC_sz hz.2.2.2.2.2.2.2.1]
 rfl
end Go.Proofs.Ytpafadpfpfgfjaa.Nte
end
set_option linter.unusedVariables false
set_option maxRecDepth 100000
namespace Go.Proofs.Ytpafadpfpfgfjaa
open Go Vse Go.Proofs Go.ChangeShapes Go.WideShapes Go.ChangeAt Go.RowKit
theorem own10t : ownKnob Try.prog.godebug = none := by kernel_rfl
theorem laid10t : laidOutB Try.prog = true := by kernel_rfl
theorem noteTells_lifted (os : Os) (started : os.Started) (H : Type) (enc : TypeId × Value → H) :
  ReturnsInHanded {} Try.checked os 8 .any (Rows.noteTellsSpec.pre6 enc Try.prog Try.f8 Rows.noteTellsRow.domain false) (Rows.noteTellsSpec.post enc Try.prog Try.f8 false true false false) := by
 refine returnsInHanded_of_change_sized (C := Try.checked) own10t started (by kernel_rfl) Try.func8
  (ChangeSpec.witness6 (enc := enc) (C := Try.checked) false ⟨#[], #[.agg ((#[.int .i64 0, .string ⟨#[]⟩, .string ⟨#[]⟩] ++ Array.replicate 32 (.int .u8 0) ++ #[.slice none 0 0, .slice none 0 0, .slice none 0 0]) ++ (#[.int .i64 0, .string ⟨#[]⟩, .string ⟨#[]⟩] ++ Array.replicate 32 (.int .u8 0) ++ #[.slice none 0 0, .slice none 0 0, .slice none 0 0])), .slice none 0 0], []⟩ 8 (by kernel_rfl) (by kernel_rfl) (by kernel_rfl) (by kernel_rfl)) ?_
 intro W base args ds gs before hval hW _ hsz _
 refine law_callsT (n := 8) (As := [.arr 2 Kdc.tN, Gen.bt]) (L := L0) Nte.cNt_sound laid10t Try.func8 (by kernel_rfl) (noLoopsL (by kernel_rfl)) (by kernel_rfl) (tb := 4) (by kernel_rfl) (by kernel_rfl)
  ⟨rfl, fun ds h => ?_⟩ (fun xs hx hz => ?_) hval hW hsz
 ·match ds, h with
  | [d1, d2], _ => rfl
 ·exact Nte.Nt_law xs.1 xs.2.1 hz.1 hz.2.1 hx.1
theorem noteTells_holds : Rows.NoteTellsSaid :=
 OpenClaim.holds_of_wide 8 Try.f8 rfl rfl rfl rfl rfl rfl rfl ⟨rfl, rfl, rfl, rfl, rfl⟩ rfl rfl rfl rfl rfl (by kernel_rfl) Try.func8 (by kernel_rfl)
  (of_decide_eq_true (by kernel_rfl)) (by unfold Func.isWrapper; first | (rw [if_pos (by decide +kernel)]; kernel_rfl) | (rw [if_neg (by decide +kernel)]; exact ⟨rfl, rfl⟩))
  (fun os started H enc _ => noteTells_lifted os started H enc)
end Go.Proofs.Ytpafadpfpfgfjaa
#print axioms Go.Proofs.Ytpafadpfpfgfjaa.noteTells_holds

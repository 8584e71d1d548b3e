/- What the functions of layer 6 (span) give, as plain functions of integers. -/
import Derived.Test.YtmhifhdgaikmhaaE25
import Derived.Test.YtmhifhdgaikmhaaProg
import Derived.KernelRfl
set_option linter.unusedVariables false
set_option maxRecDepth 100000
namespace Go.Proofs.Ytmhifhdgaikmhaa.Span
open Go Vse Go.Proofs

abbrev F : Int := 1152921504606846976
abbrev i64 : Ty := .int .i64
abbrev tS : Ty := .prod (.int .i64) (.prod (.int .i64) .unit)
abbrev w (x : Int) : Int := IntKind.i64.wrap x

def clampF (x : tS.den) : tS.den := (minI (maxI x.1 (-F)) F, minI (maxI x.2.1 (-F)) F, ())
def knownF (t p : Int) : Bool := decide (t ≥ 0) && (decide (t ≤ F) && (decide (p ≥ 0) && decide (p ≤ 100000)))
def slackF (t p : Int) : Int := bif !knownF t p then 0 else
  w (w (w (t.tdiv 1000000) * p) + w ((w (w (w ((t.tmod 1000000) * p) + 1000000) - 1)).tdiv 1000000))
def growF (x : tS.den) (t p : Int) : tS.den := bif !knownF t p then x else clampF (w (w (x.1 + t) - slackF t p), w (w (x.2.1 + t) + slackF t p), ())
def rightF (x : tS.den) : Bool := eqT tS x (clampF x) && decide (x.1 ≤ x.2.1)
def hasF (x : tS.den) (t : Int) : Bool := decide (t ≥ x.1) && decide (t ≤ x.2.1)
def meetF (a b : tS.den) : HL [tS, .bool] := bif decide (maxI a.1 b.1 > minI a.2.1 b.2.1) then ((0, 0, ()), false, ()) else ((maxI a.1 b.1, minI a.2.1 b.2.1, ()), true, ())
def hullF (a b : tS.den) : tS.den := (minI a.1 b.1, maxI a.2.1 b.2.1, ())
def widthF (x : tS.den) : Int := w (x.2.1 - x.1)
def rRightF (x : tS.den) : Bool := decide (x.1 ≥ -F) && (decide (x.2.1 ≤ F) && decide (x.1 ≤ x.2.1))
def rHasF (x : tS.den) (t : Int) : Bool := decide (x.1 ≤ t) && decide (t ≤ x.2.1)
def rSlackF (t p : Int) : Int := bif !knownF t p then 0 else
  bif decide ((w ((t.tmod 1000000) * p)).tmod 1000000 > 0) then w (w (w (w (t.tdiv 1000000) * p) + w ((w ((t.tmod 1000000) * p)).tdiv 1000000)) + 1)
  else w (w (w (t.tdiv 1000000) * p) + w ((w ((t.tmod 1000000) * p)).tdiv 1000000))
def rGrowF (x : tS.den) (t p : Int) : tS.den := bif !knownF t p then x else (minI (w (w (x.1 + t) - rSlackF t p)) F, minI (w (w (x.2.1 + t) + rSlackF t p)) F, ())

def s45 : CSpec := .fn1 [tS] (tS) fun x => clampF x.1
def s46 : CSpec := .fn1 [i64, i64] (.bool) fun x => knownF x.1 x.2.1
def s47 : CSpec := s46
def s14 : CSpec := .fn1 [tS] (.bool) fun x => rightF x.1
def s15 : CSpec := .fn1 [i64, i64] (i64) fun x => slackF x.1 x.2.1
def s16 : CSpec := .fn1 [tS, i64] (.bool) fun x => hasF x.1 x.2.1
def s17 : CSpec := .fn1 [tS, i64, i64] (tS) fun x => growF x.1 x.2.1 x.2.2.1
def s18 : CSpec := .fn1 [tS] (i64) fun x => widthF x.1
def s19 : CSpec := .fn [tS, tS] [tS, .bool] fun x => meetF x.1 x.2.1
def s24 : CSpec := .fn1 [tS, tS] (tS) fun x => hullF x.1 x.2.1
def s20 : CSpec := s19
def s21 : CSpec := .fn1 [tS] (.bool) fun x => rRightF x.1
def s22 : CSpec := .fn1 [tS, i64] (.bool) fun x => rHasF x.1 x.2.1
def s23 : CSpec := .fn1 [i64, i64] (i64) fun x => rSlackF x.1 x.2.1
def s25 : CSpec := .fn1 [tS, i64, i64] (tS) fun x => rGrowF x.1 x.2.1 x.2.2.1
def s13 : CSpec := .fn1 [] (.bool) fun _ => true

def L1 : List (Nat × CSpec) := [(45, s45), (46, s46), (47, s47), (16, s16), (18, s18), (19, s19), (24, s24), (20, s20), (21, s21), (22, s22)]
def L2 : List (Nat × CSpec) := (14, s14) :: (15, s15) :: (23, s23) :: L1
def L3 : List (Nat × CSpec) := (17, s17) :: (25, s25) :: L2
def L4 : List (Nat × CSpec) := (13, s13) :: L3

theorem nil_sound : CtxSound Try.prog (ctx []) ∧ CtxLocal (ctx []) := ctx_sound trivial

theorem ok45 : CSound Try.prog 45 s45 ∧ CLocal s45 := fn_ok1 nil_sound Try.func45 (by kernel_rfl) (fun xs => by kernel_rfl) (fun xs => by kernel_rfl)
theorem ok46 : CSound Try.prog 46 s46 ∧ CLocal s46 := fn_ok1 nil_sound Try.func46 (by kernel_rfl) (fun xs => by kernel_rfl) (fun xs => by kernel_rfl)
theorem ok47 : CSound Try.prog 47 s47 ∧ CLocal s47 := fn_ok1 nil_sound Try.func47 (by kernel_rfl) (fun xs => by kernel_rfl) (fun xs => by kernel_rfl)
theorem ok16 : CSound Try.prog 16 s16 ∧ CLocal s16 := fn_ok1 nil_sound Try.func16 (by kernel_rfl) (fun xs => by kernel_rfl) (fun xs => by kernel_rfl)
theorem ok18 : CSound Try.prog 18 s18 ∧ CLocal s18 := fn_ok1 nil_sound Try.func18 (by kernel_rfl) (fun xs => by kernel_rfl) (fun xs => by kernel_rfl)
theorem ok19 : CSound Try.prog 19 s19 ∧ CLocal s19 := fn_ok0 nil_sound Try.func19 (by kernel_rfl) (fun xs => by kernel_rfl) (fun xs => by kernel_rfl)
theorem ok20 : CSound Try.prog 20 s20 ∧ CLocal s20 := fn_ok0 nil_sound Try.func20 (by kernel_rfl) (fun xs => by kernel_rfl) (fun xs => by kernel_rfl)
theorem ok21 : CSound Try.prog 21 s21 ∧ CLocal s21 := fn_ok1 nil_sound Try.func21 (by kernel_rfl) (fun xs => by kernel_rfl) (fun xs => by kernel_rfl)
theorem ok22 : CSound Try.prog 22 s22 ∧ CLocal s22 := fn_ok1 nil_sound Try.func22 (by kernel_rfl) (fun xs => by kernel_rfl) (fun xs => by kernel_rfl)
theorem ok24 : CSound Try.prog 24 s24 ∧ CLocal s24 := fn_ok1 nil_sound Try.func24 (by kernel_rfl) (fun xs => by kernel_rfl) (fun xs => by kernel_rfl)
theorem L1_sound : CtxSound Try.prog (ctx L1) ∧ CtxLocal (ctx L1) := ctx_sound ⟨ok45, ok46, ok47, ok16, ok18, ok19, ok24, ok20, ok21, ok22, trivial⟩
theorem ok14 : CSound Try.prog 14 s14 ∧ CLocal s14 := fn_ok1 L1_sound Try.func14 (by kernel_rfl) (fun xs => by kernel_rfl) (fun xs => by kernel_rfl)
theorem ok15 : CSound Try.prog 15 s15 ∧ CLocal s15 := fn_ok1 L1_sound Try.func15 (by kernel_rfl) (fun xs => by kernel_rfl) (fun xs => by kernel_rfl)
theorem ok23 : CSound Try.prog 23 s23 ∧ CLocal s23 := fn_ok1 L1_sound Try.func23 (by kernel_rfl) (fun xs => by kernel_rfl) (fun xs => by kernel_rfl)
theorem L2_sound : CtxSound Try.prog (ctx L2) ∧ CtxLocal (ctx L2) := ctx_sound ⟨ok14, ok15, ok23, ok45, ok46, ok47, ok16, ok18, ok19, ok24, ok20, ok21, ok22, trivial⟩
theorem ok17 : CSound Try.prog 17 s17 ∧ CLocal s17 := fn_ok1 L2_sound Try.func17 (by kernel_rfl) (fun xs => by kernel_rfl) (fun xs => by kernel_rfl)
theorem ok25 : CSound Try.prog 25 s25 ∧ CLocal s25 := fn_ok1 L2_sound Try.func25 (by kernel_rfl) (fun xs => by kernel_rfl) (fun xs => by kernel_rfl)
theorem L3_sound : CtxSound Try.prog (ctx L3) ∧ CtxLocal (ctx L3) := ctx_sound ⟨ok17, ok25, ok14, ok15, ok23, ok45, ok46, ok47, ok16, ok18, ok19, ok24, ok20, ok21, ok22, trivial⟩
theorem ok13 : CSound Try.prog 13 s13 ∧ CLocal s13 := fn_ok1 L3_sound Try.func13 (by kernel_rfl) (fun xs => by kernel_rfl) (fun xs => by kernel_rfl)
theorem L4_sound : CtxSound Try.prog (ctx L4) ∧ CtxLocal (ctx L4) := ctx_sound ⟨ok13, ok17, ok25, ok14, ok15, ok23, ok45, ok46, ok47, ok16, ok18, ok19, ok24, ok20, ok21, ok22, trivial⟩

end Go.Proofs.Ytmhifhdgaikmhaa.Span

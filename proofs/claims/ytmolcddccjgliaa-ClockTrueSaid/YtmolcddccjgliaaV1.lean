/- The clock (layer 8): spans that grow; walks of its functions. -/
import Derived.Test.YtmolcddccjgliaaU9
set_option linter.unusedVariables false
set_option maxRecDepth 100000
namespace Go.Proofs.Ytmolcddccjgliaa.Clock
open Go Vse Go.Proofs Gen Sweep

/-! spans -/

def knownF (t p : Int) : Bool := decide (t ≥ 0) && (decide (t ≤ F) && (decide (p ≥ 0) && decide (p ≤ 100000)))
def slackF (t p : Int) : Int := bif !knownF t p then 0 else
  w (w (w (t.tdiv 1000000) * p) + w ((w (w (w ((t.tmod 1000000) * p) + 1000000) - 1)).tdiv 1000000))
def growF (x : tS.den) (t p : Int) : tS.den := bif !knownF t p then x else clampF (w (w (x.1 + t) - slackF t p), w (w (x.2.1 + t) + slackF t p), ())
def rSlackF (t p : Int) : Int := bif !knownF t p then 0 else
  bif decide ((w ((t.tmod 1000000) * p)).tmod 1000000 > 0) then w (w (w (w (t.tdiv 1000000) * p) + w ((w ((t.tmod 1000000) * p)).tdiv 1000000)) + 1)
  else w (w (w (t.tdiv 1000000) * p) + w ((w ((t.tmod 1000000) * p)).tdiv 1000000))
def rGrowF (x : tS.den) (t p : Int) : tS.den := bif !knownF t p then x else (minI (w (w (x.1 + t) - rSlackF t p)) F, minI (w (w (x.2.1 + t) + rSlackF t p)) F, ())
def s45 : CSpec := .fn1 [i64, i64] (.bool) fun x => knownF x.1 x.2.1
def s46 : CSpec := .fn1 [i64, i64] (i64) fun x => slackF x.1 x.2.1
def s44 : CSpec := .fn1 [i64, i64] (i64) fun x => rSlackF x.1 x.2.1
def s32 : CSpec := .fn1 [tS, i64, i64] (tS) fun x => growF x.1 x.2.1 x.2.2.1
def s43 : CSpec := .fn1 [tS, i64, i64] (tS) fun x => rGrowF x.1 x.2.1 x.2.2.1
theorem ok45 : CSound Try.prog 45 s45 ∧ CLocal s45 := fn_ok1 nil_sound Try.func45 (by kernel_rfl) (fun xs _ => by kernel_rfl) (fun xs _ => by kernel_rfl)
theorem ok55 : CSound Try.prog 55 s45 ∧ CLocal s45 := fn_ok1 nil_sound Try.func55 (by kernel_rfl) (fun xs _ => by kernel_rfl) (fun xs _ => by kernel_rfl)
theorem A1_sound : CtxSound Try.prog (ctx [(45, s45), (55, s45), (47, s47)]) ∧ CtxLocal (ctx [(45, s45), (55, s45), (47, s47)]) := ctx_sound ⟨ok45, ok55, ok47, trivial⟩
theorem ok46 : CSound Try.prog 46 s46 ∧ CLocal s46 := fn_ok1 A1_sound Try.func46 (by kernel_rfl) (fun xs _ => by kernel_rfl) (fun xs _ => by kernel_rfl)
theorem ok44 : CSound Try.prog 44 s44 ∧ CLocal s44 := fn_ok1 A1_sound Try.func44 (by kernel_rfl) (fun xs _ => by kernel_rfl) (fun xs _ => by kernel_rfl)
theorem A2_sound : CtxSound Try.prog (ctx [(45, s45), (55, s45), (47, s47), (46, s46), (44, s44)]) ∧ CtxLocal (ctx [(45, s45), (55, s45), (47, s47), (46, s46), (44, s44)]) := ctx_sound ⟨ok45, ok55, ok47, ok46, ok44, trivial⟩
theorem ok32 : CSound Try.prog 32 s32 ∧ CLocal s32 := fn_ok1 A2_sound Try.func32 (by kernel_rfl) (fun xs _ => by kernel_rfl) (fun xs _ => by kernel_rfl)
theorem ok43 : CSound Try.prog 43 s43 ∧ CLocal s43 := fn_ok1 A2_sound Try.func43 (by kernel_rfl) (fun xs _ => by kernel_rfl) (fun xs _ => by kernel_rfl)

/-! clocks -/

abbrev tC : Ty := .prod i64 (.prod .bool (.prod i64 (.prod tS .unit)))
def readF (n : Int) : Bool := decide (n ≥ 0) && decide (n ≤ F)
def partF (n : Int) : Bool := decide (n ≥ 0) && decide (n ≤ 100000)
def offF (c : tC.den) : tC.den := (c.1, false, 0, (0, 0, ()), ())
def s40 : CSpec := .fn1 [i64] .bool fun x => readF x.1
def s41 : CSpec := .fn1 [i64] .bool fun x => partF x.1
def s30 : CSpec := .fn1 [tC] tC fun x => offF x.1
theorem ok40 : CSound Try.prog 40 s40 ∧ CLocal s40 := fn_ok1 nil_sound Try.func40 (by kernel_rfl) (fun xs _ => by kernel_rfl) (fun xs _ => by kernel_rfl)
theorem ok42 : CSound Try.prog 42 s40 ∧ CLocal s40 := fn_ok1 nil_sound Try.func42 (by kernel_rfl) (fun xs _ => by kernel_rfl) (fun xs _ => by kernel_rfl)
theorem ok41 : CSound Try.prog 41 s41 ∧ CLocal s41 := fn_ok1 nil_sound Try.func41 (by kernel_rfl) (fun xs _ => by kernel_rfl) (fun xs _ => by kernel_rfl)
theorem ok30 : CSound Try.prog 30 s30 ∧ CLocal s30 := fn_ok1 nil_sound Try.func30 (by kernel_rfl) (fun xs _ => by kernel_rfl) (fun xs _ => by kernel_rfl)

abbrev Gr := tS.den → Int → Int → tS.den
abbrev nSa : PSpec := ⟨[tS, i64, i64, i64], [tS, i64], [], [], []⟩
def cX (R R' : tS.den → Bool) (Rd Pt : Int → Bool) (G G' : Gr) (Of : tC.den → tC.den) : List (Nat × CSpec) :=
  [(39, .fn1 [tS] .bool fun x => R x.1), (16, .fn1 [tS] .bool fun x => R' x.1), (40, .fn1 [i64] .bool fun x => Rd x.1), (42, .fn1 [i64] .bool fun x => Rd x.1), (41, .fn1 [i64] .bool fun x => Pt x.1), (32, .fn1 [tS, i64, i64] tS fun x => G x.1 x.2.1 x.2.2.1), (43, .fn1 [tS, i64, i64] tS fun x => G' x.1 x.2.1 x.2.2.1), (30, .fn1 [tC] tC fun x => Of x.1)]
def badS (n : Int) : Tr nSa.Out := .ret (((0, 0, ()), n, ()), ())
def TSa (R : tS.den → Bool) (Rd Pt : Int → Bool) (G : Gr) (s : tS.den) (a g p : Int) : Tr nSa.Out :=
  .ite (!R s) (badS 1) (.ite (!Rd a) (badS 1) (.ite (!Rd g) (badS 1) (.ite (decide (g < a)) (badS 1) (.ite (!Pt p) (badS 1) (.ret (((s.1, (G s (w (g - a)) p).2.1, ()), 0, ()), ()))))))
theorem tSa (R R' : tS.den → Bool) (Rd Pt : Int → Bool) (G G' : Gr) (Of : tC.den → tC.den) (s : tS.den) (a g p : Int) :
    (fnP Try.prog (ctx (cX R R' Rd Pt G G' Of)) L0 nSa Try.f21 (s, a, g, p, ()) ()).eval = (TSa R Rd Pt G s a g p).eval := by kernel_rfl
def TRSa (R : tS.den → Bool) (Rd : Int → Bool) (G : Gr) (s : tS.den) (a g p : Int) : Tr nSa.Out :=
  .ite (!R s) (badS 1) (.ite (!Rd a) (badS 1) (.ite (!Rd g) (badS 1) (.ite (decide (g < a)) (badS 1) (.ite (decide (p < 0)) (badS 1) (.ite (decide (p > 100000)) (badS 1) (.ret (((s.1, (G s (w (g - a)) p).2.1, ()), 0, ()), ())))))))
theorem tRSa (R R' : tS.den → Bool) (Rd Pt : Int → Bool) (G G' : Gr) (Of : tC.den → tC.den) (s : tS.den) (a g p : Int) :
    (fnP Try.prog (ctx (cX R R' Rd Pt G G' Of)) L0 nSa Try.f22 (s, a, g, p, ()) ()).eval = (TRSa R' Rd G' s a g p).eval := by kernel_rfl
abbrev nNe : PSpec := ⟨[i64], [tC, i64], [], [], []⟩
def noC : tC.den := (0, false, 0, (0, 0, ()), ())
def newC (p : Int) : tC.den := (p, false, 0, (0, 0, ()), ())
theorem tNe (R R' : tS.den → Bool) (Rd Pt : Int → Bool) (G G' : Gr) (Of : tC.den → tC.den) (p : Int) :
    (fnP Try.prog (ctx (cX R R' Rd Pt G G' Of)) L0 nNe Try.f23 (p, ()) ()).eval = (.ite (!Pt p) (.ret ((noC, 1, ()), ())) (.ret ((newC p, 0, ()), ())) : Tr nNe.Out).eval := by kernel_rfl
theorem tRNe (R R' : tS.den → Bool) (Rd Pt : Int → Bool) (G G' : Gr) (Of : tC.den → tC.den) (p : Int) :
    (fnP Try.prog (ctx (cX R R' Rd Pt G G' Of)) L0 nNe Try.f24 (p, ()) ()).eval = (.ite (decide (p < 0)) (.ret ((noC, 1, ()), ())) (.ite (decide (p > 100000)) (.ret ((noC, 1, ()), ())) (.ret ((newC p, 0, ()), ()))) : Tr nNe.Out).eval := by kernel_rfl
theorem tMa (R R' : tS.den → Bool) (Rd Pt : Int → Bool) (G G' : Gr) (Of : tC.den → tC.den) (c : tC.den) :
    nrm (fnS Try.prog (ctx (cX R R' Rd Pt G G' Of)) L0 [.bool] Try.f27 (mkArgs [tC] (c, ()))) = (.ite (decide (c.1 ≥ 0)) (.ite (decide (c.1 ≤ 100000)) (.ite (!c.2.1) (.ret (.v .bool true)) (.ite (Rd c.2.2.1) (.ret (.v .bool (R' c.2.2.2.1))) (.ret (.v .bool false)))) (.ret (.v .bool false))) (.ret (.v .bool false)) : Tr AV).eval := by kernel_rfl
abbrev nNo : PSpec := ⟨[tC, i64], [tS, i64], [], [], []⟩
def TNo (R : tS.den → Bool) (Rd Pt : Int → Bool) (G : Gr) (Of : tC.den → tC.den) (c : tC.den) (t : Int) : Tr nNo.Out :=
  let b : Tr nNo.Out := .ret (((0, 0, ()), 11, ()), ())
  .ite (eqT tC c (Of c)) b (.ite (!c.2.1) b (.ite (!Pt c.1) b (.ite (!Rd c.2.2.1) b (.ite (!R c.2.2.2.1) b (.ite (!Rd t) b (.ite (decide (t < c.2.2.1)) b (.ret ((G c.2.2.2.1 (w (t - c.2.2.1)) c.1, 0, ()), ()))))))))
theorem tNo (R R' : tS.den → Bool) (Rd Pt : Int → Bool) (G G' : Gr) (Of : tC.den → tC.den) (c : tC.den) (t : Int) :
    (fnP Try.prog (ctx (cX R R' Rd Pt G G' Of)) L0 nNo Try.f25 (c, t, ()) ()).eval = (TNo R Rd Pt G Of c t).eval := by kernel_rfl
def TRNo (M : tC.den → Bool) (Rd : Int → Bool) (G : Gr) (c : tC.den) (t : Int) : Tr nNo.Out :=
  let b : Tr nNo.Out := .ret (((0, 0, ()), 11, ()), ())
  .ite (!M c) b (.ite (!c.2.1) b (.ite (!Rd t) b (.ite (decide (t < c.2.2.1)) b (.ret ((G c.2.2.2.1 (w (t - c.2.2.1)) c.1, 0, ()), ())))))
theorem tRNo (M : tC.den → Bool) (R R' : tS.den → Bool) (Rd Pt : Int → Bool) (G G' : Gr) (Of : tC.den → tC.den) (c : tC.den) (t : Int) :
    (fnP Try.prog (ctx ((27, .slp1 [tC] (fun _ => true) .bool fun x => M x.1) :: cX R R' Rd Pt G G' Of)) L0 nNo Try.f26 (c, t, ()) ()).eval = (TRNo M Rd G' c t).eval := by kernel_rfl
abbrev nSe : PSpec := ⟨[tC, i64, ss, i64], [tC, i64], [], [], []⟩
def cSe (Rd : Int → Bool) (pf : Pl) (Fu : Fus) : List (Nat × CSpec) :=
  [(40, .fn1 [i64] .bool fun x => Rd x.1), (42, .fn1 [i64] .bool fun x => Rd x.1), (10, .pos nFu (fun xs _ => pf xs.1) fun xs _ => (Fu xs.1 xs.2.1, ())), (11, .pos nFu (fun xs _ => pf xs.1) fun xs _ => (Fu xs.1 xs.2.1, ()))]
def TSe (Rd : Int → Bool) (pf : Pl) (Fu : Fus) (c : tC.den) (t : Int) (l : TL) (liars : Int) : Tr nSe.Out :=
  .ite (!Rd t) (.ret ((noC, 1, ()), ())) (.chk (pf l) (.ite (!((Fu l liars).2.1 == 0)) (.ret ((noC, (Fu l liars).2.1, ()), ())) (.ret (((c.1, true, t, (Fu l liars).1, ()), 0, ()), ()))))
theorem tSe (Rd : Int → Bool) (pf : Pl) (Fu : Fus) (c : tC.den) (t : Int) (l : TL) (liars : Int) :
    (fnP Try.prog (ctx (cSe Rd pf Fu)) L0 nSe Try.f28 (c, t, l, liars, ()) ()).eval = (TSe Rd pf Fu c t l liars).eval := by kernel_rfl
theorem tRSe (Rd : Int → Bool) (pf : Pl) (Fu : Fus) (c : tC.den) (t : Int) (l : TL) (liars : Int) :
    (fnP Try.prog (ctx (cSe Rd pf Fu)) L0 nSe Try.f29 (c, t, l, liars, ()) ()).eval = (TSe Rd pf Fu c t l liars).eval := by kernel_rfl
abbrev nPa : PSpec := ⟨[i64, i64, i64], [i64, .bool], [], [], []⟩
def TPa (K : Int → Int → Int) (r b p : Int) : Tr nPa.Out :=
  let no : Tr nPa.Out := .ret ((0, false, ()), ())
  let t := w (r + b)
  .ite (decide (b < -1099511627776)) no (.ite (decide (b > 1099511627776)) no (.ite (decide (t < 0)) no (.ite (decide (b ≤ K t p)) (.ret ((t, decide (b ≥ w (0 - K t p)), ()), ())) (.ret ((t, false, ()), ())))))
theorem tPa (K : Int → Int → Int) (r b p : Int) :
    (fnP Try.prog (ctx [(44, .fn1 [i64, i64] i64 fun x => K x.1 x.2.1)]) L0 nPa Try.f31 (r, b, p, ()) ()).eval = (TPa K r b p).eval := by kernel_rfl

end Go.Proofs.Ytmolcddccjgliaa.Clock

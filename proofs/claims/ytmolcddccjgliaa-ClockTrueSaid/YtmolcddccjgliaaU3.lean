/- Spans swept (layer 7, sweep): ends sorted; the first time with enough votes; votes. -/
import Derived.Test.YtmolcddccjgliaaU2
set_option linter.unusedVariables false
set_option maxRecDepth 100000
namespace Go.Proofs.Ytmolcddccjgliaa.Sweep
open Go Vse Go.Proofs Gen

/-! ends sorted -/

theorem ltOf_E (x y : Pr) : Go.Proofs.ltOf (cfP cmpE) x y = lt x.1 y.1 := cmpE_lt x.1 y.1
theorem swoE : Sort.SWO (Go.Proofs.ltOf (cfP cmpE)) where
  irrefl x := by rw [ltOf_E]; unfold lt; simp
  trans x y z h1 h2 := by rw [ltOf_E] at *; exact lt_trans' h1 h2
  ntrans x y z h1 h2 := by rw [ltOf_E] at *; exact nlt_trans h2 h1
theorem totE (x y : Pr) (h1 : Go.Proofs.ltOf (cfP cmpE) x y = false) (h2 : Go.Proofs.ltOf (cfP cmpE) y x = false) : x = y := by
  rw [ltOf_E] at h1 h2
  unfold lt at h1 h2
  simp at h1 h2
  apply Subtype.ext
  exact Prod.ext (by omega) (by omega)

def s50 : CSpec := .sort cmpE 51
theorem ok50 : CSound Try.prog 50 s50 ∧ CLocal s50 :=
  sort_sound sortEnd Try.isAgg68 Try.sizeOf68 swoE totE (fun args w => callFunc_enter (c := bodyOf Try.f51) Try.func51 (by kernel_rfl) (by kernel_rfl) args w)
    (cmp_calls cE_sound Try.func51 (by kernel_rfl) (noLoopsL (by kernel_rfl)) cmp_ok) (by kernel_rfl)
    (fun args w => callFunc_enter (c := bodyOf Try.f50) Try.func50 (by kernel_rfl) (by kernel_rfl) args w)

theorem sort_ends (l : List Sp) : sortI cmpE l = l.mergeSort fun x y => !lt y x := by
  unfold sortI
  congr 1
  funext x y
  unfold ltI
  rw [cmpE_lt]

/-! ends -/

abbrev toS (p : Sp) : tS.den := (p.1, p.2, ())
noncomputable def bEn : Code := loopAt Try.f34 0
def SEn : RSpec := ⟨[3, 6, 7, 8], 25, [.vc 0 0, ss, i64, i64], [.vec 0 tS], [], [.slot 3 tS], fun _ => ([3], [.vc 0 0], [.vec 0 tS])⟩
def GEn (l : List tS.den) (n i : Int) (out : List tS.den) : Tr SEn.End :=
  let s := l.getD i.toNat (dflt tS)
  .ite (decide (i < n)) (.chk (inArr i l.length) (.chk (Vse.room (out.length + 2) 16) (.ret (.inl (((), l, n, w (i + 1), ()), (out ++ [(s.1, 1, ()), (s.2.1, -1, ())], ()))))))
    (.ret (.inr (.exit 0, encS [3] [.vc 0 0] [.vec 0 tS] 25 ((), ()) (out, ()))))

theorem rEn (l : List tS.den) (n i : Int) (out : List tS.den) : (SEn.round (bodyK Try.prog (ctx []) L0 bEn) ((), l, n, i, ()) (out, ())).eval = (GEn l n i out).eval := by kernel_rfl
def FEn (c : List tS.den → Int → Int → List tS.den → Bool) (X : List tS.den → List tS.den) (xs : HL SEn.Ts) (hs : HD SEn.Es) : Tr (Ex × St) :=
  .chk (c xs.2.1 xs.2.2.1 xs.2.2.2.1 hs.1) (.ret (.exit 0, encS [3] [.vc 0 0] [.vec 0 tS] 25 ((), ()) (X xs.2.1, ())))
def LEn (c : List tS.den → Int → Int → List tS.den → Bool) (X : List tS.den → List tS.den) : Loops := fun j st => if j = 3 then SEn.fn (FEn c X) st else .fail

/-! the first time -/

noncomputable def bFi : Code := loopAt Try.f35 0
def SFi : RSpec := ⟨[1, 2, 8, 11, 12, 13], 29, [i64, i64, i64, ss, i64, i64], [], [], [], fun x => match x with | .ret => ([6, 7], [i64, .bool], []) | _ => ([], [], [])⟩
def GFi (need sign m : Int) (l : List tS.den) (n i : Int) : Tr SFi.End :=
  let e := l.getD i.toNat (dflt tS)
  let m' := w (m + w (e.2.1 * sign))
  .ite (decide (i < n)) (.chk (inArr i l.length) (.ite (decide (m' ≥ need)) (.ret (.inr (.ret, encS [6, 7] [i64, .bool] [] 29 (e.1, true, ()) ()))) (.ret (.inl ((need, sign, m', l, n, w (i + 1), ()), ())))))
    (.ret (.inr (.exit 0, encS [] [] [] 29 () ())))
theorem rFi (need sign m : Int) (l : List tS.den) (n i : Int) : (SFi.round (bodyK Try.prog (ctx []) L0 bFi) (need, sign, m, l, n, i, ()) ()).eval = (GFi need sign m l n i).eval := by kernel_rfl

/-! votes -/

def cV (H : tS.den → Int → Bool) : List (Nat × CSpec) := [(17, .fn1 [tS, i64] .bool fun x => H x.1 x.2.1)]
noncomputable def bV : Code := loopAt Try.f14 0
def SV : RSpec := ⟨[1, 5, 8, 9, 10], 21, [i64, i64, ss, i64, i64], [], [], [], fun _ => ([5], [i64], [])⟩
def GV (H : tS.den → Int → Bool) (t m : Int) (l : List tS.den) (n i : Int) : Tr SV.End :=
  .ite (decide (i < n)) (.chk (inArr i l.length) (.ite (H (l.getD i.toNat (dflt tS)) t) (.ret (.inl ((t, w (m + 1), l, n, w (i + 1), ()), ()))) (.ret (.inl ((t, m, l, n, w (i + 1), ()), ())))))
    (.ret (.inr (.exit 0, encS [5] [i64] [] 21 (m, ()) ())))
theorem rV (H : tS.den → Int → Bool) (t m : Int) (l : List tS.den) (n i : Int) : (SV.round (bodyK Try.prog (ctx (cV H)) L0 bV) (t, m, l, n, i, ()) ()).eval = (GV H t m l n i).eval := by kernel_rfl

/-! which spans may not be -/

abbrev kW : Nat := 49
abbrev fW : Ty := .fn kW .unit
def cI (B : tS.den → Bool) : List (Nat × CSpec) := [(49, .fn1 [tS] .bool fun x => B x.1)]
noncomputable def bI : Code := loopAt Try.f56 0
def SI : RSpec := ⟨[0, 1, 7, 8], 19, [ss, fW, i64, i64], [], [], [], fun x => match x with | .ret => ([4], [i64], []) | _ => ([], [], [])⟩
def GI (B : tS.den → Bool) (l : List tS.den) (n i : Int) : Tr SI.End :=
  .ite (decide (i < n)) (.chk (inArr i l.length) (.ite (B (l.getD i.toNat (dflt tS))) (.ret (.inr (.ret, encS [4] [i64] [] 19 (i, ()) ()))) (.ret (.inl ((l, (), n, w (i + 1), ()), ())))))
    (.ret (.inr (.exit 0, encS [] [] [] 19 () ())))
theorem rI (B : tS.den → Bool) (l : List tS.den) (n i : Int) : (SI.round (bodyK Try.prog (ctx (cI B)) L0 bI) (l, (), n, i, ()) ()).eval = (GI B l n i).eval := by kernel_rfl

/-! ends turned about -/

noncomputable def bRv : Code := loopAt Try.f36 0
def SRv : RSpec := ⟨[0, 2, 3], 28, [.vc 0 0, i64, i64], [.vec 0 tS], [.vec 0 tS], [], fun _ => ([], [], [.vec 0 tS])⟩
def GRv (i j : Int) (l : List tS.den) : Tr SRv.End :=
  let a := l.getD i.toNat (dflt tS)
  let b := l.getD j.toNat (dflt tS)
  .ite (decide (i < j)) (.chk (inArr j l.length) (.chk (inArr i l.length) (.chk (inArr i l.length) (.chk (inArr j (l.set i.toNat b).length) (.ret (.inl (((), w (i + 1), w (j - 1), ()), ((l.set i.toNat b).set j.toNat a, ()))))))))
    (.ret (.inr (.exit 0, encS [] [] [.vec 0 tS] 28 () (l, ()))))
theorem rRv (i j : Int) (l : List tS.den) : (SRv.round (bodyK Try.prog (ctx []) L0 bRv) ((), i, j, ()) (l, ())).eval = (GRv i j l).eval := by kernel_rfl

/-! functions -/

abbrev nEn : PSpec := ⟨[ss], [.vc 0 0], [], [.vec 0 tS], []⟩
def cEn : List (Nat × CSpec) := [(50, s50)]
theorem tEn (c : List tS.den → Int → Int → List tS.den → Bool) (X : List tS.den → List tS.den) (l : List tS.den) :
    (fnP Try.prog (ctx cEn) (LEn c X) nEn Try.f34 (l, ()) ()).eval = (.chk (c l (l.length : Int) 0 []) (.chk (decide ((X l).length ≠ 0 ∧ (X l).length < 1000000000)) (.ret (((), ()), (sortT cmpE (X l), ())))) : Tr nEn.Out).eval := by kernel_rfl

def FFi (c : List tS.den → Int → Int → Int → Int → Int → Bool) (X : List tS.den → Int → Int → Bool) (Y : List tS.den → Int → Int → Int) (xs : HL SFi.Ts) (hs : HD SFi.Es) : Tr (Ex × St) :=
  .chk (c xs.2.2.2.1 xs.1 xs.2.1 xs.2.2.1 xs.2.2.2.2.1 xs.2.2.2.2.2.1) (.ite (X xs.2.2.2.1 xs.1 xs.2.1) (.ret (.ret, encS [6, 7] [i64, .bool] [] 29 (Y xs.2.2.2.1 xs.1 xs.2.1, true, ()) ())) (.ret (.exit 0, encS [] [] [] 29 () ())))
def LFi (c : List tS.den → Int → Int → Int → Int → Int → Bool) (X : List tS.den → Int → Int → Bool) (Y : List tS.den → Int → Int → Int) : Loops := fun j st => if j = 3 then SFi.fn (FFi c X Y) st else .fail
abbrev nFi : PSpec := ⟨[ss, i64, i64], [i64, .bool], [], [], []⟩
theorem tFi (c : List tS.den → Int → Int → Int → Int → Int → Bool) (X : List tS.den → Int → Int → Bool) (Y : List tS.den → Int → Int → Int) (l : List tS.den) (need sign : Int) :
    (fnP Try.prog (ctx []) (LFi c X Y) nFi Try.f35 (l, need, sign, ()) ()).eval = (.chk (c l need sign 0 (l.length : Int) 0) (.ite (X l need sign) (.ret ((Y l need sign, true, ()), ())) (.ret ((0, false, ()), ()))) : Tr nFi.Out).eval := by kernel_rfl

def FV (c : Int → List tS.den → Int → Int → Bool) (X : List tS.den → Int → Int) (xs : HL SV.Ts) (hs : HD SV.Es) : Tr (Ex × St) :=
  .chk (c xs.2.1 xs.2.2.1 xs.2.2.2.1 xs.2.2.2.2.1) (.ret (.exit 0, encS [5] [i64] [] 21 (X xs.2.2.1 xs.1, ()) ()))
def LV (c : Int → List tS.den → Int → Int → Bool) (X : List tS.den → Int → Int) : Loops := fun j st => if j = 3 then SV.fn (FV c X) st else .fail
theorem tV (H : tS.den → Int → Bool) (c : Int → List tS.den → Int → Int → Bool) (X : List tS.den → Int → Int) (l : List tS.den) (t : Int) :
    nrm (fnS Try.prog (ctx (cV H)) (LV c X) [i64] Try.f14 (mkArgs [ss, i64] (l, t, ()))) = (.chk (c 0 l (l.length : Int) 0) (.ret (.v i64 (X l t))) : Tr AV).eval := by kernel_rfl

def FI (c : List tS.den → Int → Int → Bool) (X : List tS.den → Bool) (Y : List tS.den → Int) (xs : HL SI.Ts) (hs : HD SI.Es) : Tr (Ex × St) :=
  .chk (c xs.1 xs.2.2.1 xs.2.2.2.1) (.ite (X xs.1) (.ret (.ret, encS [4] [i64] [] 19 (Y xs.1, ()) ())) (.ret (.exit 0, encS [] [] [] 19 () ())))
def LI (c : List tS.den → Int → Int → Bool) (X : List tS.den → Bool) (Y : List tS.den → Int) : Loops := fun j st => if j = 2 then SI.fn (FI c X Y) st else .fail
theorem tI (B : tS.den → Bool) (c : List tS.den → Int → Int → Bool) (X : List tS.den → Bool) (Y : List tS.den → Int) (l : List tS.den) :
    nrm (fnS Try.prog (ctx (cI B)) (LI c X Y) [i64] Try.f56 (mkArgs [ss, fW] (l, (), ()))) = (.chk (c l (l.length : Int) 0) (.ite (X l) (.ret (.v i64 (Y l))) (.ret (.v i64 (-1)))) : Tr AV).eval := by kernel_rfl
def cCo (p : List tS.den → Bool) (X : List tS.den → Int) : List (Nat × CSpec) := [(56, .slp1 [ss, fW] (fun x => p x.1) i64 fun x => X x.1)]
theorem tCo (p : List tS.den → Bool) (X : List tS.den → Int) (l : List tS.den) :
    nrm (fnS Try.prog (ctx (cCo p X)) L0 [.bool] Try.f48 (mkArgs [ss, fW] (l, (), ()))) = (.chk (p l) (.ret (.v .bool (decide (X l ≥ 0)))) : Tr AV).eval := by kernel_rfl
def cWr (p : List tS.den → Bool) (X : List tS.den → Bool) : List (Nat × CSpec) := [(48, .slp1 [ss, fW] (fun x => p x.1) .bool fun x => X x.1)]
def TWr (p : List tS.den → Bool) (X : List tS.den → Bool) (l : List tS.den) : Tr AV :=
  .ite ((l.length : Int) == 0) (.ret (.v .bool true)) (.ite (decide ((l.length : Int) > 64)) (.ret (.v .bool true)) (.chk (p l) (.ret (.v .bool (X l)))))
theorem tWr (p : List tS.den → Bool) (X : List tS.den → Bool) (l : List tS.den) : nrm (fnS Try.prog (ctx (cWr p X)) L0 [.bool] Try.f33 (mkArgs [ss] (l, ()))) = (TWr p X l).eval := by kernel_rfl
def cB (R : tS.den → Bool) : List (Nat × CSpec) := [(39, .fn1 [tS] .bool fun x => R x.1)]
theorem tB (R : tS.den → Bool) (x : tS.den) : nrm (fnS Try.prog (ctx (cB R)) L0 [.bool] Try.f49 (mkArgs [tS] (x, ()))) = some (.v .bool (!R x)) := by kernel_rfl

def FRv (c : Int → Int → List tS.den → Bool) (X : List tS.den → List tS.den) (xs : HL SRv.Ts) (hs : HD SRv.Es) : Tr (Ex × St) :=
  .chk (c xs.2.1 xs.2.2.1 hs.1) (.ret (.exit 0, encS [] [] [.vec 0 tS] 28 () (X hs.1, ())))
def LRv (c : Int → Int → List tS.den → Bool) (X : List tS.den → List tS.den) : Loops := fun j st => if j = 1 then SRv.fn (FRv c X) st else .fail
abbrev nRv : PSpec := ⟨[.vc 0 0], [], [.vec 0 tS], [.vec 0 tS], []⟩
theorem tRv (c : Int → Int → List tS.den → Bool) (X : List tS.den → List tS.den) (l : List tS.den) :
    (fnP Try.prog (ctx []) (LRv c X) nRv Try.f36 ((), ()) (l, ())).eval = (.chk (c 0 (w ((l.length : Int) - 1)) l) (.ret ((), (X l, ()))) : Tr nRv.Out).eval := by kernel_rfl

/-! Fuse -/

abbrev Pl := List tS.den → Bool
abbrev Fi := List tS.den → Int → Int → Int × Bool × Unit
def cFu (pw W : Pl) (pe : Pl) (E : List tS.den → List tS.den) (pf : List tS.den → Int → Int → Bool) (Y : Fi) (pr : Pl) (R : List tS.den → List tS.den) : List (Nat × CSpec) :=
  [(33, .slp1 [ss] (fun x => pw x.1) .bool fun x => W x.1), (34, .pos nEn (fun xs _ => pe xs.1) fun xs _ => (((), ()), (E xs.1, ()))), (35, .pos nFi (fun xs _ => pf xs.1 xs.2.1 xs.2.2.1) fun xs _ => (Y xs.1 xs.2.1 xs.2.2.1, ())),
   (36, .pos nRv (fun _ hs => pr hs.1) fun _ hs => ((), (R hs.1, ())))]
abbrev nFu : PSpec := ⟨[ss, i64], [tS, i64], [], [], []⟩
def TFu (pw W : Pl) (pe : Pl) (E : List tS.den → List tS.den) (pf : List tS.den → Int → Int → Bool) (Y : Fi) (pr : Pl) (R : List tS.den → List tS.den) (l : List tS.den) (liars : Int) : Tr nFu.Out :=
  let bad := fun n : Int => (.ret (((0, 0, ()), n, ()), ()) : Tr nFu.Out)
  let need := w ((l.length : Int) - liars)
  .chk (pw l) (.ite (W l) (bad 1) (.ite (decide (liars < 0)) (bad 1) (.ite (decide (liars ≥ (l.length : Int))) (bad 1) (.chk (pe l) (.chk (pf (E l) need 1) (.ite (!(Y (E l) need 1).2.1) (bad 11) (.chk (pr (E l)) (.chk (pf (R (E l)) need (-1)) (.ret ((((Y (E l) need 1).1, (Y (R (E l)) need (-1)).1, ()), 0, ()), ()))))))))))
end Go.Proofs.Ytmolcddccjgliaa.Sweep

/- Spans swept (layer 7, sweep): walks of the laws. -/
import Derived.Test.YtmolcddccjgliaaU7
set_option linter.unusedVariables false
set_option maxRecDepth 100000
namespace Go.Proofs.Ytmolcddccjgliaa.Sweep
open Go Vse Go.Proofs Gen

/-- what a law is given -/
abbrev sst : Ty := .imm true false tS
abbrev Fus := List tS.den → Int → tS.den × Int × Unit
abbrev Mos := List tS.den → Int × Int × Int × Unit
abbrev Vot := List tS.den → Int → Int
def cL (U : Bool) (pf : Pl) (Fu Gu : Fus) (Mo No : Mos) (V X : Vot) (Ri : tS.den → Bool) (Ha : tS.den → Int → Bool) (Hu : tS.den → tS.den → tS.den) (Wi : tS.den → Int) : List (Nat × CSpec) :=
  [(9, .slp1 [] (fun _ => true) .bool fun _ => U), (10, .pos nFu (fun xs _ => pf xs.1) fun xs _ => (Fu xs.1 xs.2.1, ())), (11, .pos nFu (fun xs _ => pf xs.1) fun xs _ => (Gu xs.1 xs.2.1, ())),
    (12, .pos nMo (fun xs _ => pf xs.1) fun xs _ => (Mo xs.1, ())), (13, .pos nMo (fun xs _ => pf xs.1) fun xs _ => (No xs.1, ())), (14, .slp1 [ss, i64] (fun x => pf x.1) i64 fun x => V x.1 x.2.1), (15, .slp1 [ss, i64] (fun x => pf x.1) i64 fun x => X x.1 x.2.1),
    (16, .fn1 [tS] .bool fun x => Ri x.1), (17, .fn1 [tS, i64] .bool fun x => Ha x.1 x.2.1), (18, .fn1 [tS, tS] tS fun x => Hu x.1 x.2.1), (19, .fn1 [tS] i64 fun x => Wi x.1)]
abbrev no : Tr AV := .ret (.v .bool false)
abbrev bl (b : Bool) : Tr AV := .ret (.v .bool b)

/-! awake -/

def cA (pf : Pl) (Fu : Fus) (Mo : Mos) (V : Vot) : List (Nat × CSpec) :=
  [(10, .pos nFu (fun xs _ => pf xs.1) fun xs _ => (Fu xs.1 xs.2.1, ())), (12, .pos nMo (fun xs _ => pf xs.1) fun xs _ => (Mo xs.1, ())), (14, .slp1 [ss, i64] (fun x => pf x.1) i64 fun x => V x.1 x.2.1)]
def l0 : TL := [(4, 9, ()), (1, 5, ()), (20, 30, ())]
def T9 (pf : Pl) (Fu : Fus) (Mo : Mos) (V : Vot) : Tr AV :=
  .chk (pf l0) (.chk (pf l0) (.chk (pf l0) (.chk (pf l0) (.ite ((Fu l0 1).2.1 == 0) (.ite (eqT tS (Fu l0 1).1 (4, 5, ())) (.ite ((Fu l0 0).2.1 == 11) (.ite ((Fu l0 3).2.1 == 1) (.ite ((Mo l0).1 == 4) (.ite ((Mo l0).2.1 == 2) (.ite ((Mo l0).2.2.1 == 0) (.chk (pf l0) (bl (V l0 25 == 1))) no) no) no) no) no) no) no))))
theorem t9 (pf : Pl) (Fu : Fus) (Mo : Mos) (V : Vot) : nrm (fnS Try.prog (ctx (cA pf Fu Mo V)) L0 [.bool] Try.f9 (mkArgs [] ())) = (T9 pf Fu Mo V).eval := by kernel_rfl

/-! SweepTells -/

def T3 (U : Bool) (pf : Pl) (Fu Gu : Fus) (Mo No : Mos) (V X : Vot) (l : TL) (liars t : Int) : Tr AV :=
  .ite (decide ((70 : Int) < l.length)) (bl U) (.chk (pf l) (.chk (pf l) (.chk (pf l) (.chk (pf l) (.ite U (.ite (eqT tS (Fu l liars).1 (Gu l liars).1) (.ite ((Fu l liars).2.1 == (Gu l liars).2.1) (.ite ((Mo l).1 == (No l).1) (.ite ((Mo l).2.1 == (No l).2.1) (.ite ((Mo l).2.2.1 == (No l).2.2.1)
    (.chk (pf l) (.chk (pf l) (bl (V l t == X l t)))) no) no) no) no) no) no)))))
theorem t3 (U : Bool) (pf : Pl) (Fu Gu : Fus) (Mo No : Mos) (V X : Vot) (Ri : tS.den → Bool) (Ha : tS.den → Int → Bool) (Hu : tS.den → tS.den → tS.den) (Wi : tS.den → Int) (l : TL) (liars t : Int) :
    nrm (fnK Try.prog (ctx (cL U pf Fu Gu Mo No V X Ri Ha Hu Wi)) L0 Try.f3 (mkArgs [sst, i64, i64] (l, liars, t, ())) []) = (T3 U pf Fu Gu Mo No V X l liars t).eval := by kernel_rfl

/-! SweepMore -/

def T4 (U : Bool) (pf : Pl) (Fu : Fus) (V : Vot) (l : TL) (liars : Int) : Tr AV :=
  let a := (Fu l liars).1
  let e := (Fu l liars).2.1
  let b := (Fu l (w (liars + 1))).1
  let f := (Fu l (w (liars + 1))).2.1
  let need := w ((l.length : Int) - liars)
  .ite (decide ((70 : Int) < l.length)) (bl U) (.chk (pf l) (.ite (!(e == 0)) (.ite U (.ite (eqT tS a (0, 0, ())) (.ite (e == 1) (bl true) (bl (e == 11))) no) no)
    (.chk (pf l) (.ite (decide (V l a.1 < need)) no (.chk (pf l) (.ite (decide (V l a.2.1 < need)) no (.chk (pf l) (.ite (decide (V l (w (a.1 - 1)) ≥ need)) no (.chk (pf l) (.ite (decide (V l (w (a.2.1 + 1)) ≥ need)) no (.ite (decide (a.1 > a.2.1)) no
      (.chk (pf l) (.ite (decide (w (liars + 1) ≥ (l.length : Int))) (.ite U (bl (f == 1)) no) (.ite U (.ite (f == 0) (.ite (decide (b.1 ≤ a.1)) (bl (decide (b.2.1 ≥ a.2.1))) no) no) no))))))))))))))
theorem t4 (U : Bool) (pf : Pl) (Fu Gu : Fus) (Mo No : Mos) (V X : Vot) (Ri : tS.den → Bool) (Ha : tS.den → Int → Bool) (Hu : tS.den → tS.den → tS.den) (Wi : tS.den → Int) (l : TL) (liars : Int) :
    nrm (fnK Try.prog (ctx (cL U pf Fu Gu Mo No V X Ri Ha Hu Wi)) L0 Try.f4 (mkArgs [sst, i64] (l, liars, ())) []) = (T4 U pf Fu V l liars).eval := by kernel_rfl

/-! SweepOrder -/

noncomputable def bO : Code := loopAt Try.f5 0
def SO : RSpec := ⟨[0, 1, 5, 6, 7], 87, [sst, i64, .bool, .vc 0 0, i64], [.vec 0 tS], [], [.slot 6 tS], fun _ => ([0, 1, 5, 6], [sst, i64, .bool, .vc 0 0], [.vec 0 tS])⟩
def GO (l : TL) (liars : Int) (U : Bool) (i : Int) (m : TL) : Tr SO.End :=
  .ite (decide (i ≥ 0)) (.chk (inArr i l.length) (.chk (Vse.room (m.length + 1) 16) (.ret (.inl ((l, liars, U, (), w (i - 1), ()), (m ++ [l.getD i.toNat (dflt tS)], ()))))))
    (.ret (.inr (.exit 0, encS [0, 1, 5, 6] [sst, i64, .bool, .vc 0 0] [.vec 0 tS] 87 (l, liars, U, (), ()) (m, ()))))
theorem rO (l : TL) (liars : Int) (U : Bool) (i : Int) (m : TL) : (SO.round (bodyK Try.prog (ctx []) L0 bO) (l, liars, U, (), i, ()) (m, ())).eval = (GO l liars U i m).eval := by kernel_rfl
def FO (c : TL → Int → TL → Bool) (R : TL → TL) (xs : HL SO.Ts) (hs : HD SO.Es) : Tr (Ex × St) :=
  .chk (c xs.1 xs.2.2.2.2.1 hs.1) (.ret (.exit 0, encS [0, 1, 5, 6] [sst, i64, .bool, .vc 0 0] [.vec 0 tS] 87 (xs.1, xs.2.1, xs.2.2.1, (), ()) (R xs.1, ())))
def LO (c : TL → Int → TL → Bool) (R : TL → TL) : Loops := fun j st => if j = 6 then SO.fn (FO c R) st else .fail
def T5 (U : Bool) (pf : Pl) (Fu : Fus) (Mo : Mos) (c : TL → Int → TL → Bool) (R : TL → TL) (l : TL) (liars : Int) : Tr AV :=
  .ite (decide ((70 : Int) < l.length)) (bl U) (.chk (c l (w ((l.length : Int) - 1)) []) (.chk (pf l) (.chk (pf (R l)) (.chk (pf l) (.chk (pf (R l)) (.ite U (.ite (eqT tS (Fu l liars).1 (Fu (R l) liars).1) (.ite ((Fu l liars).2.1 == (Fu (R l) liars).2.1) (.ite ((Mo l).1 == (Mo (R l)).1) (.ite ((Mo l).2.1 == (Mo (R l)).2.1) (bl ((Mo l).2.2.1 == (Mo (R l)).2.2.1)) no) no) no) no) no))))))
theorem t5 (U : Bool) (pf : Pl) (Fu Gu : Fus) (Mo No : Mos) (V X : Vot) (Ri : tS.den → Bool) (Ha : tS.den → Int → Bool) (Hu : tS.den → tS.den → tS.den) (Wi : tS.den → Int) (c : TL → Int → TL → Bool) (R : TL → TL) (l : TL) (liars : Int) :
    nrm (fnK Try.prog (ctx (cL U pf Fu Gu Mo No V X Ri Ha Hu Wi)) (LO c R) Try.f5 (mkArgs [sst, i64] (l, liars, ())) []) = (T5 U pf Fu Mo c R l liars).eval := by kernel_rfl

/-! SweepTrue -/

noncomputable def bT : Code := loopAt Try.f6 0
abbrev t2i : Ty := .arr 2 i64
abbrev eT : List ETy := [.box tS, .box t2i]
def ST : RSpec := ⟨[0, 1, 2, 7, 8, 9, 10, 11], 139, [sst, i64, i64, .bool, i64, .ptr 0 [], .ptr 1 [], i64], eT, eT, [], fun x => match x with | .ret => ([6], [.bool], [.dead, .dead]) | _ => ([0, 1, 2, 7, 8, 9, 10], [sst, i64, i64, .bool, i64, .ptr 0 [], .ptr 1 []], eT)⟩
def GT (Ri : tS.den → Bool) (Ha : tS.den → Int → Bool) (Hu : tS.den → tS.den → tS.den) (Wi : tS.den → Int) (l : TL) (liars t : Int) (U : Bool) (n i : Int) (h : tS.den) (a b : Int) : Tr ST.End :=
  let s := l.getD i.toNat (dflt tS)
  let up := (.ret (.inr (.ret, encS [6] [.bool] [.dead, .dead] 139 (U, ()) ())) : Tr ST.End)
  let next := fun (n : Int) (h : tS.den) (a b : Int) => (.ret (.inl ((l, liars, t, U, n, (), (), w (i + 1), ()), (h, [a, b], ()))) : Tr ST.End)
  .ite (decide (i < (l.length : Int))) (.ite (decide ((64 : Int) < l.length)) up (.chk (inArr i l.length) (.ite (!Ri s) up (.chk (inArr i l.length) (.ite (!Ha s t) (next n h a b) (.chk (inArr i l.length) (.chk (inArr i l.length)
      (.ite (decide (Wi s > a)) (next (w (n + 1)) (Hu h s) (Wi s) a) (.ite (decide (Wi s > b)) (next (w (n + 1)) (Hu h s) a (Wi s)) (next (w (n + 1)) (Hu h s) a b))))))))))
    (.ret (.inr (.exit 0, encS [0, 1, 2, 7, 8, 9, 10] [sst, i64, i64, .bool, i64, .ptr 0 [], .ptr 1 []] eT 139 (l, liars, t, U, n, (), (), ()) (h, [a, b], ()))))
theorem rT (U : Bool) (pf : Pl) (Fu Gu : Fus) (Mo No : Mos) (V X : Vot) (Ri : tS.den → Bool) (Ha : tS.den → Int → Bool) (Hu : tS.den → tS.den → tS.den) (Wi : tS.den → Int) (l : TL) (liars t : Int) (W : Bool) (n i : Int) (h : tS.den) (a b : Int) :
    (ST.round (bodyK Try.prog (ctx (cL U pf Fu Gu Mo No V X Ri Ha Hu Wi)) L0 bT) (l, liars, t, W, n, (), (), i, ()) (h, [a, b], ())).eval = (GT Ri Ha Hu Wi l liars t W n i h a b).eval := by kernel_rfl
def FT (c : TL → Int → Int → Int → tS.den → List Int → Bool) (B : TL → Bool) (N : TL → Int → Int) (H : TL → Int → tS.den) (A D : TL → Int → Int) (xs : HL ST.Ts) (hs : HD ST.Es) : Tr (Ex × St) :=
  let l := xs.1
  let t := xs.2.2.1
  let U := xs.2.2.2.1
  .chk (c l t xs.2.2.2.2.1 xs.2.2.2.2.2.2.2.1 hs.1 hs.2.1) (.ite (B l) (.ret (.ret, encS [6] [.bool] [.dead, .dead] 139 (U, ()) ()))
    (.ret (.exit 0, encS [0, 1, 2, 7, 8, 9, 10] [sst, i64, i64, .bool, i64, .ptr 0 [], .ptr 1 []] eT 139 (l, xs.2.1, t, U, N l t, (), (), ()) (H l t, [A l t, D l t], ()))))
def LT (c : TL → Int → Int → Int → tS.den → List Int → Bool) (B : TL → Bool) (N : TL → Int → Int) (H : TL → Int → tS.den) (A D : TL → Int → Int) : Loops := fun j st => if j = 8 then ST.fn (FT c B N H A D) st else .fail
def T6 (U : Bool) (pf : Pl) (Fu : Fus) (Ha : tS.den → Int → Bool) (Wi : tS.den → Int) (c : TL → Int → Int → Int → tS.den → List Int → Bool) (B : TL → Bool) (N : TL → Int → Int) (H : TL → Int → tS.den) (A D : TL → Int → Int) (l : TL) (liars t : Int) : Tr AV :=
  let a := (Fu l liars).1
  let e := (Fu l liars).2.1
  .ite (decide ((70 : Int) < l.length)) (bl U) (.ite (decide (liars < 0)) (bl U) (.ite (decide (liars ≥ (l.length : Int))) (bl U) (.chk (c l t 0 0 (t, t, ()) [0, 0]) (.ite (B l) (bl U) (.ite (decide (N l t < w ((l.length : Int) - liars))) (bl U)
    (.chk (pf l) (.ite (!(e == 0)) no (.ite (!Ha a t) no (.ite (decide ((l.length : Int) ≤ w (2 * liars))) (bl U) (.ite U (.ite (decide (Wi a ≤ w (A l t + D l t))) (.ite (decide (a.1 ≥ (H l t).1)) (bl (decide (a.2.1 ≤ (H l t).2.1))) no) no) no))))))))))
theorem t6 (U : Bool) (pf : Pl) (Fu Gu : Fus) (Mo No : Mos) (V X : Vot) (Ri : tS.den → Bool) (Ha : tS.den → Int → Bool) (Hu : tS.den → tS.den → tS.den) (Wi : tS.den → Int) (c : TL → Int → Int → Int → tS.den → List Int → Bool) (B : TL → Bool) (N : TL → Int → Int) (H : TL → Int → tS.den) (A D : TL → Int → Int) (l : TL) (liars t : Int) :
    nrm (fnK Try.prog (ctx (cL U pf Fu Gu Mo No V X Ri Ha Hu Wi)) (LT c B N H A D) Try.f6 (mkArgs [sst, i64, i64] (l, liars, t, ())) []) = (T6 U pf Fu Ha Wi c B N H A D l liars t).eval := by kernel_rfl

end Go.Proofs.Ytmolcddccjgliaa.Sweep

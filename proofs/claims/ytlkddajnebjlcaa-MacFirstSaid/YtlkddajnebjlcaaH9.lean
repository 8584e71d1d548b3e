/- The laws of layer 1 (sha): what they answer, but for the document's own digest. -/
import Derived.Test.YtlkddajnebjlcaaH8
set_option linter.unusedVariables false
set_option maxRecDepth 100000
namespace Go.Proofs.Ytlkddajnebjlcaa.Sha
open Go Vse Go.Proofs Gen

abbrev yes : Tr AV := .ret (.v .bool true)
abbrev no : Tr AV := .ret (.v .bool false)
def eqA (a b : List Int) : Bool := eqList (fun x y => decide (x = y)) a b
theorem eqA_self : ∀ a : List Int, eqA a a = true
  | [] => rfl
  | x :: a => by
    have := eqA_self a
    unfold eqA at this ⊢
    simp only [eqList, decide_true, Bool.true_and]
    exact this

abbrev Fb := List Int → List Int
abbrev Pb := List Int → Bool
def cL (S : Fb) (p : Pb) (R : Fb) (p' : Pb) (i : Hs) (W : Wr) (pw : List Int → Hs → Bool) (q : Hs → Bool) (D : Hs → List Int) : List (Nat × CSpec) :=
  [(15, s15), (16, .slp1 [bs] (fun x => p x.1) d32 fun x => S x.1), (17, .slp1 [bs] (fun x => p' x.1) d32 fun x => R x.1), (18, sAll), (22, sSame),
   (19, .pos nH (fun _ _ => true) fun _ _ => (((), ()), (i, ()))), (20, .pos (wS [bs] []) (fun xs d => pw xs.2.1 d.1) fun xs d => ((), (W xs.2.1 d.1, ()))), (21, .pos (wS [] [d32]) (fun _ d => q d.1) fun _ d => ((D d.1, ()), d))]
abbrev CLF : Ctx := ctx (cL shaF shaP rsumF filledP h0 writeF writeP restP sumH)
theorem cL_sound : CtxSound Try.prog CLF ∧ CtxLocal CLF := ctx_sound ⟨ok15, ok16, ok17, okAll, okSame, ok19, ok20, ok21, trivial⟩

/-! ShaSums -/

def T3 (S : Fb) (p : Pb) (R : Fb) (p' : Pb) (b : List Int) : Tr AV :=
  .ite (decide ((b.length : Int) > 400)) yes (.chk (p b) (.chk (p' b) (.ret (.v .bool (eqA (S b) (R b))))))
theorem t3 (S : Fb) (p : Pb) (R : Fb) (p' : Pb) (i : Hs) (W : Wr) (pw : List Int → Hs → Bool) (q : Hs → Bool) (D : Hs → List Int) (b : List Int) :
    nrm (fnK Try.prog (ctx (cL S p R p' i W pw q D)) L0 Try.f3 (mkArgs [bt] (b, ())) []) = (T3 S p R p' b).eval := by kernel_rfl

/-! ShaKeeps -/

def T5 (S : Fb) (p : Pb) (i : Hs) (W : Wr) (pw : List Int → Hs → Bool) (q : Hs → Bool) (D : Hs → List Int) (b : List Int) (n : Int) : Tr AV :=
  let own : List Int := [] ++ b
  .ite (decide ((b.length : Int) > 400)) yes (.ite (decide (n < 0)) yes (.ite (decide (n ≥ (b.length : Int))) yes (.chk (Vse.room (([] : List Int).length + b.length) 1) (.chk (p own) (.chk (pw own i) (.chk (inArr n own.length) (.chk (inArr n own.length)
    (.ite (sameI own b) (.chk (q (W own i)) (.ret (.v .bool (eqA (D (W own i)) (S own))))) no))))))))
theorem t5 (S : Fb) (p : Pb) (R : Fb) (p' : Pb) (i : Hs) (W : Wr) (pw : List Int → Hs → Bool) (q : Hs → Bool) (D : Hs → List Int) (b : List Int) (n : Int) :
    nrm (fnK Try.prog (ctx (cL S p R p' i W pw q D)) L0 Try.f5 (mkArgs [bt, i64] (b, n, ())) []) = (T5 S p i W pw q D b n).eval := by kernel_rfl

/-! ShaParts -/

noncomputable def bP : Code := loopAt Try.f4 0
def SP : RSpec := ⟨[0, 3, 4, 6, 7, 8], 50, [lt, .bool, bt, .ptr 0 [], .vc 1 0, i64], [.box hT, .vec 0 u8], [.box .unit], [.slot 7 u8], fun x => match x with | .ret => ([2], [.bool], [.dead]) | _ => ([3, 4, 6], [.bool, bt, .ptr 0 []], [.box hT])⟩
def GP (S : Fb) (p : Pb) (W : Wr) (pw : List Int → Hs → Bool) (q : Hs → Bool) (D : Hs → List Int) (l : List (List Int)) (up : Bool) (all : List Int) (i : Int) (h : Hs) (so : List Int) : Tr SP.End :=
  let x : List Int := l.getD i.toNat []
  .ite (decide (i < (l.length : Int))) (.chk (inArr i l.length) (.chk (pw x h) (.chk (inArr i l.length) (.chk (Vse.room (so.length + x.length) 1) (.chk (q (W x h)) (.chk (p (so ++ x))
      (.ite (!(eqA (D (W x h)) (S (so ++ x)))) (.ret (.inr (.ret, encS [2] [.bool] [.dead] 50 (false, ()) ()))) (.ret (.inl ((l, up, all, (), (), w (i + 1), ()), (W x h, so ++ x, ()))))))))))) 
    (.ret (.inr (.exit 0, encS [3, 4, 6] [.bool, bt, .ptr 0 []] [.box hT] 50 (up, all, (), ()) (h, ()))))
theorem rP (S : Fb) (p : Pb) (R : Fb) (p' : Pb) (i0 : Hs) (W : Wr) (pw : List Int → Hs → Bool) (q : Hs → Bool) (D : Hs → List Int) (l : List (List Int)) (up : Bool) (all : List Int) (i : Int) (h : Hs) (so : List Int) :
    (SP.round (bodyK Try.prog (ctx (cL S p R p' i0 W pw q D)) L0 bP) (l, up, all, (), (), i, ()) (h, so, ())).eval = (GP S p W pw q D l up all i h so).eval := by kernel_rfl

def FP (c : List (List Int) → Int → Hs → List Int → Bool) (Z : List (List Int) → Hs → Hs) (xs : HL SP.Ts) (hs : HD SP.Es) : Tr (Ex × St) :=
  .chk (c xs.1 xs.2.2.2.2.2.1 hs.1 hs.2.1) (.ret (.exit 0, encS [3, 4, 6] [.bool, bt, .ptr 0 []] [.box hT] 50 (xs.2.1, xs.2.2.1, (), ()) (Z xs.1 hs.1, ())))
def LP (c : List (List Int) → Int → Hs → List Int → Bool) (Z : List (List Int) → Hs → Hs) : Loops := fun j st => if j = 8 then SP.fn (FP c Z) st else .fail
def T4 (S : Fb) (p : Pb) (i : Hs) (q : Hs → Bool) (D : Hs → List Int) (c : List (List Int) → Int → Hs → List Int → Bool) (Z : List (List Int) → Hs → Hs) (l : List (List Int)) : Tr AV :=
  .chk (preAll l) (.ite (decide ((allI l).2.1 > 1000)) yes (.chk (c l 0 i []) (.chk (q (Z l i)) (.chk (p (allI l).1) (.ret (.v .bool (eqA (D (Z l i)) (S (allI l).1))))))))
theorem t4 (S : Fb) (p : Pb) (R : Fb) (p' : Pb) (i : Hs) (W : Wr) (pw : List Int → Hs → Bool) (q : Hs → Bool) (D : Hs → List Int) (c : List (List Int) → Int → Hs → List Int → Bool) (Z : List (List Int) → Hs → Hs) (l : List (List Int)) :
    nrm (fnK Try.prog (ctx (cL S p R p' i W pw q D)) (LP c Z) Try.f4 (mkArgs [lt] (l, ())) []) = (T4 S p i q D c Z l).eval := by kernel_rfl

end Go.Proofs.Ytlkddajnebjlcaa.Sha

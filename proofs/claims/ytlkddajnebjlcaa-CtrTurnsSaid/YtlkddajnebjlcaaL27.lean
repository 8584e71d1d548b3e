/- The laws of layer 4 (ctr): walks. -/
import Derived.Test.YtlkddajnebjlcaaL26
set_option linter.unusedVariables false
set_option maxRecDepth 100000
namespace Go.Proofs.Ytlkddajnebjlcaa.Ctr
open Go Vse Go.Proofs Gen

abbrev Fl := List Int → List Int → List Int → List Int
abbrev Pb := List Int → Bool
abbrev yes : Tr AV := .ret (.v .bool true)
abbrev no : Tr AV := .ret (.v .bool false)
def eqA (a b : List Int) : Bool := eqList (fun x y => decide (x = y)) a b
def cV (P : Pb) (F : Fl) (P' : Pb) (R : Fl) (N N' : Nx) : List (Nat × CSpec) :=
  [(23, s23), (24, .slp1 [w16, w16, bs] (fun x => P x.2.2.1) bt fun x => F x.1 x.2.1 x.2.2.1), (25, .slp1 [w16, w16, bs] (fun x => P' x.2.2.1) bt fun x => R x.1 x.2.1 x.2.2.1), (22, sSame),
   (26, .slp1 [w16, u64] (fun _ => true) w16 fun x => N x.1 x.2.1), (27, .slp1 [w16, u64] (fun _ => true) w16 fun x => N' x.1 x.2.1)]
abbrev flX : Fl := fun key at_ b => flipX (fun k a => Aes.encI k a) nextF key at_ b
abbrev CVF : Ctx := ctx (cV flipP flX flipP rflipF nextF rnextF)
theorem cV_sound : CtxSound Try.prog CVF ∧ CtxLocal CVF := ctx_sound ⟨ok23, ok24, ok25, okSame, ok26, ok27, trivial⟩

/-! CtrTells -/

def T6 (P : Pb) (F : Fl) (P' : Pb) (R : Fl) (N N' : Nx) (key at_ b : List Int) : Tr AV :=
  let by_ := wu (wu (b.length : Int) * 72057594037927935)
  .ite (decide ((b.length : Int) > 100)) yes (.chk (P b) (.chk (P' b) (.ite (sameI (F key at_ b) (R key at_ b)) (.ret (.v .bool (eqA (N at_ by_) (N' at_ by_)))) no)))
theorem t6 (P : Pb) (F : Fl) (P' : Pb) (R : Fl) (N N' : Nx) (key at_ b : List Int) :
    nrm (fnK Try.prog (ctx (cV P F P' R N N')) L0 Try.f6 (mkArgs [w16, w16, bt] (key, at_, b, ())) []) = (T6 P F P' R N N' key at_ b).eval := by kernel_rfl

/-! CtrBack -/

noncomputable def bB : Code := loopAt Try.f7 0
def SB : RSpec := ⟨[2, 3, 4, 7, 8, 10], 61, [bt, .ptr 0 [], .ptr 1 [], .bool, bt, i64], eN, eN, [], fun x => match x with | .ret => ([6], [.bool], eN) | _ => ([7], [.bool], eN)⟩
/-- what lies behind a place -/
def behind (l : List Int) (i : Int) : List Int := (l.take ((l.length : Int)).toNat).drop i.toNat
def sliceOK (l : List Int) (i : Int) : Bool := decide (0 ≤ i) && (decide (i ≤ (l.length : Int)) && decide ((l.length : Int) ≤ (l.length : Int)))
def GB (P : Pb) (F : Fl) (N : Nx) (b : List Int) (up : Bool) (f : List Int) (i : Int) (key at_ : List Int) : Tr SB.End :=
  .ite (decide (i ≤ (b.length : Int))) (.chk (sliceOK b i) (.chk (P (behind b i)) (.chk (sliceOK f i)
    (.ite (!sameI (F key (N at_ (wu (w (i.tdiv 16)))) (behind b i)) (behind f i)) (.ret (.inr (.ret, encS [6] [.bool] eN 61 (false, ()) (key, at_, ())))) (.ret (.inl ((b, (), (), up, f, w (i + 16), ()), (key, at_, ()))))))))
    (.ret (.inr (.exit 0, encS [7] [.bool] eN 61 (up, ()) (key, at_, ()))))
theorem rB (P : Pb) (F : Fl) (P' : Pb) (R : Fl) (N N' : Nx) (b : List Int) (up : Bool) (f : List Int) (i : Int) (key at_ : List Int) :
    (SB.round (bodyK Try.prog (ctx (cV P F P' R N N')) L0 bB) (b, (), (), up, f, i, ()) (key, at_, ())).eval = (GB P F N b up f i key at_).eval := by kernel_rfl
def FBk (c : List Int → List Int → List Int → List Int → Int → Bool) (xs : HL SB.Ts) (hs : HD SB.Es) : Tr (Ex × St) :=
  .chk (c hs.1 hs.2.1 xs.1 xs.2.2.2.2.1 xs.2.2.2.2.2.1) (.ret (.exit 0, encS [7] [.bool] eN 61 (xs.2.2.2.1, ()) (hs.1, hs.2.1, ())))
def LB (c : List Int → List Int → List Int → List Int → Int → Bool) : Loops := fun j st => if j = 9 then SB.fn (FBk c) st else .fail
def T7 (P : Pb) (F : Fl) (c : List Int → List Int → List Int → List Int → Int → Bool) (key at_ b : List Int) : Tr AV :=
  .ite (decide ((b.length : Int) > 200)) yes (.chk (P b) (.chk (P (F key at_ b)) (.ite (!sameI (F key at_ (F key at_ b)) b) no (.ite (((F key at_ b).length : Int) != (b.length : Int)) no (.chk (c key at_ b (F key at_ b) 16) yes)))))
theorem t7 (P : Pb) (F : Fl) (P' : Pb) (R : Fl) (N N' : Nx) (c : List Int → List Int → List Int → List Int → Int → Bool) (key at_ b : List Int) :
    nrm (fnK Try.prog (ctx (cV P F P' R N N')) (LB c) Try.f7 (mkArgs [w16, w16, bt] (key, at_, b, ())) []) = (T7 P F c key at_ b).eval := by kernel_rfl

/-! CtrTurns -/

abbrev t2w : Ty := .arr 2 w16
abbrev t2u : Ty := .arr 2 u64
noncomputable def bT : Code := loopAt Try.f8 0
abbrev eT : List ETy := [.dead, .box t2u, .dead, .box w16, .vec 2 u8, .dead]
def ST : RSpec := ⟨[1, 5, 7, 9, 11, 12, 13, 14], 118, [bt, .ptr 1 [], .bool, .ptr 3 [], bt, .vc 4 2, bt, i64], eT, [.box t2w, .box t2u, .box w16, .box w16, .vec 1 u8, .dead], [],
  fun x => match x with | .ret => ([6], [.bool], eT) | _ => ([5, 7, 9], [.ptr 1 [], .bool, .ptr 3 []], eT)⟩
def GT (b : List Int) (up : Bool) (f d : List Int) (i : Int) (n at_ c : List Int) : Tr ST.End :=
  .ite (decide (i < (b.length : Int))) (.chk (inArr i f.length) (.chk (inArr i d.length) (.chk (inArr i b.length) (.chk (inArr i c.length)
    (.ite (xorI .u8 (f.getD i.toNat 0) (d.getD i.toNat 0) != xorI .u8 (b.getD i.toNat 0) (c.getD i.toNat 0)) (.ret (.inr (.ret, encS [6] [.bool] eT 118 (false, ()) (n, at_, c, ()))))
      (.ret (.inl ((b, (), up, (), f, (), d, w (i + 1), ()), (n, at_, c, ())))))))))
    (.ret (.inr (.exit 0, encS [5, 7, 9] [.ptr 1 [], .bool, .ptr 3 []] eT 118 ((), up, (), ()) (n, at_, c, ()))))
theorem rT (P : Pb) (F : Fl) (P' : Pb) (R : Fl) (N N' : Nx) (b : List Int) (up : Bool) (f d : List Int) (i : Int) (n at_ c : List Int) :
    (ST.round (bodyK Try.prog (ctx (cV P F P' R N N')) L0 bT) (b, (), up, (), f, (), d, i, ()) (n, at_, c, ())).eval = (GT b up f d i n at_ c).eval := by kernel_rfl
def FT (t : List Int → List Int → List Int → List Int → Int → Bool) (xs : HL ST.Ts) (hs : HD ST.Es) : Tr (Ex × St) :=
  .chk (t xs.1 xs.2.2.2.2.1 xs.2.2.2.2.2.2.1 hs.2.2.1 xs.2.2.2.2.2.2.2.1) (.ret (.exit 0, encS [5, 7, 9] [.ptr 1 [], .bool, .ptr 3 []] eT 118 ((), xs.2.2.1, (), ()) (hs.1, hs.2.1, hs.2.2.1, ())))
def LT (t : List Int → List Int → List Int → List Int → Int → Bool) : Loops := fun j st => if j = 14 then ST.fn (FT t) st else .fail
def T8 (P : Pb) (F : Fl) (N : Nx) (t : List Int → List Int → List Int → List Int → Int → Bool) (key at_ b : List Int) (x y : Int) : Tr AV :=
  let place := w (x.tmod (wu (b.length : Int)))
  let c0 : List Int := [] ++ b
  let c := c0.set place.toNat (xorI .u8 (c0.getD place.toNat 0) (wb (y.tmod 256)))
  let lo := wu (x.tdiv 2)
  let hi := wu (y.tdiv 2)
  .ite (decide ((b.length : Int) > 200)) yes (.ite ((b.length : Int) == 0) yes (.ite (decide (wu (b.length : Int) = 0)) .fail (.chk (P b) (.chk (Vse.room (([] : List Int).length + b.length) 1) (.chk (inArr place c0.length) (.chk (inArr place c0.length)
    (.chk (P c) (.ite (((F key at_ b).length : Int) != (b.length : Int)) no (.ite (((F key at_ c).length : Int) != (b.length : Int)) no (.chk (t b (F key at_ b) (F key at_ c) c 0)
      (.ret (.v .bool (eqA (N (N at_ lo) hi) (N at_ (wu (lo + hi))))))))))))))))
theorem t8 (P : Pb) (F : Fl) (P' : Pb) (R : Fl) (N N' : Nx) (t : List Int → List Int → List Int → List Int → Int → Bool) (key at_ b : List Int) (x y : Int) :
    nrm (fnK Try.prog (ctx (cV P F P' R N N')) (LT t) Try.f8 (mkArgs [t2w, bt, t2u] ([key, at_], b, [x, y], ())) []) = (T8 P F N t key at_ b x y).eval := by kernel_rfl

end Go.Proofs.Ytlkddajnebjlcaa.Ctr

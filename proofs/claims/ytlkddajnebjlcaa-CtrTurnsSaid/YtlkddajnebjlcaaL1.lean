/- Counters (layer 4, ctr): walks of Next, the document's Next, and the document's Flip. -/
import Derived.Test.YtlkddajnebjlcaaG1
set_option linter.unusedVariables false
set_option maxRecDepth 100000
namespace Go.Proofs.Ytlkddajnebjlcaa.Ctr
open Go Vse Go.Proofs Gen

abbrev w16 : Ty := .arr 16 u8
abbrev u64 : Ty := .int .u64

/-! Next -/

noncomputable def bN : Code := loopAt Try.f26 0
abbrev eN : List ETy := [.box w16, .box w16]
def SN : RSpec := ⟨[1, 2, 4, 5, 6], 29, [u64, .ptr 0 [], .ptr 1 [], u64, i64], eN, eN, [], fun _ => ([2, 4], [.ptr 0 [], .ptr 1 []], eN)⟩
/-- what is carried into a place, and its byte -/
def sumN (by_ carry x : Int) : Int := wu (carry + wu (wu x + andI .u64 by_ 255))
def GN (by_ carry i : Int) (q r : List Int) : Tr SN.End :=
  let c := sumN by_ carry (q.getD i.toNat 0)
  .ite (decide (i ≥ 0)) (.chk (inArrK .i64 i 16) (.chk (inArrK .i64 i 16) (.ret (.inl ((shrI .u64 by_ 8, (), (), shrI .u64 c 8, w (i - 1), ()), (q.set i.toNat (wb c), r, ()))))))
    (.ret (.inr (.exit 0, encS [2, 4] [.ptr 0 [], .ptr 1 []] eN 29 ((), (), ()) (q, r, ()))))
theorem rN (by_ carry i : Int) (q r : List Int) : (SN.round (bodyK Try.prog (ctx []) L0 bN) (by_, (), (), carry, i, ()) (q, r, ())).eval = (GN by_ carry i q r).eval := by kernel_rfl
def FN (c : Int → Int → List Int → Bool) (X : Int → List Int → List Int) (xs : HL SN.Ts) (hs : HD SN.Es) : Tr (Ex × St) :=
  .chk (c xs.2.2.2.1 xs.2.2.2.2.1 hs.1) (.ret (.exit 0, encS [2, 4] [.ptr 0 [], .ptr 1 []] eN 29 ((), (), ()) (X xs.1 hs.1, hs.2.1, ())))
def LN (c : Int → Int → List Int → Bool) (X : Int → List Int → List Int) : Loops := fun j st => if j = 3 then SN.fn (FN c X) st else .fail
def TN (c : Int → Int → List Int → Bool) (X : Int → List Int → List Int) (at_ : List Int) (by_ : Int) : Tr AV := .chk (c 0 15 at_) (.ret (.v w16 (X by_ at_)))
theorem tN (c : Int → Int → List Int → Bool) (X : Int → List Int → List Int) (at_ : List Int) (by_ : Int) :
    nrm (fnS Try.prog (ctx []) (LN c X) [w16] Try.f26 (mkArgs [w16, u64] (at_, by_, ()))) = (TN c X at_ by_).eval := by kernel_rfl

/-! the document's Next -/

noncomputable def bR : Code := loopAt Try.f27 0
def SR : RSpec := ⟨[1, 2, 4, 5, 6], 31, [u64, .ptr 0 [], .ptr 1 [], u64, i64], eN, eN, [], fun _ => ([2, 4], [.ptr 0 [], .ptr 1 []], eN)⟩
def sumR (by_ carry x : Int) : Int := wu (wu (wu x + by_.tmod 256) + carry)
def GR (by_ carry i : Int) (q r : List Int) : Tr SR.End :=
  let c := sumR by_ carry (q.getD i.toNat 0)
  .ite (decide (i ≥ 0)) (.chk (inArrK .i64 i 16) (.chk (inArrK .i64 i 16) (.ret (.inl ((wu (by_.tdiv 256), (), (), wu (c.tdiv 256), w (i - 1), ()), (q.set i.toNat (wb (c.tmod 256)), r, ()))))))
    (.ret (.inr (.exit 0, encS [2, 4] [.ptr 0 [], .ptr 1 []] eN 31 ((), (), ()) (q, r, ()))))
theorem rR (by_ carry i : Int) (q r : List Int) : (SR.round (bodyK Try.prog (ctx []) L0 bR) (by_, (), (), carry, i, ()) (q, r, ())).eval = (GR by_ carry i q r).eval := by kernel_rfl
def FR (c : Int → Int → List Int → Bool) (X : Int → List Int → List Int) (xs : HL SR.Ts) (hs : HD SR.Es) : Tr (Ex × St) :=
  .chk (c xs.2.2.2.1 xs.2.2.2.2.1 hs.1) (.ret (.exit 0, encS [2, 4] [.ptr 0 [], .ptr 1 []] eN 31 ((), (), ()) (X xs.1 hs.1, hs.2.1, ())))
def LR (c : Int → Int → List Int → Bool) (X : Int → List Int → List Int) : Loops := fun j st => if j = 3 then SR.fn (FR c X) st else .fail
theorem tR (c : Int → Int → List Int → Bool) (X : Int → List Int → List Int) (at_ : List Int) (by_ : Int) :
    nrm (fnS Try.prog (ctx []) (LR c X) [w16] Try.f27 (mkArgs [w16, u64] (at_, by_, ()))) = (TN c X at_ by_).eval := by kernel_rfl

/-! the document's Flip -/

abbrev Nx := List Int → Int → List Int
abbrev En := List Int → List Int → List Int
def cF (N : Nx) (E : En) : List (Nat × CSpec) := [(27, .slp1 [w16, u64] (fun _ => true) w16 fun x => N x.1 x.2.1), (44, .fn1 [w16, w16] w16 fun x => E x.1 x.2.1)]
noncomputable def bF : Code := loopAt Try.f25 0
abbrev eF : List ETy := [.box w16, .box w16, .box w16, .vec 0 u8]
def SF : RSpec := ⟨[2, 3, 4, 7, 8, 9], 40, [bs, .ptr 0 [], .ptr 1 [], .vc 3 0, .ptr 2 [], i64], eF, [.box w16, .box w16, .box w16], [.slot 7 u8], fun _ => ([7], [.vc 3 0], [.dead, .dead, .dead, .vec 0 u8])⟩
def GF (N : Nx) (E : En) (b : List Int) (i : Int) (key at_ made out : List Int) : Tr SF.End :=
  let step (m : List Int) : Tr SF.End := .chk (inArr i b.length) (.chk (inArrK .i64 (i.tmod 16) 16) (.chk (Vse.room (out.length + [xorI .u8 (b.getD i.toNat 0) (m.getD (i.tmod 16).toNat 0)].length) 1)
    (.ret (.inl ((b, (), (), (), (), w (i + 1), ()), (key, at_, m, out ++ [xorI .u8 (b.getD i.toNat 0) (m.getD (i.tmod 16).toNat 0)], ()))))))
  .ite (decide (i < (b.length : Int))) (.ite (i.tmod 16 == 0) (step (E key (N at_ (wu (w (i.tdiv 16)))))) (step made))
    (.ret (.inr (.exit 0, encS [7] [.vc 3 0] [.dead, .dead, .dead, .vec 0 u8] 40 ((), ()) (out, ()))))
theorem rF (N : Nx) (E : En) (b : List Int) (i : Int) (key at_ made out : List Int) :
    (SF.round (bodyK Try.prog (ctx (cF N E)) L0 bF) (b, (), (), (), (), i, ()) (key, at_, made, out, ())).eval = (GF N E b i key at_ made out).eval := by kernel_rfl

def z16 : List Int := [0, 0, 0, 0, 0, 0, 0, 0, 0, 0, 0, 0, 0, 0, 0, 0]
def FF (c : List Int → Int → List Int → List Int → List Int → Bool) (X : List Int → List Int → List Int → List Int) (xs : HL SF.Ts) (hs : HD SF.Es) : Tr (Ex × St) :=
  .chk (c xs.1 xs.2.2.2.2.2.1 hs.2.1 hs.2.2.1 hs.2.2.2.1) (.ret (.exit 0, encS [7] [.vc 3 0] [.dead, .dead, .dead, .vec 0 u8] 40 ((), ()) (X hs.1 hs.2.1 xs.1, ())))
def LF (c : List Int → Int → List Int → List Int → List Int → Bool) (X : List Int → List Int → List Int → List Int) : Loops := fun j st => if j = 4 then SF.fn (FF c X) st else .fail
def TF (c : List Int → Int → List Int → List Int → List Int → Bool) (X : List Int → List Int → List Int → List Int) (key at_ b : List Int) : Tr AV := .chk (c b 0 at_ z16 []) (.ret (.v bt (X key at_ b)))
theorem tF (N : Nx) (E : En) (c : List Int → Int → List Int → List Int → List Int → Bool) (X : List Int → List Int → List Int → List Int) (key at_ b : List Int) :
    nrm (fnS Try.prog (ctx (cF N E)) (LF c X) [bt] Try.f25 (mkArgs [w16, w16, bs] (key, at_, b, ()))) = (TF c X key at_ b).eval := by kernel_rfl

end Go.Proofs.Ytlkddajnebjlcaa.Ctr

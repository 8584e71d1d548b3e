/- The laws of layer 2 (mac): walks. -/
import Derived.Test.YtlkddajnebjlcaaK6
import Derived.Test.YtlkddajnebjlcaaH9
set_option linter.unusedVariables false
set_option maxRecDepth 100000
namespace Go.Proofs.Ytlkddajnebjlcaa.Mac
open Go Vse Go.Proofs Gen
open Sha hiding wb wu getD_cons cA cL

abbrev Ef := List Int → ByteArray → Int → List Int × Int × Unit
abbrev Pe := List Int → ByteArray → Bool
abbrev F2 := List Int → List Int → List Int
abbrev P2 := List Int → List Int → Bool
def cL (M : Mc) (p : Pc) (E : Ef) (pe : Pe) (Q : P2) (R : F2) (pr : P2) (E' : Ef) (pe' : Pe) (X : F2) (px : P2) : List (Nat × CSpec) :=
  [(28, s28), (29, .slp1 [bs, ls] (fun x => p x.1 x.2.1) d32 fun x => M x.1 x.2.1), (30, .pos nE (fun xs _ => pe xs.1 xs.2.1) fun xs _ => (E xs.1 xs.2.1 xs.2.2.1, ())), (31, .slp1 [bs, bs] (fun _ => true) .bool fun x => Q x.1 x.2.1),
   (33, .slp1 [bs, bs] (fun x => pr x.1 x.2.1) d32 fun x => R x.1 x.2.1), (32, .pos nE (fun xs _ => pe' xs.1 xs.2.1) fun xs _ => (E' xs.1 xs.2.1 xs.2.2.1, ())), (34, .slp1 [bs, bt] (fun x => px x.1 x.2.1) d32 fun x => X x.1 x.2.1), (18, sAll), (22, sSame)]
abbrev CLF : Ctx := ctx (cL macL macP expF expP eqF rmacF oneP rexpF expP macF oneP)
theorem cL_sound : CtxSound Try.prog CLF ∧ CtxLocal CLF := ctx_sound ⟨ok28, ok29, ok30, ok31, ok33, ok32, ok34, okAll, okSame, trivial⟩

/-! MacTells -/

def T11 (M : Mc) (p : Pc) (E : Ef) (pe : Pe) (Q : P2) (R : F2) (pr : P2) (E' : Ef) (pe' : Pe) (X : F2) (px : P2) (key b : List Int) (many : Int) : Tr AV :=
  let s := bytesStr b
  .ite (decide ((key.length : Int) > 200)) yes (.ite (decide ((b.length : Int) > 200)) yes (.ite (decide (many > 300)) yes (.chk (pe key s) (.chk (pe' key s) (.chk (p key [b]) (.chk (pr key b) (.ite (eqA (M key [b]) (R key b))
    (.chk (px key b) (.chk (pr key b) (.ite (eqA (X key b) (R key b)) (.ite (sameI (E key s many).1 (E' key s many).1) (.ite ((E key s many).2.1 == (E' key s many).2.1) (.ret (.v .bool (Q key b == sameI key b))) no) no) no))) no)))))))
theorem t11 (M : Mc) (p : Pc) (E : Ef) (pe : Pe) (Q : P2) (R : F2) (pr : P2) (E' : Ef) (pe' : Pe) (X : F2) (px : P2) (key b : List Int) (many : Int) :
    nrm (fnK Try.prog (ctx (cL M p E pe Q R pr E' pe' X px)) L0 Try.f11 (mkArgs [bt, bt, i64] (key, b, many, ())) []) = (T11 M p E pe Q R pr E' pe' X px key b many).eval := by kernel_rfl

/-! MacParts -/

noncomputable def bP : Code := loopAt Try.f9 0
abbrev eP : List ETy := [.dead, .box d32, .vec 2 u8, .dead]
def SP : RSpec := ⟨[2, 7, 8, 10, 11, 12], 69, [i64, .bool, bt, .ptr 1 [], .vc 2 2, i64], eP, [.vec 0 bt, .box d32, .vec 1 u8, .dead], [], fun _ => ([7, 8, 10, 11], [.bool, bt, .ptr 1 [], .vc 2 2], eP)⟩
def GP (more : Int) (up : Bool) (a : List Int) (i : Int) (code long : List Int) : Tr SP.End :=
  let e : Tr SP.End := .ret (.inr (.exit 0, encS [7, 8, 10, 11] [.bool, bt, .ptr 1 [], .vc 2 2] eP 69 (up, a, (), (), ()) (code, long, ())))
  .ite (decide (i < more)) (.ite (decide ((long.length : Int) < 64)) (.chk (Vse.room (long.length + [(0 : Int)].length) 1) (.ret (.inl ((more, up, a, (), (), w (i + 1), ()), (code, long ++ [0], ()))))) e) e
theorem rP (M : Mc) (p : Pc) (E : Ef) (pe : Pe) (Q : P2) (R : F2) (pr : P2) (E' : Ef) (pe' : Pe) (X : F2) (px : P2) (more : Int) (up : Bool) (a : List Int) (i : Int) (code long : List Int) :
    (SP.round (bodyK Try.prog (ctx (cL M p E pe Q R pr E' pe' X px)) L0 bP) (more, up, a, (), (), i, ()) (code, long, ())).eval = (GP more up a i code long).eval := by kernel_rfl
def FP (c : Int → Int → List Int → Bool) (Z : Int → List Int → List Int) (xs : HL SP.Ts) (hs : HD SP.Es) : Tr (Ex × St) :=
  .chk (c xs.1 xs.2.2.2.2.2.1 hs.2.1) (.ret (.exit 0, encS [7, 8, 10, 11] [.bool, bt, .ptr 1 [], .vc 2 2] eP 69 (xs.2.1, xs.2.2.1, (), (), ()) (hs.1, Z xs.1 hs.2.1, ())))
def LP (c : Int → Int → List Int → Bool) (Z : Int → List Int → List Int) : Loops := fun j st => if j = 10 then SP.fn (FP c Z) st else .fail
def T9 (M : Mc) (p : Pc) (c : Int → Int → List Int → Bool) (Z : Int → List Int → List Int) (key : List Int) (l : List (List Int)) (more : Int) : Tr AV :=
  let a : List Int := (allI l).1
  let k : List Int := [] ++ key
  .chk (preAll l) (.ite (decide ((key.length : Int) > 200)) yes (.ite (decide ((allI l).2.1 > 500)) yes (.ite (decide (more < 0)) yes (.ite (decide (more > 64)) yes (.chk (p key [a]) (.chk (p key l) (.ite (!(eqA (M key l) (M key [a]))) no
    (.chk (Vse.room (([] : List Int).length + key.length) 1) (.chk (c more 0 k) (.chk (p (Z more k) [a]) (.ret (.v .bool (eqA (M (Z more k) [a]) (M key [a])))))))))))))) 
theorem t9 (M : Mc) (p : Pc) (E : Ef) (pe : Pe) (Q : P2) (R : F2) (pr : P2) (E' : Ef) (pe' : Pe) (X : F2) (px : P2) (c : Int → Int → List Int → Bool) (Z : Int → List Int → List Int) (key : List Int) (l : List (List Int)) (more : Int) :
    nrm (fnK Try.prog (ctx (cL M p E pe Q R pr E' pe' X px)) (LP c Z) Try.f9 (mkArgs [bt, lt, i64] (key, l, more, ())) []) = (T9 M p c Z key l more).eval := by kernel_rfl

/-! MacFirst -/

def T10 (E : Ef) (pe : Pe) (Q : P2) (key : List Int) (s : ByteArray) (x y : Int) : Tr AV :=
  let a := (E key s x).1
  let b := (E key s y).1
  .ite (decide ((key.length : Int) > 200)) yes (.ite (decide ((s.size : Int) > 200)) yes (.ite (decide (x < 0)) yes (.ite (decide (y < x)) yes (.ite (decide (y > 500)) yes (.chk (pe key s) (.chk (pe key s)
    (.ite ((E key s x).2.1 != 0) no (.ite ((E key s y).2.1 != 0) no (.ite ((a.length : Int) != x) no (.ite ((b.length : Int) != y) no
      (.chk (decide ((0 : Int) ≤ 0) && (decide (0 ≤ x) && decide (x ≤ (b.length : Int)))) (.ret (.v .bool (Q a ((b.take x.toNat).drop (0 : Int).toNat)))))))))))))))
theorem t10 (M : Mc) (p : Pc) (E : Ef) (pe : Pe) (Q : P2) (R : F2) (pr : P2) (E' : Ef) (pe' : Pe) (X : F2) (px : P2) (key : List Int) (s : ByteArray) (x y : Int) :
    nrm (fnK Try.prog (ctx (cL M p E pe Q R pr E' pe' X px)) L0 Try.f10 (mkArgs [bt, .str, .arr 2 i64] (key, s, [x, y], ())) []) = (T10 E pe Q key s x y).eval := by kernel_rfl

end Go.Proofs.Ytlkddajnebjlcaa.Mac

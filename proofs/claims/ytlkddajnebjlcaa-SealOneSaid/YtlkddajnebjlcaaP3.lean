/- The laws of layer 5 (seal): walks. -/
import Derived.Test.YtlkddajnebjlcaaP2
set_option linter.unusedVariables false
set_option maxRecDepth 100000
namespace Go.Proofs.Ytlkddajnebjlcaa.Seal
open Go Vse Go.Proofs Gen

abbrev yes : Tr AV := .ret (.v .bool true)
abbrev no : Tr AV := .ret (.v .bool false)
abbrev Sf := List Int → ByteArray → List Int → List Int → Rs
abbrev Of := List Int → ByteArray → List Int → Rs
abbrev t2w : Ty := .arr 2 w16
abbrev t2b : Ty := .arr 2 bt
def s35 : CSpec := .slp1 [] (fun _ => true) .bool fun _ => true
abbrev Sp := List Int → ByteArray → List Int → List Int → Bool
abbrev Op_ := List Int → ByteArray → List Int → Bool
def cV (S : Sf) (ps : Sp) (O : Of) (po : Op_) (S' : Sf) (ps' : Sp) (O' : Of) (po' : Op_) : List (Nat × CSpec) :=
  [(35, s35), (36, .pos nSe (fun xs _ => ps xs.1 xs.2.1 xs.2.2.1 xs.2.2.2.1) fun xs _ => (S xs.1 xs.2.1 xs.2.2.1 xs.2.2.2.1, ())), (38, .pos nOp (fun xs _ => po xs.1 xs.2.1 xs.2.2.1) fun xs _ => (O xs.1 xs.2.1 xs.2.2.1, ())),
   (37, .pos nSe (fun xs _ => ps' xs.1 xs.2.1 xs.2.2.1 xs.2.2.2.1) fun xs _ => (S' xs.1 xs.2.1 xs.2.2.1 xs.2.2.2.1, ())), (39, .pos nOp (fun xs _ => po' xs.1 xs.2.1 xs.2.2.1) fun xs _ => (O' xs.1 xs.2.1 xs.2.2.1, ())), (22, sSame)]

/-! SealTells -/

def T12 (S : Sf) (ps : Sp) (O : Of) (po : Op_) (S' : Sf) (ps' : Sp) (O' : Of) (po' : Op_) (x y : List Int) (s : ByteArray) (b c : List Int) : Tr AV :=
  .ite (decide ((s.size : Int) > 100)) yes (.ite (decide ((b.length : Int) > 1100)) yes (.ite (decide ((c.length : Int) > 1100)) yes (.chk (ps x s y b) (.chk (ps' x s y b) (.chk (po x s c) (.chk (po' x s c)
    (.ite (sameI (S x s y b).1 (S' x s y b).1) (.ite ((S x s y b).2.1 == (S' x s y b).2.1) (.ite (sameI (O x s c).1 (O' x s c).1) (.ret (.v .bool ((O x s c).2.1 == (O' x s c).2.1))) no) no) no)))))))
theorem t12 (S : Sf) (ps : Sp) (O : Of) (po : Op_) (S' : Sf) (ps' : Sp) (O' : Of) (po' : Op_) (x y : List Int) (s : ByteArray) (b c : List Int) :
    nrm (fnK Try.prog (ctx (cV S ps O po S' ps' O' po')) L0 Try.f12 (mkArgs [t2w, .str, t2b] ([x, y], s, [b, c], ())) []) = (T12 S ps O po S' ps' O' po' x y s b c).eval := by kernel_rfl

/-! SealBack -/

def T13 (S : Sf) (ps : Sp) (O : Of) (po : Op_) (x y : List Int) (s : ByteArray) (b : List Int) : Tr AV :=
  let r := S x s y b
  let q := O x s r.1
  .ite (decide ((s.size : Int) > 100)) yes (.ite (decide ((b.length : Int) > 1100)) yes (.chk (ps x s y b) (.ite (r.2.1 != 0)
    (.ite ((r.1.length : Int) == 0) (.ite (s == ByteArray.empty) yes (.ite (decide ((s.size : Int) > 40)) yes (.ret (.v .bool (decide ((b.length : Int) > 1000)))))) no)
    (.chk (po x s r.1) (.ite ((r.1.length : Int) == w ((b.length : Int) + 48)) (.chk (cutOK r.1 0 16) (.ite (q.2.1 == 0) (.ite (sameI q.1 b) (.ret (.v .bool (sameI (cut r.1 0 16) (all 16 y)))) no) no))
      (.ite (q.2.1 == 0) (.ite (sameI q.1 b) no no) no))))))
theorem t13 (S : Sf) (ps : Sp) (O : Of) (po : Op_) (S' : Sf) (ps' : Sp) (O' : Of) (po' : Op_) (x y : List Int) (s : ByteArray) (b : List Int) :
    nrm (fnK Try.prog (ctx (cV S ps O po S' ps' O' po')) L0 Try.f13 (mkArgs [t2w, .str, bt] ([x, y], s, b, ())) []) = (T13 S ps O po x y s b).eval := by kernel_rfl

/-! SealOne -/

noncomputable def bN : Code := loopAt Try.f14 0
abbrev eN : List ETy := [.box w16, .box w16]
def SN : RSpec := ⟨[1, 2, 3, 7, 8, 10, 11], 76, [.str, bt, .ptr 0 [], .bool, bt, .ptr 1 [], i64], eN, eN, [], fun _ => ([1, 2, 3, 7, 8, 10], [.str, bt, .ptr 0 [], .bool, bt, .ptr 1 []], eN)⟩
def GN (s : ByteArray) (b : List Int) (up : Bool) (p : List Int) (i : Int) (k f : List Int) : Tr SN.End :=
  let e : Tr SN.End := .ret (.inr (.exit 0, encS [1, 2, 3, 7, 8, 10] [.str, bt, .ptr 0 [], .bool, bt, .ptr 1 []] eN 76 (s, b, (), up, p, (), ()) (k, f, ())))
  .ite (decide (i < 16)) (.ite (decide (i < (b.length : Int))) (.chk (inArr i b.length) (.chk (inArrK .i64 i 16) (.ret (.inl ((s, b, (), up, p, (), w (i + 1), ()), (k, f.set i.toNat (b.getD i.toNat 0), ())))))) e) e
theorem rN (S : Sf) (ps : Sp) (O : Of) (po : Op_) (S' : Sf) (ps' : Sp) (O' : Of) (po' : Op_) (s : ByteArray) (b : List Int) (up : Bool) (p : List Int) (i : Int) (k f : List Int) :
    (SN.round (bodyK Try.prog (ctx (cV S ps O po S' ps' O' po')) L0 bN) (s, b, (), up, p, (), i, ()) (k, f, ())).eval = (GN s b up p i k f).eval := by kernel_rfl
def FN (c : List Int → Int → List Int → Bool) (X : List Int → List Int) (xs : HL SN.Ts) (hs : HD SN.Es) : Tr (Ex × St) :=
  .chk (c xs.2.1 xs.2.2.2.2.2.2.1 hs.2.1) (.ret (.exit 0, encS [1, 2, 3, 7, 8, 10] [.str, bt, .ptr 0 [], .bool, bt, .ptr 1 []] eN 76 (xs.1, xs.2.1, (), xs.2.2.2.1, xs.2.2.2.2.1, (), ()) (hs.1, X xs.2.1, ())))
def LN (c : List Int → Int → List Int → Bool) (X : List Int → List Int) : Loops := fun j st => if j = 9 then SN.fn (FN c X) st else .fail
def T14 (S : Sf) (ps : Sp) (O : Of) (po : Op_) (c : List Int → Int → List Int → Bool) (X : List Int → List Int) (k : List Int) (s : ByteArray) (b : List Int) : Tr AV :=
  let q := O k s b
  let r := S k s (X b) q.1
  .ite (decide ((s.size : Int) > 100)) yes (.ite (decide ((b.length : Int) > 1100)) yes (.chk (po k s b) (.ite (q.2.1 != 0) (.ret (.v .bool ((q.1.length : Int) == 0)))
    (.chk (c b 0 z16) (.chk (ps k s (X b) q.1) (.ite (r.2.1 == 0) (.ret (.v .bool (sameI b r.1))) no))))))
theorem t14 (S : Sf) (ps : Sp) (O : Of) (po : Op_) (S' : Sf) (ps' : Sp) (O' : Of) (po' : Op_) (c : List Int → Int → List Int → Bool) (X : List Int → List Int) (k : List Int) (s : ByteArray) (b : List Int) :
    nrm (fnK Try.prog (ctx (cV S ps O po S' ps' O' po')) (LN c X) Try.f14 (mkArgs [w16, .str, bt] (k, s, b, ())) []) = (T14 S ps O po c X k s b).eval := by kernel_rfl

/-! their own trial -/

def one16 : List Int := [1, 0, 0, 0, 0, 0, 0, 0, 0, 0, 0, 0, 0, 0, 0, 0]
def two16 : List Int := [2, 0, 0, 0, 0, 0, 0, 0, 0, 0, 0, 0, 0, 0, 0, 0]
def xyz : List Int := [120, 121, 122]
def sA : ByteArray := ⟨#[97]⟩
def sB : ByteArray := ⟨#[98]⟩
def T35 (S : Sf) (ps : Sp) (O : Of) (po : Op_) : Tr AV :=
  let r := S one16 sA two16 xyz
  .chk (ps one16 sA two16 xyz) (.chk (po one16 sA r.1) (.chk (po one16 sB r.1) (.chk (po one16 sA []) (.ite (r.2.1 == 0) (.ite ((r.1.length : Int) == 51) (.chk (inArr 0 r.1.length) (.ite (r.1.getD 0 0 == 2)
    (.ite ((O one16 sA r.1).2.1 == 0) (.ite (bytesStr (O one16 sA r.1).1 == ⟨#[120, 121, 122]⟩) (.ite ((O one16 sB r.1).2.1 == 6) (.ret (.v .bool ((O one16 sA []).2.1 == 2))) no) no) no) no)) no) no))))
theorem t35 (S : Sf) (ps : Sp) (O : Of) (po : Op_) : nrm (fnS Try.prog (ctx [(36, .pos nSe (fun xs _ => ps xs.1 xs.2.1 xs.2.2.1 xs.2.2.2.1) fun xs _ => (S xs.1 xs.2.1 xs.2.2.1 xs.2.2.2.1, ())), (38, .pos nOp (fun xs _ => po xs.1 xs.2.1 xs.2.2.1) fun xs _ => (O xs.1 xs.2.1 xs.2.2.1, ()))]) L0 [.bool] Try.f35 (mkArgs [] ())) = (T35 S ps O po).eval := by kernel_rfl

end Go.Proofs.Ytlkddajnebjlcaa.Seal

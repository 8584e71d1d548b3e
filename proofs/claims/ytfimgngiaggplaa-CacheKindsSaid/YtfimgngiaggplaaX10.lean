/- A table (layer 11, cache): the laws whole: walks. -/
import Derived.Test.YtfimgngiaggplaaX9
set_option linter.unusedVariables false
set_option maxRecDepth 100000
namespace Go.Proofs.Ytfimgngiaggplaa.Cache
open Go Vse Go.Proofs Gen

def FD (c : List tOp.den → Int → Tb i64 .str → Rt → Bool) (xs : HL SD.Ts) (hs : HD SD.Es) : Tr (Ex × St) :=
  .chk (c xs.1 xs.2.2.2.2.1 (hs.1, hs.2.1, hs.2.2.1, ()) (hs.2.2.2.1, hs.2.2.2.2.1, hs.2.2.2.2.2.1, ())) (.ret (.exit 0, encS [5] [.bool] (dd 6) 156 (xs.2.1, ()) ()))
def LD (c : List tOp.den → Int → Tb i64 .str → Rt → Bool) : Loops := fun j st => if j = 11 then SD.fn (FD c) st else .fail
def news (n : Int) (a b : Tr AV) : Tr AV :=
  .ite (okR n) (.chk (okR n) (.ite (okR n) (.chk (okR n) a) (.chk (!okR n) (.ret (.v .bool false))))) (.chk (!okR n) (.ite (okR n) (.chk (okR n) (.ret (.v .bool false))) (.chk (!okR n) b)))
def TD (up : Bool) (c : List tOp.den → Int → Tb i64 .str → Rt → Bool) (n : Int) (l : List tOp.den) : Tr AV :=
  .ite (decide ((l.length : Int) > 60)) (.ret (.v .bool up)) (news n (.chk (c l 0 (newF i64 .str n).2 (rnewF n).2) (.ret (.v .bool up))) (.ret (.v .bool up)))
theorem tD (up : Bool) (pp : PuP i64 .str) (P : Pu i64 .str) (pd : Int → Tb i64 .str → Bool) (D : Dr i64 .str) (pk : List Int → Bool) (pq : Int → ByteArray → Rt → Bool) (Q : Int → ByteArray → Rt → nRP.Out) (pe : Int → Rt → Bool) (E : Int → Rt → nRD.Out) (pa : List Int → Bool) (fa : List Int → Int → Int) (pi : List Int → List Int → Bool) (fi : List Int → List Int → Bool)
    (c : List tOp.den → Int → Tb i64 .str → Rt → Bool) (n : Int) (l : List tOp.den) :
    nrm (fnK Try.prog (ctx (cV up pp P pd D pk pq Q pe E pa fa pi fi)) (LD c) Try.f8 (mkArgs [i64, lOp] (n, l, ())) []) = (TD up c n l).eval := by kernel_rfl

def FB (c : Int → List tOp.den → Int → Tb i64 .str → Bool) (xs : HL SB.Ts) (hs : HD SB.Es) : Tr (Ex × St) :=
  .chk (c xs.1 xs.2.1 xs.2.2.2.2.1 hs) (.ret (.exit 0, encS [5] [.bool] (dd 3) 128 (xs.2.2.1, ()) ()))
def LB (c : Int → List tOp.den → Int → Tb i64 .str → Bool) : Loops := fun j st => if j = 8 then SB.fn (FB c) st else .fail
def TB (up : Bool) (c : Int → List tOp.den → Int → Tb i64 .str → Bool) (n : Int) (l : List tOp.den) : Tr AV :=
  .ite (decide ((l.length : Int) > 60)) (.ret (.v .bool up)) (.ite (okR n) (.chk (okR n) (.chk (c n l 0 (newF i64 .str n).2) (.ret (.v .bool up))))
    (.chk (!okR n) (.ite up (.ite (decide (n < 1)) (.ret (.v .bool true)) (.ret (.v .bool (decide (n > 1000))))) (.ret (.v .bool false)))))
theorem tB (up : Bool) (pp : PuP i64 .str) (P : Pu i64 .str) (pd : Int → Tb i64 .str → Bool) (D : Dr i64 .str) (pk : List Int → Bool) (c : Int → List tOp.den → Int → Tb i64 .str → Bool) (n : Int) (l : List tOp.den) :
    nrm (fnK Try.prog (ctx (cB up pp P pd D pk)) (LB c) Try.f9 (mkArgs [i64, lOp] (n, l, ())) []) = (TB up c n l).eval := by kernel_rfl

def FK (c : List tOp.den → Int → Tb i64 .str → Tb .str tS → Bool) (xs : HL SK.Ts) (hs : HD SK.Es) : Tr (Ex × St) :=
  .chk (c xs.1 xs.2.2.2.2.1 (hs.1, hs.2.1, hs.2.2.1, ()) (hs.2.2.2.1, hs.2.2.2.2.1, hs.2.2.2.2.2.1, ())) (.ret (.exit 0, encS [5] [.bool] (dd 6) 138 (xs.2.1, ()) ()))
def LK (c : List tOp.den → Int → Tb i64 .str → Tb .str tS → Bool) : Loops := fun j st => if j = 11 then SK.fn (FK c) st else .fail
def TK (up : Bool) (c : List tOp.den → Int → Tb i64 .str → Tb .str tS → Bool) (n : Int) (l : List tOp.den) : Tr AV :=
  .ite (decide ((l.length : Int) > 60)) (.ret (.v .bool up)) (news n (.chk (c l 0 (newF i64 .str n).2 (newF .str tS n).2) (.ret (.v .bool up))) (.ret (.v .bool up)))
theorem tK (up : Bool) (pp : PuP i64 .str) (P : Pu i64 .str) (pd : Int → Tb i64 .str → Bool) (D : Dr i64 .str) (pq : PuP .str tS) (Q : Pu .str tS) (pe : ByteArray → Tb .str tS → Bool) (E : Dr .str tS)
    (c : List tOp.den → Int → Tb i64 .str → Tb .str tS → Bool) (n : Int) (l : List tOp.den) :
    nrm (fnK Try.prog (ctx (cK up pp P pd D pq Q pe E)) (LK c) Try.f10 (mkArgs [i64, lOp] (n, l, ())) []) = (TK up c n l).eval := by kernel_rfl
end Go.Proofs.Ytfimgngiaggplaa.Cache

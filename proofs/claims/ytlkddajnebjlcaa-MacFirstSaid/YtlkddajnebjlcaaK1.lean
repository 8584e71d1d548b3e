/- A code of bytes (layer 2, mac): a key filled up; the code of parts. -/
import Derived.Test.YtlkddajnebjlcaaH5
set_option linter.unusedVariables false
set_option maxRecDepth 100000
namespace Go.Proofs.Ytlkddajnebjlcaa.Mac
open Go Vse Go.Proofs Gen Sha

abbrev d64 : Ty := .arr 64 u8
def z64 : List Int := List.replicate 64 0

/-! a key, filled up -/

def cS (S : List Int → List Int) (p : List Int → Bool) : List (Nat × CSpec) := [(16, .slp1 [bs] (fun x => p x.1) d32 fun x => S x.1)]
theorem cS_sound : CtxSound Try.prog (ctx (cS shaF shaP)) ∧ CtxLocal (ctx (cS shaF shaP)) := ctx_sound ⟨ok16, trivial⟩

noncomputable def bF : Code := loopAt Try.f45 0
def SF : RSpec := ⟨[1, 6, 17], 28, [u8, .ptr 0 [], i64], [.box d64], [.box d64], [], fun _ => ([6], [.ptr 0 []], [.box d64])⟩
def GF (by_ i : Int) (q : List Int) : Tr SF.End :=
  .ite (decide (i < 64)) (.chk (inArrK .i64 i 64) (.chk (inArrK .i64 i 64) (.ret (.inl ((by_, (), w (i + 1), ()), (q.set i.toNat (xorI .u8 (q.getD i.toNat 0) by_), ()))))))
    (.ret (.inr (.exit 0, encS [6] [.ptr 0 []] [.box d64] 28 ((), ()) (q, ()))))
theorem rF (S : List Int → List Int) (p : List Int → Bool) (by_ i : Int) (q : List Int) : (SF.round (bodyK Try.prog (ctx (cS S p)) L0 bF) (by_, (), i, ()) (q, ())).eval = (GF by_ i q).eval := by kernel_rfl
def SF2 : RSpec := ⟨[1, 6, 17], 28, [u8, .ptr 1 [], i64], [.box d32, .box d64], [.box d32, .box d64], [], fun _ => ([6], [.ptr 1 []], [.box d32, .box d64])⟩
def GF2 (by_ i : Int) (d q : List Int) : Tr SF2.End :=
  .ite (decide (i < 64)) (.chk (inArrK .i64 i 64) (.chk (inArrK .i64 i 64) (.ret (.inl ((by_, (), w (i + 1), ()), (d, q.set i.toNat (xorI .u8 (q.getD i.toNat 0) by_), ()))))))
    (.ret (.inr (.exit 0, encS [6] [.ptr 1 []] [.box d32, .box d64] 28 ((), ()) (d, q, ()))))
theorem rF2 (S : List Int → List Int) (p : List Int → Bool) (by_ i : Int) (d q : List Int) : (SF2.round (bodyK Try.prog (ctx (cS S p)) L0 bF) (by_, (), i, ()) (d, q, ())).eval = (GF2 by_ i d q).eval := by kernel_rfl

def FF (c : Int → List Int → Bool) (X : Int → List Int → List Int) (xs : HL SF.Ts) (hs : HD SF.Es) : Tr (Ex × St) :=
  .chk (c xs.2.2.1 hs.1) (.ret (.exit 0, encS [6] [.ptr 0 []] [.box d64] 28 ((), ()) (X xs.1 hs.1, ())))
def FF2 (c : Int → List Int → Bool) (X : Int → List Int → List Int) (xs : HL SF2.Ts) (hs : HD SF2.Es) : Tr (Ex × St) :=
  .chk (c xs.2.2.1 hs.2.1) (.ret (.exit 0, encS [6] [.ptr 1 []] [.box d32, .box d64] 28 ((), ()) (hs.1, X xs.1 hs.2.1, ())))
def LF (c : Int → List Int → Bool) (X : Int → List Int → List Int) : Loops := fun j st => if j = 7 then orL (fun st => heapIs SF.E0 st.heap) (SF.fn (FF c X)) (SF2.fn (FF2 c X)) st else .fail
/-- a part of an array that is all of it -/
abbrev all (n : Nat) (l : List Int) : List Int := (l.drop 0).take n
abbrev nF : PSpec := ⟨[bs, u8], [bt], [], [], []⟩
def TF (S : List Int → List Int) (p : List Int → Bool) (c : Int → List Int → Bool) (X : Int → List Int → List Int) (key : List Int) (by_ : Int) : Tr nF.Out :=
  let go (k : List Int) : Tr nF.Out := .chk (c 0 (overL z64 k ++ [])) (.ret ((all 64 (X by_ (overL z64 k ++ [])), ()), ()))
  .ite (decide ((key.length : Int) > 64)) (.chk (p key) (go (all 32 (S key)))) (go key)
theorem tF (S : List Int → List Int) (p : List Int → Bool) (c : Int → List Int → Bool) (X : Int → List Int → List Int) (key : List Int) (by_ : Int) :
    (fnP Try.prog (ctx (cS S p)) (LF c X) nF Try.f45 (key, by_, ()) ()).eval = (TF S p c X key by_).eval := by kernel_rfl

/-! the code of parts -/

def cM (i : Hs) (W : Wr) (p : List Int → Hs → Bool) (q : Hs → Bool) (D : Hs → List Int) (F : List Int → Int → List Int) (pf : List Int → Bool) : List (Nat × CSpec) :=
  [(19, .pos nH (fun _ _ => true) fun _ _ => (((), ()), (i, ()))), (20, .pos (wS [bs] []) (fun xs d => p xs.2.1 d.1) fun xs d => ((), (W xs.2.1 d.1, ()))), (21, .pos (wS [] [d32]) (fun _ d => q d.1) fun _ d => ((D d.1, ()), d)),
   (45, .pos nF (fun xs _ => pf xs.1) fun xs _ => ((F xs.1 xs.2.1, ()), ()))]
noncomputable def bM : Code := loopAt Try.f29 0
abbrev eM : List ETy := [.box d32, .box hT, .box hT]
def SM : RSpec := ⟨[0, 4, 5, 6, 16, 17, 18], 37, [bs, .ptr 0 [], .ptr 1 [], .ptr 2 [], ls, i64, i64], eM, eM, [], fun _ => ([0, 4, 5, 6], [bs, .ptr 0 [], .ptr 1 [], .ptr 2 []], eM)⟩
def GM (W : Wr) (p : List Int → Hs → Bool) (key : List Int) (l : List (List Int)) (n i : Int) (o : List Int) (h h' : Hs) : Tr SM.End :=
  .ite (decide (i < n)) (.chk (inArr i l.length) (.chk (p (l.getD i.toNat []) h) (.ret (.inl ((key, (), (), (), l, n, w (i + 1), ()), (o, W (l.getD i.toNat []) h, h', ()))))))
    (.ret (.inr (.exit 0, encS [0, 4, 5, 6] [bs, .ptr 0 [], .ptr 1 [], .ptr 2 []] eM 37 (key, (), (), (), ()) (o, h, h', ()))))
theorem rM (i0 : Hs) (W : Wr) (p : List Int → Hs → Bool) (q : Hs → Bool) (D : Hs → List Int) (F : List Int → Int → List Int) (pf : List Int → Bool) (key : List Int) (l : List (List Int)) (n i : Int) (o : List Int) (h h' : Hs) :
    (SM.round (bodyK Try.prog (ctx (cM i0 W p q D F pf)) L0 bM) (key, (), (), (), l, n, i, ()) (o, h, h', ())).eval = (GM W p key l n i o h h').eval := by kernel_rfl

def FM (c : List (List Int) → Int → Int → Hs → Bool) (Z : List (List Int) → Hs → Hs) (xs : HL SM.Ts) (hs : HD SM.Es) : Tr (Ex × St) :=
  .chk (c xs.2.2.2.2.1 xs.2.2.2.2.2.1 xs.2.2.2.2.2.2.1 hs.2.1) (.ret (.exit 0, encS [0, 4, 5, 6] [bs, .ptr 0 [], .ptr 1 [], .ptr 2 []] eM 37 (xs.1, (), (), (), ()) (hs.1, Z xs.2.2.2.2.1 hs.2.1, hs.2.2.1, ())))
def LM (c : List (List Int) → Int → Int → Hs → Bool) (Z : List (List Int) → Hs → Hs) : Loops := fun j st => if j = 4 then SM.fn (FM c Z) st else .fail
def TM (i : Hs) (W : Wr) (p : List Int → Hs → Bool) (q : Hs → Bool) (D : Hs → List Int) (F : List Int → Int → List Int) (pf : List Int → Bool) (c : List (List Int) → Int → Int → Hs → Bool) (Z : List (List Int) → Hs → Hs) (key : List Int) (l : List (List Int)) : Tr AV :=
  let h1 := Z l (W (F key 54) i)
  let h2 := W (F key 92) i
  .chk (pf key) (.chk (p (F key 54) i) (.chk (c l (l.length : Int) 0 (W (F key 54) i)) (.chk (q h1) (.chk (pf key) (.chk (p (F key 92) i) (.chk (p (all 32 (D h1)) h2) (.chk (q (W (all 32 (D h1)) h2)) (.ret (.v d32 (D (W (all 32 (D h1)) h2)))))))))))
theorem tM (i : Hs) (W : Wr) (p : List Int → Hs → Bool) (q : Hs → Bool) (D : Hs → List Int) (F : List Int → Int → List Int) (pf : List Int → Bool) (c : List (List Int) → Int → Int → Hs → Bool) (Z : List (List Int) → Hs → Hs) (key : List Int) (l : List (List Int)) :
    nrm (fnS Try.prog (ctx (cM i W p q D F pf)) (LM c Z) [d32] Try.f29 (mkArgs [bs, ls] (key, l, ()))) = (TM i W p q D F pf c Z key l).eval := by kernel_rfl

end Go.Proofs.Ytlkddajnebjlcaa.Mac

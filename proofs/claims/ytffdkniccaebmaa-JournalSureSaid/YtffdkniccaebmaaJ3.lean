/- Records that are kept (layer 14, journal): a record as bytes; records copied; one more: walks. -/
import Derived.Test.YtffdkniccaebmaaJ2
import Derived.Test.YtffdkniccaebmaaE50
set_option linter.unusedVariables false
set_option linter.unusedSimpArgs false
set_option maxRecDepth 100000
namespace Go.Proofs.Ytffdkniccaebmaa.Jnl
open Go Vse Go.Proofs Gen
open Sto (stT D R1 R0)

abbrev d32 : Ty := .arr 32 u8
abbrev jT (s l K : Nat) : Ty := .prod (.ptr s []) (.prod (.vc l K) (.prod .bool .unit))
abbrev jE (k : Nat) : List ETy := [.box (jT 1 2 k), .box (stT 3 k), .vec k bt, .vec k u8]
abbrev JD := (Unit × Unit × Bool × Unit) × (Unit × Int × Int × Int × Bool × Unit) × List (List Int) × List Int × Unit
abbrev nJ (As Rs : List Ty) (k : Nat) : PSpec := ⟨.ptr 0 [] :: As, Rs, jE 0, jE k, []⟩

/-! laid -/

abbrev nLd : PSpec := ⟨[bs], [bt], [], [], []⟩
def kLd : List Cut := [⟨1, [.vec 0 u8], [], [0, 3], [bs, bt], [.dead], 23⟩, ⟨0, [.dead, .dead, .box d32], [], [0, 3, 4], [bs, bt, .ip true d32], [.dead, .dead, .dead], 23⟩]
def cLd (pc : List (List Int) → Bool) (f : List (List Int) → List Int) (ps : List Int → Bool) (S : List Int → List Int) : List (Nat × CSpec) :=
  [(112, .slp1 [lb] (fun x => pc x.1) bt fun x => f x.1), (111, .slp1 [bs] (fun x => ps x.1) d32 fun x => S x.1)]
def hd14 (b : List Int) : List Int := [wb (shrI .i64 (b.length : Int) 8), wb (b.length : Int)]
noncomputable abbrev bLd : Code := bodyOf Try.f88

def TLd (pc : List (List Int) → Bool) (f : List (List Int) → List Int) (ps : List Int → Bool) (S : List Int → List Int) (b : List Int) : Tr nLd.Out :=
  let c := f [hd14 b, b]
  .chk (pc [hd14 b, b]) (.chk (ps c) (.chk (pc [hd14 b, ((S c).take 8).drop 0, b]) (.ret ((f [hd14 b, ((S c).take 8).drop 0, b], ()), ()))))
theorem tLd (pc : List (List Int) → Bool) (f : List (List Int) → List Int) (ps : List Int → Bool) (S : List Int → List Int) (b : List Int) :
    (stC Try.prog (ctx (cLd pc f ps S)) L0 nLd Try.f88 kLd bLd (begin_ Try.f88 (mkArgs [bs] (b, ())) [])).eval = (TLd pc f ps S b).eval := by kernel_rfl

/-! copied, Records -/

abbrev nCp : PSpec := ⟨[Gen.ls], [.vc 0 0], [], [.vec 0 bt], []⟩
noncomputable def bCp : Code := loopAt Try.f91 0
def SCp : RSpec := ⟨[3, 6, 7, 8], 19, [.vc 0 0, Gen.ls, i64, i64], [.vec 0 bt], [], [.slot 3 bt], fun _ => ([3], [.vc 0 0], [.vec 0 bt])⟩
def cCp (pk : List Int → Bool) : List (Nat × CSpec) := [(86, .slp1 [bs] (fun x => pk x.1) bt fun x => x.1)]
def GCp (pk : List Int → Bool) (o l : List (List Int)) (n i : Int) : Tr SCp.End :=
  .ite (decide (i < n)) (.chk (inArr i l.length) (.chk (pk (l.getD i.toNat [])) (.chk (Vse.room (o.length + 1) 24) (.ret (.inl (((), l, n, w (i + 1), ()), (o ++ [l.getD i.toNat []], ())))))))
    (.ret (.inr (.exit 0, encS [3] [.vc 0 0] [.vec 0 bt] 19 ((), ()) (o, ()))))
theorem rCp (pk : List Int → Bool) (o l : List (List Int)) (n i : Int) : (SCp.round (bodyK Try.prog (ctx (cCp pk)) L0 bCp) ((), l, n, i, ()) (o, ())).eval = (GCp pk o l n i).eval := by kernel_rfl
abbrev Ccp := List (List Int) → List (List Int) → Int → Int → Bool
def FCp (c : Ccp) (xs : HL SCp.Ts) (hs : HD SCp.Es) : Tr (Ex × St) := .chk (c hs.1 xs.2.1 xs.2.2.1 xs.2.2.2.1) (.ret (.exit 0, encS [3] [.vc 0 0] [.vec 0 bt] 19 ((), ()) (xs.2.1, ())))
def LCp (c : Ccp) : Loops := fun j st => if j = 3 then SCp.fn (FCp c) st else .fail
theorem tCp (pk : List Int → Bool) (c : Ccp) (l : List (List Int)) : (fnP Try.prog (ctx (cCp pk)) (LCp c) nCp Try.f91 (l, ()) ()).eval = (.chk (c [] l (l.length : Int) 0) (.ret (((), ()), (l, ()))) : Tr nCp.Out).eval := by kernel_rfl
def sCp (p : List (List Int) → Bool) : CSpec := .pos nCp (fun xs _ => p xs.1) fun xs _ => (((), ()), (xs.1, ()))
abbrev nRc : PSpec := ⟨[.ptr 0 []], [.vc 4 0], jE 0, jE 0 ++ [.vec 0 bt], []⟩
theorem tRc (p : List (List Int) → Bool) (h : JD) : (fnP Try.prog (ctx [(91, sCp p)]) L0 nRc Try.f48 ((), ()) h).eval = (.chk (p h.2.2.1) (.ret (((), ()), (h.1, h.2.1, h.2.2.1, h.2.2.2.1, h.2.2.1, ()))) : Tr nRc.Out).eval := by kernel_rfl

/-! did -/

def TDi (e : Int) (h : JD) : Tr (nJ [i64] [i64] 0).Out := .ite (!decide (e = 0)) (.ret ((e, ()), (((), (), e != 7, ()), h.2))) (.ret ((e, ()), (((), (), false, ()), h.2)))
theorem tDi (e : Int) (h : JD) : (fnP Try.prog (ctx []) L0 (nJ [i64] [i64] 0) Try.f90 ((), e, ()) h).eval = (TDi e h).eval := by kernel_rfl
def broke (e : Int) : Bool := e != 0 && e != 7
def sDi : CSpec := .pos (nJ [i64] [i64] 0) (fun _ _ => true) fun xs h => ((xs.2.1, ()), (((), (), broke xs.2.1, ()), h.2))

/-! Add -/

def sLd (p : List Int → Bool) (f : List Int → List Int) : CSpec := .pos nLd (fun xs _ => p xs.1) fun xs _ => ((f xs.1, ()), ())
def cAd (pl : List Int → Bool) (ld : List Int → List Int) (pa : List Int → D → Bool) (ap : List Int → D → R1) (sy : D → R1) (pk : List Int → Bool) : List (Nat × CSpec) :=
  [(88, sLd pl ld), (92, .pos (Sto.sS [bs] [i64]) (fun xs d => pa xs.2.1 d) fun xs d => ap xs.2.1 d), (93, .pos (Sto.sS [] [i64]) (fun _ _ => true) fun _ d => sy d), (90, sDi),
   (86, .slp1 [bs] (fun x => pk x.1) bt fun x => x.1)]
end Go.Proofs.Ytffdkniccaebmaa.Jnl

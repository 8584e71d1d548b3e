/- A table (layer 11, cache): its own functions: walks. -/
import Derived.Test.YtfimgngiaggplaaX1
import Derived.Test.YtfimgngiaggplaaG1
set_option linter.unusedVariables false
set_option maxRecDepth 100000
namespace Go.Proofs.Ytfimgngiaggplaa.Cache
open Go Vse Go.Proofs Gen

abbrev i64 : Ty := .int .i64
abbrev tS : Ty := .prod i64 (.prod i64 .unit)
abbrev MP (K V : Ty) := List (K.den × V.den)

/-! slices -/

/-- where a value is -/
def idxF (K : Ty) (l : List K.den) (x : K.den) : Int := if (l.any fun y => eqT K x y) = true then (l.findIdx fun y => eqT K x y : Nat) else -1
def SIx (K : Ty) : RSpec := ⟨[0, 1, 7, 8], 19, [.imm false false K, K, i64, i64], [], [], [], fun x => match x with | .ret => ([4], [i64], []) | _ => ([], [], [])⟩
def GIx (K : Ty) (l : List K.den) (x : K.den) (n i : Int) : Tr (SIx K).End :=
  .ite (decide (i < n)) (.chk (inArr i l.length) (.ite (eqT K x (l.getD i.toNat (dflt K))) (.ret (.inr (.ret, encS [4] [i64] [] 19 (i, ()) ()))) (.ret (.inl ((l, x, n, w (i + 1), ()), ()))))) (.ret (.inr (.exit 0, encS [] [] [] 19 () ())))
def FIx (K : Ty) (c : List K.den → Int → Int → Bool) (X : List K.den → K.den → Bool) (Y : List K.den → K.den → Int) (xs : HL (SIx K).Ts) (hs : HD (SIx K).Es) : Tr (Ex × St) :=
  .chk (c xs.1 xs.2.2.1 xs.2.2.2.1) (.ite (X xs.1 xs.2.1) (.ret (.ret, encS [4] [i64] [] 19 (Y xs.1 xs.2.1, ()) ())) (.ret (.exit 0, encS [] [] [] 19 () ())))
def LIx (K : Ty) (c : List K.den → Int → Int → Bool) (X : List K.den → K.den → Bool) (Y : List K.den → K.den → Int) : Loops := fun j st => if j = 2 then (SIx K).fn (FIx K c X Y) st else .fail
noncomputable def bIi : Code := loopAt Try.f71 0
noncomputable def bIs : Code := loopAt Try.f74 0
theorem rIi (l : List Int) (x n i : Int) : ((SIx i64).round (bodyK Try.prog (ctx []) L0 bIi) (l, x, n, i, ()) ()).eval = (GIx i64 l x n i).eval := by kernel_rfl
theorem rIs (l : List ByteArray) (x : ByteArray) (n i : Int) : ((SIx .str).round (bodyK Try.prog (ctx []) L0 bIs) (l, x, n, i, ()) ()).eval = (GIx .str l x n i).eval := by kernel_rfl
def TIx (K : Ty) (c : List K.den → Int → Int → Bool) (X : List K.den → K.den → Bool) (Y : List K.den → K.den → Int) (l : List K.den) (x : K.den) : Tr AV :=
  .chk (c l (l.length : Int) 0) (.ite (X l x) (.ret (.v i64 (Y l x))) (.ret (.v i64 (-1 : Int))))
theorem tIi (c : List Int → Int → Int → Bool) (X : List Int → Int → Bool) (Y : List Int → Int → Int) (l : List Int) (x : Int) :
    nrm (fnS Try.prog (ctx []) (LIx i64 c X Y) [i64] Try.f71 (mkArgs [.imm false false i64, i64] (l, x, ()))) = (TIx i64 c X Y l x).eval := by kernel_rfl
theorem tIs (c : List ByteArray → Int → Int → Bool) (X : List ByteArray → ByteArray → Bool) (Y : List ByteArray → ByteArray → Int) (l : List ByteArray) (x : ByteArray) :
    nrm (fnS Try.prog (ctx []) (LIx .str c X Y) [i64] Try.f74 (mkArgs [.imm false false .str, .str] (l, x, ()))) = (TIx .str c X Y l x).eval := by kernel_rfl
theorem tCl (l : List Int) : nrm (fnS Try.prog (ctx []) L0 [.imm true false i64] Try.f73 (mkArgs [.imm false true i64] (l, ()))) = (.chk (Vse.room (([] : List Int).length + l.length) 8) (.ret (.v (.imm true false i64) l)) : Tr AV).eval := by kernel_rfl

/-! tables -/

abbrev tT (K V : Ty) (k : Nat) : Ty := .prod i64 (.prod (.vc 1 k) (.prod (.mp 2) .unit))
abbrev tE (K V : Ty) (k : Nat) : List ETy := [.box (tT K V k), .vec k K, .map K V]
abbrev nNa (K V : Ty) : PSpec := ⟨[i64], [.ptr 0 [], i64], [], tE K V 0, [(1, 1, K)]⟩
abbrev nNb (K V : Ty) : PSpec := ⟨[i64], [.nilp, i64], [], [], []⟩
def newF (K V : Ty) (n : Int) : (nNa K V).Out := (((), 0, ()), ((n, (), (), ()), [], [], ()))
def TNa (K V : Ty) (n : Int) : Tr (nNa K V).Out := .ite (decide (n < 1)) .fail (.ite (decide (n > 1000)) .fail (.ret (newF K V n)))
def TNb (K V : Ty) (n : Int) : Tr (nNb K V).Out := .ite (decide (n < 1)) (.ret (((), (1 : Int), ()), ())) (.ite (decide (n > 1000)) (.ret (((), (1 : Int), ()), ())) .fail)
theorem tNai (n : Int) : (fnP Try.prog (ctx []) L0 (nNa i64 .str) Try.f37 (n, ()) ()).eval = (TNa i64 .str n).eval := by kernel_rfl
theorem tNbi (n : Int) : (fnP Try.prog (ctx []) L0 (nNb i64 .str) Try.f37 (n, ()) ()).eval = (TNb i64 .str n).eval := by kernel_rfl
theorem tNas (n : Int) : (fnP Try.prog (ctx []) L0 (nNa .str tS) Try.f48 (n, ()) ()).eval = (TNa .str tS n).eval := by kernel_rfl
theorem tNbs (n : Int) : (fnP Try.prog (ctx []) L0 (nNb .str tS) Try.f48 (n, ()) ()).eval = (TNb .str tS n).eval := by kernel_rfl

end Go.Proofs.Ytfimgngiaggplaa.Cache

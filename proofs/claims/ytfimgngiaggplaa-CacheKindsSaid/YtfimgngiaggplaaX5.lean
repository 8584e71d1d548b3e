/- A table (layer 11, cache): the laws: walks. -/
import Derived.Test.YtfimgngiaggplaaX4
set_option linter.unusedVariables false
set_option maxRecDepth 100000
namespace Go.Proofs.Ytfimgngiaggplaa.Cache
open Go Vse Go.Proofs Gen

abbrev tOp : Ty := .prod i64 (.prod i64 (.prod .str .unit))
abbrev lOp : Ty := .imm true false tOp
def okR (n : Int) : Bool := decide (1 ≤ n) && decide (n ≤ 1000)
def sN (K V : Ty) : CSpec := .two (posSel (nNa K V) fun xs _ => okR xs.1) (.pos (nNa K V) (fun xs _ => okR xs.1) fun xs _ => newF K V xs.1) (.pos (nNb K V) (fun xs _ => !okR xs.1) fun xs _ => (((), (1 : Int), ()), ()))
def rnewF (n : Int) : nRN.Out := (((), (0 : Int), ()), ((n, (), (), ()), [], [], ()))
def sRN : CSpec := .two (posSel nRN fun xs _ => okR xs.1) (.pos nRN (fun xs _ => okR xs.1) fun xs _ => rnewF xs.1) (.pos nRM (fun xs _ => !okR xs.1) fun xs _ => (((), (1 : Int), ()), ()))
abbrev Pu (K V : Ty) := K.den → V.den → Tb K V → (nPu K V).Out
abbrev PuP (K V : Ty) := K.den → V.den → Tb K V → Bool
def sPu (K V : Ty) (p : PuP K V) (P : Pu K V) : CSpec := .pos (nPu K V) (fun xs hs => p xs.2.1 xs.2.2.1 hs) fun xs hs => P xs.2.1 xs.2.2.1 hs
def sGe (K V : Ty) : CSpec := .pos (nGe K V) (fun _ _ => true) fun xs hs => (((mapLook (K := K) (V := V) hs.2.2.1 xs.2.1).getD (dflt V), (mapLook (K := K) (V := V) hs.2.2.1 xs.2.1).isSome, ()), hs)
def sLe (K V : Ty) : CSpec := .pos (nLe K V) (fun _ _ => true) fun xs hs => (((List.length (α := K.den) hs.2.1 : Int), ()), hs)
def sKe (K V : Ty) (p : List K.den → Bool) : CSpec := .pos (nKe K V) (fun _ hs => p hs.2.1) fun xs hs => ((hs.2.1, ()), hs)
def sRP (p : Int → ByteArray → Rt → Bool) (P : Int → ByteArray → Rt → nRP.Out) : CSpec := .pos nRP (fun xs hs => p xs.2.1 xs.2.2.1 hs) fun xs hs => P xs.2.1 xs.2.2.1 hs
def sRD (p : Int → Rt → Bool) (P : Int → Rt → nRD.Out) : CSpec := .pos nRD (fun xs hs => p xs.2.1 hs) fun xs hs => P xs.2.1 hs
def sIn (p : List Int → List Int → Bool) (f : List Int → List Int → Bool) : CSpec := .slp1 [li, li] (fun x => p x.1 x.2.1) .bool fun x => f x.1 x.2.1

/-! awake -/

def cA (pp : PuP i64 .str) (P : Pu i64 .str) (pd : Int → Tb i64 .str → Bool) (D : Dr i64 .str) (pk : List Int → Bool) : List (Nat × CSpec) :=
  [(37, sN i64 .str), (39, sPu i64 .str pp P), (41, sDr i64 .str pd D), (43, sGe i64 .str), (47, sLe i64 .str),
   (46, sKe i64 .str pk)]

/-! CacheDoes -/

def cV (up : Bool) (pp : PuP i64 .str) (P : Pu i64 .str) (pd : Int → Tb i64 .str → Bool) (D : Dr i64 .str) (pk : List Int → Bool) (pq : Int → ByteArray → Rt → Bool) (Q : Int → ByteArray → Rt → nRP.Out) (pe : Int → Rt → Bool) (E : Int → Rt → nRD.Out)
    (pa : List Int → Bool) (fa : List Int → Int → Int) (pi : List Int → List Int → Bool) (fi : List Int → List Int → Bool) : List (Nat × CSpec) :=
  (36, .slp1 [] (fun _ => true) .bool fun _ => up) :: cA pp P pd D pk ++ [(38, sRN), (40, sRP pq Q), (42, sRD pe E), (44, sAt pa fa), (45, sIn pi fi)]
end Go.Proofs.Ytfimgngiaggplaa.Cache

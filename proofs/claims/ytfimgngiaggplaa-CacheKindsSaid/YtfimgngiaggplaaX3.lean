/- A table (layer 11, cache): Put, Drop, Get: walks. -/
import Derived.Test.YtfimgngiaggplaaX2
set_option linter.unusedVariables false
set_option maxRecDepth 100000
namespace Go.Proofs.Ytfimgngiaggplaa.Cache
open Go Vse Go.Proofs Gen

abbrev nDr (K V : Ty) : PSpec := ⟨[.ptr 0 [], K], [.bool], tE K V 0, tE K V 1, []⟩
abbrev nPu (K V : Ty) : PSpec := ⟨[.ptr 0 [], K, V], [K, .bool], tE K V 0, tE K V 1, []⟩
abbrev nGe (K V : Ty) : PSpec := ⟨[.ptr 0 [], K], [V, .bool], tE K V 0, tE K V 0, []⟩
abbrev nLe (K V : Ty) : PSpec := ⟨[.ptr 0 []], [i64], tE K V 0, tE K V 0, []⟩
abbrev nKe (K V : Ty) : PSpec := ⟨[.ptr 0 []], [.imm true false K], tE K V 0, tE K V 0, []⟩
abbrev Tb (K V : Ty) := HD (tE K V 0)
def sIx (K : Ty) (p : List K.den → K.den → Bool) (f : List K.den → K.den → Int) : CSpec := .slp1 [.imm false false K, K] (fun x => p x.1 x.2.1) i64 fun x => f x.1 x.2.1
def cDi (p : List Int → Int → Bool) (f : List Int → Int → Int) : List (Nat × CSpec) := [(71, sIx i64 p f), (72, .del i64)]
def cDs (p : List ByteArray → ByteArray → Bool) (f : List ByteArray → ByteArray → Int) : List (Nat × CSpec) := [(74, sIx .str p f), (75, .del .str)]
def TDr (K V : Ty) (p : List K.den → K.den → Bool) (f : List K.den → K.den → Int) (n : Int) (l : List K.den) (m : MP K V) (x : K.den) : Tr (nDr K V).Out :=
  .ite (mapLook m x).isSome (.chk (p l x) (.chk (decide (0 ≤ f l x ∧ f l x < w (f l x + 1) ∧ w (f l x + 1) ≤ l.length))
    (.ret (((mapLook m x).isSome, ()), ((n, (), (), ()), cutL l (f l x).toNat (w (f l x + 1)).toNat, mapDel m x, ())))))
  (.ret (((mapLook m x).isSome, ()), ((n, (), (), ()), l, m, ())))
theorem tDri (p : List Int → Int → Bool) (f : List Int → Int → Int) (n : Int) (l : List Int) (m : MP i64 .str) (x : Int) :
    (fnP Try.prog (ctx (cDi p f)) L0 (nDr i64 .str) Try.f41 ((), x, ()) ((n, (), (), ()), l, m, ())).eval = (TDr i64 .str p f n l m x).eval := by kernel_rfl
theorem tDrs (p : List ByteArray → ByteArray → Bool) (f : List ByteArray → ByteArray → Int) (n : Int) (l : List ByteArray) (m : MP .str tS) (x : ByteArray) :
    (fnP Try.prog (ctx (cDs p f)) L0 (nDr .str tS) Try.f49 ((), x, ()) ((n, (), (), ()), l, m, ())).eval = (TDr .str tS p f n l m x).eval := by kernel_rfl

abbrev Dr (K V : Ty) := K.den → Tb K V → (nDr K V).Out
def sDr (K V : Ty) (pd : K.den → Tb K V → Bool) (D : Dr K V) : CSpec := .pos (nDr K V) (fun xs hs => pd xs.2.1 hs) fun xs hs => D xs.2.1 hs
def cPi (pd : Int → Tb i64 .str → Bool) (D : Dr i64 .str) : List (Nat × CSpec) := [(41, sDr i64 .str pd D)]
def cPs (pd : ByteArray → Tb .str tS → Bool) (D : Dr .str tS) : List (Nat × CSpec) := [(49, sDr .str tS pd D)]
def TPu (K V : Ty) (by_ : Nat) (pd : K.den → Tb K V → Bool) (D : Dr K V) (n : Int) (l : List K.den) (m : MP K V) (x : K.den) (v : V.den) : Tr (nPu K V).Out :=
  let ap (d : HD (tE K V 1)) (g : K.den) (f : Bool) : Tr (nPu K V).Out :=
    .ite (!(mapLook m x).isSome) (.chk (Vse.room (List.length (α := K.den) d.2.1 + [x].length) by_) (.ret ((g, f, ()), (d.1, List.append (α := K.den) d.2.1 [x], mapPut (K := K) (V := V) d.2.2.1 x v, ()))))
      (.ret ((g, f, ()), (d.1, d.2.1, mapPut (K := K) (V := V) d.2.2.1 x v, ())))
  .ite (!(mapLook m x).isSome)
    (.ite ((l.length : Int) == n) (.chk (inArr 0 l.length) (.chk (pd (l.getD 0 (dflt K)) ((n, (), (), ()), l, m, ())) (ap (D (l.getD 0 (dflt K)) ((n, (), (), ()), l, m, ())).2 (l.getD 0 (dflt K)) ((l.length : Int) == n))))
      (ap ((n, (), (), ()), l, m, ()) (dflt K) ((l.length : Int) == n)))
    (ap ((n, (), (), ()), l, m, ()) (dflt K) false)
theorem tPui (pd : Int → Tb i64 .str → Bool) (D : Dr i64 .str) (n : Int) (l : List Int) (m : MP i64 .str) (x : Int) (v : ByteArray) :
    (fnP Try.prog (ctx (cPi pd D)) L0 (nPu i64 .str) Try.f39 ((), x, v, ()) ((n, (), (), ()), l, m, ())).eval = (TPu i64 .str 8 pd D n l m x v).eval := by kernel_rfl
theorem tPus (pd : ByteArray → Tb .str tS → Bool) (D : Dr .str tS) (n : Int) (l : List ByteArray) (m : MP .str tS) (x : ByteArray) (v : tS.den) :
    (fnP Try.prog (ctx (cPs pd D)) L0 (nPu .str tS) Try.f50 ((), x, v, ()) ((n, (), (), ()), l, m, ())).eval = (TPu .str tS 16 pd D n l m x v).eval := by kernel_rfl
theorem tGei (n : Int) (l : List Int) (m : MP i64 .str) (x : Int) :
    (fnP Try.prog (ctx []) L0 (nGe i64 .str) Try.f43 ((), x, ()) ((n, (), (), ()), l, m, ())).eval = (.ret (((mapLook m x).getD ByteArray.empty, (mapLook m x).isSome, ()), ((n, (), (), ()), l, m, ())) : Tr (nGe i64 .str).Out).eval := by kernel_rfl
theorem tGes (n : Int) (l : List ByteArray) (m : MP .str tS) (x : ByteArray) :
    (fnP Try.prog (ctx []) L0 (nGe .str tS) Try.f51 ((), x, ()) ((n, (), (), ()), l, m, ())).eval = (.ret (((mapLook m x).getD ((0 : Int), (0 : Int), ()), (mapLook m x).isSome, ()), ((n, (), (), ()), l, m, ())) : Tr (nGe .str tS).Out).eval := by kernel_rfl
theorem tLei (n : Int) (l : List Int) (m : MP i64 .str) :
    (fnP Try.prog (ctx []) L0 (nLe i64 .str) Try.f47 ((), ()) ((n, (), (), ()), l, m, ())).eval = (.ret (((l.length : Int), ()), ((n, (), (), ()), l, m, ())) : Tr (nLe i64 .str).Out).eval := by kernel_rfl
theorem tLes (n : Int) (l : List ByteArray) (m : MP .str tS) :
    (fnP Try.prog (ctx []) L0 (nLe .str tS) Try.f52 ((), ()) ((n, (), (), ()), l, m, ())).eval = (.ret (((l.length : Int), ()), ((n, (), (), ()), l, m, ())) : Tr (nLe .str tS).Out).eval := by kernel_rfl
def cKi (p : List Int → Bool) : List (Nat × CSpec) := [(73, .slp1 [.imm false false i64] (fun x => p x.1) (.imm true false i64) fun x => x.1)]
theorem tKei (p : List Int → Bool) (n : Int) (l : List Int) (m : MP i64 .str) :
    (fnP Try.prog (ctx (cKi p)) L0 (nKe i64 .str) Try.f46 ((), ()) ((n, (), (), ()), l, m, ())).eval = (.chk (p l) (.ret ((l, ()), ((n, (), (), ()), l, m, ()))) : Tr (nKe i64 .str).Out).eval := by kernel_rfl
end Go.Proofs.Ytfimgngiaggplaa.Cache

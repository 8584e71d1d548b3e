/- A table (layer 11, cache): the laws: walks. -/
import Derived.Test.YtfimgngiaggplaaX8
set_option linter.unusedVariables false
set_option maxRecDepth 100000
namespace Go.Proofs.Ytfimgngiaggplaa.Cache
open Go Vse Go.Proofs Gen

abbrev dE (k : Nat) : List ETy := [.box (tT i64 .str k), .vec k i64, .map i64 .str, .box (.prod i64 (.prod (.vc 4 k) (.prod (.vc 5 k) .unit))), .vec k i64, .vec k .str]
abbrev dd (n : Nat) : List ETy := List.replicate n .dead
def SD : RSpec := ⟨[1, 5, 6, 8, 10], 156, [lOp, .bool, .ptr 0 [], .ptr 3 [], i64], dE 1, dE 0, [], fun x => match x with | .ret => ([], [], []) | _ => ([5], [.bool], dd 6)⟩
noncomputable def bD : Code := loopAt Try.f8 0
def finD (up : Bool) (pk : List Int → Bool) (pa : List Int → Bool) (fa : List Int → Int → Int) (pi : List Int → List Int → Bool) (fi : List Int → List Int → Bool) (l : List tOp.den) (i x : Int) (t : Tb i64 .str) (r : Rt) : Tr SD.End :=
  let s : ByteArray := (mapLook (K := i64) (V := .str) t.2.2.1 x).getD ByteArray.empty
  let is : Bool := (mapLook (K := i64) (V := .str) t.2.2.1 x).isSome
  let go : Tr SD.End := .ret (.inl ((l, up, (), (), w (i + 1), ()), (t.1, t.2.1, t.2.2.1, r.1, r.2.1, r.2.2.1, ())))
  let lo : Tr SD.End := .ite (!is) (.ite (s != ByteArray.empty) .fail go) go
  .chk (pa r.2.1) (.chk (pk t.2.1) (.chk (pi t.2.1 r.2.1) (.ite (!(is == decide (fa r.2.1 x ≥ 0))) .fail (.ite (!(fi t.2.1 r.2.1)) .fail (.ite ((List.length (α := Int) t.2.1 : Int) != (List.length (α := Int) r.2.1 : Int)) .fail
    (.ite is (.chk (inArr (fa r.2.1 x) (List.length (α := ByteArray) r.2.2.1)) (.ite (s != List.getD (α := ByteArray) r.2.2.1 (fa r.2.1 x).toNat ByteArray.empty) .fail lo)) lo))))))
def GD (up : Bool) (pp : PuP i64 .str) (P : Pu i64 .str) (pd : Int → Tb i64 .str → Bool) (D : Dr i64 .str) (pk : List Int → Bool) (pq : Int → ByteArray → Rt → Bool) (Q : Int → ByteArray → Rt → nRP.Out) (pe : Int → Rt → Bool) (E : Int → Rt → nRD.Out) (pa : List Int → Bool) (fa : List Int → Int → Int) (pi : List Int → List Int → Bool) (fi : List Int → List Int → Bool)
    (l : List tOp.den) (i : Int) (t : Tb i64 .str) (r : Rt) : Tr SD.End :=
  let X := l.getD i.toNat (dflt tOp)
  let fin (t : Tb i64 .str) (r : Rt) : Tr SD.End := finD up pk pa fa pi fi l i X.2.1 t r
  .ite (decide (i < (l.length : Int))) (.chk (inArr i l.length)
    (.ite ((X.1 : Int) == (0 : Int)) (.chk (pp X.2.1 X.2.2.1 t) (.chk (pq X.2.1 X.2.2.1 r) (.ite (((P X.2.1 X.2.2.1 t).1.1 : Int) != ((Q X.2.1 X.2.2.1 r).1.1 : Int)) .fail (.ite (!((P X.2.1 X.2.2.1 t).1.2.1 == (Q X.2.1 X.2.2.1 r).1.2.1)) .fail (fin (P X.2.1 X.2.2.1 t).2 (Q X.2.1 X.2.2.1 r).2)))))
    (.ite ((X.1 : Int) == (1 : Int)) (.chk (pd X.2.1 t) (.chk (pe X.2.1 r) (.ite (!((D X.2.1 t).1.1 == (E X.2.1 r).1.1)) .fail (fin (D X.2.1 t).2 (E X.2.1 r).2))))
    (fin t r)))) (.ret (.inr (.exit 0, encS [5] [.bool] (dd 6) 156 (up, ()) ())))
theorem rD (u0 up : Bool) (pp : PuP i64 .str) (P : Pu i64 .str) (pd : Int → Tb i64 .str → Bool) (D : Dr i64 .str) (pk : List Int → Bool) (pq : Int → ByteArray → Rt → Bool) (Q : Int → ByteArray → Rt → nRP.Out) (pe : Int → Rt → Bool) (E : Int → Rt → nRD.Out) (pa : List Int → Bool) (fa : List Int → Int → Int) (pi : List Int → List Int → Bool) (fi : List Int → List Int → Bool)
    (l : List tOp.den) (i : Int) (n : Int) (k : List Int) (m : MP i64 .str) (n' : Int) (k' : List Int) (v : List ByteArray) :
    (SD.round (bodyK Try.prog (ctx (cV u0 pp P pd D pk pq Q pe E pa fa pi fi)) L0 bD) (l, up, (), (), i, ()) ((n, (), (), ()), k, m, (n', (), (), ()), k', v, ())).eval =
      (GD up pp P pd D pk pq Q pe E pa fa pi fi l i ((n, (), (), ()), k, m, ()) ((n', (), (), ()), k', v, ())).eval := by kernel_rfl

/-! CacheBound -/

def cB (up : Bool) (pp : PuP i64 .str) (P : Pu i64 .str) (pd : Int → Tb i64 .str → Bool) (D : Dr i64 .str) (pk : List Int → Bool) : List (Nat × CSpec) := (36, .slp1 [] (fun _ => true) .bool fun _ => up) :: cA pp P pd D pk
abbrev bE (k : Nat) : List ETy := [.box (tT i64 .str k), .vec k i64, .map i64 .str]
noncomputable def bB : Code := loopAt Try.f9 0
def SB : RSpec := ⟨[0, 1, 5, 6, 8], 128, [i64, lOp, .bool, .ptr 0 [], i64], bE 1, bE 0, [], fun x => match x with | .ret => ([], [], []) | _ => ([5], [.bool], dd 3)⟩
def GB (up : Bool) (pp : PuP i64 .str) (P : Pu i64 .str) (pd : Int → Tb i64 .str → Bool) (D : Dr i64 .str) (pk : List Int → Bool) (most : Int) (l : List tOp.den) (i : Int) (t : Tb i64 .str) : Tr SB.End :=
  let X := l.getD i.toNat (dflt tOp)
  let go (d : Tb i64 .str) : Tr SB.End := .ret (.inl ((most, l, up, (), w (i + 1), ()), d))
  let d := (P X.2.1 X.2.2.1 t).2
  let gone := (P X.2.1 X.2.2.1 t).1.2.1
  let lo : Tr SB.End := .ite (!gone) (.chk (pk d.2.1) (.ite (decide ((List.length (α := Int) d.2.1 : Int) < (List.length (α := Int) t.2.1 : Int))) .fail (go d))) (go d)
  .ite (decide (i < (l.length : Int))) (.chk (inArr i l.length) (.chk (pk t.2.1)
    (.ite ((X.1 : Int) == (1 : Int)) (.chk (pd X.2.1 t) (.ite (mapLook (K := i64) (V := .str) (D X.2.1 t).2.2.2.1 X.2.1).isSome .fail (go (D X.2.1 t).2)))
    (.chk (pp X.2.1 X.2.2.1 t) (.ite (!(mapLook (K := i64) (V := .str) d.2.2.1 X.2.1).isSome) .fail (.ite (((mapLook (K := i64) (V := .str) d.2.2.1 X.2.1).getD ByteArray.empty : ByteArray) != (X.2.2.1 : ByteArray)) .fail (.ite (decide ((List.length (α := Int) d.2.1 : Int) > most)) .fail
      (.ite gone (.ite ((List.length (α := Int) t.2.1 : Int) != most) .fail (.chk (inArr 0 (List.length (α := Int) t.2.1)) (.ite (((P X.2.1 X.2.2.1 t).1.1 : Int) != List.getD (α := Int) t.2.1 0 0) .fail lo))) lo))))))))
  (.ret (.inr (.exit 0, encS [5] [.bool] (dd 3) 128 (up, ()) ())))
theorem rB (u0 up : Bool) (pp : PuP i64 .str) (P : Pu i64 .str) (pd : Int → Tb i64 .str → Bool) (D : Dr i64 .str) (pk : List Int → Bool) (most : Int) (l : List tOp.den) (i : Int) (n : Int) (k : List Int) (m : MP i64 .str) :
    (SB.round (bodyK Try.prog (ctx (cB u0 pp P pd D pk)) L0 bB) (most, l, up, (), i, ()) ((n, (), (), ()), k, m, ())).eval = (GB up pp P pd D pk most l i ((n, (), (), ()), k, m, ())).eval := by kernel_rfl

/-! CacheKinds -/

def cK (up : Bool) (pp : PuP i64 .str) (P : Pu i64 .str) (pd : Int → Tb i64 .str → Bool) (D : Dr i64 .str) (pq : PuP .str tS) (Q : Pu .str tS) (pe : ByteArray → Tb .str tS → Bool) (E : Dr .str tS) : List (Nat × CSpec) :=
  [(36, .slp1 [] (fun _ => true) .bool fun _ => up), (37, sN i64 .str), (39, sPu i64 .str pp P), (41, sDr i64 .str pd D), (47, sLe i64 .str),
   (48, sN .str tS), (50, sPu .str tS pq Q), (49, sDr .str tS pe E), (51, sGe .str tS), (52, sLe .str tS)]
abbrev kE (k : Nat) : List ETy := [.box (tT i64 .str k), .vec k i64, .map i64 .str, .box (.prod i64 (.prod (.vc 4 k) (.prod (.mp 5) .unit))), .vec k .str, .map .str tS]
noncomputable def bK : Code := loopAt Try.f10 0
def SK : RSpec := ⟨[1, 5, 6, 8, 10], 138, [lOp, .bool, .ptr 0 [], .ptr 3 [], i64], kE 1, kE 0, [], fun x => match x with | .ret => ([], [], []) | _ => ([5], [.bool], dd 6)⟩
def lowI (x : Int) : Int := wb (x.tmod 16)
def higI (x : Int) : Int := wb ((w (x.tdiv 16)).tmod 16)
def nameK (x : Int) : ByteArray := bytesStr [lowI x, higI x]
def keyK (x : Int) : Int := w (w (lowI x) + w (256 * w (higI x)))
def GK (up : Bool) (pp : PuP i64 .str) (P : Pu i64 .str) (pd : Int → Tb i64 .str → Bool) (D : Dr i64 .str) (pq : PuP .str tS) (Q : Pu .str tS) (pe : ByteArray → Tb .str tS → Bool) (E : Dr .str tS) (l : List tOp.den) (i : Int) (t : Tb i64 .str) (r : Tb .str tS) : Tr SK.End :=
  let X := l.getD i.toNat (dflt tOp)
  let x : Int := X.2.1
  let s : tS.den := (((X.2.2.1 : ByteArray).size : Int), x, ())
  let fin (t : Tb i64 .str) (r : Tb .str tS) : Tr SK.End := .ite ((List.length (α := Int) t.2.1 : Int) != (List.length (α := ByteArray) r.2.1 : Int)) .fail (.ret (.inl ((l, up, (), (), w (i + 1), ()), (t.1, t.2.1, t.2.2.1, r.1, r.2.1, r.2.2.1, ()))))
  .ite (decide (i < (l.length : Int))) (.chk (inArr i l.length)
    (.ite ((X.1 : Int) == (1 : Int)) (.chk (pd (keyK x) t) (.chk (pe (nameK x) r) (.ite (!((D (keyK x) t).1.1 == (E (nameK x) r).1.1)) .fail (fin (D (keyK x) t).2 (E (nameK x) r).2))))
    (.chk (pp (keyK x) X.2.2.1 t) (.chk (pq (nameK x) s r) (.ite (!((P (keyK x) X.2.2.1 t).1.2.1 == (Q (nameK x) s r).1.2.1)) .fail (.ite (!(mapLook (K := .str) (V := tS) (Q (nameK x) s r).2.2.2.1 (nameK x)).isSome) .fail
      (.ite (!(eqT tS ((mapLook (K := .str) (V := tS) (Q (nameK x) s r).2.2.2.1 (nameK x)).getD (dflt tS)) s)) .fail (fin (P (keyK x) X.2.2.1 t).2 (Q (nameK x) s r).2))))))))
  (.ret (.inr (.exit 0, encS [5] [.bool] (dd 6) 138 (up, ()) ())))
theorem rK (u0 up : Bool) (pp : PuP i64 .str) (P : Pu i64 .str) (pd : Int → Tb i64 .str → Bool) (D : Dr i64 .str) (pq : PuP .str tS) (Q : Pu .str tS) (pe : ByteArray → Tb .str tS → Bool) (E : Dr .str tS) (l : List tOp.den) (i : Int) (n : Int) (k : List Int) (m : MP i64 .str) (n' : Int) (k' : List ByteArray) (v : MP .str tS) :
    (SK.round (bodyK Try.prog (ctx (cK u0 pp P pd D pq Q pe E)) L0 bK) (l, up, (), (), i, ()) ((n, (), (), ()), k, m, (n', (), (), ()), k', v, ())).eval =
      (GK up pp P pd D pq Q pe E l i ((n, (), (), ()), k, m, ()) ((n', (), (), ()), k', v, ())).eval := by kernel_rfl
end Go.Proofs.Ytfimgngiaggplaa.Cache

/- How the symbolic machine goes through code. Nothing here is about one program. -/
import Derived.Test.YtodjkocikflmnaaE2
set_option linter.unusedVariables false
namespace Vse
open Go

/-- what a called function does: how many places it takes, which entries it may look into or turn, and what it makes of them -/
structure CSpec where
  new : Nat
  ids : List AV → Heap → List Nat
  wr : List AV → Heap → List Nat
  core : List AV → List Entry → Nat → Tr Out

abbrev Ctx := Nat → Option CSpec

def CSpec.pure (f : List AV → Tr AV) : CSpec := ⟨0, fun _ _ => [], fun _ _ => [], fun vs _ _ => (f vs).bind fun v => .ret (v, [])⟩

def ev (env : List AV) : Operand → AV
  | .tmp t => getV env t
  | .const v => .v (ofVal v).T (ofVal v).x
  | .func f => .v (.fn f .unit) ()
  | .global _ => .und

def evs (env : List AV) : List Operand → List AV
  | [] => []
  | o :: os => ev env o :: evs env os

def ents (H : Heap) : List Nat → List Entry
  | [] => []
  | i :: is => getE H i :: ents H is

def shs (H : Heap) : List Nat → List ESh
  | [] => []
  | i :: is => shp (getE H i) :: shs H is

/-- captured values of a function value -/
def caps : (c : Ty) → c.den → Option (List AV)
  | .unit, _ => some []
  | .prod a b, x => (caps b x.2).bind fun l => some (.v a x.1 :: l)
  | _, _ => none

def callOf (env : List AV) : Op → Option (Nat × List AV)
  | .call { callee := .value f, args, .. } => match ev env f with
    | .v (.fn k c) x => match caps c x with
      | some l => some (k, evs env args.toList ++ l)
      | none => none
    | _ => none
  | _ => none

def isCall : Op → Bool
  | .call { callee := .value _, .. } => true
  | _ => false

def isFree : Heap → Nat → Bool
  | [], _ => false
  | .free :: _, 0 => true
  | _ :: _, 0 => false
  | _ :: h, n + 1 => isFree h n

def freeAt (H : Heap) (fr : Nat) : Nat → Bool
  | 0 => true
  | n + 1 => isFree H fr && freeAt H (fr + 1) n

/-- what one operation gives, its guard being met -/
def outT (P : Program) (C : Ctx) (o : Oper) (fr : Nat) (env : List AV) (H : Heap) : Tr Out :=
  if isCall o.op then
    match callOf env o.op with
    | some (k, vs) => match C k with
      | some c => if freeAt H fr c.new then c.core vs (ents H (c.ids vs H)) fr else .fail
      | none => .fail
    | none => .fail
  else if freeAt H fr (newOf o.op) then
    core P o.op (evs env (opArgs o.op)) (ents H (idsOf o.op (evs env (opArgs o.op)))) (shs H (shsOf o.op (evs env (opArgs o.op)))) fr
  else .fail

def opT (P : Program) (C : Ctx) (o : Oper) (fr : Nat) (st : St) : Tr St :=
  (outT P C o fr st.env st.heap).bind fun r => .ret ⟨putV st.env o.dst r.1, upd st.heap r.2⟩

def dstOf (ops : List Oper) (j : Nat) : Option Nat := (ops[j]?).bind (·.dst)

def stepT (P : Program) (C : Ctx) (ops : List Oper) (o : Oper) (fr : Nat) (st : St) : Tr St :=
  match o.guard with
  | none => opT P C o fr st
  | some (j, want) =>
    match dstOf ops j with
    | some d => match getV st.env d with
      | .v .bool b => .ite b
          (match want with | true => opT P C o fr ⟨setV st.env d (.v .bool true), st.heap⟩ | false => .ret ⟨putV (setV st.env d (.v .bool true)) o.dst AV.none, st.heap⟩)
          (match want with | false => opT P C o fr ⟨setV st.env d (.v .bool false), st.heap⟩ | true => .ret ⟨putV (setV st.env d (.v .bool false)) o.dst AV.none, st.heap⟩)
      | .tup _ => .ret ⟨putV st.env o.dst AV.none, st.heap⟩
      | _ => .fail
    | none => .fail

/-- how many places an operation may take, whatever its slots hold -/
def newS (C : Ctx) (o : Oper) : Nat :=
  match o.op with
  | .call { callee := .value (.func f), .. } => match C f with | some c => c.new | none => 0
  | .call { callee := .value _, .. } => 4
  | p => newOf p

/-- operations, each with the free places that are its own -/
def bases (C : Ctx) : List Oper → Nat → List (Nat × Oper)
  | [], _ => []
  | o :: os, n => (n, o) :: bases C os (n + newS C o)

def opsT (P : Program) (C : Ctx) (ops : List Oper) : List (Nat × Oper) → St → Tr St
  | [], st => .ret st
  | o :: os, st => (stepT P C ops o.2 o.1 st).bind fun st' => opsT P C ops os st'

/-- what an operation looks into, at whose shapes it looks, what it turns, whose shapes it may turn, and its own free places -/
structure FP where
  rd : List Nat
  sh : List Nat
  wr : List Nat
  ws : List Nat
  fr : Nat
  new : Nat
  deriving DecidableEq

def wrOf : Op → List AV → List Nat
  | .store _ _ _, [.v (.ptr e _) _, _] => [e]
  | .store _ _ _, [.v (.vp e _ _) _, _] => [e]
  | .call { callee := .builtin .append, .. }, [s, _] => vcOf s
  | .call { callee := .builtin .copy, .. }, [s, _] => vcOf s
  | .slice _ _ _ _ _, vs => headIds vs
  | .buildSlice _ _ _, vs => bsIds vs
  | _, _ => []

/-- whose shapes may turn -/
def wsOf : Op → List AV → List Nat
  | .call { callee := .builtin .append, .. }, [s, _] => vcOf s
  | .call { callee := .builtin .copy, .. }, [s, _] => vcOf s
  | .slice _ _ _ _ _, vs => headIds vs
  | .buildSlice _ _ _, vs => bsIds vs
  | _, _ => []

def fpOf (C : Ctx) (o : Oper) (fr : Nat) (st : St) : FP :=
  if isCall o.op then
    match callOf st.env o.op with
    | some (k, vs) => match C k with
      | some c => ⟨c.ids vs st.heap, [], c.wr vs st.heap, c.wr vs st.heap, fr, c.new⟩
      | none => ⟨[], [], [], [], fr, 0⟩
    | none => ⟨[], [], [], [], fr, 0⟩
  else ⟨idsOf o.op (evs st.env (opArgs o.op)), shsOf o.op (evs st.env (opArgs o.op)), wrOf o.op (evs st.env (opArgs o.op)), wsOf o.op (evs st.env (opArgs o.op)), fr, newOf o.op⟩

def apart (l m : List Nat) : Bool := l.all fun x => !(m.contains x)

/-- is an entry one of some places? -/
def within (fr n : Nat) (l : List Nat) : Bool := l.any fun x => decide (fr ≤ x) && decide (x < fr + n)

/-- what one turns the other does not look at -/
def FP.clear (a b : FP) : Bool :=
  apart a.wr b.rd && apart a.wr b.wr && apart a.ws b.sh && !(within a.fr a.new b.rd) && !(within a.fr a.new b.wr) && !(within a.fr a.new b.sh) && !(within b.fr b.new a.wr)

def FP.indep (a b : FP) : Bool := a.clear b && b.clear a && (decide (a.fr + a.new ≤ b.fr) || decide (b.fr + b.new ≤ a.fr))

def opd : Operand → List Nat
  | .tmp t => [t]
  | _ => []

def readsOf (ops : List Oper) (o : Oper) : List Nat :=
  (match o.op with
  | .call { callee := .value f, args, .. } => opd f ++ args.toList.flatMap opd
  | p => (opArgs p).flatMap opd) ++
  (match o.guard with
  | some (j, _) => (dstOf ops j).toList
  | none => [])

def slotsApart (ops : List Oper) (a b : Oper) : Bool :=
  match a.dst with
  | none => true
  | some d => b.dst != some d && !((readsOf ops b).contains d)

/-- operations, and what each looked at -/
def opsF (P : Program) (C : Ctx) (ops : List Oper) : List (Nat × Oper) → St → List FP → Tr (St × List FP)
  | [], st, fs => .ret (st, fs)
  | o :: os, st, fs => (stepT P C ops o.2 o.1 st).bind fun st' => opsF P C ops os st' (fs ++ [fpOf C o.2 o.1 st])

/-- for each operation, which ones go before it -/
def maskOf (acc : List Nat) : List Edge → Nat
  | [] => 0
  | e :: es => if Region.binds .any e then 2 ^ e.on ||| acc.getD e.on 0 ||| maskOf acc es else maskOf acc es

def masks : List Oper → List Nat → List Nat
  | [], acc => acc
  | o :: os, acc => masks os (acc ++ [maskOf acc o.after.toList])

def edgesOk : List Oper → Nat → Bool
  | [], _ => true
  | o :: os, n => (o.after.toList.all fun e => !(Region.binds .any e) || decide (e.on < n)) && edgesOk os (n + 1)

def pairOk (ops : List Oper) (ms : List Nat) (fs : List FP) (i j : Nat) : Bool :=
  (ms.getD j 0).testBit i ||
    match ops[i]?, ops[j]?, fs[i]?, fs[j]? with
    | some a, some b, some f, some g => slotsApart ops a b && slotsApart ops b a && f.indep g
    | _, _, _, _ => false

def drawOk (ops : List Oper) (fs : List FP) : Bool :=
  let ms := masks ops []
  edgesOk ops 0 && (List.range ops.length).all fun j => (List.range j).all fun i => pairOk ops ms fs i j

def newAll (C : Ctx) : List Oper → Nat
  | [] => 0
  | o :: os => newS C o + newAll C os

def widen (st : St) (n : Nat) : St :=
  match n with
  | 0 => st
  | _ => ⟨st.env, st.heap ++ frees n⟩

inductive Ex
  | normal | exit (id : Nat) | ret
  deriving DecidableEq

def firstReg : Code → Option Nat
  | .region id _ _ => some id
  | .seq a b => match firstReg a with | some i => some i | none => firstReg b
  | .cond _ a b => match firstReg a with | some i => some i | none => firstReg b
  | .block _ c | .loop c | .scope c => firstReg c
  | _ => none

abbrev Loops := Nat → St → Tr (Ex × St)

def run (P : Program) (C : Ctx) (L : Loops) : Code → St → Tr (Ex × St)
  | .skip, st => .ret (.normal, st)
  | .label _, st => .ret (.normal, st)
  | .region _ ops draw, st =>
    match draw with
    | false => (opsT P C ops.toList (bases C ops.toList st.heap.length) (widen st (newAll C ops.toList))).bind fun s => .ret (.normal, s)
    | true => (opsF P C ops.toList (bases C ops.toList st.heap.length) (widen st (newAll C ops.toList)) []).bind fun s => if P.follows .mixedOrders && drawOk ops.toList s.2 then .ret (.normal, s.1) else .fail
  | .seq a b, st => (run P C L a st).bind fun r => match r with
    | (.normal, s) => run P C L b s
    | r => .ret r
  | .cond c a b, st => match ev st.env c with
    | .v .bool t => .ite t (run P C L a st) (run P C L b st)
    | _ => .fail
  | .block id c, st => (run P C L c st).bind fun r => match r with
    | (.exit i, s) => if i = id then .ret (.normal, s) else .ret (.exit i, s)
    | r => .ret r
  | .loop c, st => match firstReg c with
    | some i => L i st
    | none => .fail
  | .exit id, st => .ret (.exit id, st)
  | .ret, st => .ret (.ret, st)
  | _, _ => .fail

def resAV (P : Program) (st : St) : ResultVar → Option AV
  | .tmp t => some (getV st.env t)
  | .cell a t => match getV st.env a with
    | .v (.ptr e []) _ => match getE st.heap e with
      | .box T x => if sk? P t = some T.sk then some (.v T x) else none
      | _ => none
    | _ => none

def resAVs (P : Program) (st : St) : List ResultVar → Option (List AV)
  | [] => some []
  | r :: rs => match resAV P st r with
    | some a => match resAVs P st rs with
      | some l => some (a :: l)
      | none => none
    | none => none

/-- what a function hands back: one value, or several -/
def resT (P : Program) (fn : Func) (st : St) : Option AV :=
  match resAVs P st fn.results.toList with
  | some [a] => some a
  | some l => match tvsOf l with
    | some ts => some (.tup ts)
    | none => none
  | none => none

/-- a function's state as it begins -/
def begin_ (fn : Func) (args : List AV) (H : Heap) : St := ⟨args ++ List.replicate (fn.ntmps - args.length) AV.none, H⟩

def fnT (P : Program) (C : Ctx) (L : Loops) (fn : Func) (args : List AV) (H : Heap) : Tr (AV × Heap) :=
  match fn.body with
  | some c => (run P C L c (begin_ fn args H)).bind fun r => match r with
    | (.exit _, _) => .fail
    | (_, s) => match resT P fn s with
      | some v => .ret (v, s.heap)
      | none => .fail
  | none => .fail

end Vse

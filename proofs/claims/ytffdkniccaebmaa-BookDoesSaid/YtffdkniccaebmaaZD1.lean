/- The statements of layer 15 (book) hold: BookDoes. No conditions but the given ones. Part 1. -/
import GoSem.Dispatch
import Derived.Laws.Sem
import Derived.Calls
import Derived.Tactics
import Derived.Laws.CopyRow
import Derived.Laws.StructEq
import Derived.ChangeKeysEq
import Derived.Laws.Cells
import Derived.Laws.Pointers
import Derived.Laws.Tables
set_option linter.unusedVariables false
set_option linter.unusedSimpArgs false
section
section
set_option linter.unusedVariables false
namespace Vse
open Go
inductive PS
 | fld (m : Nat)
 | idx
 deriving DecidableEq
inductive Ty
 | bool | int (k : IntKind) | str | unit | und
 | prod (a b : Ty) | arr (n : Nat) (a : Ty)
 | imm (p f : Bool) (a : Ty)
 | tg (p : Bool) (a : Ty)
 | nils | vc (e g : Nat) | sv (e g : Nat) | vp (e g : Nat) (p : List PS) | sub (e : Nat) (p : List PS)
 | nilp | ptr (e : Nat) (p : List PS) | ip (p : Bool) (a : Ty)
 | nilm | mp (e : Nat) | nilf | fn (f : Nat) (c : Ty) | nili | it (e : Nat) | ch (e : Nat)
 deriving DecidableEq
@[reducible] def PD : List PS → Type
 | [] => Unit
 | .fld _ :: p => PD p
 | .idx :: p => Nat × PD p
structure SubD (p : List PS) where
 at_ : PD p
 start : Nat
 len : Nat
 tt : Bool
@[reducible] def Ty.den : Ty → Type
 | .bool => Bool
 | .int _ => Int
 | .str => ByteArray
 | .prod a b => a.den × b.den
 | .arr _ a => List a.den
 | .imm _ _ a => List a.den
 | .tg _ a => List a.den
 | .sv _ _ => SubD []
 | .vp _ _ p => PD p
 | .sub _ p => SubD p
 | .ptr _ p => PD p
 | .ip _ a => a.den
 | .fn _ c => c.den
 | _ => Unit
structure TV where
 T : Ty
 x : T.den
inductive AV
 | v (T : Ty) (x : T.den)
 | tup (l : List TV)
def AV.und : AV := .v .und ()
def AV.none : AV := .tup []
inductive Tr (α : Type) : Type 1
 | ret (a : α)
 | fail
 | ite (b : Bool) (t e : Tr α)
 | opt {β : Type} (o : Option β) (n : Tr α) (s : β → Tr α)
namespace Tr
def bind {α β : Type} : Tr α → (α → Tr β) → Tr β
 | .ret a, f => f a
 | .fail, _ => .fail
 | .ite b t e, f => .ite b (t.bind f) (e.bind f)
 | .opt o n s, f => .opt o (n.bind f) (fun x => (s x).bind f)
def eval {α : Type} : Tr α → Option α
 | .ret a => some a
 | .fail => none
 | .ite b t e => match b with | true => t.eval | false => e.eval
 | .opt o n s => match o with | none => n.eval | some x => (s x).eval
def chk {α : Type} (b : Bool) (t : Tr α) : Tr α := .ite b t .fail
theorem eval_bind {α β : Type} (t : Tr α) (f : α → Tr β) : (t.bind f).eval = t.eval.bind fun a => (f a).eval := by
 induction t with
 | ret a => rfl
 | fail => rfl
 | ite b t e iht ihe => cases b <;> simp [Tr.bind, Tr.eval, iht, ihe]
 | opt o n s ihn ihs => cases o <;> simp [Tr.bind, Tr.eval, ihn, ihs]
theorem bind_some {α β : Type} {t : Tr α} {f : α → Tr β} {r : β} (h : (t.bind f).eval = some r) : ∃ a, t.eval = some a ∧ (f a).eval = some r := by
 rw [eval_bind] at h
 cases ht : t.eval with
 | none => rw [ht] at h; cases h
 | some a => rw [ht] at h; exact ⟨a, rfl, h⟩
theorem chk_some {α : Type} {b : Bool} {t : Tr α} {r : α} (h : (chk b t).eval = some r) : b = true ∧ t.eval = some r := by
 cases b <;> simp_all [chk, eval]
theorem ite_some {α : Type} {b : Bool} {t e : Tr α} {r : α} (h : (Tr.ite b t e).eval = some r) : (b = true ∧ t.eval = some r) ∨ (b = false ∧ e.eval = some r) := by
 cases b <;> simp_all [eval]
theorem ret_some {α : Type} {a r : α} (h : (Tr.ret a).eval = some r) : a = r := by simpa [eval] using h
theorem fail_some {α : Type} {r : α} (h : (Tr.fail : Tr α).eval = some r) : False := by simp [eval] at h
end Tr
inductive Entry
 | free
 | dead
 | box (T : Ty) (x : T.den)
 | vec (g : Nat) (a : Ty) (l : List a.den)
 | map (K V : Ty) (l : List (K.den × V.den))
 | itr (s : ByteArray) (p : Nat)
abbrev Heap := List Entry
def getE : Heap → Nat → Entry
 | [], _ => .free
 | e :: _, 0 => e
 | _ :: h, n + 1 => getE h n
def setE : Heap → Nat → Entry → Heap
 | [], _, _ => []
 | _ :: h, 0, x => x :: h
 | e :: h, n + 1, x => e :: setE h n x
def upd (H : Heap) : List (Nat × Entry) → Heap
 | [] => H
 | (i, e) :: l => upd (setE H i e) l
def frees : Nat → Heap
 | 0 => []
 | n + 1 => .free :: frees n
structure St where
 env : List AV
 heap : Heap
def getV : List AV → Nat → AV
 | [], _ => AV.none
 | a :: _, 0 => a
 | _ :: l, n + 1 => getV l n
def setV : List AV → Nat → AV → List AV
 | [], _, _ => []
 | _ :: l, 0, v => v :: l
 | a :: l, n + 1, v => a :: setV l n v
def putV (env : List AV) : Option Nat → AV → List AV
 | none, _ => env
 | some d, v => setV env d v
inductive Sk
 | leaf | unit
 | prod (a b : Sk)
 | arr (n : Nat) (a : Sk)
 deriving DecidableEq
def Ty.sk : Ty → Sk
 | .unit => .unit
 | .prod a b => .prod a.sk b.sk
 | .arr n a => .arr n a.sk
 | _ => .leaf
def Sk.nc : Sk → Nat
 | .leaf => 1
 | .unit => 0
 | .prod a b => a.nc + b.nc
 | .arr n a => n * a.nc
def Sk.agg : Sk → Bool
 | .leaf => false
 | _ => true
def Ty.nc (T : Ty) : Nat := T.sk.nc
def Ty.agg (T : Ty) : Bool := T.sk.agg
def poff : Sk → (p : List PS) → PD p → Option (Nat × Sk)
 | s, [], _ => some (0, s)
 | .prod a _, .fld 0 :: p, d => poff a p d
 | .prod a b, .fld (m + 1) :: p, d => (poff b (.fld m :: p) d).map fun r => (a.nc + r.1, r.2)
 | .arr n a, .idx :: p, d => if d.1 < n then (poff a p d.2).map fun r => (d.1 * a.nc + r.1, r.2) else none
 | _, _, _ => none
termination_by structural s => s
def pend : Sk → List PS → Option Sk
 | s, [] => some s
 | .prod a _, .fld 0 :: p => pend a p
 | .prod a b, .fld (m + 1) :: p => pend b (.fld m :: p)
 | .arr _ a, .idx :: p => pend a p
 | _, _ => none
inductive ESh
 | free | dead
 | box (s : Sk)
 | vec (g : Nat) (s : Sk) (n : Nat)
 | map
def shp : Entry → ESh
 | .free => .free
 | .dead => .dead
 | .box T _ => .box T.sk
 | .vec g a l => .vec g a.sk l.length
 | .map _ _ _ => .map
 | .itr _ _ => .map
end Vse
end
section
set_option linter.unusedVariables false
namespace Vse
open Go
def pd0 : (p : List PS) → PD p
 | [] => ()
 | .fld _ :: p => pd0 p
 | .idx :: p => (0, pd0 p)
def dflt : (T : Ty) → T.den
 | .bool => false
 | .int _ => (0 : Int)
 | .str => ByteArray.empty
 | .prod a b => (dflt a, dflt b)
 | .arr _ _ => []
 | .imm _ _ _ => []
 | .tg _ _ => []
 | .sv _ _ => ⟨(), 0, 0, false⟩
 | .vp _ _ p => pd0 p
 | .sub _ p => ⟨pd0 p, 0, 0, false⟩
 | .ptr _ p => pd0 p
 | .ip _ a => dflt a
 | .fn _ c => dflt c
 | .unit | .und | .nils | .vc _ _ | .nilp | .nilm | .mp _ | .nilf | .nili | .it _ | .ch _ => ()
def getP : (T : Ty) → T.den → (p : List PS) → PD p → Option TV
 | T, x, [], _ => some ⟨T, x⟩
 | .prod a _, x, .fld 0 :: p, d => getP a x.1 p d
 | .prod _ b, x, .fld (m + 1) :: p, d => getP b x.2 (.fld m :: p) d
 | .arr _ a, x, .idx :: p, d => getP a (x.getD d.1 (dflt a)) p d.2
 | _, _, _, _ => none
termination_by structural T => T
def castT (t : TV) (a : Ty) : Option a.den := if h : t.T = a then some (h ▸ t.x) else none
def setP : (T : Ty) → T.den → (p : List PS) → PD p → TV → Option TV
 | T, x, [], _, y => if T.sk = y.T.sk then some y else none
 | .prod a b, x, .fld 0 :: p, d, y => (setP a x.1 p d y).bind fun r => some ⟨.prod r.T b, (r.x, x.2)⟩
 | .prod a b, x, .fld (m + 1) :: p, d, y => (setP b x.2 (.fld m :: p) d y).bind fun r => some ⟨.prod a r.T, (x.1, r.x)⟩
 | .arr n a, x, .idx :: p, d, y => (setP a (x.getD d.1 (dflt a)) p d.2 y).bind fun r => (castT r a).bind fun z => some ⟨.arr n a, x.set d.1 z⟩
 | _, _, _, _, _ => none
termination_by structural T => T
def pdSnoc : (p : List PS) → PD p → (s : PS) → PD [s] → PD (p ++ [s])
 | [], _, _, d => d
 | .fld _ :: p, x, s, d => pdSnoc p x s d
 | .idx :: p, x, s, d => (x.1, pdSnoc p x.2 s d)
def skFields (rec : TypeId → Option Sk) : List Field → Nat → Option Sk
 | [], _ => some .unit
 | f :: fs, off =>
  if f.offset = off then
   match rec f.type with
   | some s => match skFields rec fs (off + s.nc) with
    | some r => some (.prod s r)
    | none => none
   | none => none
  else none
def skOf (P : Program) : Nat → TypeId → Option Sk
 | 0, _ => none
 | n + 1, t =>
  match P.info? t, P.underlying t with
  | some i, some (.struct fs) => match skFields (skOf P n) fs.toList 0 with
   | some s => if s.nc = i.size then some s else none
   | none => none
  | some i, some (.array k e) => match skOf P n e with
   | some s => if k * s.nc = i.size then some (.arr k s) else none
   | none => none
  | _, some (.tuple _) | _, some (.named _ _) | _, some .invalid => none
  | some i, some _ => if i.size = 1 then some .leaf else none
  | _, _ => none
def depth0 : Nat := 12
def sk? (P : Program) (t : TypeId) : Option Sk := skOf P depth0 t
def inK (k : IntKind) (n : Int) : Bool := decide (k.min ≤ n) && decide (n ≤ k.max)
def ofVal : Value → TV
 | .bool b => ⟨.bool, b⟩
 | .int k n => if inK k n then ⟨.int k, n⟩ else ⟨.und, ()⟩
 | .string s => if decide (s.size ≤ 9223372036854775807) then ⟨.str, s⟩ else ⟨.und, ()⟩
 | .pointer none => ⟨.nilp, ()⟩
 | .slice none 0 0 => ⟨.nils, ()⟩
 | .map none => ⟨.nilm, ()⟩
 | .nilFunc => ⟨.nilf, ()⟩
 | .nilIface => ⟨.nili, ()⟩
 | _ => ⟨.und, ()⟩
def decFields (rec : TypeId → List Value → Option (TV × List Value)) : List Field → List Value → Option (TV × List Value)
 | [], cs => some (⟨.unit, ()⟩, cs)
 | f :: fs, cs => match rec f.type cs with
  | some (t, r) => match decFields rec fs r with
   | some (u, q) => some (⟨.prod t.T u.T, (t.x, u.x)⟩, q)
   | none => none
  | none => none
def decMany (rec : List Value → Option (TV × List Value)) (a : Ty) : Nat → List Value → Option (List a.den × List Value)
 | 0, cs => some ([], cs)
 | n + 1, cs => match rec cs with
  | some (t, r) => match castT t a with
   | some x => match decMany rec a n r with
    | some (l, q) => some (x :: l, q)
    | none => none
   | none => none
  | none => none
def decZ (P : Program) : Nat → TypeId → List Value → Option (TV × List Value)
 | 0, _, _ => none
 | n + 1, t, cs =>
  match P.underlying t with
  | some (.struct fs) => decFields (decZ P n) fs.toList cs
  | some (.array k e) => match decZ P n e cs with
   | some (u, _) => match decMany (decZ P n e) u.T k cs with
    | some (l, r) => some (⟨.arr k u.T, l⟩, r)
    | none => none
   | none => none
  | _ => match cs with
   | c :: r => match ofVal c with
    | ⟨.und, _⟩ => none
    | v => some (v, r)
   | [] => none
def aggOk : Value → Sk → Bool
 | .agg _, s => s.agg
 | _, s => !s.agg
def zeroT (P : Program) (t : TypeId) : Option TV :=
 match P.info? t with
 | some i => match i.zero with
  | some z => match sk? P t with
   | some s => match decZ P depth0 t z.cells.toList with
    | some (v, []) => if v.T.sk = s && aggOk z s then some v else none
    | _ => none
   | none => none
  | none => none
 | none => none
def andI (k : IntKind) (x y : Int) : Int := k.wrap (BitVec.ofInt k.bits x &&& BitVec.ofInt k.bits y).toNat
def orI (k : IntKind) (x y : Int) : Int := k.wrap (BitVec.ofInt k.bits x ||| BitVec.ofInt k.bits y).toNat
def xorI (k : IntKind) (x y : Int) : Int := k.wrap (BitVec.ofInt k.bits x ^^^ BitVec.ofInt k.bits y).toNat
def andNotI (k : IntKind) (x y : Int) : Int := k.wrap (BitVec.ofInt k.bits x &&& ~~~ BitVec.ofInt k.bits y).toNat
def shlI (k : IntKind) (x y : Int) : Int := k.wrap (x * 2 ^ (min y.toNat k.bits))
def shrI (k : IntKind) (x y : Int) : Int := x.fdiv (2 ^ (min y.toNat k.bits))
def maxI (x y : Int) : Int := if y > x then y else x
def minI (x y : Int) : Int := if y < x then y else x
def intBin (op : BinOp) (k : IntKind) (x y : Int) : Tr TV :=
 match op with
 | .add => .ret ⟨.int k, k.wrap (x + y)⟩
 | .sub => .ret ⟨.int k, k.wrap (x - y)⟩
 | .mul => .ret ⟨.int k, k.wrap (x * y)⟩
 | .quo => .ite (decide (y = 0)) .fail (.ret ⟨.int k, k.wrap (x.tdiv y)⟩)
 | .rem => .ite (decide (y = 0)) .fail (.ret ⟨.int k, x.tmod y⟩)
 | .and => .ret ⟨.int k, andI k x y⟩
 | .or => .ret ⟨.int k, orI k x y⟩
 | .xor => .ret ⟨.int k, xorI k x y⟩
 | .andNot => .ret ⟨.int k, andNotI k x y⟩
 | .eql => .ret ⟨.bool, x == y⟩
 | .neq => .ret ⟨.bool, x != y⟩
 | .lss => .ret ⟨.bool, decide (x < y)⟩
 | .leq => .ret ⟨.bool, decide (x ≤ y)⟩
 | .gtr => .ret ⟨.bool, decide (x > y)⟩
 | .geq => .ret ⟨.bool, decide (x ≥ y)⟩
 | _ => .fail
def eqList {α : Type} (f : α → α → Bool) : List α → List α → Bool
 | [], [] => true
 | x :: xs, y :: ys => f x y && eqList f xs ys
 | _, _ => false
def eqT : (T : Ty) → T.den → T.den → Bool
 | .bool, a, b => a == b
 | .int _, a, b => decide (a = b)
 | .str, a, b => a == b
 | .prod s t, a, b => eqT s a.1 b.1 && eqT t a.2 b.2
 | .arr _ s, a, b => eqList (eqT s) a b
 | .unit, _, _ => true
 | _, _, _ => false
def cmpFields (rec : TypeId → Ty → Bool) : List Field → Ty → Bool
 | [], .unit => true
 | f :: fs, .prod a b => f.name != "_" && rec f.type a && cmpFields rec fs b
 | _, _ => false
def cmpTy (P : Program) : Nat → TypeId → Ty → Bool
 | 0, _, _ => false
 | n + 1, t, T =>
  match P.underlying t with
  | some .bool => match T with | .bool => true | _ => false
  | some (.int _) => match T with | .int _ => true | _ => false
  | some .string => match T with | .str => true | _ => false
  | some (.struct fs) => !(P.stoodInHeld t) && cmpFields (cmpTy P n) fs.toList T
  | some (.array k e) => match T with | .arr k' a => k == k' && cmpTy P n e a | _ => false
  | _ => false
def eqlT (P : Program) (t : TypeId) (T : Ty) (x y : T.den) : Tr Bool :=
 if cmpTy P depth0 t T && (sk? P t == some T.sk) && !(P.eqGuardType P.depth t) then .ret (eqT T x y) else .fail
def strBin (op : BinOp) (x y : ByteArray) : Tr TV :=
 match op with
 | .add => .chk (decide (x.size + y.size ≤ 9223372036854775807)) (.ret ⟨.str, x ++ y⟩)
 | .eql => .ret ⟨.bool, x == y⟩
 | .neq => .ret ⟨.bool, x != y⟩
 | _ => .fail
def isPtrT (P : Program) (t : TypeId) : Bool :=
 match P.underlying t with
 | some (.pointer _) => true
 | _ => false
def binT (P : Program) (op : BinOp) (t : TypeId) (a b : TV) : Tr TV :=
 match op, a, b with
 | op, ⟨.int k, x⟩, ⟨.int k', y⟩ =>
  match op with
  | .shl => .chk (!k'.signed || decide (0 ≤ y)) (.ret ⟨.int k, shlI k x y⟩)
  | .shr => .chk (!k'.signed || decide (0 ≤ y)) (.ret ⟨.int k, shrI k x y⟩)
  | _ => if k = k' then intBin op k x y else .fail
 | op, ⟨.str, x⟩, ⟨.str, y⟩ => strBin op x y
 | .eql, ⟨.nilp, _⟩, ⟨.nilp, _⟩ => if isPtrT P t then .ret ⟨.bool, true⟩ else .fail
 | .neq, ⟨.nilp, _⟩, ⟨.nilp, _⟩ => if isPtrT P t then .ret ⟨.bool, false⟩ else .fail
 | .eql, ⟨T, x⟩, ⟨U, y⟩ => if h : U = T then (eqlT P t T x (h ▸ y)).bind fun b => .ret ⟨.bool, b⟩ else .fail
 | .neq, ⟨T, x⟩, ⟨U, y⟩ => if h : U = T then (eqlT P t T x (h ▸ y)).bind fun b => .ret ⟨.bool, !b⟩ else .fail
 | _, _, _ => .fail
def unT (op : UnOp) (a : TV) : Tr TV :=
 match op, a with
 | .neg, ⟨.int k, n⟩ => .ret ⟨.int k, k.wrap (0 - n)⟩
 | .xor, ⟨.int k, n⟩ => .ret ⟨.int k, xorI k (if k.signed then -1 else k.max) n⟩
 | .not, ⟨.bool, b⟩ => .ret ⟨.bool, !b⟩
 | _, _ => .fail
abbrev Out := AV × List (Nat × Entry)
def val (t : TV) : Out := (.v t.T t.x, [])
def putParts : TV → List (Nat × TV) → Option TV
 | z, [] => some z
 | z, (i, v) :: r => match setP z.T z.x [.fld i] () v with
  | some z' => putParts z' r
  | none => none
def putElems : TV → List (Nat × TV) → Option TV
 | z, [] => some z
 | z, (i, v) :: r => match setP z.T z.x [.idx] (i, ()) v with
  | some z' => putElems z' r
  | none => none
def tvOf : AV → Option TV
 | .v .und _ => none
 | .v T x => some ⟨T, x⟩
 | _ => none
def tvsOf : List AV → Option (List TV)
 | [] => some []
 | a :: l => match tvOf a with
  | some t => match tvsOf l with
   | some r => some (t :: r)
   | none => none
  | none => none
def zipN : List Nat → List TV → List (Nat × TV)
 | n :: ns, t :: ts => (n, t) :: zipN ns ts
 | _, _ => []
def buildT (P : Program) (t : TypeId) (ns : List Nat) (ts : List TV) : Option TV :=
 match P.underlying t, zeroT P t with
 | some (.struct fs), some z => if ns.all (fun i => decide (i < fs.size)) then putParts z (zipN ns ts) else none
 | some (.array k _), some z => if ns.all (fun i => decide (i < k)) then putElems z (zipN ns ts) else none
 | _, _ => none
def loadT (P : Program) (t : TypeId) (r : Option TV) : Tr Out :=
 match r with
 | some v => if sk? P t = some v.T.sk then .ret (val v) else .fail
 | none => .fail
def fldTV (v : TV) (m : Nat) : Option TV := getP v.T v.x [.fld m] ()
def isStruct (P : Program) (t : TypeId) (f : Nat) : Bool :=
 match P.underlying t with
 | some (.struct fs) => decide (f < fs.size)
 | _ => false
def arrLen (P : Program) (t : TypeId) : Option Nat :=
 match P.underlying t with
 | some (.array n _) => some n
 | _ => none
def c_move : List AV → Tr Out
 | [a] => .ret (a, [])
 | _ => .fail
def c_pick : List AV → Tr Out
 | [.v .bool b, x, y] => .ite b (.ret (x, [])) (.ret (y, []))
 | _ => .fail
def c_alloc (P : Program) (t : TypeId) (fr : Nat) : Tr Out :=
 match zeroT P t with
 | some z => .ret (.v (.ptr fr []) (), [(fr, .box z.T z.x)])
 | none => .fail
def c_box (vs : List AV) (fr : Nat) : Tr Out :=
 match vs with
 | [a] => match tvOf a with
  | some z => .ret (.v (.ptr fr []) (), [(fr, .box z.T z.x)])
  | none => .fail
 | _ => .fail
def c_build (P : Program) (t : TypeId) (ns : List Nat) (vs : List AV) : Tr Out :=
 match tvsOf vs with
 | some ts => match buildT P t ns ts with
  | some v => .ret (val v)
  | none => .fail
 | none => .fail
def c_load (P : Program) (t : TypeId) (vs : List AV) (es : List Entry) : Tr Out :=
 match vs with
 | [.v (.ptr _ p) d] => match es with
  | [.box T x] => loadT P t (getP T x p d)
  | _ => .fail
 | [.v (.ip _ T) x] => loadT P t (some ⟨T, x⟩)
 | [.v (.vp _ g p) d] => match es with
  | [.vec g' a l] => if g = g' then loadT P t (getP (.arr l.length a) l p d) else .fail
  | _ => .fail
 | _ => .fail
def setI (b : Ty) (l : List b.den) (p : List PS) (d : PD (.idx :: p)) (v : TV) : Option (List b.den) :=
 (setP b (l.getD d.1 (dflt b)) p d.2 v).bind fun r => (castT r b).bind fun z => some (l.set d.1 z)
theorem setI_setP {b : Ty} {l m : List b.den} {p : List PS} {d : PD (.idx :: p)} {v : TV} (h : setI b l p d v = some m) : setP (.arr l.length b) l (.idx :: p) d v = some ⟨.arr l.length b, m⟩ := by
 simp only [setI, Option.bind_eq_some_iff] at h
 obtain ⟨r, h1, z, h2, h3⟩ := h
 simp only [Option.some.injEq] at h3
 subst h3
 simp only [setP, h1, h2, Option.bind_some]
def c_store (P : Program) (t : TypeId) (vs : List AV) (es : List Entry) : Tr Out :=
 match vs with
 | [.v (.ptr e p) d, a] => match es with
  | [.box T x] => match tvOf a with
   | some v => match setP T x p d v with
    | some r => if sk? P t = some v.T.sk then .ret (AV.und, [(e, .box r.T r.x)]) else .fail
    | none => .fail
   | none => .fail
  | _ => .fail
 | [.v (.vp e g (.idx :: p)) d, a] => match es with
  | [.vec g' b l] => if g = g' then (match tvOf a with
   | some v => match setI b l p d v with
    | some m => if sk? P t = some v.T.sk then .ret (AV.und, [(e, .vec g b m)]) else .fail
    | none => .fail
   | none => .fail) else .fail
  | _ => .fail
 | _ => .fail
def c_nilCheck : List AV → Tr Out
 | [.v (.ptr e p) d] => .ret (.v (.ptr e p) d, [])
 | [.v (.vp e g p) d] => .ret (.v (.vp e g p) d, [])
 | [.v (.ip q a) d] => .ret (.v (.ip q a) d, [])
 | _ => .fail
def sliceEl (P : Program) (t : TypeId) : Option TypeId :=
 match P.underlying t with
 | some (.slice e) => some e
 | _ => none
def elOk (P : Program) (t : TypeId) (a : Ty) : Bool :=
 match sliceEl P t with
 | some e => sk? P e == some a.sk && decide (a.nc ≠ 0)
 | none => false
def nilEq : BinOp → AV → AV → Option Bool
 | .eql, .v (.imm _ true _) _, .v .nils _ => some false
 | .neq, .v (.imm _ true _) _, .v .nils _ => some true
 | .eql, .v .nils _, .v .nils _ => some true
 | .neq, .v .nils _, .v .nils _ => some false
 | _, _, _ => none
def isAd : AV → Bool
 | .v (.ptr _ _) _ => true
 | .v (.ip _ _) _ => true
 | .v (.vp _ _ _) _ => true
 | _ => false
def isNilp : AV → Bool
 | .v .nilp _ => true
 | _ => false
def nilPtr (op : BinOp) (a b : AV) : Option Bool :=
 if isAd a && isNilp b then (match op with
  | .eql => some false
  | .neq => some true
  | _ => none) else none
def c_bin (P : Program) (op : BinOp) (t : TypeId) : List AV → Tr Out
 | [a, b] => match nilEq op a b with
  | some r => if (sliceEl P t).isSome then .ret (.v .bool r, []) else .fail
  | none => match nilPtr op a b with
   | some r => if isPtrT P t then .ret (.v .bool r, []) else .fail
   | none => match tvOf a with
    | some x => match tvOf b with
     | some y => (binT P op t x y).bind fun r => .ret (val r)
     | none => .fail
    | none => .fail
 | _ => .fail
def c_s2ap (P : Program) (t : TypeId) : List AV → Tr Out
 | [.v (.imm p _ a) l] => match arrLen P t with
  | some n => if sk? P t == some (.arr n a.sk) && decide (n ≠ 0) then .chk (decide (n ≤ l.length)) (.ret (.v (.ip p (.arr n a)) (l.take n), [])) else .fail
  | none => .fail
 | _ => .fail
def c_un (op : UnOp) : List AV → Tr Out
 | [a] => match tvOf a with
  | some x => (unT op x).bind fun r => .ret (val r)
  | none => .fail
 | _ => .fail
def bytesStr (l : List Int) : ByteArray := l.foldl (fun r n => r.push (UInt8.ofNat n.toNat)) ByteArray.empty
def isBytes (P : Program) (t : TypeId) : Bool :=
 match P.underlying t with
 | some (.slice e) => match P.underlying e with
  | some (.int .u8) => true
  | _ => false
 | _ => false
def strBytes (s : ByteArray) : List Int := s.data.toList.map fun b => (b.toNat : Int)
def c_convert0 (P : Program) (s d : TypeId) (vs : List AV) (ss : List ESh) : Tr Out :=
 match vs with
 | [.v .str x] => match P.underlying s with
  | some .string => if isBytes P d then .ret (.v (.imm true true (.int .u8)) (strBytes x), []) else .fail
  | _ => .fail
 | [.v (.vc e g) u] => match ss with
  | [.vec g' _ n] => if g = g' && decide (n ≠ 0) && (s == d) && isBytes P s then .ret (.v (.vc e g) u, []) else .fail
  | _ => .fail
 | [.v (.int _) n] => match P.underlying s with
  | some _ => match P.underlying d with
   | some (.int k) => .ret (.v (.int k) (k.wrap n), [])
   | _ => .fail
  | none => .fail
 | _ => .fail
def shAt : List ESh → List PS → Option Sk
 | [.box s], p => pend s p
 | _, _ => none
def big : Option Sk → Bool
 | some s => decide (s.nc ≠ 0)
 | none => false
def c_fieldAddr (P : Program) (t : TypeId) (f : Nat) (vs : List AV) (ss : List ESh) : Tr Out :=
 match vs with
 | [.v (.ptr e p) d] => if isStruct P t f && (sk? P t).isSome && (shAt ss p == sk? P t) && big (shAt ss (p ++ [.fld f])) then .ret (.v (.ptr e (p ++ [.fld f])) (pdSnoc p d (.fld f) ()), []) else .fail
 | [.v (.ip q a) x] => if isStruct P t f && (sk? P t == some a.sk) && big (pend a.sk [.fld f]) then (match getP a x [.fld f] () with
  | some r => .ret (.v (.ip q r.T) r.x, [])
  | none => .fail) else .fail
 | [.v (.vp e g p) d] => match ss with
  | [.vec g' s n] => if decide (g = g') && (isStruct P t f && ((sk? P t).isSome && ((pend (.arr n s) p == sk? P t) && big (pend (.arr n s) (p ++ [.fld f]))))) then .ret (.v (.vp e g (p ++ [.fld f])) (pdSnoc p d (.fld f) ()), []) else .fail
  | _ => .fail
 | _ => .fail
def c_field (P : Program) (t : TypeId) (f : Nat) : List AV → Tr Out
 | [a] => match tvOf a with
  | some v => if isStruct P t f && (sk? P t == some v.T.sk) then (match fldTV v f with
   | some r => .ret (val r)
   | none => .fail) else .fail
  | none => .fail
 | _ => .fail
def inArr (i : Int) (n : Nat) : Bool := decide (0 ≤ i) && decide (i < (n : Int))
def inArrK (k : IntKind) (i : Int) (n : Nat) : Bool := match decide (0 ≤ k.min) && decide (k.max < (n : Int)) with
 | true => true
 | false => inArr i n
def c_indexAddr (P : Program) (t : TypeId) (vs : List AV) (ss : List ESh) : Tr Out :=
 match vs with
 | [.v (.ptr e p) d, .v (.int k) i] => match arrLen P t with
  | some n => if (sk? P t).isSome && (shAt ss p == sk? P t) then .chk (inArrK k i n) (.ret (.v (.ptr e (p ++ [.idx])) (pdSnoc p d .idx (i.toNat, ())), [])) else .fail
  | none => .fail
 | [.v (.ip q (.arr m a)) x, .v (.int k) i] => match arrLen P t with
  | some n => if n = m && (sk? P t == some (.arr m a.sk)) then .chk (inArrK k i n) (.ret (.v (.ip q a) (x.getD i.toNat (dflt a)), [])) else .fail
  | none => .fail
 | [.v (.imm q _ a) x, .v (.int _) i] => match sliceEl P t with
  | some e => if sk? P e == some a.sk then .chk (inArr i x.length) (.ret (.v (.ip q a) (x.getD i.toNat (dflt a)), [])) else .fail
  | none => .fail
 | [.v (.vc e g) _, .v (.int _) i] => match sliceEl P t with
  | some el => match ss with
   | [.vec g' s n] => if g = g' && (sk? P el == some s) then .chk (inArr i n) (.ret (.v (.vp e g [.idx]) (i.toNat, ()), [])) else .fail
   | _ => .fail
  | none => .fail
 | _ => .fail
def c_index (P : Program) (t : TypeId) : List AV → Tr Out
 | [.v .str s, .v (.int _) i] => match P.underlying t with
  | some .string => .chk (inArr i s.size) (.ret (.v (.int .u8) ((s.data.getD i.toNat 0).toNat : Int), []))
  | _ => .fail
 | [.v (.arr m a) x, .v (.int k) i] => match arrLen P t with
  | some n => if n = m && (sk? P t == some (.arr m a.sk)) then .chk (inArrK k i n) (.ret (.v a (x.getD i.toNat (dflt a)), [])) else .fail
  | none => .fail
 | _ => .fail
def elBytes (P : Program) (t : TypeId) : Option Nat :=
 match sliceEl P t with
 | some e => match P.info? e with
  | some i => match i.zero with
   | some z => if decide (z.cells.size = i.size) && (decide (i.bytes ≠ 0) && (decide (i.bytes ≤ 1073741824) && z.cells.all fun v => v.oneCell')) then some i.bytes else none
   | none => none
  | none => none
 | none => none
def seen (a : AV) (es : List Entry) : Option ((a : Ty) × List a.den) :=
 match a with
 | .v (.imm _ _ a) l => some ⟨a, l⟩
 | .v (.tg _ a) l => some ⟨a, l⟩
 | .v (.sub _ p) d => match es with
  | [.box T x] => match getP T x p d.at_ with
   | some ⟨.arr _ a, l⟩ => some ⟨a, (l.drop d.start).take d.len⟩
   | _ => none
  | _ => none
 | .v (.vc _ g) _ => match es with
  | [.vec g' a l] => if g = g' then some ⟨a, l⟩ else none
  | _ => none
 | .v (.sv _ g) d => match es with
  | [.vec g' a l] => if g = g' then some ⟨a, (l.drop d.start).take d.len⟩ else none
  | _ => none
 | _ => none
def isNils : AV → Bool
 | .v .nils _ => true
 | _ => false
def room (n bytes : Nat) : Bool := decide (n * bytes ≤ 180000000000000)
def castL (x : (a : Ty) × List a.den) (a : Ty) : Option (List a.den) := if h : x.1 = a then some (h ▸ x.2) else none
def vcOf : AV → List Nat
 | .v (.vc e _) _ => [e]
 | .v (.sub e _) _ => [e]
 | .v (.sv e _) _ => [e]
 | _ => []
def tight (s : AV) (es : List Entry) : Option ((a : Ty) × List a.den) :=
 match s with
 | .v (.tg q a) l => seen (.v (.tg q a) l) es
 | .v (.sub e p) d => if d.tt then seen (.v (.sub e p) d) es else none
 | _ => none
def c_appT (P : Program) (t : TypeId) (by_ : Nat) (s x : AV) (es : List Entry) (fr : Nat) : Tr Out :=
 match tight s (es.take (vcOf s).length) with
 | some ⟨a, l⟩ => if elOk P t a then (if isNils x then .ret (s, []) else (match seen x (es.drop (vcOf s).length) with
   | some y => match castL y a with
    | some m => .ite (decide (m.length = 0)) (.ret (s, [])) (.chk (room (l.length + m.length) by_) (.ret (.v (.vc fr 0) (), [(fr, .vec 0 a (l ++ m))])))
    | none => .fail
   | none => .fail)) else .fail
 | none => .fail
def isStr (P : Program) (t : TypeId) : Bool :=
 match P.underlying t with
 | some .string => true
 | _ => false
def c_convert (P : Program) (s d : TypeId) (vs : List AV) (es : List Entry) (ss : List ESh) : Tr Out :=
 match isBytes P s && isStr P d with
 | true => match vs with
  | [x] => match seen x es with
   | some ⟨.int .u8, l⟩ => .ret (.v .str (bytesStr l), [])
   | _ => .fail
  | _ => .fail
 | false => c_convert0 P s d vs ss
def c_convF (P : Program) (s d : TypeId) (vs : List AV) (es : List Entry) (ss : List ESh) : Tr Out :=
 match vs, es with
 | [.v (.vc e g) u], [.vec g' a l] => (c_convert P s d [.v (.vc e g) u] [.vec g' a l] ss).bind fun r => match r with
  | (.v (.vc e' k) _, []) => if e' = e ∧ k = g ∧ g' = g then .ret (.v (.imm true false a) l, [(e, .dead)]) else .fail
  | _ => .fail
 | vs, es => c_convert P s d vs es ss
def c_appStr (P : Program) (t t2 : TypeId) (s x : AV) (es : List Entry) : Tr Out :=
 match elBytes P t with
 | some by_ => match s with
  | .v (.vc e g) _ => match x with
   | .v .str b => match es with
    | [.vec g' (.int .u8) l] => if g = g' && (elOk P t (.int .u8) && isStr P t2) then .chk (room (l.length + (strBytes b).length) by_) (.ret (.v (.vc e (g + 1)) (), [(e, .vec (g + 1) (.int .u8) (l ++ strBytes b))])) else .fail
    | _ => .fail
   | _ => .fail
  | _ => .fail
 | none => .fail
def c_append (P : Program) (t t2 : TypeId) (vs : List AV) (es : List Entry) (fr : Nat) : Tr Out :=
 match vs with
 | [s, x] => if t = t2 then (match elBytes P t with
  | some by_ => match s with
   | .v .nils _ => if isNils x then .ret (.v .nils (), []) else (match seen x es with
    | some ⟨a, l⟩ => if elOk P t a then .chk (room l.length by_) (.ret (.v (.vc fr 0) (), [(fr, .vec 0 a l)])) else .fail
    | none => .fail)
   | .v (.vc e g) _ => match es with
    | .vec g' a l :: es' => if g = g' && elOk P t a then (if isNils x then .ret (.v (.vc e g) (), []) else (match seen x es' with
     | some y => match castL y a with
      | some m => .chk (room (l.length + m.length) by_) (.ret (.v (.vc e (g + 1)) (), [(e, .vec (g + 1) a (l ++ m))]))
      | none => .fail
     | none => .fail)) else .fail
    | _ => .fail
   | s => c_appT P t by_ s x es fr
  | none => .fail) else c_appStr P t t2 s x es
 | _ => .fail
def c_len (P : Program) (t : TypeId) (vs : List AV) (es : List Entry) : Tr Out :=
 match vs with
 | [.v .str s] => match P.underlying t with
  | some .string => .ret (.v (.int .i64) (s.size : Int), [])
  | _ => .fail
 | [.v .nils _] => match sliceEl P t with
  | some _ => .ret (.v (.int .i64) (0 : Int), [])
  | none => .fail
 | [x] => match sliceEl P t with
  | some _ => match seen x es with
   | some ⟨_, l⟩ => .ret (.v (.int .i64) (l.length : Int), [])
   | none => .fail
  | none => .fail
 | _ => .fail
def manyV (a : Ty) : List AV → Option (List a.den)
 | [] => some []
 | v :: vs => match tvOf v with
  | some t => match castT t a with
   | some x => match manyV a vs with
    | some l => some (x :: l)
    | none => none
   | none => none
  | none => none
def headT : List AV → Option Ty
 | v :: _ => match tvOf v with
  | some t => some t.T
  | none => none
 | [] => none
def lentFs (rec : TypeId → Ty → Ty) : List Field → Ty → Ty
 | f :: fs, .prod a b => .prod (rec f.type a) (lentFs rec fs b)
 | _, T => T
def lentT (P : Program) : Nat → TypeId → Ty → Ty
 | 0, _, T => T
 | n + 1, t, T => match P.underlying t with
  | some (.struct fs) => lentFs (lentT P n) fs.toList T
  | some (.array _ e) => match T with
   | .arr m a => .arr m (lentT P n e a)
   | T => T
  | some (.slice e) => match T with
   | .nils => match zeroT P e with
    | some z => .imm true false (lentT P n e z.T)
    | none => .nils
   | T => T
  | _ => T
def c_buildS (P : Program) (t : TypeId) (n : Nat) (ns : List Nat) (vs : List AV) (fr : Nat) : Tr Out :=
 if ns = List.range n && decide (vs.length = n) then
  (match n with
  | 0 => match sliceEl P t with
   | some e => match zeroT P e with
    | some z => if elOk P t (lentT P depth0 e z.T) then .ret (.v (.vc fr 0) (), [(fr, .vec 0 (lentT P depth0 e z.T) [])]) else .fail
    | none => .fail
   | none => .fail
  | _ => match headT vs with
   | some a => match manyV a vs with
    | some l => if elOk P t a && decide (n * a.nc ≤ 16777216) && (elBytes P t).isSome then .ret (.v (.vc fr 0) (), [(fr, .vec 0 a l)]) else .fail
    | none => .fail
   | none => .fail)
 else .fail
def ownId : AV → List Nat
 | .v (.vc e _) _ => [e]
 | _ => []
def ownIds : List AV → List Nat
 | [] => []
 | v :: vs => ownId v ++ ownIds vs
def bsIds (fz : Bool) (vs : List AV) : List Nat := match fz, vs with
 | false, [.v (.vc _ _) _] => []
 | _, vs => ownIds vs
def nodupB : List Nat → Bool
 | [] => true
 | i :: l => !(l.contains i) && nodupB l
def frzE : List AV → List Entry → Option (List AV)
 | [], _ => some []
 | .v (.vc _ g) _ :: vs, es => match es with
  | .vec g' a l :: es' => if g = g' then (match frzE vs es' with
   | some us => some (.v (.imm true false a) l :: us)
   | none => none) else none
  | _ => none
 | v :: vs, es => match frzE vs es with
  | some us => some (v :: us)
  | none => none
def elT : List AV → Option Ty
 | [] => none
 | .v (.imm _ _ a) _ :: _ => some a
 | .v (.tg _ a) _ :: _ => some a
 | _ :: vs => elT vs
def allP : List AV → Bool
 | [] => true
 | .v (.imm p _ _) _ :: vs => p && allP vs
 | .v (.tg p _) _ :: vs => p && allP vs
 | _ :: vs => allP vs
def weakV (P : Bool) (a : Ty) (v : AV) : AV :=
 match v with
 | .v .nils _ => .v (.imm P false a) []
 | .v (.imm p f b) l => if p || !P then (match castL ⟨b, l⟩ a with
  | some m => .v (.imm P false a) m
  | none => .v (.imm p f b) l) else .v (.imm p f b) l
 | .v (.tg p b) l => if p || !P then (match castL ⟨b, l⟩ a with
  | some m => .v (.imm P false a) m
  | none => .v (.tg p b) l) else .v (.tg p b) l
 | v => v
def weakS (vs : List AV) : List AV :=
 match elT vs with
 | some a => vs.map (weakV (allP vs) a)
 | none => vs
def c_buildSlice (P : Program) (fz : Bool) (t : TypeId) (n : Nat) (ns : List Nat) (vs : List AV) (es : List Entry) (fr : Nat) : Tr Out :=
 match fz, vs with
 | false, [.v (.vc e g) u] => c_buildS P t n ns [.v (.vc e g) u] fr
 | _, vs => if nodupB (ownIds vs) then (match frzE vs es with
  | some us => (c_buildS P t n ns (weakS us) fr).bind fun r => .ret (r.1, ((ownIds vs).map fun e => (e, .dead)) ++ r.2)
  | none => .fail) else .fail
def c_makeSlice (P : Program) (t : TypeId) (vs : List AV) (fr : Nat) : Tr Out :=
 match vs with
 | [.v (.int .i64) n, .v (.int .i64) c] => match sliceEl P t with
  | some e => match zeroT P e with
   | some z => match elBytes P t with
    | some by_ => if elOk P t z.T && decide (z.T.nc = 1) && !z.T.agg then .chk (decide (n = c) && (decide (0 ≤ n) && room n.toNat by_)) (.ret (.v (.vc fr 0) (), [(fr, .vec 0 z.T (List.replicate n.toNat z.x))])) else .fail
    | none => .fail
   | none => .fail
  | none => .fail
 | _ => .fail
def intOf : AV → Option Int
 | .v (.int _) n => some n
 | _ => none
def bnd (b : Bool) (vs : List AV) : Option (Option Int × List AV) :=
 match b with
 | false => some (none, vs)
 | true => match vs with
  | v :: r => match intOf v with
   | some n => some (some n, r)
   | none => none
  | [] => none
def posLo : Option Operand → Bool
 | some (.const (.int _ n)) => decide (0 < n)
 | _ => false
def overL {α : Type} (l m : List α) : List α := m.take l.length ++ l.drop (min m.length l.length)
def c_copy (P : Program) (t : TypeId) (vs : List AV) (es : List Entry) : Tr Out :=
 match vs with
 | [.v (.vc e g) _, x] => match es with
  | .vec g' a l :: es' => if g = g' && elOk P t a then (if isNils x then .ret (.v (.int .i64) (0 : Int), []) else (match seen x es' with
   | some y => match castL y a with
    | some m => .ret (.v (.int .i64) ((min m.length l.length : Nat) : Int), [(e, .vec g a (overL l m))])
    | none => .fail
   | none => .fail)) else .fail
  | _ => .fail
 | [.v (.sub e p) d, x] => match es with
  | .box T b :: es' => match getP T b p d.at_ with
   | some ⟨.arr n a, l⟩ => if elOk P t a then (if isNils x then .ret (.v (.int .i64) (0 : Int), []) else (match seen x es' with
    | some y => match castL y a with
     | some m => match setP T b p d.at_ ⟨.arr n a, l.take d.start ++ (overL ((l.drop d.start).take d.len) m ++ l.drop (d.start + d.len))⟩ with
      | some r => .ret (.v (.int .i64) ((min m.length d.len : Nat) : Int), [(e, .box r.T r.x)])
      | none => .fail
     | none => .fail
    | none => .fail)) else .fail
   | _ => .fail
  | _ => .fail
 | _ => .fail
def arrAt (ss : List ESh) (p : List PS) : Option (Nat × Sk) :=
 match shAt ss p with
 | some (.arr n a) => some (n, a)
 | _ => none
def isPA (P : Program) (t : TypeId) (n : Nat) (s : Sk) : Bool :=
 match P.underlying t with
 | some (.array k e) => decide (k = n) && (sk? P e == some s)
 | some (.pointer r) => match P.underlying r with
  | some (.array k e) => decide (k = n) && (sk? P e == some s)
  | _ => false
 | _ => false
def c_sliceA (P : Program) (t : TypeId) (lo hi mx : Option Int) (x : AV) (ss : List ESh) : Tr Out :=
 match x with
 | .v (.ptr e p) d => match arrAt ss p with
  | some (n, s) => if isPA P t n s && decide (s.nc ≠ 0) && decide (n ≤ 9223372036854775807) && (hi.isSome || mx.isNone) then
    let l := lo.getD 0
    let h := hi.getD n
    let m := mx.getD n
    .chk (decide (0 ≤ l) && (decide (l ≤ h) && (decide (h ≤ m) && decide (m ≤ (n : Int))))) (.ret (.v (.sub e p) ⟨d, l.toNat, (h - l).toNat, decide (h = m)⟩, []))
   else .fail
  | none => .fail
 | .v (.sub e p) d => match sliceEl P t, arrAt ss p with
  | some el, some (_, s) => if (sk? P el == some s) && mx.isNone then
    let l := lo.getD 0
    let h := hi.getD d.len
    .chk (decide (0 ≤ l) && (decide (l ≤ h) && decide (h ≤ (d.len : Int)))) (.ret (.v (.sub e p) ⟨d.at_, d.start + l.toNat, (h - l).toNat, d.tt && decide (h = (d.len : Int))⟩, []))
   else .fail
  | _, _ => .fail
 | .v (.ip q (.arr n a)) xs => if isPA P t n a.sk && decide (a.nc ≠ 0) && decide (n ≤ 9223372036854775807) && mx.isNone then
       let l := lo.getD 0
       let h := hi.getD n
       .chk (decide (0 ≤ l) && (decide (l ≤ h) && decide (h ≤ (n : Int)))) (.ret (.v (.imm q true a) ((xs.take h.toNat).drop l.toNat), []))
   else .fail
 | _ => .fail
def c_slice3 (P : Program) (t : TypeId) (lo hi : Option Int) (m : Int) (x : AV) (es : List Entry) : Tr Out :=
 match x with
 | .v (.imm p _ a) xs => if elOk P t a && hi.isSome then
   let l := lo.getD 0
   let h := hi.getD xs.length
   .chk (decide (0 ≤ l) && (decide (l ≤ h) && (decide (h = m) && decide (h ≤ (xs.length : Int))))) (.ret (.v (.tg p a) ((xs.take h.toNat).drop l.toNat), []))
  else .fail
 | .v (.vc e g) _ => match es with
  | [.vec g' a xs] => if g = g' && elOk P t a && hi.isSome then
    let l := lo.getD 0
    let h := hi.getD xs.length
    .chk (decide (0 ≤ l) && (decide (l ≤ h) && (decide (h = m) && decide (h ≤ (xs.length : Int))))) (.ret (.v (.tg true a) ((xs.take h.toNat).drop l.toNat), [(e, .dead)]))
   else .fail
  | _ => .fail
 | _ => .fail
def c_slice2 (P : Program) (ro : Bool) (t : TypeId) (pos hasLo : Bool) (lo hi : Option Int) (x : AV) (es : List Entry) : Tr Out :=
 match x with
 | .v .str s => match P.underlying t with
  | some .string =>
   let l := lo.getD 0
   let h := hi.getD s.size
   .chk (decide (0 ≤ l) && (decide (l ≤ h) && decide (h ≤ (s.size : Int)))) (.ret (.v .str (s.extract l.toNat h.toNat), []))
  | _ => .fail
 | .v (.imm p f a) xs => if elOk P t a then
   let l := lo.getD 0
   let h := hi.getD xs.length
   .chk (decide (0 ≤ l) && (decide (l ≤ h) && decide (h ≤ (xs.length : Int)))) (.ret (.v (.imm p (pos || f) a) ((xs.take h.toNat).drop l.toNat), []))
  else .fail
 | .v (.vc e g) _ => match hasLo || ro, es with
  | true, [.vec g' a xs] => if g = g' && elOk P t a then
    let l := lo.getD 0
    let h := hi.getD xs.length
    .chk (decide (0 ≤ l) && (decide (l ≤ h) && decide (h ≤ (xs.length : Int)))) (.ret (.v (.sv e g) ⟨(), l.toNat, (h - l).toNat, false⟩, []))
   else .fail
  | false, [.vec g' a xs] => if g = g' && elOk P t a then
    .chk (decide (0 ≤ hi.getD xs.length) && decide (hi.getD xs.length ≤ (xs.length : Int))) (.ret (.v (.vc e (g + 1)) (), [(e, .vec (g + 1) a (xs.take (hi.getD xs.length).toNat))]))
   else .fail
  | _, _ => .fail
 | _ => .fail
def c_slice (P : Program) (ro : Bool) (t : TypeId) (pos hasLo hasHi hasMx : Bool) (vs : List AV) (es : List Entry) (ss : List ESh) : Tr Out :=
 match vs with
 | x :: r => match bnd hasLo r with
  | some (lo, r1) => match bnd hasHi r1 with
   | some (hi, r2) => match bnd hasMx r2 with
    | some (mx, []) => match c_sliceA P t lo hi mx x ss with
     | .fail => match mx with
      | some m => c_slice3 P t lo hi m x es
      | none => c_slice2 P ro t pos hasLo lo hi x es
     | r => r
    | _ => .fail
   | none => .fail
  | none => .fail
 | _ => .fail
def c_extract (i : Nat) : List AV → Tr Out
 | [.tup l] => match l[i]? with
  | some v => .ret (val v)
  | none => .fail
 | _ => .fail
def capT : List AV → Option TV
 | [] => some ⟨.unit, ()⟩
 | a :: l => match tvOf a with
  | some t => match capT l with
   | some r => some ⟨.prod t.T r.T, (t.x, r.x)⟩
   | none => none
  | none => none
def c_makeFunc (fn : Fn) (first : Array Operand) (vs : List AV) : Tr Out :=
 match fn with
 | .func k => if first.isEmpty then (match capT vs with
  | some t => .ret (.v (.fn k t.T) t.x, [])
  | none => .fail) else .fail
 | _ => .fail
def c_builtin (b : Builtin) : List AV → Tr Out
 | [.v (.int k) a, .v (.int k') c] => if k = k' then (match b with
  | .max => .ret (.v (.int k) (maxI a c), [])
  | .min => .ret (.v (.int k) (minI a c), [])
  | _ => .fail) else .fail
 | _ => .fail
def wideF (rec : TypeId → Option Ty) : List Field → Option Ty
 | [] => some .unit
 | f :: fs => match rec f.type with
  | some a => match wideF rec fs with
   | some b => some (.prod a b)
   | none => none
  | none => none
def wideT (P : Program) : Nat → TypeId → Option Ty
 | 0, _ => none
 | n + 1, t => match P.underlying t with
  | some .bool => some .bool
  | some (.int k) => some (.int k)
  | some .string => some .str
  | some (.struct fs) => wideF (wideT P n) fs.toList
  | some (.array k e) => match wideT P n e with
   | some a => some (.arr k a)
   | none => none
  | some (.slice e) => match wideT P n e with
   | some a => some (.imm true false a)
   | none => none
  | _ => none
def asW : (W T : Ty) → T.den → Option W.den
 | .prod a b, T, x => match T, x with
  | .prod c d, x => match asW a c x.1 with
   | some y => match asW b d x.2 with
    | some z => some (y, z)
    | none => none
   | none => none
  | _, _ => none
 | .imm p f a, T, x => match T, x with
  | .nils, _ => if f then none else some []
  | .imm p' f' b, l => if (p' || !p) && (f' || !f) then castL ⟨b, l⟩ a else none
  | _, _ => none
 | W, T, x => castT ⟨T, x⟩ W
def keyAgg (P : Program) (t : TypeId) : Option Ty := match wideT P depth0 t with
 | some K => if cmpTy P depth0 t K && (sk? P t == some K.sk) && !(P.eqGuardType P.depth t) && K.agg then some K else none
 | none => none
def keyTy (P : Program) (t : TypeId) : Option Ty := match P.underlying t with
 | some (.int k) => some (.int k)
 | some .string => some .str
 | some (.struct _) => keyAgg P t
 | some (.array _ _) => keyAgg P t
 | _ => none
def mapLook {K V : Ty} : List (K.den × V.den) → K.den → Option V.den
 | [], _ => none
 | e :: l, x => if eqT K x e.1 then some e.2 else mapLook l x
def mapPut {K V : Ty} : List (K.den × V.den) → K.den → V.den → List (K.den × V.den)
 | [], x, v => [(x, v)]
 | e :: l, x, v => if eqT K x e.1 then (x, v) :: l else e :: mapPut l x v
def mapDel {K V : Ty} : List (K.den × V.den) → K.den → List (K.den × V.den)
 | [], _ => []
 | e :: l, x => if eqT K x e.1 then l else e :: mapDel l x
def c_makeMap (P : Program) (t : TypeId) (fr : Nat) (vs : List AV) : Tr Out :=
 match vs with
 | [] => match P.underlying t with
  | some (.map k e) => match keyTy P k with
   | some K => match wideT P depth0 e with
    | some V => .ret (.v (.mp fr) (), [(fr, .map K V [])])
    | none => .fail
   | none => .fail
  | _ => .fail
 | _ => .fail
def c_lookup (P : Program) (t : TypeId) (ok : Bool) (vs : List AV) (es : List Entry) : Tr Out :=
 match vs, es with
 | [.v (.mp _) _, .v K' x], [.map K V l] => if h : K' = K then (match P.underlying t with
   | some (.map k e) => if keyTy P k = some K then (match zeroT P e with
    | some z => match asW V z.T z.x with
     | some d => match ok with
      | true => .ret (.tup [⟨V, (mapLook l (h ▸ x)).getD d⟩, ⟨.bool, (mapLook l (h ▸ x)).isSome⟩], [])
      | false => .ret (.v V ((mapLook l (h ▸ x)).getD d), [])
     | none => .fail
    | none => .fail) else .fail
   | _ => .fail) else .fail
 | _, _ => .fail
def c_mapUpdate (P : Program) (t : TypeId) (vs : List AV) (es : List Entry) : Tr Out :=
 match vs, es with
 | [.v (.mp e) _, .v K' x, a], [.map K V l] => if h : K' = K then (match P.underlying t with
   | some (.map k _) => if keyTy P k = some K then (match tvOf a with
    | some y => match asW V y.T y.x with
     | some v => .ret (AV.und, [(e, .map K V (mapPut l (h ▸ x) v))])
     | none => .fail
    | none => .fail) else .fail
   | _ => .fail) else .fail
 | _, _ => .fail
def c_delete (P : Program) (t : TypeId) (vs : List AV) (es : List Entry) : Tr Out :=
 match vs, es with
 | [.v (.mp e) _, .v K' x], [.map K V l] => if h : K' = K then (match P.underlying t with
   | some (.map k _) => if keyTy P k = some K then .ret (AV.none, [(e, .map K V (mapDel l (h ▸ x)))]) else .fail
   | _ => .fail) else .fail
 | _, _ => .fail
def mpIds : List AV → List Nat
 | .v (.mp e) _ :: _ => [e]
 | _ => []
def headIds : List AV → List Nat
 | .v (.vc e _) _ :: _ => [e]
 | _ => []
abbrev Fl := Bool × Bool
def c_range (P : Program) (t : TypeId) (fr : Nat) (vs : List AV) : Tr Out :=
 match vs with
 | [.v .str s] => match P.underlying t with
  | some .string => .ret (.v (.ch fr) (), [(fr, .itr s 0)])
  | _ => .fail
 | _ => .fail
def c_next (isString : Bool) (vs : List AV) (es : List Entry) : Tr Out :=
 match isString, vs, es with
 | true, [.v (.ch e) _], [.itr s p] => .ite (decide (p < s.size))
   (.chk (inK .i32 ((Utf8.decode s p).1 : Int)) (.ret (.tup [⟨.bool, true⟩, ⟨.int .i64, (p : Int)⟩, ⟨.int .i32, ((Utf8.decode s p).1 : Int)⟩], [(e, .itr s (p + (Utf8.decode s p).2))]))) (.ret (.tup [⟨.bool, false⟩], []))
 | _, _, _ => .fail
def chIds : List AV → List Nat
 | [.v (.ch e) _] => [e]
 | _ => []
def idsOf (fz : Bool) : Op → List AV → List Nat
 | .load _ _, [.v (.vp e _ _) _] => [e]
 | .store _ _ _, [.v (.vp e _ _) _, _] => [e]
 | .call { callee := .builtin .len, .. }, [x] => vcOf x
 | .buildSlice _ _ _, vs => bsIds fz vs
 | .call { callee := .builtin .append, .. }, [s, x] => vcOf s ++ vcOf x
 | .call { callee := .builtin .copy, .. }, [s, x] => vcOf s ++ vcOf x
 | .slice _ _ _ _ _, vs => headIds vs
 | .convert _ _ _, [x] => vcOf x
 | .load _ _, [.v (.ptr e _) _] => [e]
 | .store _ _ _, [.v (.ptr e _) _, _] => [e]
 | .lookup _ _ _ _, vs => mpIds vs
 | .next _ _, vs => chIds vs
 | .mapUpdate _ _ _ _, vs => mpIds vs
 | .insert _ _ _ _, vs => mpIds vs
 | .call { callee := .builtin .delete, .. }, vs => mpIds vs
 | _, _ => []
def shsOf : Op → List AV → List Nat
 | .fieldAddr _ _ _, [.v (.ptr e _) _] => [e]
 | .fieldAddr _ _ _, [.v (.vp e _ _) _] => [e]
 | .indexAddr _ _ _, [.v (.ptr e _) _, _] => [e]
 | .indexAddr _ _ _, [.v (.vc e _) _, _] => [e]
 | .convert _ _ _, [.v (.vc e _) _] => [e]
 | .slice _ _ _ _ _, .v (.ptr e _) _ :: _ => [e]
 | .slice _ _ _ _ _, .v (.sub e _) _ :: _ => [e]
 | _, _ => []
def newOf : Op → Nat
 | .alloc _ | .box _ _ | .buildSlice _ _ _ | .makeSlice _ _ _ | .makeMap _ _ | .range _ _ | .call { callee := .builtin .append, .. } => 1
 | _ => 0
def core (P : Program) (ro : Fl) (o : Op) (vs : List AV) (es : List Entry) (ss : List ESh) (fr : Nat) : Tr Out :=
 match o with
 | .move _ => c_move vs
 | .assign _ => c_move vs
 | .pick _ _ _ => c_pick vs
 | .alloc t => c_alloc P t fr
 | .box _ _ => c_box vs fr
 | .build t ps => c_build P t (ps.toList.map (·.1)) vs
 | .load t _ => c_load P t vs es
 | .store t _ _ => c_store P t vs es
 | .nilCheck _ => c_nilCheck vs
 | .binOp op t _ _ _ => c_bin P op t vs
 | .unOp op _ _ => c_un op vs
 | .convert s d _ => match ro.2 with
  | true => c_convF P s d vs es ss
  | false => c_convert P s d vs es ss
 | .fieldAddr t _ f => c_fieldAddr P t f vs ss
 | .field t _ f => c_field P t f vs
 | .indexAddr t _ _ => c_indexAddr P t vs ss
 | .index t _ _ => c_index P t vs
 | .extract _ i => c_extract i vs
 | .makeFunc fn first _ => c_makeFunc fn first vs
 | .buildSlice t n ps => c_buildSlice P ro.2 t n (ps.toList.map (·.1)) vs es fr
 | .makeSlice t _ _ => c_makeSlice P t vs fr
 | .slice t _ lo hi mx => c_slice P (ro.1 && !ro.2) t (posLo lo) lo.isSome hi.isSome mx.isSome vs es ss
 | .sliceToArrayPointer t _ => c_s2ap P t vs
 | .call { callee := .builtin .len, argTypes, .. } => match argTypes[0]? with
  | some t => c_len P t vs es
  | none => .fail
 | .call { callee := .builtin .append, argTypes, .. } => match argTypes.toList with
  | [t, t2] => c_append P t t2 vs es fr
  | _ => .fail
 | .call { callee := .builtin .copy, argTypes, .. } => match argTypes[0]? with
  | some t => c_copy P t vs es
  | none => .fail
 | .call { callee := .builtin .delete, argTypes, .. } => match argTypes[0]? with
  | some t => c_delete P t vs es
  | none => .fail
 | .call { callee := .builtin b, .. } => c_builtin b vs
 | .makeMap t _ => c_makeMap P t fr vs
 | .lookup t _ _ ok => c_lookup P t ok vs es
 | .range t _ => c_range P t fr vs
 | .next _ b => c_next b vs es
 | .mapUpdate t _ _ _ => c_mapUpdate P t vs es
 | .insert t _ _ _ => c_mapUpdate P t vs es
 | _ => .fail
def opArgs : Op → List Operand
 | .sliceToArrayPointer _ x | .move x | .assign x | .box _ x | .load _ x | .nilCheck x | .unOp _ _ x | .convert _ _ x | .fieldAddr _ x _ | .field _ x _ | .extract x _ => [x]
 | .pick c a b => [c, a, b]
 | .alloc _ => []
 | .range _ x | .next x _ => [x]
 | .build _ ps | .buildSlice _ _ ps => ps.toList.map (·.2)
 | .slice _ x lo hi mx => x :: (lo.toList ++ (hi.toList ++ mx.toList))
 | .makeSlice _ l c => [l, c]
 | .makeMap _ r => r.toList
 | .lookup _ a v _ => [a, v]
 | .mapUpdate _ a k v | .insert _ a k v => [a, k, v]
 | .makeFunc _ _ captured => captured.toList
 | .store _ a v | .binOp _ _ a v _ | .indexAddr _ a v | .index _ a v => [a, v]
 | .call { callee := .builtin _, args, .. } => args.toList
 | _ => [.const (.tuple #[])]
end Vse
end
section
set_option linter.unusedVariables false
namespace Vse
open Go
structure CSpec where
 new : Nat
 ids : List AV → Heap → List Nat
 wr : List AV → Heap → List Nat
 core : List AV → List Entry → Nat → Tr Out
abbrev Ctx := Nat → Option CSpec
def CSpec.pure (f : List AV → Tr AV) : CSpec := ⟨0, fun _ _ => [], fun _ _ => [], fun vs _ _ => (f vs).bind fun v => .ret (v, [])⟩
def ev (env : List AV) : Operand → AV
 | .tmp t => getV env t
 | .const v => .v (ofVal v).T (ofVal v).x
 | .func f => .v (.fn f .unit) ()
 | .global _ => .und
def evs (env : List AV) : List Operand → List AV
 | [] => []
 | o :: os => ev env o :: evs env os
def ents (H : Heap) : List Nat → List Entry
 | [] => []
 | i :: is => getE H i :: ents H is
def shs (H : Heap) : List Nat → List ESh
 | [] => []
 | i :: is => shp (getE H i) :: shs H is
def caps : (c : Ty) → c.den → Option (List AV)
 | .unit, _ => some []
 | .prod a b, x => (caps b x.2).bind fun l => some (.v a x.1 :: l)
 | _, _ => none
def callOf (env : List AV) : Op → Option (Nat × List AV)
 | .call { callee := .value f, args, .. } => match ev env f with
  | .v (.fn k c) x => match caps c x with
   | some l => some (k, evs env args.toList ++ l)
   | none => none
  | _ => none
 | _ => none
def isCall : Op → Bool
 | .call { callee := .value _, .. } => true
 | _ => false
def isFree : Heap → Nat → Bool
 | [], _ => false
 | .free :: _, 0 => true
 | _ :: _, 0 => false
 | _ :: h, n + 1 => isFree h n
def freeAt (H : Heap) (fr : Nat) : Nat → Bool
 | 0 => true
 | n + 1 => isFree H fr && freeAt H (fr + 1) n
def outT (P : Program) (C : Ctx) (ro : Fl) (o : Oper) (fr : Nat) (env : List AV) (H : Heap) : Tr Out :=
 if isCall o.op then
  match callOf env o.op with
  | some (k, vs) => match C k with
   | some c => if freeAt H fr c.new then c.core vs (ents H (c.ids vs H)) fr else .fail
   | none => .fail
  | none => .fail
 else if freeAt H fr (newOf o.op) then
  core P ro o.op (evs env (opArgs o.op)) (ents H (idsOf ro.2 o.op (evs env (opArgs o.op)))) (shs H (shsOf o.op (evs env (opArgs o.op)))) fr
 else .fail
def opT (P : Program) (C : Ctx) (ro : Fl) (o : Oper) (fr : Nat) (st : St) : Tr St :=
 (outT P C ro o fr st.env st.heap).bind fun r => .ret ⟨putV st.env o.dst r.1, upd st.heap r.2⟩
def dstOf (ops : List Oper) (j : Nat) : Option Nat := (ops[j]?).bind (·.dst)
def fzOf (ops : List Oper) (o : Oper) : Bool := match o.op, o.dst with
 | .buildSlice _ 1 _, some d => ops.any fun p => match p.op with
  | .call { callee := .builtin .append, args, .. } => match args.toList with
   | [_, .tmp e] => decide (e = d)
   | _ => false
  | _ => false
 | .convert s t (.tmp x), some d => decide (s = t) && (ops.any (fun p => match p.op with
  | .buildSlice _ _ _ => p.dst == some x
  | _ => false) && ops.any fun p => match p.op with
  | .build _ ps => ps.toList.any fun q => match q.2 with
   | .tmp e => decide (e = d)
   | _ => false
  | _ => false)
 | .slice _ _ none (some _) none, some d => ops.any fun p => match p.op with
  | .store _ _ (.tmp e) => decide (e = d)
  | _ => false
 | _, _ => false
def stepT (P : Program) (C : Ctx) (ro : Fl) (ops : List Oper) (o : Oper) (fr : Nat) (st : St) : Tr St :=
 match o.guard with
 | none => opT P C ro o fr st
 | some (j, want) =>
  match dstOf ops j with
  | some d => match getV st.env d with
   | .v .bool b => .ite b
     (match want with | true => opT P C ro o fr ⟨setV st.env d (.v .bool true), st.heap⟩ | false => .ret ⟨putV (setV st.env d (.v .bool true)) o.dst AV.none, st.heap⟩)
     (match want with | false => opT P C ro o fr ⟨setV st.env d (.v .bool false), st.heap⟩ | true => .ret ⟨putV (setV st.env d (.v .bool false)) o.dst AV.none, st.heap⟩)
   | .tup _ => .ret ⟨putV st.env o.dst AV.none, st.heap⟩
   | _ => .fail
  | none => .fail
def newS (C : Ctx) (o : Oper) : Nat :=
 match o.op with
 | .call { callee := .value (.func f), .. } => match C f with | some c => c.new | none => 0
 | .call { callee := .value _, .. } => 4
 | p => newOf p
def bases (C : Ctx) : List Oper → Nat → List (Nat × Oper)
 | [], _ => []
 | o :: os, n => (n, o) :: bases C os (n + newS C o)
def opsT (P : Program) (C : Ctx) (ops : List Oper) : List (Nat × Oper) → St → Tr St
 | [], st => .ret st
 | o :: os, st => (stepT P C (false, fzOf ops o.2) ops o.2 o.1 st).bind fun st' => opsT P C ops os st'
structure FP where
 rd : List Nat
 sh : List Nat
 wr : List Nat
 ws : List Nat
 fr : Nat
 new : Nat
 deriving DecidableEq
def wrOf (fz : Bool) : Op → List AV → List Nat
 | .store _ _ _, [.v (.ptr e _) _, _] => [e]
 | .store _ _ _, [.v (.vp e _ _) _, _] => [e]
 | .call { callee := .builtin .append, .. }, [s, _] => vcOf s
 | .call { callee := .builtin .copy, .. }, [s, _] => vcOf s
 | .slice _ _ _ _ mx, vs => if mx.isSome || fz then headIds vs else []
 | .buildSlice _ _ _, vs => bsIds fz vs
 | .convert _ _ _, [x] => if fz then vcOf x else []
 | .mapUpdate _ _ _ _, vs => mpIds vs
 | .insert _ _ _ _, vs => mpIds vs
 | .call { callee := .builtin .delete, .. }, vs => mpIds vs
 | .next _ _, vs => chIds vs
 | _, _ => []
def wsOf (fz : Bool) : Op → List AV → List Nat
 | .call { callee := .builtin .append, .. }, [s, _] => vcOf s
 | .call { callee := .builtin .copy, .. }, [s, _] => vcOf s
 | .slice _ _ _ _ mx, vs => if mx.isSome || fz then headIds vs else []
 | .buildSlice _ _ _, vs => bsIds fz vs
 | .convert _ _ _, [x] => if fz then vcOf x else []
 | _, _ => []
def fpOf (C : Ctx) (fz : Bool) (o : Oper) (fr : Nat) (st : St) : FP :=
 if isCall o.op then
  match callOf st.env o.op with
  | some (k, vs) => match C k with
   | some c => ⟨c.ids vs st.heap, [], c.wr vs st.heap, c.wr vs st.heap, fr, c.new⟩
   | none => ⟨[], [], [], [], fr, 0⟩
  | none => ⟨[], [], [], [], fr, 0⟩
 else ⟨idsOf fz o.op (evs st.env (opArgs o.op)), shsOf o.op (evs st.env (opArgs o.op)), wrOf fz o.op (evs st.env (opArgs o.op)), wsOf fz o.op (evs st.env (opArgs o.op)), fr, newOf o.op⟩
def apart (l m : List Nat) : Bool := l.all fun x => !(m.contains x)
def within (fr n : Nat) (l : List Nat) : Bool := l.any fun x => decide (fr ≤ x) && decide (x < fr + n)
def FP.clear (a b : FP) : Bool :=
 apart a.wr b.rd && apart a.wr b.wr && apart a.ws b.sh && !(within a.fr a.new b.rd) && !(within a.fr a.new b.wr) && !(within a.fr a.new b.sh) && !(within b.fr b.new a.wr)
def FP.indep (a b : FP) : Bool := a.clear b && b.clear a && (decide (a.fr + a.new ≤ b.fr) || decide (b.fr + b.new ≤ a.fr))
def opd : Operand → List Nat
 | .tmp t => [t]
 | _ => []
def readsOf (ops : List Oper) (o : Oper) : List Nat :=
 (match o.op with
 | .call { callee := .value f, args, .. } => opd f ++ args.toList.flatMap opd
 | p => (opArgs p).flatMap opd) ++
 (match o.guard with
 | some (j, _) => (dstOf ops j).toList
 | none => [])
def slotsApart (ops : List Oper) (a b : Oper) : Bool :=
 match a.dst with
 | none => true
 | some d => b.dst != some d && !((readsOf ops b).contains d)
def opsF (P : Program) (C : Ctx) (ops : List Oper) : List (Nat × Oper) → St → List FP → Tr (St × List FP)
 | [], st, fs => .ret (st, fs)
 | o :: os, st, fs => (stepT P C (true, fzOf ops o.2) ops o.2 o.1 st).bind fun st' => opsF P C ops os st' (fs ++ [fpOf C (fzOf ops o.2) o.2 o.1 st])
def maskOf (acc : List Nat) : List Edge → Nat
 | [] => 0
 | e :: es => if Region.binds .any e then 2 ^ e.on ||| acc.getD e.on 0 ||| maskOf acc es else maskOf acc es
def masks : List Oper → List Nat → List Nat
 | [], acc => acc
 | o :: os, acc => masks os (acc ++ [maskOf acc o.after.toList])
def edgesOk : List Oper → Nat → Bool
 | [], _ => true
 | o :: os, n => (o.after.toList.all fun e => !(Region.binds .any e) || decide (e.on < n)) && edgesOk os (n + 1)
def pairOk (ops : List Oper) (ms : List Nat) (fs : List FP) (i j : Nat) : Bool :=
 (ms.getD j 0).testBit i ||
  match ops[i]?, ops[j]?, fs[i]?, fs[j]? with
  | some a, some b, some f, some g => slotsApart ops a b && slotsApart ops b a && f.indep g
  | _, _, _, _ => false
def drawOk (ops : List Oper) (fs : List FP) : Bool :=
 let ms := masks ops []
 edgesOk ops 0 && (List.range ops.length).all fun j => (List.range j).all fun i => pairOk ops ms fs i j
def newAll (C : Ctx) : List Oper → Nat
 | [] => 0
 | o :: os => newS C o + newAll C os
def widen (st : St) (n : Nat) : St :=
 match n with
 | 0 => st
 | _ => ⟨st.env, st.heap ++ frees n⟩
inductive Ex
 | normal | exit (id : Nat) | ret
 deriving DecidableEq
def firstReg : Code → Option Nat
 | .region id _ _ => some id
 | .seq a b => match firstReg a with | some i => some i | none => firstReg b
 | .cond _ a b => match firstReg a with | some i => some i | none => firstReg b
 | .block _ c | .loop c | .scope c => firstReg c
 | _ => none
abbrev Loops := Nat → St → Tr (Ex × St)
def run (P : Program) (C : Ctx) (L : Loops) : Code → St → Tr (Ex × St)
 | .skip, st => .ret (.normal, st)
 | .label _, st => .ret (.normal, st)
 | .region _ ops draw, st =>
  match draw with
  | false => (opsT P C ops.toList (bases C ops.toList st.heap.length) (widen st (newAll C ops.toList))).bind fun s => .ret (.normal, s)
  | true => (opsF P C ops.toList (bases C ops.toList st.heap.length) (widen st (newAll C ops.toList)) []).bind fun s => if P.follows .mixedOrders && drawOk ops.toList s.2 then .ret (.normal, s.1) else .fail
 | .seq a b, st => (run P C L a st).bind fun r => match r with
  | (.normal, s) => run P C L b s
  | r => .ret r
 | .cond c a b, st => match ev st.env c with
  | .v .bool t => .ite t (run P C L a st) (run P C L b st)
  | _ => .fail
 | .block id c, st => (run P C L c st).bind fun r => match r with
  | (.exit i, s) => if i = id then .ret (.normal, s) else .ret (.exit i, s)
  | r => .ret r
 | .loop c, st => match firstReg c with
  | some i => L i st
  | none => .fail
 | .exit id, st => .ret (.exit id, st)
 | .ret, st => .ret (.ret, st)
 | _, _ => .fail
def resAV (P : Program) (st : St) : ResultVar → Option AV
 | .tmp t => some (getV st.env t)
 | .cell a t => match getV st.env a with
  | .v (.ptr e []) _ => match getE st.heap e with
   | .box T x => if sk? P t = some T.sk then some (.v T x) else none
   | _ => none
  | _ => none
def resAVs (P : Program) (st : St) : List ResultVar → Option (List AV)
 | [] => some []
 | r :: rs => match resAV P st r with
  | some a => match resAVs P st rs with
   | some l => some (a :: l)
   | none => none
  | none => none
def resT (P : Program) (fn : Func) (st : St) : Option AV :=
 match resAVs P st fn.results.toList with
 | some [a] => some a
 | some l => match tvsOf l with
  | some ts => some (.tup ts)
  | none => none
 | none => none
def begin_ (fn : Func) (args : List AV) (H : Heap) : St := ⟨args ++ List.replicate (fn.ntmps - args.length) AV.none, H⟩
def fnT (P : Program) (C : Ctx) (L : Loops) (fn : Func) (args : List AV) (H : Heap) : Tr (AV × Heap) :=
 match fn.body with
 | some c => (run P C L c (begin_ fn args H)).bind fun r => match r with
  | (.exit _, _) => .fail
  | (_, s) => match resT P fn s with
   | some v => .ret (v, s.heap)
   | none => .fail
 | none => .fail
end Vse
end
section
set_option linter.unusedVariables false
namespace Vse
open Go
structure G where
 fr : Nat → Option Obj
 gr : Nat → Option Obj
 bl : Nat → Option Nat
 sz : Nat → Nat
 sh : Nat → ESh
 ext : ((Os × Array (Nat × ByteArray) × (Nat → Question → Nat)) × Nat) × List Deferred
def reads (F : Nat → Option Obj) (a : Addr) (vs : List Value) : Prop :=
 a.spot = none ∧ ∃ cs t fz, F a.block = some (.cells cs t fz) ∧ ∀ i v, vs[i]? = some v → cs[a.off + i]? = some v
def repL {α : Type} (R : α → List Value → Prop) : List α → List Value → Prop
 | [], cs => cs = []
 | x :: l, cs => ∃ c1 c2, cs = c1 ++ c2 ∧ R x c1 ∧ repL R l c2
def one (cs : List Value) : Prop := ∃ v, cs = [v] ∧ v.oneCell' = true
def ptd (cs : List Value) : Prop := ∃ a, cs = [.pointer (some a)]
def G.vcr (g : G) (e gn : Nat) (Q : Nat → Sk → Nat → Prop) : Prop :=
 match g.sh e with
 | .vec g' s n => gn ≤ g' ∧ (gn = g' → Q g' s n)
 | .dead => True
 | _ => False
def G.bxr (g : G) (e : Nat) (Q : Sk → Prop) : Prop :=
 match g.sh e with
 | .box s => Q s
 | .dead => True
 | _ => False
def G.mpr (g : G) (e : Nat) (Q : Prop) : Prop :=
 match g.sh e with
 | .map => Q
 | .dead => True
 | _ => False
def vpoff : Sk → Nat → (p : List PS) → PD p → Option (Nat × Sk)
 | s, n, .idx :: p, d => if d.1 < n then (poff s p d.2).map fun r => (d.1 * s.nc + r.1, r.2) else none
 | _, _, _, _ => none
def Rep (g : G) : (T : Ty) → T.den → List Value → Prop
 | .bool, b, cs => cs = [.bool b]
 | .int k, n, cs => cs = [.int k n] ∧ inK k n = true
 | .str, s, cs => cs = [.string s] ∧ s.size ≤ 9223372036854775807
 | .unit, _, cs => cs = []
 | .und, _, _ => False
 | .prod a b, x, cs => ∃ c1 c2, cs = c1 ++ c2 ∧ Rep g a x.1 c1 ∧ Rep g b x.2 c2
 | .arr n a, l, cs => l.length = n ∧ repL (Rep g a) l cs
 | .imm p f a, l, cs => ∃ pv cap, cs = [.slice pv l.length cap] ∧ (l.length ≤ cap ∧ cap ≤ 9223372036854775807) ∧ (f = true → pv ≠ none) ∧
   (l ≠ [] → ∃ ad vs, pv = some ad ∧ repL (Rep g a) l vs ∧ (reads g.fr ad vs ∨ (p = false ∧ reads g.gr ad vs)))
 | .tg p a, l, cs => ∃ pv, cs = [.slice pv l.length l.length] ∧ l.length ≤ 9223372036854775807 ∧
   (l ≠ [] → ∃ ad vs, pv = some ad ∧ repL (Rep g a) l vs ∧ (reads g.fr ad vs ∨ (p = false ∧ reads g.gr ad vs)))
 | .nils, _, cs => cs = [.slice none 0 0]
 | .vc e gn, _, cs => one cs ∧ g.vcr e gn fun _ s n =>
   (g.bl e = none ∧ n = 0 ∧ ∃ pv, cs = [.slice pv 0 0]) ∨ ∃ b cap, g.bl e = some b ∧ cs = [.slice (some ⟨b, 0, none⟩) n cap] ∧ (n ≤ cap ∧ cap ≤ 9223372036854775807) ∧ cap * s.nc ≤ g.sz e
 | .sv e gn, d, cs => one cs ∧ g.vcr e gn fun _ s n => ∃ pv cap, cs = [.slice pv d.len cap] ∧ (d.len ≤ cap ∧ cap ≤ 9223372036854775807) ∧ (d.tt = true → cap = d.len) ∧ d.start + d.len ≤ n ∧
   (d.len ≠ 0 → ∃ b, g.bl e = some b ∧ pv = some ⟨b, d.start * s.nc, none⟩)
 | .vp e gn p, d, cs => ptd cs ∧ g.vcr e gn fun _ s n => ∃ b off s', g.bl e = some b ∧ vpoff s n p d = some (off, s') ∧ cs = [.pointer (some ⟨b, off, none⟩)]
 | .sub e p, d, cs => one cs ∧ g.bxr e fun s => ∃ pv cap b off n a, g.bl e = some b ∧ poff s p d.at_ = some (off, .arr n a) ∧ cs = [.slice pv d.len cap] ∧
   (d.len ≤ cap ∧ cap ≤ 9223372036854775807) ∧ (d.tt = true → cap = d.len) ∧ d.start + d.len ≤ n ∧ (d.len ≠ 0 → pv = some ⟨b, off + d.start * a.nc, none⟩)
 | .nilp, _, cs => cs = [.pointer none]
 | .ptr e p, d, cs => ptd cs ∧ g.bxr e fun s => ∃ b off s', g.bl e = some b ∧ poff s p d = some (off, s') ∧ cs = [.pointer (some ⟨b, off, none⟩)]
 | .ip p a, x, cs => ∃ ad vs, cs = [.pointer (some ad)] ∧ Rep g a x vs ∧ (reads g.fr ad vs ∨ (p = false ∧ reads g.gr ad vs))
 | .nilm, _, cs => cs = [.map none]
 | .nilf, _, cs => cs = [.nilFunc]
 | .nili, _, cs => cs = [.nilIface]
 | .fn f c, x, cs => ∃ vs : Array Value, cs = [.func (.func f) #[] vs] ∧ RepC g c x vs.toList
 | .mp e, _, cs => one cs ∧ g.mpr e (∃ b, g.bl e = some b ∧ cs = [.map (some b)])
 | .it e, _, cs => cs = [.func (.yield e) #[] #[]]
 | .ch e, _, cs => one cs ∧ g.mpr e (∃ b, g.bl e = some b ∧ cs = [.pointer (some ⟨b, 0, none⟩)])
where
 RepC (g : G) : (T : Ty) → T.den → List Value → Prop
 | .unit, _, vs => vs = []
 | .prod a b, x, vs => ∃ v r, vs = v :: r ∧ (if a.agg then ∃ cs : Array Value, v = .agg cs ∧ Rep g a x.1 cs.toList else Rep g a x.1 [v]) ∧ RepC g b x.2 r
 | _, _, _ => False
def TRep (g : G) (T : Ty) (x : T.den) (v : Value) : Prop :=
 if T.agg then ∃ cs : Array Value, v = .agg cs ∧ Rep g T x cs.toList else Rep g T x [v]
def tupRep (g : G) : List TV → List Value → Prop
 | [], vs => vs = []
 | t :: ts, vs => ∃ v r, vs = v :: r ∧ TRep g t.T t.x v ∧ tupRep g ts r
def VRep (g : G) : AV → Value → Prop
 | .v .und _, _ => True
 | .v T x, v => TRep g T x v
 | .tup l, v => ∃ vs : Array Value, v = .tuple vs ∧ tupRep g l vs.toList
def Entry.live : Entry → Bool
 | .box _ _ => true
 | .vec _ _ _ => true
 | .map _ _ _ => true
 | .itr _ _ => true
 | _ => false
def thawed (cs : Array Value) (fz : Nat × Nat) : Prop := fz.1 = fz.2 ∨ cs.size ≤ fz.1
def mapRep {α β : Type} (R : α → Value → Prop) (S : β → Value → Prop) : List (α × β) → List MapEntry → Prop
 | [], es => es = []
 | x :: l, es => ∃ e r, es = e :: r ∧ R x.1 e.key ∧ S x.2 e.val ∧ mapRep R S l r
def ERep (g : G) (e : Nat) (w : World) : Entry → Prop
 | .box T x => ∃ b cs t fz, g.bl e = some b ∧ w.heap[b]? = some (.cells cs t fz) ∧ thawed cs fz ∧ Rep g T x cs.toList
 | .vec _ a l => (g.bl e = none ∧ l = []) ∨ ∃ b cs t fz vs r, g.bl e = some b ∧ w.heap[b]? = some (.cells cs t fz) ∧ thawed cs fz ∧
   g.sz e = cs.size ∧ cs.toList = vs ++ r ∧ repL (Rep g a) l vs ∧ ∀ v ∈ r, v.oneCell' = true
 | .map K V l => ∃ b es clock, g.bl e = some b ∧ w.heap[b]? = some (.map es clock) ∧ mapRep (fun x v => TRep g K x v) (fun x v => TRep g V x v) l es.toList
 | .itr s p => s.size ≤ 9223372036854775807 ∧ ∃ b, g.bl e = some b ∧ w.heap[b]? = some (.stringIter s p)
 | _ => True
def Face (w : World) (x : (Os × Array (Nat × ByteArray) × (Nat → Question → Nat)) × Nat) : Prop := (w.os, w.output, w.tape) = x.1 ∧ x.2 ≤ w.drawn
def Goes (w w' : World) : Prop := (w'.os, w'.output, w'.tape) = (w.os, w.output, w.tape) ∧ w.drawn ≤ w'.drawn
theorem Face.goes {w w' : World} {x : (Os × Array (Nat × ByteArray) × (Nat → Question → Nat)) × Nat} (h : Face w x) (hx : Goes w w') : Face w' x := ⟨hx.1.trans h.1, Nat.le_trans h.2 hx.2⟩
theorem Goes.refl (w : World) : Goes w w := ⟨rfl, Nat.le_refl _⟩
theorem Goes.drew (w : World) : Goes w w.drew := ⟨rfl, Nat.le_succ _⟩
structure HInv (g : G) (H : Heap) (w : World) : Prop where
 sh : ∀ e, g.sh e = shp (getE H e)
 fr : ∀ b o, g.fr b = some o → w.heap[b]? = some o
 gr : ∀ b o, g.gr b = some o → w.heap[b]? = some o
 ent : ∀ e, ERep g e w (getE H e)
 own : ∀ e b, (getE H e).live = true → g.bl e = some b → g.fr b = none ∧ g.gr b = none
 sep : ∀ b o o', g.fr b = some o → g.gr b = some o' → False
 dis : ∀ e e' b, (getE H e).live = true → (getE H e').live = true → g.bl e = some b → g.bl e' = some b → e = e'
 ext : Face w g.ext.1
inductive Turn (g g' : G) (e : Nat) : Prop
 | same (h1 : g'.sh e = g.sh e) (h2 : g'.bl e = g.bl e) (h3 : g'.sz e = g.sz e)
 | dead (h1 : g'.sh e = .dead)
 | grew {k s n k' s' n'} (h1 : g.sh e = .vec k s n) (h2 : g'.sh e = .vec k' s' n') (h3 : k < k')
 | new (h1 : g.sh e = .free)
structure G.le (g g' : G) : Prop where
 fr : ∀ b o, g.fr b = some o → g'.fr b = some o
 gr : g'.gr = g.gr
 ext : g'.ext = g.ext
 ent : ∀ e, Turn g g' e
theorem G.le.refl (g : G) : g.le g := ⟨fun _ _ h => h, rfl, rfl, fun _ => .same rfl rfl rfl⟩
theorem Turn.trans {g g' g'' : G} {e : Nat} (h : Turn g g' e) (h' : Turn g' g'' e) : Turn g g'' e := by
 cases h with
 | same a b c =>
  cases h' with
  | same a' b' c' => exact .same (a'.trans a) (b'.trans b) (c'.trans c)
  | dead a' => exact .dead a'
  | grew a' b' c' => exact .grew (a ▸ a') b' c'
  | new a' => exact .new (a ▸ a')
 | dead a =>
  cases h' with
  | same a' b' c' => exact .dead (a'.trans a)
  | dead a' => exact .dead a'
  | grew a' b' c' => rw [a] at a'; cases a'
  | new a' => rw [a] at a'; cases a'
 | grew a b c =>
  cases h' with
  | same a' b' c' => exact .grew a (a'.trans b) c
  | dead a' => exact .dead a'
  | grew a' b' c' =>
   rw [b] at a'; cases a'
   exact .grew a b' (Nat.lt_trans c c')
  | new a' => rw [b] at a'; cases a'
 | new a => exact .new a
theorem G.le.trans {g g' g'' : G} (h : g.le g') (h' : g'.le g'') : g.le g'' :=
 ⟨fun b o x => h'.fr b o (h.fr b o x), h'.gr.trans h.gr, h'.ext.trans h.ext, fun e => (h.ent e).trans (h'.ent e)⟩
theorem repL_mono {α : Type} {R R' : α → List Value → Prop} {l : List α} : (∀ x, x ∈ l → ∀ cs, R x cs → R' x cs) → ∀ {cs}, repL R l cs → repL R' l cs := by
 induction l with
 | nil => intro _ cs h; exact h
 | cons x l ih =>
  rintro h cs ⟨c1, c2, rfl, h1, h2⟩
  exact ⟨c1, c2, rfl, h x (by simp) _ h1, ih (fun y hy => h y (by simp [hy])) h2⟩
structure G.leC (g g' : G) : Prop where
 fr : ∀ b cs t fz, g.fr b = some (.cells cs t fz) → g'.fr b = some (.cells cs t fz)
 gr : ∀ b cs t fz, g.gr b = some (.cells cs t fz) → g'.gr b = some (.cells cs t fz)
 ent : ∀ e, Turn g g' e
theorem G.le.c {g g' : G} (h : g.le g') : g.leC g' := ⟨fun b _ _ _ => h.fr b _, fun b _ _ _ hb => by rw [h.gr]; exact hb, h.ent⟩
theorem reads_monoC {F F' : Nat → Option Obj} (h : ∀ b cs t fz, F b = some (.cells cs t fz) → F' b = some (.cells cs t fz)) {a : Addr} {vs : List Value} (hr : reads F a vs) : reads F' a vs := by
 obtain ⟨h0, cs, t, fz, h1, h2⟩ := hr
 exact ⟨h0, cs, t, fz, h _ _ _ _ h1, h2⟩
theorem vcr_monoC {g g' : G} (h : g.leC g') {e gn : Nat} {Q Q' : Nat → Sk → Nat → Prop}
  (hq : g'.bl e = g.bl e → g'.sz e = g.sz e → ∀ k s n, Q k s n → Q' k s n) (hr : g.vcr e gn Q) : g'.vcr e gn Q' := by
 unfold G.vcr at hr ⊢
 cases h.ent e with
 | same a b c =>
  rw [a]
  cases hs : g.sh e <;> simp only [hs] at hr ⊢
  exact ⟨hr.1, fun hx => hq b c _ _ _ (hr.2 hx)⟩
 | dead a => rw [a]; trivial
 | grew a b c => rw [a] at hr; rw [b]; exact ⟨Nat.le_trans hr.1 (Nat.le_of_lt c), fun hx => by have := hr.1; omega⟩
 | new a => rw [a] at hr; exact hr.elim
theorem bxr_monoC {g g' : G} (h : g.leC g') {e : Nat} {Q Q' : Sk → Prop}
  (hq : g'.bl e = g.bl e → ∀ s, Q s → Q' s) (hr : g.bxr e Q) : g'.bxr e Q' := by
 unfold G.bxr at hr ⊢
 cases h.ent e with
 | same a b c =>
  rw [a]
  cases hs : g.sh e <;> simp only [hs] at hr ⊢
  exact hq b _ hr
 | dead a => rw [a]; trivial
 | grew a b c => rw [a] at hr; exact hr.elim
 | new a => rw [a] at hr; exact hr.elim
theorem mpr_monoC {g g' : G} (h : g.leC g') {e : Nat} {Q Q' : Prop} (hq : g'.bl e = g.bl e → Q → Q') (hr : g.mpr e Q) : g'.mpr e Q' := by
 unfold G.mpr at hr ⊢
 cases h.ent e with
 | same a b c =>
  rw [a]
  cases hs : g.sh e <;> simp only [hs] at hr ⊢
  exact hq b hr
 | dead a => rw [a]; trivial
 | grew a b c => rw [a] at hr; exact hr.elim
 | new a => rw [a] at hr; exact hr.elim
theorem mapRep_mono {α β : Type} {R R' : α → Value → Prop} {S S' : β → Value → Prop} (hR : ∀ x v, R x v → R' x v) (hS : ∀ x v, S x v → S' x v) : ∀ {l : List (α × β)} {es : List MapEntry}, mapRep R S l es → mapRep R' S' l es
 | [], _, h => h
 | x :: l, _, ⟨e, r, h1, h2, h3, h4⟩ => ⟨e, r, h1, hR _ _ h2, hS _ _ h3, mapRep_mono hR hS h4⟩
theorem Rep_monoC {g g' : G} (h : g.leC g') : ∀ (T : Ty) (x : T.den) (cs : List Value), (Rep g T x cs → Rep g' T x cs) ∧ (Rep.RepC g T x cs → Rep.RepC g' T x cs) := by
 intro T
 induction T with
 | bool | int | str | und | nils | nilp | nilm | nilf | nili | it => intro x cs; exact ⟨fun hr => hr, fun hr => by simp [Rep.RepC] at hr⟩
 | mp e | ch e =>
  intro x cs
  refine ⟨fun hr => ⟨hr.1, mpr_monoC h (fun hb hq => ?_) hr.2⟩, fun hr => by simp [Rep.RepC] at hr⟩
  rw [hb]; exact hq
 | unit => intro x cs; exact ⟨fun hr => hr, fun hr => hr⟩
 | prod a b iha ihb =>
  intro x cs
  constructor
  ·rintro ⟨c1, c2, rfl, h1, h2⟩
   exact ⟨c1, c2, rfl, (iha _ _).1 h1, (ihb _ _).1 h2⟩
  ·rintro ⟨v, r, rfl, h1, h2⟩
   refine ⟨v, r, rfl, ?_, (ihb _ _).2 h2⟩
   split at h1
   ·obtain ⟨cs, hv, hr⟩ := h1; rw [if_pos (by assumption)]; exact ⟨cs, hv, (iha _ _).1 hr⟩
   ·rw [if_neg (by assumption)]; exact (iha _ _).1 h1
 | arr n a iha =>
  intro x cs
  exact ⟨fun hr => ⟨hr.1, repL_mono (fun y _ cs => (iha y cs).1) hr.2⟩, fun hr => by simp [Rep.RepC] at hr⟩
 | imm p f a iha =>
  intro x cs
  refine ⟨?_, fun hr => by simp [Rep.RepC] at hr⟩
  rintro ⟨pv, cap, h1, h2, h3, h4⟩
  refine ⟨pv, cap, h1, h2, h3, fun hne => ?_⟩
  obtain ⟨ad, vs, a1, a2, a3⟩ := h4 hne
  refine ⟨ad, vs, a1, repL_mono (fun y _ cs => (iha y cs).1) a2, ?_⟩
  rcases a3 with a3 | ⟨a3, a4⟩
  ·exact .inl (reads_monoC h.fr a3)
  ·exact .inr ⟨a3, reads_monoC h.gr a4⟩
 | tg p a iha =>
  intro x cs
  refine ⟨?_, fun hr => by simp [Rep.RepC] at hr⟩
  rintro ⟨pv, h1, h2, h4⟩
  refine ⟨pv, h1, h2, fun hne => ?_⟩
  obtain ⟨ad, vs, a1, a2, a3⟩ := h4 hne
  refine ⟨ad, vs, a1, repL_mono (fun y _ cs => (iha y cs).1) a2, ?_⟩
  rcases a3 with a3 | ⟨a3, a4⟩
  ·exact .inl (reads_monoC h.fr a3)
  ·exact .inr ⟨a3, reads_monoC h.gr a4⟩
 | vc e gn =>
  intro x cs
  refine ⟨fun hr => ⟨hr.1, vcr_monoC h (fun hb hz k s n hq => ?_) hr.2⟩, fun hr => by simp [Rep.RepC] at hr⟩
  rw [hb, hz]; exact hq
 | sv e gn =>
  intro x cs
  refine ⟨fun hr => ⟨hr.1, vcr_monoC h (fun hb hz k s n hq => ?_) hr.2⟩, fun hr => by simp [Rep.RepC] at hr⟩
  rw [hb]; exact hq
 | vp e gn p =>
  intro x cs
  refine ⟨fun hr => ⟨hr.1, vcr_monoC h (fun hb hz k s n hq => ?_) hr.2⟩, fun hr => by simp [Rep.RepC] at hr⟩
  rw [hb]; exact hq
 | sub e p =>
  intro x cs
  refine ⟨fun hr => ⟨hr.1, bxr_monoC h (fun hb s hq => ?_) hr.2⟩, fun hr => by simp [Rep.RepC] at hr⟩
  rw [hb]; exact hq
 | ptr e p =>
  intro x cs
  refine ⟨fun hr => ⟨hr.1, bxr_monoC h (fun hb s hq => ?_) hr.2⟩, fun hr => by simp [Rep.RepC] at hr⟩
  rw [hb]; exact hq
 | ip p a iha =>
  intro x cs
  refine ⟨?_, fun hr => by simp [Rep.RepC] at hr⟩
  rintro ⟨ad, vs, h1, h2, h3⟩
  refine ⟨ad, vs, h1, (iha _ _).1 h2, ?_⟩
  rcases h3 with a3 | ⟨a3, a4⟩
  ·exact .inl (reads_monoC h.fr a3)
  ·exact .inr ⟨a3, reads_monoC h.gr a4⟩
 | fn f c ihc =>
  intro x cs
  refine ⟨?_, fun hr => by simp [Rep.RepC] at hr⟩
  rintro ⟨vs, h1, h2⟩
  exact ⟨vs, h1, (ihc _ _).2 h2⟩
theorem TRep_monoC {g g' : G} (h : g.leC g') {T : Ty} {x : T.den} {v : Value} (hr : TRep g T x v) : TRep g' T x v := by
 unfold TRep at hr ⊢
 split
 ·rw [if_pos (by assumption)] at hr; obtain ⟨cs, h1, h2⟩ := hr; exact ⟨cs, h1, (Rep_monoC h _ _ _).1 h2⟩
 ·rw [if_neg (by assumption)] at hr; exact (Rep_monoC h _ _ _).1 hr
theorem tupRep_monoC {g g' : G} (h : g.leC g') : ∀ {l : List TV} {vs : List Value}, tupRep g l vs → tupRep g' l vs
 | [], _, hr => hr
 | t :: ts, _, ⟨v, r, h1, h2, h3⟩ => ⟨v, r, h1, TRep_monoC h h2, tupRep_monoC h h3⟩
theorem VRep_monoC {g g' : G} (h : g.leC g') {a : AV} {v : Value} (hr : VRep g a v) : VRep g' a v := by
 cases a with
 | v T x =>
  cases T <;> first | trivial | exact TRep_monoC h hr
 | tup l => obtain ⟨vs, h1, h2⟩ := hr; exact ⟨vs, h1, tupRep_monoC h h2⟩
theorem reads_mono {F F' : Nat → Option Obj} (h : ∀ b o, F b = some o → F' b = some o) {a : Addr} {vs : List Value} (hr : reads F a vs) : reads F' a vs := reads_monoC (fun b _ _ _ => h b _) hr
theorem Rep_mono {g g' : G} (h : g.le g') (T : Ty) (x : T.den) (cs : List Value) : (Rep g T x cs → Rep g' T x cs) ∧ (Rep.RepC g T x cs → Rep.RepC g' T x cs) := Rep_monoC h.c T x cs
theorem TRep_mono {g g' : G} (h : g.le g') {T : Ty} {x : T.den} {v : Value} (hr : TRep g T x v) : TRep g' T x v := TRep_monoC h.c hr
theorem tupRep_mono {g g' : G} (h : g.le g') {l : List TV} {vs : List Value} (hr : tupRep g l vs) : tupRep g' l vs := tupRep_monoC h.c hr
theorem VRep_mono {g g' : G} (h : g.le g') {a : AV} {v : Value} (hr : VRep g a v) : VRep g' a v := VRep_monoC h.c hr
theorem VRep_v {g : G} {T : Ty} {x : T.den} {v : Value} (hT : T ≠ .und) : VRep g (.v T x) v ↔ TRep g T x v := by
 cases T <;> first | rfl | exact absurd rfl hT
theorem repL_length {α : Type} {R : α → List Value → Prop} {n : Nat} (h : ∀ x cs, R x cs → cs.length = n) : ∀ {l : List α} {cs}, repL R l cs → cs.length = l.length * n
 | [], _, hr => by rw [hr]; simp
 | x :: l, _, ⟨c1, c2, h1, h2, h3⟩ => by
  rw [h1, List.length_append, h x c1 h2, repL_length h h3]; simp [Nat.add_mul, Nat.add_comm]
theorem Rep_length {g : G} : ∀ (T : Ty) (x : T.den) (cs : List Value), Rep g T x cs → cs.length = T.nc := by
 intro T
 induction T with
 | bool | nils | nilp | nilm | nilf | nili | it => intro x cs h; simp only [Rep] at h; rw [h]; rfl
 | int | str => intro x cs h; rw [h.1]; rfl
 | unit => intro x cs h; simp only [Rep] at h; rw [h]; rfl
 | und => intro x cs h; exact h.elim
 | prod a b iha ihb =>
  rintro x cs ⟨c1, c2, rfl, h1, h2⟩
  rw [List.length_append, iha _ _ h1, ihb _ _ h2]; rfl
 | arr n a iha =>
  rintro x cs ⟨h1, h2⟩
  rw [repL_length iha h2, h1]; rfl
 | imm p f a iha => rintro x cs ⟨pv, cap, h1, _⟩; rw [h1]; rfl
 | tg p a iha => rintro x cs ⟨pv, h1, _⟩; rw [h1]; rfl
 | vc | sv | sub | mp | ch => rintro x cs ⟨⟨v, hv, _⟩, _⟩; rw [hv]; rfl
 | vp | ptr => rintro x cs ⟨⟨v, hv⟩, _⟩; rw [hv]; rfl
 | ip p a iha => rintro x cs ⟨ad, vs, h1, _⟩; rw [h1]; rfl
 | fn f c ih => rintro x cs ⟨vs, h1, _⟩; rw [h1]; rfl
theorem repL_cells {α : Type} {R : α → List Value → Prop} (h : ∀ x cs, R x cs → ∀ v ∈ cs, v.oneCell' = true) : ∀ {l : List α} {cs}, repL R l cs → ∀ v ∈ cs, v.oneCell' = true
 | [], _, hr => by rw [hr]; simp
 | x :: l, _, ⟨c1, c2, h1, h2, h3⟩ => by
  intro v hv
  rw [h1, List.mem_append] at hv
  rcases hv with hv | hv
  ·exact h x c1 h2 v hv
  ·exact repL_cells h h3 v hv
theorem Rep_cells {g : G} : ∀ (T : Ty) (x : T.den) (cs : List Value), Rep g T x cs → ∀ v ∈ cs, v.oneCell' = true := by
 intro T
 induction T with
 | bool | nils | nilp | nilm | nilf | nili | it => intro x cs h v hv; simp only [Rep] at h; rw [h] at hv; simp only [List.mem_singleton] at hv; rw [hv]; rfl
 | int | str => intro x cs h v hv; rw [h.1] at hv; simp only [List.mem_singleton] at hv; rw [hv]; rfl
 | unit => intro x cs h; simp only [Rep] at h; rw [h]; simp
 | und => intro x cs h; exact h.elim
 | prod a b iha ihb =>
  rintro x cs ⟨c1, c2, rfl, h1, h2⟩ v hv
  rw [List.mem_append] at hv
  rcases hv with hv | hv
  ·exact iha _ _ h1 v hv
  ·exact ihb _ _ h2 v hv
 | arr n a iha =>
  rintro x cs ⟨h1, h2⟩
  exact repL_cells iha h2
 | imm p f a iha => rintro x cs ⟨pv, cap, h1, _⟩ v hv; rw [h1] at hv; simp only [List.mem_singleton] at hv; rw [hv]; rfl
 | tg p a iha => rintro x cs ⟨pv, h1, _⟩ v hv; rw [h1] at hv; simp only [List.mem_singleton] at hv; rw [hv]; rfl
 | vc | sv | sub | mp | ch => rintro x cs ⟨⟨v, hv, ho⟩, _⟩ u hu; rw [hv] at hu; simp only [List.mem_singleton] at hu; rw [hu]; exact ho
 | vp | ptr => rintro x cs ⟨⟨v, hv⟩, _⟩ u hu; rw [hv] at hu; simp only [List.mem_singleton] at hu; rw [hu]; rfl
 | ip p a iha => rintro x cs ⟨ad, vs, h1, _⟩ v hv; rw [h1] at hv; simp only [List.mem_singleton] at hv; rw [hv]; rfl
 | fn f c ih => rintro x cs ⟨vs, h1, _⟩ v hv; rw [h1] at hv; simp only [List.mem_singleton] at hv; rw [hv]; rfl
theorem TRep_cells {g : G} {T : Ty} {x : T.den} {v : Value} (h : TRep g T x v) : Rep g T x v.cells.toList := by
 unfold TRep at h
 split at h
 ·obtain ⟨cs, rfl, hr⟩ := h; exact hr
 ·have hc := Rep_cells _ _ _ h v (by simp)
  have : v.cells = #[v] := by cases v <;> first | rfl | (simp [Value.oneCell'] at hc)
  rw [this]; exact h
theorem TRep_of_agg {g : G} {T : Ty} {x : T.den} {cs : Array Value} (hT : T.agg = true) (h : Rep g T x cs.toList) : TRep g T x (.agg cs) := by
 unfold TRep; rw [if_pos hT]; exact ⟨cs, rfl, h⟩
theorem TRep_of_leaf {g : G} {T : Ty} {x : T.den} {v : Value} (hT : T.agg = false) (h : Rep g T x [v]) : TRep g T x v := by
 unfold TRep; rw [if_neg (by simp [hT])]; exact h
end Vse
end
section
set_option linter.unusedVariables false
namespace Vse
open Go
section
variable {P : Program}
theorem skFields_spec {rec : TypeId → Option Sk} : ∀ {fs : List Field} {off : Nat} {s : Sk}, skFields rec fs off = some s →
  s.agg = true ∧ ∀ m f, fs[m]? = some f → ∃ sf o, rec f.type = some sf ∧ poff s [.fld m] () = some (o, sf) ∧ f.offset = off + o
 | [], off, s, h => by
  simp only [skFields, Option.some.injEq] at h
  subst h
  exact ⟨rfl, by simp⟩
 | f :: fs, off, s, h => by
  simp only [skFields] at h
  split at h
  ·rename_i ho
   split at h
   ·rename_i sf hsf
    split at h
    ·rename_i r hr
     simp only [Option.some.injEq] at h
     subst h
     refine ⟨rfl, ?_⟩
     intro m g hm
     cases m with
     | zero =>
      simp only [List.getElem?_cons_zero, Option.some.injEq] at hm
      subst hm
      exact ⟨sf, 0, hsf, by simp [poff], by omega⟩
     | succ m =>
      simp only [List.getElem?_cons_succ] at hm
      obtain ⟨_, h2⟩ := skFields_spec hr
      obtain ⟨sg, o, a1, a2, a3⟩ := h2 m g hm
      exact ⟨sg, sf.nc + o, a1, by simp [poff, a2], by omega⟩
    ·cases h
   ·cases h
  ·cases h
theorem skOf_spec {n : Nat} {t : TypeId} {s : Sk} (h : skOf P n t = some s) : ∃ i, P.info? t = some i ∧ i.size = s.nc ∧
  ∃ d, P.underlying t = some d ∧
   ((s = .leaf ∧ (∀ fs, d ≠ .struct fs) ∧ (∀ k e, d ≠ .array k e)) ∨
    (∃ fs m, d = .struct fs ∧ n = m + 1 ∧ skFields (skOf P m) fs.toList 0 = some s ∧ s.agg = true) ∨
    (∃ k e a m, d = .array k e ∧ n = m + 1 ∧ skOf P m e = some a ∧ s = .arr k a)) := by
 cases n with
 | zero => simp [skOf] at h
 | succ n =>
  unfold skOf at h
  split at h
  ·rename_i i fs hi hu
   split at h
   ·rename_i s' hs
    split at h
    ·rename_i hz
     simp only [Option.some.injEq] at h; subst h
     exact ⟨i, hi, hz.symm, _, hu, .inr (.inl ⟨fs, n, rfl, rfl, hs, (skFields_spec hs).1⟩)⟩
    ·cases h
   ·cases h
  ·rename_i i k e hi hu
   split at h
   ·rename_i a ha
    split at h
    ·rename_i hz
     simp only [Option.some.injEq] at h; subst h
     exact ⟨i, hi, hz.symm, _, hu, .inr (.inr ⟨k, e, a, n, rfl, rfl, ha, rfl⟩)⟩
    ·cases h
   ·cases h
  ·cases h
  ·cases h
  ·cases h
  ·rename_i i d x1 x2 x3 x4 x5 hi hu
   split at h
   ·rename_i hz
    simp only [Option.some.injEq] at h; subst h
    refine ⟨i, hi, hz, d, hu, .inl ⟨rfl, ?_, ?_⟩⟩
    ·intro fs hd; subst hd; exact x1 _ rfl
    ·intro k e hd; subst hd; exact x2 _ _ rfl
   ·cases h
  ·cases h
theorem run_sizeOf_sk {n : Nat} {t : TypeId} {s : Sk} (h : skOf P n t = some s) (w : World) : (Go.sizeOf t).run P w = .ok s.nc w := by
 obtain ⟨i, hi, hz, _⟩ := skOf_spec h
 rw [run_sizeOf w hi]; simp [Program.cellsOf, hi, hz]
theorem cellsOf_sk {n : Nat} {t : TypeId} {s : Sk} (h : skOf P n t = some s) : P.cellsOf t = s.nc := by
 obtain ⟨i, hi, hz, _⟩ := skOf_spec h
 simp [Program.cellsOf, hi, hz]
theorem run_isAgg_sk {n : Nat} {t : TypeId} {s : Sk} (h : skOf P n t = some s) (w : World) : (isAgg t).run P w = .ok s.agg w := by
 obtain ⟨i, hi, hz, d, hu, hd⟩ := skOf_spec h
 rcases hd with ⟨rfl, h1, h2⟩ | ⟨fs, m, rfl, _, _, ha⟩ | ⟨k, e, a, m, rfl, _, _, rfl⟩
 ·simp only [isAgg, Sem.run_bind, run_underlying hu, Result.andThen_ok]
  cases d <;> first | rfl | (exact absurd rfl (h1 _)) | (exact absurd rfl (h2 _ _))
 ·simp only [isAgg, Sem.run_bind, run_underlying hu, Result.andThen_ok, Sem.run_pure, ha]
 ·simp only [isAgg, Sem.run_bind, run_underlying hu, Result.andThen_ok, Sem.run_pure, Sk.agg]
def seg (cs : List Value) (off n : Nat) : List Value := (cs.drop off).take n
theorem seg_append_left {c1 c2 : List Value} {off n : Nat} (h : off + n ≤ c1.length) : seg (c1 ++ c2) off n = seg c1 off n := by
 unfold seg
 rw [List.drop_append_of_le_length (by omega), List.take_append_of_le_length (by simp; omega)]
theorem seg_append_right {c1 c2 : List Value} {off n : Nat} : seg (c1 ++ c2) (c1.length + off) n = seg c2 off n := by
 unfold seg
 rw [List.drop_append]
 have h1 : c1.drop (c1.length + off) = [] := List.drop_of_length_le (by omega)
 rw [h1]
 simp
theorem seg_all {cs : List Value} {n : Nat} (h : cs.length = n) : seg cs 0 n = cs := by
 unfold seg; rw [List.drop_zero, List.take_of_length_le (by omega)]
theorem repL_seg {α : Type} {R : α → List Value → Prop} {n : Nat} (hn : ∀ x cs, R x cs → cs.length = n) (d : α) : ∀ {l : List α} {cs : List Value} {i : Nat},
  repL R l cs → i < l.length → R (l.getD i d) (seg cs (i * n) n) ∧ i * n + n ≤ cs.length
 | [], _, i, _, hi => by simp at hi
 | x :: l, _, 0, ⟨c1, c2, rfl, h1, h2⟩, _ => by
  have := hn _ _ h1
  simp only [List.getD_cons_zero, Nat.zero_mul]
  rw [seg_append_left (by omega), seg_all this]
  exact ⟨h1, by simp [this]⟩
 | x :: l, _, i + 1, ⟨c1, c2, rfl, h1, h2⟩, hi => by
  have hc := hn _ _ h1
  obtain ⟨a, b⟩ := repL_seg hn d h2 (by simpa using hi)
  simp only [List.getD_cons_succ]
  rw [show (i + 1) * n = c1.length + i * n by rw [hc, Nat.add_mul]; omega, seg_append_right]
  exact ⟨a, by rw [List.length_append]; omega⟩
theorem getP_rep {g : G} : ∀ (T : Ty) (x : T.den) (p : List PS) (d : PD p) (cs : List Value) (y : TV) (off : Nat) (s : Sk),
  Rep g T x cs → getP T x p d = some y → poff T.sk p d = some (off, s) → Rep g y.T y.x (seg cs off y.T.nc) ∧ y.T.sk = s ∧ off + y.T.nc ≤ cs.length := by
 intro T
 induction T with
 | prod a b iha ihb =>
  intro x p d cs y off s hr hg hp
  cases p with
  | nil =>
   simp only [getP, Option.some.injEq] at hg; subst hg
   simp only [poff, Option.some.injEq, Prod.mk.injEq] at hp; obtain ⟨rfl, rfl⟩ := hp
   have hl := Rep_length _ _ _ hr
   exact ⟨by rw [seg_all hl]; exact hr, rfl, by simp; omega⟩
  | cons q p =>
   obtain ⟨c1, c2, rfl, h1, h2⟩ := hr
   have l1 := Rep_length _ _ _ h1
   cases q with
   | idx => simp [getP] at hg
   | fld m =>
    cases m with
    | zero =>
     simp only [getP] at hg
     simp only [Ty.sk, poff] at hp
     obtain ⟨r1, r2, r3⟩ := iha _ _ _ _ _ _ _ h1 hg hp
     exact ⟨by rw [seg_append_left (by omega)]; exact r1, r2, by rw [List.length_append]; omega⟩
    | succ m =>
     simp only [getP] at hg
     simp only [Ty.sk, poff, Option.map_eq_some_iff, Prod.mk.injEq, Prod.exists] at hp
     obtain ⟨o, s', hp, rfl, rfl⟩ := hp
     obtain ⟨r1, r2, r3⟩ := ihb _ _ _ _ _ _ _ h2 hg hp
     have e : a.sk.nc = c1.length := l1.symm
     rw [e]
     exact ⟨by rw [seg_append_right]; exact r1, r2, by rw [List.length_append]; omega⟩
 | arr n a iha =>
  intro x p d cs y off s hr hg hp
  cases p with
  | nil =>
   simp only [getP, Option.some.injEq] at hg; subst hg
   simp only [poff, Option.some.injEq, Prod.mk.injEq] at hp; obtain ⟨rfl, rfl⟩ := hp
   have hl := Rep_length _ _ _ hr
   exact ⟨by rw [seg_all hl]; exact hr, rfl, by simp; omega⟩
  | cons q p =>
   obtain ⟨hn, hl⟩ := hr
   cases q with
   | fld m => simp [getP] at hg
   | idx =>
    simp only [getP] at hg
    simp only [Ty.sk, poff] at hp
    split at hp
    ·rename_i hi
     simp only [Option.map_eq_some_iff, Prod.mk.injEq, Prod.exists] at hp
     obtain ⟨o, s', hp, rfl, rfl⟩ := hp
     obtain ⟨r1, r2⟩ := repL_seg (fun x cs => Rep_length a x cs) (dflt a) hl (i := d.1) (by omega)
     obtain ⟨q1, q2, q3⟩ := iha _ _ _ _ _ _ _ r1 hg hp
     refine ⟨?_, q2, ?_⟩
     ·have : seg (seg cs (d.1 * a.nc) a.nc) o y.T.nc = seg cs (d.1 * a.nc + o) y.T.nc := by
       have hq : o + y.T.nc ≤ a.nc := by
        have : (seg cs (d.1 * a.nc) a.nc).length ≤ a.nc := by unfold seg; exact List.length_take_le _ _
        omega
       unfold seg
       rw [List.drop_take, List.drop_drop, List.take_take]
       congr 1
       omega
      exact this ▸ q1
     ·have : (seg cs (d.1 * a.nc) a.nc).length ≤ a.nc := by unfold seg; exact List.length_take_le _ _
      have e : a.sk.nc = a.nc := rfl
      rw [e]
      omega
    ·cases hp
 | _ =>
  intro x p d cs y off s hr hg hp
  cases p with
  | nil =>
   simp only [getP, Option.some.injEq] at hg; subst hg
   simp only [poff, Option.some.injEq, Prod.mk.injEq] at hp; obtain ⟨rfl, rfl⟩ := hp
   have hl := Rep_length _ _ _ hr
   exact ⟨by rw [seg_all hl]; exact hr, rfl, by simp; omega⟩
  | cons q p => cases q <;> simp [getP] at hg
def splice (cs : List Value) (off : Nat) (new : List Value) : List Value := cs.take off ++ new ++ cs.drop (off + new.length)
theorem splice_all {cs new : List Value} (h : cs.length = new.length) : splice cs 0 new = new := by
 unfold splice; simp [h.symm]
theorem splice_append_left {c1 c2 new : List Value} {off : Nat} (h : off + new.length ≤ c1.length) : splice (c1 ++ c2) off new = splice c1 off new ++ c2 := by
 unfold splice
 rw [List.take_append_of_le_length (by omega), List.drop_append_of_le_length h]
 simp
theorem splice_append_right {c1 c2 new : List Value} {off : Nat} : splice (c1 ++ c2) (c1.length + off) new = c1 ++ splice c2 off new := by
 unfold splice
 rw [List.take_append, List.drop_append]
 have h1 : c1.take (c1.length + off) = c1 := List.take_of_length_le (by omega)
 have h2 : c1.drop (c1.length + off + new.length) = [] := List.drop_of_length_le (by omega)
 rw [h1, h2]
 simp
 congr 1
 omega
theorem splice_splice {cs : List Value} {o n i : Nat} {new : List Value} (h : o + n ≤ cs.length) (hi : i + new.length ≤ n) :
  splice cs o (splice (seg cs o n) i new) = splice cs (o + i) new := by
 have hs : (seg cs o n).length = n := by unfold seg; simp; omega
 have hl : (splice (seg cs o n) i new).length = n := by unfold splice; simp [hs]; omega
 have e1 : (seg cs o n).take i = (cs.drop o).take i := by unfold seg; rw [List.take_take, Nat.min_eq_left (by omega)]
 have e2 : (seg cs o n).drop (i + new.length) = (cs.drop (o + i + new.length)).take (n - (i + new.length)) := by
  unfold seg; rw [List.drop_take, List.drop_drop, show o + (i + new.length) = o + i + new.length by omega]
 have e3 : cs.drop (o + i + new.length) = (cs.drop (o + i + new.length)).take (n - (i + new.length)) ++ cs.drop (o + n) := by
  have := (List.take_append_drop (n - (i + new.length)) (cs.drop (o + i + new.length))).symm
  rw [List.drop_drop, show o + i + new.length + (n - (i + new.length)) = o + n by omega] at this
  exact this
 have e4 : cs.take (o + i) = cs.take o ++ (cs.drop o).take i := List.take_add
 have h0 : splice cs o (splice (seg cs o n) i new) = cs.take o ++ splice (seg cs o n) i new ++ cs.drop (o + n) := by
  show _ ++ _ ++ cs.drop (o + (splice (seg cs o n) i new).length) = _
  rw [hl]
 rw [h0]
 unfold splice
 rw [e1, e2, e4]
 conv => rhs; rw [e3]
 simp only [List.append_assoc]
theorem repL_set {α : Type} {R : α → List Value → Prop} {n : Nat} (hn : ∀ x cs, R x cs → cs.length = n) : ∀ {l : List α} {cs new : List Value} {i : Nat} {y : α},
  repL R l cs → i < l.length → R y new → repL R (l.set i y) (splice cs (i * n) new)
 | [], _, _, i, _, _, hi, _ => by simp at hi
 | x :: l, _, new, 0, y, ⟨c1, c2, rfl, h1, h2⟩, _, hy => by
  have e1 := hn _ _ h1
  have e2 := hn _ _ hy
  rw [Nat.zero_mul, splice_append_left (by omega), splice_all (by omega)]
  exact ⟨new, c2, rfl, hy, h2⟩
 | x :: l, _, new, i + 1, y, ⟨c1, c2, rfl, h1, h2⟩, hi, hy => by
  have e1 := hn _ _ h1
  rw [show (i + 1) * n = c1.length + i * n by rw [e1, Nat.add_mul]; omega, splice_append_right]
  exact ⟨c1, _, rfl, h1, repL_set hn h2 (by simpa using hi) hy⟩
theorem castT_spec {t : TV} {a : Ty} {z : a.den} (h : castT t a = some z) : t = ⟨a, z⟩ := by
 unfold castT at h
 split at h
 ·rename_i he
  obtain ⟨T, x⟩ := t
  simp only at he
  subst he
  simp only [Option.some.injEq] at h
  subst h
  rfl
 ·cases h
theorem setP_rep {g : G} : ∀ (T : Ty) (x : T.den) (p : List PS) (d : PD p) (cs new : List Value) (y r : TV) (off : Nat) (s : Sk),
  Rep g T x cs → setP T x p d y = some r → poff T.sk p d = some (off, s) → Rep g y.T y.x new → y.T.sk = s ∧ r.T.sk = T.sk ∧ Rep g r.T r.x (splice cs off new) ∧ off + new.length ≤ cs.length := by
 intro T
 induction T with
 | prod a b iha ihb =>
  intro x p d cs new y r off s hr hg hp hy
  cases p with
  | nil =>
   simp only [setP] at hg
   split at hg
   ·rename_i he
    simp only [Option.some.injEq] at hg; subst hg
    simp only [poff, Option.some.injEq, Prod.mk.injEq] at hp; obtain ⟨rfl, rfl⟩ := hp
    have hl := Rep_length _ _ _ hr
    have hl' := Rep_length _ _ _ hy
    have : cs.length = new.length := by rw [hl, hl']; unfold Ty.nc; rw [he]
    exact ⟨he.symm, he.symm, by rw [splice_all this]; exact hy, by omega⟩
   ·cases hg
  | cons q p =>
   obtain ⟨c1, c2, rfl, h1, h2⟩ := hr
   have l1 := Rep_length _ _ _ h1
   cases q with
   | idx => simp [setP] at hg
   | fld m =>
    cases m with
    | zero =>
     simp only [setP, Option.bind_eq_some_iff] at hg
     obtain ⟨q, hq, hr'⟩ := hg
     simp only [Option.some.injEq] at hr'; subst hr'
     simp only [Ty.sk, poff] at hp
     obtain ⟨r1, r2, r3, r4⟩ := iha _ _ _ _ _ _ _ _ _ h1 hq hp hy
     refine ⟨r1, by simp [Ty.sk, r2], ?_, by rw [List.length_append]; omega⟩
     rw [splice_append_left r4]
     exact ⟨_, _, rfl, r3, h2⟩
    | succ m =>
     simp only [setP, Option.bind_eq_some_iff] at hg
     obtain ⟨q, hq, hr'⟩ := hg
     simp only [Option.some.injEq] at hr'; subst hr'
     simp only [Ty.sk, poff, Option.map_eq_some_iff, Prod.mk.injEq, Prod.exists] at hp
     obtain ⟨o, s', hp, rfl, rfl⟩ := hp
     obtain ⟨r1, r2, r3, r4⟩ := ihb _ _ _ _ _ _ _ _ _ h2 hq hp hy
     have e : a.sk.nc = c1.length := l1.symm
     rw [e]
     refine ⟨r1, by simp [Ty.sk, r2], ?_, by rw [List.length_append]; omega⟩
     rw [splice_append_right]
     exact ⟨_, _, rfl, h1, r3⟩
 | arr n a iha =>
  intro x p d cs new y r off s hr hg hp hy
  cases p with
  | nil =>
   simp only [setP] at hg
   split at hg
   ·rename_i he
    simp only [Option.some.injEq] at hg; subst hg
    simp only [poff, Option.some.injEq, Prod.mk.injEq] at hp; obtain ⟨rfl, rfl⟩ := hp
    have hl := Rep_length _ _ _ hr
    have hl' := Rep_length _ _ _ hy
    have : cs.length = new.length := by rw [hl, hl']; unfold Ty.nc; rw [he]
    exact ⟨he.symm, he.symm, by rw [splice_all this]; exact hy, by omega⟩
   ·cases hg
  | cons q p =>
   obtain ⟨hn, hl⟩ := hr
   cases q with
   | fld m => simp [setP] at hg
   | idx =>
    simp only [setP, Option.bind_eq_some_iff] at hg
    obtain ⟨q, hq, z, hz, hr'⟩ := hg
    simp only [Option.some.injEq] at hr'; subst hr'
    simp only [Ty.sk, poff] at hp
    split at hp
    ·rename_i hi
     simp only [Option.map_eq_some_iff, Prod.mk.injEq, Prod.exists] at hp
     obtain ⟨o, s', hp, rfl, rfl⟩ := hp
     obtain ⟨r1, r2⟩ := repL_seg (fun x cs => Rep_length a x cs) (dflt a) hl (i := d.1) (by omega)
     obtain ⟨q1, q2, q3, q4⟩ := iha _ _ _ _ _ _ _ _ _ r1 hq hp hy
     have := castT_spec hz
     subst this
     have hsl : (seg cs (d.1 * a.nc) a.nc).length ≤ a.nc := by unfold seg; exact List.length_take_le _ _
     have e : a.sk.nc = a.nc := rfl
     rw [e]
     refine ⟨q1, rfl, ?_, by omega⟩
     refine ⟨by simp [hn], ?_⟩
     rw [← splice_splice (n := a.nc) r2 (by omega)]
     exact repL_set (fun x cs => Rep_length a x cs) hl (by omega) q3
    ·cases hp
 | _ =>
  intro x p d cs new y r off s hr hg hp hy
  cases p with
  | nil =>
   simp only [setP] at hg
   split at hg
   ·rename_i he
    simp only [Option.some.injEq] at hg; subst hg
    simp only [poff, Option.some.injEq, Prod.mk.injEq] at hp; obtain ⟨rfl, rfl⟩ := hp
    have hl := Rep_length _ _ _ hr
    have hl' := Rep_length _ _ _ hy
    have : cs.length = new.length := by rw [hl, hl']; unfold Ty.nc; rw [he]
    exact ⟨he.symm, he.symm, by rw [splice_all this]; exact hy, by omega⟩
   ·cases hg
  | cons q p => cases q <;> simp [setP] at hg
theorem addr_add (b o n : Nat) : (⟨b, o, none⟩ : Addr).add n = ⟨b, o + n, none⟩ := by
 unfold Addr.add; split <;> simp_all
theorem run_loadVar_cells {n : Nat} {t : TypeId} {s : Sk} (hs : skOf P n t = some s) (w : World) (b o : Nat) (cs : List Value) (hl : cs.length = s.nc)
  (hc : ∀ i v, cs[i]? = some v → w.cell? ⟨b, o + i, none⟩ = some v) :
  ∃ v, (loadVar t ⟨b, o, none⟩).run P w = .ok v w ∧ (if s.agg then v = .agg cs.toArray else cs = [v]) := by
 cases hsa : s.agg with
 | true =>
  refine ⟨.agg cs.toArray, ?_, by simp⟩
  have := run_loadCells_list (P := P) w ⟨b, o, none⟩ cs (fun j v h => by rw [addr_add]; exact hc j v h)
  rw [hl] at this
  simp only [loadVar, Sem.run_bind, run_isAgg_sk hs, Result.andThen_ok, hsa, if_true, run_sizeOf_sk hs, this, Sem.run_pure]
 | false =>
  have : s.nc = 1 := by cases s <;> first | rfl | (simp [Sk.agg] at hsa)
  rw [this] at hl
  obtain ⟨v, rfl⟩ := List.length_eq_one_iff.1 hl
  refine ⟨v, ?_, by simp⟩
  have h0 := hc 0 v (by simp)
  simp only [Nat.add_zero] at h0
  simp only [loadVar, Sem.run_bind, run_isAgg_sk hs, Result.andThen_ok, hsa, Bool.false_eq_true, if_false, run_load, h0]
theorem TRep_of_load {g : G} {T : Ty} {x : T.den} {cs : List Value} {v : Value} (hr : Rep g T x cs) (hv : if T.sk.agg then v = .agg cs.toArray else cs = [v]) : TRep g T x v := by
 cases ha : T.sk.agg with
 | true => rw [ha, if_pos rfl] at hv; subst hv; exact TRep_of_agg ha (by simpa using hr)
 | false => rw [ha] at hv; simp only [Bool.false_eq_true, if_false] at hv; subst hv; exact TRep_of_leaf ha hr
theorem run_storeCells_thaw (b o : Nat) (t : TypeId) (fz : Nat × Nat) : ∀ (vs : List Value) (i : Nat) (cur : Array Value) (w : World), w.heap[b]? = some (.cells cur t fz) → thawed cur fz → o + i + vs.length ≤ cur.size → (∀ v ∈ vs, v.oneCell' = true) →
  (storeCells ⟨b, o, none⟩ vs i).run P w = .ok () (w.setRow b (splice cur.toList (o + i) vs).toArray)
 | [], i, cur, w, hg, _, _, _ => by
  simp only [storeCells, splice, List.append_nil, List.length_nil, Nat.add_zero, List.take_append_drop, Array.toArray_toList]
  rw [setRow_self w b cur t fz hg]
  rfl
 | v :: rest, i, cur, w, hg, hth, hl, h1 => by
  have hi : o + i < cur.size := by simp at hl; omega
  have hcell : w.cell? ⟨b, o + i, none⟩ = some cur[o + i] := by simp [World.cell?, hg, hi]
  have hfro : w.frozen? ⟨b, o + i, none⟩ = false := by
   obtain ⟨lo, hi'⟩ := fz
   simp only [World.frozen?, hg, Bool.and_eq_false_iff, decide_eq_false_iff_not]
   rcases hth with h | h <;> simp only at h <;> omega
  have hst : (store ((⟨b, o, none⟩ : Addr).add i) v).run P w = .ok () (w.setRow b (cur.setIfInBounds (o + i) v)) := by
   rw [addr_add, run_store P w _ v _ (h1 v (by simp)), hcell]
   simp [hfro, setCell_eq_setRow w b (o + i) cur t fz v hg]
  have ih := run_storeCells_thaw b o t fz rest (i + 1) (cur.setIfInBounds (o + i) v) (w.setRow b (cur.setIfInBounds (o + i) v)) (setRow_heap w b cur _ t _ hg) (by unfold thawed at hth ⊢; simpa using hth) (by simp at hl ⊢; omega) (fun x hx => h1 x (by simp [hx]))
  simp only [storeCells, Sem.run_bind, hst, Result.andThen_ok, ih, setRow_setRow]
  congr 3
  have e := list_seg_step cur.toList (o + i) v rest (by simp at hl ⊢; omega)
  simpa [splice, Array.toList_setIfInBounds, Nat.add_assoc] using e
theorem run_part_sk {n : Nat} {t : TypeId} {s : Sk} (hs : skOf P n t = some s) (w : World) (cs : Array Value) (off : Nat) (h : off + s.nc ≤ cs.size) :
  ∃ v, (part t cs off).run P w = .ok v w ∧ (if s.agg then v = .agg (seg cs.toList off s.nc).toArray else seg cs.toList off s.nc = [v]) := by
 cases hsa : s.agg with
 | true =>
  refine ⟨.agg (cs.extract off (off + s.nc)), ?_, ?_⟩
  ·simp only [part, Sem.run_bind, run_isAgg_sk hs, Result.andThen_ok, hsa, if_true, run_sizeOf_sk hs, Sem.run_pure]
  ·simp only [if_true, Value.agg.injEq]
   apply Array.ext'
   simp [seg, List.take_drop]
 | false =>
  have : s.nc = 1 := by cases s <;> first | rfl | (simp [Sk.agg] at hsa)
  rw [this] at h ⊢
  refine ⟨cs[off]'(by omega), ?_, ?_⟩
  ·simp only [part, Sem.run_bind, run_isAgg_sk hs, Result.andThen_ok, hsa, Bool.false_eq_true, if_false, Array.getElem?_eq_getElem (show off < cs.size by omega), Sem.run_pure]
  ·simp only [Bool.false_eq_true, if_false, seg]
   rw [List.drop_eq_getElem_cons (by simpa using (show off < cs.size by omega))]
   simp
end
end Vse
end
section
set_option linter.unusedVariables false
namespace Vse
open Go
theorem goes_setRow (w : World) (b : Nat) (cs : Array Value) : Goes w (w.setRow b cs) := ⟨rfl, Nat.le_refl _⟩
theorem getE_setE (H : Heap) : ∀ (e e' : Nat) (E : Entry), getE (setE H e E) e' = if e' = e ∧ e < H.length then E else getE H e' := by
 induction H with
 | nil => intro e e' E; simp [setE]
 | cons x H ih =>
  intro e e' E
  cases e with
  | zero => cases e' <;> simp [setE, getE]
  | succ e =>
   cases e' with
   | zero => simp [setE, getE]
   | succ e' => simp [setE, getE, ih]
theorem setE_length (H : Heap) : ∀ (e : Nat) (E : Entry), (setE H e E).length = H.length := by
 induction H with
 | nil => intro e E; rfl
 | cons x H ih => intro e E; cases e <;> simp [setE, ih]
theorem upd_length : ∀ (l : List (Nat × Entry)) (H : Heap), (upd H l).length = H.length
 | [], _ => rfl
 | (i, e) :: l, H => by simp only [upd]; rw [upd_length l, setE_length]
theorem getE_past (H : Heap) : ∀ {e : Nat}, H.length ≤ e → getE H e = .free := by
 induction H with
 | nil => intro e _; rfl
 | cons x H ih =>
  intro e h
  cases e with
  | zero => simp at h
  | succ e => exact ih (by simpa using h)
theorem lt_of_live {H : Heap} {e : Nat} (h : (getE H e).live = true) : e < H.length := by
 rcases Nat.lt_or_ge e H.length with h' | h'
 ·exact h'
 ·rw [getE_past H h'] at h; cases h
theorem getE_append_frees (H : Heap) (n e : Nat) : getE (H ++ frees n) e = getE H e := by
 induction H generalizing e with
 | nil =>
  induction n generalizing e with
  | zero => rfl
  | succ n ih => cases e <;> simp_all [frees, getE]
 | cons x H ih => cases e <;> simp [getE, ih]
theorem HInv.widen {g : G} {H : Heap} {w : World} (h : HInv g H w) (n : Nat) : HInv g (H ++ frees n) w := by
 have e : ∀ i, getE (H ++ frees n) i = getE H i := fun i => getE_append_frees H n i
 exact ⟨fun i => by rw [e]; exact h.sh i, h.fr, h.gr, fun i => by rw [e]; exact h.ent i, fun i b => by rw [e]; exact h.own i b, h.sep, fun i j b => by rw [e, e]; exact h.dis i j b, h.ext⟩
theorem ERep_monoC {g g' : G} (h : g.leC g') {e : Nat} {w : World} {E : Entry} (hb : g'.bl e = g.bl e) (hz : g'.sz e = g.sz e) (hr : ERep g e w E) : ERep g' e w E := by
 cases E with
 | box T x =>
  obtain ⟨b, cs, t, fz, h1, h2, h3, h4⟩ := hr
  exact ⟨b, cs, t, fz, hb.trans h1, h2, h3, (Rep_monoC h _ _ _).1 h4⟩
 | vec k a l =>
  rcases hr with ⟨h1, h2⟩ | ⟨b, cs, t, fz, vs, r, h1, h2, h3, h4, h5, h6, h7⟩
  ·exact .inl ⟨hb.trans h1, h2⟩
  ·exact .inr ⟨b, cs, t, fz, vs, r, hb.trans h1, h2, h3, hz.trans h4, h5, repL_mono (fun x _ cs => (Rep_monoC h a x cs).1) h6, h7⟩
 | map K V l =>
  obtain ⟨b, es, clock, h1, h2, h3⟩ := hr
  exact ⟨b, es, clock, hb.trans h1, h2, mapRep_mono (fun x v => TRep_monoC h) (fun x v => TRep_monoC h) h3⟩
 | itr s p =>
  obtain ⟨h0, b, h1, h2⟩ := hr
  exact ⟨h0, b, hb.trans h1, h2⟩
 | free => trivial
 | dead => trivial
theorem ERep_mono {g g' : G} (h : g.le g') {e : Nat} {w : World} {E : Entry} (hb : g'.bl e = g.bl e) (hz : g'.sz e = g.sz e) (hr : ERep g e w E) : ERep g' e w E := ERep_monoC h.c hb hz hr
theorem ERep_world {g : G} {e : Nat} {w w' : World} {E : Entry} (h : ∀ b, g.bl e = some b → ∀ o, w.heap[b]? = some o → w'.heap[b]? = some o) (hr : ERep g e w E) : ERep g e w' E := by
 cases E with
 | box T x =>
  obtain ⟨b, cs, t, fz, h1, h2, h3, h4⟩ := hr
  exact ⟨b, cs, t, fz, h1, h b h1 _ h2, h3, h4⟩
 | vec k a l =>
  rcases hr with ⟨h1, h2⟩ | ⟨b, cs, t, fz, vs, r, h1, h2, h3, h4, h5, h6, h7⟩
  ·exact .inl ⟨h1, h2⟩
  ·exact .inr ⟨b, cs, t, fz, vs, r, h1, h b h1 _ h2, h3, h4, h5, h6, h7⟩
 | map K V l =>
  obtain ⟨b, es, clock, h1, h2, h3⟩ := hr
  exact ⟨b, es, clock, h1, h b h1 _ h2, h3⟩
 | itr s p =>
  obtain ⟨h0, b, h1, h2⟩ := hr
  exact ⟨h0, b, h1, h b h1 _ h2⟩
 | free => trivial
 | dead => trivial
theorem HInv.there {g : G} {H : Heap} {w : World} (h : HInv g H w) {e b : Nat} (hl : (getE H e).live = true) (hb : g.bl e = some b) : ∃ o, w.heap[b]? = some o := by
 have := h.ent e
 cases hE : getE H e with
 | box T x =>
  rw [hE] at this
  obtain ⟨b', cs, t, fz, h1, h2, _⟩ := this
  rw [hb] at h1; cases h1
  exact ⟨_, h2⟩
 | map K V l =>
  rw [hE] at this
  obtain ⟨b', es, clock, h1, h2, _⟩ := this
  rw [hb] at h1; cases h1
  exact ⟨_, h2⟩
 | itr s p =>
  rw [hE] at this
  obtain ⟨_, b', h1, h2⟩ := this
  rw [hb] at h1; cases h1
  exact ⟨_, h2⟩
 | vec k a l =>
  rw [hE] at this
  rcases this with ⟨h1, _⟩ | ⟨b', cs, t, fz, vs, r, h1, h2, _⟩
  ·rw [hb] at h1; cases h1
  ·rw [hb] at h1; cases h1
   exact ⟨_, h2⟩
 | free => rw [hE] at hl; cases hl
 | dead => rw [hE] at hl; cases hl
def World.mk' (w : World) (o : Obj) : World := { w with heap := w.heap.push o }
theorem push_old {w : World} {o o' : Obj} {b : Nat} (h : w.heap[b]? = some o') : (World.mk' w o).heap[b]? = some o' := by
 have hb : b < w.heap.size := (Array.getElem?_eq_some_iff.1 h).1
 simp only [World.mk', Array.getElem?_push]
 rw [if_neg (by omega)]
 exact h
theorem HInv.newBox {g : G} {H : Heap} {w : World} (h : HInv g H w) {fr : Nat} (hf : getE H fr = .free) (hlt : fr < H.length) {T : Ty} {x : T.den} {cs : Array Value}
  (hr : Rep g T x cs.toList) (t : TypeId) :
  ∃ g', g.le g' ∧ HInv g' (setE H fr (.box T x)) (World.mk' w (.cells cs t)) ∧ g'.sh fr = .box T.sk ∧ g'.bl fr = some w.heap.size := by
 let g' : G := { g with bl := fun e => if e = fr then some w.heap.size else g.bl e, sh := fun e => if e = fr then .box T.sk else g.sh e }
 have hfree : g.sh fr = .free := by rw [h.sh, hf]; rfl
 have hle : g.le g' := by
  refine ⟨fun _ _ h => h, rfl, rfl, fun e => ?_⟩
  by_cases he : e = fr
  ·subst he; exact .new hfree
  ·exact .same (by simp [g', he]) (by simp [g', he]) rfl
 have hget : ∀ e, getE (setE H fr (.box T x)) e = if e = fr then .box T x else getE H e := by
  intro e; rw [getE_setE]; by_cases he : e = fr <;> simp [he, hlt]
 have hnone : ∀ o, g.fr w.heap.size ≠ some o ∧ g.gr w.heap.size ≠ some o := by
  intro o
  constructor
  ·intro hc; have := h.fr _ _ hc; simp at this
  ·intro hc; have := h.gr _ _ hc; simp at this
 have hold : ∀ e b, e ≠ fr → (getE H e).live = true → g.bl e = some b → b < w.heap.size := by
  intro e b _ hl hb
  obtain ⟨o0, hx⟩ := h.there hl hb
  exact (Array.getElem?_eq_some_iff.1 hx).1
 refine ⟨g', hle, ⟨?_, ?_, ?_, ?_, ?_, h.sep, ?_, h.ext⟩, by simp [g'], by simp [g']⟩
 ·intro e; rw [hget]; by_cases he : e = fr
  ·simp [g', he, shp]
  ·simp only [g', if_neg he]; exact h.sh e
 ·intro b o hb; exact push_old (h.fr b o hb)
 ·intro b o hb; exact push_old (h.gr b o hb)
 ·intro e
  rw [hget]
  by_cases he : e = fr
  ·subst he
   simp only [if_true]
   exact ⟨w.heap.size, cs, t, (0, 0), by simp [g'], (by show (w.heap.push (.cells cs t))[w.heap.size]? = _; rw [Array.getElem?_push_size]), .inl (by simp), (Rep_mono hle _ _ _).1 hr⟩
  ·simp only [if_neg he]
   refine ERep_mono hle (by simp [g', he]) rfl (ERep_world (fun b _ o ho => push_old ho) (h.ent e))
 ·intro e b hl hb
  rw [hget] at hl
  by_cases he : e = fr
  ·subst he
   simp only [g', if_true, Option.some.injEq] at hb
   subst hb
   exact ⟨Option.eq_none_iff_forall_ne_some.2 fun o => (hnone o).1, Option.eq_none_iff_forall_ne_some.2 fun o => (hnone o).2⟩
  ·simp only [if_neg he] at hl
   simp only [g', if_neg he] at hb
   exact h.own e b hl hb
 ·intro e e' b hl hl' hb hb'
  rw [hget] at hl hl'
  by_cases he : e = fr
  ·by_cases he' : e' = fr
   ·rw [he, he']
   ·exfalso
    simp only [if_neg he'] at hl'
    simp only [g', if_neg he'] at hb'
    simp only [g', if_pos he, Option.some.injEq] at hb
    have := hold e' b he' hl' hb'
    omega
  ·by_cases he' : e' = fr
   ·exfalso
    simp only [if_neg he] at hl
    simp only [g', if_neg he] at hb
    simp only [g', if_pos he', Option.some.injEq] at hb'
    have := hold e b he hl hb
    omega
   ·simp only [if_neg he] at hl
    simp only [if_neg he'] at hl'
    simp only [g', if_neg he] at hb
    simp only [g', if_neg he'] at hb'
    exact h.dis e e' b hl hl' hb hb'
theorem HInv.setBox {g : G} {H : Heap} {w : World} (h : HInv g H w) {e b : Nat} {T T' : Ty} {x : T.den} {x' : T'.den} {cs cs' : Array Value} {t : TypeId} {fz : Nat × Nat}
  (hE : getE H e = .box T x) (hb : g.bl e = some b) (hc : w.heap[b]? = some (.cells cs t fz)) (hth : thawed cs' fz) (hsk : T'.sk = T.sk) (hr : Rep g T' x' cs'.toList) :
  HInv g (setE H e (.box T' x')) (w.setRow b cs') := by
 have hlive : (getE H e).live = true := by rw [hE]; rfl
 have hlt := lt_of_live hlive
 have hget : ∀ i, getE (setE H e (.box T' x')) i = if i = e then .box T' x' else getE H i := by
  intro i; rw [getE_setE]; by_cases hi : i = e <;> simp [hi, hlt]
 have hlv : ∀ i, (getE (setE H e (.box T' x')) i).live = (getE H i).live := by
  intro i; rw [hget]; by_cases hi : i = e
  ·subst hi; rw [hlive]; simp [Entry.live]
  ·simp [hi]
 have hkeep : ∀ b' o, b' ≠ b → w.heap[b']? = some o → (w.setRow b cs').heap[b']? = some o := by
  intro b' o hne ho; rw [setRow_other w b b' cs' hne]; exact ho
 refine ⟨?_, ?_, ?_, ?_, ?_, h.sep, ?_, h.ext.goes (goes_setRow _ _ _)⟩
 ·intro i; rw [hget]; by_cases hi : i = e
  ·subst hi; simp only [if_true, shp]; rw [h.sh, hE, hsk]; rfl
  ·simp only [if_neg hi]; exact h.sh i
 ·intro b' o hf
  have hne : b' ≠ b := by
   rintro rfl
   have := (h.own e b' hlive hb).1
   rw [hf] at this; cases this
  exact hkeep _ _ hne (h.fr _ _ hf)
 ·intro b' o hf
  have hne : b' ≠ b := by
   rintro rfl
   have := (h.own e b' hlive hb).2
   rw [hf] at this; cases this
  exact hkeep _ _ hne (h.gr _ _ hf)
 ·intro i
  rw [hget]
  by_cases hi : i = e
  ·subst hi
   simp only [if_true]
   exact ⟨b, cs', t, fz, hb, setRow_heap w b cs cs' t fz hc, hth, hr⟩
  ·simp only [if_neg hi]
   have hE' := h.ent i
   cases hEi : getE H i with
   | free => trivial
   | dead => trivial
   | box U y =>
    rw [hEi] at hE'
    refine ERep_world (fun b' hb' o ho => hkeep _ _ ?_ ho) hE'
    rintro rfl
    exact hi (h.dis i e b' (by rw [hEi]; rfl) hlive hb' hb)
   | map K V l =>
    rw [hEi] at hE'
    refine ERep_world (fun b' hb' o ho => hkeep _ _ ?_ ho) hE'
    rintro rfl
    exact hi (h.dis i e b' (by rw [hEi]; rfl) hlive hb' hb)
   | itr s p =>
    rw [hEi] at hE'
    refine ERep_world (fun b' hb' o ho => hkeep _ _ ?_ ho) hE'
    rintro rfl
    exact hi (h.dis i e b' (by rw [hEi]; rfl) hlive hb' hb)
   | vec k a l =>
    rw [hEi] at hE'
    refine ERep_world (fun b' hb' o ho => hkeep _ _ ?_ ho) hE'
    rintro rfl
    exact hi (h.dis i e b' (by rw [hEi]; rfl) hlive hb' hb)
 ·intro i b' hl hb'; rw [hlv] at hl; exact h.own i b' hl hb'
 ·intro i j b' hl hl' hb1 hb2; rw [hlv] at hl hl'; exact h.dis i j b' hl hl' hb1 hb2
def G.put (g : G) (e : Nat) (s : ESh) (b : Option Nat) (z : Nat) : G :=
 { g with sh := fun i => if i = e then s else g.sh i, bl := fun i => if i = e then b else g.bl i, sz := fun i => if i = e then z else g.sz i }
theorem G.put_le {g : G} {e : Nat} {s : ESh} {b : Option Nat} {z : Nat} (h : Turn g (g.put e s b z) e) : g.le (g.put e s b z) := by
 refine ⟨fun _ _ h => h, rfl, rfl, fun i => ?_⟩
 by_cases hi : i = e
 ·subst hi; exact h
 ·exact .same (by simp [G.put, hi]) (by simp [G.put, hi]) (by simp [G.put, hi])
theorem HInv.turn {g : G} {H : Heap} {w w' : World} (h : HInv g H w) {e : Nat} (hlt : e < H.length) {E : Entry} {b : Option Nat} {z : Nat} (hle : g.le (g.put e (shp E) b z))
  (hkeep : ∀ b' o, (∀ b0, (getE H e).live = true → g.bl e = some b0 → b' ≠ b0) → w.heap[b']? = some o → w'.heap[b']? = some o)
  (hrep : ERep (g.put e (shp E) b z) e w' E) (hown : ∀ b', b = some b' → g.fr b' = none ∧ g.gr b' = none)
  (hdis : ∀ i b', i ≠ e → (getE H i).live = true → g.bl i = some b' → b ≠ some b') (hext : Face w' g.ext.1) : HInv (g.put e (shp E) b z) (setE H e E) w' := by
 have hget : ∀ i, getE (setE H e E) i = if i = e then E else getE H i := by
  intro i; rw [getE_setE]; by_cases hi : i = e <;> simp [hi, hlt]
 have hf : ∀ F : Nat → Option Obj, (∀ b o, F b = some o → w.heap[b]? = some o) → (∀ b0, (getE H e).live = true → g.bl e = some b0 → F b0 = none) → ∀ b o, F b = some o → w'.heap[b]? = some o := by
  intro F hF hn b' o hb
  refine hkeep b' o (fun b0 hl h0 => ?_) (hF b' o hb)
  rintro rfl
  rw [hn b' hl h0] at hb; cases hb
 refine ⟨?_, hf g.fr h.fr fun b0 hl h0 => (h.own e b0 hl h0).1, hf g.gr h.gr fun b0 hl h0 => (h.own e b0 hl h0).2, ?_, ?_, h.sep, ?_, hext⟩
 ·intro i; rw [hget]; by_cases hi : i = e
  ·subst hi; simp [G.put]
  ·simp only [G.put, if_neg hi]; exact h.sh i
 ·intro i
  rw [hget]
  by_cases hi : i = e
  ·subst hi; simp only [if_true]; exact hrep
  ·simp only [if_neg hi]
   by_cases hl : (getE H i).live = true
   ·refine ERep_mono hle (by simp [G.put, hi]) (by simp [G.put, hi]) (ERep_world (fun b' hb' o ho => hkeep b' o (fun b0 hl0 h0 => ?_) ho) (h.ent i))
    rintro rfl
    exact hi (h.dis i e b' hl hl0 hb' h0)
   ·cases hE : getE H i with
    | free => trivial
    | dead => trivial
    | box _ _ => rw [hE] at hl; exact absurd rfl hl
    | vec _ _ _ => rw [hE] at hl; exact absurd rfl hl
    | map _ _ _ => rw [hE] at hl; exact absurd rfl hl
    | itr _ _ => rw [hE] at hl; exact absurd rfl hl
 ·intro i b' hl hb
  rw [hget] at hl
  by_cases hi : i = e
  ·subst hi
   simp only [G.put, if_true] at hb
   exact hown b' hb
  ·simp only [if_neg hi] at hl
   simp only [G.put, if_neg hi] at hb
   exact h.own i b' hl hb
 ·intro i j b' hl hl' hb hb'
  rw [hget] at hl hl'
  by_cases hi : i = e
  ·by_cases hj : j = e
   ·rw [hi, hj]
   ·exfalso
    simp only [if_neg hj] at hl'
    simp only [G.put, if_neg hj] at hb'
    simp only [G.put, if_pos hi] at hb
    exact hdis j b' hj hl' hb' hb
  ·by_cases hj : j = e
   ·exfalso
    simp only [if_neg hi] at hl
    simp only [G.put, if_neg hi] at hb
    simp only [G.put, if_pos hj] at hb'
    exact hdis i b' hi hl hb hb'
   ·simp only [if_neg hi] at hl
    simp only [if_neg hj] at hl'
    simp only [G.put, if_neg hi] at hb
    simp only [G.put, if_neg hj] at hb'
    exact h.dis i j b' hl hl' hb hb'
theorem HInv.newVec {g : G} {H : Heap} {w w1 : World} (h : HInv g H w) {fr : Nat} (hf : getE H fr = .free) (hlt : fr < H.length) (k : Nat) {a : Ty} {l : List a.den} {cs : Array Value} {vs r : List Value} (t : TypeId)
  (hh : w1.heap = w.heap) (hx : Goes w w1) (hcs : cs.toList = vs ++ r) (hl : repL (Rep g a) l vs) (hr : ∀ v ∈ r, v.oneCell' = true) :
  ∃ g', g.le g' ∧ HInv g' (setE H fr (.vec k a l)) (World.mk' w1 (.cells cs t)) ∧ g'.sh fr = .vec k a.sk l.length ∧ g'.bl fr = some w.heap.size ∧ g'.sz fr = cs.size := by
 have hfree : g.sh fr = .free := by rw [h.sh, hf]; rfl
 have hle : g.le (g.put fr (shp (.vec k a l)) (some w.heap.size) cs.size) := G.put_le (.new hfree)
 have hnl : (getE H fr).live = false := by rw [hf]; rfl
 refine ⟨_, hle, h.turn hlt hle ?_ ?_ ?_ ?_ ?_, by simp [G.put, shp], by simp [G.put], by simp [G.put]⟩
 ·intro b' o _ ho
  exact push_old (w := w1) (by rw [hh]; exact ho)
 ·refine .inr ⟨w.heap.size, cs, t, (0, 0), vs, r, by simp [G.put], ?_, .inl (by simp), by simp [G.put], hcs, repL_mono (fun y _ cs => (Rep_mono hle a y cs).1) hl, hr⟩
  show (w1.heap.push (.cells cs t))[w.heap.size]? = _
  rw [hh, Array.getElem?_push_size]
 ·intro b' hb
  cases hb
  constructor
  ·refine Option.eq_none_iff_forall_ne_some.2 fun o hc => ?_
   have := h.fr _ _ hc; simp at this
  ·refine Option.eq_none_iff_forall_ne_some.2 fun o hc => ?_
   have := h.gr _ _ hc; simp at this
 ·intro i b' _ hl hb hc
  cases hc
  obtain ⟨o0, hx⟩ := h.there hl hb
  have := (Array.getElem?_eq_some_iff.1 hx).1
  omega
 ·exact (h.ext.goes hx).goes ⟨rfl, Nat.le_refl _⟩
theorem HInv.growVec {g : G} {H : Heap} {w w1 : World} (h : HInv g H w) {e k k' : Nat} {a : Ty} {l l' : List a.den} (hE : getE H e = .vec k a l) (hk : k < k') {cs : Array Value} {vs r : List Value} (t : TypeId)
  (hh : w1.heap = w.heap) (hx : Goes w w1) (hcs : cs.toList = vs ++ r) (hl : repL (Rep g a) l' vs) (hr : ∀ v ∈ r, v.oneCell' = true) :
  ∃ g', g.le g' ∧ HInv g' (setE H e (.vec k' a l')) (World.mk' w1 (.cells cs t)) ∧ g'.sh e = .vec k' a.sk l'.length ∧ g'.bl e = some w.heap.size ∧ g'.sz e = cs.size := by
 have hlive : (getE H e).live = true := by rw [hE]; rfl
 have hlt := lt_of_live hlive
 have hsh : g.sh e = .vec k a.sk l.length := by rw [h.sh, hE]; rfl
 have hle : g.le (g.put e (shp (.vec k' a l')) (some w.heap.size) cs.size) := G.put_le (.grew (s' := a.sk) (n' := l'.length) hsh (by simp [G.put, shp]) hk)
 refine ⟨_, hle, h.turn hlt hle ?_ ?_ ?_ ?_ ?_, by simp [G.put, shp], by simp [G.put], by simp [G.put]⟩
 ·intro b' o _ ho
  exact push_old (w := w1) (by rw [hh]; exact ho)
 ·refine .inr ⟨w.heap.size, cs, t, (0, 0), vs, r, by simp [G.put], ?_, .inl (by simp), by simp [G.put], hcs, repL_mono (fun y _ cs => (Rep_mono hle a y cs).1) hl, hr⟩
  show (w1.heap.push (.cells cs t))[w.heap.size]? = _
  rw [hh, Array.getElem?_push_size]
 ·intro b' hb
  cases hb
  constructor
  ·refine Option.eq_none_iff_forall_ne_some.2 fun o hc => ?_
   have := h.fr _ _ hc; simp at this
  ·refine Option.eq_none_iff_forall_ne_some.2 fun o hc => ?_
   have := h.gr _ _ hc; simp at this
 ·intro i b' _ hl hb hc
  cases hc
  obtain ⟨o0, hx⟩ := h.there hl hb
  have := (Array.getElem?_eq_some_iff.1 hx).1
  omega
 ·exact (h.ext.goes hx).goes ⟨rfl, Nat.le_refl _⟩
theorem HInv.setVec {g : G} {H : Heap} {w : World} (h : HInv g H w) {e b k k' : Nat} {a : Ty} {l l' : List a.den} {cs cs' : Array Value} {t : TypeId} {fz : Nat × Nat} {vs r : List Value}
  (hE : getE H e = .vec k a l) (hb : g.bl e = some b) (hc : w.heap[b]? = some (.cells cs t fz)) (hz : g.sz e = cs'.size) (hth : thawed cs' fz) (hk : k < k' ∨ (k = k' ∧ l'.length = l.length))
  (hcs : cs'.toList = vs ++ r) (hl : repL (Rep g a) l' vs) (hr : ∀ v ∈ r, v.oneCell' = true) :
  ∃ g', g.le g' ∧ HInv g' (setE H e (.vec k' a l')) (w.setRow b cs') ∧ g'.sh e = .vec k' a.sk l'.length ∧ g'.bl e = some b ∧ g'.sz e = g.sz e := by
 have hlive : (getE H e).live = true := by rw [hE]; rfl
 have hlt := lt_of_live hlive
 have hsh : g.sh e = .vec k a.sk l.length := by rw [h.sh, hE]; rfl
 have hle : g.le (g.put e (shp (.vec k' a l')) (some b) (g.sz e)) := by
  refine G.put_le ?_
  rcases hk with hk | ⟨rfl, hk⟩
  ·exact .grew (s' := a.sk) (n' := l'.length) hsh (by simp [G.put, shp]) hk
  ·exact .same (by simp [G.put, shp, hsh, hk]) (by simp [G.put, hb]) (by simp [G.put])
 refine ⟨_, hle, h.turn hlt hle ?_ ?_ ?_ ?_ ?_, by simp [G.put, shp], by simp [G.put], by simp [G.put]⟩
 ·intro b' o hne ho
  rw [setRow_other w b b' cs' (hne b hlive hb)]; exact ho
 ·exact .inr ⟨b, cs', t, fz, vs, r, by simp [G.put], setRow_heap w b cs cs' t fz hc, hth, by simp [G.put, hz], hcs, repL_mono (fun y _ cs => (Rep_mono hle a y cs).1) hl, hr⟩
 ·intro b' hb'
  cases hb'
  exact h.own e b hlive hb
 ·intro i b' hi hl hb' hc'
  cases hc'
  exact hi (h.dis i e b hl hlive hb' hb)
 ·exact h.ext.goes (goes_setRow _ _ _)
def argsRep (g : G) : List AV → List Value → Prop
 | [], vs => vs = []
 | a :: l, vs => ∃ v r, vs = v :: r ∧ VRep g a v ∧ argsRep g l r
theorem tvOf_spec {g : G} {a : AV} {t : TV} {v : Value} (h : tvOf a = some t) (hr : VRep g a v) : TRep g t.T t.x v := by
 cases a with
 | v T x =>
  cases T <;> simp only [tvOf, Option.some.injEq] at h <;> first | (cases h; done) | (subst h; exact hr)
 | tup l => simp [tvOf] at h
theorem TRep_ne {g : G} {T : Ty} {x : T.den} {v : Value} (h : TRep g T x v) : T ≠ .und := by
 rintro rfl
 simp [TRep, Ty.agg, Ty.sk, Sk.agg, Rep] at h
theorem Rep_ne {g : G} {T : Ty} {x : T.den} {cs : List Value} (h : Rep g T x cs) : T ≠ .und := by
 rintro rfl; exact h
theorem VRep_val {g : G} {t : TV} {v : Value} (h : TRep g t.T t.x v) : VRep g (val t).1 v := (VRep_v (TRep_ne h)).2 h
theorem TRep_bool {g : G} {b : Bool} {v : Value} : TRep g .bool b v ↔ v = .bool b := by simp [TRep, Ty.agg, Ty.sk, Sk.agg, Rep]
theorem TRep_int {g : G} {k : IntKind} {n : Int} {v : Value} : TRep g (.int k) n v ↔ v = .int k n ∧ inK k n = true := by simp [TRep, Ty.agg, Ty.sk, Sk.agg, Rep]
theorem inK_wrap (k : IntKind) (e : Int) : inK k (k.wrap e) = true := by
 cases k <;> simp [inK, IntKind.wrap, IntKind.min, IntKind.max, IntKind.signed, IntKind.bits] <;> (try split) <;> omega
theorem inK_zero (k : IntKind) : inK k 0 = true := by cases k <;> decide
theorem TRep_wrap {g : G} {k : IntKind} {e : Int} : TRep g (.int k) (k.wrap e) (.int k (k.wrap e)) := TRep_int.2 ⟨rfl, inK_wrap k e⟩
theorem TRep_str {g : G} {s : ByteArray} {v : Value} : TRep g .str s v ↔ v = .string s ∧ s.size ≤ 9223372036854775807 := by simp [TRep, Ty.agg, Ty.sk, Sk.agg, Rep]
theorem TRep_nilp {g : G} {x : Unit} {v : Value} : TRep g .nilp x v ↔ v = .pointer none := by simp [TRep, Ty.agg, Ty.sk, Sk.agg, Rep]
theorem ofVal_spec (g : G) (v : Value) : VRep g (.v (ofVal v).T (ofVal v).x) v := by
 have key : ∀ v, (ofVal v).T ≠ .und → TRep g (ofVal v).T (ofVal v).x v := by
  intro v h
  have hint : ∀ k n, (ofVal (.int k n)).T ≠ .und → TRep g (ofVal (.int k n)).T (ofVal (.int k n)).x (.int k n) := by
   intro k n h
   by_cases hk : inK k n = true
   ·have e : ofVal (.int k n) = ⟨.int k, n⟩ := by simp only [ofVal, if_pos hk]
    rw [e]; exact TRep_int.2 ⟨rfl, hk⟩
   ·have e : ofVal (.int k n) = ⟨.und, ()⟩ := by simp only [ofVal, if_neg hk]
    rw [e] at h; exact (h rfl).elim
  have hstr : ∀ s, (ofVal (.string s)).T ≠ .und → TRep g (ofVal (.string s)).T (ofVal (.string s)).x (.string s) := by
   intro s h
   by_cases hk : s.size ≤ 9223372036854775807
   ·have e : ofVal (.string s) = ⟨.str, s⟩ := by simp only [ofVal, decide_eq_true hk, if_true]
    rw [e]; exact TRep_str.2 ⟨rfl, hk⟩
   ·have e : ofVal (.string s) = ⟨.und, ()⟩ := by simp only [ofVal, decide_eq_false hk]; rfl
    rw [e] at h; exact (h rfl).elim
  by_cases hi : ∃ k n, v = .int k n
  ·obtain ⟨k, n, rfl⟩ := hi; exact hint k n h
  by_cases hs : ∃ s, v = .string s
  ·obtain ⟨s, rfl⟩ := hs; exact hstr s h
  unfold ofVal at h ⊢
  split <;> first | (exact (hi ⟨_, _, rfl⟩).elim) | (exact (hs ⟨_, rfl⟩).elim) | (simp [TRep, Ty.agg, Ty.sk, Sk.agg, Rep]; done) | (simp at h; done) | (show TRep g .nils () _; simp [TRep, Ty.agg, Ty.sk, Sk.agg, Rep])
 by_cases h : (ofVal v).T = .und
 ·generalize ofVal v = t at *
  obtain ⟨T, x⟩ := t
  simp only at h
  subst h
  trivial
 ·exact (VRep_v h).2 (key v h)
end Vse
end
section
set_option linter.unusedVariables false
namespace Vse
open Go
section
variable {P : Program} {g : G}
theorem ofVal_one {c : Value} (h : (ofVal c).T ≠ .und) : Rep g (ofVal c).T (ofVal c).x [c] ∧ (ofVal c).T.sk = .leaf := by
 have h1 := (VRep_v h).1 (ofVal_spec g c)
 have h2 : (ofVal c).T.sk = .leaf := by
  unfold ofVal
  split <;> first | rfl | (split <;> rfl)
 refine ⟨?_, h2⟩
 unfold TRep at h1
 rw [if_neg (by unfold Ty.agg; rw [h2]; simp [Sk.agg])] at h1
 exact h1
theorem decFields_spec {rec : TypeId → List Value → Option (TV × List Value)}
  (hrec : ∀ t cs v r, rec t cs = some (v, r) → ∃ c1, cs = c1 ++ r ∧ Rep g v.T v.x c1) : ∀ {fs : List Field} {cs : List Value} {v : TV} {r : List Value},
  decFields rec fs cs = some (v, r) → ∃ c1, cs = c1 ++ r ∧ Rep g v.T v.x c1
 | [], cs, v, r, h => by
  simp only [decFields, Option.some.injEq, Prod.mk.injEq] at h
  obtain ⟨rfl, rfl⟩ := h
  exact ⟨[], rfl, rfl⟩
 | f :: fs, cs, v, r, h => by
  simp only [decFields] at h
  split at h
  ·rename_i t r' h1
   split at h
   ·rename_i u q h2
    simp only [Option.some.injEq, Prod.mk.injEq] at h
    obtain ⟨rfl, rfl⟩ := h
    obtain ⟨c1, e1, r1⟩ := hrec _ _ _ _ h1
    obtain ⟨c2, e2, r2⟩ := decFields_spec hrec h2
    exact ⟨c1 ++ c2, by rw [e1, e2, List.append_assoc], c1, c2, rfl, r1, r2⟩
   ·cases h
  ·cases h
theorem decMany_spec {rec : List Value → Option (TV × List Value)} {a : Ty}
  (hrec : ∀ cs v r, rec cs = some (v, r) → ∃ c1, cs = c1 ++ r ∧ Rep g v.T v.x c1) : ∀ {n : Nat} {cs : List Value} {l : List a.den} {r : List Value},
  decMany rec a n cs = some (l, r) → l.length = n ∧ ∃ c1, cs = c1 ++ r ∧ repL (Rep g a) l c1
 | 0, cs, l, r, h => by
  simp only [decMany, Option.some.injEq, Prod.mk.injEq] at h
  obtain ⟨rfl, rfl⟩ := h
  exact ⟨rfl, [], rfl, rfl⟩
 | n + 1, cs, l, r, h => by
  simp only [decMany] at h
  split at h
  ·rename_i t r' h1
   split at h
   ·rename_i x hx
    split at h
    ·rename_i l' q h2
     simp only [Option.some.injEq, Prod.mk.injEq] at h
     obtain ⟨rfl, rfl⟩ := h
     obtain ⟨c1, e1, r1⟩ := hrec _ _ _ h1
     obtain ⟨hn, c2, e2, r2⟩ := decMany_spec hrec h2
     have := castT_spec hx
     subst this
     exact ⟨by simp [hn], c1 ++ c2, by rw [e1, e2, List.append_assoc], c1, c2, rfl, r1, r2⟩
    ·cases h
   ·cases h
  ·cases h
theorem decZ_spec : ∀ {n : Nat} {t : TypeId} {cs : List Value} {v : TV} {r : List Value}, decZ P n t cs = some (v, r) → ∃ c1, cs = c1 ++ r ∧ Rep g v.T v.x c1
 | 0, _, _, _, _, h => by simp [decZ] at h
 | n + 1, t, cs, v, r, h => by
  unfold decZ at h
  split at h
  ·exact decFields_spec (fun t cs v r h => decZ_spec h) h
  ·split at h
   ·rename_i u q h1
    split at h
    ·rename_i l q' h2
     simp only [Option.some.injEq, Prod.mk.injEq] at h
     obtain ⟨rfl, rfl⟩ := h
     obtain ⟨hn, c1, e1, r1⟩ := decMany_spec (fun cs v r h => decZ_spec h) h2
     exact ⟨c1, e1, hn, r1⟩
    ·cases h
   ·cases h
  ·split at h
   ·rename_i c r'
    split at h
    ·cases h
    ·rename_i v' hv
     simp only [Option.some.injEq, Prod.mk.injEq] at h
     obtain ⟨rfl, rfl⟩ := h
     have : (ofVal c).T ≠ .und := by
      intro hu
      generalize ofVal c = t at *
      obtain ⟨T, x⟩ := t
      simp only at hu
      subst hu
      exact hv () rfl
     exact ⟨[c], rfl, (ofVal_one this).1⟩
   ·cases h
theorem zeroT_spec {t : TypeId} {z : TV} (h : zeroT P t = some z) : sk? P t = some z.T.sk ∧ ∃ i zv, P.info? t = some i ∧ i.zero = some zv ∧ TRep g z.T z.x zv ∧ (∀ w, (zeroValue t).run P w = .ok zv w) := by
 unfold zeroT at h
 split at h
 ·rename_i i hi
  split at h
  ·rename_i zv hz
   split at h
   ·rename_i s hs
    split at h
    ·rename_i v hv
     split at h
     ·rename_i hc
      simp only [Option.some.injEq] at h; subst h
      simp only [Bool.and_eq_true, decide_eq_true_eq] at hc
      obtain ⟨c1, c2⟩ := hc
      obtain ⟨cs, e1, r1⟩ := decZ_spec (g := g) hv
      simp only [List.append_nil] at e1
      refine ⟨by rw [c1]; exact hs, i, zv, hi, hz, ?_, fun w => ?_⟩
      ·cases zv with
       | agg cells =>
        simp only [Value.cells] at e1
        exact TRep_of_agg (by unfold Ty.agg; rw [c1]; exact c2) (by rw [e1]; exact r1)
       | _ =>
        simp only [Value.cells] at e1
        refine TRep_of_leaf (by unfold Ty.agg; rw [c1]; simpa [aggOk] using c2) ?_
        simp only [← e1] at r1
        exact r1
      ·simp [zeroValue, run_typeInfo w hi, hz]
     ·cases h
    ·cases h
   ·cases h
  ·cases h
 ·cases h
theorem eqList_iff {α : Type} {f : α → α → Bool} : ∀ {l m : List α}, (∀ x ∈ l, ∀ y, f x y = true ↔ x = y) → (eqList f l m = true ↔ l = m)
 | [], [], _ => by simp [eqList]
 | [], _ :: _, _ => by simp [eqList]
 | _ :: _, [], _ => by simp [eqList]
 | x :: xs, y :: ys, h => by
  simp only [eqList, Bool.and_eq_true, List.cons.injEq]
  rw [h x (by simp) y, eqList_iff (fun z hz => h z (by simp [hz]))]
def EqAtT (P : Program) (g : G) (n : Nat) (t : TypeId) (T : Ty) : Prop :=
 ∀ (x y : T.den) (xs ys : List Value) (va vb : Value) (d : Nat) (w : World), Rep g T x xs → Rep g T y ys →
  (if T.agg then va = .agg xs.toArray else xs = [va]) → (if T.agg then vb = .agg ys.toArray else ys = [vb]) →
  (Op.equalIn (n + d) t va vb).run P w = .ok (eqT T x y) w
theorem eqFields_run {n m : Nat} (ih : ∀ t T s, cmpTy P n t T = true → skOf P m t = some s → s = T.sk → EqAtT P g n t T) :
  ∀ (fs : List Field) (T : Ty) (s : Sk) (x y : T.den) (xs ys : List Value) (cx cy : Array Value) (off d : Nat) (w : World),
  cmpFields (cmpTy P n) fs T = true → skFields (skOf P m) fs off = some s → s = T.sk → Rep g T x xs → Rep g T y ys →
  (∃ p, cx.toList = p ++ xs ∧ p.length = off) → (∃ p, cy.toList = p ++ ys ∧ p.length = off) →
  (Op.eqFields (n + d) cx cy fs).run P w = .ok (eqT T x y) w := by
 intro fs
 induction fs with
 | nil =>
  intro T s x y xs ys cx cy off d w hc hs hT hx hy hpx hpy
  cases T <;> simp [cmpFields] at hc
  simp [Op.eqFields, eqT]
 | cons f fs ihf =>
  intro T s x y xs ys cx cy off d w hc hs hT hx hy hpx hpy
  cases T <;> simp only [cmpFields, Bool.false_eq_true] at hc
  rename_i a b
  simp only [Bool.and_eq_true] at hc
  obtain ⟨⟨hname, hca⟩, hcb⟩ := hc
  simp only [skFields] at hs
  split at hs
  ·rename_i ho
   split at hs
   ·rename_i sf hsf
    split at hs
    ·rename_i sr hsr
     simp only [Option.some.injEq] at hs
     rw [← hs] at hT
     simp only [Ty.sk, Sk.prod.injEq] at hT
     obtain ⟨ha, hb⟩ := hT
     obtain ⟨x1, x2, rfl, hx1, hx2⟩ := hx
     obtain ⟨y1, y2, rfl, hy1, hy2⟩ := hy
     obtain ⟨px, ex, lx⟩ := hpx
     obtain ⟨py, ey, ly⟩ := hpy
     have l1 := Rep_length _ _ _ hx1
     have l2 := Rep_length _ _ _ hy1
     have hn : sf.nc = a.nc := by unfold Ty.nc; rw [ha]
     have sx : seg cx.toList f.offset sf.nc = x1 := by rw [ex, ho, ← lx, show px.length = px.length + 0 by omega, seg_append_right, seg_append_left (by omega), seg_all (by omega)]
     have sy : seg cy.toList f.offset sf.nc = y1 := by rw [ey, ho, ← ly, show py.length = py.length + 0 by omega, seg_append_right, seg_append_left (by omega), seg_all (by omega)]
     have zx : f.offset + sf.nc ≤ cx.size := by
      have := congrArg List.length ex
      simp only [Array.length_toList, List.length_append] at this
      omega
     have zy : f.offset + sf.nc ≤ cy.size := by
      have := congrArg List.length ey
      simp only [Array.length_toList, List.length_append] at this
      omega
     obtain ⟨va, ra, hva⟩ := run_part_sk hsf w cx f.offset zx
     obtain ⟨vb, rb, hvb⟩ := run_part_sk hsf w cy f.offset zy
     rw [sx] at hva
     rw [sy] at hvb
     have hag : a.agg = sf.agg := by unfold Ty.agg; rw [ha]
     have he := ih f.type a sf hca hsf ha x.1 y.1 x1 y1 va vb d w hx1 hy1 (by rw [hag]; exact hva) (by rw [hag]; exact hvb)
     have hne : f.name ≠ "_" := by simpa using hname
     simp only [Op.eqFields, if_pos hne, Sem.run_bind, ra, rb, Result.andThen_ok, he, eqT]
     cases eqT a x.1 y.1 with
     | false => simp
     | true =>
      simp only [Bool.not_true, Bool.false_eq_true, if_false, Bool.true_and]
      refine ihf b sr x.2 y.2 x2 y2 cx cy (off + sf.nc) d w hcb hsr hb hx2 hy2 ⟨px ++ x1, by rw [ex, List.append_assoc], by rw [List.length_append]; omega⟩ ⟨py ++ y1, by rw [ey, List.append_assoc], by rw [List.length_append]; omega⟩
    ·cases hs
   ·cases hs
  ·cases hs
theorem eqItems_run {n m : Nat} {e : TypeId} {a : Ty} {s : Sk} (ih : EqAtT P g n e a) (hs : skOf P m e = some s) (hsa : s = a.sk) (d : Nat) (w : World) :
  ∀ (x y : List a.den) (xs ys : List Value) (cx cy : Array Value) (i : Nat), x.length = y.length → repL (Rep g a) x xs → repL (Rep g a) y ys →
  (∃ p, cx.toList = p ++ xs ∧ p.length = i * a.nc) → (∃ p, cy.toList = p ++ ys ∧ p.length = i * a.nc) →
  (Op.eqItems (n + d) e (P.cellsOf e) cx cy (List.range' i x.length)).run P w = .ok (eqList (eqT a) x y) w := by
 intro x
 induction x with
 | nil =>
  intro y xs ys cx cy i hl hx hy hpx hpy
  cases y with
  | nil => simp [Op.eqItems, eqList]
  | cons => simp at hl
 | cons x0 x ihx =>
  intro y xs ys cx cy i hl hx hy hpx hpy
  cases y with
  | nil => simp at hl
  | cons y0 y =>
   obtain ⟨x1, x2, rfl, hx1, hx2⟩ := hx
   obtain ⟨y1, y2, rfl, hy1, hy2⟩ := hy
   obtain ⟨px, ex, lx⟩ := hpx
   obtain ⟨py, ey, ly⟩ := hpy
   have l1 := Rep_length _ _ _ hx1
   have l2 := Rep_length _ _ _ hy1
   have hn : s.nc = a.nc := by unfold Ty.nc; rw [hsa]
   have hz : P.cellsOf e = a.nc := by rw [cellsOf_sk hs, hn]
   have sx : seg cx.toList (i * P.cellsOf e) s.nc = x1 := by rw [ex, hz, ← lx, show px.length = px.length + 0 by omega, seg_append_right, seg_append_left (by omega), seg_all (by omega)]
   have sy : seg cy.toList (i * P.cellsOf e) s.nc = y1 := by rw [ey, hz, ← ly, show py.length = py.length + 0 by omega, seg_append_right, seg_append_left (by omega), seg_all (by omega)]
   have zx : i * P.cellsOf e + s.nc ≤ cx.size := by
    have := congrArg List.length ex
    simp only [Array.length_toList, List.length_append] at this
    rw [hz]; omega
   have zy : i * P.cellsOf e + s.nc ≤ cy.size := by
    have := congrArg List.length ey
    simp only [Array.length_toList, List.length_append] at this
    rw [hz]; omega
   obtain ⟨va, ra, hva⟩ := run_part_sk hs w cx _ zx
   obtain ⟨vb, rb, hvb⟩ := run_part_sk hs w cy _ zy
   rw [sx] at hva
   rw [sy] at hvb
   have hag : a.agg = s.agg := by unfold Ty.agg; rw [hsa]
   have he := ih x0 y0 x1 y1 va vb d w hx1 hy1 (by rw [hag]; exact hva) (by rw [hag]; exact hvb)
   simp only [List.length_cons, List.range'_succ, Op.eqItems, Sem.run_bind, ra, rb, Result.andThen_ok, he, eqList]
   cases eqT a x0 y0 with
   | false => simp
   | true =>
    simp only [Bool.not_true, Bool.false_eq_true, if_false, Bool.true_and]
    refine ihx y x2 y2 cx cy (i + 1) (by simpa using hl) hx2 hy2 ⟨px ++ x1, by rw [ex, List.append_assoc], by rw [List.length_append, lx, l1, Nat.add_mul]; omega⟩ ⟨py ++ y1, by rw [ey, List.append_assoc], by rw [List.length_append, ly, l2, Nat.add_mul]; omega⟩
theorem equalIn_run : ∀ (n : Nat) (t : TypeId) (T : Ty) (m : Nat) (s : Sk), cmpTy P n t T = true → skOf P m t = some s → s = T.sk → EqAtT P g n t T
 | 0, t, T, m, s, h, _, _ => by simp [cmpTy] at h
 | n + 1, t, T, m, s, h, hs, hT => by
  intro x y xs ys va vb d w hx hy hva hvb
  rw [show n + 1 + d = (n + d) + 1 by omega]
  unfold cmpTy at h
  split at h
  ·rename_i hu
   cases T <;> simp only [Bool.false_eq_true] at h
   simp only [Rep] at hx hy
   subst hx; subst hy
   simp [Ty.agg, Ty.sk, Sk.agg] at hva hvb
   subst hva; subst hvb
   exact run_equalIn_bool w _ t x y hu
  ·rename_i k hu
   cases T <;> simp only [Bool.false_eq_true] at h
   simp only [Rep] at hx hy
   obtain ⟨hx, _⟩ := hx
   obtain ⟨hy, _⟩ := hy
   subst hx; subst hy
   simp [Ty.agg, Ty.sk, Sk.agg] at hva hvb
   subst hva; subst hvb
   rw [run_equalIn_int w _ t _ _ _ _ hu]
   simp only [eqT]
   congr 1
  ·rename_i hu
   cases T <;> simp only [Bool.false_eq_true] at h
   simp only [Rep] at hx hy
   obtain ⟨hx, _⟩ := hx; obtain ⟨hy, _⟩ := hy; subst hx; subst hy
   simp [Ty.agg, Ty.sk, Sk.agg] at hva hvb
   subst hva; subst hvb
   rw [run_equalIn_string w _ t x y hu, eqT, beq_toListBytes]
  ·rename_i fs hu
   simp only [Bool.and_eq_true, Bool.not_eq_true'] at h
   obtain ⟨i, hi, hz, d', hu', hd⟩ := skOf_spec hs
   rw [hu] at hu'
   simp only [Option.some.injEq] at hu'
   subst hu'
   rcases hd with ⟨_, h1, _⟩ | ⟨fs', m', hfs, rfl, hsf, hag⟩ | ⟨k, e, a, m', hk, _⟩
   ·exact absurd rfl (h1 fs)
   ·simp only [TypeDesc.struct.injEq] at hfs
    subst hfs
    have hfo : P.fieldsOf t = fs := by simp [Program.fieldsOf, hu]
    have hTa : T.agg = true := by unfold Ty.agg; rw [← hT]; exact hag
    rw [if_pos hTa] at hva hvb
    subst hva; subst hvb
    rw [run_equalIn_struct w _ t _ _ (by rw [hfo]; exact hu) h.1, hfo]
    exact eqFields_run (fun t T s hc hs hT => equalIn_run n t T m' s hc hs hT) fs.toList T s x y xs ys _ _ 0 d w h.2 hsf hT hx hy ⟨[], by simp, rfl⟩ ⟨[], by simp, rfl⟩
   ·cases hk
  ·rename_i k e hu
   cases T <;> simp only [Bool.false_eq_true] at h
   rename_i k' a
   simp only [Bool.and_eq_true, beq_iff_eq] at h
   obtain ⟨i, hi, hz, d', hu', hd⟩ := skOf_spec hs
   rw [hu] at hu'
   simp only [Option.some.injEq] at hu'
   subst hu'
   rcases hd with ⟨_, _, h2⟩ | ⟨fs', m', hfs, _⟩ | ⟨k2, e2, a2, m', hk, rfl, hsa, rfl⟩
   ·exact absurd rfl (h2 k e)
   ·cases hfs
   ·simp only [TypeDesc.array.injEq] at hk
    obtain ⟨rfl, rfl⟩ := hk
    simp only [Ty.sk, Sk.arr.injEq] at hT
    have hTa : (Ty.arr k' a).agg = true := rfl
    rw [if_pos hTa] at hva hvb
    subst hva; subst hvb
    obtain ⟨lx, hx⟩ := hx
    obtain ⟨ly, hy⟩ := hy
    obtain ⟨ie, hie, _⟩ := skOf_spec hsa
    rw [run_equalIn_array w _ _ _ hu hie, List.range_eq_range', h.1, ← lx]
    exact eqItems_run (equalIn_run n e a m' a2 h.2 hsa hT.2) hsa hT.2 d w x y xs ys _ _ 0 (by rw [lx, ly]) hx hy ⟨[], by simp, by simp⟩ ⟨[], by simp, by simp⟩
  ·cases h
end
end Vse
end
section
set_option linter.unusedVariables false
namespace Vse
open Go
section
variable {P : Program} {g : G}
theorem TRep_agg_val {T : Ty} {x : T.den} {v : Value} (h : TRep g T x v) : ∃ cs, Rep g T x cs ∧ (if T.agg then v = .agg cs.toArray else cs = [v]) := by
 unfold TRep at h
 split at h
 ·obtain ⟨cs, rfl, hr⟩ := h; exact ⟨cs.toList, hr, by rw [if_pos (by assumption)]⟩
 ·exact ⟨[v], h, by rw [if_neg (by assumption)]⟩
theorem eqlT_run {t : TypeId} {T : Ty} {x y : T.den} {va vb : Value} {r : Bool} (h : (eqlT P t T x y).eval = some r) (hx : TRep g T x va) (hy : TRep g T y vb) (w : World) :
  r = eqT T x y ∧ P.eqGuardType P.depth t = false ∧ (Op.equal t va vb).run P w = .ok (eqT T x y) w := by
 unfold eqlT at h
 split at h
 ·rename_i hc
  have := Tr.ret_some h
  simp only [Bool.and_eq_true, Bool.not_eq_true', beq_iff_eq] at hc
  obtain ⟨⟨h1, h2⟩, h3⟩ := hc
  obtain ⟨xs, hxs, hva⟩ := TRep_agg_val hx
  obtain ⟨ys, hys, hvb⟩ := TRep_agg_val hy
  refine ⟨this.symm, h3, ?_⟩
  have := equalIn_run (g := g) depth0 t T depth0 _ h1 h2 rfl x y xs ys va vb 9988 w hxs hys hva hvb
  exact this
 ·exact (Tr.fail_some h).elim
theorem run_eqGuard_plain {op : BinOp} {t : TypeId} {x y : Operand} {a b : Value} (w : World) (h1 : ∀ c, a ≠ .agg c) (h2 : a ≠ .nilIface) : (eqGuard op t x y a b).run P w = .ok () w := by
 cases op <;> cases a <;> simp_all [eqGuard]
theorem eqGuard_any {op : BinOp} {t : TypeId} {x y : Operand} {T : Ty} {u : T.den} {a b : Value} (w : World) (ha : TRep g T u a) (hT : T.sk ≠ .leaf ∨ ∃ c, T = .int c ∨ T = .str ∨ T = .bool ∨ T = .nilp) (hm : T.sk = .leaf ∨ P.eqGuardType P.depth t = false) :
  (eqGuard op t x y a b).run P w = .ok () w := by
 rcases hT with hT | ⟨c, hT⟩
 ·rcases hm with hm | hm
  ·exact absurd hm hT
  ·have hag : T.agg = true := by unfold Ty.agg; cases hs : T.sk <;> first | rfl | (exact absurd hs hT)
   unfold TRep at ha
   rw [if_pos hag] at ha
   obtain ⟨cs, rfl, _⟩ := ha
   cases b with
   | agg ys => exact run_eqGuard_agg w op t x y cs ys hm
   | _ => cases op <;> simp [eqGuard]
 ·refine run_eqGuard_plain w ?_ ?_
  ·intro cs hc; subst hc
   rcases hT with rfl | rfl | rfl | rfl <;> simp [TRep, Ty.agg, Ty.sk, Sk.agg, Rep] at ha
  ·intro hc; subst hc
   rcases hT with rfl | rfl | rfl | rfl <;> simp [TRep, Ty.agg, Ty.sk, Sk.agg, Rep] at ha
theorem inK_iff {k : IntKind} {n : Int} : inK k n = true ↔ k.min ≤ n ∧ n ≤ k.max := by simp [inK]
theorem min_nonpos (k : IntKind) : k.min ≤ 0 := by cases k <;> decide
theorem max_nonneg (k : IntKind) : 0 ≤ k.max := by cases k <;> decide
theorem inK_between {k : IntKind} {x n : Int} (hx : inK k x = true) (h1 : 0 ≤ x → 0 ≤ n ∧ n ≤ x) (h2 : x ≤ 0 → x ≤ n ∧ n ≤ 0) : inK k n = true := by
 rw [inK_iff] at hx ⊢
 have := min_nonpos k
 have := max_nonneg k
 rcases Int.le_total 0 x with h | h
 ·have := h1 h; omega
 ·have := h2 h; omega
theorem nat_tmod (m : Nat) (y : Int) : ∃ q : Nat, (m : Int).tmod y = q ∧ q ≤ m := by
 obtain ⟨n, rfl | rfl⟩ := Int.eq_nat_or_neg y
 ·exact ⟨m % n, rfl, Nat.mod_le _ _⟩
 ·exact ⟨m % n, by rw [Int.tmod_neg]; rfl, Nat.mod_le _ _⟩
theorem inK_tmod {k : IntKind} {x y : Int} (hx : inK k x = true) : inK k (x.tmod y) = true := by
 refine inK_between hx (fun h => ?_) (fun h => ?_)
 ·obtain ⟨m, rfl⟩ := Int.eq_ofNat_of_zero_le h
  obtain ⟨q, h1, h2⟩ := nat_tmod m y
  omega
 ·obtain ⟨m, hm⟩ := Int.eq_ofNat_of_zero_le (show 0 ≤ -x by omega)
  have e : x = -(m : Int) := by omega
  obtain ⟨q, h1, h2⟩ := nat_tmod m y
  rw [e, Int.neg_tmod]
  omega
theorem inK_shr {k : IntKind} {x y : Int} (hx : inK k x = true) : inK k (shrI k x y) = true := by
 unfold shrI
 generalize min y.toNat k.bits = m
 have hd : (0 : Int) < 2 ^ m := Int.pow_pos (by omega)
 rw [Int.fdiv_eq_ediv_of_nonneg _ (by omega)]
 refine inK_between hx (fun h => ?_) (fun h => ?_)
 ·exact ⟨Int.ediv_nonneg h (by omega), Int.ediv_le_self _ h⟩
 ·refine ⟨?_, Int.ediv_nonpos_of_nonpos_of_neg h (by omega)⟩
  have : x * 2 ^ m ≤ x * 1 := Int.mul_le_mul_of_nonpos_left h (by omega)
  exact Int.le_ediv_of_mul_le hd (by omega)
theorem intBin_run {op : BinOp} {k : IntKind} {x y : Int} {t : TypeId} {r : TV} (hx : inK k x = true) (h : (intBin op k x y).eval = some r) (hop : op ≠ .shl ∧ op ≠ .shr) (w : World) :
  ∃ v, (binOp op t (.int k x) (.int k y)).run P w = .ok v w ∧ TRep g r.T r.x v := by
 cases op <;> simp only [intBin] at h
 case add | sub | mul => have := Tr.ret_some h; subst this; exact ⟨_, by simp [binOp, Op.intArith], TRep_wrap⟩
 case quo | rem =>
  rcases Tr.ite_some h with ⟨_, h⟩ | ⟨hb, h⟩
  ·exact (Tr.fail_some h).elim
  ·have := Tr.ret_some h; subst this
   have hy : y ≠ 0 := by simpa using hb
   first
    | exact ⟨_, by simp [binOp, Op.intDiv, hy], TRep_wrap⟩
    | exact ⟨_, by simp [binOp, Op.intDiv, hy], TRep_int.2 ⟨rfl, inK_tmod hx⟩⟩
 case and | or | xor | andNot => have := Tr.ret_some h; subst this; exact ⟨_, by simp only [binOp, ne_eq, not_true_eq_false, if_false, Op.intBits]; rfl, TRep_wrap⟩
 case eql | neq | lss | leq | gtr | geq => have := Tr.ret_some h; subst this; exact ⟨_, by simp [binOp, Op.intCmp], TRep_bool.2 rfl⟩
 case shl => exact absurd rfl hop.1
 case shr => exact absurd rfl hop.2
theorem strBin_run {op : BinOp} {x y : ByteArray} {t : TypeId} {r : TV} (h : (strBin op x y).eval = some r) (w : World) :
  ∃ v, (binOp op t (.string x) (.string y)).run P w = .ok v w ∧ TRep g r.T r.x v := by
 cases op <;> simp only [strBin] at h
 case add =>
  obtain ⟨hb, h⟩ := Tr.chk_some h
  have := Tr.ret_some h; subst this
  have hb : x.size + y.size ≤ 9223372036854775807 := by simpa using hb
  refine ⟨.string (x ++ y), ?_, TRep_str.2 ⟨rfl, by simpa using hb⟩⟩
  have : ¬ ((x.size + y.size : Nat) : Int) > IntKind.i64.max := by
   have : IntKind.i64.max = 9223372036854775807 := by decide
   rw [this]; omega
  simp only [binOp, Op.stringOp]
  rw [if_neg this]; rfl
 case eql => have := Tr.ret_some h; subst this; exact ⟨.bool (x == y), by simp [binOp, Op.stringOp, beq_toListBytes], TRep_bool.2 rfl⟩
 case neq => have := Tr.ret_some h; subst this; exact ⟨.bool (x != y), by simp [binOp, Op.stringOp, beq_toListBytes, bne], TRep_bool.2 rfl⟩
 all_goals exact (Tr.fail_some h).elim
theorem binOp_eql_agg (t : TypeId) (a b : Array Value) (w : World) : (binOp .eql t (.agg a) (.agg b)).run P w = ((Op.equal t (.agg a) (.agg b)).run P w).andThen fun r w' => .ok (.bool r) w' := by
 simp only [binOp, Sem.run_bind, Sem.run_pure]
theorem binOp_neq_agg (t : TypeId) (a b : Array Value) (w : World) : (binOp .neq t (.agg a) (.agg b)).run P w = ((Op.equal t (.agg a) (.agg b)).run P w).andThen fun r w' => .ok (.bool !r) w' := by
 simp only [binOp, Sem.run_bind, Sem.run_pure]
theorem binOp_eql_bool (t : TypeId) (a b : Bool) (w : World) : (binOp .eql t (.bool a) (.bool b)).run P w = ((Op.equal t (.bool a) (.bool b)).run P w).andThen fun r w' => .ok (.bool r) w' := by
 simp only [binOp, Sem.run_bind, Sem.run_pure]
theorem binOp_neq_bool (t : TypeId) (a b : Bool) (w : World) : (binOp .neq t (.bool a) (.bool b)).run P w = ((Op.equal t (.bool a) (.bool b)).run P w).andThen fun r w' => .ok (.bool !r) w' := by
 simp only [binOp, Sem.run_bind, Sem.run_pure]
theorem cmpTy_kind {n : Nat} {t : TypeId} {T : Ty} (h : cmpTy P n t T = true) : T = .bool ∨ (∃ k, T = .int k) ∨ T = .str ∨ T.sk ≠ .leaf := by
 cases n with
 | zero => simp [cmpTy] at h
 | succ n =>
  unfold cmpTy at h
  split at h
  ·cases T <;> simp_all
  ·cases T <;> simp_all
  ·cases T <;> simp_all
  ·rename_i fs hu
   refine .inr (.inr (.inr ?_))
   simp only [Bool.and_eq_true] at h
   have h := h.2
   cases hf : fs.toList <;> rw [hf] at h <;> cases T <;> simp_all [cmpFields, Ty.sk]
  ·cases T <;> simp_all [Ty.sk]
  ·cases h
theorem run_equal_nilp (w : World) {t e : TypeId} (hu : P.underlying t = some (.pointer e)) : (Op.equal t (.pointer none) (.pointer none)).run P w = .ok true w := by
 have e : Op.equal t (.pointer none) (.pointer none) = Op.equalIn (9999 + 1) t (.pointer none) (.pointer none) := rfl
 rw [e, Op.equalIn, Sem.run_bind, run_underlying hu]
 rfl
theorem binT_run {op : BinOp} {t : TypeId} {x y : Operand} {a b r : TV} {va vb : Value} (h : (binT P op t a b).eval = some r) (ha : TRep g a.T a.x va) (hb : TRep g b.T b.x vb) (w : World) :
  ∃ v, (do eqGuard op t x y va vb; binOp op t va vb : Sem Value).run P w = .ok v w ∧ TRep g r.T r.x v := by
 have key : ∀ (T : Ty) (p q : T.den), TRep g T p va → TRep g T q vb → ∀ (f : Bool → Bool), (op = .eql ∧ f = id) ∨ (op = .neq ∧ f = (! ·)) →
   ∀ r, (eqlT P t T p q).eval = some r → ∃ v, (do eqGuard op t x y va vb; binOp op t va vb : Sem Value).run P w = .ok v w ∧ v = .bool (f r) := by
  intro T p q hp hq f hf r hr
  obtain ⟨rfl, hg, he⟩ := eqlT_run hr hp hq w
  have hk : cmpTy P depth0 t T = true := by
   unfold eqlT at hr
   split at hr
   ·rename_i hc; simp only [Bool.and_eq_true] at hc; exact hc.1.1
   ·exact (Tr.fail_some hr).elim
  have hkind := cmpTy_kind hk
  have hgd : (eqGuard op t x y va vb).run P w = .ok () w := by
   refine eqGuard_any (T := T) (u := p) w hp ?_ (by by_cases hs : T.sk = .leaf <;> simp [hs, hg])
   rcases hkind with rfl | ⟨k, rfl⟩ | rfl | hs
   ·exact .inr ⟨.i8, by simp⟩
   ·exact .inr ⟨k, by simp⟩
   ·exact .inr ⟨.i8, by simp⟩
   ·exact .inl hs
  simp only [Sem.run_bind, hgd, Result.andThen_ok]
  rcases hkind with rfl | ⟨k, rfl⟩ | rfl | hs
  ·rw [TRep_bool] at hp hq
   subst hp; subst hq
   rcases hf with ⟨rfl, rfl⟩ | ⟨rfl, rfl⟩
   ·rw [binOp_eql_bool, he]; exact ⟨_, rfl, rfl⟩
   ·rw [binOp_neq_bool, he]; exact ⟨_, rfl, rfl⟩
  ·rw [TRep_int] at hp hq
   obtain ⟨hp, _⟩ := hp
   obtain ⟨hq, _⟩ := hq
   subst hp; subst hq
   rcases hf with ⟨rfl, rfl⟩ | ⟨rfl, rfl⟩
   ·exact ⟨_, by simp [binOp, Op.intCmp]; rfl, by simp [eqT]; rfl⟩
   ·exact ⟨_, by simp [binOp, Op.intCmp]; rfl, by simp [eqT, bne]; rfl⟩
  ·rw [TRep_str] at hp hq
   obtain ⟨hp, _⟩ := hp
   obtain ⟨hq, _⟩ := hq
   subst hp; subst hq
   rcases hf with ⟨rfl, rfl⟩ | ⟨rfl, rfl⟩
   ·exact ⟨_, by simp [binOp, Op.stringOp]; rfl, by simp [eqT, beq_toListBytes]⟩
   ·exact ⟨_, by simp [binOp, Op.stringOp]; rfl, by simp [eqT, beq_toListBytes]⟩
  ·have hag : T.agg = true := by unfold Ty.agg; cases hs' : T.sk <;> first | rfl | (exact absurd hs' hs)
   unfold TRep at hp hq
   rw [if_pos hag] at hp hq
   obtain ⟨ca, rfl, _⟩ := hp
   obtain ⟨cb, rfl, _⟩ := hq
   rcases hf with ⟨rfl, rfl⟩ | ⟨rfl, rfl⟩
   ·rw [binOp_eql_agg, he]; exact ⟨_, rfl, rfl⟩
   ·rw [binOp_neq_agg, he]; exact ⟨_, rfl, rfl⟩
 obtain ⟨A, p⟩ := a
 obtain ⟨B, q⟩ := b
 simp only at ha hb
 unfold binT at h
 split at h
 ·
  rename_i k x' k' y' heq1 heq2
  simp only [TV.mk.injEq] at heq1 heq2
  obtain ⟨rfl, h1⟩ := heq1
  obtain ⟨rfl, h2⟩ := heq2
  cases h1; cases h2
  rw [TRep_int] at ha hb
  obtain ⟨ha, hax⟩ := ha
  obtain ⟨hb, hby⟩ := hb
  subst ha; subst hb
  have hpos : (!k'.signed || decide ((0 : Int) ≤ y')) = true → ¬ (y' : Int) < 0 := by
   intro h
   rw [Bool.or_eq_true] at h
   rcases h with h | h
   ·have h2 := (inK_iff.1 hby).1
    have h3 : k'.signed = false := by simpa using h
    simp only [IntKind.min, h3, Bool.false_eq_true, if_false] at h2
    exact Int.not_lt.2 h2
   ·exact Int.not_lt.2 (of_decide_eq_true h)
  have hgd : ∀ op, (eqGuard op t x y (.int k x') (.int k' y')).run P w = .ok () w := fun op => run_eqGuard_plain w (by simp) (by simp)
  simp only [Sem.run_bind, hgd, Result.andThen_ok]
  split at h
  ·obtain ⟨hy, h⟩ := Tr.chk_some h
   have := Tr.ret_some h; subst this
   have hy : ¬ (y' : Int) < 0 := hpos hy
   exact ⟨_, by simp only [binOp, Op.shift, if_neg hy]; rfl, TRep_wrap⟩
  ·obtain ⟨hy, h⟩ := Tr.chk_some h
   have := Tr.ret_some h; subst this
   have hy : ¬ (y' : Int) < 0 := hpos hy
   exact ⟨_, by simp only [binOp, Op.shift, if_neg hy]; rfl, TRep_int.2 ⟨rfl, inK_shr hax⟩⟩
  ·rename_i n1 n2
   split at h
   ·rename_i hk; subst hk
    exact intBin_run hax h ⟨fun e => n1 e, fun e => n2 e⟩ w
   ·exact (Tr.fail_some h).elim
 ·rename_i x' y' heq1 heq2
  simp only [TV.mk.injEq] at heq1 heq2
  obtain ⟨rfl, h1⟩ := heq1
  obtain ⟨rfl, h2⟩ := heq2
  cases h1; cases h2
  rw [TRep_str] at ha hb
  obtain ⟨ha, _⟩ := ha
  obtain ⟨hb, _⟩ := hb
  subst ha; subst hb
  have hgd : ∀ op, (eqGuard op t x y (.string x') (.string y')).run P w = .ok () w := fun op => run_eqGuard_plain w (by simp) (by simp)
  simp only [Sem.run_bind, hgd, Result.andThen_ok]
  exact strBin_run h w
 ·rename_i heq1 heq2
  simp only [TV.mk.injEq] at heq1 heq2
  obtain ⟨rfl, _⟩ := heq1
  obtain ⟨rfl, _⟩ := heq2
  rw [TRep_nilp] at ha hb
  subst ha; subst hb
  split at h
  ·rename_i hc
   have := Tr.ret_some h; subst this
   have hgd : (eqGuard .eql t x y (.pointer none) (.pointer none)).run P w = .ok () w := run_eqGuard_plain w (by simp) (by simp)
   simp only [Sem.run_bind, hgd, Result.andThen_ok]
   unfold isPtrT at hc
   split at hc
   ·rename_i e hu
    refine ⟨.bool true, ?_, TRep_bool.2 rfl⟩
    have e : binOp .eql t (.pointer none) (.pointer none) = (do pure (.bool (← Op.equal t (.pointer none) (.pointer none))) : Sem Value) := rfl
    rw [e, Sem.run_bind, run_equal_nilp w hu]; rfl
   ·cases hc
  ·exact (Tr.fail_some h).elim
 ·rename_i heq1 heq2
  simp only [TV.mk.injEq] at heq1 heq2
  obtain ⟨rfl, _⟩ := heq1
  obtain ⟨rfl, _⟩ := heq2
  rw [TRep_nilp] at ha hb
  subst ha; subst hb
  split at h
  ·rename_i hc
   have := Tr.ret_some h; subst this
   have hgd : (eqGuard .neq t x y (.pointer none) (.pointer none)).run P w = .ok () w := run_eqGuard_plain w (by simp) (by simp)
   simp only [Sem.run_bind, hgd, Result.andThen_ok]
   unfold isPtrT at hc
   split at hc
   ·rename_i e hu
    refine ⟨.bool false, ?_, TRep_bool.2 rfl⟩
    have e : binOp .neq t (.pointer none) (.pointer none) = (do pure (.bool (!(← Op.equal t (.pointer none) (.pointer none)))) : Sem Value) := rfl
    rw [e, Sem.run_bind, run_equal_nilp w hu]; rfl
   ·cases hc
  ·exact (Tr.fail_some h).elim
 ·rename_i T1 x1 T2 y1 n1 n2 n3 heq1 heq2
  simp only [TV.mk.injEq] at heq1 heq2
  obtain ⟨rfl, h1⟩ := heq1
  obtain ⟨rfl, h2⟩ := heq2
  cases h1; cases h2
  split at h
  ·rename_i hT; subst hT
   obtain ⟨b, hb', h⟩ := Tr.bind_some h
   have := Tr.ret_some h; subst this
   obtain ⟨v, hv, rfl⟩ := key _ _ _ ha hb id (.inl ⟨rfl, rfl⟩) b hb'
   exact ⟨_, hv, TRep_bool.2 rfl⟩
  ·exact (Tr.fail_some h).elim
 ·rename_i T1 x1 T2 y1 n1 n2 n3 heq1 heq2
  simp only [TV.mk.injEq] at heq1 heq2
  obtain ⟨rfl, h1⟩ := heq1
  obtain ⟨rfl, h2⟩ := heq2
  cases h1; cases h2
  split at h
  ·rename_i hT; subst hT
   obtain ⟨b, hb', h⟩ := Tr.bind_some h
   have := Tr.ret_some h; subst this
   obtain ⟨v, hv, rfl⟩ := key _ _ _ ha hb (! ·) (.inr ⟨rfl, rfl⟩) b hb'
   exact ⟨_, hv, TRep_bool.2 rfl⟩
  ·exact (Tr.fail_some h).elim
 ·exact (Tr.fail_some h).elim
theorem unT_run {op : UnOp} {a r : TV} {va : Value} (h : (unT op a).eval = some r) (ha : TRep g a.T a.x va) (w : World) :
  ∃ v, (Op.unary op va).run P w = .ok v w ∧ TRep g r.T r.x v := by
 obtain ⟨A, p⟩ := a
 simp only at ha
 unfold unT at h
 split at h
 ·rename_i k n heq
  simp only [TV.mk.injEq] at heq
  obtain ⟨rfl, h1⟩ := heq
  cases h1
  rw [TRep_int] at ha; obtain ⟨ha, _⟩ := ha; subst ha
  have := Tr.ret_some h; subst this
  exact ⟨_, by simp [Op.unary, Op.intArith]; rfl, TRep_int.2 ⟨by simp, inK_wrap _ _⟩⟩
 ·rename_i k n heq
  simp only [TV.mk.injEq] at heq
  obtain ⟨rfl, h1⟩ := heq
  cases h1
  rw [TRep_int] at ha; obtain ⟨ha, _⟩ := ha; subst ha
  have := Tr.ret_some h; subst this
  exact ⟨_, by simp only [Op.unary, Op.intBits]; rfl, TRep_wrap⟩
 ·rename_i b heq
  simp only [TV.mk.injEq] at heq
  obtain ⟨rfl, h1⟩ := heq
  cases h1
  rw [TRep_bool] at ha; subst ha
  have := Tr.ret_some h; subst this
  exact ⟨_, by simp only [Op.unary]; rfl, TRep_bool.2 rfl⟩
 ·exact (Tr.fail_some h).elim
end
end Vse
end
section
set_option linter.unusedVariables false
namespace Vse
open Go
section
variable {P : Program} {g : G}
theorem fold_splice : ∀ (vs : List Value) (j : Nat) (cells : Array Value) (off : Nat), off + j + vs.length ≤ cells.size →
  ((vs.zipIdx j).foldl (fun (cs : Array Value) (x : Value × Nat) => cs.setIfInBounds (off + x.2) x.1) cells).toList = splice cells.toList (off + j) vs
 | [], j, cells, off, h => by simp [splice]
 | v :: vs, j, cells, off, h => by
  simp only [List.zipIdx_cons, List.foldl_cons]
  rw [fold_splice vs (j + 1) _ off (by simp at h ⊢; omega)]
  simp only [Array.toList_setIfInBounds]
  have e := list_seg_step cells.toList (off + j) v vs (by simp at h ⊢; omega)
  unfold splice
  rw [show off + (j + 1) = off + j + 1 by omega]
  simpa using e
theorem fill_one (cells : Array Value) (v : Value) (off : Nat) (h : off + v.cells.size ≤ cells.size) :
  (v.cells.zipIdx.foldl (fun (cs : Array Value) (x : Value × Nat) => cs.setIfInBounds (off + x.2) x.1) cells) = (splice cells.toList off v.cells.toList).toArray := by
 apply Array.ext'
 rw [← Array.foldl_toList, Array.toList_zipIdx, fold_splice _ 0 _ _ (by simpa using h)]
 simp
theorem pend_of_poff : ∀ {s : Sk} {p : List PS} {d : PD p} {o : Nat} {r : Sk}, poff s p d = some (o, r) → pend s p = some r := by
 intro s
 induction s with
 | prod a b iha ihb =>
  intro p d o r h
  cases p with
  | nil => simp only [poff, Option.some.injEq, Prod.mk.injEq] at h; simp [pend, h.2]
  | cons q p =>
   cases q with
   | idx => simp [poff] at h
   | fld m =>
    cases m with
    | zero => simp only [poff] at h; simp only [pend]; exact iha h
    | succ m =>
     simp only [poff, Option.map_eq_some_iff, Prod.mk.injEq, Prod.exists] at h
     obtain ⟨o', r', h, rfl, rfl⟩ := h
     simp only [pend]; exact ihb h
 | arr n a iha =>
  intro p d o r h
  cases p with
  | nil => simp only [poff, Option.some.injEq, Prod.mk.injEq] at h; simp [pend, h.2]
  | cons q p =>
   cases q with
   | fld m => simp [poff] at h
   | idx =>
    simp only [poff] at h
    split at h
    ·simp only [Option.map_eq_some_iff, Prod.mk.injEq, Prod.exists] at h
     obtain ⟨o', r', h, rfl, rfl⟩ := h
     simp only [pend]; exact iha h
    ·cases h
 | _ =>
  intro p d o r h
  cases p with
  | nil => simp only [poff, Option.some.injEq, Prod.mk.injEq] at h; simp [pend, h.2]
  | cons q p => cases q <;> simp [poff] at h
theorem setP_sk : ∀ {T : Ty} {x : T.den} {p : List PS} {d : PD p} {y r : TV}, setP T x p d y = some r → r.T.sk = T.sk := by
 intro T
 induction T with
 | prod a b iha ihb =>
  intro x p d y r h
  cases p with
  | nil => simp only [setP] at h; split at h; rename_i he; simp only [Option.some.injEq] at h; subst h; exact he.symm; cases h
  | cons q p =>
   cases q with
   | idx => simp [setP] at h
   | fld m =>
    cases m with
    | zero =>
     simp only [setP, Option.bind_eq_some_iff, Option.some.injEq] at h
     obtain ⟨q, hq, rfl⟩ := h
     simp only [Ty.sk, iha hq]
    | succ m =>
     simp only [setP, Option.bind_eq_some_iff, Option.some.injEq] at h
     obtain ⟨q, hq, rfl⟩ := h
     simp only [Ty.sk, ihb hq]
 | arr n a iha =>
  intro x p d y r h
  cases p with
  | nil => simp only [setP] at h; split at h; rename_i he; simp only [Option.some.injEq] at h; subst h; exact he.symm; cases h
  | cons q p =>
   cases q with
   | fld m => simp [setP] at h
   | idx =>
    simp only [setP, Option.bind_eq_some_iff, Option.some.injEq] at h
    obtain ⟨q, hq, z, hz, rfl⟩ := h
    rfl
 | _ =>
  intro x p d y r h
  cases p with
  | nil => simp only [setP] at h; split at h; rename_i he; simp only [Option.some.injEq] at h; subst h; exact he.symm; cases h
  | cons q p => cases q <;> simp [setP] at h
theorem poff_snoc : ∀ {s : Sk} {p : List PS} {d : PD p} {q : PS} {d' : PD [q]} {o : Nat} {r : Sk}, poff s p d = some (o, r) →
  poff s (p ++ [q]) (pdSnoc p d q d') = (poff r [q] d').map fun x => (o + x.1, x.2) := by
 intro s
 induction s with
 | prod a b iha ihb =>
  intro p d q d' o r h
  cases p with
  | nil =>
   simp only [poff, Option.some.injEq, Prod.mk.injEq] at h
   obtain ⟨rfl, rfl⟩ := h
   simp [pdSnoc]
  | cons q0 p =>
   cases q0 with
   | idx => simp [poff] at h
   | fld m =>
    cases m with
    | zero => simp only [poff] at h; simp only [List.cons_append, pdSnoc, poff]; exact iha h
    | succ m =>
     simp only [poff, Option.map_eq_some_iff, Prod.mk.injEq, Prod.exists] at h
     obtain ⟨o', r', h, rfl, rfl⟩ := h
     have := ihb (q := q) (d' := d') h
     simp only [pdSnoc, List.cons_append] at this
     simp only [List.cons_append, pdSnoc, poff, this, Option.map_map]
     congr 1
     funext x; simp [Nat.add_assoc]
 | arr n a iha =>
  intro p d q d' o r h
  cases p with
  | nil =>
   simp only [poff, Option.some.injEq, Prod.mk.injEq] at h
   obtain ⟨rfl, rfl⟩ := h
   simp [pdSnoc]
  | cons q0 p =>
   cases q0 with
   | fld m => simp [poff] at h
   | idx =>
    simp only [poff] at h
    split at h
    ·rename_i hi
     simp only [Option.map_eq_some_iff, Prod.mk.injEq, Prod.exists] at h
     obtain ⟨o', r', h, rfl, rfl⟩ := h
     have := iha (q := q) (d' := d') h
     simp only [List.cons_append, pdSnoc, poff, if_pos hi, this, Option.map_map]
     congr 1
     funext x; simp [Nat.add_assoc]
    ·cases h
 | _ =>
  intro p d q d' o r h
  cases p with
  | nil =>
   simp only [poff, Option.some.injEq, Prod.mk.injEq] at h
   obtain ⟨rfl, rfl⟩ := h
   simp [pdSnoc]
  | cons q0 p => cases q0 <;> simp [poff] at h
theorem field_place {n : Nat} {t : TypeId} {s : Sk} {fs : Array Field} (hs : skOf P n t = some s) (hu : P.underlying t = some (.struct fs)) {m : Nat} (hm : m < fs.size) :
  ∃ f sf k, fs[m]? = some f ∧ skOf P k f.type = some sf ∧ poff s [.fld m] () = some (f.offset, sf) := by
 obtain ⟨i, hi, hz, d, hu', hd⟩ := skOf_spec hs
 rw [hu] at hu'
 simp only [Option.some.injEq] at hu'
 subst hu'
 rcases hd with ⟨_, h1, _⟩ | ⟨fs', k, hfs, rfl, hsf, hag⟩ | ⟨k, e, a, m', hk, _⟩
 ·exact absurd rfl (h1 fs)
 ·simp only [TypeDesc.struct.injEq] at hfs
  subst hfs
  obtain ⟨_, h2⟩ := skFields_spec hsf
  obtain ⟨sf, o, a1, a2, a3⟩ := h2 m fs[m] (by simp [hm])
  refine ⟨fs[m], sf, k, by simp [hm], a1, ?_⟩
  rw [a3, a2]; simp
 ·cases hk
theorem arr_sk {n : Nat} {t e : TypeId} {s : Sk} {k : Nat} (hs : skOf P n t = some s) (hu : P.underlying t = some (.array k e)) : ∃ a m, s = .arr k a ∧ skOf P m e = some a := by
 obtain ⟨i, hi, hz, d, hu', hd⟩ := skOf_spec hs
 rw [hu] at hu'
 simp only [Option.some.injEq] at hu'
 subst hu'
 rcases hd with ⟨_, _, h2⟩ | ⟨fs', k, hfs, _⟩ | ⟨k', e', a, m', hk, _, ha, rfl⟩
 ·exact absurd rfl (h2 k e)
 ·cases hfs
 ·simp only [TypeDesc.array.injEq] at hk
  obtain ⟨rfl, rfl⟩ := hk
  exact ⟨a, m', rfl, ha⟩
theorem fill_struct {n : Nat} {t : TypeId} {fs : Array Field} (hu : P.underlying t = some (.struct fs)) :
  ∀ (ns : List Nat) (ts : List TV) (vs : List Value) (z r : TV) (cells : Array Value), tupRep g ts vs → ts.length = ns.length → skOf P n t = some z.T.sk → Rep g z.T z.x cells.toList →
  (∀ i ∈ ns, i < fs.size) → putParts z (zipN ns ts) = some r →
  ∃ cells', Instr.fill (fun i => (fs[i]?).map fun f => (f.offset, P.cellsOf f.type)) cells (ns.zip vs) = some cells' ∧ Rep g r.T r.x cells'.toList ∧ r.T.sk = z.T.sk
 | [], ts, vs, z, r, cells, hv, hl, hs, hz, hn, h => by
  cases ts with
  | cons => simp at hl
  | nil =>
   simp only [zipN, putParts, Option.some.injEq] at h
   subst h
   exact ⟨cells, by simp [Instr.fill], hz, rfl⟩
 | i :: ns, [], vs, z, r, cells, hv, hl, hs, hz, hn, h => by simp at hl
 | i :: ns, t0 :: ts, vs, z, r, cells, hv, hl, hs, hz, hn, h => by
  obtain ⟨v, vs', rfl, hv1, hv2⟩ := hv
  simp only [zipN, putParts] at h
  split at h
  ·rename_i z' hz'
   obtain ⟨f, sf, k, hf, hsf, hp⟩ := field_place hs hu (hn i (by simp))
   have hc := TRep_cells hv1
   obtain ⟨q1, q2, q3, q4⟩ := setP_rep z.T z.x [.fld i] () _ _ _ _ _ _ hz hz' hp hc
   have hsz : v.cells.size = P.cellsOf f.type := by
    rw [cellsOf_sk hsf, ← q1]
    have := Rep_length _ _ _ hc
    show v.cells.size = t0.T.nc
    simpa using this
   have hfit : f.offset + v.cells.size ≤ cells.size := by simpa using q4
   obtain ⟨cells', e1, e2, e3⟩ := fill_struct hu ns ts vs' z' r (splice cells.toList f.offset v.cells.toList).toArray hv2 (by simpa using hl) (by rw [q2]; exact hs) (by simpa using q3) (fun j hj => hn j (by simp [hj])) h
   refine ⟨cells', ?_, e2, e3.trans q2⟩
   simp only [List.zip_cons_cons, Instr.fill, hf, Option.map_some]
   rw [if_neg (by intro hcn; simp only [Bool.or_eq_true, decide_eq_true_eq] at hcn; omega)]
   have := fill_one cells v f.offset hfit
   rw [← e1, ← this]
  ·cases h
theorem fill_array {n : Nat} {t e : TypeId} {k : Nat} (hu : P.underlying t = some (.array k e)) :
  ∀ (ns : List Nat) (ts : List TV) (vs : List Value) (z r : TV) (cells : Array Value), tupRep g ts vs → ts.length = ns.length → skOf P n t = some z.T.sk → Rep g z.T z.x cells.toList →
  (∀ i ∈ ns, i < k) → putElems z (zipN ns ts) = some r →
  ∃ cells', Instr.fill (fun i => some (i * P.cellsOf e, P.cellsOf e)) cells (ns.zip vs) = some cells' ∧ Rep g r.T r.x cells'.toList ∧ r.T.sk = z.T.sk
 | [], ts, vs, z, r, cells, hv, hl, hs, hz, hn, h => by
  cases ts with
  | cons => simp at hl
  | nil =>
   simp only [zipN, putElems, Option.some.injEq] at h
   subst h
   exact ⟨cells, by simp [Instr.fill], hz, rfl⟩
 | i :: ns, [], vs, z, r, cells, hv, hl, hs, hz, hn, h => by simp at hl
 | i :: ns, t0 :: ts, vs, z, r, cells, hv, hl, hs, hz, hn, h => by
  obtain ⟨v, vs', rfl, hv1, hv2⟩ := hv
  simp only [zipN, putElems] at h
  split at h
  ·rename_i z' hz'
   obtain ⟨a, m, hza, hsa⟩ := arr_sk hs hu
   have hp : poff z.T.sk [.idx] (i, ()) = some (i * a.nc, a) := by
    rw [hza]; simp [poff, hn i (by simp)]
   have hc := TRep_cells hv1
   obtain ⟨q1, q2, q3, q4⟩ := setP_rep z.T z.x [.idx] (i, ()) _ _ _ _ _ _ hz hz' hp hc
   have hce : P.cellsOf e = a.nc := cellsOf_sk hsa
   have hsz : v.cells.size = P.cellsOf e := by
    rw [hce, ← q1]
    have := Rep_length _ _ _ hc
    show v.cells.size = t0.T.nc
    simpa using this
   have hfit : i * P.cellsOf e + v.cells.size ≤ cells.size := by rw [hce]; simpa using q4
   obtain ⟨cells', e1, e2, e3⟩ := fill_array hu ns ts vs' z' r (splice cells.toList (i * a.nc) v.cells.toList).toArray hv2 (by simpa using hl) (by rw [q2]; exact hs) (by simpa using q3) (fun j hj => hn j (by simp [hj])) h
   refine ⟨cells', ?_, e2, e3.trans q2⟩
   simp only [List.zip_cons_cons, Instr.fill]
   rw [if_neg (by intro hcn; simp only [Bool.or_eq_true, decide_eq_true_eq] at hcn; omega)]
   have := fill_one cells v (i * P.cellsOf e) hfit
   rw [← e1, ← hce, ← this]
  ·cases h
theorem tvsOf_rep : ∀ {vs : List AV} {ts : List TV} {rs : List Value}, tvsOf vs = some ts → argsRep g vs rs → tupRep g ts rs ∧ ts.length = rs.length
 | [], ts, rs, h, hr => by
  simp only [tvsOf, Option.some.injEq] at h
  subst h
  simp only [argsRep] at hr
  subst hr
  exact ⟨rfl, rfl⟩
 | a :: vs, ts, rs, h, hr => by
  obtain ⟨v, r, rfl, h1, h2⟩ := hr
  simp only [tvsOf] at h
  split at h
  ·rename_i t ht
   split at h
   ·rename_i l hl
    simp only [Option.some.injEq] at h
    subst h
    obtain ⟨q1, q2⟩ := tvsOf_rep hl h2
    exact ⟨⟨v, r, rfl, tvOf_spec ht h1, q1⟩, by simp [q2]⟩
   ·cases h
  ·cases h
theorem places_ok {n : Nat} {t : TypeId} {s : Sk} {fs : Array Field} (hs : skOf P n t = some s) (hu : P.underlying t = some (.struct fs)) :
  fs.toList.mapM (fun f => (P.info? f.type).map fun i => (f.offset, i.size)) = some (fs.toList.map fun f => (f.offset, P.cellsOf f.type)) := by
 have key : ∀ l : List Field, (∀ f ∈ l, ∃ i, P.info? f.type = some i) → l.mapM (fun f => (P.info? f.type).map fun i => (f.offset, i.size)) = some (l.map fun f => (f.offset, P.cellsOf f.type)) := by
  intro l
  induction l with
  | nil => intro _; rfl
  | cons f l ih =>
   intro h
   obtain ⟨i, hi⟩ := h f (by simp)
   rw [List.mapM_cons, ih (fun f hf => h f (by simp [hf]))]
   simp [hi, Program.cellsOf]
 refine key _ fun f hf => ?_
 obtain ⟨m, hm, rfl⟩ := List.getElem_of_mem hf
 obtain ⟨f', sf, k, h1, h2, _⟩ := field_place hs hu (m := m) (by simpa using hm)
 have : f' = fs.toList[m] := by
  have e : fs[m]? = some fs.toList[m] := by simp
  rw [e] at h1; exact (Option.some.inj h1).symm
 subst this
 obtain ⟨i, hi, _⟩ := skOf_spec h2
 exact ⟨i, hi⟩
theorem build_run {t : TypeId} {ns : List Nat} {vs : List AV} {ts : List TV} {rs : List Value} {v : TV} (h1 : tvsOf vs = some ts) (h2 : buildT P t ns ts = some v) (hr : argsRep g vs rs) (hl : ns.length = rs.length) (w : World) :
  ∃ rv, (Instr.build t (ns.zip rs).toArray).run P w = .ok rv w ∧ TRep g v.T v.x rv := by
 obtain ⟨ht, htl⟩ := tvsOf_rep h1 hr
 unfold buildT at h2
 split at h2
 ·rename_i fs z hu hz
  split at h2
  ·rename_i hns
   obtain ⟨hs, i, zv, hi, hiz, hzr, hzrun⟩ := zeroT_spec (g := g) hz
   have hc := TRep_cells hzr
   obtain ⟨cells', e1, e2, e3⟩ := fill_struct hu ns ts rs z v zv.cells ht (by omega) hs hc (by simpa [List.all_eq_true] using hns) h2
   refine ⟨.agg cells', run_build w t _ cells' ?_, ?_⟩
   ·have : (fun (i : Nat) => ((fs.toList.map fun f => (f.offset, P.cellsOf f.type)).toArray)[i]?) = (fun (i : Nat) => (fs[i]?).map fun (f : Field) => (f.offset, P.cellsOf f.type)) := by
     funext i; simp
    simp only [Program.built, hi, hu, hiz, places_ok hs hu, this]
    exact e1
   ·have hag : v.T.agg = true := by
     unfold Ty.agg; rw [e3]
     obtain ⟨i, _, _, d, hu', hd⟩ := skOf_spec hs
     rw [hu] at hu'
     simp only [Option.some.injEq] at hu'
     subst hu'
     rcases hd with ⟨_, h1, _⟩ | ⟨_, _, _, _, _, ha⟩ | ⟨k, e, a, m', hk, _⟩
     ·exact absurd rfl (h1 fs)
     ·exact ha
     ·cases hk
    exact TRep_of_agg hag e2
  ·cases h2
 ·rename_i k e z hu hz
  split at h2
  ·rename_i hns
   obtain ⟨hs, i, zv, hi, hiz, hzr, hzrun⟩ := zeroT_spec (g := g) hz
   have hc := TRep_cells hzr
   obtain ⟨cells', e1, e2, e3⟩ := fill_array hu ns ts rs z v zv.cells ht (by omega) hs hc (by simpa [List.all_eq_true] using hns) h2
   obtain ⟨a, m, hza, hsa⟩ := arr_sk hs hu
   refine ⟨.agg cells', ?_, ?_⟩
   ·simp only [Instr.build, Sem.run_bind, hzrun w, Result.andThen_ok, run_underlying hu, run_sizeOf_sk hsa]
    rw [cellsOf_sk hsa] at e1
    rw [e1]
    rfl
   ·exact TRep_of_agg (by unfold Ty.agg; rw [e3, hza]; rfl) e2
  ·cases h2
 ·cases h2
end
end Vse
end
section
set_option linter.unusedVariables false
namespace Vse
open Go
def Gives (nx : Next) (v : Value) : Prop := nx = .value v ∨ (nx = .skip ∧ v = undef)
def Done (P : Program) (g : G) (H : Heap) (w : World) (s : Sem Next) (out : Out) : Prop :=
 ∃ nx rv w' g', s.run P w = .ok nx w' ∧ Gives nx rv ∧ g.le g' ∧ HInv g' (upd H out.2) w' ∧ VRep g' out.1 rv
section
variable {P : Program} {g : G} {H : Heap} {w : World}
theorem done_val (hI : HInv g H w) {s : Sem Value} {v : Value} {a : AV} (h : s.run P w = .ok v w) (hv : VRep g a v) : Done P g H w (do pure (.value (← s))) (a, []) :=
 ⟨.value v, v, w, g, by simp [h], .inl rfl, G.le.refl g, hI, hv⟩
theorem argsRep0 {vs : List AV} (h : argsRep g vs []) : vs = [] := by
 cases vs with
 | nil => rfl
 | cons a l => obtain ⟨_, _, h, _⟩ := h; cases h
theorem argsRep1 {vs : List AV} {r : Value} (h : argsRep g vs [r]) : ∃ a, vs = [a] ∧ VRep g a r := by
 cases vs with
 | nil => cases h
 | cons a l =>
  obtain ⟨v, q, h1, h2, h3⟩ := h
  simp only [List.cons.injEq] at h1
  obtain ⟨rfl, rfl⟩ := h1
  rw [argsRep0 h3]
  exact ⟨a, rfl, h2⟩
theorem argsRep2 {vs : List AV} {r s : Value} (h : argsRep g vs [r, s]) : ∃ a b, vs = [a, b] ∧ VRep g a r ∧ VRep g b s := by
 cases vs with
 | nil => cases h
 | cons a l =>
  obtain ⟨v, q, h1, h2, h3⟩ := h
  simp only [List.cons.injEq] at h1
  obtain ⟨rfl, rfl⟩ := h1
  obtain ⟨b, rfl, hb⟩ := argsRep1 h3
  exact ⟨a, b, rfl, h2, hb⟩
theorem argsRep3 {vs : List AV} {r s t : Value} (h : argsRep g vs [r, s, t]) : ∃ a b c, vs = [a, b, c] ∧ VRep g a r ∧ VRep g b s ∧ VRep g c t := by
 cases vs with
 | nil => cases h
 | cons a l =>
  obtain ⟨v, q, h1, h2, h3⟩ := h
  simp only [List.cons.injEq] at h1
  obtain ⟨rfl, rfl⟩ := h1
  obtain ⟨b, c, rfl, hb, hc⟩ := argsRep2 h3
  exact ⟨a, b, c, rfl, h2, hb, hc⟩
theorem ptr_spec (hI : HInv g H w) {e : Nat} {p : List PS} {d : PD p} {rv : Value} {T : Ty} {x : T.den} (hp : VRep g (.v (.ptr e p) d) rv) (hE : getE H e = .box T x) :
  ∃ b off s cs t fz, g.bl e = some b ∧ poff T.sk p d = some (off, s) ∧ rv = .pointer (some ⟨b, off, none⟩) ∧ w.heap[b]? = some (.cells cs t fz) ∧ thawed cs fz ∧ Rep g T x cs.toList := by
 have hr := (VRep_v (by simp)).1 hp
 simp only [TRep, Ty.agg, Ty.sk, Sk.agg, Bool.false_eq_true, if_false, Rep] at hr
 obtain ⟨_, hr⟩ := hr
 unfold G.bxr at hr
 rw [hI.sh, hE] at hr
 obtain ⟨b, off, s', h1, h2, h3⟩ := hr
 have he := hI.ent e
 rw [hE] at he
 obtain ⟨b', cs, t, fz, q1, q2, q3, q4⟩ := he
 rw [h1] at q1
 cases q1
 simp only [List.cons.injEq, and_true] at h3
 exact ⟨b, off, s', cs, t, fz, h1, h2, h3, q2, q3, q4⟩
theorem cells_at {b off : Nat} {cs : Array Value} {t : TypeId} {fz : Nat × Nat} (hc : w.heap[b]? = some (.cells cs t fz)) {n : Nat} :
  ∀ i v, (seg cs.toList off n)[i]? = some v → w.cell? ⟨b, off + i, none⟩ = some v := by
 intro i v h
 unfold seg at h
 rw [List.getElem?_take] at h
 split at h
 ·rw [List.getElem?_drop] at h
  simp only [World.cell?, hc, Option.isSome_none, Bool.false_eq_true, if_false]
  simpa using h
 ·cases h
theorem vp_spec (hI : HInv g H w) {e k : Nat} {p : List PS} {d : PD p} {rv : Value} {a : Ty} {l : List a.den} (hp : VRep g (.v (.vp e k p) d) rv) (hE : getE H e = .vec k a l) :
  ∃ b off s cs t fz vs r, g.bl e = some b ∧ poff (Sk.arr l.length a.sk) p d = some (off, s) ∧ rv = .pointer (some ⟨b, off, none⟩) ∧ w.heap[b]? = some (.cells cs t fz) ∧ thawed cs fz ∧ g.sz e = cs.size ∧
   cs.toList = vs ++ r ∧ Rep g (.arr l.length a) l vs ∧ (∀ v ∈ r, v.oneCell' = true) := by
 have hr := (VRep_v (by simp)).1 hp
 simp only [TRep, Ty.agg, Ty.sk, Sk.agg, Bool.false_eq_true, if_false, Rep] at hr
 obtain ⟨_, hr⟩ := hr
 unfold G.vcr at hr
 rw [hI.sh, hE] at hr
 simp only [shp] at hr
 obtain ⟨b, off, s', h1, h2, h3⟩ := hr.2 trivial
 have hpo : poff (Sk.arr l.length a.sk) p d = some (off, s') := by
  cases p with
  | nil => simp [vpoff] at h2
  | cons q p =>
   cases q with
   | fld m => simp [vpoff] at h2
   | idx => simpa only [vpoff, poff] using h2
 have he := hI.ent e
 rw [hE] at he
 rcases he with ⟨q1, _⟩ | ⟨b', cs, t, fz, vs, r, q1, q2, q3, q4, q5, q6, q7⟩
 ·rw [h1] at q1; cases q1
 rw [h1] at q1
 cases q1
 simp only [List.cons.injEq, and_true] at h3
 exact ⟨b, off, s', cs, t, fz, vs, r, h1, hpo, h3, q2, q3, q4, q5, ⟨rfl, q6⟩, q7⟩
theorem do_load {fz : Bool} (hI : HInv g H w) {t : TypeId} {vs : List AV} {r : Value} (ha : argsRep g vs [r]) {out : Out} {o : Operand}
  (he : (c_load P t vs (ents H (idsOf fz (.load t o) vs))).eval = some out) : Done P g H w (do pure (.value (← Instr.loadAt t r))) out := by
 obtain ⟨a, rfl, hr⟩ := argsRep1 ha
 unfold c_load at he
 split at he
 ·rename_i e p d heq
  simp only [List.cons.injEq, and_true] at heq
  subst heq
  simp only [idsOf, ents] at he
  split at he
  ·rename_i T x hx
   simp only [List.cons.injEq, and_true] at hx
   obtain ⟨b, off, s, cs, tt, fz, h1, h2, rfl, h4, h5, h6⟩ := ptr_spec hI hr hx
   unfold loadT at he
   split at he
   ·rename_i y hy
    split at he
    ·rename_i hs
     have := Tr.ret_some he; subst this
     obtain ⟨q1, q2, q3⟩ := getP_rep T x p d cs.toList y off s h6 hy h2
     obtain ⟨v, hv, hv'⟩ := run_loadVar_cells hs w b off (seg cs.toList off y.T.nc) (Rep_length _ _ _ q1) (cells_at h4)
     refine done_val hI (v := v) ?_ (VRep_val (TRep_of_load q1 hv'))
     simp [Instr.loadAt, Instr.sureAddr, hv]
    ·exact (Tr.fail_some he).elim
   ·exact (Tr.fail_some he).elim
  ·exact (Tr.fail_some he).elim
 ·rename_i q T x heq
  simp only [List.cons.injEq, and_true] at heq
  subst heq
  unfold loadT at he
  simp only at he
  split at he
  ·rename_i hs
   have := Tr.ret_some he; subst this
   have hr := (VRep_v (by simp)).1 hr
   simp only [TRep, Ty.agg, Ty.sk, Sk.agg, Bool.false_eq_true, if_false, Rep] at hr
   obtain ⟨ad, vs, h1, h2, h3⟩ := hr
   simp only [List.cons.injEq, and_true] at h1
   subst h1
   have hrd : ∃ F, (∀ b o, F b = some o → w.heap[b]? = some o) ∧ reads F ad vs := by
    rcases h3 with h3 | ⟨_, h3⟩
    ·exact ⟨g.fr, hI.fr, h3⟩
    ·exact ⟨g.gr, hI.gr, h3⟩
   obtain ⟨F, hF, hsp, cs, tt, fz, hc, hcs⟩ := hrd
   obtain ⟨b, off, sp⟩ := ad
   simp only at hsp hc hcs
   subst hsp
   have hw := hF _ _ hc
   obtain ⟨v, hv, hv'⟩ := run_loadVar_cells hs w b off vs (Rep_length _ _ _ h2) (fun i v hi => by
    simp only [World.cell?, hw, Option.isSome_none, Bool.false_eq_true, if_false]; exact hcs i v hi)
   refine done_val hI (v := v) ?_ (VRep_val (TRep_of_load h2 hv'))
   simp [Instr.loadAt, Instr.sureAddr, hv]
  ·exact (Tr.fail_some he).elim
 ·rename_i e k p d heq
  simp only [List.cons.injEq, and_true] at heq
  subst heq
  simp only [idsOf, ents] at he
  split at he
  ·rename_i k' a l hx
   simp only [List.cons.injEq, and_true] at hx
   split at he
   ·rename_i hk
    subst hk
    obtain ⟨b, off, s, cs, tt, fz, us, rr, h1, h2, rfl, h4, h5, hz, hcs, h6, _⟩ := vp_spec hI hr hx
    unfold loadT at he
    split at he
    ·rename_i y hy
     split at he
     ·rename_i hs
      have := Tr.ret_some he; subst this
      obtain ⟨q1, q2, q3⟩ := getP_rep (.arr l.length a) l p d us y off s h6 hy h2
      obtain ⟨v, hv, hv'⟩ := run_loadVar_cells hs w b off (seg us off y.T.nc) (Rep_length _ _ _ q1) (fun i v hi => cells_at (off := off) (n := y.T.nc) h4 i v (by
       rw [hcs, seg_append_left q3]; exact hi))
      refine done_val hI (v := v) ?_ (VRep_val (TRep_of_load q1 hv'))
      simp [Instr.loadAt, Instr.sureAddr, hv]
     ·exact (Tr.fail_some he).elim
    ·exact (Tr.fail_some he).elim
   ·exact (Tr.fail_some he).elim
  ·exact (Tr.fail_some he).elim
 ·exact (Tr.fail_some he).elim
theorem do_store {fz : Bool} (hI : HInv g H w) {t : TypeId} {vs : List AV} {r r2 : Value} (ha : argsRep g vs [r, r2]) {out : Out} {o o2 : Operand}
  (he : (c_store P t vs (ents H (idsOf fz (.store t o o2) vs))).eval = some out) : Done P g H w (do Instr.storeAt t r r2; pure .skip) out := by
 obtain ⟨a, a2, rfl, hr, hr2⟩ := argsRep2 ha
 unfold c_store at he
 split at he
 ·rename_i e p d a' heq
  simp only [List.cons.injEq, and_true] at heq
  obtain ⟨rfl, rfl⟩ := heq
  simp only [idsOf, ents] at he
  split at he
  ·rename_i T x hx
   simp only [List.cons.injEq, and_true] at hx
   obtain ⟨b, off, s, cs, tt, fz, h1, h2, rfl, h4, h5, h6⟩ := ptr_spec hI hr hx
   split at he
   ·rename_i v hv
    split at he
    ·rename_i y hy
     split at he
     ·rename_i hs
      have := Tr.ret_some he; subst this
      have hvr := tvOf_spec hv hr2
      have hvc := TRep_cells hvr
      obtain ⟨q1, q2, q3, q4⟩ := setP_rep T x p d cs.toList _ v y off s h6 hy h2 hvc
      have hlen := Rep_length _ _ _ hvc
      have hsz : r2.cells.size = v.T.sk.nc := by have : v.T.nc = v.T.sk.nc := rfl; rw [← this, ← hlen]; simp
      have hst := run_storeCells_thaw (P := P) b off tt fz r2.cells.toList 0 cs w h4 h5 (by simpa using q4) (Rep_cells _ _ _ hvc)
      refine ⟨.skip, undef, w.setRow b (splice cs.toList off r2.cells.toList).toArray, g, ?_, .inr ⟨rfl, rfl⟩, G.le.refl g, ?_, trivial⟩
      ·simp only [Instr.storeAt, Instr.sureAddr, storeVar, Sem.run_bind, Sem.run_pure, Result.andThen_ok, run_sizeOf_sk hs]
       rw [if_neg (by simp [hsz])]
       simp only [hst, Result.andThen_ok]
       simp
      ·simp only [upd]
       refine hI.setBox hx h1 h4 ?_ q2 (by simpa using q3)
       have hl : (splice cs.toList off r2.cells.toList).length = cs.size := by
        unfold splice; simp at q4 ⊢; omega
       unfold thawed at h5 ⊢
       simpa [hl] using h5
     ·exact (Tr.fail_some he).elim
    ·exact (Tr.fail_some he).elim
   ·exact (Tr.fail_some he).elim
  ·exact (Tr.fail_some he).elim
 ·rename_i e k p d a' heq
  simp only [List.cons.injEq, and_true] at heq
  obtain ⟨rfl, rfl⟩ := heq
  simp only [idsOf, ents] at he
  split at he
  ·rename_i k' a l hx
   simp only [List.cons.injEq, and_true] at hx
   split at he
   ·rename_i hk
    subst hk
    obtain ⟨b, off, s, cs, tt, fz, us, rr, h1, h2, rfl, h4, h5, hz, hcs, h6, h7⟩ := vp_spec hI hr hx
    split at he
    ·rename_i v hv
     split at he
     ·rename_i m hm
      ·have hy := setI_setP hm
       split at he
       ·rename_i hs
        have := Tr.ret_some he; subst this
        have hvr := tvOf_spec hv hr2
        have hvc := TRep_cells hvr
        obtain ⟨q1, q2, q3, q4⟩ := setP_rep (.arr l.length a) l (.idx :: p) d us _ v _ off s h6 hy h2 hvc
        have hlen := Rep_length _ _ _ hvc
        have hsz : r2.cells.size = v.T.sk.nc := by have : v.T.nc = v.T.sk.nc := rfl; rw [← this, ← hlen]; simp
        have hbig : off + 0 + r2.cells.toList.length ≤ cs.size := by
         have : cs.size = us.length + rr.length := by rw [← Array.length_toList, hcs, List.length_append]
         simp at q4 ⊢; omega
        have hst := run_storeCells_thaw (P := P) b off tt fz r2.cells.toList 0 cs w h4 h5 hbig (Rep_cells _ _ _ hvc)
        have hsp : splice cs.toList off r2.cells.toList = splice us off r2.cells.toList ++ rr := by rw [hcs, splice_append_left q4]
        have hl : (splice cs.toList off r2.cells.toList).length = cs.size := by
         unfold splice; simp at hbig ⊢; omega
        simp only [Nat.add_zero] at hst
        have hml : List.length (α := a.den) m = l.length := q3.1
        obtain ⟨g', w1, w2, _⟩ := hI.setVec (cs' := (splice cs.toList off r2.cells.toList).toArray) (k' := k) hx h1 h4 (by simpa [hl] using hz) (by unfold thawed at h5 ⊢; simpa [hl] using h5) (.inr ⟨rfl, hml⟩)
         (vs := splice us off r2.cells.toList) (r := rr) (by simpa using hsp) q3.2 h7
        refine ⟨.skip, undef, w.setRow b (splice cs.toList off r2.cells.toList).toArray, g', ?_, .inr ⟨rfl, rfl⟩, w1, w2, trivial⟩
        simp only [Instr.storeAt, Instr.sureAddr, storeVar, Sem.run_bind, Sem.run_pure, Result.andThen_ok, run_sizeOf_sk hs]
        rw [if_neg (by simp [hsz])]
        simp only [hst, Result.andThen_ok]
       ·exact (Tr.fail_some he).elim
     ·exact (Tr.fail_some he).elim
    ·exact (Tr.fail_some he).elim
   ·exact (Tr.fail_some he).elim
  ·exact (Tr.fail_some he).elim
 ·exact (Tr.fail_some he).elim
theorem poff_nil (s : Sk) (d : PD []) : poff s [] d = some (0, s) := by cases s <;> rfl
theorem do_new (hI : HInv g H w) {fr : Nat} (hf : getE H fr = .free) (hlt : fr < H.length) {z : TV} {v : Value} (hv : TRep g z.T z.x v) (t : TypeId) :
  Done P g H w (do pure (.value (← (do pure (.pointer (some (← newVar t v))) : Sem Value)))) (.v (.ptr fr []) (), [(fr, .box z.T z.x)]) := by
 obtain ⟨g', hle, hI', hsh, hbl⟩ := hI.newBox hf hlt (TRep_cells hv) t
 refine ⟨.value (.pointer (some ⟨w.heap.size, 0, none⟩)), _, World.mk' w (.cells v.cells t), g', ?_, .inl rfl, hle, hI', ?_⟩
 ·simp only [newVar, newRow, Sem.run_bind, Sem.run_pure, run_newObj, Result.andThen_ok, World.mk']
 ·refine (VRep_v (by simp)).2 ?_
  simp only [TRep, Ty.agg, Ty.sk, Sk.agg, Bool.false_eq_true, if_false, Rep]
  refine ⟨⟨_, rfl⟩, ?_⟩
  unfold G.bxr
  rw [hsh]
  exact ⟨w.heap.size, 0, z.T.sk, hbl, poff_nil _ _, rfl⟩
theorem isStruct_spec {t : TypeId} {f : Nat} (h : isStruct P t f = true) : ∃ fs, P.underlying t = some (.struct fs) ∧ f < fs.size := by
 unfold isStruct at h
 split at h
 ·rename_i fs hu; exact ⟨fs, hu, by simpa using h⟩
 ·cases h
theorem arrLen_spec {t : TypeId} {n : Nat} (h : arrLen P t = some n) : ∃ e, P.underlying t = some (.array n e) := by
 unfold arrLen at h
 split at h
 ·rename_i n' e hu; simp only [Option.some.injEq] at h; subst h; exact ⟨e, hu⟩
 ·cases h
theorem inArrK_spec {k : IntKind} {i : Int} {n : Nat} (h : inArrK k i n = true) (hk : inK k i = true) : 0 ≤ i ∧ i < (n : Int) := by
 unfold inArrK at h
 split at h
 ·rename_i hc
  simp only [Bool.and_eq_true, decide_eq_true_eq] at hc
  have := inK_iff.1 hk
  omega
 ·simpa [inArr] using h
theorem ptr_sh (hI : HInv g H w) {e : Nat} {p : List PS} {d : PD p} {rv : Value} {s : Sk} (hp : VRep g (.v (.ptr e p) d) rv) (hE : shp (getE H e) = .box s) :
  ∃ b off s', g.bl e = some b ∧ poff s p d = some (off, s') ∧ rv = .pointer (some ⟨b, off, none⟩) ∧ pend s p = some s' := by
 have hr := (VRep_v (by simp)).1 hp
 simp only [TRep, Ty.agg, Ty.sk, Sk.agg, Bool.false_eq_true, if_false, Rep] at hr
 obtain ⟨_, hr⟩ := hr
 unfold G.bxr at hr
 rw [hI.sh, hE] at hr
 obtain ⟨b, off, s', h1, h2, h3⟩ := hr
 simp only [List.cons.injEq, and_true] at h3
 exact ⟨b, off, s', h1, h2, h3, pend_of_poff h2⟩
theorem ptr_mk (hI : HInv g H w) {e : Nat} {p : List PS} {d : PD p} {s s' : Sk} {b off : Nat} (hE : shp (getE H e) = .box s) (hb : g.bl e = some b) (hp : poff s p d = some (off, s')) :
  VRep g (.v (.ptr e p) d) (.pointer (some ⟨b, off, none⟩)) := by
 refine (VRep_v (by simp)).2 ?_
 simp only [TRep, Ty.agg, Ty.sk, Sk.agg, Bool.false_eq_true, if_false, Rep]
 refine ⟨⟨_, rfl⟩, ?_⟩
 unfold G.bxr
 rw [hI.sh, hE]
 exact ⟨b, off, s', hb, hp, rfl⟩
theorem shAt_spec {s0 : ESh} {p : List PS} {s' : Sk} (h : shAt [s0] p = some s') : ∃ s, s0 = .box s ∧ pend s p = some s' := by
 cases s0 with
 | box s => exact ⟨s, rfl, h⟩
 | _ => cases h
theorem big_spec {o : Option Sk} (h : big o = true) : ∃ s, o = some s ∧ s.nc ≠ 0 := by
 cases o with
 | none => cases h
 | some s => exact ⟨s, rfl, by simpa [big] using h⟩
theorem pend_snoc_of {s : Sk} {p : List PS} {d : PD p} {q : PS} {d' : PD [q]} {o : Nat} {r : Sk} (h : poff s p d = some (o, r)) {o' : Nat} {r' : Sk} (h' : poff r [q] d' = some (o', r')) :
  pend s (p ++ [q]) = some r' := by
 have := poff_snoc (d' := d') h
 rw [h'] at this
 exact pend_of_poff this
theorem run_fieldPlace (b off : Nat) {f : Field} {k : Nat} {sf : Sk} (hs : skOf P k f.type = some sf) (hz : sf.nc ≠ 0) (w : World) : (fieldPlace ⟨b, off, none⟩ f).run P w = .ok ⟨b, off + f.offset, none⟩ w := by
 simp only [fieldPlace, Sem.run_bind, run_sizeOf_sk hs, Result.andThen_ok, hz, if_false, Sem.run_pure, addr_add]
theorem do_fieldAddr (hI : HInv g H w) {t : TypeId} {f : Nat} {vs : List AV} {r : Value} (ha : argsRep g vs [r]) {out : Out} {o : Operand}
  (he : (c_fieldAddr P t f vs (shs H (shsOf (.fieldAddr t o f) vs))).eval = some out) : Done P g H w (do pure (.value (← Instr.fieldAt t r f))) out := by
 obtain ⟨a, rfl, hr⟩ := argsRep1 ha
 unfold c_fieldAddr at he
 split at he
 ·rename_i e p d heq
  simp only [List.cons.injEq, and_true] at heq
  subst heq
  simp only [shsOf, shs] at he
  split at he
  ·rename_i hc
   have := Tr.ret_some he; subst this
   simp only [Bool.and_eq_true, beq_iff_eq] at hc
   obtain ⟨⟨⟨c1, c2⟩, c3⟩, c4⟩ := hc
   obtain ⟨fs, hu, hf⟩ := isStruct_spec c1
   obtain ⟨st, hst⟩ := Option.isSome_iff_exists.1 c2
   rw [hst] at c3
   obtain ⟨s, hs, hpe⟩ := shAt_spec c3
   obtain ⟨b, off, s', h1, h2, rfl, h4⟩ := ptr_sh hI hr hs
   rw [hpe] at h4
   simp only [Option.some.injEq] at h4
   subst h4
   obtain ⟨fl, sf, k, q1, q2, q3⟩ := field_place hst hu hf
   obtain ⟨sx, e1, e2⟩ := big_spec c4
   rw [hs] at e1
   have e3 := pend_snoc_of h2 q3
   simp only [shAt] at e1
   rw [e3] at e1
   simp only [Option.some.injEq] at e1
   subst e1
   refine done_val hI (v := .pointer (some ⟨b, off + fl.offset, none⟩)) ?_ ?_
   ·simp only [Instr.fieldAt, Sem.run_bind, run_underlying hu, Result.andThen_ok, q1, Instr.sureAddr, Sem.run_pure, run_fieldPlace b off q2 e2]
   ·refine ptr_mk hI hs h1 ?_ (s' := sf)
    rw [poff_snoc h2, q3]
    rfl
  ·exact (Tr.fail_some he).elim
 ·rename_i q T x heq
  simp only [List.cons.injEq, and_true] at heq
  subst heq
  split at he
  ·rename_i hc
   split at he
   ·rename_i y hy
    have := Tr.ret_some he; subst this
    simp only [Bool.and_eq_true, beq_iff_eq] at hc
    obtain ⟨⟨c1, c2⟩, c4⟩ := hc
    obtain ⟨fs, hu, hf⟩ := isStruct_spec c1
    obtain ⟨fl, sf, k, q1, q2, q3⟩ := field_place c2 hu hf
    obtain ⟨sx, e1, e2⟩ := big_spec c4
    rw [pend_of_poff q3] at e1
    simp only [Option.some.injEq] at e1
    subst e1
    have hr := (VRep_v (by simp)).1 hr
    simp only [TRep, Ty.agg, Ty.sk, Sk.agg, Bool.false_eq_true, if_false, Rep] at hr
    obtain ⟨ad, cs, h1, h2, h3⟩ := hr
    simp only [List.cons.injEq, and_true] at h1
    subst h1
    have hsp : ad.spot = none := by rcases h3 with h3 | ⟨_, h3⟩ <;> exact h3.1
    obtain ⟨b, off, sp⟩ := ad
    simp only at hsp
    subst hsp
    obtain ⟨r1, r2, r3⟩ := getP_rep T x [.fld f] () cs y fl.offset sf h2 hy q3
    refine done_val hI (v := .pointer (some ⟨b, off + fl.offset, none⟩)) ?_ ?_
    ·simp only [Instr.fieldAt, Sem.run_bind, run_underlying hu, Result.andThen_ok, q1, Instr.sureAddr, Sem.run_pure, run_fieldPlace b off q2 e2]
    ·refine (VRep_v (by simp)).2 ?_
     simp only [TRep, Ty.agg, Ty.sk, Sk.agg, Bool.false_eq_true, if_false, Rep]
     have sub : ∀ F, reads F ⟨b, off, none⟩ cs → reads F ⟨b, off + fl.offset, none⟩ (seg cs fl.offset y.T.nc) := by
      rintro F ⟨_, cc, tt, fz, w1, w2⟩
      refine ⟨rfl, cc, tt, fz, w1, fun i v hi => ?_⟩
      unfold seg at hi
      rw [List.getElem?_take] at hi
      split at hi
      ·rw [List.getElem?_drop] at hi
       have := w2 _ _ hi
       simp only at this ⊢
       rw [← this]; congr 1; omega
      ·cases hi
     refine ⟨_, _, rfl, r1, ?_⟩
     rcases h3 with h3 | ⟨h0, h3⟩
     ·exact .inl (sub _ h3)
     ·exact .inr ⟨h0, sub _ h3⟩
   ·exact (Tr.fail_some he).elim
  ·exact (Tr.fail_some he).elim
 ·rename_i e k p d heq
  simp only [List.cons.injEq, and_true] at heq
  subst heq
  simp only [shsOf, shs] at he
  split at he
  ·rename_i g' s n hs
   simp only [List.cons.injEq, and_true] at hs
   split at he
   ·rename_i hc
    have := Tr.ret_some he; subst this
    simp only [Bool.and_eq_true, beq_iff_eq, decide_eq_true_eq] at hc
    obtain ⟨rfl, c1, c2, c3, c4⟩ := hc
    have hr := (VRep_v (by simp)).1 hr
    simp only [TRep, Ty.agg, Ty.sk, Sk.agg, Bool.false_eq_true, if_false, Rep, G.vcr, hI.sh, hs] at hr
    obtain ⟨_, _, hr⟩ := hr
    obtain ⟨b, off, s', h1, h2, h3⟩ := hr trivial
    simp only [List.cons.injEq, and_true] at h3
    subst h3
    have hp2 : poff (.arr n s) p d = some (off, s') := by
     cases p with
     | nil => simp [vpoff] at h2
     | cons q p =>
      cases q with
      | fld m => simp [vpoff] at h2
      | idx => simpa only [vpoff, poff] using h2
    obtain ⟨fs, hu, hf⟩ := isStruct_spec c1
    obtain ⟨st, hst⟩ := Option.isSome_iff_exists.1 c2
    rw [hst, pend_of_poff hp2] at c3
    simp only [Option.some.injEq] at c3
    subst c3
    obtain ⟨fl, sf, kk, q1, q2, q3⟩ := field_place hst hu hf
    obtain ⟨sx, e1, e2⟩ := big_spec c4
    rw [pend_snoc_of hp2 q3] at e1
    simp only [Option.some.injEq] at e1
    subst e1
    refine done_val hI (v := .pointer (some ⟨b, off + fl.offset, none⟩)) ?_ ?_
    ·simp only [Instr.fieldAt, Sem.run_bind, run_underlying hu, Result.andThen_ok, q1, Instr.sureAddr, Sem.run_pure, run_fieldPlace b off q2 e2]
    ·refine (VRep_v (by simp)).2 ?_
     simp only [TRep, Ty.agg, Ty.sk, Sk.agg, Bool.false_eq_true, if_false, Rep, G.vcr, hI.sh, hs]
     refine ⟨⟨_, rfl⟩, Nat.le_refl _, fun _ => ⟨b, off + fl.offset, sf, h1, ?_, rfl⟩⟩
     have hq := poff_snoc (q := .fld f) (d' := ()) hp2
     rw [q3] at hq
     cases p with
     | nil => simp [vpoff] at h2
     | cons q p =>
      cases q with
      | fld m => simp [vpoff] at h2
      | idx => simpa only [vpoff, poff, List.cons_append, Option.map_some] using hq
   ·exact (Tr.fail_some he).elim
  ·exact (Tr.fail_some he).elim
 ·exact (Tr.fail_some he).elim
theorem do_field (hI : HInv g H w) {t : TypeId} {f : Nat} {vs : List AV} {r : Value} (ha : argsRep g vs [r]) {out : Out}
  (he : (c_field P t f vs).eval = some out) : Done P g H w (do pure (.value (← Instr.field t r f))) out := by
 obtain ⟨a, rfl, hr⟩ := argsRep1 ha
 simp only [c_field] at he
 ·split at he
  ·rename_i v hv
   split at he
   ·rename_i hc
    split at he
    ·rename_i y hy
     have := Tr.ret_some he; subst this
     simp only [Bool.and_eq_true, beq_iff_eq] at hc
     obtain ⟨c1, c2⟩ := hc
     obtain ⟨fs, hu, hf⟩ := isStruct_spec c1
     obtain ⟨fl, sf, k, q1, q2, q3⟩ := field_place c2 hu hf
     have hvr := tvOf_spec hv hr
     have hag : v.T.agg = true := by
      obtain ⟨i, _, _, d, hu', hd⟩ := skOf_spec c2
      rw [hu] at hu'
      simp only [Option.some.injEq] at hu'
      subst hu'
      rcases hd with ⟨_, h1, _⟩ | ⟨_, _, _, _, _, ha⟩ | ⟨k, e, a, m', hk, _⟩
      ·exact absurd rfl (h1 fs)
      ·exact ha
      ·cases hk
     unfold TRep at hvr
     rw [if_pos hag] at hvr
     obtain ⟨cs, rfl, hrep⟩ := hvr
     obtain ⟨r1, r2, r3⟩ := getP_rep v.T v.x [.fld f] () cs.toList y fl.offset sf hrep hy q3
     have hz : fl.offset + sf.nc ≤ cs.size := by have : y.T.nc = sf.nc := by unfold Ty.nc; rw [r2]
                                                 rw [← this]; simpa using r3
     obtain ⟨rv, hv1, hv2⟩ := run_part_sk q2 w cs fl.offset hz
     refine done_val hI (v := rv) ?_ (VRep_val ?_)
     ·simp only [Instr.field, Sem.run_bind, run_underlying hu, Result.andThen_ok, q1, asAgg, Sem.run_pure, hv1]
     ·refine TRep_of_load r1 ?_
      rw [r2]
      have : y.T.nc = sf.nc := by unfold Ty.nc; rw [r2]
      rw [this]
      exact hv2
    ·exact (Tr.fail_some he).elim
   ·exact (Tr.fail_some he).elim
  ·exact (Tr.fail_some he).elim
end
end Vse
end
end

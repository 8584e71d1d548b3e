/- A small symbolic machine for the model's code: typed values, a typed heap, and trees of choices. Nothing here is about one program. -/
import GoSem.Dispatch
import Derived.Laws.Sem
import Derived.Calls
import Derived.Tactics
set_option linter.unusedVariables false
namespace Vse
open Go

/-- a step of a path into a variable -/
inductive PS
  | fld (m : Nat)
  | idx
  deriving DecidableEq

/-- how a value is seen. 'imm p f a': a slice of what is never written again (p: for ever; else while this call lasts), f: it is not nil. 'vc e g': the whole of an own slice, entry e at its g-th growth; 'sv': a part of it; 'vp': into it. 'sub': a part of an own array. 'ptr e p': into entry e. 'ip': to what is never written again. -/
inductive Ty
  | bool | int (k : IntKind) | str | unit | und
  | prod (a b : Ty) | arr (n : Nat) (a : Ty)
  | imm (p f : Bool) (a : Ty)
  | nils | vc (e g : Nat) | sv (e g : Nat) | vp (e g : Nat) (p : List PS) | sub (e : Nat) (p : List PS)
  | nilp | ptr (e : Nat) (p : List PS) | ip (p : Bool) (a : Ty)
  | nilm | mp (e : Nat) | nilf | fn (f : Nat) (c : Ty) | nili | it (e : Nat) | ch (e : Nat)
  deriving DecidableEq

/-- the places that a path's index steps take -/
@[reducible] def PD : List PS → Type
  | [] => Unit
  | .fld _ :: p => PD p
  | .idx :: p => Nat × PD p

/-- what of 'sub': the path's places, its first element, its length, its capacity -/
structure SubD (p : List PS) where
  at_ : PD p
  start : Nat
  len : Nat
  cap : Nat

@[reducible] def Ty.den : Ty → Type
  | .bool => Bool
  | .int _ => Int
  | .str => ByteArray
  | .prod a b => a.den × b.den
  | .arr _ a => List a.den
  | .imm _ _ a => List a.den
  | .sv _ _ => SubD []
  | .vp _ _ p => PD p
  | .sub _ p => SubD p
  | .ptr _ p => PD p
  | .ip _ a => a.den
  | .fn _ c => c.den
  | _ => Unit

structure TV where
  T : Ty
  x : T.den

inductive AV
  | v (T : Ty) (x : T.den)
  | tup (l : List TV)

def AV.und : AV := .v .und ()
/-- a slot that holds nothing -/
def AV.none : AV := .tup []

/-- trees of choices -/
inductive Tr (α : Type) : Type 1
  | ret (a : α)
  | fail
  | ite (b : Bool) (t e : Tr α)
  | opt {β : Type} (o : Option β) (n : Tr α) (s : β → Tr α)

namespace Tr
def bind {α β : Type} : Tr α → (α → Tr β) → Tr β
  | .ret a, f => f a
  | .fail, _ => .fail
  | .ite b t e, f => .ite b (t.bind f) (e.bind f)
  | .opt o n s, f => .opt o (n.bind f) (fun x => (s x).bind f)

def eval {α : Type} : Tr α → Option α
  | .ret a => some a
  | .fail => none
  | .ite b t e => match b with | true => t.eval | false => e.eval
  | .opt o n s => match o with | none => n.eval | some x => (s x).eval

/-- go on just if b -/
def chk {α : Type} (b : Bool) (t : Tr α) : Tr α := .ite b t .fail

def ofO {α : Type} : Option α → Tr α
  | none => .fail
  | some a => .ret a

theorem eval_bind {α β : Type} (t : Tr α) (f : α → Tr β) : (t.bind f).eval = t.eval.bind fun a => (f a).eval := by
  induction t with
  | ret a => rfl
  | fail => rfl
  | ite b t e iht ihe => cases b <;> simp [Tr.bind, Tr.eval, iht, ihe]
  | opt o n s ihn ihs => cases o <;> simp [Tr.bind, Tr.eval, ihn, ihs]

theorem bind_some {α β : Type} {t : Tr α} {f : α → Tr β} {r : β} (h : (t.bind f).eval = some r) : ∃ a, t.eval = some a ∧ (f a).eval = some r := by
  rw [eval_bind] at h
  cases ht : t.eval with
  | none => rw [ht] at h; cases h
  | some a => rw [ht] at h; exact ⟨a, rfl, h⟩

theorem chk_some {α : Type} {b : Bool} {t : Tr α} {r : α} (h : (chk b t).eval = some r) : b = true ∧ t.eval = some r := by
  cases b <;> simp_all [chk, eval]

theorem ite_some {α : Type} {b : Bool} {t e : Tr α} {r : α} (h : (Tr.ite b t e).eval = some r) : (b = true ∧ t.eval = some r) ∨ (b = false ∧ e.eval = some r) := by
  cases b <;> simp_all [eval]

theorem ret_some {α : Type} {a r : α} (h : (Tr.ret a).eval = some r) : a = r := by simpa [eval] using h
theorem fail_some {α : Type} {r : α} (h : (Tr.fail : Tr α).eval = some r) : False := by simp [eval] at h
theorem ofO_some {α : Type} {o : Option α} {r : α} (h : (ofO o).eval = some r) : o = some r := by cases o <;> simp_all [ofO, eval]
end Tr

/-- what stands somewhere in memory -/
inductive Entry
  | free
  | dead
  | box (T : Ty) (x : T.den)
  | vec (g : Nat) (a : Ty) (l : List a.den)

abbrev Heap := List Entry

def getE : Heap → Nat → Entry
  | [], _ => .free
  | e :: _, 0 => e
  | _ :: h, n + 1 => getE h n

def setE : Heap → Nat → Entry → Heap
  | [], _, _ => []
  | _ :: h, 0, x => x :: h
  | e :: h, n + 1, x => e :: setE h n x

def upd (H : Heap) : List (Nat × Entry) → Heap
  | [] => H
  | (i, e) :: l => upd (setE H i e) l

def frees : Nat → Heap
  | 0 => []
  | n + 1 => .free :: frees n

structure St where
  env : List AV
  heap : Heap

def getV : List AV → Nat → AV
  | [], _ => AV.none
  | a :: _, 0 => a
  | _ :: l, n + 1 => getV l n

def setV : List AV → Nat → AV → List AV
  | [], _, _ => []
  | _ :: l, 0, v => v :: l
  | a :: l, n + 1, v => a :: setV l n v

def putV (env : List AV) : Option Nat → AV → List AV
  | none, _ => env
  | some d, v => setV env d v

/-! layouts -/

/-- the shape of what a type's values are in cells -/
inductive Sk
  | leaf | unit
  | prod (a b : Sk)
  | arr (n : Nat) (a : Sk)
  deriving DecidableEq

def Ty.sk : Ty → Sk
  | .unit => .unit
  | .prod a b => .prod a.sk b.sk
  | .arr n a => .arr n a.sk
  | _ => .leaf

def Sk.nc : Sk → Nat
  | .leaf => 1
  | .unit => 0
  | .prod a b => a.nc + b.nc
  | .arr n a => n * a.nc

def Sk.agg : Sk → Bool
  | .leaf => false
  | _ => true

def Ty.nc (T : Ty) : Nat := T.sk.nc
def Ty.agg (T : Ty) : Bool := T.sk.agg

/-- where in the cells a path ends, and the shape there -/
def poff : Sk → (p : List PS) → PD p → Option (Nat × Sk)
  | s, [], _ => some (0, s)
  | .prod a _, .fld 0 :: p, d => poff a p d
  | .prod a b, .fld (m + 1) :: p, d => (poff b (.fld m :: p) d).map fun r => (a.nc + r.1, r.2)
  | .arr n a, .idx :: p, d => if d.1 < n then (poff a p d.2).map fun r => (d.1 * a.nc + r.1, r.2) else none
  | _, _, _ => none
termination_by structural s => s

/-- a path's end alone, whatever the places -/
def pend : Sk → List PS → Option Sk
  | s, [] => some s
  | .prod a _, .fld 0 :: p => pend a p
  | .prod a b, .fld (m + 1) :: p => pend b (.fld m :: p)
  | .arr _ a, .idx :: p => pend a p
  | _, _ => none

/-- an entry's shape: what is known of it whatever it holds -/
inductive ESh
  | free | dead
  | box (s : Sk)
  | vec (g : Nat) (s : Sk) (n : Nat)

def shp : Entry → ESh
  | .free => .free
  | .dead => .dead
  | .box T _ => .box T.sk
  | .vec g a l => .vec g a.sk l.length

end Vse

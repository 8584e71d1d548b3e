/- The operations of the symbolic machine. Nothing here is about one program. -/
import Derived.Test.YtodjkocikflmnaaE1
set_option linter.unusedVariables false
namespace Vse
open Go

def pd0 : (p : List PS) → PD p
  | [] => ()
  | .fld _ :: p => pd0 p
  | .idx :: p => (0, pd0 p)

def dflt : (T : Ty) → T.den
  | .bool => false
  | .int _ => (0 : Int)
  | .str => ByteArray.empty
  | .prod a b => (dflt a, dflt b)
  | .arr _ _ => []
  | .imm _ _ _ => []
  | .sv _ _ => ⟨(), 0, 0, 0⟩
  | .vp _ _ p => pd0 p
  | .sub _ p => ⟨pd0 p, 0, 0, 0⟩
  | .ptr _ p => pd0 p
  | .ip _ a => dflt a
  | .fn _ c => dflt c
  | .unit | .und | .nils | .vc _ _ | .nilp | .nilm | .mp _ | .nilf | .nili | .it _ | .ch _ => ()

/-- what stands at a path -/
def getP : (T : Ty) → T.den → (p : List PS) → PD p → Option TV
  | T, x, [], _ => some ⟨T, x⟩
  | .prod a _, x, .fld 0 :: p, d => getP a x.1 p d
  | .prod _ b, x, .fld (m + 1) :: p, d => getP b x.2 (.fld m :: p) d
  | .arr _ a, x, .idx :: p, d => getP a (x.getD d.1 (dflt a)) p d.2
  | _, _, _, _ => none
termination_by structural T => T

def castT (t : TV) (a : Ty) : Option a.den := if h : t.T = a then some (h ▸ t.x) else none

/-- put at a path; an array's elements keep their type -/
def setP : (T : Ty) → T.den → (p : List PS) → PD p → TV → Option TV
  | T, x, [], _, y => if T.sk = y.T.sk then some y else none
  | .prod a b, x, .fld 0 :: p, d, y => (setP a x.1 p d y).bind fun r => some ⟨.prod r.T b, (r.x, x.2)⟩
  | .prod a b, x, .fld (m + 1) :: p, d, y => (setP b x.2 (.fld m :: p) d y).bind fun r => some ⟨.prod a r.T, (x.1, r.x)⟩
  | .arr n a, x, .idx :: p, d, y => (setP a (x.getD d.1 (dflt a)) p d.2 y).bind fun r => (castT r a).bind fun z => some ⟨.arr n a, x.set d.1 z⟩
  | _, _, _, _, _ => none
termination_by structural T => T

def pdSnoc : (p : List PS) → PD p → (s : PS) → PD [s] → PD (p ++ [s])
  | [], _, _, d => d
  | .fld _ :: p, x, s, d => pdSnoc p x s d
  | .idx :: p, x, s, d => (x.1, pdSnoc p x.2 s d)

/-! types of the program -/

def skFields (rec : TypeId → Option Sk) : List Field → Nat → Option Sk
  | [], _ => some .unit
  | f :: fs, off =>
    if f.offset = off then
      match rec f.type with
      | some s => match skFields rec fs (off + s.nc) with
        | some r => some (.prod s r)
        | none => none
      | none => none
    else none

/-- the shape of a type of the program, its offsets and sizes being as they must -/
def skOf (P : Program) : Nat → TypeId → Option Sk
  | 0, _ => none
  | n + 1, t =>
    match P.info? t, P.underlying t with
    | some i, some (.struct fs) => match skFields (skOf P n) fs.toList 0 with
      | some s => if s.nc = i.size then some s else none
      | none => none
    | some i, some (.array k e) => match skOf P n e with
      | some s => if k * s.nc = i.size then some (.arr k s) else none
      | none => none
    | _, some (.tuple _) | _, some (.named _ _) | _, some .invalid => none
    | some i, some _ => if i.size = 1 then some .leaf else none
    | _, _ => none

def depth0 : Nat := 12
def sk? (P : Program) (t : TypeId) : Option Sk := skOf P depth0 t

/-- a number that its kind can hold -/
def inK (k : IntKind) (n : Int) : Bool := decide (k.min ≤ n) && decide (n ≤ k.max)

/-- a literal -/
def ofVal : Value → TV
  | .bool b => ⟨.bool, b⟩
  | .int k n => if inK k n then ⟨.int k, n⟩ else ⟨.und, ()⟩
  | .string s => if decide (s.size ≤ 9223372036854775807) then ⟨.str, s⟩ else ⟨.und, ()⟩
  | .pointer none => ⟨.nilp, ()⟩
  | .slice none 0 0 => ⟨.nils, ()⟩
  | .map none => ⟨.nilm, ()⟩
  | .nilFunc => ⟨.nilf, ()⟩
  | .nilIface => ⟨.nili, ()⟩
  | _ => ⟨.und, ()⟩

/-- some of a type's cells, by its shape -/
def decFields (rec : TypeId → List Value → Option (TV × List Value)) : List Field → List Value → Option (TV × List Value)
  | [], cs => some (⟨.unit, ()⟩, cs)
  | f :: fs, cs => match rec f.type cs with
    | some (t, r) => match decFields rec fs r with
      | some (u, q) => some (⟨.prod t.T u.T, (t.x, u.x)⟩, q)
      | none => none
    | none => none

def decMany (rec : List Value → Option (TV × List Value)) (a : Ty) : Nat → List Value → Option (List a.den × List Value)
  | 0, cs => some ([], cs)
  | n + 1, cs => match rec cs with
    | some (t, r) => match castT t a with
      | some x => match decMany rec a n r with
        | some (l, q) => some (x :: l, q)
        | none => none
      | none => none
    | none => none

def decZ (P : Program) : Nat → TypeId → List Value → Option (TV × List Value)
  | 0, _, _ => none
  | n + 1, t, cs =>
    match P.underlying t with
    | some (.struct fs) => decFields (decZ P n) fs.toList cs
    | some (.array k e) => match decZ P n e cs with
      | some (u, _) => match decMany (decZ P n e) u.T k cs with
        | some (l, r) => some (⟨.arr k u.T, l⟩, r)
        | none => none
      | none => none
    | _ => match cs with
      | c :: r => match ofVal c with
        | ⟨.und, _⟩ => none
        | v => some (v, r)
      | [] => none

def aggOk : Value → Sk → Bool
  | .agg _, s => s.agg
  | _, s => !s.agg

/-- a type's zero value -/
def zeroT (P : Program) (t : TypeId) : Option TV :=
  match P.info? t with
  | some i => match i.zero with
    | some z => match sk? P t with
      | some s => match decZ P depth0 t z.cells.toList with
        | some (v, []) => if v.T.sk = s && aggOk z s then some v else none
        | _ => none
      | none => none
    | none => none
  | none => none

/-! numbers -/

def andI (k : IntKind) (x y : Int) : Int := k.wrap (BitVec.ofInt k.bits x &&& BitVec.ofInt k.bits y).toNat
def orI (k : IntKind) (x y : Int) : Int := k.wrap (BitVec.ofInt k.bits x ||| BitVec.ofInt k.bits y).toNat
def xorI (k : IntKind) (x y : Int) : Int := k.wrap (BitVec.ofInt k.bits x ^^^ BitVec.ofInt k.bits y).toNat
def andNotI (k : IntKind) (x y : Int) : Int := k.wrap (BitVec.ofInt k.bits x &&& ~~~ BitVec.ofInt k.bits y).toNat
def shlI (k : IntKind) (x y : Int) : Int := k.wrap (x * 2 ^ (min y.toNat k.bits))
def shrI (k : IntKind) (x y : Int) : Int := x.fdiv (2 ^ (min y.toNat k.bits))
def maxI (x y : Int) : Int := if y > x then y else x
def minI (x y : Int) : Int := if y < x then y else x

def intBin (op : BinOp) (k : IntKind) (x y : Int) : Tr TV :=
  match op with
  | .add => .ret ⟨.int k, k.wrap (x + y)⟩
  | .sub => .ret ⟨.int k, k.wrap (x - y)⟩
  | .mul => .ret ⟨.int k, k.wrap (x * y)⟩
  | .quo => .ite (decide (y = 0)) .fail (.ret ⟨.int k, k.wrap (x.tdiv y)⟩)
  | .rem => .ite (decide (y = 0)) .fail (.ret ⟨.int k, x.tmod y⟩)
  | .and => .ret ⟨.int k, andI k x y⟩
  | .or => .ret ⟨.int k, orI k x y⟩
  | .xor => .ret ⟨.int k, xorI k x y⟩
  | .andNot => .ret ⟨.int k, andNotI k x y⟩
  | .eql => .ret ⟨.bool, x == y⟩
  | .neq => .ret ⟨.bool, x != y⟩
  | .lss => .ret ⟨.bool, decide (x < y)⟩
  | .leq => .ret ⟨.bool, decide (x ≤ y)⟩
  | .gtr => .ret ⟨.bool, decide (x > y)⟩
  | .geq => .ret ⟨.bool, decide (x ≥ y)⟩
  | _ => .fail

def eqList {α : Type} (f : α → α → Bool) : List α → List α → Bool
  | [], [] => true
  | x :: xs, y :: ys => f x y && eqList f xs ys
  | _, _ => false

def eqT : (T : Ty) → T.den → T.den → Bool
  | .bool, a, b => a == b
  | .int _, a, b => decide (a = b)
  | .str, a, b => a == b
  | .prod s t, a, b => eqT s a.1 b.1 && eqT t a.2 b.2
  | .arr _ s, a, b => eqList (eqT s) a b
  | .unit, _, _ => true
  | _, _, _ => false

def cmpFields (rec : TypeId → Ty → Bool) : List Field → Ty → Bool
  | [], .unit => true
  | f :: fs, .prod a b => f.name != "_" && rec f.type a && cmpFields rec fs b
  | _, _ => false

/-- may two values of this type, seen so, be held against each other by '=='? -/
def cmpTy (P : Program) : Nat → TypeId → Ty → Bool
  | 0, _, _ => false
  | n + 1, t, T =>
    match P.underlying t with
    | some .bool => match T with | .bool => true | _ => false
    | some (.int _) => match T with | .int _ => true | _ => false
    | some .string => match T with | .str => true | _ => false
    | some (.struct fs) => !(P.stoodInHeld t) && cmpFields (cmpTy P n) fs.toList T
    | some (.array k e) => match T with | .arr k' a => k == k' && cmpTy P n e a | _ => false
    | _ => false

def eqlT (P : Program) (t : TypeId) (T : Ty) (x y : T.den) : Tr Bool :=
  if cmpTy P depth0 t T && (sk? P t == some T.sk) && !(P.eqGuardType P.depth t) then .ret (eqT T x y) else .fail

def strBin (op : BinOp) (x y : ByteArray) : Tr TV :=
  match op with
  | .add => .chk (decide (x.size + y.size ≤ 9223372036854775807)) (.ret ⟨.str, x ++ y⟩)
  | .eql => .ret ⟨.bool, x == y⟩
  | .neq => .ret ⟨.bool, x != y⟩
  | _ => .fail

def isPtrT (P : Program) (t : TypeId) : Bool :=
  match P.underlying t with
  | some (.pointer _) => true
  | _ => false

def binT (P : Program) (op : BinOp) (t : TypeId) (a b : TV) : Tr TV :=
  match op, a, b with
  | op, ⟨.int k, x⟩, ⟨.int k', y⟩ =>
    match op with
    | .shl => .chk (decide (0 ≤ y)) (.ret ⟨.int k, shlI k x y⟩)
    | .shr => .chk (decide (0 ≤ y)) (.ret ⟨.int k, shrI k x y⟩)
    | _ => if k = k' then intBin op k x y else .fail
  | op, ⟨.str, x⟩, ⟨.str, y⟩ => strBin op x y
  | .eql, ⟨.nilp, _⟩, ⟨.nilp, _⟩ => if isPtrT P t then .ret ⟨.bool, true⟩ else .fail
  | .neq, ⟨.nilp, _⟩, ⟨.nilp, _⟩ => if isPtrT P t then .ret ⟨.bool, false⟩ else .fail
  | .eql, ⟨T, x⟩, ⟨U, y⟩ => if h : U = T then (eqlT P t T x (h ▸ y)).bind fun b => .ret ⟨.bool, b⟩ else .fail
  | .neq, ⟨T, x⟩, ⟨U, y⟩ => if h : U = T then (eqlT P t T x (h ▸ y)).bind fun b => .ret ⟨.bool, !b⟩ else .fail
  | _, _, _ => .fail

def unT (op : UnOp) (a : TV) : Tr TV :=
  match op, a with
  | .neg, ⟨.int k, n⟩ => .ret ⟨.int k, k.wrap (0 - n)⟩
  | .xor, ⟨.int k, n⟩ => .ret ⟨.int k, xorI k (if k.signed then -1 else k.max) n⟩
  | .not, ⟨.bool, b⟩ => .ret ⟨.bool, !b⟩
  | _, _ => .fail

/-! operations -/

abbrev Out := AV × List (Nat × Entry)

def val (t : TV) : Out := (.v t.T t.x, [])

/-- a struct's literal: fields put into its zero value, each with the shape that it has there -/
def putParts : TV → List (Nat × TV) → Option TV
  | z, [] => some z
  | z, (i, v) :: r => match setP z.T z.x [.fld i] () v with
    | some z' => putParts z' r
    | none => none

def putElems : TV → List (Nat × TV) → Option TV
  | z, [] => some z
  | z, (i, v) :: r => match setP z.T z.x [.idx] (i, ()) v with
    | some z' => putElems z' r
    | none => none

def tvOf : AV → Option TV
  | .v .und _ => none
  | .v T x => some ⟨T, x⟩
  | _ => none

def tvsOf : List AV → Option (List TV)
  | [] => some []
  | a :: l => match tvOf a with
    | some t => match tvsOf l with
      | some r => some (t :: r)
      | none => none
    | none => none

def zipN : List Nat → List TV → List (Nat × TV)
  | n :: ns, t :: ts => (n, t) :: zipN ns ts
  | _, _ => []

def buildT (P : Program) (t : TypeId) (ns : List Nat) (ts : List TV) : Option TV :=
  match P.underlying t, zeroT P t with
  | some (.struct fs), some z => if ns.all (fun i => decide (i < fs.size)) then putParts z (zipN ns ts) else none
  | some (.array k _), some z => if ns.all (fun i => decide (i < k)) then putElems z (zipN ns ts) else none
  | _, _ => none

def loadT (P : Program) (t : TypeId) (r : Option TV) : Tr Out :=
  match r with
  | some v => if sk? P t = some v.T.sk then .ret (val v) else .fail
  | none => .fail

def fldTV (v : TV) (m : Nat) : Option TV := getP v.T v.x [.fld m] ()

def isStruct (P : Program) (t : TypeId) (f : Nat) : Bool :=
  match P.underlying t with
  | some (.struct fs) => decide (f < fs.size)
  | _ => false

def arrLen (P : Program) (t : TypeId) : Option Nat :=
  match P.underlying t with
  | some (.array n _) => some n
  | _ => none

def c_move : List AV → Tr Out
  | [a] => .ret (a, [])
  | _ => .fail

def c_pick : List AV → Tr Out
  | [.v .bool b, x, y] => .ite b (.ret (x, [])) (.ret (y, []))
  | _ => .fail

def c_alloc (P : Program) (t : TypeId) (fr : Nat) : Tr Out :=
  match zeroT P t with
  | some z => .ret (.v (.ptr fr []) (), [(fr, .box z.T z.x)])
  | none => .fail

def c_box (vs : List AV) (fr : Nat) : Tr Out :=
  match vs with
  | [a] => match tvOf a with
    | some z => .ret (.v (.ptr fr []) (), [(fr, .box z.T z.x)])
    | none => .fail
  | _ => .fail

def c_build (P : Program) (t : TypeId) (ns : List Nat) (vs : List AV) : Tr Out :=
  match tvsOf vs with
  | some ts => match buildT P t ns ts with
    | some v => .ret (val v)
    | none => .fail
  | none => .fail

def c_load (P : Program) (t : TypeId) (vs : List AV) (es : List Entry) : Tr Out :=
  match vs with
  | [.v (.ptr _ p) d] => match es with
    | [.box T x] => loadT P t (getP T x p d)
    | _ => .fail
  | [.v (.ip _ T) x] => loadT P t (some ⟨T, x⟩)
  | [.v (.vp _ g p) d] => match es with
    | [.vec g' a l] => if g = g' then loadT P t (getP (.arr l.length a) l p d) else .fail
    | _ => .fail
  | _ => .fail

/-- put into a list's element -/
def setI (b : Ty) (l : List b.den) (p : List PS) (d : PD (.idx :: p)) (v : TV) : Option (List b.den) :=
  (setP b (l.getD d.1 (dflt b)) p d.2 v).bind fun r => (castT r b).bind fun z => some (l.set d.1 z)

theorem setI_setP {b : Ty} {l m : List b.den} {p : List PS} {d : PD (.idx :: p)} {v : TV} (h : setI b l p d v = some m) : setP (.arr l.length b) l (.idx :: p) d v = some ⟨.arr l.length b, m⟩ := by
  simp only [setI, Option.bind_eq_some_iff] at h
  obtain ⟨r, h1, z, h2, h3⟩ := h
  simp only [Option.some.injEq] at h3
  subst h3
  simp only [setP, h1, h2, Option.bind_some]

def c_store (P : Program) (t : TypeId) (vs : List AV) (es : List Entry) : Tr Out :=
  match vs with
  | [.v (.ptr e p) d, a] => match es with
    | [.box T x] => match tvOf a with
      | some v => match setP T x p d v with
        | some r => if sk? P t = some v.T.sk then .ret (AV.und, [(e, .box r.T r.x)]) else .fail
        | none => .fail
      | none => .fail
    | _ => .fail
  | [.v (.vp e g (.idx :: p)) d, a] => match es with
    | [.vec g' b l] => if g = g' then (match tvOf a with
      | some v => match setI b l p d v with
        | some m => if sk? P t = some v.T.sk then .ret (AV.und, [(e, .vec g b m)]) else .fail
        | none => .fail
      | none => .fail) else .fail
    | _ => .fail
  | _ => .fail

def c_nilCheck : List AV → Tr Out
  | [.v (.ptr e p) d] => .ret (.v (.ptr e p) d, [])
  | [.v (.vp e g p) d] => .ret (.v (.vp e g p) d, [])
  | [.v (.ip q a) d] => .ret (.v (.ip q a) d, [])
  | _ => .fail

/-- the elements' type of a slice type -/
def sliceEl (P : Program) (t : TypeId) : Option TypeId :=
  match P.underlying t with
  | some (.slice e) => some e
  | _ => none

/-- are a slice type's elements of this shape? -/
def elOk (P : Program) (t : TypeId) (a : Ty) : Bool :=
  match sliceEl P t with
  | some e => sk? P e == some a.sk && decide (a.nc ≠ 0)
  | none => false

/-- a slice held against nil, where it is known -/
def nilEq : BinOp → AV → AV → Option Bool
  | .eql, .v (.imm _ true _) _, .v .nils _ => some false
  | .neq, .v (.imm _ true _) _, .v .nils _ => some true
  | .eql, .v .nils _, .v .nils _ => some true
  | .neq, .v .nils _, .v .nils _ => some false
  | _, _, _ => none

/-- an address -/
def isAd : AV → Bool
  | .v (.ptr _ _) _ => true
  | .v (.ip _ _) _ => true
  | .v (.vp _ _ _) _ => true
  | _ => false

def isNilp : AV → Bool
  | .v .nilp _ => true
  | _ => false

/-- an address held against nil -/
def nilPtr (op : BinOp) (a b : AV) : Option Bool :=
  if isAd a && isNilp b then (match op with
    | .eql => some false
    | .neq => some true
    | _ => none) else none

def c_bin (P : Program) (op : BinOp) (t : TypeId) : List AV → Tr Out
  | [a, b] => match nilEq op a b with
    | some r => if (sliceEl P t).isSome then .ret (.v .bool r, []) else .fail
    | none => match nilPtr op a b with
      | some r => if isPtrT P t then .ret (.v .bool r, []) else .fail
      | none => match tvOf a with
        | some x => match tvOf b with
          | some y => (binT P op t x y).bind fun r => .ret (val r)
          | none => .fail
        | none => .fail
  | _ => .fail

/-- a slice as an array's address -/
def c_s2ap (P : Program) (t : TypeId) : List AV → Tr Out
  | [.v (.imm p _ a) l] => match arrLen P t with
    | some n => if sk? P t == some (.arr n a.sk) && decide (n ≠ 0) then .chk (decide (n ≤ l.length)) (.ret (.v (.ip p (.arr n a)) (l.take n), [])) else .fail
    | none => .fail
  | _ => .fail

def c_un (op : UnOp) : List AV → Tr Out
  | [a] => match tvOf a with
    | some x => (unT op x).bind fun r => .ret (val r)
    | none => .fail
  | _ => .fail

/-- bytes as a string -/
def bytesStr (l : List Int) : ByteArray := l.foldl (fun r n => r.push (UInt8.ofNat n.toNat)) ByteArray.empty

def isBytes (P : Program) (t : TypeId) : Bool :=
  match P.underlying t with
  | some (.slice e) => match P.underlying e with
    | some (.int .u8) => true
    | _ => false
  | _ => false

/-- a string's bytes -/
def strBytes (s : ByteArray) : List Int := s.data.toList.map fun b => (b.toNat : Int)

def c_convert (P : Program) (s d : TypeId) (vs : List AV) (ss : List ESh) : Tr Out :=
  match vs with
  | [.v .str x] => match P.underlying s with
    | some .string => if isBytes P d then .ret (.v (.imm true true (.int .u8)) (strBytes x), []) else .fail
    | _ => .fail
  | [.v (.vc e g) u] => match ss with
    | [.vec g' _ n] => if g = g' && decide (n ≠ 0) && (s == d) && isBytes P s then .ret (.v (.vc e g) u, []) else .fail
    | _ => .fail
  | [.v (.imm _ _ (.int .u8)) l] => match P.underlying d with
    | some .string => if isBytes P s then .ret (.v .str (bytesStr l), []) else .fail
    | _ => .fail
  | [.v (.int _) n] => match P.underlying s with
    | some _ => match P.underlying d with
      | some (.int k) => .ret (.v (.int k) (k.wrap n), [])
      | _ => .fail
    | none => .fail
  | _ => .fail

/-- the shape at a path into an entry -/
def shAt : List ESh → List PS → Option Sk
  | [.box s], p => pend s p
  | _, _ => none

def big : Option Sk → Bool
  | some s => decide (s.nc ≠ 0)
  | none => false

def c_fieldAddr (P : Program) (t : TypeId) (f : Nat) (vs : List AV) (ss : List ESh) : Tr Out :=
  match vs with
  | [.v (.ptr e p) d] => if isStruct P t f && (sk? P t).isSome && (shAt ss p == sk? P t) && big (shAt ss (p ++ [.fld f])) then .ret (.v (.ptr e (p ++ [.fld f])) (pdSnoc p d (.fld f) ()), []) else .fail
  | [.v (.ip q a) x] => if isStruct P t f && (sk? P t == some a.sk) && big (pend a.sk [.fld f]) then (match getP a x [.fld f] () with
    | some r => .ret (.v (.ip q r.T) r.x, [])
    | none => .fail) else .fail
  | _ => .fail

def c_field (P : Program) (t : TypeId) (f : Nat) : List AV → Tr Out
  | [a] => match tvOf a with
    | some v => if isStruct P t f && (sk? P t == some v.T.sk) then (match fldTV v f with
      | some r => .ret (val r)
      | none => .fail) else .fail
    | none => .fail
  | _ => .fail

def inArr (i : Int) (n : Nat) : Bool := decide (0 ≤ i) && decide (i < (n : Int))

/-- is an index within an array? (nothing to ask where its kind has no other numbers) -/
def inArrK (k : IntKind) (i : Int) (n : Nat) : Bool := match decide (0 ≤ k.min) && decide (k.max < (n : Int)) with
  | true => true
  | false => inArr i n

def c_indexAddr (P : Program) (t : TypeId) (vs : List AV) (ss : List ESh) : Tr Out :=
  match vs with
  | [.v (.ptr e p) d, .v (.int k) i] => match arrLen P t with
    | some n => if (sk? P t).isSome && (shAt ss p == sk? P t) then .chk (inArrK k i n) (.ret (.v (.ptr e (p ++ [.idx])) (pdSnoc p d .idx (i.toNat, ())), [])) else .fail
    | none => .fail
  | [.v (.ip q (.arr m a)) x, .v (.int k) i] => match arrLen P t with
    | some n => if n = m && (sk? P t == some (.arr m a.sk)) then .chk (inArrK k i n) (.ret (.v (.ip q a) (x.getD i.toNat (dflt a)), [])) else .fail
    | none => .fail
  | [.v (.imm q _ a) x, .v (.int _) i] => match sliceEl P t with
    | some e => if sk? P e == some a.sk then .chk (inArr i x.length) (.ret (.v (.ip q a) (x.getD i.toNat (dflt a)), [])) else .fail
    | none => .fail
  | [.v (.vc e g) _, .v (.int _) i] => match sliceEl P t with
    | some el => match ss with
      | [.vec g' s n] => if g = g' && (sk? P el == some s) then .chk (inArr i n) (.ret (.v (.vp e g [.idx]) (i.toNat, ()), [])) else .fail
      | _ => .fail
    | none => .fail
  | _ => .fail

def c_index (P : Program) (t : TypeId) : List AV → Tr Out
  | [.v .str s, .v (.int _) i] => match P.underlying t with
    | some .string => .chk (inArr i s.size) (.ret (.v (.int .u8) ((s.data.getD i.toNat 0).toNat : Int), []))
    | _ => .fail
  | [.v (.arr m a) x, .v (.int k) i] => match arrLen P t with
    | some n => if n = m && (sk? P t == some (.arr m a.sk)) then .chk (inArrK k i n) (.ret (.v a (x.getD i.toNat (dflt a)), [])) else .fail
    | none => .fail
  | _ => .fail

/-! slices -/

/-- how many bytes an element of a slice type takes -/
def elBytes (P : Program) (t : TypeId) : Option Nat :=
  match sliceEl P t with
  | some e => match P.info? e with
    | some i => match i.zero with
      | some z => if decide (z.cells.size = i.size) && (decide (i.bytes ≠ 0) && (decide (i.bytes ≤ 1073741824) && z.cells.all fun v => v.oneCell')) then some i.bytes else none
      | none => none
    | none => none
  | none => none

/-- what is read of a slice: of what is never written, of an own one, of nil -/
def seen (a : AV) (es : List Entry) : Option ((a : Ty) × List a.den) :=
  match a with
  | .v (.imm _ _ a) l => some ⟨a, l⟩
  | .v (.vc _ g) _ => match es with
    | [.vec g' a l] => if g = g' then some ⟨a, l⟩ else none
    | _ => none
  | _ => none

def isNils : AV → Bool
  | .v .nils _ => true
  | _ => false

def room (n bytes : Nat) : Bool := decide (n * bytes ≤ 180000000000000)

def castL (x : (a : Ty) × List a.den) (a : Ty) : Option (List a.den) := if h : x.1 = a then some (h ▸ x.2) else none

/-- bytes put behind one another -/
def c_append (P : Program) (t t2 : TypeId) (vs : List AV) (es : List Entry) (fr : Nat) : Tr Out :=
  match vs with
  | [s, x] => if t = t2 then (match elBytes P t with
    | some by_ => match s with
      | .v .nils _ => if isNils x then .ret (.v .nils (), []) else (match seen x es with
        | some ⟨a, l⟩ => if elOk P t a then .chk (room l.length by_) (.ret (.v (.vc fr 0) (), [(fr, .vec 0 a l)])) else .fail
        | none => .fail)
      | .v (.vc e g) _ => match es with
        | .vec g' a l :: es' => if g = g' && elOk P t a then (if isNils x then .ret (.v (.vc e g) (), []) else (match seen x es' with
          | some y => match castL y a with
            | some m => .chk (room (l.length + m.length) by_) (.ret (.v (.vc e (g + 1)) (), [(e, .vec (g + 1) a (l ++ m))]))
            | none => .fail
          | none => .fail)) else .fail
        | _ => .fail
      | _ => .fail
    | none => .fail) else .fail
  | _ => .fail

def c_len (P : Program) (t : TypeId) (vs : List AV) (es : List Entry) : Tr Out :=
  match vs with
  | [.v .str s] => match P.underlying t with
    | some .string => .ret (.v (.int .i64) (s.size : Int), [])
    | _ => .fail
  | [.v .nils _] => match sliceEl P t with
    | some _ => .ret (.v (.int .i64) (0 : Int), [])
    | none => .fail
  | [x] => match sliceEl P t with
    | some _ => match seen x es with
      | some ⟨_, l⟩ => .ret (.v (.int .i64) (l.length : Int), [])
      | none => .fail
    | none => .fail
  | _ => .fail

/-- a new slice, its elements written out -/
def manyV (a : Ty) : List AV → Option (List a.den)
  | [] => some []
  | v :: vs => match tvOf v with
    | some t => match castT t a with
      | some x => match manyV a vs with
        | some l => some (x :: l)
        | none => none
      | none => none
    | none => none

def headT : List AV → Option Ty
  | v :: _ => match tvOf v with
    | some t => some t.T
    | none => none
  | [] => none

def c_buildS (P : Program) (t : TypeId) (n : Nat) (ns : List Nat) (vs : List AV) (fr : Nat) : Tr Out :=
  if ns = List.range n && decide (vs.length = n) then
    (match n with
    | 0 => match sliceEl P t with
      | some e => match zeroT P e with
        | some z => if elOk P t z.T then .ret (.v (.vc fr 0) (), [(fr, .vec 0 z.T [])]) else .fail
        | none => .fail
      | none => .fail
    | _ => match headT vs with
      | some a => match manyV a vs with
        | some l => if elOk P t a && decide (n * a.nc ≤ 16777216) && (elBytes P t).isSome then .ret (.v (.vc fr 0) (), [(fr, .vec 0 a l)]) else .fail
        | none => .fail
      | none => .fail)
  else .fail

/-- ..of one own slice, which is never written again; behind it nil ones -/
def c_buildSlice (P : Program) (t : TypeId) (n : Nat) (ns : List Nat) (vs : List AV) (es : List Entry) (fr : Nat) : Tr Out :=
  match vs, es with
  | .v (.vc e g) _ :: tl, [.vec g' a l] => if g = g' && tl.all isNils then (c_buildS P t n ns (.v (.imm true false a) l :: tl.map fun _ => .v (.imm true false a) []) fr).bind fun r => .ret (r.1, (e, .dead) :: r.2) else .fail
  | vs, _ => c_buildS P t n ns vs fr

/-- a new slice of zero values -/
def c_makeSlice (P : Program) (t : TypeId) (vs : List AV) (fr : Nat) : Tr Out :=
  match vs with
  | [.v (.int .i64) n, .v (.int .i64) c] => match sliceEl P t with
    | some e => match zeroT P e with
      | some z => match elBytes P t with
        | some by_ => if elOk P t z.T && decide (z.T.nc = 1) && !z.T.agg then .chk (decide (n = c) && (decide (0 ≤ n) && room n.toNat by_)) (.ret (.v (.vc fr 0) (), [(fr, .vec 0 z.T (List.replicate n.toNat z.x))])) else .fail
        | none => .fail
      | none => .fail
    | none => .fail
  | _ => .fail

def intOf : AV → Option Int
  | .v (.int _) n => some n
  | _ => none

/-- the bounds of a part: none, or what stands there -/
def bnd (b : Bool) (vs : List AV) : Option (Option Int × List AV) :=
  match b with
  | false => some (none, vs)
  | true => match vs with
    | v :: r => match intOf v with
      | some n => some (some n, r)
      | none => none
    | [] => none

/-- does a part begin behind the first element, whatever the slots hold? -/
def posLo : Option Operand → Bool
  | some (.const (.int _ n)) => decide (0 < n)
  | _ => false

/-- put over the first ones -/
def overL {α : Type} (l m : List α) : List α := m.take l.length ++ l.drop (min m.length l.length)

/-- bytes laid over an own slice's first ones -/
def c_copy (P : Program) (t : TypeId) (vs : List AV) (es : List Entry) : Tr Out :=
  match vs with
  | [.v (.vc e g) _, x] => match es with
    | .vec g' a l :: es' => if g = g' && elOk P t a then (if isNils x then .ret (.v (.int .i64) (0 : Int), []) else (match seen x es' with
      | some y => match castL y a with
        | some m => .ret (.v (.int .i64) ((min m.length l.length : Nat) : Int), [(e, .vec g a (overL l m))])
        | none => .fail
      | none => .fail)) else .fail
    | _ => .fail
  | _ => .fail

/-- a part of a string, or of what is never written; of an own slice the first ones -/
def c_slice (P : Program) (t : TypeId) (pos hasLo hasHi hasMx : Bool) (vs : List AV) (es : List Entry) : Tr Out :=
  match hasMx, vs with
  | false, x :: r => match bnd hasLo r with
    | some (lo, r1) => match bnd hasHi r1 with
      | some (hi, []) => match x with
        | .v .str s => match P.underlying t with
          | some .string =>
            let l := lo.getD 0
            let h := hi.getD s.size
            .chk (decide (0 ≤ l) && (decide (l ≤ h) && decide (h ≤ (s.size : Int)))) (.ret (.v .str (s.extract l.toNat h.toNat), []))
          | _ => .fail
        | .v (.imm p f a) xs => if elOk P t a then
            let l := lo.getD 0
            let h := hi.getD xs.length
            .chk (decide (0 ≤ l) && (decide (l ≤ h) && decide (h ≤ (xs.length : Int)))) (.ret (.v (.imm p (pos || f) a) ((xs.take h.toNat).drop l.toNat), []))
          else .fail
        | .v (.vc e g) _ => match hasLo, es with
          | false, [.vec g' a xs] => if g = g' && elOk P t a then
              .chk (decide (0 ≤ hi.getD xs.length) && decide (hi.getD xs.length ≤ (xs.length : Int))) (.ret (.v (.vc e (g + 1)) (), [(e, .vec (g + 1) a (xs.take (hi.getD xs.length).toNat))]))
            else .fail
          | _, _ => .fail
        | _ => .fail
      | _ => .fail
    | none => .fail
  | _, _ => .fail

def c_extract (i : Nat) : List AV → Tr Out
  | [.tup l] => match l[i]? with
    | some v => .ret (val v)
    | none => .fail
  | _ => .fail

def c_builtin (b : Builtin) : List AV → Tr Out
  | [.v (.int k) a, .v (.int k') c] => if k = k' then (match b with
    | .max => .ret (.v (.int k) (maxI a c), [])
    | .min => .ret (.v (.int k) (minI a c), [])
    | _ => .fail) else .fail
  | _ => .fail

/-- the entry of an own slice -/
def vcOf : AV → List Nat
  | .v (.vc e _) _ => [e]
  | _ => []

def headIds : List AV → List Nat
  | x :: _ => vcOf x
  | [] => []

def bsIds : List AV → List Nat
  | x :: tl => if tl.all isNils then vcOf x else []
  | [] => []

/-- which entries an operation may look into or turn -/
def idsOf : Op → List AV → List Nat
  | .load _ _, [.v (.vp e _ _) _] => [e]
  | .store _ _ _, [.v (.vp e _ _) _, _] => [e]
  | .call { callee := .builtin .len, .. }, [x] => vcOf x
  | .buildSlice _ _ _, vs => bsIds vs
  | .call { callee := .builtin .append, .. }, [s, x] => vcOf s ++ vcOf x
  | .call { callee := .builtin .copy, .. }, [s, x] => vcOf s ++ vcOf x
  | .slice _ _ _ _ _, vs => headIds vs
  | .load _ _, [.v (.ptr e _) _] => [e]
  | .store _ _ _, [.v (.ptr e _) _, _] => [e]
  | _, _ => []

/-- which entries' shapes an operation may look at -/
def shsOf : Op → List AV → List Nat
  | .fieldAddr _ _ _, [.v (.ptr e _) _] => [e]
  | .indexAddr _ _ _, [.v (.ptr e _) _, _] => [e]
  | .indexAddr _ _ _, [.v (.vc e _) _, _] => [e]
  | .convert _ _ _, [.v (.vc e _) _] => [e]
  | _, _ => []

def newOf : Op → Nat
  | .alloc _ | .box _ _ | .buildSlice _ _ _ | .makeSlice _ _ _ | .call { callee := .builtin .append, .. } => 1
  | _ => 0

/-- what an operation makes of its operands, of the entries that it may look into, and of a free place -/
def core (P : Program) (o : Op) (vs : List AV) (es : List Entry) (ss : List ESh) (fr : Nat) : Tr Out :=
  match o with
  | .move _ => c_move vs
  | .assign _ => c_move vs
  | .pick _ _ _ => c_pick vs
  | .alloc t => c_alloc P t fr
  | .box _ _ => c_box vs fr
  | .build t ps => c_build P t (ps.toList.map (·.1)) vs
  | .load t _ => c_load P t vs es
  | .store t _ _ => c_store P t vs es
  | .nilCheck _ => c_nilCheck vs
  | .binOp op t _ _ _ => c_bin P op t vs
  | .unOp op _ _ => c_un op vs
  | .convert s d _ => c_convert P s d vs ss
  | .fieldAddr t _ f => c_fieldAddr P t f vs ss
  | .field t _ f => c_field P t f vs
  | .indexAddr t _ _ => c_indexAddr P t vs ss
  | .index t _ _ => c_index P t vs
  | .extract _ i => c_extract i vs
  | .buildSlice t n ps => c_buildSlice P t n (ps.toList.map (·.1)) vs es fr
  | .makeSlice t _ _ => c_makeSlice P t vs fr
  | .slice t _ lo hi mx => c_slice P t (posLo lo) lo.isSome hi.isSome mx.isSome vs es
  | .sliceToArrayPointer t _ => c_s2ap P t vs
  | .call { callee := .builtin .len, argTypes, .. } => match argTypes[0]? with
    | some t => c_len P t vs es
    | none => .fail
  | .call { callee := .builtin .append, argTypes, .. } => match argTypes.toList with
    | [t, t2] => c_append P t t2 vs es fr
    | _ => .fail
  | .call { callee := .builtin .copy, argTypes, .. } => match argTypes[0]? with
    | some t => c_copy P t vs es
    | none => .fail
  | .call { callee := .builtin b, .. } => c_builtin b vs
  | _ => .fail

def opArgs : Op → List Operand
  | .sliceToArrayPointer _ x | .move x | .assign x | .box _ x | .load _ x | .nilCheck x | .unOp _ _ x | .convert _ _ x | .fieldAddr _ x _ | .field _ x _ | .extract x _ => [x]
  | .pick c a b => [c, a, b]
  | .alloc _ => []
  | .build _ ps | .buildSlice _ _ ps => ps.toList.map (·.2)
  | .slice _ x lo hi mx => x :: (lo.toList ++ (hi.toList ++ mx.toList))
  | .makeSlice _ l c => [l, c]
  | .store _ a v | .binOp _ _ a v _ | .indexAddr _ a v | .index _ a v => [a, v]
  | .call { callee := .builtin _, args, .. } => args.toList
  | _ => [.const (.tuple #[])]

end Vse

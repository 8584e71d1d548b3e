/- A table (layer 11, cache): the document's table: walks. -/
import Derived.Test.YtfimgngiaggplaaX3
set_option linter.unusedVariables false
set_option maxRecDepth 100000
namespace Go.Proofs.Ytfimgngiaggplaa.Cache
open Go Vse Go.Proofs Gen

abbrev tR (a b : Nat) : Ty := .prod i64 (.prod (.vc 1 a) (.prod (.vc 2 b) .unit))
abbrev rE (a b : Nat) : List ETy := [.box (tR a b), .vec a i64, .vec b .str]
abbrev li : Ty := .imm false false i64

/-! a key's place -/

def SAt : RSpec := ⟨[0, 1, 5], 25, [.ptr 0 [], i64, i64], rE 0 0, rE 0 0, [], fun x => match x with | .ret => ([4], [i64], rE 0 0) | _ => ([], [], rE 0 0)⟩
def GAt (n : Int) (l : List Int) (v : List ByteArray) (x i : Int) : Tr SAt.End :=
  .ite (decide (i < (l.length : Int))) (.chk (inArr i l.length) (.ite (l.getD i.toNat 0 == x) (.ret (.inr (.ret, encS [4] [i64] (rE 0 0) 25 (i, ()) ((n, (), (), ()), l, v, ())))) (.ret (.inl (((), x, w (i + 1), ()), ((n, (), (), ()), l, v, ()))))))
    (.ret (.inr (.exit 0, encS [] [] (rE 0 0) 25 () ((n, (), (), ()), l, v, ()))))
noncomputable def bAt : Code := loopAt Try.f44 0
theorem rAt (n : Int) (l : List Int) (v : List ByteArray) (x i : Int) : (SAt.round (bodyK Try.prog (ctx []) L0 bAt) ((), x, i, ()) ((n, (), (), ()), l, v, ())).eval = (GAt n l v x i).eval := by kernel_rfl
def FAt (c : List Int → Int → Bool) (X : List Int → Int → Bool) (Y : List Int → Int → Int) (xs : HL SAt.Ts) (hs : HD SAt.Es) : Tr (Ex × St) :=
  .chk (c hs.2.1 xs.2.2.1) (.ite (X hs.2.1 xs.2.1) (.ret (.ret, encS [4] [i64] (rE 0 0) 25 (Y hs.2.1 xs.2.1, ()) hs)) (.ret (.exit 0, encS [] [] (rE 0 0) 25 () hs)))
def LAt (c : List Int → Int → Bool) (X : List Int → Int → Bool) (Y : List Int → Int → Int) : Loops := fun j st => if j = 2 then SAt.fn (FAt c X Y) st else .fail
abbrev nAt : PSpec := ⟨[.ptr 0 [], i64], [i64], rE 0 0, rE 0 0, []⟩
theorem tAt (c : List Int → Int → Bool) (X : List Int → Int → Bool) (Y : List Int → Int → Int) (n : Int) (l : List Int) (v : List ByteArray) (x : Int) :
    (fnP Try.prog (ctx []) (LAt c X Y) nAt Try.f44 ((), x, ()) ((n, (), (), ()), l, v, ())).eval =
      (.chk (c l 0) (.ite (X l x) (.ret ((Y l x, ()), ((n, (), (), ()), l, v, ()))) (.ret (((-1 : Int), ()), ((n, (), (), ()), l, v, ())))) : Tr nAt.Out).eval := by kernel_rfl

/-! are numbers the same? -/

def SIn : RSpec := ⟨[0, 1, 5], 26, [li, li, i64], [], [], [], fun x => match x with | .ret => ([4], [.bool], []) | _ => ([], [], [])⟩
def GIn (a b : List Int) (i : Int) : Tr SIn.End :=
  .ite (decide (i < (a.length : Int))) (.chk (inArr i a.length) (.chk (inArr i b.length) (.ite (a.getD i.toNat 0 != b.getD i.toNat 0) (.ret (.inr (.ret, encS [4] [.bool] [] 26 (false, ()) ()))) (.ret (.inl ((a, b, w (i + 1), ()), ()))))))
    (.ret (.inr (.exit 0, encS [] [] [] 26 () ())))
noncomputable def bIn : Code := loopAt Try.f45 0
theorem rIn (a b : List Int) (i : Int) : (SIn.round (bodyK Try.prog (ctx []) L0 bIn) (a, b, i, ()) ()).eval = (GIn a b i).eval := by kernel_rfl
def FIn (c : List Int → List Int → Int → Bool) (X : List Int → List Int → Bool) (xs : HL SIn.Ts) (hs : HD SIn.Es) : Tr (Ex × St) :=
  .chk (c xs.1 xs.2.1 xs.2.2.1) (.ite (X xs.1 xs.2.1) (.ret (.exit 0, encS [] [] [] 26 () ())) (.ret (.ret, encS [4] [.bool] [] 26 (false, ()) ())))
def LIn (c : List Int → List Int → Int → Bool) (X : List Int → List Int → Bool) : Loops := fun j st => if j = 4 then SIn.fn (FIn c X) st else .fail
def TIn (c : List Int → List Int → Int → Bool) (X : List Int → List Int → Bool) (a b : List Int) : Tr AV :=
  .ite ((a.length : Int) != (b.length : Int)) (.ret (.v .bool false)) (.chk (c a b 0) (.ite (X a b) (.ret (.v .bool true)) (.ret (.v .bool false))))
theorem tIn (c : List Int → List Int → Int → Bool) (X : List Int → List Int → Bool) (a b : List Int) :
    nrm (fnS Try.prog (ctx []) (LIn c X) [.bool] Try.f45 (mkArgs [li, li] (a, b, ()))) = (TIn c X a b).eval := by kernel_rfl

/-! the table -/

abbrev Rt := HD (rE 0 0)
abbrev Rt1 := HD (rE 1 1)
abbrev nOu : PSpec := ⟨[.ptr 0 [], i64], [], rE 0 0, rE 1 1, []⟩
def pt {α : Type} (l : List α) (a b : Int) : List α := (l.drop a.toNat).take (b - a).toNat
def ptOK {α : Type} (l : List α) (a b : Int) : Bool := decide (0 ≤ a) && (decide (a ≤ b) && decide (b ≤ (l.length : Int)))
def outL {α : Type} (l : List α) (x : Int) : List α := ([] ++ pt l 0 x) ++ pt l (w (x + 1)) (l.length : Int)
def outC {α β : Type} (l : List α) (x : Int) (by_ : Nat) (t : Tr β) : Tr β :=
  .chk (ptOK l 0 x) (.chk (Vse.room (([] : List α).length + (pt l 0 x).length) by_) (.chk (ptOK l (w (x + 1)) (l.length : Int)) (.chk (Vse.room (([] ++ pt l 0 x).length + (pt l (w (x + 1)) (l.length : Int)).length) by_) t)))
def TOu (n : Int) (l : List Int) (v : List ByteArray) (x : Int) : Tr nOu.Out := outC l x 8 (outC v x 16 (.ret ((), ((n, (), (), ()), outL l x, outL v x, ()))))
theorem tOu (n : Int) (l : List Int) (v : List ByteArray) (x : Int) : (fnP Try.prog (ctx []) L0 nOu Try.f70 ((), x, ()) ((n, (), (), ()), l, v, ())).eval = (TOu n l v x).eval := by kernel_rfl

abbrev nRN : PSpec := ⟨[i64], [.ptr 0 [], i64], [], rE 0 0, [(0, 1, i64), (0, 2, .str)]⟩
abbrev nRM : PSpec := ⟨[i64], [.nilp, i64], [], [], []⟩
def TRN (n : Int) : Tr nRN.Out := .ite (decide (n < 1)) .fail (.ite (decide (n > 1000)) .fail (.ret (((), (0 : Int), ()), ((n, (), (), ()), [], [], ()))))
def TRM (n : Int) : Tr nRM.Out := .ite (decide (n < 1)) (.ret (((), (1 : Int), ()), ())) (.ite (decide (n > 1000)) (.ret (((), (1 : Int), ()), ())) .fail)
theorem tRN (n : Int) : (fnP Try.prog (ctx []) L0 nRN Try.f38 (n, ()) ()).eval = (TRN n).eval := by kernel_rfl
theorem tRM (n : Int) : (fnP Try.prog (ctx []) L0 nRM Try.f38 (n, ()) ()).eval = (TRM n).eval := by kernel_rfl

abbrev nRD : PSpec := ⟨[.ptr 0 [], i64], [.bool], rE 0 0, rE 1 1, []⟩
abbrev nRP : PSpec := ⟨[.ptr 0 [], i64, .str], [i64, .bool], rE 0 0, rE 1 1, []⟩
def sAt (p : List Int → Bool) (f : List Int → Int → Int) : CSpec := .pos nAt (fun _ hs => p hs.2.1) fun xs hs => ((f hs.2.1 xs.2.1, ()), hs)
def sOu (p : Int → List Int → List ByteArray → Bool) (f : Int → Rt → nOu.Out) : CSpec := .pos nOu (fun xs hs => p xs.2.1 hs.2.1 hs.2.2.1) fun xs hs => f xs.2.1 hs
def cR (pa : List Int → Bool) (fa : List Int → Int → Int) (po : Int → List Int → List ByteArray → Bool) (fo : Int → Rt → nOu.Out) : List (Nat × CSpec) := [(44, sAt pa fa), (70, sOu po fo)]
def TRD (pa : List Int → Bool) (fa : List Int → Int → Int) (po : Int → List Int → List ByteArray → Bool) (fo : Int → Rt → nOu.Out) (n : Int) (l : List Int) (v : List ByteArray) (x : Int) : Tr nRD.Out :=
  .chk (pa l) (.ite (decide (fa l x < 0)) (.ret ((false, ()), ((n, (), (), ()), l, v, ()))) (.chk (po (fa l x) l v) (.ret ((true, ()), (fo (fa l x) ((n, (), (), ()), l, v, ())).2))))
theorem tRD (pa : List Int → Bool) (fa : List Int → Int → Int) (po : Int → List Int → List ByteArray → Bool) (fo : Int → Rt → nOu.Out) (n : Int) (l : List Int) (v : List ByteArray) (x : Int) :
    (fnP Try.prog (ctx (cR pa fa po fo)) L0 nRD Try.f42 ((), x, ()) ((n, (), (), ()), l, v, ())).eval = (TRD pa fa po fo n l v x).eval := by kernel_rfl
def TRP (pa : List Int → Bool) (fa : List Int → Int → Int) (po : Int → List Int → List ByteArray → Bool) (fo : Int → Rt → nOu.Out) (n : Int) (l : List Int) (v : List ByteArray) (x : Int) (s : ByteArray) : Tr nRP.Out :=
  let ap (d : Rt1) (g : Int) (is : Bool) : Tr nRP.Out := .chk (Vse.room (List.length (α := Int) d.2.1 + [x].length) 8) (.chk (Vse.room (List.length (α := ByteArray) d.2.2.1 + [s].length) 16)
    (.ret ((g, is, ()), (d.1, List.append (α := Int) d.2.1 [x], List.append (α := ByteArray) d.2.2.1 [s], ()))))
  .chk (pa l) (.ite (decide (fa l x ≥ 0)) (.chk (inArr (fa l x) v.length) (.ret (((0 : Int), false, ()), ((n, (), (), ()), l, v.set (fa l x).toNat s, ()))))
    (.ite ((l.length : Int) == n) (.chk (inArr 0 l.length) (.chk (po 0 l v) (ap (fo 0 ((n, (), (), ()), l, v, ())).2 (l.getD 0 0) true))) (ap ((n, (), (), ()), l, v, ()) 0 false)))
theorem tRP (pa : List Int → Bool) (fa : List Int → Int → Int) (po : Int → List Int → List ByteArray → Bool) (fo : Int → Rt → nOu.Out) (n : Int) (l : List Int) (v : List ByteArray) (x : Int) (s : ByteArray) :
    (fnP Try.prog (ctx (cR pa fa po fo)) L0 nRP Try.f40 ((), x, s, ()) ((n, (), (), ()), l, v, ())).eval = (TRP pa fa po fo n l v x s).eval := by kernel_rfl
end Go.Proofs.Ytfimgngiaggplaa.Cache

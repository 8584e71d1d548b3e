/- Sealed bytes (layer 5, seal): the document's answers, walked. -/
import Derived.Test.YtlkddajnebjlcaaP1
set_option linter.unusedVariables false
set_option maxRecDepth 100000
namespace Go.Proofs.Ytlkddajnebjlcaa.Seal
open Go Vse Go.Proofs Gen

/-! keys -/

abbrev nK : PSpec := ⟨[w16, .str], [w16, bt], [], [], []⟩
def cK (E : Ef) (pe : Pe) : List (Nat × CSpec) := [(32, .pos nE (fun xs _ => pe xs.1 xs.2.1) fun xs _ => (E xs.1 xs.2.1 xs.2.2.1, ()))]
noncomputable def bK : Code := loopAt Try.f49 0
abbrev eK : List ETy := [.dead, .box w16, .box w16]
def SK : RSpec := ⟨[4, 6, 8, 9], 31, [.ptr 1 [], bt, .ptr 2 [], i64], eK, [.box w16, .box w16, .box w16], [], fun _ => ([4, 6, 8], [.ptr 1 [], bt, .ptr 2 []], eK)⟩
def GK (b : List Int) (i : Int) (r h : List Int) : Tr SK.End :=
  .ite (decide (i < 16)) (.chk (inArr i b.length) (.chk (inArrK .i64 i 16) (.ret (.inl (((), b, (), w (i + 1), ()), (r, h.set i.toNat (b.getD i.toNat 0), ()))))))
    (.ret (.inr (.exit 0, encS [4, 6, 8] [.ptr 1 [], bt, .ptr 2 []] eK 31 ((), b, (), ()) (r, h, ()))))
theorem rK (E : Ef) (pe : Pe) (b : List Int) (i : Int) (r h : List Int) : (SK.round (bodyK Try.prog (ctx (cK E pe)) L0 bK) ((), b, (), i, ()) (r, h, ())).eval = (GK b i r h).eval := by kernel_rfl
def FK (c : List Int → Int → List Int → Bool) (X : List Int → List Int) (xs : HL SK.Ts) (hs : HD SK.Es) : Tr (Ex × St) :=
  .chk (c xs.2.1 xs.2.2.2.1 hs.2.1) (.ret (.exit 0, encS [4, 6, 8] [.ptr 1 [], bt, .ptr 2 []] eK 31 ((), xs.2.1, (), ()) (hs.1, X xs.2.1, ())))
def LK (c : List Int → Int → List Int → Bool) (X : List Int → List Int) : Loops := fun j st => if j = 4 then SK.fn (FK c X) st else .fail
abbrev z16 : List Int := List.replicate 16 0
def TK (E : Ef) (pe : Pe) (c : List Int → Int → List Int → Bool) (X : List Int → List Int) (key : List Int) (s : ByteArray) : Tr nK.Out :=
  let b := (E (all 16 key) (pur ++ s) 48).1
  .chk (decide (9 + s.size ≤ 9223372036854775807)) (.chk (pe (all 16 key) (pur ++ s)) (.chk (c b 0 z16) (.chk (cutOK b 16 (b.length : Int)) (.ret ((X b, cut b 16 (b.length : Int), ()), ())))))
theorem tK (E : Ef) (pe : Pe) (c : List Int → Int → List Int → Bool) (X : List Int → List Int) (key : List Int) (s : ByteArray) :
    (fnP Try.prog (ctx (cK E pe)) (LK c X) nK Try.f49 (key, s, ()) ()).eval = (TK E pe c X key s).eval := by kernel_rfl

/-! Seal -/

abbrev Kf := List Int → ByteArray → List Int × List Int × Unit
abbrev F2 := List Int → List Int → List Int
abbrev P2 := List Int → List Int → Bool
def cR (K : Kf) (pk : Pe) (P : Pb) (F : Fl) (pr : P2) (R : F2) : List (Nat × CSpec) :=
  [(49, .pos nK (fun xs _ => pk xs.1 xs.2.1) fun xs _ => (K xs.1 xs.2.1, ())), (25, .slp1 [w16, w16, bs] (fun x => P x.2.2.1) bt fun x => F x.1 x.2.1 x.2.2.1), (33, .slp1 [bs, bs] (fun x => pr x.1 x.2.1) d32 fun x => R x.1 x.2.1), (22, sSame)]

def TRS (K : Kf) (pk : Pe) (P : Pb) (F : Fl) (pr : P2) (R : F2) (key : List Int) (s : ByteArray) (first plain : List Int) : Tr nSe.Out :=
  let bad := fun n : Int => (.ret (([], n, ()), ()) : Tr nSe.Out)
  let o1 : List Int := [] ++ all 16 first
  let o2 := o1 ++ F (K key s).1 first plain
  let d := all 32 (R (K key s).2.1 o2)
  .ite (s == ByteArray.empty) (bad 1) (.ite (decide ((s.size : Int) > 40)) (bad 1) (.ite (decide ((plain.length : Int) > 1000)) (bad 7) (.chk (pk key s) (.chk (Vse.room (([] : List Int).length + (all 16 first).length) 1) (.chk (P plain)
    (.chk (Vse.room (o1.length + (F (K key s).1 first plain).length) 1) (.chk (pr (K key s).2.1 o2) (.chk (Vse.room (o2.length + d.length) 1) (.ret ((o2 ++ d, 0, ()), ()))))))))))
theorem tRS (K : Kf) (pk : Pe) (P : Pb) (F : Fl) (pr : P2) (R : F2) (key : List Int) (s : ByteArray) (first plain : List Int) :
    (fnP Try.prog (ctx (cR K pk P F pr R)) L0 nSe Try.f37 (key, s, first, plain, ()) ()).eval = (TRS K pk P F pr R key s first plain).eval := by kernel_rfl

/-! Open -/

noncomputable def bO : Code := loopAt Try.f39 0
abbrev eO : List ETy := [.dead, .box w16, .dead, .dead, .dead, .box w16]
def SO : RSpec := ⟨[2, 8, 10, 12, 13], 67, [bs, .ptr 1 [], bs, .ptr 5 [], i64], eO, [.box w16, .box w16, .vec 1 u8, .dead, .box d32, .box w16], [], fun _ => ([8, 10, 12], [.ptr 1 [], bs, .ptr 5 []], eO)⟩
def GO (b front : List Int) (i : Int) (h f : List Int) : Tr SO.End :=
  .ite (decide (i < 16)) (.chk (inArr i b.length) (.chk (inArrK .i64 i 16) (.ret (.inl ((b, (), front, (), w (i + 1), ()), (h, f.set i.toNat (b.getD i.toNat 0), ()))))))
    (.ret (.inr (.exit 0, encS [8, 10, 12] [.ptr 1 [], bs, .ptr 5 []] eO 67 ((), front, (), ()) (h, f, ()))))
theorem rO (K : Kf) (pk : Pe) (P : Pb) (F : Fl) (pr : P2) (R : F2) (b front : List Int) (i : Int) (h f : List Int) :
    (SO.round (bodyK Try.prog (ctx (cR K pk P F pr R)) L0 bO) (b, (), front, (), i, ()) (h, f, ())).eval = (GO b front i h f).eval := by kernel_rfl
def FO (c : List Int → Int → List Int → Bool) (X : List Int → List Int) (xs : HL SO.Ts) (hs : HD SO.Es) : Tr (Ex × St) :=
  .chk (c xs.1 xs.2.2.2.2.1 hs.2.1) (.ret (.exit 0, encS [8, 10, 12] [.ptr 1 [], bs, .ptr 5 []] eO 67 ((), xs.2.2.1, (), ()) (hs.1, X xs.1, ())))
def LO (c : List Int → Int → List Int → Bool) (X : List Int → List Int) : Loops := fun j st => if j = 14 then SO.fn (FO c X) st else .fail
def TRO (K : Kf) (pk : Pe) (P : Pb) (F : Fl) (pr : P2) (R : F2) (c : List Int → Int → List Int → Bool) (X : List Int → List Int) (key : List Int) (s : ByteArray) (b : List Int) : Tr nOp.Out :=
  let bad := fun n : Int => (.ret (([], n, ()), ()) : Tr nOp.Out)
  let n := w ((b.length : Int) - 32)
  let front := cut b 0 n
  let y := cut front 16 (front.length : Int)
  .ite (s == ByteArray.empty) (bad 1) (.ite (decide ((s.size : Int) > 40)) (bad 1) (.ite (decide ((b.length : Int) < 48)) (bad 2) (.ite (decide ((b.length : Int) > 1048)) (bad 7) (.chk (pk key s) (.chk (cutOK b 0 n)
    (.chk (Vse.room (([] : List Int).length + front.length) 1) (.chk (pr (K key s).2.1 ([] ++ front)) (.chk (cutOK b n (b.length : Int)) (.ite (!sameI (all 32 (R (K key s).2.1 ([] ++ front))) (cut b n (b.length : Int))) (bad 6)
      (.chk (c b 0 z16) (.chk (cutOK front 16 (front.length : Int)) (.chk (P y) (.ret ((F (K key s).1 (X b) y, 0, ()), ()))))))))))))))
theorem tRO (K : Kf) (pk : Pe) (P : Pb) (F : Fl) (pr : P2) (R : F2) (c : List Int → Int → List Int → Bool) (X : List Int → List Int) (key : List Int) (s : ByteArray) (b : List Int) :
    (fnP Try.prog (ctx (cR K pk P F pr R)) (LO c X) nOp Try.f39 (key, s, b, ()) ()).eval = (TRO K pk P F pr R c X key s b).eval := by kernel_rfl

end Go.Proofs.Ytlkddajnebjlcaa.Seal

/- The statements of layer 16 (kdc) hold: two of them. No conditions but the given ones. Part 6. -/
import Derived.Test.YtaffancdidgkhaaZ5
import Derived.Test.YtaffancdidgkhaaProg
import Derived.KernelRfl
import Derived.Shelf.SlSortCmp.NoneTotal
import Derived.Scope
set_option linter.unusedVariables false
set_option linter.unusedSimpArgs false
section
section
set_option linter.unusedVariables false
set_option linter.unusedSimpArgs false
set_option maxRecDepth 1000000
namespace Go.Proofs.Ytaffancdidgkhaa.Aes
open Go Vse Go.Proofs
abbrev t11 : Ty := .arr 11 t16
noncomputable def b44o : Code := loopAt Try.f167 0
noncomputable def b44 : Code := ((loopsOf b44o)[0]?).getD .skip
def S44 : LSpec := ⟨[2, 3, 4, 5, 7, 8, 13, 22], [2, 3, 4, 5, 13], 73, [pt 1, pt 2, pt 3, u8, pt 4, .ptr 3 [.idx], i64, i64], [.box t16, .box t11, .box t256, .box t11, .box t16]⟩
def rowOf (o : List (List Int)) (q : Nat) : List Int := o.getD q (dflt t16)
def setByte (o : List (List Int)) (q : Nat) (i : Nat) (v : Int) : List (List Int) := o.set q ((rowOf o q).set i v)
theorem r44_0 (pw n : Int) (q : Nat) (key was box : List Int) (o ret : List (List Int)) : (S44.round (bodyK Try.prog (ctx C2) L0 b44) ((), (), (), pw, (), (q, ()), n, 0, ()) (key, ret, box, o, was, ())).eval =
  some (.inl (((), (), (), pw, (), (q, ()), n, 1, ()), (key, ret, box, setByte (setByte o q 0 (xorI .u8 (was.getD 0 0) (box.getD (was.getD 13 0).toNat 0))) q 0 (xorI .u8 ((rowOf (setByte o q 0 (xorI .u8 (was.getD 0 0) (box.getD (was.getD 13 0).toNat 0))) q).getD 0 0) pw), was, ()))) := by kernel_rfl
theorem r44_1 (pw n : Int) (q : Nat) (key was box : List Int) (o ret : List (List Int)) : (S44.round (bodyK Try.prog (ctx C2) L0 b44) ((), (), (), pw, (), (q, ()), n, 1, ()) (key, ret, box, o, was, ())).eval =
  some (.inl (((), (), (), pw, (), (q, ()), n, 2, ()), (key, ret, box, setByte o q 1 (xorI .u8 (was.getD 1 0) (box.getD (was.getD 14 0).toNat 0)), was, ()))) := by kernel_rfl
theorem r44_2 (pw n : Int) (q : Nat) (key was box : List Int) (o ret : List (List Int)) : (S44.round (bodyK Try.prog (ctx C2) L0 b44) ((), (), (), pw, (), (q, ()), n, 2, ()) (key, ret, box, o, was, ())).eval =
  some (.inl (((), (), (), pw, (), (q, ()), n, 3, ()), (key, ret, box, setByte o q 2 (xorI .u8 (was.getD 2 0) (box.getD (was.getD 15 0).toNat 0)), was, ()))) := by kernel_rfl
theorem r44_3 (pw n : Int) (q : Nat) (key was box : List Int) (o ret : List (List Int)) : (S44.round (bodyK Try.prog (ctx C2) L0 b44) ((), (), (), pw, (), (q, ()), n, 3, ()) (key, ret, box, o, was, ())).eval =
  some (.inl (((), (), (), pw, (), (q, ()), n, 4, ()), (key, ret, box, setByte o q 3 (xorI .u8 (was.getD 3 0) (box.getD (was.getD 12 0).toNat 0)), was, ()))) := by kernel_rfl
theorem r44_4 (pw n : Int) (q : Nat) (key was box : List Int) (o ret : List (List Int)) : (S44.round (bodyK Try.prog (ctx C2) L0 b44) ((), (), (), pw, (), (q, ()), n, 4, ()) (key, ret, box, o, was, ())).eval =
  some (.inl (((), (), (), pw, (), (q, ()), n, 5, ()), (key, ret, box, setByte o q 4 (xorI .u8 (was.getD 4 0) ((rowOf o q).getD 0 0)), was, ()))) := by kernel_rfl
theorem r44_5 (pw n : Int) (q : Nat) (key was box : List Int) (o ret : List (List Int)) : (S44.round (bodyK Try.prog (ctx C2) L0 b44) ((), (), (), pw, (), (q, ()), n, 5, ()) (key, ret, box, o, was, ())).eval =
  some (.inl (((), (), (), pw, (), (q, ()), n, 6, ()), (key, ret, box, setByte o q 5 (xorI .u8 (was.getD 5 0) ((rowOf o q).getD 1 0)), was, ()))) := by kernel_rfl
theorem r44_6 (pw n : Int) (q : Nat) (key was box : List Int) (o ret : List (List Int)) : (S44.round (bodyK Try.prog (ctx C2) L0 b44) ((), (), (), pw, (), (q, ()), n, 6, ()) (key, ret, box, o, was, ())).eval =
  some (.inl (((), (), (), pw, (), (q, ()), n, 7, ()), (key, ret, box, setByte o q 6 (xorI .u8 (was.getD 6 0) ((rowOf o q).getD 2 0)), was, ()))) := by kernel_rfl
theorem r44_7 (pw n : Int) (q : Nat) (key was box : List Int) (o ret : List (List Int)) : (S44.round (bodyK Try.prog (ctx C2) L0 b44) ((), (), (), pw, (), (q, ()), n, 7, ()) (key, ret, box, o, was, ())).eval =
  some (.inl (((), (), (), pw, (), (q, ()), n, 8, ()), (key, ret, box, setByte o q 7 (xorI .u8 (was.getD 7 0) ((rowOf o q).getD 3 0)), was, ()))) := by kernel_rfl
theorem r44_8 (pw n : Int) (q : Nat) (key was box : List Int) (o ret : List (List Int)) : (S44.round (bodyK Try.prog (ctx C2) L0 b44) ((), (), (), pw, (), (q, ()), n, 8, ()) (key, ret, box, o, was, ())).eval =
  some (.inl (((), (), (), pw, (), (q, ()), n, 9, ()), (key, ret, box, setByte o q 8 (xorI .u8 (was.getD 8 0) ((rowOf o q).getD 4 0)), was, ()))) := by kernel_rfl
theorem r44_9 (pw n : Int) (q : Nat) (key was box : List Int) (o ret : List (List Int)) : (S44.round (bodyK Try.prog (ctx C2) L0 b44) ((), (), (), pw, (), (q, ()), n, 9, ()) (key, ret, box, o, was, ())).eval =
  some (.inl (((), (), (), pw, (), (q, ()), n, 10, ()), (key, ret, box, setByte o q 9 (xorI .u8 (was.getD 9 0) ((rowOf o q).getD 5 0)), was, ()))) := by kernel_rfl
theorem r44_10 (pw n : Int) (q : Nat) (key was box : List Int) (o ret : List (List Int)) : (S44.round (bodyK Try.prog (ctx C2) L0 b44) ((), (), (), pw, (), (q, ()), n, 10, ()) (key, ret, box, o, was, ())).eval =
  some (.inl (((), (), (), pw, (), (q, ()), n, 11, ()), (key, ret, box, setByte o q 10 (xorI .u8 (was.getD 10 0) ((rowOf o q).getD 6 0)), was, ()))) := by kernel_rfl
theorem r44_11 (pw n : Int) (q : Nat) (key was box : List Int) (o ret : List (List Int)) : (S44.round (bodyK Try.prog (ctx C2) L0 b44) ((), (), (), pw, (), (q, ()), n, 11, ()) (key, ret, box, o, was, ())).eval =
  some (.inl (((), (), (), pw, (), (q, ()), n, 12, ()), (key, ret, box, setByte o q 11 (xorI .u8 (was.getD 11 0) ((rowOf o q).getD 7 0)), was, ()))) := by kernel_rfl
theorem r44_12 (pw n : Int) (q : Nat) (key was box : List Int) (o ret : List (List Int)) : (S44.round (bodyK Try.prog (ctx C2) L0 b44) ((), (), (), pw, (), (q, ()), n, 12, ()) (key, ret, box, o, was, ())).eval =
  some (.inl (((), (), (), pw, (), (q, ()), n, 13, ()), (key, ret, box, setByte o q 12 (xorI .u8 (was.getD 12 0) ((rowOf o q).getD 8 0)), was, ()))) := by kernel_rfl
theorem r44_13 (pw n : Int) (q : Nat) (key was box : List Int) (o ret : List (List Int)) : (S44.round (bodyK Try.prog (ctx C2) L0 b44) ((), (), (), pw, (), (q, ()), n, 13, ()) (key, ret, box, o, was, ())).eval =
  some (.inl (((), (), (), pw, (), (q, ()), n, 14, ()), (key, ret, box, setByte o q 13 (xorI .u8 (was.getD 13 0) ((rowOf o q).getD 9 0)), was, ()))) := by kernel_rfl
theorem r44_14 (pw n : Int) (q : Nat) (key was box : List Int) (o ret : List (List Int)) : (S44.round (bodyK Try.prog (ctx C2) L0 b44) ((), (), (), pw, (), (q, ()), n, 14, ()) (key, ret, box, o, was, ())).eval =
  some (.inl (((), (), (), pw, (), (q, ()), n, 15, ()), (key, ret, box, setByte o q 14 (xorI .u8 (was.getD 14 0) ((rowOf o q).getD 10 0)), was, ()))) := by kernel_rfl
theorem r44_15 (pw n : Int) (q : Nat) (key was box : List Int) (o ret : List (List Int)) : (S44.round (bodyK Try.prog (ctx C2) L0 b44) ((), (), (), pw, (), (q, ()), n, 15, ()) (key, ret, box, o, was, ())).eval =
  some (.inl (((), (), (), pw, (), (q, ()), n, 16, ()), (key, ret, box, setByte o q 15 (xorI .u8 (was.getD 15 0) ((rowOf o q).getD 11 0)), was, ()))) := by kernel_rfl
theorem r44_16 (pw n : Int) (q : Nat) (key was box : List Int) (o ret : List (List Int)) : (S44.round (bodyK Try.prog (ctx C2) L0 b44) ((), (), (), pw, (), (q, ()), n, 16, ()) (key, ret, box, o, was, ())).eval =
  some (.inr (.exit 2, encS [2, 3, 4, 5, 13] [pt 1, pt 2, pt 3, u8, i64] S44.Es 73 ((), (), (), pw, n, ()) (key, ret, box, o, was, ()))) := by kernel_rfl
theorem rowOf_set {o : List (List Int)} {q : Nat} (h : q < o.length) (r : List Int) : rowOf (o.set q r) q = r := by
 unfold rowOf
 rw [List.getD_eq_getElem?_getD, List.getElem?_set_self h]
 rfl
theorem setByte_set {o : List (List Int)} {q : Nat} (h : q < o.length) (r : List Int) (i : Nat) (v : Int) : setByte (o.set q r) q i v = o.set q (r.set i v) := by
 unfold setByte
 rw [rowOf_set h, List.set_set]
def stp (box was : List Int) (pw : Int) (i : Nat) (r : List Int) : List Int :=
 if i = 0 then r.set 0 (xorI .u8 ((r.set 0 (xorI .u8 (was.getD 0 0) (box.getD (was.getD 13 0).toNat 0))).getD 0 0) pw)
 else if i < 4 then r.set i (xorI .u8 (was.getD i 0) (box.getD (was.getD (12 + (i + 1) % 4) 0).toNat 0))
 else r.set i (xorI .u8 (was.getD i 0) (r.getD (i - 4) 0))
def stps (box was : List Int) (pw : Int) : Nat → List Int → List Int
 | 0, r => r
 | k + 1, r => stp box was pw k (stps box was pw k r)
theorem r44 (i : Nat) (hi : i < 16) (pw n : Int) (q : Nat) (key was box : List Int) (o ret : List (List Int)) (h : q < o.length) (r : List Int) :
  (S44.round (bodyK Try.prog (ctx C2) L0 b44) ((), (), (), pw, (), (q, ()), n, (i : Int), ()) (key, ret, box, o.set q r, was, ())).eval =
  some (.inl (((), (), (), pw, (), (q, ()), n, ((i + 1 : Nat) : Int), ()), (key, ret, box, o.set q (stp box was pw i r), was, ()))) := by
 match i, hi with
 | 0, _ => refine (r44_0 pw n q key was box (o.set q r) ret).trans ?_; simp only [setByte_set h, rowOf_set h, List.set_set]; rfl
 | 1, _ => refine (r44_1 pw n q key was box (o.set q r) ret).trans ?_; simp only [setByte_set h, rowOf_set h, List.set_set]; rfl
 | 2, _ => refine (r44_2 pw n q key was box (o.set q r) ret).trans ?_; simp only [setByte_set h, rowOf_set h, List.set_set]; rfl
 | 3, _ => refine (r44_3 pw n q key was box (o.set q r) ret).trans ?_; simp only [setByte_set h, rowOf_set h, List.set_set]; rfl
 | 4, _ => refine (r44_4 pw n q key was box (o.set q r) ret).trans ?_; simp only [setByte_set h, rowOf_set h, List.set_set]; rfl
 | 5, _ => refine (r44_5 pw n q key was box (o.set q r) ret).trans ?_; simp only [setByte_set h, rowOf_set h, List.set_set]; rfl
 | 6, _ => refine (r44_6 pw n q key was box (o.set q r) ret).trans ?_; simp only [setByte_set h, rowOf_set h, List.set_set]; rfl
 | 7, _ => refine (r44_7 pw n q key was box (o.set q r) ret).trans ?_; simp only [setByte_set h, rowOf_set h, List.set_set]; rfl
 | 8, _ => refine (r44_8 pw n q key was box (o.set q r) ret).trans ?_; simp only [setByte_set h, rowOf_set h, List.set_set]; rfl
 | 9, _ => refine (r44_9 pw n q key was box (o.set q r) ret).trans ?_; simp only [setByte_set h, rowOf_set h, List.set_set]; rfl
 | 10, _ => refine (r44_10 pw n q key was box (o.set q r) ret).trans ?_; simp only [setByte_set h, rowOf_set h, List.set_set]; rfl
 | 11, _ => refine (r44_11 pw n q key was box (o.set q r) ret).trans ?_; simp only [setByte_set h, rowOf_set h, List.set_set]; rfl
 | 12, _ => refine (r44_12 pw n q key was box (o.set q r) ret).trans ?_; simp only [setByte_set h, rowOf_set h, List.set_set]; rfl
 | 13, _ => refine (r44_13 pw n q key was box (o.set q r) ret).trans ?_; simp only [setByte_set h, rowOf_set h, List.set_set]; rfl
 | 14, _ => refine (r44_14 pw n q key was box (o.set q r) ret).trans ?_; simp only [setByte_set h, rowOf_set h, List.set_set]; rfl
 | 15, _ => refine (r44_15 pw n q key was box (o.set q r) ret).trans ?_; simp only [setByte_set h, rowOf_set h, List.set_set]; rfl
 | i + 16, h => omega
theorem k44 (pw n : Int) (q : Nat) (key was box : List Int) (o ret : List (List Int)) (h : q < o.length) (r : List Int) : ∀ (m k : Nat), k + m = 16 →
  S44.many (bodyK Try.prog (ctx C2) L0 b44) (m + 1) ((), (), (), pw, (), (q, ()), n, (k : Int), ()) (key, ret, box, o.set q (stps box was pw k r), was, ()) =
  some (.exit 2, encS [2, 3, 4, 5, 13] [pt 1, pt 2, pt 3, u8, i64] S44.Es 73 ((), (), (), pw, n, ()) (key, ret, box, o.set q (stps box was pw 16 r), was, ()))
 | 0, k, hk => by
  have : k = 16 := by omega
  subst this
  exact many_inr (r44_16 pw n q key was box _ ret) 0
 | m + 1, k, hk => (many_inl (r44 k (by omega) pw n q key was box o ret h _) (m + 1)).trans (k44 pw n q key was box o ret h r m (k + 1) (by omega))
def nextRow (box was : List Int) (pw : Int) : List Int :=
 let f (i : Nat) : Int := xorI .u8 (was.getD i 0) (box.getD (was.getD (12 + (i + 1) % 4) 0).toNat 0)
 let a0 := xorI .u8 (f 0) pw
 let a1 := f 1
 let a2 := f 2
 let a3 := f 3
 let a4 := xorI .u8 (was.getD 4 0) a0
 let a5 := xorI .u8 (was.getD 5 0) a1
 let a6 := xorI .u8 (was.getD 6 0) a2
 let a7 := xorI .u8 (was.getD 7 0) a3
 let a8 := xorI .u8 (was.getD 8 0) a4
 let a9 := xorI .u8 (was.getD 9 0) a5
 let a10 := xorI .u8 (was.getD 10 0) a6
 let a11 := xorI .u8 (was.getD 11 0) a7
 let a12 := xorI .u8 (was.getD 12 0) a8
 let a13 := xorI .u8 (was.getD 13 0) a9
 let a14 := xorI .u8 (was.getD 14 0) a10
 let a15 := xorI .u8 (was.getD 15 0) a11
 [a0, a1, a2, a3, a4, a5, a6, a7, a8, a9, a10, a11, a12, a13, a14, a15]
theorem stps_row (box was : List Int) (pw : Int) (x0 x1 x2 x3 x4 x5 x6 x7 x8 x9 xa xb xc xd xe xf : Int) : stps box was pw 16 [x0, x1, x2, x3, x4, x5, x6, x7, x8, x9, xa, xb, xc, xd, xe, xf] = nextRow box was pw := by kernel_rfl
theorem len16 {l : List Int} (h : l.length = 16) : ∃ x0 x1 x2 x3 x4 x5 x6 x7 x8 x9 xa xb xc xd xe xf, l = [x0, x1, x2, x3, x4, x5, x6, x7, x8, x9, xa, xb, xc, xd, xe, xf] := by
 match l, h with
 | [x0, x1, x2, x3, x4, x5, x6, x7, x8, x9, xa, xb, xc, xd, xe, xf], _ => exact ⟨_, _, _, _, _, _, _, _, _, _, _, _, _, _, _, _, rfl⟩
theorem stps_next (box was : List Int) (pw : Int) {r : List Int} (h : r.length = 16) : stps box was pw 16 r = nextRow box was pw := by
 obtain ⟨_, _, _, _, _, _, _, _, _, _, _, _, _, _, _, _, rfl⟩ := len16 h
 exact stps_row ..
def F44 (xs : HL S44.Ts) (hs : HD S44.Es) : Tr (Ex × St) :=
 .chk (decide (xs.2.2.2.2.2.2.2.1 = (0 : Int)) && (decide (xs.2.2.2.2.2.1.1 < (hs.2.2.2.1 : List (List Int)).length) && decide ((rowOf hs.2.2.2.1 xs.2.2.2.2.2.1.1).length = 16)))
  (.ret (.exit 2, encS [2, 3, 4, 5, 13] [pt 1, pt 2, pt 3, u8, i64] S44.Es 73 ((), (), (), xs.2.2.2.1, xs.2.2.2.2.2.2.1, ())
   (hs.1, hs.2.1, hs.2.2.1, (hs.2.2.2.1 : List (List Int)).set xs.2.2.2.2.2.1.1 (nextRow hs.2.2.1 hs.2.2.2.2.1 xs.2.2.2.1), hs.2.2.2.2.1, ())))
def L44 : Loops := fun j st => if j = 9 then S44.fn F44 st else .fail
theorem set_row {o : List (List Int)} {q : Nat} (h : q < o.length) : o.set q (rowOf o q) = o := by
 unfold rowOf
 rw [List.getD_eq_getElem?_getD, List.getElem?_eq_getElem h]
 exact List.set_getElem_self h
theorem l44 : LoopOK Try.prog L44 b44 :=
 loop_ok (L := L44) (L' := L0) C2_sound (loopsOK_of (by kernel_rfl)) S44 (by kernel_rfl) (F := F44) (i := 9) (by kernel_rfl) (fun _ => rfl) fun xs hs r h => by
  obtain ⟨u0, u1, u2, pw, u4, ⟨q, u5⟩, n, i, u⟩ := xs
  obtain ⟨key, ret, box, o, was, u7⟩ := hs
  obtain ⟨h1, h2⟩ := Tr.chk_some h
  have := Tr.ret_some h2
  simp only [Bool.and_eq_true, decide_eq_true_eq] at h1
  obtain ⟨e1, e2, e3⟩ := h1
  have e1 : i = ((0 : Nat) : Int) := e1
  subst e1
  have hk := k44 pw n q key was box o ret e2 (rowOf o q) 16 0 rfl
  rw [show stps box was pw 0 (rowOf o q) = rowOf o q from rfl, set_row e2, stps_next box was pw e3] at hk
  exact ⟨_, hk.trans (congrArg some this)⟩
end Go.Proofs.Ytaffancdidgkhaa.Aes
end
section
set_option linter.unusedVariables false
set_option maxRecDepth 1000000
namespace Go.Proofs.Ytaffancdidgkhaa.Aes
open Go Vse Go.Proofs
noncomputable def L44t : Loops := fun j st => if j = 5 then runLoop Try.prog (ctx C2) L44 11 b44o st else .fail
theorem l44o : LoopOK Try.prog L44t b44o :=
 runLoop_ok (L' := L44) C2_sound (loopsOK_all (fun b hb => by
  have : loopsOf b44o = [b44] := by kernel_rfl
  rw [this] at hb
  rw [List.mem_singleton.1 hb]
  exact l44)) (i := 5) (n := 11) (by kernel_rfl) (fun _ => rfl)
def keysI (key : List Int) : List (List Int) :=
 let r1 := nextRow boxL key 1
 let r2 := nextRow boxL r1 2
 let r3 := nextRow boxL r2 4
 let r4 := nextRow boxL r3 8
 let r5 := nextRow boxL r4 16
 let r6 := nextRow boxL r5 32
 let r7 := nextRow boxL r6 64
 let r8 := nextRow boxL r7 128
 let r9 := nextRow boxL r8 27
 let r10 := nextRow boxL r9 54
 [key, r1, r2, r3, r4, r5, r6, r7, r8, r9, r10]
def s44 : CSpec := .fn1 [t16] t11 fun x => keysI x.1
theorem ok44 : CSound Try.prog 167 s44 ∧ CLocal s44 :=
 fn_okL (L := L44t) C2_sound Try.func167 (by kernel_rfl) (fun b hb => by
  have : loopsOf (bodyOf Try.f167) = [b44o] := by kernel_rfl
  rw [this] at hb
  rw [List.mem_singleton.1 hb]
  exact l44o) (fun xs _ => by kernel_rfl) (fun xs _ => by kernel_rfl)
end Go.Proofs.Ytaffancdidgkhaa.Aes
end
section
set_option linter.unusedVariables false
set_option maxRecDepth 1000000
namespace Go.Proofs.Ytaffancdidgkhaa.Aes
open Go Vse Go.Proofs
def C3 : List (Nat × CSpec) := (167, s44) :: (150, s62) :: C2
theorem C3_sound : CtxSound Try.prog (ctx C3) ∧ CtxLocal (ctx C3) := ctx_sound ⟨ok44, ok62, ok59, ok40, ok41, ok39, ok61, trivial⟩
noncomputable def b46a : Code := ((loopsOf (bodyOf Try.f145))[0]?).getD .skip
noncomputable def b46o : Code := ((loopsOf (bodyOf Try.f145))[1]?).getD .skip
noncomputable def b46b : Code := ((loopsOf b46o)[0]?).getD .skip
noncomputable def b46c : Code := ((loopsOf b46o)[1]?).getD .skip
abbrev E46 : List ETy := [.box t16, .box t16, .box t16, .box t256, .box t11]
abbrev E46i : List ETy := [.box t16, .box t16, .box t16, .box t256, .box t11, .box t16]
def S46a : LSpec := ⟨[3, 4, 5, 6, 21], [3, 4, 5, 6], 117, [pt 1, pt 2, pt 3, pt 4, i64], E46⟩
def G46a (xs : HL S46a.Ts) (hs : HD S46a.Es) : Tr S46a.End :=
 let i := xs.2.2.2.2.1
 let b := hs.2.1
 let ks := hs.2.2.2.2.1
 .ite (decide (i < 16)) (.chk (inArr i 16) (.chk (inArr i 16) (.chk (inArr i 16) (.ret (.inl (((), (), (), (), w (i + 1), ()), (hs.1, xorAt b (rowOf ks 0) i.toNat, hs.2.2.1, hs.2.2.2.1, ks, ())))))))
  (.ret (.inr (.exit 0, encS [3, 4, 5, 6] [pt 1, pt 2, pt 3, pt 4] E46 117 ((), (), (), (), ()) hs)))
theorem r46a (i : Int) (key b o box : List Int) (ks : List (List Int)) : (S46a.round (bodyK Try.prog (ctx C3) L0 b46a) ((), (), (), (), i, ()) (key, b, o, box, ks, ())).eval =
  (G46a ((), (), (), (), i, ()) (key, b, o, box, ks, ())).eval := by kernel_rfl
def S46b : LSpec := ⟨[3, 4, 5, 6, 8, 9, 34, 37], [3, 4, 5, 6, 8, 9, 34], 117, [pt 1, pt 2, pt 3, pt 4, i64, pt 5, i64, i64], E46i⟩
def subAt (box b t : List Int) (i : Int) : List Int := t.set i.toNat (box.getD (b.getD ((w (i + w (4 * i.tmod 4))).tmod 16).toNat 0).toNat 0)
def G46b (xs : HL S46b.Ts) (hs : HD S46b.Es) : Tr S46b.End :=
 let n := xs.2.2.2.2.1
 let i := xs.2.2.2.2.2.2.2.1
 let n' := xs.2.2.2.2.2.2.1
 let b := hs.2.1
 let box := hs.2.2.2.1
 let t := hs.2.2.2.2.2.1
 .ite (decide (i < 16)) (.chk (inArr ((w (i + w (4 * i.tmod 4))).tmod 16) 16) (.chk (inArr i 16) (.ret (.inl (((), (), (), (), n, (), n', w (i + 1), ()), (hs.1, b, hs.2.2.1, box, hs.2.2.2.2.1, subAt box b t i, ()))))))
  (.ret (.inr (.exit 4, encS S46b.out [pt 1, pt 2, pt 3, pt 4, i64, pt 5, i64] E46i 117 ((), (), (), (), n, (), n', ()) hs)))
theorem r46b (n n' i : Int) (key b o box t : List Int) (ks : List (List Int)) : (S46b.round (bodyK Try.prog (ctx C3) L0 b46b) ((), (), (), (), n, (), n', i, ()) (key, b, o, box, ks, t, ())).eval =
  (G46b ((), (), (), (), n, (), n', i, ()) (key, b, o, box, ks, t, ())).eval := by kernel_rfl
def S46c : LSpec := ⟨[3, 4, 5, 6, 8, 9, 34, 53], [3, 4, 5, 6, 34], 117, [pt 1, pt 2, pt 3, pt 4, i64, pt 5, i64, i64], E46i⟩
def colI (i k : Int) : Int := w (w (i - i.tmod 4) + (w (i.tmod 4 + k)).tmod 4)
def mixB (x y z q : Int) : Int := xorI .u8 (xorI .u8 (xorI .u8 (twiceI (xorI .u8 x y)) y) z) q
def lastAt (b t : List Int) (k : List Int) (i : Int) : List Int :=
 let l := b.set i.toNat (t.getD i.toNat 0)
 l.set i.toNat (xorI .u8 (l.getD i.toNat 0) (k.getD i.toNat 0))
def mixAt (b t : List Int) (k : List Int) (i : Int) : List Int :=
 let l := (b.set i.toNat (t.getD i.toNat 0)).set i.toNat (mixB (t.getD i.toNat 0) (t.getD (colI i 1).toNat 0) (t.getD (colI i 2).toNat 0) (t.getD (colI i 3).toNat 0))
 l.set i.toNat (xorI .u8 (l.getD i.toNat 0) (k.getD i.toNat 0))
def G46c (xs : HL S46c.Ts) (hs : HD S46c.Es) : Tr S46c.End :=
 let n := xs.2.2.2.2.1
 let i := xs.2.2.2.2.2.2.2.1
 let n' := xs.2.2.2.2.2.2.1
 let b := hs.2.1
 let ks := hs.2.2.2.2.1
 let t := hs.2.2.2.2.2.1
 let A : Tr S46c.End := .chk (inArr i 16) (.chk (inArr i 16) (.chk (inArr (w (n + 1)) 11) (.chk (inArr i 16) (.chk (inArr i 16) (.ret (.inl (((), (), (), (), n, (), n', w (i + 1), ()), (hs.1, mixAt b t (rowOf ks (w (n + 1)).toNat) i, hs.2.2.1, hs.2.2.2.1, ks, t, ()))))))))
 let B : Tr S46c.End := .chk (inArr i 16) (.chk (inArr (w (n + 1)) 11) (.chk (inArr i 16) (.chk (inArr i 16) (.ret (.inl (((), (), (), (), n, (), n', w (i + 1), ()), (hs.1, lastAt b t (rowOf ks (w (n + 1)).toNat) i, hs.2.2.1, hs.2.2.2.1, ks, t, ())))))))
 .ite (decide (i < 16)) (.chk (inArr i 16) (.chk (inArr (colI i 1) 16) (.chk (inArr (colI i 2) 16) (.chk (inArr (colI i 3) 16) (.chk (inArr i 16) (.ite (decide (n < 9)) A B))))))
  (.ret (.inr (.exit 6, encS S46c.out [pt 1, pt 2, pt 3, pt 4, i64] E46i 117 ((), (), (), (), n', ()) hs)))
theorem r46c (n n' i : Int) (key b o box t : List Int) (ks : List (List Int)) : (S46c.round (bodyK Try.prog (ctx C3) L0 b46c) ((), (), (), (), n, (), n', i, ()) (key, b, o, box, ks, t, ())).eval =
  (G46c ((), (), (), (), n, (), n', i, ()) (key, b, o, box, ks, t, ())).eval := by kernel_rfl
end Go.Proofs.Ytaffancdidgkhaa.Aes
end
section
set_option linter.unusedVariables false
set_option maxRecDepth 1000000
namespace Go.Proofs.Ytaffancdidgkhaa.Aes
open Go Vse Go.Proofs
def subI (box b : List Int) : List Int := (List.range 16).map fun i => box.getD (b.getD ((i + 4 * (i % 4)) % 16) 0).toNat 0
def mixI (t k : List Int) : List Int := (List.range 16).map fun i => xorI .u8 (mixB (t.getD i 0) (t.getD (i - i % 4 + (i + 1) % 4) 0) (t.getD (i - i % 4 + (i + 2) % 4) 0) (t.getD (i - i % 4 + (i + 3) % 4) 0)) (k.getD i 0)
def F46a (xs : HL S46a.Ts) (hs : HD S46a.Es) : Tr (Ex × St) :=
 .chk (decide (xs.2.2.2.2.1 = (0 : Int)) && decide ((hs.2.1 : List Int).length = 16)) (.ret (.exit 0, encS [3, 4, 5, 6] [pt 1, pt 2, pt 3, pt 4] E46 117 ((), (), (), (), ()) (hs.1, xorF hs.2.1 (rowOf hs.2.2.2.2.1 0), hs.2.2)))
def F46b (xs : HL S46b.Ts) (hs : HD S46b.Es) : Tr (Ex × St) :=
 .chk (decide (xs.2.2.2.2.2.2.2.1 = (0 : Int)) && decide ((hs.2.2.2.2.2.1 : List Int).length = 16)) (.ret (.exit 4, encS S46b.out [pt 1, pt 2, pt 3, pt 4, i64, pt 5, i64] E46i 117 ((), (), (), (), xs.2.2.2.2.1, (), xs.2.2.2.2.2.2.1, ())
  (hs.1, hs.2.1, hs.2.2.1, hs.2.2.2.1, hs.2.2.2.2.1, subI hs.2.2.2.1 hs.2.1, ())))
def lineI (n : Int) (t k : List Int) : List Int := bif decide (n < 9) then mixI t k else xorF t k
def F46c (xs : HL S46c.Ts) (hs : HD S46c.Es) : Tr (Ex × St) :=
 .chk (decide (xs.2.2.2.2.2.2.2.1 = (0 : Int)) && (decide ((0 : Int) ≤ xs.2.2.2.2.1) && (decide (xs.2.2.2.2.1 < (10 : Int)) && decide ((hs.2.1 : List Int).length = 16))))
  (.ret (.exit 6, encS S46c.out [pt 1, pt 2, pt 3, pt 4, i64] E46i 117 ((), (), (), (), xs.2.2.2.2.2.2.1, ())
   (hs.1, lineI xs.2.2.2.2.1 hs.2.2.2.2.2.1 (rowOf hs.2.2.2.2.1 (xs.2.2.2.2.1 + 1).toNat), hs.2.2)))
noncomputable def L46i : Loops := fun j st => if j = 12 then S46b.fn F46b st else if j = 17 then S46c.fn F46c st else .fail
noncomputable def L46 : Loops := fun j st => if j = 3 then S46a.fn F46a st else if j = 8 then runLoop Try.prog (ctx C3) L46i 11 b46o st else .fail
theorem l46a : LoopOK Try.prog L46 b46a :=
 loop_ok (L := L46) (L' := L0) C3_sound (loopsOK_of (by kernel_rfl)) S46a (by kernel_rfl) (F := F46a) (i := 3) (by kernel_rfl) (fun _ => rfl) fun xs hs r h => by
  obtain ⟨u0, u1, u2, u3, i, u⟩ := xs
  obtain ⟨key, b, o, box, ks, u7⟩ := hs
  obtain ⟨h1, h2⟩ := Tr.chk_some h
  have := Tr.ret_some h2
  simp only [Bool.and_eq_true, decide_eq_true_eq] at h1
  obtain ⟨e1, e2⟩ := h1
  have e1 : i = (0 : Int) := e1
  subst e1
  obtain ⟨x0, x1, x2, x3, x4, x5, x6, x7, x8, x9, xa, xb, xc, xd, xe, xf, rfl⟩ := len16 (show b.length = 16 from e2)
  refine ⟨17, iter_many (G := G46a) (fun xs hs r h => (r46a xs.2.2.2.2.1 hs.1 hs.2.1 hs.2.2.1 hs.2.2.2.1 hs.2.2.2.2.1).trans h) 17 _ _ _ (Eq.trans ?_ (congrArg some this))⟩
  kernel_rfl
theorem l46b : LoopOK Try.prog L46i b46b :=
 loop_ok (L := L46i) (L' := L0) C3_sound (loopsOK_of (by kernel_rfl)) S46b (by kernel_rfl) (F := F46b) (i := 12) (by kernel_rfl) (fun _ => rfl) fun xs hs r h => by
  obtain ⟨u0, u1, u2, u3, n, u4, n', i, u⟩ := xs
  obtain ⟨key, b, o, box, ks, t, u7⟩ := hs
  obtain ⟨h1, h2⟩ := Tr.chk_some h
  have := Tr.ret_some h2
  simp only [Bool.and_eq_true, decide_eq_true_eq] at h1
  obtain ⟨e1, e2⟩ := h1
  have e1 : i = (0 : Int) := e1
  subst e1
  obtain ⟨x0, x1, x2, x3, x4, x5, x6, x7, x8, x9, xa, xb, xc, xd, xe, xf, rfl⟩ := len16 (show t.length = 16 from e2)
  refine ⟨17, iter_many (G := G46b) (fun xs hs r h => (r46b xs.2.2.2.2.1 xs.2.2.2.2.2.2.1 xs.2.2.2.2.2.2.2.1 hs.1 hs.2.1 hs.2.2.1 hs.2.2.2.1 hs.2.2.2.2.2.1 hs.2.2.2.2.1).trans h) 17 _ _ _ (Eq.trans ?_ (congrArg some this))⟩
  kernel_rfl
theorem lt10 {n : Int} (h : 0 ≤ n) (h' : n < 10) : n = 0 ∨ n = 1 ∨ n = 2 ∨ n = 3 ∨ n = 4 ∨ n = 5 ∨ n = 6 ∨ n = 7 ∨ n = 8 ∨ n = 9 := by omega
theorem l46c : LoopOK Try.prog L46i b46c :=
 loop_ok (L := L46i) (L' := L0) C3_sound (loopsOK_of (by kernel_rfl)) S46c (by kernel_rfl) (F := F46c) (i := 17) (by kernel_rfl) (fun _ => rfl) fun xs hs r h => by
  obtain ⟨u0, u1, u2, u3, n, u4, n', i, u⟩ := xs
  obtain ⟨key, b, o, box, ks, t, u7⟩ := hs
  obtain ⟨h1, h2⟩ := Tr.chk_some h
  have := Tr.ret_some h2
  simp only [Bool.and_eq_true, decide_eq_true_eq] at h1
  obtain ⟨e1, e2, e3, e4⟩ := h1
  have e1 : i = (0 : Int) := e1
  subst e1
  have e2 : (0 : Int) ≤ n := e2
  have e3 : n < (10 : Int) := e3
  obtain ⟨x0, x1, x2, x3, x4, x5, x6, x7, x8, x9, xa, xb, xc, xd, xe, xf, rfl⟩ := len16 (show b.length = 16 from e4)
  refine ⟨17, iter_many (G := G46c) (fun xs hs r h => (r46c xs.2.2.2.2.1 xs.2.2.2.2.2.2.1 xs.2.2.2.2.2.2.2.1 hs.1 hs.2.1 hs.2.2.1 hs.2.2.2.1 hs.2.2.2.2.2.1 hs.2.2.2.2.1).trans h) 17 _ _ _ (Eq.trans ?_ (congrArg some this))⟩
  have hn := lt10 e2 e3
  rcases hn with rfl | rfl | rfl | rfl | rfl | rfl | rfl | rfl | rfl | rfl <;> (refine (?_ : _ = _); kernel_rfl)
theorem l46o : LoopOK Try.prog L46 b46o :=
 runLoop_ok (L' := L46i) C3_sound (loopsOK_all (fun b hb => by
  have : loopsOf b46o = [b46b, b46c] := by kernel_rfl
  rw [this] at hb
  simp only [List.mem_cons, List.not_mem_nil, or_false] at hb
  rcases hb with rfl | rfl
  ·exact l46b
  ·exact l46c)) (i := 8) (n := 11) (by kernel_rfl) (fun _ => rfl)
def roundE (ks : List (List Int)) (n : Nat) (b : List Int) : List Int := lineI n (subI boxL b) (rowOf ks (n + 1))
def encI (key b : List Int) : List Int :=
 let ks := keysI key
 roundE ks 9 (roundE ks 8 (roundE ks 7 (roundE ks 6 (roundE ks 5 (roundE ks 4 (roundE ks 3 (roundE ks 2 (roundE ks 1 (roundE ks 0 (xorF b (rowOf ks 0)))))))))))
def s46 : CSpec := .fn1 [t16, t16] t16 fun x => encI x.1 x.2.1
theorem ok46 : CSound Try.prog 145 s46 ∧ CLocal s46 :=
 fn_okL (L := L46) C3_sound Try.func145 (by kernel_rfl) (fun b hb => by
  have : loopsOf (bodyOf Try.f145) = [b46a, b46o] := by kernel_rfl
  rw [this] at hb
  simp only [List.mem_cons, List.not_mem_nil, or_false] at hb
  rcases hb with rfl | rfl
  ·exact l46a
  ·exact l46o) (fun xs hx => by
   obtain ⟨key, b, u⟩ := xs
   have h : b.length = 16 := hx.2.1.1
   obtain ⟨x0, x1, x2, x3, x4, x5, x6, x7, x8, x9, xa, xb, xc, xd, xe, xf, rfl⟩ := len16 h
   refine (?_ : _ = _)
   kernel_rfl) (fun xs _ => by kernel_rfl)
end Go.Proofs.Ytaffancdidgkhaa.Aes
end
section
set_option linter.unusedVariables false
set_option maxRecDepth 1000000
namespace Go.Proofs.Ytaffancdidgkhaa.Aes
open Go Vse Go.Proofs
noncomputable def b45 : Code := ((loopsOf (bodyOf Try.f149))[0]?).getD .skip
def S45 : LSpec := ⟨[2, 3, 4, 5, 6], [2, 4], 67, [pt 1, pt 2, pt 3, u8, i64], [.box t16, .box t11, .box t256, .box t11]⟩
noncomputable def A45 : Loops := autoL Try.prog (ctx C3) 17 b45
def G45 (xs : HL S45.Ts) (hs : HD S45.Es) : Tr S45.End :=
 let pw := xs.2.2.2.1
 let n := xs.2.2.2.2.1
 let box := hs.2.2.1
 let o := hs.2.2.2.1
 .ite (decide (n ≤ 10)) (.chk (inArr (w (n - 1)) 11) (.chk (inArr n 11) (.ret (.inl (((), (), (), timesR pw 2, w (n + 1), ()), (hs.1, hs.2.1, box, (o : List (List Int)).set n.toNat (nextRow box (rowOf o (w (n - 1)).toNat) pw), ()))))))
  (.ret (.inr (.exit 0, encS [2, 4] [pt 1, pt 3] S45.Es 67 ((), (), ()) hs)))
theorem r45 (pw n : Int) (key box : List Int) (ret o : List (List Int)) : (S45.round (bodyK Try.prog (ctx C3) A45 b45) ((), (), (), pw, n, ()) (key, ret, box, o, ())).eval =
  (G45 ((), (), (), pw, n, ()) (key, ret, box, o, ())).eval := by kernel_rfl
noncomputable def L45 : Loops := fun j st => if j = 6 then S45.fn (S45.iter G45 11) st else .fail
theorem l45 : LoopOK Try.prog L45 b45 :=
 iter_ok (L' := A45) C3_sound (autoL_ok C3_sound 17 b45 A45 (of_decide_eq_true (by kernel_rfl)) fun _ _ _ => rfl) S45 (by kernel_rfl) (G := G45) (n := 11) (i := 6) (by kernel_rfl) (fun _ => rfl)
  fun xs hs r h => (r45 xs.2.2.2.1 xs.2.2.2.2.1 hs.1 hs.2.2.1 hs.2.1 hs.2.2.2.1).trans h
def s45 : CSpec := .fn1 [t16] t11 fun x => keysI x.1
theorem ok45 : CSound Try.prog 149 s45 ∧ CLocal s45 :=
 fn_okL (L := L45) C3_sound Try.func149 (by kernel_rfl) (fun b hb => by
  have : loopsOf (bodyOf Try.f149) = [b45] := by kernel_rfl
  rw [this] at hb
  rw [List.mem_singleton.1 hb]
  exact l45) (fun xs _ => by kernel_rfl) (fun xs _ => by kernel_rfl)
end Go.Proofs.Ytaffancdidgkhaa.Aes
end
section
set_option linter.unusedVariables false
set_option maxRecDepth 1000000
namespace Go.Proofs.Ytaffancdidgkhaa.Aes
open Go Vse Go.Proofs
def C4 : List (Nat × CSpec) := (149, s45) :: C3
theorem C4_sound : CtxSound Try.prog (ctx C4) ∧ CtxLocal (ctx C4) := ctx_sound ⟨ok45, ok44, ok62, ok59, ok40, ok41, ok39, ok61, trivial⟩
noncomputable def b47 : Code := ((loopsOf (bodyOf Try.f123))[0]?).getD .skip
noncomputable def b47a : Code := ((loopsOf b47)[0]?).getD .skip
noncomputable def b47b : Code := ((loopsOf b47)[1]?).getD .skip
abbrev E47a : List ETy := [.box t16, .box t16, .box t16, .box t256, .box t11, .box t16, .box t16]
abbrev E47b : List ETy := [.box t16, .box t16, .box t16, .box t256, .box t11, .box t16, .box t16, .box t16]
def S47a : LSpec := ⟨[4, 5, 6, 7, 8, 9, 10], [4, 5, 6, 7, 8, 9], 110, [pt 2, pt 3, pt 4, pt 5, i64, pt 6, i64], E47a⟩
abbrev i4 (c r : Int) : Int := w (w (4 * c) + r)
abbrev j4 (c r : Int) : Int := w (w (4 * (w (c + r)).tmod 4) + r)
def turnAt (box b t : List Int) (c r : Int) : List Int := t.set (i4 c r).toNat (box.getD (b.getD (j4 c r).toNat 0).toNat 0)
def G47a (xs : HL S47a.Ts) (hs : HD S47a.Es) : Tr S47a.End :=
 let n := xs.2.2.2.2.1
 let c := xs.2.2.2.2.2.2.1
 let box := hs.2.2.2.1
 let b := hs.2.2.2.2.2.1
 let t := hs.2.2.2.2.2.2.1
 .ite (decide (c < 4)) (.chk (inArr (j4 c 0) 16) (.chk (inArr (i4 c 0) 16) (.chk (inArr (j4 c 1) 16) (.chk (inArr (i4 c 1) 16) (.chk (inArr (j4 c 2) 16) (.chk (inArr (i4 c 2) 16) (.chk (inArr (j4 c 3) 16) (.chk (inArr (i4 c 3) 16)
   (.ret (.inl (((), (), (), (), n, (), w (c + 1), ()), (hs.1, hs.2.1, hs.2.2.1, box, hs.2.2.2.2.1, b, turnAt box b (turnAt box b (turnAt box b (turnAt box b t c 0) c 1) c 2) c 3, ()))))))))))))
  (.ret (.inr (.exit 2, encS S47a.out [pt 2, pt 3, pt 4, pt 5, i64, pt 6] E47a 110 ((), (), (), (), n, (), ()) hs)))
noncomputable def A47a : Loops := autoL Try.prog (ctx C4) 5 b47a
theorem r47a (n c : Int) (key blk o box b t : List Int) (ks : List (List Int)) : (S47a.round (bodyK Try.prog (ctx C4) A47a b47a) ((), (), (), (), n, (), c, ()) (key, blk, o, box, ks, b, t, ())).eval =
  (G47a ((), (), (), (), n, (), c, ()) (key, blk, o, box, ks, b, t, ())).eval := by kernel_rfl
def S47b : LSpec := ⟨[4, 5, 6, 7, 8, 9, 12, 13], [4, 5, 6, 7, 8, 12], 110, [pt 2, pt 3, pt 4, pt 5, i64, pt 6, pt 7, i64], E47b⟩
abbrev k4 (c r k : Int) : Int := w (w (4 * c) + (w (r + k)).tmod 4)
def mixC (t m : List Int) (c r : Int) : List Int := m.set (i4 c r).toNat (xorI .u8 (xorI .u8 (xorI .u8 (timesR 2 (t.getD (i4 c r).toNat 0)) (timesR 3 (t.getD (k4 c r 1).toNat 0))) (t.getD (k4 c r 2).toNat 0)) (t.getD (k4 c r 3).toNat 0))
def chkC {α : Type} (c r : Int) (x : Tr α) : Tr α := .chk (inArr (i4 c r) 16) (.chk (inArr (k4 c r 1) 16) (.chk (inArr (k4 c r 2) 16) (.chk (inArr (k4 c r 3) 16) (.chk (inArr (i4 c r) 16) x))))
def G47b (xs : HL S47b.Ts) (hs : HD S47b.Es) : Tr S47b.End :=
 let n := xs.2.2.2.2.1
 let c := xs.2.2.2.2.2.2.2.1
 let t := hs.2.2.2.2.2.2.1
 let m := hs.2.2.2.2.2.2.2.1
 let E : Tr S47b.End := .ret (.inr (.exit 6, encS S47b.out [pt 2, pt 3, pt 4, pt 5, i64, pt 7] E47b 110 ((), (), (), (), n, (), ()) hs))
 .ite (decide (c < 4)) (.ite (decide (n < 10)) (chkC c 0 (chkC c 1 (chkC c 2 (chkC c 3
   (.ret (.inl (((), (), (), (), n, (), (), w (c + 1), ()), (hs.1, hs.2.1, hs.2.2.1, hs.2.2.2.1, hs.2.2.2.2.1, hs.2.2.2.2.2.1, t, mixC t (mixC t (mixC t (mixC t m c 0) c 1) c 2) c 3, ()))))))))
  E) E
noncomputable def A47b : Loops := autoL Try.prog (ctx C4) 5 b47b
theorem r47b (n c : Int) (key blk o box b t m : List Int) (ks : List (List Int)) : (S47b.round (bodyK Try.prog (ctx C4) A47b b47b) ((), (), (), (), n, (), (), c, ()) (key, blk, o, box, ks, b, t, m, ())).eval =
  (G47b ((), (), (), (), n, (), (), c, ()) (key, blk, o, box, ks, b, t, m, ())).eval := by kernel_rfl
end Go.Proofs.Ytaffancdidgkhaa.Aes
end
section
set_option linter.unusedVariables false
set_option maxRecDepth 1000000
namespace Go.Proofs.Ytaffancdidgkhaa.Aes
open Go Vse Go.Proofs
def mixR (t : List Int) : List Int := (List.range 16).map fun i => xorI .u8 (xorI .u8 (xorI .u8 (timesR 2 (t.getD i 0)) (timesR 3 (t.getD (i - i % 4 + (i + 1) % 4) 0))) (t.getD (i - i % 4 + (i + 2) % 4) 0)) (t.getD (i - i % 4 + (i + 3) % 4) 0)
def F47a (xs : HL S47a.Ts) (hs : HD S47a.Es) : Tr (Ex × St) :=
 .chk (decide (xs.2.2.2.2.2.2.1 = (0 : Int)) && decide ((hs.2.2.2.2.2.2.1 : List Int).length = 16))
  (.ret (.exit 2, encS S47a.out [pt 2, pt 3, pt 4, pt 5, i64, pt 6] E47a 110 ((), (), (), (), xs.2.2.2.2.1, (), ()) (hs.1, hs.2.1, hs.2.2.1, hs.2.2.2.1, hs.2.2.2.2.1, hs.2.2.2.2.2.1, subI hs.2.2.2.1 hs.2.2.2.2.2.1, ())))
def F47b (xs : HL S47b.Ts) (hs : HD S47b.Es) : Tr (Ex × St) :=
 .chk (decide (xs.2.2.2.2.2.2.2.1 = (0 : Int)) && (decide ((1 : Int) ≤ xs.2.2.2.2.1) && (decide (xs.2.2.2.2.1 ≤ (10 : Int)) && decide ((hs.2.2.2.2.2.2.2.1 : List Int).length = 16))))
  (.ret (.exit 6, encS S47b.out [pt 2, pt 3, pt 4, pt 5, i64, pt 7] E47b 110 ((), (), (), (), xs.2.2.2.2.1, (), ())
   (hs.1, hs.2.1, hs.2.2.1, hs.2.2.2.1, hs.2.2.2.2.1, hs.2.2.2.2.2.1, hs.2.2.2.2.2.2.1, (bif decide (xs.2.2.2.2.1 < (10 : Int)) then mixR hs.2.2.2.2.2.2.1 else hs.2.2.2.2.2.2.2.1), ())))
noncomputable def L47i : Loops := fun j st => if j = 9 then S47a.fn F47a st else if j = 17 then S47b.fn F47b st else .fail
noncomputable def L47 : Loops := fun j st => if j = 5 then runLoop Try.prog (ctx C4) L47i 11 b47 st else .fail
theorem l47a : LoopOK Try.prog L47i b47a :=
 loop_ok (L := L47i) (L' := A47a) C4_sound (autoL_ok C4_sound 5 b47a A47a (of_decide_eq_true (by kernel_rfl)) fun _ _ _ => rfl) S47a (by kernel_rfl) (F := F47a) (i := 9) (by kernel_rfl) (fun _ => rfl) fun xs hs r h => by
  obtain ⟨u0, u1, u2, u3, n, u4, c, u⟩ := xs
  obtain ⟨key, blk, o, box, ks, b, t, u7⟩ := hs
  obtain ⟨h1, h2⟩ := Tr.chk_some h
  have := Tr.ret_some h2
  simp only [Bool.and_eq_true, decide_eq_true_eq] at h1
  obtain ⟨e1, e2⟩ := h1
  have e1 : c = (0 : Int) := e1
  subst e1
  obtain ⟨x0, x1, x2, x3, x4, x5, x6, x7, x8, x9, xa, xb, xc, xd, xe, xf, rfl⟩ := len16 (show t.length = 16 from e2)
  refine ⟨17, iter_many (G := G47a) (fun xs hs r h => (r47a xs.2.2.2.2.1 xs.2.2.2.2.2.2.1 hs.1 hs.2.1 hs.2.2.1 hs.2.2.2.1 hs.2.2.2.2.2.1 hs.2.2.2.2.2.2.1 hs.2.2.2.2.1).trans h) 17 _ _ _ (Eq.trans ?_ (congrArg some this))⟩
  kernel_rfl
theorem le10 {n : Int} (h : 1 ≤ n) (h' : n ≤ 10) : n = 1 ∨ n = 2 ∨ n = 3 ∨ n = 4 ∨ n = 5 ∨ n = 6 ∨ n = 7 ∨ n = 8 ∨ n = 9 ∨ n = 10 := by omega
theorem l47b : LoopOK Try.prog L47i b47b :=
 loop_ok (L := L47i) (L' := A47b) C4_sound (autoL_ok C4_sound 5 b47b A47b (of_decide_eq_true (by kernel_rfl)) fun _ _ _ => rfl) S47b (by kernel_rfl) (F := F47b) (i := 17) (by kernel_rfl) (fun _ => rfl) fun xs hs r h => by
  obtain ⟨u0, u1, u2, u3, n, u4, u5, c, u⟩ := xs
  obtain ⟨key, blk, o, box, ks, b, t, m, u7⟩ := hs
  obtain ⟨h1, h2⟩ := Tr.chk_some h
  have := Tr.ret_some h2
  simp only [Bool.and_eq_true, decide_eq_true_eq] at h1
  obtain ⟨e1, e2, e3, e4⟩ := h1
  have e1 : c = (0 : Int) := e1
  subst e1
  have e2 : (1 : Int) ≤ n := e2
  have e3 : n ≤ (10 : Int) := e3
  obtain ⟨x0, x1, x2, x3, x4, x5, x6, x7, x8, x9, xa, xb, xc, xd, xe, xf, rfl⟩ := len16 (show m.length = 16 from e4)
  refine ⟨17, iter_many (G := G47b) (fun xs hs r h => (r47b xs.2.2.2.2.1 xs.2.2.2.2.2.2.2.1 hs.1 hs.2.1 hs.2.2.1 hs.2.2.2.1 hs.2.2.2.2.2.1 hs.2.2.2.2.2.2.1 hs.2.2.2.2.2.2.2.1 hs.2.2.2.2.1).trans h) 17 _ _ _ (Eq.trans ?_ (congrArg some this))⟩
  have hn := le10 e2 e3
  rcases hn with rfl | rfl | rfl | rfl | rfl | rfl | rfl | rfl | rfl | rfl <;> (refine (?_ : _ = _); kernel_rfl)
theorem l47 : LoopOK Try.prog L47 b47 :=
 runLoop_ok (L' := L47i) C4_sound (loopsOK_all (fun b hb => by
  have : loopsOf b47 = [b47a, b47b] := by kernel_rfl
  rw [this] at hb
  simp only [List.mem_cons, List.not_mem_nil, or_false] at hb
  rcases hb with rfl | rfl
  ·exact l47a
  ·exact l47b)) (i := 5) (n := 11) (by kernel_rfl) (fun _ => rfl)
def roundR (ks : List (List Int)) (n : Nat) (b : List Int) : List Int := xorF (bif decide ((n : Int) < 10) then mixR (subI boxL b) else subI boxL b) (rowOf ks n)
def encR (key b : List Int) : List Int :=
 let ks := keysI key
 roundR ks 10 (roundR ks 9 (roundR ks 8 (roundR ks 7 (roundR ks 6 (roundR ks 5 (roundR ks 4 (roundR ks 3 (roundR ks 2 (roundR ks 1 (xorF b (rowOf ks 0)))))))))))
def s47 : CSpec := .fn1 [t16, t16] t16 fun x => encR x.1 x.2.1
theorem ok47 : CSound Try.prog 123 s47 ∧ CLocal s47 :=
 fn_okL (L := L47) C4_sound Try.func123 (by kernel_rfl) (fun b hb => by
  have : loopsOf (bodyOf Try.f123) = [b47] := by kernel_rfl
  rw [this] at hb
  rw [List.mem_singleton.1 hb]
  exact l47) (fun xs hx => by kernel_rfl) (fun xs _ => by kernel_rfl)
end Go.Proofs.Ytaffancdidgkhaa.Aes
end
end
section
section
set_option linter.unusedVariables false
set_option maxRecDepth 1000000
namespace Go.Proofs.Ytaffancdidgkhaa.Aes
open Go Vse Go.Proofs
end Go.Proofs.Ytaffancdidgkhaa.Aes
end
section
set_option linter.unusedVariables false
set_option maxRecDepth 1000000
namespace Go.Proofs.Ytaffancdidgkhaa.Aes
open Go Vse Go.Proofs
def Blk (l : List Int) : Prop := l.length = 16 ∧ ∀ i, IsB (l.getD i 0)
theorem blk_map {f : Nat → Int} (h : ∀ i, i < 16 → IsB (f i)) : Blk ((List.range 16).map f) := by
 refine ⟨by simp, fun i => ?_⟩
 rw [List.getD_eq_getElem?_getD, List.getElem?_map]
 by_cases hi : i < 16
 ·rw [List.getElem?_range hi]; exact h i hi
 ·rw [List.getElem?_eq_none (by simpa using hi)]
  show IsB 0
  unfold IsB; omega
theorem map_get {f : Nat → Int} {i : Nat} (hi : i < 16) : ((List.range 16).map f).getD i 0 = f i := by
 rw [List.getD_eq_getElem?_getD, List.getElem?_map, List.getElem?_range hi]; rfl
theorem map_ext {f g : Nat → Int} (h : ∀ i, i < 16 → f i = g i) : (List.range 16).map f = (List.range 16).map g :=
 List.map_congr_left fun i hi => h i (List.mem_range.1 hi)
theorem xorB {x y : Int} (hx : IsB x) (hy : IsB y) : IsB (xorI .u8 x y) := by
 obtain ⟨a, rfl, ha⟩ := hx.nat
 obtain ⟨b, rfl, hb⟩ := hy.nat
 rw [xorI_u8 ha hb]
 exact isB_nat (xor_lt256 ha hb)
theorem xorF_map (a b : List Int) : xorF a b = (List.range 16).map fun i => xorI .u8 (a.getD i 0) (b.getD i 0) := by
 unfold xorF lX
 exact map_ext fun i hi => by rw [if_pos hi]
theorem xorF_blk {a b : List Int} (ha : Blk a) (hb : Blk b) : Blk (xorF a b) := by
 rw [xorF_map]
 exact blk_map fun i _ => xorB (ha.2 i) (hb.2 i)
theorem box_lt : ∀ n, n < 256 → IsB (boxL.getD n 0) := by
 have : ∀ n, n < 256 → 0 ≤ boxL.getD n 0 ∧ boxL.getD n 0 < 256 := by decide +kernel
 intro n hn
 have := this n hn
 unfold IsB; omega
theorem isB_nat_lt {x : Int} (h : IsB x) : x.toNat < 256 := by
 unfold IsB at h; omega
theorem subI_blk {b : List Int} (hb : Blk b) : Blk (subI boxL b) := blk_map fun i _ => box_lt _ (isB_nat_lt (hb.2 _))
def mixN (x y z q : Nat) : Nat := mulN 2 x ^^^ mulN 3 y ^^^ z ^^^ q
theorem mixN_lt {x y z q : Nat} (hz : z < 256) (hq : q < 256) : mixN x y z q < 256 :=
 xor_lt256 (xor_lt256 (xor_lt256 (mulN_lt (by decide)) (mulN_lt (by decide))) hz) hq
theorem twice_nat : ∀ x, x < 256 → twiceI (x : Nat) = (mulN 2 x : Nat) := by decide +kernel
theorem mul3 {y : Nat} (hy : y < 256) : mulN 3 y = mulN 2 y ^^^ y := by
 have := add_mul (a := 2) (d := 1) y (by decide) (by decide)
 rw [mul_one' y hy] at this
 exact this
theorem mixB_nat {x y z q : Nat} (hx : x < 256) (hy : y < 256) (hz : z < 256) (hq : q < 256) : mixB x y z q = (mixN x y z q : Nat) := by
 have h1 := xor_lt256 hx hy
 have h2 : mulN 2 (x ^^^ y) < 256 := mulN_lt (by decide)
 unfold mixB mixN
 rw [xorI_u8 hx hy, twice_nat _ h1, xorI_u8 h2 hy, xorI_u8 (xor_lt256 h2 hy) hz, xorI_u8 (xor_lt256 (xor_lt256 h2 hy) hz) hq, mul_add, mul3 hy, Nat.xor_assoc (mulN 2 x)]
theorem mixR_nat {x y z q : Nat} (hx : x < 256) (hy : y < 256) (hz : z < 256) (hq : q < 256) :
  xorI .u8 (xorI .u8 (xorI .u8 (timesR 2 x) (timesR 3 y)) z) q = (mixN x y z q : Nat) := by
 have h2 : mulN 2 x < 256 := mulN_lt (by decide)
 have h3 : mulN 3 y < 256 := mulN_lt (by decide)
 have e2 : timesR 2 x = (mulN 2 x : Nat) := timesR_nat (a := 2) (by decide) hx
 have e3 : timesR 3 y = (mulN 3 y : Nat) := timesR_nat (a := 3) (by decide) hy
 rw [e2, e3, xorI_u8 h2 h3, xorI_u8 (xor_lt256 h2 h3) hz, xorI_u8 (xor_lt256 (xor_lt256 h2 h3) hz) hq]
 rfl
theorem mix_same {x y z q : Int} (hx : IsB x) (hy : IsB y) (hz : IsB z) (hq : IsB q) : mixB x y z q = xorI .u8 (xorI .u8 (xorI .u8 (timesR 2 x) (timesR 3 y)) z) q := by
 obtain ⟨a, rfl, ha⟩ := hx.nat
 obtain ⟨b, rfl, hb⟩ := hy.nat
 obtain ⟨c, rfl, hc⟩ := hz.nat
 obtain ⟨d, rfl, hd⟩ := hq.nat
 rw [mixB_nat ha hb hc hd, mixR_nat ha hb hc hd]
theorem mixB_isB {x y z q : Int} (hx : IsB x) (hy : IsB y) (hz : IsB z) (hq : IsB q) : IsB (mixB x y z q) := by
 obtain ⟨a, rfl, ha⟩ := hx.nat
 obtain ⟨b, rfl, hb⟩ := hy.nat
 obtain ⟨c, rfl, hc⟩ := hz.nat
 obtain ⟨d, rfl, hd⟩ := hq.nat
 rw [mixB_nat ha hb hc hd]
 exact isB_nat (mixN_lt hc hd)
theorem mixI_mixR {t k : List Int} (ht : Blk t) (hk : Blk k) : mixI t k = xorF (mixR t) k := by
 rw [xorF_map]
 refine map_ext fun i hi => ?_
 show xorI .u8 (mixB _ _ _ _) _ = _
 rw [mix_same (ht.2 _) (ht.2 _) (ht.2 _) (ht.2 _)]
 congr 1
 exact (map_get (f := fun i => xorI .u8 (xorI .u8 (xorI .u8 (timesR 2 (t.getD i 0)) (timesR 3 (t.getD (i - i % 4 + (i + 1) % 4) 0))) (t.getD (i - i % 4 + (i + 2) % 4) 0)) (t.getD (i - i % 4 + (i + 3) % 4) 0)) hi).symm
theorem mixI_blk {t k : List Int} (ht : Blk t) (hk : Blk k) : Blk (mixI t k) := blk_map fun i _ => xorB (mixB_isB (ht.2 _) (ht.2 _) (ht.2 _) (ht.2 _)) (hk.2 i)
theorem turns : ∀ i, i < 16 → ∀ a, a < 4 → ∀ b, b < 4 → (i - i % 4 + (i + a) % 4) - (i - i % 4 + (i + a) % 4) % 4 + ((i - i % 4 + (i + a) % 4) + b) % 4 = i - i % 4 + (i + (a + b) % 4) % 4 := by decide +kernel
end Go.Proofs.Ytaffancdidgkhaa.Aes
end
section
set_option linter.unusedVariables false
set_option maxRecDepth 1000000
namespace Go.Proofs.Ytaffancdidgkhaa.Aes
open Go Vse Go.Proofs
theorem blk_mem {l : List Int} (h : l.length = 16) (hm : ∀ x ∈ l, IsB x) : Blk l := by
 refine ⟨h, fun i => ?_⟩
 rw [List.getD_eq_getElem?_getD]
 cases hx : l[i]? with
 | none => show IsB 0; unfold IsB; omega
 | some x => exact hm x (List.mem_of_getElem? hx)
theorem boxB {x : Int} (hx : IsB x) : IsB (boxL.getD x.toNat 0) := box_lt _ (isB_nat_lt hx)
theorem nextRow_blk {was : List Int} {pw : Int} (hw : Blk was) (hp : IsB pw) : Blk (nextRow boxL was pw) := by
 have f : ∀ i j, IsB (xorI .u8 (was.getD i 0) (boxL.getD (was.getD j 0).toNat 0)) := fun i j => xorB (hw.2 i) (boxB (hw.2 j))
 have a0 : IsB _ := xorB (f 0 13) hp
 have a4 := xorB (hw.2 4) a0
 have a5 := xorB (hw.2 5) (f 1 14)
 have a6 := xorB (hw.2 6) (f 2 15)
 have a7 := xorB (hw.2 7) (f 3 12)
 have a8 := xorB (hw.2 8) a4
 have a9 := xorB (hw.2 9) a5
 have aa := xorB (hw.2 10) a6
 have ab := xorB (hw.2 11) a7
 have ac := xorB (hw.2 12) a8
 have ad := xorB (hw.2 13) a9
 have ae := xorB (hw.2 14) aa
 have af := xorB (hw.2 15) ab
 refine blk_mem rfl fun x hx => ?_
 simp only [nextRow, List.mem_cons, List.not_mem_nil, or_false] at hx
 rcases hx with rfl | rfl | rfl | rfl | rfl | rfl | rfl | rfl | rfl | rfl | rfl | rfl | rfl | rfl | rfl | rfl
 ·exact a0
 ·exact f 1 14
 ·exact f 2 15
 ·exact f 3 12
 all_goals assumption
theorem isB_lit {n : Nat} (h : n < 256) : IsB (n : Int) := isB_nat h
theorem keys_blk {key : List Int} (hk : Blk key) : ∀ i, i < 11 → Blk (rowOf (keysI key) i) := by
 have r1 := nextRow_blk hk (isB_lit (n := 1) (by decide))
 have r2 := nextRow_blk r1 (isB_lit (n := 2) (by decide))
 have r3 := nextRow_blk r2 (isB_lit (n := 4) (by decide))
 have r4 := nextRow_blk r3 (isB_lit (n := 8) (by decide))
 have r5 := nextRow_blk r4 (isB_lit (n := 16) (by decide))
 have r6 := nextRow_blk r5 (isB_lit (n := 32) (by decide))
 have r7 := nextRow_blk r6 (isB_lit (n := 64) (by decide))
 have r8 := nextRow_blk r7 (isB_lit (n := 128) (by decide))
 have r9 := nextRow_blk r8 (isB_lit (n := 27) (by decide))
 have r10 := nextRow_blk r9 (isB_lit (n := 54) (by decide))
 intro i hi
 match i, hi with
 | 0, _ => exact hk
 | 1, _ => exact r1
 | 2, _ => exact r2
 | 3, _ => exact r3
 | 4, _ => exact r4
 | 5, _ => exact r5
 | 6, _ => exact r6
 | 7, _ => exact r7
 | 8, _ => exact r8
 | 9, _ => exact r9
 | 10, _ => exact r10
 | i + 11, h => omega
theorem roundE_blk {ks : List (List Int)} (hk : ∀ i, i < 11 → Blk (rowOf ks i)) {n : Nat} (hn : n < 10) {b : List Int} (hb : Blk b) : Blk (roundE ks n b) := by
 unfold roundE lineI
 cases decide ((n : Int) < 9)
 ·exact xorF_blk (subI_blk hb) (hk _ (by omega))
 ·exact mixI_blk (subI_blk hb) (hk _ (by omega))
def encN (ks : List (List Int)) (b : List Int) : Nat → List Int
 | 0 => xorF b (rowOf ks 0)
 | n + 1 => roundE ks n (encN ks b n)
theorem encI_N (key b : List Int) : encI key b = encN (keysI key) b 10 := rfl
theorem encN_blk {ks : List (List Int)} (hk : ∀ i, i < 11 → Blk (rowOf ks i)) {b : List Int} (hb : Blk b) : ∀ n, n ≤ 10 → Blk (encN ks b n)
 | 0, _ => xorF_blk hb (hk 0 (by decide))
 | n + 1, h => roundE_blk hk (by omega) (encN_blk hk hb n (by omega))
theorem round_same {ks : List (List Int)} (hk : ∀ i, i < 11 → Blk (rowOf ks i)) {n : Nat} (hn : n < 10) {b : List Int} (hb : Blk b) : roundE ks n b = roundR ks (n + 1) b := by
 unfold roundE roundR lineI
 rw [show decide (((n + 1 : Nat) : Int) < 10) = decide ((n : Int) < 9) from decide_eq_decide.2 (by omega)]
 cases decide ((n : Int) < 9)
 ·rfl
 ·exact mixI_mixR (subI_blk hb) (hk _ (by omega))
theorem enc_same {key b : List Int} (hk : Blk key) (hb : Blk b) : encI key b = encR key b := by
 have hks := keys_blk hk
 have s : ∀ n, n < 10 → encN (keysI key) b (n + 1) = roundR (keysI key) (n + 1) (encN (keysI key) b n) := fun n hn => round_same hks hn (encN_blk hks hb n (by omega))
 rw [encI_N, s 9 (by decide), s 8 (by decide), s 7 (by decide), s 6 (by decide), s 5 (by decide), s 4 (by decide), s 3 (by decide), s 2 (by decide), s 1 (by decide), s 0 (by decide)]
 rfl
end Go.Proofs.Ytaffancdidgkhaa.Aes
end
end
section
section
set_option linter.unusedVariables false
set_option maxRecDepth 100000
namespace Go.Proofs.Ytaffancdidgkhaa.Ctr
open Go Vse Go.Proofs Gen
structure Start (g0 : G) (o : Loop) : Prop where
 ds : g0.ext.2 = []
 h0 : ∀ t, isY (g0.sh t) SL.E0[t]?
 b4 : ∃ s, g0.sh 4 = .box s
 b5 : ∃ s, g0.sh 5 = .box s
 ps : o.params = #[15]
 asg : o.assign = asgF
 bdy : o.body = bdyF
 tm : o.tmps.size = 32
 h5 : VRep g0 (.v (.ptr 2 []) ()) (o.tmps.getD 5 undef)
 h7 : VRep g0 (.v (.ptr 3 []) ()) (o.tmps.getD 7 undef)
theorem yieldR {g0 g : G} {k a b k' a' out : List Int} {w : World} {l r : Nat} {o : Loop} {e : List Int} {j x : Int} {act : Act} {Q : Exit → Act → World → Prop}
  (hS : Start g0 o) (hg : Going g0 g (hL k a b k' a' out) w l r o) (ho : o.state = .ready) (he : EnvRep g (e3 l e j x) act) (hd : act.defers = []) (hin : out.length < b.length) (hsm : b.length ≤ 1000000)
  (hmore : (out ++ [flipB x b out]).length ≠ b.length → ∀ g4 act' w', Going g0 g4 (hL k a b k' a' (out ++ [flipB x b out])) w' l r { o with state := .ready, pending := none } → EnvRep g4 (e7 l e j false) act' → act'.defers = [] → Q .normal act' w')
  (hlast : (out ++ [flipB x b out]).length = b.length → ∀ g4 act' w', Going g0 g4 (hL k a b k' a' (out ++ [flipB x b out])) w' l r { o with state := .done, pending := some (.exit 0) } → EnvRep g4 (e7 l e j true) act' → act'.defers = [] → Q .normal act' w') :
  R3.wpIn (FW none) 0 Try.prog Q act w := by
 refine yield_call hg hS.ps he hd fun g2 a2 w2 hg2 he2 hd2 => ?_
 rw [hS.asg, hS.bdy]
 have hx : inK .u8 x = true := by
  have := (VRep_v (T := u8) (x := x) (by simp)).1 (he2.2 13)
  simp only [TRep, Ty.agg, Ty.sk, Sk.agg, Bool.false_eq_true, if_false, Rep, List.cons.injEq, and_true] at this
  exact this.2
 have hc := leD_c hg2.le
 refine yield_round hg2 hS.ds ho hS.h0 (eW_rep hS.tm (VRep_monoC hc hS.h5) (VRep_monoC hc hS.h7) hx) hin hsm (fun hne g3 w' hg3 => ?_) (fun heq g3 w' hg3 => ?_)
 ·exact yield_back (t := true) hg2 hg3 hS.b4 hS.b5 he2 hd2 (hmore hne)
 ·exact yield_back (t := false) hg2 hg3 hS.b4 hS.b5 he2 hd2 (hlast heq)
end Go.Proofs.Ytaffancdidgkhaa.Ctr
end
section
set_option linter.unusedVariables false
set_option maxRecDepth 100000
namespace Go.Proofs.Ytaffancdidgkhaa.Ctr
open Go Vse Go.Proofs Gen
theorem pc_piece {E : En} {N : Nx} (hC : CtxSound Try.prog (CI E N) ∧ CtxLocal (CI E N)) {c : Code} (hl : LoopsOK Try.prog L0 c) {live : List Nat} {env env' : List AV} {H H' : Heap} {x : Ex} (hp : (pc E N c live env H).eval = some (x, env', H'))
  {g0 g : G} {w : World} {l r : Nat} {o : Loop} {a : Act} {Q : Exit → Act → World → Prop} (hg : Going g0 g H w l r o) (he : EnvRep g env a) (hd : a.defers = [])
  (hn : ∀ g' a' w', Going g0 g' H' w' l r o → EnvRep g' env' a' → a'.defers = [] → Q x.out a' w') : c.wpIn (FW none) 0 Try.prog Q a w := by
 obtain ⟨⟨y, st⟩, q1, q2⟩ := Tr.bind_some hp
 have q2 := Tr.ret_some q2
 simp only [Prod.mk.injEq] at q2
 obtain ⟨rfl, q3, rfl⟩ := q2
 refine Going.piece hC hl hg he hd q1 fun g' a' w' hg' hD he' hd' => hn g' a' w' hg' ?_ hd'
 rw [← q3]
 exact keepE_rep he' live
end Go.Proofs.Ytaffancdidgkhaa.Ctr
end
section
set_option linter.unusedVariables false
set_option maxRecDepth 100000
namespace Go.Proofs.Ytaffancdidgkhaa.Ctr
open Go Vse Go.Proofs Gen
def outs (e b out : List Int) : Nat → List Int
 | 0 => out
 | n + 1 => outs e b out n ++ [flipB (e.getD n 0) b (outs e b out n)]
theorem outs_len (e b out : List Int) : ∀ n, (outs e b out n).length = out.length + n
 | 0 => rfl
 | n + 1 => by rw [outs, List.length_append, outs_len e b out n, List.length_singleton]; omega
theorem rec_same {o : Loop} (h1 : o.state = .ready) (h2 : o.pending = none) : { o with state := .ready, pending := none } = o := by
 cases o
 simp only at h1 h2
 subst h1; subst h2
 rfl
end Go.Proofs.Ytaffancdidgkhaa.Ctr
end
section
set_option linter.unusedVariables false
set_option maxRecDepth 100000
namespace Go.Proofs.Ytaffancdidgkhaa.Ctr
open Go Vse Go.Proofs Gen
theorem inner {E : En} {N : Nx} (hC : CtxSound Try.prog (CI E N) ∧ CtxLocal (CI E N)) {g0 : G} {l r : Nat} {o : Loop} (hS : Start g0 o) (ho : o.state = .ready) (hpn : o.pending = none) {k a b k' a' out e : List Int} (hsm : b.length ≤ 1000000)
  {Q : Exit → Act → World → Prop}
  (hend : ∀ g act w, Going g0 g (hL k a b k' a' (outs e b out 16)) w l r o → EnvRep g (e1 l e 16) act → act.defers = [] → (outs e b out 16).length < b.length → Q (.exit 2) act w)
  (hret : ∀ j : Nat, j < 16 → (outs e b out (j + 1)).length = b.length → ∀ g act w, Going g0 g (hL k a b k' a' (outs e b out (j + 1))) w l r { o with state := .done, pending := some (.exit 0) } → act.defers = [] → Q .ret act w)
  {g : G} {act : Act} {w : World} (hg : Going g0 g (hL k a b k' a' out) w l r o) (he : EnvRep g (e1 l e 0) act) (hd : act.defers = []) (hin : out.length < b.length) : (Code.loop cB).wpIn (FW none) 0 Try.prog Q act w := by
 refine wpIn_loop_ghost (fun n act w => ∃ (j : Nat) (g : G), j ≤ 16 ∧ n = 16 - j ∧ Going g0 g (hL k a b k' a' (outs e b out j)) w l r o ∧ EnvRep g (e1 l e (j : Int)) act ∧ act.defers = [] ∧ (outs e b out j).length < b.length) 16
  ⟨0, g, by omega, by omega, hg, he, hd, hin⟩ ?_
 rintro n act w ⟨j, g, hj, rfl, hg, he, hd, hin⟩
 rw [cB_shape]
 refine wpIn_seq (pc_piece hC (loopsOK_of (by kernel_rfl)) (p1 l E N e (j : Int) k a b k' a' (outs e b out j)) hg he hd fun g1 a1 w1 hg1 he1 hd1 => ?_)
 simp only [Ex.out, Exit.then]
 by_cases h16 : j < 16
 ·rw [decide_eq_true (show (j : Int) < 16 by omega)] at he1
  refine wpIn_seq (pc_piece hC (loopsOK_of (by kernel_rfl)) (pD l E N e (j : Int) true k a b k' a' (outs e b out j)) hg1 he1 hd1 fun g2 a2 w2 hg2 he2 hd2 => ?_)
  simp only [Ex.out, Exit.then]
  refine wpIn_seq (wpIn_block ?_)
  have hp2 : (pc E N R2 [0, 1, 2, 5, 8, 9] (e1 l e (j : Int)) (hL k a b k' a' (outs e b out j))).eval = some (.normal, e3 l e (j : Int) (e.getD j 0), hL k a b k' a' (outs e b out j)) := by
   refine (p2 l E N e (j : Int) k a b k' a' (outs e b out j)).trans ((chk_eval (inArrK64 (by omega) (by omega) (by omega)) _).trans ?_)
   rw [Int.toNat_natCast]
   rfl
  refine wpIn_seq (pc_piece hC (loopsOK_of (by kernel_rfl)) hp2 hg2 he2 hd2 fun g3 a3 w3 hg3 he3 hd3 => ?_)
  simp only [Ex.out, Exit.then]
  refine wpIn_seq (yieldR hS hg3 ho he3 hd3 hin hsm (fun hne g4 a4 w4 hg4 he4 hd4 => ?_) (fun heq g4 a4 w4 hg4 he4 hd4 => ?_))
  ·simp only [Exit.then]
   rw [rec_same ho hpn] at hg4
   rw [CR_shape]
   have hv : a4.eval (.tmp 15) = .bool false := by
    have := (VRep_v (T := .bool) (x := false) (by simp)).1 (he4.2 15)
    rw [TRep_bool] at this
    exact this
   refine wpIn_cond_false hv (wpIn_skip ?_)
   simp only [Exit.inBlock, Exit.then]
   have he5 : EnvRep g4 (e1 l e (j : Int)) a4 := keepE_rep he4 [0, 1, 2, 8, 9]
   refine pc_piece hC (loopsOK_of (by kernel_rfl)) (p4 l E N e (j : Int) k a b k' a' (outs e b out (j + 1))) hg4 he5 hd4 fun g5 a5 w5 hg5 he6 hd5 => ?_
   simp only [Ex.out, Exit.then]
   have hw : Gen.w ((j : Int) + 1) = ((j + 1 : Nat) : Int) := (w_id (by omega) (by omega)).trans (by omega)
   rw [hw] at he6
   refine ⟨16 - (j + 1), by omega, j + 1, g5, by omega, rfl, hg5, he6, hd5, ?_⟩
   have hl := outs_len e b out (j + 1)
   have hl2 := outs_len e b out j
   have hne : (outs e b out (j + 1)).length ≠ b.length := hne
   omega
  ·simp only [Exit.then]
   rw [CR_shape]
   have hv : a4.eval (.tmp 15) = .bool true := by
    have := (VRep_v (T := .bool) (x := true) (by simp)).1 (he4.2 15)
    rw [TRep_bool] at this
    exact this
   refine wpIn_cond_true hv (wpIn_ret ?_)
   simp only [Exit.inBlock, Exit.then]
   exact hret j h16 heq g4 a4 w4 hg4 hd4
 ·have h16 : j = 16 := by omega
  subst h16
  rw [decide_eq_false (show ¬ ((16 : Nat) : Int) < 16 by omega)] at he1
  refine wpIn_seq (pc_piece hC (loopsOK_of (by kernel_rfl)) (pD l E N e ((16 : Nat) : Int) false k a b k' a' (outs e b out 16)) hg1 he1 hd1 fun g2 a2 w2 hg2 he2 hd2 => ?_)
  simp only [Ex.out, Exit.then]
  exact hend g2 a2 w2 hg2 he2 hd2 hin
end Go.Proofs.Ytaffancdidgkhaa.Ctr
end
section
set_option linter.unusedVariables false
set_option maxRecDepth 100000
namespace Go.Proofs.Ytaffancdidgkhaa.Ctr
open Go Vse Go.Proofs Gen
def atB (N : Nx) (a : List Int) : Nat → List Int
 | 0 => a
 | q + 1 => N (atB N a q) 1
def outB (E : En) (N : Nx) (k a b : List Int) : Nat → List Int
 | 0 => []
 | q + 1 => outs (E k (atB N a q)) b (outB E N k a b q) 16
theorem outB_len (E : En) (N : Nx) (k a b : List Int) : ∀ q, (outB E N k a b q).length = 16 * q
 | 0 => rfl
 | q + 1 => by rw [outB, outs_len, outB_len E N k a b q]; omega
theorem outer {E : En} {N : Nx} (hC : CtxSound Try.prog (CI E N) ∧ CtxLocal (CI E N)) {g0 : G} {l r : Nat} {o : Loop} (hS : Start g0 o) (ho : o.state = .ready) (hpn : o.pending = none) {k a b k' a' : List Int} (hsm : b.length ≤ 1000000)
  {Q : Exit → Act → World → Prop}
  (hret : ∀ q j : Nat, j < 16 → (outs (E k' (atB N a' q)) b (outB E N k' a' b q) (j + 1)).length = b.length → ∀ g act w, Going g0 g (hL k a b k' (atB N a' q) (outs (E k' (atB N a' q)) b (outB E N k' a' b q) (j + 1))) w l r { o with state := .done, pending := some (.exit 0) } → act.defers = [] → Q .ret act w)
  {g : G} {act : Act} {w : World} (hg : Going g0 g (hL k a b k' a' []) w l r o) (he : EnvRep g (e0 l) act) (hd : act.defers = []) (hin : 0 < b.length) : cI.wpIn (FW none) 0 Try.prog Q act w := by
 rw [cI_shape]
 refine wpIn_block ?_
 refine wpIn_loop_ghost (fun n act w => ∃ (q : Nat) (g : G), n = b.length - 16 * q ∧ Going g0 g (hL k a b k' (atB N a' q) (outB E N k' a' b q)) w l r o ∧ EnvRep g (e0 l) act ∧ act.defers = [] ∧ 16 * q < b.length) b.length
  ⟨0, g, by omega, hg, he, hd, by omega⟩ ?_
 rintro n act w ⟨q, g, rfl, hg, he, hd, hin⟩
 have hl := outB_len E N k' a' b q
 refine wpIn_block (wpIn_seq (wpIn_seq (pc_piece hC (loopsOK_of (by kernel_rfl)) (p0 l E N k a b k' (atB N a' q) (outB E N k' a' b q)) hg he hd fun g1 a1 w1 hg1 he1 hd1 => ?_)))
 simp only [Ex.out, Exit.then]
 refine wpIn_block (inner hC hS ho hpn hsm (fun g2 a2 w2 hg2 he2 hd2 hlt => ?_) (fun j hj heq g2 a2 w2 hg2 hd2 => ?_) hg1 he1 hd1 (by omega))
 ·simp only [Exit.inBlock, if_true, Exit.then]
  refine pc_piece hC (loopsOK_of (by kernel_rfl)) (p5 l E N (E k' (atB N a' q)) 16 k a b k' (atB N a' q) (outB E N k' a' b (q + 1))) hg2 he2 hd2 fun g3 a3 w3 hg3 he3 hd3 => ?_
  simp only [Ex.out, Exit.inBlock, Exit.then]
  have hl2 : (outs (E k' (atB N a' q)) b (outB E N k' a' b q) 16).length = 16 * q + 16 := by rw [outs_len, hl]
  exact ⟨b.length - 16 * (q + 1), by omega, q + 1, g3, rfl, hg3, he3, hd3, by omega⟩
 ·simp only [Exit.inBlock, Exit.then]
  exact hret q j hj heq g2 a2 w2 hg2 hd2
end Go.Proofs.Ytaffancdidgkhaa.Ctr
end
section
set_option linter.unusedVariables false
set_option maxRecDepth 100000
namespace Go.Proofs.Ytaffancdidgkhaa.Ctr
open Go Vse Go.Proofs Gen
theorem made_calls {E : En} {N : Nx} (hC : CtxSound Try.prog (CI E N) ∧ CtxLocal (CI E N)) {g0 g : G} {l r : Nat} {o : Loop} (hS : Start g0 o) (ho : o.state = .ready) (hpn : o.pending = none) {k a b k' a' : List Int} (hsm : b.length ≤ 1000000) (hin : 0 < b.length)
  {w : World} {v1 v2 : Value} (hg : Going g0 g (hL k a b k' a' []) w l r o) (h1 : VRep g (.v (.ptr 4 []) ()) v1) (h2 : VRep g (.v (.ptr 5 []) ()) v2) {R : Ending → World → Prop}
  (hret : ∀ q j : Nat, j < 16 → (outs (E k' (atB N a' q)) b (outB E N k' a' b q) (j + 1)).length = b.length → ∀ g w v, Going g0 g (hL k a b k' (atB N a' q) (outs (E k' (atB N a' q)) b (outB E N k' a' b q) (j + 1))) w l r { o with state := .done, pending := some (.exit 0) } → R (.returned v) w) :
  CallsIn (FW none) 0 Try.prog kM #[.func (.yield l) #[] #[], v1, v2] w R := by
 refine callsIn_of_wp (F := FW none) (c := cI) Try.func144 (by kernel_rfl) trivial ?_
 refine outer hC hS ho hpn hsm (fun q j hj heq g2 a2 w2 hg2 hd2 => ?_) hg ?_ rfl hin
 ·refine ⟨hd2, .tuple #[], ?_, hret q j hj heq g2 w2 _ hg2⟩
  have : (Try.f144).results = #[] := by kernel_rfl
  simp [results, this]
 ·have hnt : (Try.f144).ntmps = 19 := by kernel_rfl
  rw [hnt]
  have htm : (#[.func (.yield l) #[] #[], v1, v2] : Array Value) ++ Array.replicate (19 - (#[.func (.yield l) #[] #[], v1, v2] : Array Value).size) undef = (Value.func (.yield l) #[] #[] :: v1 :: v2 :: List.replicate 16 undef).toArray := by
   apply Array.ext'
   simp
  rw [htm]
  have harg : argsRep g (e0 l) (Value.func (.yield l) #[] #[] :: v1 :: v2 :: List.replicate 16 undef) := by
   refine ⟨_, _, rfl, (VRep_v (T := .it l) (x := ()) (by simp)).2 (by simp only [TRep, Ty.agg, Ty.sk, Sk.agg, Bool.false_eq_true, if_false, Rep]), ⟨_, _, rfl, h1, ⟨_, _, rfl, h2, ?_⟩⟩⟩
   have : ∀ n, argsRep g (List.replicate n AV.und) (List.replicate n undef) := by
    intro n
    induction n with
    | zero => rfl
    | succ n ih => exact ⟨_, _, rfl, trivial, ih⟩
   exact this 16
  refine ⟨rfl, fun i => ?_⟩
  have := argsRep_get harg i
  simpa [Array.getD_eq_getD_getElem?, List.getD_eq_getElem?_getD] using this
end Go.Proofs.Ytaffancdidgkhaa.Ctr
end
section
set_option linter.unusedVariables false
set_option maxRecDepth 100000
namespace Go.Proofs.Ytaffancdidgkhaa.Ctr
open Go Vse Go.Proofs Gen
def laid2 (w : World) (o : Loop) : World := (w.alloc (.deferred (some []))).alloc (.loop o)
theorem laid2_old (w : World) (o : Loop) {b : Nat} (h : b < w.heap.size) : (laid2 w o).heap[b]? = w.heap[b]? := by
 show ((w.heap.push _).push _)[b]? = _
 rw [Array.getElem?_push_lt (by rw [Array.size_push]; omega), Array.getElem_push_lt h, Array.getElem?_eq_getElem h]
theorem laid2_r (w : World) (o : Loop) : (laid2 w o).heap[w.heap.size]? = some (.deferred (some [])) := by
 show ((w.heap.push _).push _)[w.heap.size]? = _
 rw [Array.getElem?_push_lt (by rw [Array.size_push]; omega)]
 simp
theorem laid2_l (w : World) (o : Loop) : (laid2 w o).heap[w.heap.size + 1]? = some (.loop o) := by
 have := World.alloc_heap_new (w.alloc (.deferred (some []))) (.loop o)
 have hs : (w.alloc (.deferred (some []))).heap.size = w.heap.size + 1 := by show (w.heap.push _).size = _; rw [Array.size_push]
 rw [hs] at this
 exact this
theorem lt_of_some {w : World} {b : Nat} {ob : Obj} (h : w.heap[b]? = some ob) : b < w.heap.size := (Array.getElem?_eq_some_iff.1 h).1
theorem begin_going {g : G} {H : Heap} {w : World} (h : HInv g H w) (o : Loop) : Going { g with ext := (g.ext.1, []) } { g with ext := (g.ext.1, []) } H (laid2 w o) (w.heap.size + 1) w.heap.size o := by
 have hold : ∀ b ob, w.heap[b]? = some ob → (laid2 w o).heap[b]? = some ob := fun b ob hb => by rw [laid2_old w o (lt_of_some hb)]; exact hb
 have n1 : g.gr (w.heap.size + 1) = none := by
  cases hg : g.gr (w.heap.size + 1) with
  | none => rfl
  | some ob => have := lt_of_some (h.gr _ _ hg); omega
 have n2 : g.gr w.heap.size = none := by
  cases hg : g.gr w.heap.size with
  | none => rfl
  | some ob => have := lt_of_some (h.gr _ _ hg); omega
 refine ⟨G.leD.refl _, rfl, ⟨h.sh, fun b ob hb => hold b ob (h.fr b ob hb), fun b ob hb => ?_, fun e => ?_, fun e b hl hb => ?_, fun b ob ob' hb hb' => ?_, h.dis, h.ext⟩, n1, n2, by omega⟩
 ·simp only [G.lenl] at hb
  split at hb
  ·rename_i hbl
   cases hb
   rw [hbl]
   exact laid2_l w o
  ·split at hb
   ·rename_i hbr
    cases hb
    rw [hbr]
    exact laid2_r w o
   ·exact hold b ob (h.gr b ob hb)
 ·have hc : g.leC (({ g with ext := (g.ext.1, []) } : G).lenl (w.heap.size + 1) w.heap.size o) := by
   refine ⟨fun b _ _ _ hb => hb, fun b cs t fz hb => ?_, fun e => .same rfl rfl rfl⟩
   have h1 : b ≠ w.heap.size + 1 := by rintro rfl; rw [n1] at hb; cases hb
   have h2 : b ≠ w.heap.size := by rintro rfl; rw [n2] at hb; cases hb
   simp only [G.lenl, if_neg h1, if_neg h2]
   exact hb
  exact ERep_world (fun b _ ob ho => hold b ob ho) (ERep_monoC hc (e := e) rfl rfl (h.ent e))
 ·obtain ⟨h1, h2⟩ := h.own e b hl hb
  obtain ⟨ob, hh⟩ := h.there hl hb
  have hlt := lt_of_some hh
  refine ⟨h1, ?_⟩
  simp only [G.lenl]
  rw [if_neg (by omega), if_neg (by omega)]
  exact h2
 ·have hlt := lt_of_some (h.fr b ob hb)
  simp only [G.lenl] at hb'
  rw [if_neg (by omega), if_neg (by omega)] at hb'
  exact h.sep b ob ob' hb hb'
end Go.Proofs.Ytaffancdidgkhaa.Ctr
end
section
set_option linter.unusedVariables false
set_option maxRecDepth 100000
namespace Go.Proofs.Ytaffancdidgkhaa.Ctr
open Go Vse Go.Proofs Gen
def G.past (g g4 : G) (r : Nat) : G := { g4 with
 fr := fun b => if b = r then some (.deferred (some [])) else g4.fr b
 gr := g.gr
 ext := (g4.ext.1, mkD r :: g.ext.2) }
theorem end_going {g g4 : G} {H H4 : Heap} {w w4 : World} {l r : Nat} {o : Loop} (h : HInv g H w) (hr : w.heap.size ≤ r) (hl : w.heap.size ≤ l) (hm : Marks g g.ext.2) (h4 : Going { g with ext := (g.ext.1, []) } g4 H4 w4 l r o) :
  g.leD (G.past g g4 r) ∧ HInv (G.past g g4 r) H4 w4 ∧ Marks (G.past g g4 r) (G.past g g4 r).ext.2 ∧ g4.leC (G.past g g4 r) := by
 have hgr : g4.gr = g.gr := h4.le.gr
 have hrow : (g4.lenl l r o).gr r = some (.deferred (some [])) := by
  simp only [G.lenl]
  rw [if_neg (fun hh => h4.new.2.2 hh.symm)]
  rfl
 have hfr : g4.fr r = none := by
  cases hf : g4.fr r with
  | none => rfl
  | some ob => exact (h4.inv.sep r _ _ hf hrow).elim
 have hnr : ∀ b ob, g.fr b = some ob → b ≠ r := fun b ob hb => by have := lt_of_some (h.fr b ob hb); omega
 have hgg : ∀ b ob, g.gr b = some ob → b ≠ r ∧ b ≠ l := fun b ob hb => by have := lt_of_some (h.gr b ob hb); omega
 have hlen : ∀ b ob, g.gr b = some ob → (g4.lenl l r o).gr b = some ob := fun b ob hb => by
  obtain ⟨n1, n2⟩ := hgg b ob hb
  simp only [G.lenl]
  rw [if_neg n2, if_neg n1, hgr]
  exact hb
 have hc : g4.leC (G.past g g4 r) := by
  refine ⟨fun b cs t fz hb => ?_, fun b cs t fz hb => by show g.gr b = _; rw [← hgr]; exact hb, fun e => .same rfl rfl rfl⟩
  have hne : b ≠ r := by rintro rfl; rw [hfr] at hb; cases hb
  simp only [G.past, if_neg hne]
  exact hb
 have hcl : (g4.lenl l r o).leC (G.past g g4 r) := by
  refine ⟨hc.fr, fun b cs t fz hb => ?_, fun e => .same rfl rfl rfl⟩
  exact hc.gr b cs t fz ((lenl_c g4 l r o).gr b cs t fz hb)
 refine ⟨⟨fun b ob hb => ?_, rfl, h4.le.ext, fun e => ?_⟩, ⟨h4.inv.sh, fun b ob hb => ?_, fun b ob hb => h4.inv.gr b ob (hlen b ob hb), fun e => ERep_monoC hcl (e := e) rfl rfl (h4.inv.ent e), fun e b hlv hb => ?_, fun b ob ob' hb hb' => ?_, h4.inv.dis, h4.inv.ext⟩, ?_, hc⟩
 ·simp only [G.past, if_neg (hnr b ob hb)]
  exact h4.le.fr b ob hb
 ·cases h4.le.ent e with
  | same a b c => exact .same a b c
  | dead a => exact .dead a
  | grew a b c => exact .grew a b c
  | new a => exact .new a
 ·simp only [G.past] at hb
  split at hb
  ·rename_i hbr
   cases hb
   rw [hbr]
   exact h4.inv.gr r _ hrow
  ·exact h4.inv.fr b ob hb
 ·obtain ⟨h1, h2⟩ := h4.inv.own e b hlv hb
  have hne : b ≠ r := by rintro rfl; rw [hrow] at h2; cases h2
  refine ⟨by simp only [G.past, if_neg hne]; exact h1, ?_⟩
  show g.gr b = none
  cases hg : g.gr b with
  | none => rfl
  | some ob => rw [hlen b ob hg] at h2; cases h2
 ·have hb' : g.gr b = some ob' := hb'
  simp only [G.past, if_neg (hgg b ob' hb').1] at hb
  exact h4.inv.sep b ob ob' hb (hlen b ob' hb')
 ·obtain ⟨rs, m1, m2, m3⟩ := hm
  refine ⟨r :: rs, by show mkD r :: g.ext.2 = _; rw [m1]; rfl, List.nodup_cons.2 ⟨fun hh => hnr r _ (m3 r hh) rfl, m2⟩, fun r' hr' => ?_⟩
  rcases List.mem_cons.1 hr' with rfl | hr'
  ·simp [G.past]
  ·simp only [G.past, if_neg (hnr r' _ (m3 r' hr'))]
   exact h4.le.fr r' _ (m3 r' hr')
end Go.Proofs.Ytaffancdidgkhaa.Ctr
end
section
set_option linter.unusedVariables false
set_option maxRecDepth 100000
namespace Go.Proofs.Ytaffancdidgkhaa.Ctr
open Go Vse Go.Proofs Gen
def eZ : List AV := (encS [7] [.ptr 3 []] [] 32 ((), ()) ()).env
theorem eZ_shape : eZ = List.replicate 7 .und ++ (.v (.ptr 3 []) () :: List.replicate 24 .und) := by kernel_rfl
theorem eZ_get (i : Nat) (h : i ≠ 7) : getV eZ i = .und ∨ getV eZ i = .none := by
 have rep : ∀ n j, getV (List.replicate n AV.und) j = .und ∨ getV (List.replicate n AV.und) j = .none := by
  intro n
  induction n with
  | zero => intro j; exact .inr rfl
  | succ n ih => intro j; cases j with
   | zero => exact .inl rfl
   | succ j => exact ih j
 rw [eZ_shape]
 match i, h with
 | 0, _ => exact .inl rfl
 | 1, _ => exact .inl rfl
 | 2, _ => exact .inl rfl
 | 3, _ => exact .inl rfl
 | 4, _ => exact .inl rfl
 | 5, _ => exact .inl rfl
 | 6, _ => exact .inl rfl
 | 7, h => exact absurd rfl h
 | j + 8, _ => exact rep 24 j
theorem eZ_rep {g g' : G} {tm : Array Value} {ds ds' : List Deferred} (h : EnvRep g eZ { tmps := tm, defers := ds }) (h7 : VRep g' (.v (.ptr 3 []) ()) (tm.getD 7 undef)) : EnvRep g' eZ { tmps := tm, defers := ds' } := by
 refine ⟨h.1, fun i => ?_⟩
 by_cases e7 : i = 7
 ·subst e7; exact h7
 ·have := h.2 i
  rcases eZ_get i e7 with e | e
  ·rw [e]; trivial
  ·rw [e] at this ⊢; exact this
noncomputable def rngR (E : En) (N : Nx) (st : St) : Tr (Ex × St) :=
 if heapIs SL.E0 st.heap then
  match renTo SL.E0 [.all 3 u8] [5, 7, 14] [.ptr 2 [], .ptr 3 [], fM 4 5] eL 32 st with
  | some (_, (k, a, b, _, k', a', out, _)) =>
   .chk (decide (out = []) && decide (0 < b.length ∧ b.length ≤ 1000000))
    (.ret (.exit 0, encS [7] [.ptr 3 []] eL 32 ((), ()) (k, a, b, (), k', atB N a' ((b.length - 1) / 16), outs (E k' (atB N a' ((b.length - 1) / 16))) b (outB E N k' a' b ((b.length - 1) / 16)) ((b.length - 1) % 16 + 1), ())))
  | none => .fail
 else .fail
theorem chk_some {α : Type} {c : Bool} {t : Tr α} {x : α} (h : (Tr.chk c t).eval = some x) : c = true ∧ t.eval = some x := by
 cases c with
 | true => exact ⟨rfl, (chk_eval rfl t).symm.trans h⟩
 | false => cases h
theorem at_end {E : En} {N : Nx} {k' a' b : List Int} {q j : Nat} (hj : j < 16) (h : (outs (E k' (atB N a' q)) b (outB E N k' a' b q) (j + 1)).length = b.length) : q = (b.length - 1) / 16 ∧ j = (b.length - 1) % 16 := by
 rw [outs_len, outB_len] at h
 omega
theorem rng_ok {E : En} {N : Nx} (hC : CtxSound Try.prog (CI E N) ∧ CtxLocal (CI E N)) : RunOK Try.prog (rngR E N) (.rangeFunc (.tmp 14) #[15] asgF bdyF) := by
 intro g st st' a w x Q hs hm he hn
 unfold rngR at he
 split at he
 case isFalse => exact (Tr.fail_some he).elim
 rename_i hheap
 split at he
 case h_2 => exact (Tr.fail_some he).elim
 rename_i u k a0 b uu k' a' out u2 hren
 obtain ⟨hc, he⟩ := chk_some he
 have he := Tr.ret_some he
 simp only [Prod.mk.injEq] at he
 obtain ⟨rfl, rfl⟩ := he
 simp only [Bool.and_eq_true, decide_eq_true_eq] at hc
 obtain ⟨rfl, hin, hsm⟩ := hc
 have hisY : ∀ t, isY (g.sh t) SL.E0[t]? := fun t => by rw [hs.heap.sh]; exact heapIs_isY hheap t
 have hb : ∀ i, i < 6 → ∃ s, g.sh i = .box s := fun i hi => by
  have := hisY i
  match i, hi, this with
  | 0, _, h => exact h
  | 1, _, h => exact h
  | 2, _, h => exact h
  | 3, _, h => exact h
  | 4, _, h => exact h
  | 5, _, h => exact h
 refine wpIn_rangeFunc fun fn _ => ?_
 let o : Loop := { state := .ready, pending := none, fn, tmps := a.tmps, params := #[15], assign := asgF, body := bdyF, defers := w.heap.size }
 have hgo := begin_going hs.heap o
 let g0 : G := { g with ext := (g.ext.1, []) }
 have hc0 : g.leC g0 := ⟨fun b _ _ _ h => h, fun b _ _ _ h => h, fun e => .same rfl rfl rfl⟩
 have he0 : EnvRep g0 st.env { a with defers := [] } := (EnvRep.c hc0 (a := { a with defers := [] }) ⟨hs.env.1, hs.env.2⟩)
 obtain ⟨g3, hgo3, he3⟩ := Going.ren hgo rfl he0 rfl hisY hren
 have hgo3 : Going g0 g3 (hL k a0 b k' a' []) (laid2 w o) (w.heap.size + 1) w.heap.size o := hgo3
 have hsh : ∀ i, i < 6 → ∃ s, g3.sh i = .box s := fun i hi => by
  have := hgo3.inv.sh i
  match i, hi, this with
  | 0, _, h => exact ⟨_, h⟩
  | 1, _, h => exact ⟨_, h⟩
  | 2, _, h => exact ⟨_, h⟩
  | 3, _, h => exact ⟨_, h⟩
  | 4, _, h => exact ⟨_, h⟩
  | 5, _, h => exact ⟨_, h⟩
 have mv : ∀ i, i < 6 → ∀ g' : G, g0.leD g' → (∃ s, g'.sh i = .box s) → ∀ v, VRep g3 (.v (.ptr i []) ()) v → VRep g' (.v (.ptr i []) ()) v := by
  intro i hi g' hg' hs' v hv
  obtain ⟨s0, e0⟩ := hb i hi
  obtain ⟨s3, e3⟩ := hsh i hi
  obtain ⟨s', e'⟩ := hs'
  exact ptr_move hgo3.le hg' e0 e3 e' hv
 have r5 : VRep g3 (.v (.ptr 2 []) ()) (a.tmps.getD 5 undef) := he3.2 5
 have r7 : VRep g3 (.v (.ptr 3 []) ()) (a.tmps.getD 7 undef) := he3.2 7
 have r14 : VRep g3 (.v (fM 4 5) ((), (), ())) (a.tmps.getD 14 undef) := he3.2 14
 have hsize : a.tmps.size = 32 := he3.1.symm.trans (by kernel_rfl)
 have hS : Start g0 o := ⟨rfl, hisY, hb 4 (by omega), hb 5 (by omega), rfl, rfl, rfl, hsize, mv 2 (by omega) g0 (G.leD.refl _) (hb 2 (by omega)) _ r5, mv 3 (by omega) g0 (G.leD.refl _) (hb 3 (by omega)) _ r7⟩
 obtain ⟨v1, v2, hv14, h1, h2⟩ : ∃ v1 v2, a.tmps.getD 14 undef = .func (.func kM) #[] #[v1, v2] ∧ VRep g3 (.v (.ptr 4 []) ()) v1 ∧ VRep g3 (.v (.ptr 5 []) ()) v2 := by
  have := (VRep_v (by simp)).1 r14
  simp only [TRep, Ty.agg, Ty.sk, Sk.agg, Bool.false_eq_true, if_false] at this
  obtain ⟨vs, hv, v1, r, e1, p1, v2, r2, e2, p2, e3⟩ := this
  have e3 : r2 = [] := e3
  subst e3
  subst e2
  simp only [List.cons.injEq, and_true] at hv
  refine ⟨v1, v2, ?_, (VRep_v (by simp)).2 ?_, (VRep_v (by simp)).2 ?_⟩
  ·rw [hv]
   have : vs = #[v1, v2] := by apply Array.ext'; rw [e1]
   rw [this]
  ·simpa only [TRep, Ty.agg, Ty.sk, Sk.agg, Bool.false_eq_true, if_false] using p1
  ·simpa only [TRep, Ty.agg, Ty.sk, Sk.agg, Bool.false_eq_true, if_false] using p2
 have hev : a.eval (.tmp 14) = .func (.func kM) #[] #[v1, v2] := hv14
 refine ⟨w.heap.size + 1, [mkD w.heap.size], laid2 w o, { target := .fn (.func kM) #[v1, v2], args := #[.func (.yield (w.heap.size + 1)) #[] #[]] }, laid2 w o, kM, #[.func (.yield (w.heap.size + 1)) #[] #[], v1, v2], laid2 w o, ?_, ?_, ?_, ?_, ?_, ?_⟩
 ·exact run_enterLoop_outer _ _ _ _ _
 ·simp only [resolve, hev]
  simp [go_sem]
 ·intro f' _; trivial
 ·have := callFunc_enter (P := Try.prog) (c := cI) Try.func144 (by kernel_rfl) (by kernel_rfl) #[.func (.yield (w.heap.size + 1)) #[] #[], v1, v2] (laid2 w o)
  simp [invoke, go_sem, this]
 ·intro h; cases h
 ·refine made_calls hC hS rfl rfl hsm hin hgo3 h1 h2 fun q j hj hlen g4 w4 v hg4 => ?_
  obtain ⟨rfl, rfl⟩ := at_end hj hlen
  refine ⟨_, _, run_endLoop hg4.row (by simp), ?_⟩
  refine wpIn_exit ?_
  have hg5 := hg4.put { o with state := .exhausted, pending := some (.exit 0) }
  obtain ⟨p1, p2, p3, p4⟩ := end_going hs.heap (Nat.le_refl _) (Nat.le_succ _) hm hg5
  have hs4 : ∃ s, g4.sh 3 = .box s := ⟨_, hg4.inv.sh 3⟩
  have r7' := mv 3 (by omega) g4 hg4.le hs4 _ r7
  have e7 : EnvRep g3 eZ { tmps := a.tmps, defers := [] } := keepE_rep he3 [7]
  refine hn _ _ _ p1 ⟨eZ_rep e7 (VRep_monoC p4 r7'), p2, ?_⟩ p3
  show [mkD w.heap.size] ++ a.defers = mkD w.heap.size :: g.ext.2
  rw [hs.defers]; rfl
end Go.Proofs.Ytaffancdidgkhaa.Ctr
end
section
set_option linter.unusedVariables false
set_option maxRecDepth 100000
namespace Go.Proofs.Ytaffancdidgkhaa.Ctr
open Go Vse Go.Proofs Gen
def rngX (c : List Int → List Int → Bool) (A : List Int → List Int → List Int) (O : List Int → List Int → List Int → List Int) (st : St) : Tr (Ex × St) :=
 if heapIs SL.E0 st.heap then
  match renTo SL.E0 [.all 3 u8] [5, 7, 14] [.ptr 2 [], .ptr 3 [], fM 4 5] eL 32 st with
  | some (_, (k, a, b, _, k', a', out, _)) => .chk (c out b) (.ret (.exit 0, encS [7] [.ptr 3 []] eL 32 ((), ()) (k, a, b, (), k', A a' b, O k' a' b, ())))
  | none => .fail
 else .fail
def cX (out b : List Int) : Bool := decide (out = []) && decide (0 < b.length ∧ b.length ≤ 1000000)
def aX (N : Nx) (a' b : List Int) : List Int := atB N a' ((b.length - 1) / 16)
def oX (E : En) (N : Nx) (k' a' b : List Int) : List Int := outs (E k' (atB N a' ((b.length - 1) / 16))) b (outB E N k' a' b ((b.length - 1) / 16)) ((b.length - 1) % 16 + 1)
theorem rngX_ok {E : En} {N : Nx} (hC : CtxSound Try.prog (CI E N) ∧ CtxLocal (CI E N)) : RunOK Try.prog (rngX cX (aX N) (oX E N)) (.rangeFunc (.tmp 14) #[15] asgF bdyF) := rng_ok hC
abbrev C24 : Ctx := ctx [(117, s43)]
theorem C24_sound : CtxSound Try.prog C24 ∧ CtxLocal C24 := ctx_sound ⟨ok43, trivial⟩
def RX (c : List Int → List Int → Bool) (A : List Int → List Int → List Int) (O : List Int → List Int → List Int → List Int) : Loops := fun _ st => rngX c A O st
noncomputable def cFl : Code := bodyOf Try.f85
theorem rngs_shape : rngsOf cFl = [(.tmp 14, #[15], asgF, bdyF)] := by kernel_rfl
def TX (c : List Int → List Int → Bool) (O : List Int → List Int → List Int → List Int) (key at_ b : List Int) : Tr AV := .ite ((b.length : Int) == 0) (.ret (.v bt [])) (.chk (c [] b) (.ret (.v bt (O key at_ b))))
theorem tX (c : List Int → List Int → Bool) (A : List Int → List Int → List Int) (O : List Int → List Int → List Int → List Int) (key at_ b : List Int) :
  nrm (fnSX Try.prog (runR Try.prog C24 L0 (RX c A O) cFl) [bt] Try.f85 (mkArgs [w16, w16, bs] (key, at_, b, ()))) = (TX c O key at_ b).eval := by kernel_rfl
def flipX (E : En) (N : Nx) (key at_ b : List Int) : List Int := if b.length = 0 then [] else oX E N key at_ b
theorem rn_ok {E : En} {N : Nx} (hC : CtxSound Try.prog (CI E N) ∧ CtxLocal (CI E N)) : RunOK Try.prog (runR Try.prog C24 L0 (RX cX (aX N) (oX E N)) cFl) cFl := by
 refine runR_ok C24_sound cFl (loopsOK_of (by kernel_rfl)) (rngsOK_all fun t ht i hi => ?_)
 rw [rngs_shape, List.mem_singleton] at ht
 subst ht
 exact rngX_ok hC
def sX (E : En) (N : Nx) : CSpec := .slp1 [w16, w16, bs] (fun x => decide (List.length (α := Int) x.2.2.1 ≤ 1000000)) bt fun x => flipX E N x.1 x.2.1 x.2.2.1
theorem okX {E : En} {N : Nx} (hC : CtxSound Try.prog (CI E N) ∧ CtxLocal (CI E N)) : CSound Try.prog 85 (sX E N) ∧ CLocal (sX E N) :=
 slpX1 Try.func85 (rn_ok hC) (by kernel_rfl) fun xs hx hp => by
  obtain ⟨key, at_, b, u⟩ := xs
  have hb : List.length (α := Int) b ≤ 1000000 := of_decide_eq_true hp
  refine (tX cX (aX N) (oX E N) key at_ b).trans ?_
  have : (TX cX (oX E N) key at_ b).eval = some (.v bt (flipX E N key at_ b)) := by
   unfold TX flipX
   by_cases h0 : List.length (α := Int) b = 0
   ·rw [if_pos h0]
    refine (ite_t ?_ _ _).trans rfl
    rw [h0]; rfl
   ·rw [if_neg h0]
    refine (ite_f ?_ _ _).trans ((chk_eval ?_ _).trans rfl)
    ·simp only [beq_eq_false_iff_ne, ne_eq]; omega
    ·simp only [cX, Bool.and_eq_true, decide_eq_true_eq, true_and]; omega
  exact this
end Go.Proofs.Ytaffancdidgkhaa.Ctr
end
section
set_option linter.unusedVariables false
set_option maxRecDepth 100000
namespace Go.Proofs.Ytaffancdidgkhaa.Ctr
open Go Vse Go.Proofs Gen
def elemF (N : Nx) (E : En) (key at_ b : List Int) (i : Nat) : Int := xorI .u8 (b.getD i 0) ((E key (N at_ ((i / 16 : Nat) : Int))).getD (i % 16) 0)
def partF (N : Nx) (E : En) (key at_ b : List Int) (i : Nat) : List Int := (List.range i).map (elemF N E key at_ b)
def flipG (N : Nx) (E : En) (key at_ b : List Int) : List Int := partF N E key at_ b b.length
theorem partF_len (N : Nx) (E : En) (key at_ b : List Int) (i : Nat) : (partF N E key at_ b i).length = i := by unfold partF; rw [List.length_map, List.length_range]
theorem partF_step (N : Nx) (E : En) (key at_ b : List Int) (i : Nat) : partF N E key at_ b (i + 1) = partF N E key at_ b i ++ [elemF N E key at_ b i] := by unfold partF; rw [List.range_succ, List.map_append]; rfl
abbrev encRF : En := fun k a => Aes.encR k a
def flipP (b : List Int) : Bool := decide (b.length ≤ 1000000)
theorem cF_sound : CtxSound Try.prog (ctx (cF rnextF encRF)) ∧ CtxLocal (ctx (cF rnextF encRF)) := ctx_sound ⟨ok27, Aes.ok47, trivial⟩
def cF1 (b : List Int) (i : Int) (at_ made out : List Int) : Bool := decide (i = 0) && (decide (out = []) && decide (b.length ≤ 1000000))
theorem mF (N : Nx) (E : En) (key at_ b : List Int) (hb : b.length ≤ 1000000) : ∀ (m i : Nat) (made : List Int), i + m = b.length → (i % 16 ≠ 0 → made = E key (N at_ ((i / 16 : Nat) : Int))) →
  SF.many (bodyK Try.prog (ctx (cF N E)) L0 bF) (m + 1) (b, (), (), (), (), (i : Int), ()) (key, at_, made, partF N E key at_ b i, ()) = some (.exit 0, encS [7] [.vc 3 0] [.dead, .dead, .dead, .vec 0 u8] 40 ((), ()) (flipG N E key at_ b, ()))
 | 0, i, made, h, hm => by
  refine rmany_inr ((rF N E b i key at_ made _).trans ?_) 0
  have : i = b.length := by omega
  subst this
  unfold GF
  simp only
  rw [ite_f (decide_eq_false (by omega))]
  rfl
 | m + 1, i, made, h, hm => by
  have hi : i < b.length := by omega
  have t1 : ((i : Nat) : Int).tmod 16 = ((i % 16 : Nat) : Int) := by rw [Int.tmod_eq_emod_of_nonneg (by omega)]; omega
  have d1 : ((i : Nat) : Int).tdiv 16 = ((i / 16 : Nat) : Int) := by rw [Int.tdiv_eq_ediv_of_nonneg (by omega)]; omega
  have w0 : w ((i : Int) + 1) = ((i + 1 : Nat) : Int) := (w_id (by omega) (by omega)).trans (by omega)
  have w1 : wu (w ((i / 16 : Nat) : Int)) = ((i / 16 : Nat) : Int) := by rw [w_id (by omega) (by omega), wu_mod]; omega
  have e1 : ∀ x : Int, Vse.room ((partF N E key at_ b i).length + [x].length) 1 = true := fun x => by simp only [Vse.room, decide_eq_true_eq, partF_len, List.length_singleton]; omega
  have hx : xorI .u8 (b.getD i 0) ((E key (N at_ ((i / 16 : Nat) : Int))).getD (i % 16) 0) = elemF N E key at_ b i := rfl
  refine (rmany_inl (d := ((b, (), (), (), (), ((i + 1 : Nat) : Int), ()), (key, at_, E key (N at_ ((i / 16 : Nat) : Int)), partF N E key at_ b (i + 1), ()))) ((rF N E b i key at_ made _).trans ?_) (m + 1)).trans
   (mF N E key at_ b hb m (i + 1) _ (by omega) (fun h16 => by rw [show (i + 1) / 16 = i / 16 by omega]))
  unfold GF
  simp only [t1, d1, w0, w1, Int.toNat_natCast]
  rw [ite_t (decide_eq_true (show (i : Int) < (b.length : Int) by omega))]
  by_cases h16 : i % 16 = 0
  ·rw [ite_t (by rw [h16]; rfl), chk_eval (inArr_nat hi), chk_eval (inArrK64 (by omega) (by omega) (by omega)), chk_eval (e1 _), hx, partF_step]
   rfl
  ·have hne : ((((i % 16 : Nat) : Int)) == 0) = false := by simp; omega
   have hmade := hm h16
   subst hmade
   rw [ite_f hne, chk_eval (inArr_nat hi), chk_eval (inArrK64 (by omega) (by omega) (by omega)), chk_eval (e1 _), hx, partF_step]
   rfl
theorem lF : LoopOK Try.prog (LF cF1 (flipG rnextF encRF)) bF :=
 rloop_ok (L := LF cF1 (flipG rnextF encRF)) (L' := L0) cF_sound (loopsOK_of (by kernel_rfl)) SF (F := FF cF1 (flipG rnextF encRF)) (i := 4) (by kernel_rfl) (fun _ => rfl) fun xs hs r h => by
  obtain ⟨b, u1, u2, u3, u4, i, u5⟩ := xs
  obtain ⟨key, at_, made, out, u6⟩ := hs
  obtain ⟨h1, h2⟩ := Tr.chk_some h
  simp only [cF1, Bool.and_eq_true, decide_eq_true_eq] at h1
  obtain ⟨e1, e2, e3⟩ := h1
  have e1 : i = ((0 : Nat) : Int) := e1
  have e2 : out = partF rnextF encRF key at_ b 0 := e2
  subst e1; subst e2
  exact ⟨_, (mF rnextF encRF key at_ b e3 (List.length (α := Int) b) 0 made (by omega) (fun h => absurd rfl h)).trans (congrArg some (Tr.ret_some h2))⟩
def rflipF (key at_ b : List Int) : List Int := flipG rnextF encRF key at_ b
def s25 : CSpec := .slp1 [w16, w16, bs] (fun x => flipP x.2.2.1) bt fun x => rflipF x.1 x.2.1 x.2.2.1
theorem ok25 : CSound Try.prog 88 s25 ∧ CLocal s25 :=
 slpE1 (L := LF cF1 (flipG rnextF encRF)) cF_sound Try.func88 (by kernel_rfl) (loops1 (by kernel_rfl) lF) fun xs hx hp => by
  obtain ⟨key, at_, b, u⟩ := xs
  have hb : List.length (α := Int) b ≤ 1000000 := of_decide_eq_true hp
  have e1 : cF1 b 0 at_ z16 [] = true := by simp only [cF1, Bool.and_eq_true, decide_eq_true_eq, true_and]; exact hb
  refine (tF rnextF encRF cF1 (flipG rnextF encRF) key at_ b).trans ?_
  have : (TF cF1 (flipG rnextF encRF) key at_ b).eval = some (.v bt (rflipF key at_ b)) := by
   unfold TF
   rw [chk_eval e1]
   rfl
  exact this
end Go.Proofs.Ytaffancdidgkhaa.Ctr
end
section
set_option linter.unusedVariables false
set_option maxRecDepth 100000
namespace Go.Proofs.Ytaffancdidgkhaa.Ctr
open Go Vse Go.Proofs Gen
theorem outs_part (E : En) (N : Nx) (k a b : List Int) (q : Nat) : ∀ n, n ≤ 16 → outs (E k (N a ((q : Nat) : Int))) b (partF N E k a b (16 * q)) n = partF N E k a b (16 * q + n)
 | 0, _ => rfl
 | n + 1, h => by
  rw [outs, outs_part E N k a b q n (by omega), show 16 * q + (n + 1) = (16 * q + n) + 1 from rfl, partF_step]
  have h1 : (16 * q + n) / 16 = q := by omega
  have h2 : (16 * q + n) % 16 = n := by omega
  unfold elemF flipB
  rw [partF_len, h1, h2]
theorem outB_part (E : En) (N : Nx) (k a b : List Int) : ∀ q, (∀ i, i < q → atB N a i = N a ((i : Nat) : Int)) → outB E N k a b q = partF N E k a b (16 * q)
 | 0, _ => rfl
 | q + 1, h => by
  rw [outB, outB_part E N k a b q (fun i hi => h i (by omega)), h q (by omega), outs_part E N k a b q 16 (Nat.le_refl _)]
  rfl
theorem flipX_eq {E : En} {N : Nx} {k a b : List Int} (h : ∀ i, i ≤ b.length → atB N a i = N a ((i : Nat) : Int)) : flipX E N k a b = flipG N E k a b := by
 unfold flipX flipG
 by_cases h0 : b.length = 0
 ·rw [if_pos h0, h0]; rfl
 ·rw [if_neg h0]
  unfold oX
  rw [outB_part E N k a b _ (fun i hi => h i (by omega)), h _ (by omega), outs_part E N k a b _ _ (by omega)]
  congr 1
  omega
theorem atB_next {a : List Int} (ha : Bytes a) (hl : a.length = 16) : ∀ q : Nat, q ≤ 1000000 → atB nextF a q = nextF a ((q : Nat) : Int)
 | 0, _ => (next_zero ha hl).symm
 | q + 1, h => by
  rw [atB, atB_next ha hl q (by omega)]
  exact next_add ha hl (a := q) (b := 1) (by omega)
def flipF (key at_ b : List Int) : List Int := flipG nextF (fun k a => Aes.encI k a) key at_ b
def c1 : List (Nat × CSpec) := [(145, Aes.s46), (146, s26)]
theorem c1_sound : CtxSound Try.prog (CI (fun k a => Aes.encI k a) nextF) ∧ CtxLocal (CI (fun k a => Aes.encI k a) nextF) := ctx_sound ⟨Aes.ok46, ok26, trivial⟩
def s24 : CSpec := .slp1 [w16, w16, bs] (fun x => flipP x.2.2.1) bt fun x => flipX (fun k a => Aes.encI k a) nextF x.1 x.2.1 x.2.2.1
theorem ok24 : CSound Try.prog 85 s24 ∧ CLocal s24 := okX c1_sound
theorem flip_eq {key at_ b : List Int} (h : Bytes at_) (hl : at_.length = 16) (hb : b.length ≤ 1000000) : flipX (fun k a => Aes.encI k a) nextF key at_ b = flipF key at_ b :=
 flipX_eq fun i hi => atB_next h hl i (by omega)
theorem blk_of {l : List Int} (h : Bytes l) (hl : l.length = 16) : Aes.Blk l := Aes.blk_mem hl fun x hx => show 0 ≤ x ∧ x < 256 from by
 have := h x hx
 omega
theorem elem_same {key at_ b : List Int} (hk : Bytes key) (hkl : key.length = 16) (h : Bytes at_) (hl : at_.length = 16) {i : Nat} (hi : i < 1000000) : elemF nextF (fun k a => Aes.encI k a) key at_ b i = elemF rnextF encRF key at_ b i := by
 have h1 : nextF at_ ((i / 16 : Nat) : Int) = rnextF at_ ((i / 16 : Nat) : Int) := nexts_same h (by omega)
 have h2 : Aes.encI key (nextF at_ ((i / 16 : Nat) : Int)) = Aes.encR key (nextF at_ ((i / 16 : Nat) : Int)) := Aes.enc_same (blk_of hk hkl) (blk_of (next_bytes h _) (by rw [next_len, hl]))
 unfold elemF
 simp only [h2, ← h1]
theorem flips_same {key at_ b : List Int} (hk : Bytes key) (hkl : key.length = 16) (h : Bytes at_) (hl : at_.length = 16) (hb : b.length ≤ 1000000) : flipF key at_ b = rflipF key at_ b := by
 unfold flipF rflipF flipG partF
 refine List.map_congr_left fun i hi => ?_
 exact elem_same hk hkl h hl (by have := List.mem_range.1 hi; omega)
theorem flip_len (key at_ b : List Int) : (flipF key at_ b).length = b.length := partF_len _ _ _ _ _ _
theorem flip_get (key at_ b : List Int) {i : Nat} (hi : i < b.length) : (flipF key at_ b).getD i 0 = elemF nextF (fun k a => Aes.encI k a) key at_ b i := by
 unfold flipF flipG partF
 rw [List.getD_eq_getElem?_getD, List.getElem?_map, List.getElem?_range hi]
 rfl
end Go.Proofs.Ytaffancdidgkhaa.Ctr
end
section
set_option linter.unusedVariables false
set_option maxRecDepth 100000
namespace Go.Proofs.Ytaffancdidgkhaa.Ctr
open Go Vse Go.Proofs Gen
end Go.Proofs.Ytaffancdidgkhaa.Ctr
end
section
set_option linter.unusedVariables false
set_option maxRecDepth 100000
namespace Go.Proofs.Ytaffancdidgkhaa.Ctr
open Go Vse Go.Proofs Gen
abbrev Fl := List Int → List Int → List Int → List Int
abbrev flX : Fl := fun key at_ b => flipX (fun k a => Aes.encI k a) nextF key at_ b
end Go.Proofs.Ytaffancdidgkhaa.Ctr
end
section
set_option linter.unusedVariables false
set_option maxRecDepth 100000
namespace Go.Proofs.Ytaffancdidgkhaa.Ctr
open Go Vse Go.Proofs Gen
instance (l : List Int) : Decidable (Bytes l) := inferInstanceAs (Decidable (∀ x ∈ l, 0 ≤ x ∧ x < 256))
def B16 (l : List Int) : Prop := Bytes l ∧ l.length = 16
instance (l : List Int) : Decidable (B16 l) := inferInstanceAs (Decidable (Bytes l ∧ l.length = 16))
theorem b16_next {a : List Int} (h : B16 a) (n : Int) : B16 (nextF a n) := ⟨next_bytes h.1 n, by rw [next_len, h.2]⟩
theorem flX_eq {key a b : List Int} (h : B16 a) (hb : b.length ≤ 1000000) : flX key a b = flipF key a b := flip_eq h.1 h.2 hb
theorem key_byte {key a : List Int} (hk : B16 key) (ha : B16 a) (i : Nat) : IsB ((Aes.encI key a).getD i 0) := by
 have := Aes.encN_blk (Aes.keys_blk (blk_of hk.1 hk.2)) (blk_of ha.1 ha.2) 10 (Nat.le_refl _)
 exact this.2 i
theorem byte_get {b : List Int} (hb : Bytes b) (i : Nat) : IsB (b.getD i 0) := by
 obtain ⟨c, e, hc⟩ := bytes_get hb i
 rw [e]; exact isB_nat hc
theorem xor_back {x k : Int} (hx : IsB x) (hk : IsB k) : xorI .u8 (xorI .u8 x k) k = x := by
 obtain ⟨a, rfl, ha⟩ := hx.nat
 obtain ⟨c, rfl, hc⟩ := hk.nat
 rw [xorI_u8 ha hc, xorI_u8 (xor_lt256 ha hc) hc, Nat.xor_assoc, Nat.xor_self, Nat.xor_zero]
theorem ext_getD {p q : List Int} (hl : p.length = q.length) (h : ∀ k, k < p.length → p.getD k 0 = q.getD k 0) : p = q := by
 apply List.ext_getElem hl
 intro i h1 h2
 have := h i h1
 rw [List.getD_eq_getElem?_getD, List.getD_eq_getElem?_getD, List.getElem?_eq_getElem h1, List.getElem?_eq_getElem h2] at this
 exact this
theorem flip_twice {key a b : List Int} (hk : B16 key) (ha : B16 a) (hb : Bytes b) : flipF key a (flipF key a b) = b := by
 refine ext_getD (by rw [flip_len, flip_len]) fun i hi => ?_
 rw [flip_len, flip_len] at hi
 rw [flip_get _ _ _ (by rw [flip_len]; exact hi)]
 unfold elemF
 rw [flip_get _ _ _ hi]
 unfold elemF
 exact xor_back (byte_get hb i) (key_byte hk (b16_next ha _) _)
end Go.Proofs.Ytaffancdidgkhaa.Ctr
end
end
section
set_option linter.unusedVariables false
set_option maxRecDepth 100000
namespace Go.Proofs.Ytaffancdidgkhaa.Seal
open Go Vse Go.Proofs Gen
open Ctr (B16 flX flipF flipP rflipF encRF rnextF)
open Mac (macF macP macF_len expF expP expX expL rexpF rmacF eqF oneP)
abbrev Bytes (l : List Int) : Prop := ∀ x ∈ l, 0 ≤ x ∧ x < 256
theorem all_len {n : Nat} {l : List Int} (h : l.length = n) : all n l = l := Mac.all_id h
theorem cut_ok {l : List Int} {a b : Nat} (h : a ≤ b) (h2 : b ≤ l.length) : cutOK l (a : Int) (b : Int) = true := by simp only [cutOK, Bool.and_eq_true, decide_eq_true_eq]; omega
theorem cut_eq (l : List Int) (a b : Nat) : cut l (a : Int) (b : Int) = (l.take b).drop a := by unfold cut; rw [Int.toNat_natCast, Int.toNat_natCast]
theorem cut_to (l : List Int) (b : Nat) : cut l 0 (b : Int) = l.take b := (cut_eq l 0 b).trans (List.drop_zero)
theorem cut_from (l : List Int) (a : Nat) : cut l (a : Int) (l.length : Int) = l.drop a := (cut_eq l a l.length).trans (by rw [List.take_length])
abbrev macL : Mq := fun k l => macF k l.flatten
def sealK (hide seals plain first : List Int) : Rs :=
 if plain.length > 1000 then ([], 7, ()) else ((first ++ flX hide first plain) ++ macF seals (first ++ flX hide first plain), 0, ())
def shortP (k : List Int) : Bool := decide (k.length ≤ 1000000)
theorem TS_eq {hide seals plain first : List Int} (hf : first.length = 16) (hp : shortP seals = true) :
  (TS flipP flX macP macL hide seals plain first).eval = some (sealK hide seals plain first, ()) := by
 have hk : seals.length ≤ 1000000 := of_decide_eq_true hp
 unfold TS sealK
 simp only
 by_cases h : plain.length > 1000
 ·rw [if_pos h, ite_t (decide_eq_true (by omega))]; rfl
 rw [if_neg h, ite_f (decide_eq_false (by omega)), chk_eval (show flipP plain = true from decide_eq_true (by omega))]
 have ha : all 16 first = first := all_len hf
 have hd : ∀ l, all 32 (macL seals [l]) = macF seals l := fun l => by
  show all 32 (macF seals [l].flatten) = _
  rw [List.flatten_cons, List.flatten_nil, List.append_nil]
  exact all_len (macF_len _ _)
 have hm : ∀ l : List Int, l.length ≤ 2000 → macP seals [l] = true := fun l hl => by
  simp only [macP, Sha.tot, List.map_cons, List.map_nil, List.sum_cons, List.sum_nil, List.length_cons, List.length_nil, Bool.and_eq_true, decide_eq_true_eq]; omega
 have hfl : (flX hide first plain).length ≤ 1000 := by
  have : (flX hide first plain).length = plain.length := by
   unfold flX Ctr.flipX
   by_cases h0 : plain.length = 0
   ·rw [if_pos h0, h0]; rfl
   ·rw [if_neg h0]
    unfold Ctr.oX
    rw [Ctr.outs_len, Ctr.outB_len]
    omega
  omega
 simp only [ha, hd]
 have hr : ∀ a b : Nat, a ≤ 2000 → b ≤ 2000 → Vse.room (a + b) 1 = true := fun a b _ _ => by simp only [Vse.room, decide_eq_true_eq]; omega
 by_cases h0 : (flX hide first plain).length = 0
 ·have e0 : flX hide first plain = [] := List.eq_nil_of_length_eq_zero h0
  rw [ite_t (decide_eq_true h0), chk_eval (hm first (by omega)), ite_f (decide_eq_false (by rw [macF_len]; omega)), chk_eval (hr _ _ (by omega) (by rw [macF_len]; omega)), e0, List.append_nil]
  rfl
 ·rw [ite_f (decide_eq_false h0), chk_eval (hr _ _ (by omega) (by omega)), chk_eval (hm _ (by rw [List.length_append]; omega)), chk_eval (hr _ _ (by rw [List.length_append]; omega) (by rw [macF_len]; omega))]
  rfl
def s48 : CSpec := .pos nS (fun xs hs => shortP xs.2.1) fun xs hs => (sealK xs.1 xs.2.1 hs.1 hs.2.1, ())
theorem cS_sound : CtxSound Try.prog (ctx (cS flipP flX macP macL)) ∧ CtxLocal (ctx (cS flipP flX macP macL)) := ctx_sound ⟨Ctr.ok24, Mac.ok29q, trivial⟩
theorem ok48 : CSound Try.prog 84 s48 ∧ CLocal s48 :=
 pos_sound (L := L0) cS_sound Try.func84 (by kernel_rfl) (noLoopsL (by kernel_rfl)) fun xs hs hx hh hp => by
  obtain ⟨hide, seals, u1, u2, u3⟩ := xs
  obtain ⟨plain, first, u4⟩ := hs
  exact (tS flipP flX macP macL hide seals plain first).trans (TS_eq hh.2.1.1 hp)
def openK (hide seals b : List Int) : Rs :=
 if b.length < 48 then ([], 2, ()) else if b.length > 1048 then ([], 7, ()) else
  if eqF (macF seals (b.take (b.length - 32))) (b.drop (b.length - 32)) = true then (flX hide (b.take 16) ((b.take (b.length - 32)).drop 16), 0, ()) else ([], 6, ())
theorem TO_eq {hide seals b : List Int} (hp : shortP seals = true) : (TO flipP flX macP macL eqF hide seals b).eval = some (openK hide seals b, ()) := by
 have hk : seals.length ≤ 1000000 := of_decide_eq_true hp
 unfold TO openK
 simp only
 by_cases h : b.length < 48
 ·rw [if_pos h, ite_t (decide_eq_true (by omega))]; rfl
 by_cases h2 : b.length > 1048
 ·rw [if_neg h, if_pos h2, ite_f (decide_eq_false (by omega)), ite_t (decide_eq_true (by omega))]; rfl
 rw [if_neg h, if_neg h2, ite_f (decide_eq_false (by omega)), ite_f (decide_eq_false (by omega))]
 have hn : w ((b.length : Int) - 32) = ((b.length - 32 : Nat) : Int) := (w_id (by omega) (by omega)).trans (by omega)
 have c0 : cut b 0 ((b.length - 32 : Nat) : Int) = b.take (b.length - 32) := cut_to b _
 rw [hn]
 simp only [c0]
 generalize hfr : b.take (b.length - 32) = front
 have hl : front.length = b.length - 32 := by rw [← hfr, List.length_take]; omega
 have c1 : cut front 0 16 = front.take 16 := cut_to front 16
 have c2 : cut front 16 (front.length : Int) = front.drop 16 := cut_from front 16
 have c3 : cut b (front.length : Int) (b.length : Int) = b.drop (b.length - 32) := (cut_from b front.length).trans (by rw [hl])
 rw [c1, c2, c3]
 have hmac : all 32 (macL seals [front.take 16, front.drop 16]) = macF seals front := by
  show all 32 (macF seals [front.take 16, front.drop 16].flatten) = _
  rw [List.flatten_cons, List.flatten_cons, List.flatten_nil, List.append_nil, List.take_append_drop]
  exact all_len (macF_len _ _)
 have hm : macP seals [front.take 16, front.drop 16] = true := by
  simp only [macP, Sha.tot, List.map_cons, List.map_nil, List.sum_cons, List.sum_nil, List.length_cons, List.length_nil, Bool.and_eq_true, decide_eq_true_eq, List.length_take, List.length_drop]; omega
 have k1 : cutOK b 0 ((b.length - 32 : Nat) : Int) = true := cut_ok (a := 0) (by omega) (by omega)
 have k2 : cutOK front 0 16 = true := cut_ok (a := 0) (b := 16) (by omega) (by omega)
 have k3 : cutOK front 16 (front.length : Int) = true := cut_ok (a := 16) (by omega) (by omega)
 have k4 : cutOK b (front.length : Int) (b.length : Int) = true := cut_ok (by omega) (by omega)
 have k5 : decide (16 ≤ (front.take 16).length) = true := decide_eq_true (by rw [List.length_take]; omega)
 have k6 : flipP (front.drop 16) = true := decide_eq_true (by rw [List.length_drop]; omega)
 have e16 : (front.take 16).take 16 = b.take 16 := by rw [List.take_take, Nat.min_self, ← hfr, List.take_take, Nat.min_eq_left (by omega)]
 rw [chk_eval k1, chk_eval k2, chk_eval k3, chk_eval hm, chk_eval k4, hmac]
 by_cases hq : eqF (macF seals front) (b.drop (b.length - 32)) = true
 ·rw [if_pos hq, ite_f (by rw [hq]; rfl), chk_eval k2, chk_eval k5, chk_eval k3, chk_eval k6, e16]
  rfl
 ·rw [if_neg hq, ite_t (by rw [Bool.eq_false_iff.2 hq]; rfl)]
  rfl
def s50 : CSpec := .pos nO (fun xs hs => shortP xs.2.1) fun xs hs => (openK xs.1 xs.2.1 hs.1, ())
theorem cO_sound : CtxSound Try.prog (ctx (cO flipP flX macP macL eqF)) ∧ CtxLocal (ctx (cO flipP flX macP macL eqF)) := ctx_sound ⟨Mac.ok31, Ctr.ok24, Mac.ok29q, trivial⟩
theorem ok50 : CSound Try.prog 90 s50 ∧ CLocal s50 :=
 pos_sound (L := L0) cO_sound Try.func90 (by kernel_rfl) (noLoopsL (by kernel_rfl)) fun xs hs hx hh hp => by
  obtain ⟨hide, seals, u1, u2⟩ := xs
  obtain ⟨b, u4⟩ := hs
  exact (tO flipP flX macP macL eqF hide seals b).trans (TO_eq hp)
def keysF (key : List Int) (s : ByteArray) : List Int := (expF key (pur ++ s) 48).1
theorem exp48 (key : List Int) (s : ByteArray) : expF key s 48 = ((expX key s 48).take 48, 0, ()) := by unfold expF; rw [if_neg (by omega)]; rfl
theorem expX_len (key : List Int) (s : ByteArray) : (48 : Int) ≤ ((expX key s 48).length : Int) := by
 unfold expX
 exact Mac.expL_len key s 48 255 [] 1 [] (by simp only [List.length_nil]; omega)
theorem keysF_len (key : List Int) (s : ByteArray) : (keysF key s).length = 48 := by
 unfold keysF
 rw [exp48]
 have := expX_len key (pur ++ s)
 simp only [List.length_take]
 omega
theorem bytes_expL (key : List Int) (s : ByteArray) (many : Int) : ∀ (f : Nat) (last : List Int) (n : Int) (out : List Int), Bytes out → Bytes (expL key s many f last n out)
 | 0, _, _, out, h => h
 | f + 1, last, n, out, h => by
  simp only [expL]
  split
  ·exact bytes_expL key s many f _ _ _ (Mac.bytes_append h (Mac.bytes_mac _ _))
  ·exact h
theorem bytes_expX (key : List Int) (s : ByteArray) (many : Int) : Bytes (expX key s many) := by
 unfold expX
 generalize 255 = f
 have h0 : Bytes [] := fun x hx => absurd hx (by simp)
 exact bytes_expL key s many f [] 1 [] h0
theorem bytes_take {l : List Int} (h : Bytes l) (n : Nat) : Bytes (l.take n) := fun x hx => h x (List.mem_of_mem_take hx)
theorem bytes_drop {l : List Int} (h : Bytes l) (n : Nat) : Bytes (l.drop n) := fun x hx => h x (List.mem_of_mem_drop hx)
theorem keysF_bytes (key : List Int) (s : ByteArray) : Bytes (keysF key s) := by
 unfold keysF
 rw [exp48]
 dsimp only
 exact bytes_take (bytes_expX _ _ _) 48
theorem keysF_E (key : List Int) (s : ByteArray) : expF key (pur ++ s) 48 = (keysF key s, 0, ()) := by
 unfold keysF
 rw [exp48]
def hideF (key : List Int) (s : ByteArray) : List Int := (keysF key s).take 16
def codeF (key : List Int) (s : ByteArray) : List Int := (keysF key s).drop 16
theorem hide_b16 (key : List Int) (s : ByteArray) : B16 (hideF key s) := ⟨bytes_take (keysF_bytes key s) 16, by unfold hideF; rw [List.length_take, keysF_len]; omega⟩
theorem code_bytes (key : List Int) (s : ByteArray) : Bytes (codeF key s) := bytes_drop (keysF_bytes key s) 16
theorem code_len (key : List Int) (s : ByteArray) : (codeF key s).length = 32 := by unfold codeF; rw [List.length_drop, keysF_len]
def badL (s : ByteArray) : Prop := s == ByteArray.empty ∨ s.size > 40
instance (s : ByteArray) : Decidable (badL s) := inferInstanceAs (Decidable (_ ∨ _))
def withF (key : List Int) (s : ByteArray) (D : List Int → List Int → Rs) : Rs := if badL s then ([], 1, ()) else D (hideF key s) (codeF key s)
theorem pur_size (s : ByteArray) : (pur ++ s).size = 9 + s.size := by rw [ByteArray.size_append]; rfl
theorem TW_eq {α : Type} {key : List Int} {s : ByteArray} (hk : key.length = 16) (hs : s.size ≤ 9223372036854775807) (out : Rs → α) {p : List Int → List Int → Bool} {D : List Int → List Int → Rs} (hp : p (hideF key s) (codeF key s) = true) :
  (TW expF expP key s out p D).eval = some (out (withF key s D)) := by
 unfold TW withF
 simp only
 by_cases h1 : (s == ByteArray.empty) = true
 ·rw [ite_t h1, if_pos (.inl h1)]; rfl
 by_cases h2 : s.size > 40
 ·rw [ite_f (Bool.eq_false_iff.2 h1), ite_t (decide_eq_true (by omega)), if_pos (.inr h2)]; rfl
 have hb : ¬ badL s := fun h => by
  rcases h with h | h
  ·exact h1 h
  ·exact h2 h
 have ha : all 16 key = key := all_len hk
 have hl := keysF_len key s
 have k0 : expP key (pur ++ s) = true := by simp only [expP, Bool.and_eq_true, decide_eq_true_eq, pur_size]; omega
 rw [ite_f (Bool.eq_false_iff.2 h1), ite_f (decide_eq_false (by omega)), chk_eval (decide_eq_true (by omega)), ha, chk_eval k0, keysF_E, if_neg hb]
 unfold hideF codeF at hp ⊢
 generalize keysF key s = K at hl hp
 have c1 : cut K 0 16 = K.take 16 := cut_to K 16
 have c2 : cut K 16 (K.length : Int) = K.drop 16 := cut_from K 16
 have c3 : (K.take 16).take 16 = K.take 16 := by rw [List.take_take, Nat.min_self]
 have k1 : cutOK K 0 16 = true := cut_ok (a := 0) (b := 16) (by omega) (by omega)
 have k2 : cutOK K 16 (K.length : Int) = true := cut_ok (a := 16) (by omega) (Nat.le_refl _)
 have k3 : decide (16 ≤ (K.take 16).length) = true := decide_eq_true (by rw [List.length_take]; omega)
 simp only [c1, c2, c3]
 rw [ite_f (by rfl), chk_eval k1, chk_eval k3, chk_eval k2, chk_eval hp]
 rfl
theorem code_short (key : List Int) (s : ByteArray) : shortP (codeF key s) = true := decide_eq_true (by rw [code_len]; omega)
def sealF (key : List Int) (s : ByteArray) (first plain : List Int) : Rs := withF key s fun h k => sealK h k plain first
def openF (key : List Int) (s : ByteArray) (b : List Int) : Rs := withF key s fun h k => openK h k b
def s47s : CSpec := .pos nWS (fun xs hs => decide (xs.2.1.size ≤ 9223372036854775807)) fun xs hs => (sealF xs.1 xs.2.1 hs.2.1 hs.1, ())
def s47o : CSpec := .pos nWO (fun xs hs => decide (xs.2.1.size ≤ 9223372036854775807)) fun xs hs => (openF xs.1 xs.2.1 hs.1, ())
theorem cWS_sound : CtxSound Try.prog (ctx (cWS expF expP (fun h k p f => sealK h k p f) fun _ k _ _ => shortP k)) ∧ CtxLocal (ctx (cWS expF expP (fun h k p f => sealK h k p f) fun _ k _ _ => shortP k)) := ctx_sound ⟨Mac.ok30, ok48, trivial⟩
theorem cWO_sound : CtxSound Try.prog (ctx (cWO expF expP (fun h k b => openK h k b) fun _ k _ => shortP k)) ∧ CtxLocal (ctx (cWO expF expP (fun h k b => openK h k b) fun _ k _ => shortP k)) := ctx_sound ⟨Mac.ok30, ok50, trivial⟩
theorem ok47s : CSound Try.prog 83 s47s ∧ CLocal s47s :=
 pos_sound (L := L0) cWS_sound Try.func83 (by kernel_rfl) (noLoopsL (by kernel_rfl)) fun xs hs hx hh hp => by
  obtain ⟨key, s, u, u1⟩ := xs
  obtain ⟨plain, first, u2⟩ := hs
  exact (tWS expF expP (fun h k p f => sealK h k p f) (fun _ k _ _ => shortP k) key s plain first).trans (TW_eq hx.1.1 (of_decide_eq_true hp) _ (code_short key s))
theorem ok47o : CSound Try.prog 83 s47o ∧ CLocal s47o :=
 pos_sound (L := L0) cWO_sound Try.func83 (by kernel_rfl) (noLoopsL (by kernel_rfl)) fun xs hs hx hh hp => by
  obtain ⟨key, s, u, u1⟩ := xs
  obtain ⟨b, u2⟩ := hs
  exact (tWO expF expP (fun h k b => openK h k b) (fun _ k _ => shortP k) key s b).trans (TW_eq hx.1.1 (of_decide_eq_true hp) _ (code_short key s))
def strP (s : ByteArray) : Bool := decide (s.size ≤ 9223372036854775807)
def s36 : CSpec := .pos nSe (fun xs _ => strP xs.2.1) fun xs _ => (sealF xs.1 xs.2.1 xs.2.2.1 xs.2.2.2.1, ())
theorem ok36 : CSound Try.prog 48 s36 ∧ CLocal s36 :=
 pos_sound (C := ctx (cSe (fun k s p f => sealF k s f p) fun _ s _ _ => strP s)) (L := L0) (ctx_sound ⟨ok47s, trivial⟩) Try.func48 (by kernel_rfl) (noLoopsL (by kernel_rfl)) fun xs hs hx hh hp => by
  obtain ⟨key, s, first, plain, u⟩ := xs
  exact (tSe (fun k s p f => sealF k s f p) (fun _ s _ _ => strP s) key s first plain).trans (chk_eval hp _)
def s38 : CSpec := .pos nOp (fun xs _ => strP xs.2.1) fun xs _ => (openF xs.1 xs.2.1 xs.2.2.1, ())
theorem ok38 : CSound Try.prog 51 s38 ∧ CLocal s38 :=
 pos_sound (C := ctx (cOp (fun k s b => openF k s b) fun _ s _ => strP s)) (L := L0) (ctx_sound ⟨ok47o, trivial⟩) Try.func51 (by kernel_rfl) (noLoopsL (by kernel_rfl)) fun xs hs hx hh hp => by
  obtain ⟨key, s, b, u⟩ := xs
  exact (tOp (fun k s b => openF k s b) (fun _ s _ => strP s) key s b).trans (chk_eval hp _)
end Go.Proofs.Ytaffancdidgkhaa.Seal
end
section
set_option linter.unusedVariables false
set_option maxRecDepth 100000
namespace Go.Proofs.Ytaffancdidgkhaa.Seal
open Go Vse Go.Proofs Gen
open Ctr (B16 flX flipF flipP rflipF encRF rnextF)
open Mac (macF macP macF_len expF expP expX expL rexpF rmacF eqF oneP)
theorem copy_step {b h : List Int} {k : Nat} (h1 : k < h.length) (h2 : k < b.length) : (b.take k ++ h.drop k).set k (b.getD k 0) = b.take (k + 1) ++ h.drop (k + 1) := by
 have hl : (b.take k).length = k := by rw [List.length_take]; omega
 have hg : b.getD k 0 = b[k] := by rw [List.getD_eq_getElem?_getD, List.getElem?_eq_getElem h2]; rfl
 rw [List.set_append_right _ _ (by omega), hl, Nat.sub_self, List.drop_eq_getElem_cons h1, List.set_cons_zero, hg, ← List.take_append_getElem h2, List.append_assoc]
 rfl
theorem copy_all {b h : List Int} (h1 : h.length = 16) : b.take 16 ++ h.drop 16 = b.take 16 := by rw [List.drop_eq_nil_of_le (by omega), List.append_nil]
def cK1 (b : List Int) (i : Int) (h : List Int) : Bool := decide (16 ≤ b.length ∧ b.length ≤ 100000) && (decide (i = 0) && decide (h.length = 16))
theorem mK {b h : List Int} (hb : 16 ≤ b.length) (hh : h.length = 16) (r : List Int) : ∀ (m k : Nat), k + m = 16 →
  SK.many (bodyK Try.prog (ctx (cK rexpF expP)) L0 bK) (m + 1) ((), b, (), (k : Int), ()) (r, b.take k ++ h.drop k, ()) = some (.exit 0, encS [4, 6, 8] [.ptr 1 [], bt, .ptr 2 []] eK 31 ((), b, (), ()) (r, b.take 16, ()))
 | 0, k, hk => by
  refine rmany_inr ((rK rexpF expP b _ r _).trans ?_) 0
  have : k = 16 := by omega
  subst this
  unfold GK
  rw [ite_f (decide_eq_false (by omega)), copy_all hh]
  rfl
 | m + 1, k, hk => by
  have e1 : w ((k : Int) + 1) = ((k + 1 : Nat) : Int) := (w_id (by omega) (by omega)).trans (by omega)
  refine (rmany_inl (d := (((), b, (), ((k + 1 : Nat) : Int), ()), (r, b.take (k + 1) ++ h.drop (k + 1), ()))) ((rK rexpF expP b _ r _).trans ?_) (m + 1)).trans (mK hb hh r m (k + 1) (by omega))
  unfold GK
  rw [Int.toNat_natCast, ite_t (decide_eq_true (by omega)), chk_eval (Ctr.inArr_nat (by omega)), chk_eval (Ctr.inArrK64 (by omega) (by omega) (by omega)), e1, copy_step (by omega) (by omega)]
  rfl
theorem cK_sound : CtxSound Try.prog (ctx (cK rexpF expP)) ∧ CtxLocal (ctx (cK rexpF expP)) := ctx_sound ⟨Mac.ok32, trivial⟩
theorem lK : LoopOK Try.prog (LK cK1 fun b => b.take 16) bK :=
 rloop_ok (L := LK cK1 fun b => b.take 16) (L' := L0) cK_sound (loopsOK_of (by kernel_rfl)) SK (F := FK cK1 fun b => b.take 16) (i := 4) (by kernel_rfl) (fun _ => rfl) fun xs hs r h => by
  obtain ⟨u1, b, u2, i, u3⟩ := xs
  obtain ⟨q, h0, u4⟩ := hs
  obtain ⟨h1, h2⟩ := Tr.chk_some h
  simp only [cK1, Bool.and_eq_true, decide_eq_true_eq] at h1
  obtain ⟨⟨e1, _⟩, e2, e3⟩ := h1
  have e2 : i = ((0 : Nat) : Int) := e2
  subst e2
  have := mK e1 e3 q 16 0 (by omega)
  rw [List.take_zero, List.nil_append, List.drop_zero] at this
  exact ⟨_, this.trans (congrArg some (Tr.ret_some h2))⟩
def pK (key : List Int) (s : ByteArray) : Bool := decide (B16 key) && decide (s.size ≤ 40)
theorem rkeys_E {key : List Int} {s : ByteArray} (hk : B16 key) (hs : s.size ≤ 40) : rexpF key (pur ++ s) 48 = (keysF key s, 0, ()) := by
 rw [← Mac.expand_same hk.1 (by rw [hk.2]; omega) (by rw [pur_size]; omega), keysF_E]
theorem z16_len : z16.length = 16 := List.length_replicate
theorem TK_eq {key : List Int} {s : ByteArray} (hk : B16 key) (hs : s.size ≤ 40) : (TK rexpF expP cK1 (fun b => b.take 16) key s).eval = some ((hideF key s, codeF key s, ()), ()) := by
 have hl := keysF_len key s
 have ha : all 16 key = key := all_len hk.2
 have k0 : expP key (pur ++ s) = true := by simp only [expP, Bool.and_eq_true, decide_eq_true_eq, pur_size, hk.2]; omega
 unfold TK hideF codeF
 rw [ha, rkeys_E hk hs]
 dsimp only
 generalize keysF key s = K at hl
 have k1 : cK1 K 0 z16 = true := by simp only [cK1, z16_len, hl]; rfl
 have c2 : cut K 16 (K.length : Int) = K.drop 16 := cut_from K 16
 have k2 : cutOK K 16 (K.length : Int) = true := cut_ok (a := 16) (by omega) (Nat.le_refl _)
 rw [chk_eval (decide_eq_true (by omega)), chk_eval k0, chk_eval k1, chk_eval k2, c2]
 rfl
def s49 : CSpec := .pos nK (fun xs _ => pK xs.1 xs.2.1) fun xs _ => ((hideF xs.1 xs.2.1, codeF xs.1 xs.2.1, ()), ())
theorem ok49 : CSound Try.prog 87 s49 ∧ CLocal s49 :=
 pos_sound (L := LK cK1 fun b => b.take 16) cK_sound Try.func87 (by kernel_rfl) (loops1 (by kernel_rfl) lK) fun xs hs hx hh hp => by
  obtain ⟨key, s, u⟩ := xs
  have hp : pK key s = true := hp
  simp only [pK, Bool.and_eq_true, decide_eq_true_eq] at hp
  exact (tK rexpF expP cK1 (fun b => b.take 16) key s).trans (TK_eq hp.1 hp.2)
abbrev kF : Kf := fun key s => (hideF key s, codeF key s, ())
abbrev CRF : Ctx := ctx (cR kF pK flipP (fun k a b => rflipF k a b) oneP rmacF)
theorem cR_sound : CtxSound Try.prog CRF ∧ CtxLocal CRF := ctx_sound ⟨ok49, Ctr.ok25, Mac.ok33, okSame, trivial⟩
theorem rflip_len (k a b : List Int) : (rflipF k a b).length = b.length := Ctr.partF_len _ _ _ _ _ _
theorem rmac_len (k b : List Int) : (rmacF k b).length = 32 := Mac.rsumF_len _
def rsealF (key : List Int) (s : ByteArray) (first plain : List Int) : Rs :=
 if badL s then ([], 1, ()) else if plain.length > 1000 then ([], 7, ()) else
  ((first ++ rflipF (hideF key s) first plain) ++ rmacF (codeF key s) (first ++ rflipF (hideF key s) first plain), 0, ())
theorem badL_of {s : ByteArray} (h1 : ¬ (s == ByteArray.empty) = true) (h2 : ¬ s.size > 40) : ¬ badL s := fun h => by
 rcases h with h | h
 ·exact h1 h
 ·exact h2 h
theorem TRS_eq {key first plain : List Int} {s : ByteArray} (hk : B16 key) (hf : first.length = 16) :
  (TRS kF pK flipP (fun k a b => rflipF k a b) oneP rmacF key s first plain).eval = some (rsealF key s first plain, ()) := by
 unfold TRS rsealF
 simp only [List.nil_append]
 by_cases h1 : (s == ByteArray.empty) = true
 ·rw [ite_t h1, if_pos (.inl h1)]; rfl
 by_cases h2 : s.size > 40
 ·rw [ite_f (Bool.eq_false_iff.2 h1), ite_t (decide_eq_true (by omega)), if_pos (.inr h2)]; rfl
 rw [if_neg (badL_of h1 h2), ite_f (Bool.eq_false_iff.2 h1), ite_f (decide_eq_false (by omega))]
 by_cases h3 : plain.length > 1000
 ·rw [if_pos h3, ite_t (decide_eq_true (by omega))]; rfl
 have hp : pK key s = true := by simp only [pK, Bool.and_eq_true, decide_eq_true_eq]; exact ⟨hk, by omega⟩
 have ha : all 16 first = first := all_len hf
 have hr : ∀ a b : Nat, a ≤ 2000 → b ≤ 2000 → Vse.room (a + b) 1 = true := fun a b _ _ => by simp only [Vse.room, decide_eq_true_eq]; omega
 have hcl := code_len key s
 rw [ha]
 generalize hideF key s = H
 generalize codeF key s = C at hcl
 have h5 : (rflipF H first plain).length = plain.length := rflip_len _ _ _
 generalize rflipF H first plain = X at h5
 have hm : oneP C (first ++ X) = true := by simp only [oneP, Bool.and_eq_true, decide_eq_true_eq, List.length_append]; omega
 have h6 : (rmacF C (first ++ X)).length = 32 := rmac_len _ _
 generalize rmacF C (first ++ X) = D at h6
 have hd : all 32 D = D := all_len h6
 rw [hd, if_neg h3, ite_f (decide_eq_false (by omega)), chk_eval hp, chk_eval (hr _ _ (by simp) (by omega)), chk_eval (show flipP plain = true from decide_eq_true (by omega)), chk_eval (hr _ _ (by omega) (by omega)), chk_eval hm,
  chk_eval (hr _ _ (by rw [List.length_append]; omega) (by omega))]
 rfl
def rsP (key : List Int) : Bool := decide (B16 key)
def s37 : CSpec := .pos nSe (fun xs _ => rsP xs.1) fun xs _ => (rsealF xs.1 xs.2.1 xs.2.2.1 xs.2.2.2.1, ())
theorem ok37 : CSound Try.prog 50 s37 ∧ CLocal s37 :=
 pos_sound (L := L0) cR_sound Try.func50 (by kernel_rfl) (noLoopsL (by kernel_rfl)) fun xs hs hx hh hp => by
  obtain ⟨key, s, first, plain, u⟩ := xs
  exact (tRS kF pK flipP (fun k a b => rflipF k a b) oneP rmacF key s first plain).trans (TRS_eq (of_decide_eq_true hp) hx.2.2.1.1)
theorem mO {b h : List Int} (front : List Int) (hb : 16 ≤ b.length) (hh : h.length = 16) (r : List Int) : ∀ (m k : Nat), k + m = 16 →
  SO.many (bodyK Try.prog CRF L0 bO) (m + 1) (b, (), front, (), (k : Int), ()) (r, b.take k ++ h.drop k, ()) = some (.exit 0, encS [8, 10, 12] [.ptr 1 [], bs, .ptr 5 []] eO 67 ((), front, (), ()) (r, b.take 16, ()))
 | 0, k, hk => by
  refine rmany_inr ((rO _ _ _ _ _ _ b front _ r _).trans ?_) 0
  have : k = 16 := by omega
  subst this
  unfold GO
  rw [ite_f (decide_eq_false (by omega)), copy_all hh]
  rfl
 | m + 1, k, hk => by
  have e1 : w ((k : Int) + 1) = ((k + 1 : Nat) : Int) := (w_id (by omega) (by omega)).trans (by omega)
  refine (rmany_inl (d := ((b, (), front, (), ((k + 1 : Nat) : Int), ()), (r, b.take (k + 1) ++ h.drop (k + 1), ()))) ((rO _ _ _ _ _ _ b front _ r _).trans ?_) (m + 1)).trans (mO front hb hh r m (k + 1) (by omega))
  unfold GO
  rw [Int.toNat_natCast, ite_t (decide_eq_true (by omega)), chk_eval (Ctr.inArr_nat (by omega)), chk_eval (Ctr.inArrK64 (by omega) (by omega) (by omega)), e1, copy_step (by omega) (by omega)]
  rfl
theorem lO : LoopOK Try.prog (LO cK1 fun b => b.take 16) bO :=
 rloop_ok (L := LO cK1 fun b => b.take 16) (L' := L0) cR_sound (loopsOK_of (by kernel_rfl)) SO (F := FO cK1 fun b => b.take 16) (i := 14) (by kernel_rfl) (fun _ => rfl) fun xs hs r h => by
  obtain ⟨b, u1, front, u2, i, u3⟩ := xs
  obtain ⟨q, h0, u4⟩ := hs
  obtain ⟨h1, h2⟩ := Tr.chk_some h
  simp only [cK1, Bool.and_eq_true, decide_eq_true_eq] at h1
  obtain ⟨⟨e1, _⟩, e2, e3⟩ := h1
  have e2 : i = ((0 : Nat) : Int) := e2
  subst e2
  have := mO front e1 e3 q 16 0 (by omega)
  rw [List.take_zero, List.nil_append, List.drop_zero] at this
  exact ⟨_, this.trans (congrArg some (Tr.ret_some h2))⟩
def ropenF (key : List Int) (s : ByteArray) (b : List Int) : Rs :=
 if badL s then ([], 1, ()) else if b.length < 48 then ([], 2, ()) else if b.length > 1048 then ([], 7, ()) else
  if sameI (rmacF (codeF key s) (b.take (b.length - 32))) (b.drop (b.length - 32)) = true then (rflipF (hideF key s) (b.take 16) ((b.take (b.length - 32)).drop 16), 0, ()) else ([], 6, ())
theorem TRO_eq {key b : List Int} {s : ByteArray} (hk : B16 key) :
  (TRO kF pK flipP (fun k a b => rflipF k a b) oneP rmacF cK1 (fun b => b.take 16) key s b).eval = some (ropenF key s b, ()) := by
 unfold TRO ropenF
 simp only [List.nil_append]
 by_cases h1 : (s == ByteArray.empty) = true
 ·rw [ite_t h1, if_pos (.inl h1)]; rfl
 by_cases h2 : s.size > 40
 ·rw [ite_f (Bool.eq_false_iff.2 h1), ite_t (decide_eq_true (by omega)), if_pos (.inr h2)]; rfl
 rw [if_neg (badL_of h1 h2), ite_f (Bool.eq_false_iff.2 h1), ite_f (decide_eq_false (by omega))]
 by_cases h3 : b.length < 48
 ·rw [if_pos h3, ite_t (decide_eq_true (by omega))]; rfl
 by_cases h4 : b.length > 1048
 ·rw [if_neg h3, if_pos h4, ite_f (decide_eq_false (by omega)), ite_t (decide_eq_true (by omega))]; rfl
 rw [if_neg h3, if_neg h4, ite_f (decide_eq_false (by omega)), ite_f (decide_eq_false (by omega))]
 have hp : pK key s = true := by simp only [pK, Bool.and_eq_true, decide_eq_true_eq]; exact ⟨hk, by omega⟩
 have hn : w ((b.length : Int) - 32) = ((b.length - 32 : Nat) : Int) := (w_id (by omega) (by omega)).trans (by omega)
 have c0 : cut b 0 ((b.length - 32 : Nat) : Int) = b.take (b.length - 32) := cut_to b _
 have c3 : cut b ((b.length - 32 : Nat) : Int) (b.length : Int) = b.drop (b.length - 32) := cut_from b _
 have k1 : cutOK b 0 ((b.length - 32 : Nat) : Int) = true := cut_ok (a := 0) (by omega) (by omega)
 have k4 : cutOK b ((b.length - 32 : Nat) : Int) (b.length : Int) = true := cut_ok (by omega) (by omega)
 have k0 : cK1 b 0 z16 = true := by simp only [cK1, z16_len, Bool.and_eq_true, decide_eq_true_eq, and_true]; omega
 rw [hn]
 simp only [c0, c3]
 generalize hfr : b.take (b.length - 32) = front
 have hl : front.length = b.length - 32 := by rw [← hfr, List.length_take]; omega
 have c2 : cut front 16 (front.length : Int) = front.drop 16 := cut_from front 16
 have k3 : cutOK front 16 (front.length : Int) = true := cut_ok (a := 16) (by omega) (by omega)
 have k5 : flipP (front.drop 16) = true := decide_eq_true (by rw [List.length_drop]; omega)
 have k6 : Vse.room (([] : List Int).length + front.length) 1 = true := by simp only [Vse.room, decide_eq_true_eq, List.length_nil]; omega
 have hcl := code_len key s
 generalize hideF key s = H
 generalize codeF key s = C at hcl
 have hm : oneP C front = true := by simp only [oneP, Bool.and_eq_true, decide_eq_true_eq]; omega
 have h6 : (rmacF C front).length = 32 := rmac_len _ _
 generalize rmacF C front = D at h6
 have hd : all 32 D = D := all_len h6
 rw [c2, hd, chk_eval hp, chk_eval k1, chk_eval k6, chk_eval hm, chk_eval k4]
 by_cases hq : sameI D (b.drop (b.length - 32)) = true
 ·rw [if_pos hq, ite_f (by rw [hq]; rfl), chk_eval k0, chk_eval k3, chk_eval k5]
  rfl
 ·rw [if_neg hq, ite_t (by rw [Bool.eq_false_iff.2 hq]; rfl)]
  rfl
def s39 : CSpec := .pos nOp (fun xs _ => rsP xs.1) fun xs _ => (ropenF xs.1 xs.2.1 xs.2.2.1, ())
theorem ok39 : CSound Try.prog 53 s39 ∧ CLocal s39 :=
 pos_sound (L := LO cK1 fun b => b.take 16) cR_sound Try.func53 (by kernel_rfl) (loops1 (by kernel_rfl) lO) fun xs hs hx hh hp => by
  obtain ⟨key, s, b, u⟩ := xs
  exact (tRO kF pK flipP (fun k a b => rflipF k a b) oneP rmacF cK1 (fun b => b.take 16) key s b).trans (TRO_eq (of_decide_eq_true hp))
end Go.Proofs.Ytaffancdidgkhaa.Seal
end
section
set_option linter.unusedVariables false
set_option maxRecDepth 100000
namespace Go.Proofs.Ytaffancdidgkhaa.Seal
open Go Vse Go.Proofs Gen
open Ctr (B16 flX flipF flipP rflipF encRF rnextF)
open Mac (macF macP macF_len expF expP expX expL rexpF rmacF eqF oneP)
theorem flip_bytes {key a b : List Int} (hk : B16 key) (ha : B16 a) (hb : Bytes b) : Bytes (flipF key a b) := fun x hx => by
 unfold flipF Ctr.flipG Ctr.partF at hx
 obtain ⟨i, _, rfl⟩ := List.mem_map.1 hx
 exact Aes.xorB (Ctr.byte_get hb i) (Ctr.key_byte hk (Ctr.b16_next ha _) _)
theorem bytes_app {a b : List Int} (ha : Bytes a) (hb : Bytes b) : Bytes (a ++ b) := Mac.bytes_append ha hb
theorem seals_same {key first plain : List Int} {s : ByteArray} (hf : B16 first) (hb : Bytes plain) : sealF key s first plain = rsealF key s first plain := by
 unfold sealF rsealF withF sealK
 by_cases h1 : badL s
 ·rw [if_pos h1, if_pos h1]
 rw [if_neg h1, if_neg h1]
 dsimp only
 by_cases h2 : plain.length > 1000
 ·rw [if_pos h2, if_pos h2]
 rw [if_neg h2, if_neg h2]
 have hh := hide_b16 key s
 have hc := code_bytes key s
 have hl := code_len key s
 generalize hideF key s = H at hh
 generalize codeF key s = C at hc hl
 have e1 : flX H first plain = flipF H first plain := Ctr.flX_eq hf (by omega)
 have e2 : flipF H first plain = rflipF H first plain := Ctr.flips_same hh.1 hh.2 hf.1 hf.2 (by omega)
 have e3 : macF C (first ++ rflipF H first plain) = rmacF C (first ++ rflipF H first plain) :=
  Mac.mac_same hc (bytes_app hf.1 (e2 ▸ flip_bytes hh hf hb)) (by omega) (by rw [List.length_append, rflip_len, hf.2]; omega)
 rw [e1, e2, e3]
theorem opens_same {key b : List Int} {s : ByteArray} (hb : Bytes b) : openF key s b = ropenF key s b := by
 unfold openF ropenF withF openK
 by_cases h1 : badL s
 ·rw [if_pos h1, if_pos h1]
 rw [if_neg h1, if_neg h1]
 dsimp only
 by_cases h2 : b.length < 48
 ·rw [if_pos h2, if_pos h2]
 rw [if_neg h2, if_neg h2]
 by_cases h3 : b.length > 1048
 ·rw [if_pos h3, if_pos h3]
 rw [if_neg h3, if_neg h3]
 have hh := hide_b16 key s
 have hc := code_bytes key s
 have hl := code_len key s
 generalize hideF key s = H at hh
 generalize codeF key s = C at hc hl
 have hf : B16 (b.take 16) := ⟨bytes_take hb 16, by rw [List.length_take]; omega⟩
 have e3 : macF C (b.take (b.length - 32)) = rmacF C (b.take (b.length - 32)) := Mac.mac_same hc (bytes_take hb _) (by omega) (by rw [List.length_take]; omega)
 have e4 : eqF (macF C (b.take (b.length - 32))) (b.drop (b.length - 32)) = sameI (rmacF C (b.take (b.length - 32))) (b.drop (b.length - 32)) := by
  rw [← e3]
  exact Mac.eq_same (Mac.bytes_mac _ _) (bytes_drop hb _)
 have e1 : flX H (b.take 16) ((b.take (b.length - 32)).drop 16) = rflipF H (b.take 16) ((b.take (b.length - 32)).drop 16) :=
  (Ctr.flX_eq hf (by rw [List.length_drop, List.length_take]; omega)).trans (Ctr.flips_same hh.1 hh.2 hf.1 hf.2 (by rw [List.length_drop, List.length_take]; omega))
 rw [e4, e1]
theorem flX_len {k a b : List Int} (ha : B16 a) (hb : b.length ≤ 1000000) : (flX k a b).length = b.length := by rw [Ctr.flX_eq ha hb, Ctr.flip_len]
theorem flX_twice {k a b : List Int} (hk : B16 k) (ha : B16 a) (hb : Bytes b) (hl : b.length ≤ 1000000) : flX k a (flX k a b) = b := by
 rw [Ctr.flX_eq ha hl, Ctr.flX_eq ha (by rw [Ctr.flip_len]; exact hl)]
 exact Ctr.flip_twice hk ha hb
theorem open_seal {hide seals first plain : List Int} (hh : B16 hide) (hf : B16 first) (hb : Bytes plain) (hl : plain.length ≤ 1000) :
  openK hide seals ((first ++ flX hide first plain) ++ macF seals (first ++ flX hide first plain)) = (plain, 0, ()) := by
 have l1 : (flX hide first plain).length = plain.length := flX_len hf (by omega)
 have l2 : first.length = 16 := hf.2
 have e := flX_twice hh hf hb (by omega)
 generalize flX hide first plain = X at l1 e
 have l3 := macF_len seals (first ++ X)
 generalize hD : macF seals (first ++ X) = D at l3
 have hlen : ((first ++ X) ++ D).length = 48 + plain.length := by rw [List.length_append, List.length_append]; omega
 have t1 : ((first ++ X) ++ D).length - 32 = (first ++ X).length := by rw [List.length_append, List.length_append]; omega
 have t2 : ((first ++ X) ++ D).take 16 = first := by
  rw [List.append_assoc, ← l2, List.take_left]
 unfold openK
 rw [if_neg (by omega), if_neg (by omega), t1, List.take_left, List.drop_left, hD, if_pos (Mac.eqF_self D), t2, ← l2, List.drop_left, e]
end Go.Proofs.Ytaffancdidgkhaa.Seal
end
section
set_option linter.unusedVariables false
set_option maxRecDepth 100000
namespace Go.Proofs.Ytaffancdidgkhaa.Fld
open Go Vse Go.Proofs
abbrev i64 : Ty := .int .i64
abbrev u8 : Ty := .int .u8
abbrev bs : Ty := .imm false false u8
abbrev bt : Ty := .imm true false u8
abbrev w (x : Int) : Int := IntKind.i64.wrap x
abbrev wb (x : Int) : Int := IntKind.u8.wrap x
theorem w_id {x : Int} (h : -9223372036854775808 ≤ x) (h' : x ≤ 9223372036854775807) : w x = x := by
 simp [IntKind.wrap, IntKind.signed, IntKind.bits]
 split <;> omega
theorem nil_sound : CtxSound Try.prog (ctx []) ∧ CtxLocal (ctx []) := ctx_sound trivial
def S19 : LSpec := ⟨[0, 1, 5], [4], 26, [bs, bs, i64], []⟩
noncomputable def b19 : Code := loopAt Try.f19 0
def G19 (xs : HL S19.Ts) (hs : HD S19.Es) : Tr S19.End :=
 let a := xs.1
 let b := xs.2.1
 let i := xs.2.2.1
 .ite (decide (i < (a.length : Int))) (.chk (inArr i a.length) (.chk (inArr i b.length) (.ite (a.getD i.toNat 0 != b.getD i.toNat 0)
  (.ret (.inr (.ret, encS [4] [.bool] [] 26 (false, ()) ()))) (.ret (.inl ((a, b, w (i + 1), ()), ()))))))
  (.ret (.inr (.exit 0, encS [] [] [] 26 () ())))
theorem r19 (a b : List Int) (i : Int) : (S19.round (bodyK Try.prog (ctx []) L0 b19) (a, b, i, ()) ()).eval = (G19 (a, b, i, ()) ()).eval := by kernel_rfl
def F19 (xs : HL S19.Ts) (hs : HD S19.Es) : Tr (Ex × St) :=
 .chk (decide (xs.2.2.1 = (0 : Int)) && (decide (xs.1.length = xs.2.1.length) && decide (xs.1.length ≤ 9223372036854775807)))
  (.ite (decide (xs.1 = xs.2.1)) (.ret (.exit 0, encS [] [] [] 26 () ())) (.ret (.ret, encS [4] [.bool] [] 26 (false, ()) ())))
def L19 : Loops := fun j st => if j = 4 then S19.fn F19 st else .fail
theorem k19 (a b : List Int) (hab : a.length = b.length) (hm : a.length ≤ 9223372036854775807) : ∀ (m k : Nat), k + m = a.length → S19.many (bodyK Try.prog (ctx []) L0 b19) (m + 1) (a, b, (k : Int), ()) () =
  if a.drop k = b.drop k then some (.exit 0, encS [] [] [] 26 () ()) else some (.ret, encS [4] [.bool] [] 26 (false, ()) ())
 | 0, k, h => by
  have e1 : a.drop k = [] := List.drop_eq_nil_of_le (by omega)
  have e2 : b.drop k = [] := List.drop_eq_nil_of_le (by omega)
  rw [e1, e2, if_pos rfl]
  refine many_inr ((r19 a b k).trans ?_) 0
  simp only [G19, Tr.eval, decide_eq_false (show ¬ ((k : Int) < (a.length : Int)) by omega)]
 | m + 1, k, h => by
  have h1 : k < a.length := by omega
  have h2 : k < b.length := by omega
  have i1 : inArr (k : Int) a.length = true := by simp [inArr]; omega
  have i2 : inArr (k : Int) b.length = true := by simp [inArr]; omega
  have g1 : a.getD k 0 = a[k] := by rw [List.getD_eq_getElem?_getD, List.getElem?_eq_getElem h1]; rfl
  have g2 : b.getD k 0 = b[k] := by rw [List.getD_eq_getElem?_getD, List.getElem?_eq_getElem h2]; rfl
  have hiff : a.drop k = b.drop k ↔ a[k] = b[k] ∧ a.drop (k + 1) = b.drop (k + 1) := by
   rw [List.drop_eq_getElem_cons h1, List.drop_eq_getElem_cons h2, List.cons.injEq]
  by_cases hk : a[k] = b[k]
  ·refine (many_inl (d := ((a, b, ((k + 1 : Nat) : Int), ()), ())) ((r19 a b k).trans ?_) (m + 1)).trans ((k19 a b hab hm m (k + 1) (by omega)).trans ?_)
   ·simp only [G19, Tr.eval, Tr.chk, decide_eq_true (show ((k : Int) < (a.length : Int)) by omega), i1, i2, Int.toNat_natCast, g1, g2, hk, bne_self_eq_false]
    rw [w_id (by omega) (by omega)]; rfl
   ·by_cases hd : a.drop (k + 1) = b.drop (k + 1)
    ·rw [if_pos hd, if_pos (hiff.2 ⟨hk, hd⟩)]
    ·rw [if_neg hd, if_neg fun h => hd (hiff.1 h).2]
  ·rw [if_neg fun h => hk (hiff.1 h).1]
   refine many_inr ((r19 a b k).trans ?_) (m + 1)
   have : (a[k] != b[k]) = true := by simp [hk]
   simp only [G19, Tr.eval, Tr.chk, decide_eq_true (show ((k : Int) < (a.length : Int)) by omega), i1, i2, Int.toNat_natCast, g1, g2, this]
theorem l19 : LoopOK Try.prog L19 b19 :=
 loop_ok (L := L19) (L' := L0) nil_sound (loopsOK_of (by kernel_rfl)) S19 (by kernel_rfl) (F := F19) (i := 4) (by kernel_rfl) (fun _ => rfl) fun xs hs r h => by
  obtain ⟨a, b, i, u⟩ := xs
  obtain ⟨h1, h2⟩ := Tr.chk_some h
  simp only [Bool.and_eq_true, decide_eq_true_eq] at h1
  obtain ⟨e1, e2, e3⟩ := h1
  have e1 : i = ((0 : Nat) : Int) := e1
  subst e1
  refine ⟨_, (k19 a b e2 e3 a.length 0 (by omega)).trans ?_⟩
  simp only [List.drop_zero]
  rcases Tr.ite_some h2 with ⟨hd, h2⟩ | ⟨hd, h2⟩
  ·rw [if_pos (of_decide_eq_true hd), Tr.ret_some h2]
  ·rw [if_neg (of_decide_eq_false hd), Tr.ret_some h2]
def sameI (a b : List Int) : Bool := decide (a = b)
def s19 : CSpec := .sl1 [bs, bs] .bool fun x => sameI x.1 x.2.1
theorem r19f (a b : List Int) : (fnS Try.prog (ctx []) L19 [.bool] Try.f19 (mkArgs [bs, bs] (a, b, ()))).fold1 .bool =
  bif ((a.length : Int) != (b.length : Int)) then false else (bif decide (a = b) then true else false) := by kernel_rfl
theorem f19f (a b : List Int) : (fnS Try.prog (ctx []) L19 [.bool] Try.f19 (mkArgs [bs, bs] (a, b, ()))).fine [.bool] =
  ((decide (a.length = b.length) && decide (a.length ≤ 9223372036854775807)) || ((a.length : Int) != (b.length : Int))) := by kernel_rfl
theorem ok19 : CSound Try.prog 19 s19 ∧ CLocal s19 :=
 sl_ok1 (L := L19) nil_sound Try.func19 (by kernel_rfl) (fun b hb => by
  have : loopsOf (bodyOf Try.f19) = [b19] := by kernel_rfl
  rw [this] at hb
  rw [List.mem_singleton.1 hb]
  exact l19) (fun xs hx => by
   obtain ⟨a, b, u⟩ := xs
   have hl : List.length (α := Int) a ≤ 9223372036854775807 := hx.1.1
   refine (f19f a b).trans ?_
   by_cases h : List.length (α := Int) a = List.length (α := Int) b
   ·simp [h] at hl ⊢; omega
   ·simp; omega) (fun xs hx => by
   obtain ⟨a, b, u⟩ := xs
   refine (r19f a b).trans ?_
   show _ = decide (a = b)
   by_cases h : List.length (α := Int) a = List.length (α := Int) b
   ·have : ((List.length (α := Int) a : Int) != (List.length (α := Int) b : Int)) = false := by simp [h]
    rw [this]
    cases decide (a = b) <;> rfl
   ·have : ((List.length (α := Int) a : Int) != (List.length (α := Int) b : Int)) = true := by simp; omega
    rw [this]
    have hne : decide (a = b) = false := decide_eq_false (by rintro rfl; exact h rfl)
    rw [hne]; rfl)
def s58 : CSpec := .slp1 [.imm false true u8] (fun x => decide (List.length (α := Int) x.1 ≤ 140737488355328)) bt fun x => x.1
theorem f58 (a : List Int) : (fnS Try.prog (ctx []) L0 [bt] Try.f92 (mkArgs [.imm false true u8] (a, ()))).fine [bt] = (room (([] : List Int).length + a.length) 1 || false) := by kernel_rfl
theorem r58 (a : List Int) : (fnS Try.prog (ctx []) L0 [bt] Try.f92 (mkArgs [.imm false true u8] (a, ()))).fold1 bt = a := by kernel_rfl
theorem ok58 : CSound Try.prog 92 s58 ∧ CLocal s58 :=
 slp_ok1 (L := L0) nil_sound Try.func92 (by kernel_rfl) (fun b hb => by
  have : loopsOf (bodyOf Try.f92) = [] := by kernel_rfl
  rw [this] at hb; cases hb) (fun xs hx hp => by
   refine (f58 xs.1).trans ?_
   have hp := of_decide_eq_true hp
   simp only [room, Bool.or_false, decide_eq_true_eq, List.length_nil]
   omega) (fun xs hx hp => r58 xs.1)
end Go.Proofs.Ytaffancdidgkhaa.Fld
end
section
set_option linter.unusedVariables false
set_option maxRecDepth 100000
namespace Go.Proofs.Ytaffancdidgkhaa.Fld
open Go Vse Go.Proofs
abbrev t16 : Ty := .arr 16 u8
theorem len8 {l : List Int} (h : l.length = 8) : ∃ x0 x1 x2 x3 x4 x5 x6 x7, l = [x0, x1, x2, x3, x4, x5, x6, x7] := by
 match l, h with
 | [x0, x1, x2, x3, x4, x5, x6, x7], _ => exact ⟨_, _, _, _, _, _, _, _, rfl⟩
def S29 : LSpec := ⟨[4, 10, 11, 12], [4], 23, [i64, bs, i64, i64], []⟩
noncomputable def b29 : Code := loopAt Try.f81 0
def take1 (a : List Int) : Int := a.foldl (fun v c => orI .i64 (shlI .i64 v 8) (w c)) 0
def F29 (xs : HL S29.Ts) (hs : HD S29.Es) : Tr (Ex × St) :=
 .chk (decide (xs.1 = (0 : Int)) && (decide (List.length (α := Int) xs.2.1 = 8) && (decide (xs.2.2.1 = (8 : Int)) && decide (xs.2.2.2.1 = (0 : Int))))) (.ret (.exit 0, encS [4] [i64] [] 23 (take1 xs.2.1, ()) ()))
def L29 : Loops := fun j st => if j = 5 then S29.fn F29 st else .fail
theorem k29 (x0 x1 x2 x3 x4 x5 x6 x7 : Int) : S29.many (bodyK Try.prog (ctx []) L0 b29) 9 ((0 : Int), [x0, x1, x2, x3, x4, x5, x6, x7], (8 : Int), (0 : Int), ()) () =
  some (.exit 0, encS [4] [i64] [] 23 (take1 [x0, x1, x2, x3, x4, x5, x6, x7], ()) ()) := by kernel_rfl
theorem l29 : LoopOK Try.prog L29 b29 :=
 loop_ok (L := L29) (L' := L0) nil_sound (loopsOK_of (by kernel_rfl)) S29 (by kernel_rfl) (F := F29) (i := 5) (by kernel_rfl) (fun _ => rfl) fun xs hs r h => by
  obtain ⟨n, a, m, i, u⟩ := xs
  obtain ⟨h1, h2⟩ := Tr.chk_some h
  have := Tr.ret_some h2
  simp only [Bool.and_eq_true, decide_eq_true_eq] at h1
  obtain ⟨e1, e2, e3, e4⟩ := h1
  have e1 : n = (0 : Int) := e1
  have e3 : m = (8 : Int) := e3
  have e4 : i = (0 : Int) := e4
  subst e1; subst e3; subst e4
  obtain ⟨x0, x1, x2, x3, x4, x5, x6, x7, rfl⟩ := len8 e2
  exact ⟨9, (k29 ..).trans (congrArg some this)⟩
def s29 : CSpec := .sl [bs] [i64, i64] fun x => bif decide (List.length (α := Int) x.1 = 8) then (take1 x.1, 0, ()) else (0, 3, ())
theorem r29 (a : List Int) : (fnS Try.prog (ctx []) L29 [i64, i64] Try.f81 (mkArgs [bs] (a, ()))).fold [i64, i64] = bif ((a.length : Int) != 8) then (0, 3, ()) else (take1 a, 0, ()) := by kernel_rfl
theorem f29 (a : List Int) : (fnS Try.prog (ctx []) L29 [i64, i64] Try.f81 (mkArgs [bs] (a, ()))).fine [i64, i64] =
 ((decide (a.length = 8) && (decide ((a.length : Int) = 8) && true)) || ((a.length : Int) != 8)) := by kernel_rfl
theorem ne8 (a : List Int) (k : Nat) : ((a.length : Int) != (k : Int)) = !decide (a.length = k) := by
 by_cases h : a.length = k
 ·simp [h]
 ·simp only [h, decide_false, Bool.not_false, bne_iff_ne, ne_eq]; omega
theorem ok29 : CSound Try.prog 81 s29 ∧ CLocal s29 :=
 sl_ok (L := L29) nil_sound Try.func81 (by kernel_rfl) (fun b hb => by
  have : loopsOf (bodyOf Try.f81) = [b29] := by kernel_rfl
  rw [this] at hb
  rw [List.mem_singleton.1 hb]
  exact l29) (fun xs hx => by
   refine (f29 xs.1).trans ?_
   rw [show (8 : Int) = ((8 : Nat) : Int) from rfl, ne8]
   by_cases h : List.length (α := Int) xs.1 = 8 <;> simp [h]) (fun xs hx => by
   refine (r29 xs.1).trans ?_
   rw [show (8 : Int) = ((8 : Nat) : Int) from rfl, ne8]
   show _ = bif decide (List.length (α := Int) xs.1 = 8) then (take1 xs.1, (0 : Int), ()) else ((0 : Int), (3 : Int), ())
   cases decide (List.length (α := Int) xs.1 = 8) <;> rfl)
abbrev u64 : Ty := .int .u64
def z16 : List Int := List.replicate 16 0
def wordI (a : List Int) : HL [t16, i64] := bif decide (a.length = 16) then (a, 0, ()) else (z16, 3, ())
def s31 : CSpec := .sl [bs] [t16, i64] fun x => wordI x.1
theorem r31 (a : List Int) : (fnS Try.prog (ctx []) L0 [t16, i64] Try.f80 (mkArgs [bs] (a, ()))).fold [t16, i64] = bif ((a.length : Int) != 16) then (z16, 3, ()) else (a.take 16, 0, ()) := by kernel_rfl
theorem f31 (a : List Int) : (fnS Try.prog (ctx []) L0 [t16, i64] Try.f80 (mkArgs [bs] (a, ()))).fine [t16, i64] = (decide (16 ≤ a.length) || ((a.length : Int) != 16)) := by kernel_rfl
theorem ok31 : CSound Try.prog 80 s31 ∧ CLocal s31 :=
 sl_ok (L := L0) nil_sound Try.func80 (by kernel_rfl) (fun b hb => by
  have : loopsOf (bodyOf Try.f80) = [] := by kernel_rfl
  rw [this] at hb; cases hb) (fun xs hx => by
   refine (f31 xs.1).trans ?_
   rw [show (16 : Int) = ((16 : Nat) : Int) from rfl, ne8]
   by_cases h : List.length (α := Int) xs.1 = 16 <;> simp [h]) (fun xs hx => by
   refine (r31 xs.1).trans ?_
   rw [show (16 : Int) = ((16 : Nat) : Int) from rfl, ne8]
   show _ = wordI xs.1
   unfold wordI
   by_cases h : List.length (α := Int) xs.1 = 16
   ·have : List.take (α := Int) 16 xs.1 = xs.1 := List.take_of_length_le (by omega)
    rw [decide_eq_true h, this]; rfl
   ·rw [decide_eq_false h]; rfl)
end Go.Proofs.Ytaffancdidgkhaa.Fld
end
section
set_option linter.unusedVariables false
set_option maxRecDepth 100000
namespace Go.Proofs.Ytaffancdidgkhaa.Fld
open Go Vse Go.Proofs
def lo (u : Int) : Int := wb (u.tmod 256)
def badC (c : Int) : Bool := bif (bif decide (c < 97) then true else decide (c > 122)) then (bif decide (c < 48) then true else decide (c > 57)) else false
def S36 : LSpec := ⟨[0, 6, 7, 8], [0, 2], 34, [.str, .imm true true u8, i64, i64], []⟩
noncomputable def b36 : Code := loopAt Try.f57 0
def G36 (xs : HL S36.Ts) (hs : HD S36.Es) : Tr S36.End :=
 let a := xs.2.1
 let i := xs.2.2.2.1
 let c := List.getD (α := Int) a i.toNat 0
 let B : Tr S36.End := .ret (.inr (.ret, encS [0, 2] [.str, .bool] [] 34 (xs.1, false, ()) ()))
 let N : Tr S36.End := .ret (.inl ((xs.1, a, xs.2.2.1, w (i + 1), ()), ()))
 let X : Tr S36.End := .ite (decide (c < 48)) B (.ite (decide (c > 57)) B N)
 .ite (decide (i < xs.2.2.1)) (.chk (inArr i (List.length (α := Int) a)) (.ite (decide (c < 97)) X (.ite (decide (c > 122)) X N)))
  (.ret (.inr (.exit 0, encS [0] [.str] [] 34 (xs.1, ()) ())))
theorem r36 (s : ByteArray) (a : List Int) (n i : Int) : (S36.round (bodyK Try.prog (ctx []) L0 b36) (s, a, n, i, ()) ()).eval = (G36 (s, a, n, i, ()) ()).eval := by kernel_rfl
def okN (a : List Int) : Bool := a.all fun c => !badC c
def F36 (xs : HL S36.Ts) (hs : HD S36.Es) : Tr (Ex × St) :=
 .chk (decide (xs.2.2.2.1 = (0 : Int)) && (decide (xs.2.2.1 = (List.length (α := Int) xs.2.1 : Int)) && decide (List.length (α := Int) xs.2.1 ≤ 9223372036854775807)))
  (.ite (okN xs.2.1) (.ret (.exit 0, encS [0] [.str] [] 34 (xs.1, ()) ())) (.ret (.ret, encS [0, 2] [.str, .bool] [] 34 (xs.1, false, ()) ())))
noncomputable def L36 : Loops := fun j st => if j = 2 then S36.fn F36 st else .fail
theorem g36 (s : ByteArray) (a : List Int) (k : Nat) (hk : k < a.length) : (G36 (s, a, (a.length : Int), (k : Int), ()) ()).eval =
  bif badC a[k] then some (.inr (.ret, encS [0, 2] [.str, .bool] [] 34 (s, false, ()) ())) else some (.inl ((s, a, (a.length : Int), w ((k : Int) + 1), ()), ())) := by
 have i1 : inArr (k : Int) (List.length (α := Int) a) = true := by simp [inArr]; omega
 have g1 : List.getD (α := Int) a k 0 = a[k] := by rw [List.getD_eq_getElem?_getD, List.getElem?_eq_getElem hk]; rfl
 simp only [G36, Tr.eval, Tr.chk, decide_eq_true (show ((k : Int) < (a.length : Int)) by omega), i1, Int.toNat_natCast, g1, badC]
 cases decide (a[k] < 97) <;> cases decide (a[k] > 122) <;> cases decide (a[k] < 48) <;> cases decide (a[k] > 57) <;> rfl
theorem k36 (s : ByteArray) (a : List Int) (hm : a.length ≤ 9223372036854775807) : ∀ (m k : Nat), k + m = a.length → S36.many (bodyK Try.prog (ctx []) L0 b36) (m + 1) (s, a, (a.length : Int), (k : Int), ()) () =
  bif okN (a.drop k) then some (.exit 0, encS [0] [.str] [] 34 (s, ()) ()) else some (.ret, encS [0, 2] [.str, .bool] [] 34 (s, false, ()) ())
 | 0, k, h => by
  have e1 : a.drop k = [] := List.drop_eq_nil_of_le (by omega)
  rw [e1]
  refine many_inr ((r36 s a _ k).trans ?_) 0
  simp only [G36, Tr.eval, decide_eq_false (show ¬ ((k : Int) < (a.length : Int)) by omega)]
 | m + 1, k, h => by
  have h1 : k < a.length := by omega
  rw [List.drop_eq_getElem_cons h1]
  simp only [okN, List.all_cons]
  have hg := (r36 s a (a.length : Int) k).trans (g36 s a k h1)
  cases hb : badC a[k] with
  | true =>
   rw [hb] at hg
   exact many_inr hg (m + 1)
  | false =>
   rw [hb] at hg
   refine (many_inl hg (m + 1)).trans ?_
   rw [w_id (by omega) (by omega)]
   have := k36 s a hm m (k + 1) (by omega)
   simpa [okN] using this
theorem l36 : LoopOK Try.prog L36 b36 :=
 loop_ok (L := L36) (L' := L0) nil_sound (loopsOK_of (by kernel_rfl)) S36 (by kernel_rfl) (F := F36) (i := 2) (by kernel_rfl) (fun _ => rfl) fun xs hs r h => by
  obtain ⟨s, a, n, i, u⟩ := xs
  obtain ⟨h1, h2⟩ := Tr.chk_some h
  simp only [Bool.and_eq_true, decide_eq_true_eq] at h1
  obtain ⟨e1, e2, e3⟩ := h1
  have e1 : i = ((0 : Nat) : Int) := e1
  have e2 : n = (List.length (α := Int) a : Int) := e2
  subst e1; subst e2
  refine ⟨_, (k36 s a e3 (List.length (α := Int) a) 0 (by omega)).trans ?_⟩
  simp only [List.drop_zero]
  rcases Tr.ite_some h2 with ⟨hd, h2⟩ | ⟨hd, h2⟩
  ·have hd : okN a = true := hd
   rw [hd, ← Tr.ret_some h2]; rfl
  ·have hd : okN a = false := hd
   rw [hd, ← Tr.ret_some h2]; rfl
def nameI (s : ByteArray) : Bool := okN (strBytes s) && (decide (1 ≤ s.size) && decide (s.size ≤ 20))
def s36 : CSpec := .sl1 [.str] .bool fun x => nameI x.1
theorem r36f (s : ByteArray) : (fnS Try.prog (ctx []) L36 [.bool] Try.f57 (mkArgs [.str] (s, ()))).fold1 .bool =
  bif okN (strBytes s) then (bif (s != ByteArray.empty) then decide ((s.size : Int) ≤ 20) else false) else false := by kernel_rfl
theorem f36f (s : ByteArray) : (fnS Try.prog (ctx []) L36 [.bool] Try.f57 (mkArgs [.str] (s, ()))).fine [.bool] =
  (decide (((strBytes s).length : Int) = ((strBytes s).length : Int)) && decide ((strBytes s).length ≤ 9223372036854775807)) := by kernel_rfl
def S37 : LSpec := ⟨[0, 3], [0, 2], 42, [.str, i64], []⟩
noncomputable def b37 : Code := loopAt Try.f25 0
def G37 (xs : HL S37.Ts) (hs : HD S37.Es) : Tr S37.End :=
 let s : ByteArray := xs.1
 let i := xs.2.1
 let c : Int := ((s.data.getD i.toNat 0).toNat : Int)
 let B : Tr S37.End := .ret (.inr (.ret, encS [0, 2] [.str, .bool] [] 42 (s, false, ()) ()))
 let N : Tr S37.End := .ret (.inl ((s, w (i + 1), ()), ()))
 let D : Tr S37.End := .chk (inArr i s.size) (.ite (decide (c ≥ 48)) (.chk (inArr i s.size) (.ite (!decide (c ≤ 57)) B N)) B)
 .ite (decide (i < (s.size : Int))) (.chk (inArr i s.size) (.ite (decide (c ≥ 97)) (.chk (inArr i s.size) (.ite (!decide (c ≤ 122)) D N)) D))
  (.ret (.inr (.exit 0, encS [0] [.str] [] 42 (s, ()) ())))
theorem r37 (s : ByteArray) (i : Int) : (S37.round (bodyK Try.prog (ctx []) L0 b37) (s, i, ()) ()).eval = (G37 (s, i, ()) ()).eval := by kernel_rfl
end Go.Proofs.Ytaffancdidgkhaa.Fld
end
section
set_option linter.unusedVariables false
set_option maxRecDepth 100000
namespace Go.Proofs.Ytaffancdidgkhaa.Fld
open Go Vse Go.Proofs
theorem strBytes_length (s : ByteArray) : (strBytes s).length = s.size := by simp [strBytes]
theorem strBytes_get (s : ByteArray) {k : Nat} (h : k < s.size) : (strBytes s)[k]'(by rw [strBytes_length]; exact h) = ((s.data.getD k 0).toNat : Int) := by
 have h' : k < s.data.size := h
 simp [strBytes, Array.getD_eq_getD_getElem?, Array.getElem?_eq_getElem h']
theorem name_size (s : ByteArray) : (s != ByteArray.empty) = decide (1 ≤ s.size) := by
 by_cases h : s.size = 0
 ·have : s = ByteArray.empty := by
   apply ByteArray.ext
   exact Array.eq_empty_of_size_eq_zero h
  subst this; rfl
 ·have hne : s ≠ ByteArray.empty := by rintro rfl; exact h rfl
  have h1 : 1 ≤ s.size := by omega
  rw [decide_eq_true h1]
  cases hb : (s != ByteArray.empty) with
  | true => rfl
  | false =>
   exfalso
   have hb : (s == ByteArray.empty) = true := by simpa [bne] using hb
   rw [beq_toListBytes, ByteArray.toList_eq, ByteArray.toList_eq] at hb
   have hb := eq_of_beq hb
   have h2 : s.data.toList.length = 0 := by rw [hb]; rfl
   exact h (by simpa using h2)
theorem ok36 : CSound Try.prog 57 s36 ∧ CLocal s36 :=
 sl_ok1 (L := L36) nil_sound Try.func57 (by kernel_rfl) (fun b hb => by
  have : loopsOf (bodyOf Try.f57) = [b36] := by kernel_rfl
  rw [this] at hb
  rw [List.mem_singleton.1 hb]
  exact l36) (fun xs hx => by
   refine (f36f xs.1).trans ?_
   have h1 : ByteArray.size xs.1 ≤ 9223372036854775807 := hx.1
   have h2 := strBytes_length xs.1
   simp only [decide_true, Bool.true_and, decide_eq_true_eq]
   omega) (fun xs hx => by
   refine (r36f xs.1).trans ?_
   show _ = nameI xs.1
   unfold nameI
   rw [name_size]
   have : decide ((ByteArray.size xs.1 : Int) ≤ 20) = decide (ByteArray.size xs.1 ≤ 20) := decide_eq_decide.2 (by omega)
   rw [this]
   cases okN (strBytes xs.1) <;> cases decide (1 ≤ ByteArray.size xs.1) <;> rfl)
def F37 (xs : HL S37.Ts) (hs : HD S37.Es) : Tr (Ex × St) :=
 .chk (decide (xs.2.1 = (0 : Int)) && decide (ByteArray.size xs.1 ≤ 9223372036854775807))
  (.ite (okN (strBytes xs.1)) (.ret (.exit 0, encS [0] [.str] [] 42 (xs.1, ()) ())) (.ret (.ret, encS [0, 2] [.str, .bool] [] 42 (xs.1, false, ()) ())))
noncomputable def L37 : Loops := fun j st => if j = 2 then S37.fn F37 st else .fail
theorem g37 (s : ByteArray) (k : Nat) (hk : k < s.size) (c : Int) (hc : ((s.data.getD k 0).toNat : Int) = c) : (G37 (s, (k : Int), ()) ()).eval =
  bif badC c then some (.inr (.ret, encS [0, 2] [.str, .bool] [] 42 (s, false, ()) ())) else some (.inl ((s, w ((k : Int) + 1), ()), ())) := by
 have i1 : inArr (k : Int) s.size = true := by simp [inArr]; omega
 simp only [G37, Tr.eval, Tr.chk, decide_eq_true (show ((k : Int) < (s.size : Int)) by omega), i1, Int.toNat_natCast, hc, badC]
 have e1 : decide (c ≥ 97) = !decide (c < 97) := by by_cases h : c < 97 <;> simp [h] <;> omega
 have e2 : decide (c ≤ 122) = !decide (c > 122) := by by_cases h : c > 122 <;> simp [h] <;> omega
 have e3 : decide (c ≥ 48) = !decide (c < 48) := by by_cases h : c < 48 <;> simp [h] <;> omega
 have e4 : decide (c ≤ 57) = !decide (c > 57) := by by_cases h : c > 57 <;> simp [h] <;> omega
 rw [e1, e2, e3, e4]
 cases decide (c < 97) <;> cases decide (c > 122) <;> cases decide (c < 48) <;> cases decide (c > 57) <;> rfl
theorem k37 (s : ByteArray) (hm : s.size ≤ 9223372036854775807) : ∀ (m k : Nat), k + m = s.size → S37.many (bodyK Try.prog (ctx []) L0 b37) (m + 1) (s, (k : Int), ()) () =
  bif okN ((strBytes s).drop k) then some (.exit 0, encS [0] [.str] [] 42 (s, ()) ()) else some (.ret, encS [0, 2] [.str, .bool] [] 42 (s, false, ()) ())
 | 0, k, h => by
  have e1 : (strBytes s).drop k = [] := List.drop_eq_nil_of_le (by rw [strBytes_length]; omega)
  rw [e1]
  refine many_inr ((r37 s k).trans ?_) 0
  simp only [G37, Tr.eval, decide_eq_false (show ¬ ((k : Int) < (s.size : Int)) by omega)]
 | m + 1, k, h => by
  have h1 : k < s.size := by omega
  have h1' : k < (strBytes s).length := by rw [strBytes_length]; exact h1
  rw [List.drop_eq_getElem_cons h1']
  simp only [okN, List.all_cons]
  have hg := (r37 s k).trans (g37 s k h1 _ (strBytes_get s h1).symm)
  cases hb : badC (strBytes s)[k] with
  | true =>
   rw [hb] at hg
   exact many_inr hg (m + 1)
  | false =>
   rw [hb] at hg
   refine (many_inl hg (m + 1)).trans ?_
   rw [w_id (by omega) (by omega)]
   have := k37 s hm m (k + 1) (by omega)
   simpa [okN] using this
theorem l37 : LoopOK Try.prog L37 b37 :=
 loop_ok (L := L37) (L' := L0) nil_sound (loopsOK_of (by kernel_rfl)) S37 (by kernel_rfl) (F := F37) (i := 2) (by kernel_rfl) (fun _ => rfl) fun xs hs r h => by
  obtain ⟨s, i, u⟩ := xs
  obtain ⟨h1, h2⟩ := Tr.chk_some h
  simp only [Bool.and_eq_true, decide_eq_true_eq] at h1
  obtain ⟨e1, e3⟩ := h1
  have e1 : i = ((0 : Nat) : Int) := e1
  subst e1
  refine ⟨_, (k37 s e3 (ByteArray.size s) 0 (by omega)).trans ?_⟩
  simp only [List.drop_zero]
  rcases Tr.ite_some h2 with ⟨hd, h2⟩ | ⟨hd, h2⟩
  ·have hd : okN (strBytes s) = true := hd
   rw [hd, ← Tr.ret_some h2]; rfl
  ·have hd : okN (strBytes s) = false := hd
   rw [hd, ← Tr.ret_some h2]; rfl
def s37 : CSpec := .sl1 [.str] .bool fun x => nameI x.1
theorem r37f (s : ByteArray) : (fnS Try.prog (ctx []) L37 [.bool] Try.f25 (mkArgs [.str] (s, ()))).fold1 .bool =
  bif okN (strBytes s) then (bif decide ((s.size : Int) ≥ 1) then decide ((s.size : Int) ≤ 20) else false) else false := by kernel_rfl
theorem f37f (s : ByteArray) : (fnS Try.prog (ctx []) L37 [.bool] Try.f25 (mkArgs [.str] (s, ()))).fine [.bool] = decide (s.size ≤ 9223372036854775807) := by kernel_rfl
theorem ok37 : CSound Try.prog 25 s37 ∧ CLocal s37 :=
 sl_ok1 (L := L37) nil_sound Try.func25 (by kernel_rfl) (fun b hb => by
  have : loopsOf (bodyOf Try.f25) = [b37] := by kernel_rfl
  rw [this] at hb
  rw [List.mem_singleton.1 hb]
  exact l37) (fun xs hx => by
   refine (f37f xs.1).trans ?_
   exact decide_eq_true hx.1) (fun xs hx => by
   refine (r37f xs.1).trans ?_
   show _ = nameI xs.1
   unfold nameI
   have e1 : decide ((ByteArray.size xs.1 : Int) ≤ 20) = decide (ByteArray.size xs.1 ≤ 20) := decide_eq_decide.2 (by omega)
   have e2 : decide ((ByteArray.size xs.1 : Int) ≥ 1) = decide (1 ≤ ByteArray.size xs.1) := decide_eq_decide.2 (by omega)
   rw [e1, e2]
   cases okN (strBytes xs.1) <;> cases decide (1 ≤ ByteArray.size xs.1) <;> rfl)
abbrev ls : Ty := .imm false false bt
abbrev lt : Ty := .imm true false bt
def S24 : VSpec := ⟨⟨[0, 4, 5, 6], [4, 5], 33, [ls, .vc 0 1, i64, i64], [.vec 1 u8]⟩, [4]⟩
noncomputable def b24 : Code := loopAt Try.f16 0
def G24 (xs : HL S24.Ts) (hs : HD S24.Es) : Tr S24.toLSpec.End :=
 let l : List (List Int) := xs.1
 let n := xs.2.2.1
 let i := xs.2.2.2.1
 let o : List Int := hs.1
 let p : List Int := l.getD i.toNat []
 let E : Tr S24.toLSpec.End := .ret (.inr (.exit 0, encS [4, 5] [.vc 0 1, i64] [.vec 1 u8] 33 ((), n, ()) (o, ())))
 .ite (decide (i < (l.length : Int))) (.ite (decide (n < 100000)) (.chk (inArr i l.length) (.chk (room (o.length + p.length) 1) (.chk (inArr i l.length)
  (.ret (.inl ((l, (), w (w (n + (p.length : Int)) + 1), w (i + 1), ()), (o ++ p, ()))))))) E) E
theorem r24 (l : List (List Int)) (n i : Int) (o : List Int) : (S24.round (bodyK Try.prog (ctx []) L0 b24) (l, (), n, i, ()) (o, ())).eval = (G24 (l, (), n, i, ()) (o, ())).eval := by kernel_rfl
end Go.Proofs.Ytaffancdidgkhaa.Fld
end
section
set_option linter.unusedVariables false
set_option maxRecDepth 100000
namespace Go.Proofs.Ytaffancdidgkhaa.Fld
open Go Vse Go.Proofs
def allG : List (List Int) → List Int → Nat → List Int × Nat
 | [], o, n => (o, n)
 | p :: r, o, n => bif decide (n < 100000) then allG r (o ++ p) (n + p.length + 1) else (o, n)
def short (p : List Int) : Bool := decide (p.length ≤ 140737488351232)
def preAll (l : List (List Int)) : Bool := l.all short
theorem getD_cons {α : Type} {l : List α} {k : Nat} (h : k < l.length) (d : α) : l.getD k d = l[k] := by rw [List.getD_eq_getElem?_getD, List.getElem?_eq_getElem h]; rfl
def out24 (o : List Int) (n : Nat) : Ex × St := (.exit 0, encS [4, 5] [.vc 0 1, i64] [.vec 1 u8] 33 ((), (n : Int), ()) (o, ()))
theorem k24 (l : List (List Int)) (hl : l.length ≤ 9223372036854775807) (hp : ∀ p ∈ l, p.length ≤ 140737488351232) : ∀ (m k : Nat) (o : List Int) (n : Nat), k + m = l.length → o.length ≤ n →
  S24.many (bodyK Try.prog (ctx []) L0 b24) (m + 1) (l, (), (n : Int), (k : Int), ()) (o, ()) = some (out24 (allG (l.drop k) o n).1 (allG (l.drop k) o n).2)
 | 0, k, o, n, h, ho => by
  have e1 : l.drop k = [] := List.drop_eq_nil_of_le (by omega)
  rw [e1]
  refine vmany_inr ((r24 l n k o).trans ?_) 0
  simp only [G24, Tr.eval, decide_eq_false (show ¬ ((k : Int) < (l.length : Int)) by omega)]
  rfl
 | m + 1, k, o, n, h, ho => by
  have h1 : k < l.length := by omega
  have hp1 := hp l[k] (List.getElem_mem h1)
  rw [List.drop_eq_getElem_cons h1]
  have i1 : inArr (k : Int) l.length = true := by simp [inArr]; omega
  have g1 : l.getD k [] = l[k] := getD_cons h1 []
  simp only [allG]
  by_cases hn : n < 100000
  ·rw [decide_eq_true hn]
   have hroom : room (o.length + l[k].length) 1 = true := by simp only [room, decide_eq_true_eq]; omega
   refine (vmany_inl (d := ((l, (), ((n + l[k].length + 1 : Nat) : Int), ((k + 1 : Nat) : Int), ()), (o ++ l[k], ()))) ((r24 l n k o).trans ?_) (m + 1)).trans
    (k24 l hl hp m (k + 1) (o ++ l[k]) (n + l[k].length + 1) (by omega) (by rw [List.length_append]; omega))
   simp only [G24, Tr.eval, Tr.chk, decide_eq_true (show ((k : Int) < (l.length : Int)) by omega), decide_eq_true (show ((n : Int) < 100000) by omega), i1, Int.toNat_natCast, g1, hroom]
   rw [w_id (x := (n : Int) + (l[k].length : Int)) (by omega) (by omega), w_id (by omega) (by omega), w_id (by omega) (by omega)]
   rfl
  ·rw [decide_eq_false hn]
   refine vmany_inr ((r24 l n k o).trans ?_) (m + 1)
   simp only [G24, Tr.eval, decide_eq_true (show ((k : Int) < (l.length : Int)) by omega), decide_eq_false (show ¬ ((n : Int) < 100000) by omega)]
   rfl
def F24 (xs : HL S24.Ts) (hs : HD S24.Es) : Tr (Ex × St) :=
 .chk (decide (xs.2.2.1 = (0 : Int)) && (decide (xs.2.2.2.1 = (0 : Int)) && (decide (List.length (α := Int) hs.1 = 0) && (decide (List.length (α := List Int) xs.1 ≤ 9223372036854775807) && preAll xs.1))))
  (.ret (out24 (allG xs.1 [] 0).1 (allG xs.1 [] 0).2))
noncomputable def L24 : Loops := fun j st => if j = 4 then S24.fn F24 st else .fail
theorem l24 : LoopOK Try.prog L24 b24 :=
 vloop_ok (L := L24) (L' := L0) nil_sound (loopsOK_of (by kernel_rfl)) S24 (F := F24) (i := 4) (by kernel_rfl) (fun _ => rfl) fun xs hs r h => by
  obtain ⟨l, u1, n, i, u⟩ := xs
  obtain ⟨o, u2⟩ := hs
  obtain ⟨h1, h2⟩ := Tr.chk_some h
  have := Tr.ret_some h2
  simp only [Bool.and_eq_true, decide_eq_true_eq] at h1
  obtain ⟨e1, e2, e3, e4, e5⟩ := h1
  have e1 : n = ((0 : Nat) : Int) := e1
  have e2 : i = ((0 : Nat) : Int) := e2
  have e3 : o = [] := List.eq_nil_of_length_eq_zero e3
  subst e1; subst e2; subst e3
  have hp : ∀ p ∈ l, List.length (α := Int) p ≤ 140737488351232 := fun p hp => by simpa [short] using List.all_eq_true.1 e5 p hp
  exact ⟨_, (k24 l e4 hp (List.length (α := List Int) l) 0 [] 0 (by omega) (by simp)).trans (congrArg some this)⟩
def allI (l : List (List Int)) : HL [bt, i64] := ((allG l [] 0).1, ((allG l [] 0).2 : Int), ())
def s24 : CSpec := .slp [ls] (fun x => preAll x.1) [bt, i64] fun x => allI x.1
theorem r24f (l : List (List Int)) : (fnS Try.prog (ctx []) L24 [bt, i64] Try.f16 (mkArgs [ls] (l, ()))).fold [bt, i64] = ((allG l [] 0).1, ((allG l [] 0).2 : Int), ()) := by kernel_rfl
theorem f24f (l : List (List Int)) : (fnS Try.prog (ctx []) L24 [bt, i64] Try.f16 (mkArgs [ls] (l, ()))).fine [bt, i64] = (decide (l.length ≤ 9223372036854775807) && preAll l) := by kernel_rfl
theorem ok24 : CSound Try.prog 16 s24 ∧ CLocal s24 :=
 slp_sound (L := L24) nil_sound Try.func16 (by kernel_rfl) (fun b hb => by
  have : loopsOf (bodyOf Try.f16) = [b24] := by kernel_rfl
  rw [this] at hb
  rw [List.mem_singleton.1 hb]
  exact l24) (fun xs hx hp => by
   refine (f24f xs.1).trans ?_
   have h1 : List.length (α := List Int) xs.1 ≤ 9223372036854775807 := hx.1.1
   rw [decide_eq_true h1]
   exact hp) (fun xs hx hp => r24f xs.1)
def S33i : LSpec := ⟨[0, 1, 5, 6], [0, 1, 4, 5], 53, [ls, ls, i64, i64], []⟩
noncomputable def b33 : Code := loopAt Try.f22 0
noncomputable def b33i : Code := ((loopsOf b33)[0]?).getD .skip
def G33i (xs : HL S33i.Ts) (hs : HD S33i.Es) : Tr S33i.End :=
 let a : List (List Int) := xs.1
 let b : List (List Int) := xs.2.1
 let i := xs.2.2.1
 let k := xs.2.2.2.1
 let p : List Int := a.getD i.toNat []
 let q : List Int := b.getD i.toNat []
 .chk (inArr i a.length) (.ite (decide (k < (p.length : Int))) (.chk (inArr i a.length) (.chk (inArr k p.length) (.chk (inArr i b.length) (.chk (inArr k q.length)
  (.ite (p.getD k.toNat 0 != q.getD k.toNat 0) (.ret (.inr (.ret, encS [0, 1, 4, 5] [ls, ls, .bool, i64] [] 53 (a, b, false, i, ()) ()))) (.ret (.inl ((a, b, i, w (k + 1), ()), ()))))))))
  (.ret (.inr (.exit 2, encS [0, 1, 5] [ls, ls, i64] [] 53 (a, b, i, ()) ()))))
theorem r33i (a b : List (List Int)) (i k : Int) : (S33i.round (bodyK Try.prog (ctx []) L0 b33i) (a, b, i, k, ()) ()).eval = (G33i (a, b, i, k, ()) ()).eval := by kernel_rfl
end Go.Proofs.Ytaffancdidgkhaa.Fld
end
section
set_option linter.unusedVariables false
set_option maxRecDepth 100000
namespace Go.Proofs.Ytaffancdidgkhaa.Fld
open Go Vse Go.Proofs
def F33i (xs : HL S33i.Ts) (hs : HD S33i.Es) : Tr (Ex × St) :=
 let a : List (List Int) := xs.1
 let b : List (List Int) := xs.2.1
 let i : Int := xs.2.2.1
 let p : List Int := a.getD i.toNat []
 let q : List Int := b.getD i.toNat []
 .chk (decide (xs.2.2.2.1 = (0 : Int)) && (inArr i a.length && (inArr i b.length && (decide (p.length = q.length) && decide (p.length ≤ 9223372036854775807)))))
  (.ite (decide (p = q)) (.ret (.exit 2, encS [0, 1, 5] [ls, ls, i64] [] 53 (a, b, i, ()) ())) (.ret (.ret, encS [0, 1, 4, 5] [ls, ls, .bool, i64] [] 53 (a, b, false, i, ()) ())))
noncomputable def L33i : Loops := fun j st => if j = 9 then S33i.fn F33i st else .fail
theorem k33i (a b : List (List Int)) (i : Int) (p q : List Int) (hp : a.getD i.toNat [] = p) (hq : b.getD i.toNat [] = q) (i1 : inArr i a.length = true) (i2 : inArr i b.length = true) (hab : p.length = q.length) (hm : p.length ≤ 9223372036854775807) :
  ∀ (m k : Nat), k + m = p.length → S33i.many (bodyK Try.prog (ctx []) L0 b33i) (m + 1) (a, b, i, (k : Int), ()) () =
  if p.drop k = q.drop k then some (.exit 2, encS [0, 1, 5] [ls, ls, i64] [] 53 (a, b, i, ()) ()) else some (.ret, encS [0, 1, 4, 5] [ls, ls, .bool, i64] [] 53 (a, b, false, i, ()) ())
 | 0, k, h => by
  have e1 : p.drop k = [] := List.drop_eq_nil_of_le (by omega)
  have e2 : q.drop k = [] := List.drop_eq_nil_of_le (by omega)
  rw [e1, e2, if_pos rfl]
  refine many_inr ((r33i a b i k).trans ?_) 0
  simp only [G33i, Tr.eval, Tr.chk, i1, hp, decide_eq_false (show ¬ ((k : Int) < (p.length : Int)) by omega)]
 | m + 1, k, h => by
  have h1 : k < p.length := by omega
  have h2 : k < q.length := by omega
  have j1 : inArr (k : Int) p.length = true := by simp [inArr]; omega
  have j2 : inArr (k : Int) q.length = true := by simp [inArr]; omega
  have g1 : p.getD k 0 = p[k] := getD_cons h1 0
  have g2 : q.getD k 0 = q[k] := getD_cons h2 0
  have hiff : p.drop k = q.drop k ↔ p[k] = q[k] ∧ p.drop (k + 1) = q.drop (k + 1) := by
   rw [List.drop_eq_getElem_cons h1, List.drop_eq_getElem_cons h2, List.cons.injEq]
  by_cases hk : p[k] = q[k]
  ·refine (many_inl (d := ((a, b, i, ((k + 1 : Nat) : Int), ()), ())) ((r33i a b i k).trans ?_) (m + 1)).trans ((k33i a b i p q hp hq i1 i2 hab hm m (k + 1) (by omega)).trans ?_)
   ·simp only [G33i, Tr.eval, Tr.chk, i1, i2, hp, hq, decide_eq_true (show ((k : Int) < (p.length : Int)) by omega), j1, j2, Int.toNat_natCast, g1, g2, hk, bne_self_eq_false]
    rw [w_id (by omega) (by omega)]; rfl
   ·by_cases hd : p.drop (k + 1) = q.drop (k + 1)
    ·rw [if_pos hd, if_pos (hiff.2 ⟨hk, hd⟩)]
    ·rw [if_neg hd, if_neg fun h => hd (hiff.1 h).2]
  ·rw [if_neg fun h => hk (hiff.1 h).1]
   refine many_inr ((r33i a b i k).trans ?_) (m + 1)
   have : (p[k] != q[k]) = true := by simp [hk]
   simp only [G33i, Tr.eval, Tr.chk, i1, i2, hp, hq, decide_eq_true (show ((k : Int) < (p.length : Int)) by omega), j1, j2, Int.toNat_natCast, g1, g2, this]
theorem l33i : LoopOK Try.prog L33i b33i :=
 loop_ok (L := L33i) (L' := L0) nil_sound (loopsOK_of (by kernel_rfl)) S33i (by kernel_rfl) (F := F33i) (i := 9) (by kernel_rfl) (fun _ => rfl) fun xs hs r h => by
  obtain ⟨a, b, i, k, u⟩ := xs
  obtain ⟨h1, h2⟩ := Tr.chk_some h
  simp only [Bool.and_eq_true, decide_eq_true_eq] at h1
  obtain ⟨e1, e2, e3, e4, e5⟩ := h1
  have e1 : k = ((0 : Nat) : Int) := e1
  subst e1
  refine ⟨_, (k33i a b i _ _ rfl rfl e2 e3 e4 e5 (List.length (α := Int) (List.getD (α := List Int) a (Int.toNat i) [])) 0 (Nat.zero_add _)).trans ?_⟩
  simp only [List.drop_zero]
  rcases Tr.ite_some h2 with ⟨hd, h2⟩ | ⟨hd, h2⟩
  ·rw [if_pos (of_decide_eq_true hd), Tr.ret_some h2]
  ·rw [if_neg (of_decide_eq_false hd), Tr.ret_some h2]
def S33 : LSpec := ⟨[0, 1, 5], [4], 53, [ls, ls, i64], []⟩
def G33 (xs : HL S33.Ts) (hs : HD S33.Es) : Tr S33.End :=
 let a : List (List Int) := xs.1
 let b : List (List Int) := xs.2.1
 let i : Int := xs.2.2.1
 let p : List Int := a.getD i.toNat []
 let q : List Int := b.getD i.toNat []
 let B : Tr S33.End := .ret (.inr (.ret, encS [4] [.bool] [] 53 (false, ()) ()))
 .ite (decide (i < (a.length : Int))) (.chk (inArr i a.length) (.chk (inArr i b.length) (.ite ((p.length : Int) != (q.length : Int)) B
  (.chk (inArr i a.length && (inArr i b.length && (decide (p.length = q.length) && decide (p.length ≤ 9223372036854775807))))
   (.ite (decide (p = q)) (.ret (.inl ((a, b, w (i + 1), ()), ()))) B)))))
  (.ret (.inr (.exit 0, encS [] [] [] 53 () ())))
theorem r33 (a b : List (List Int)) (i : Int) : (S33.round (bodyK Try.prog (ctx []) L33i b33) (a, b, i, ()) ()).eval = (G33 (a, b, i, ()) ()).eval := by kernel_rfl
theorem k33 (a b : List (List Int)) (hab : a.length = b.length) (hm : a.length ≤ 9223372036854775807) (hp : ∀ p ∈ a, p.length ≤ 9223372036854775807) : ∀ (m k : Nat), k + m = a.length →
  S33.many (bodyK Try.prog (ctx []) L33i b33) (m + 1) (a, b, (k : Int), ()) () = if a.drop k = b.drop k then some (.exit 0, encS [] [] [] 53 () ()) else some (.ret, encS [4] [.bool] [] 53 (false, ()) ())
 | 0, k, h => by
  have e1 : a.drop k = [] := List.drop_eq_nil_of_le (by omega)
  have e2 : b.drop k = [] := List.drop_eq_nil_of_le (by omega)
  rw [e1, e2, if_pos rfl]
  refine many_inr ((r33 a b k).trans ?_) 0
  simp only [G33, Tr.eval, decide_eq_false (show ¬ ((k : Int) < (a.length : Int)) by omega)]
 | m + 1, k, h => by
  have h1 : k < a.length := by omega
  have h2 : k < b.length := by omega
  have i1 : inArr (k : Int) a.length = true := by simp [inArr]; omega
  have i2 : inArr (k : Int) b.length = true := by simp [inArr]; omega
  have g1 : a.getD k [] = a[k] := getD_cons h1 []
  have g2 : b.getD k [] = b[k] := getD_cons h2 []
  have hpk := hp a[k] (List.getElem_mem h1)
  have hiff : a.drop k = b.drop k ↔ a[k] = b[k] ∧ a.drop (k + 1) = b.drop (k + 1) := by
   rw [List.drop_eq_getElem_cons h1, List.drop_eq_getElem_cons h2, List.cons.injEq]
  by_cases hk : a[k] = b[k]
  ·have hl : a[k].length = b[k].length := by rw [hk]
   refine (many_inl (d := ((a, b, ((k + 1 : Nat) : Int), ()), ())) ((r33 a b k).trans ?_) (m + 1)).trans ((k33 a b hab hm hp m (k + 1) (by omega)).trans ?_)
   ·have hne : ((a[k].length : Int) != (b[k].length : Int)) = false := by simp [hl]
    simp only [G33, Tr.eval, Tr.chk, decide_eq_true (show ((k : Int) < (a.length : Int)) by omega), i1, i2, Int.toNat_natCast, g1, g2, hne, Bool.true_and, decide_eq_true hl, decide_eq_true hpk, decide_eq_true hk]
    rw [w_id (by omega) (by omega)]; rfl
   ·by_cases hd : a.drop (k + 1) = b.drop (k + 1)
    ·rw [if_pos hd, if_pos (hiff.2 ⟨hk, hd⟩)]
    ·rw [if_neg hd, if_neg fun h => hd (hiff.1 h).2]
  ·rw [if_neg fun h => hk (hiff.1 h).1]
   refine many_inr ((r33 a b k).trans ?_) (m + 1)
   by_cases hl : a[k].length = b[k].length
   ·have hne : ((a[k].length : Int) != (b[k].length : Int)) = false := by simp [hl]
    simp only [G33, Tr.eval, Tr.chk, decide_eq_true (show ((k : Int) < (a.length : Int)) by omega), i1, i2, Int.toNat_natCast, g1, g2, hne, Bool.true_and, decide_eq_true hl, decide_eq_true hpk, decide_eq_false hk]
   ·have hne : ((a[k].length : Int) != (b[k].length : Int)) = true := by simp only [bne_iff_ne, ne_eq]; omega
    simp only [G33, Tr.eval, Tr.chk, decide_eq_true (show ((k : Int) < (a.length : Int)) by omega), i1, i2, Int.toNat_natCast, g1, g2, hne]
def lensOk (a : List (List Int)) : Bool := a.all fun p => decide (p.length ≤ 9223372036854775807)
def F33 (xs : HL S33.Ts) (hs : HD S33.Es) : Tr (Ex × St) :=
 .chk (decide (xs.2.2.1 = (0 : Int)) && (decide (List.length (α := List Int) xs.1 = List.length (α := List Int) xs.2.1) && (decide (List.length (α := List Int) xs.1 ≤ 9223372036854775807) && lensOk xs.1)))
  (.ite (decide (xs.1 = xs.2.1)) (.ret (.exit 0, encS [] [] [] 53 () ())) (.ret (.ret, encS [4] [.bool] [] 53 (false, ()) ())))
noncomputable def L33 : Loops := fun j st => if j = 4 then S33.fn F33 st else .fail
theorem l33 : LoopOK Try.prog L33 b33 :=
 loop_ok (L := L33) (L' := L33i) nil_sound (loopsOK_all (fun b hb => by
  have : loopsOf b33 = [b33i] := by kernel_rfl
  rw [this] at hb
  rw [List.mem_singleton.1 hb]
  exact l33i)) S33 (by kernel_rfl) (F := F33) (i := 4) (by kernel_rfl) (fun _ => rfl) fun xs hs r h => by
  obtain ⟨a, b, i, u⟩ := xs
  obtain ⟨h1, h2⟩ := Tr.chk_some h
  simp only [Bool.and_eq_true, decide_eq_true_eq] at h1
  obtain ⟨e1, e2, e3, e4⟩ := h1
  have e1 : i = ((0 : Nat) : Int) := e1
  subst e1
  refine ⟨_, (k33 a b e2 e3 (fun p hp => by simpa using List.all_eq_true.1 e4 p hp) (List.length (α := List Int) a) 0 (Nat.zero_add _)).trans ?_⟩
  simp only [List.drop_zero]
  rcases Tr.ite_some h2 with ⟨hd, h2⟩ | ⟨hd, h2⟩
  ·rw [if_pos (of_decide_eq_true hd), Tr.ret_some h2]
  ·rw [if_neg (of_decide_eq_false hd), Tr.ret_some h2]
def sameL (a b : List (List Int)) : Bool := decide (a = b)
def s33 : CSpec := .sl1 [ls, ls] .bool fun x => sameL x.1 x.2.1
theorem r33f (a b : List (List Int)) : (fnS Try.prog (ctx []) L33 [.bool] Try.f22 (mkArgs [ls, ls] (a, b, ()))).fold1 .bool =
  bif ((a.length : Int) != (b.length : Int)) then false else (bif decide (a = b) then true else false) := by kernel_rfl
theorem f33f (a b : List (List Int)) : (fnS Try.prog (ctx []) L33 [.bool] Try.f22 (mkArgs [ls, ls] (a, b, ()))).fine [.bool] =
  ((decide (a.length = b.length) && (decide (a.length ≤ 9223372036854775807) && lensOk a)) || ((a.length : Int) != (b.length : Int))) := by kernel_rfl
theorem ok33 : CSound Try.prog 22 s33 ∧ CLocal s33 :=
 sl_ok1 (L := L33) nil_sound Try.func22 (by kernel_rfl) (fun b hb => by
  have : loopsOf (bodyOf Try.f22) = [b33] := by kernel_rfl
  rw [this] at hb
  rw [List.mem_singleton.1 hb]
  exact l33) (fun xs hx => by
   obtain ⟨a, b, u⟩ := xs
   have hl : List.length (α := List Int) a ≤ 9223372036854775807 := hx.1.1
   have he : lensOk a = true := List.all_eq_true.2 fun p hp => decide_eq_true (hx.1.2 p hp).1
   refine (f33f a b).trans ?_
   rw [he]
   by_cases h : List.length (α := List Int) a = List.length (α := List Int) b
   ·simp [h] at hl ⊢; omega
   ·simp; omega) (fun xs hx => by
   obtain ⟨a, b, u⟩ := xs
   refine (r33f a b).trans ?_
   show _ = decide (a = b)
   by_cases h : List.length (α := List Int) a = List.length (α := List Int) b
   ·have : ((List.length (α := List Int) a : Int) != (List.length (α := List Int) b : Int)) = false := by simp [h]
    rw [this]
    cases decide (a = b) <;> rfl
   ·have : ((List.length (α := List Int) a : Int) != (List.length (α := List Int) b : Int)) = true := by simp; omega
    rw [this]
    have hne : decide (a = b) = false := decide_eq_false (by rintro rfl; exact h rfl)
    rw [hne]; rfl)
end Go.Proofs.Ytaffancdidgkhaa.Fld
end
section
set_option linter.unusedVariables false
set_option maxRecDepth 100000
namespace Go.Proofs.Ytaffancdidgkhaa.Fld
open Go Vse Go.Proofs
def hd1 (p : List Int) : List Int := [wb (shrI .i64 (p.length : Int) 8), wb (p.length : Int)]
def hd2 (p : List Int) : List Int := [wb (w ((p.length : Int).tdiv 256)), wb ((p.length : Int).tmod 256)]
def putG (hd : List Int → List Int) : List (List Int) → List Int → Bool × List Int
 | [], o => (true, o)
 | p :: r, o => bif decide ((p.length : Int) > 500) then (false, o) else putG hd r (o ++ hd p ++ p)
def S25 : VSpec := ⟨⟨[4, 10, 11, 12], [2, 3, 4], 33, [.vc 0 1, ls, i64, i64], [.vec 1 u8]⟩, [4]⟩
noncomputable def b25 : Code := loopAt Try.f47 0
def out25 (o : List Int) : Ex × St := (.exit 0, encS [4] [.vc 0 1] [.vec 1 u8] 33 ((), ()) (o, ()))
def ret25 (o : List Int) : Ex × St := (.ret, encS [2, 3, 4] [.nils, i64, .vc 0 1] [.vec 1 u8] 33 ((), (7 : Int), (), ()) (o, ()))
def G25 (xs : HL S25.Ts) (hs : HD S25.Es) : Tr S25.toLSpec.End :=
 let l : List (List Int) := xs.2.1
 let n := xs.2.2.1
 let i := xs.2.2.2.1
 let o : List Int := hs.1
 let p : List Int := l.getD i.toNat []
 .ite (decide (i < n)) (.chk (inArr i l.length) (.ite (decide ((p.length : Int) > 500)) (.ret (.inr (ret25 o)))
  (.chk (room (o.length + 2) 1) (.chk (room ((o ++ hd1 p).length + p.length) 1) (.ret (.inl (((), l, n, w (i + 1), ()), ((o ++ hd1 p) ++ p, ()))))))))
  (.ret (.inr (out25 o)))
theorem r25 (l : List (List Int)) (n i : Int) (o : List Int) : (S25.round (bodyK Try.prog (ctx []) L0 b25) ((), l, n, i, ()) (o, ())).eval = (G25 ((), l, n, i, ()) (o, ())).eval := by kernel_rfl
def end25 (r : Bool × List Int) : Ex × St := bif r.1 then out25 r.2 else ret25 r.2
theorem k25 (l : List (List Int)) (hl : l.length ≤ 20) : ∀ (m k : Nat) (o : List Int), k + m = l.length → o.length ≤ 502 * k →
  S25.many (bodyK Try.prog (ctx []) L0 b25) (m + 1) ((), l, (l.length : Int), (k : Int), ()) (o, ()) = some (end25 (putG hd1 (l.drop k) o))
 | 0, k, o, h, ho => by
  have e1 : l.drop k = [] := List.drop_eq_nil_of_le (by omega)
  rw [e1]
  refine vmany_inr ((r25 l _ k o).trans ?_) 0
  simp only [G25, Tr.eval, decide_eq_false (show ¬ ((k : Int) < (l.length : Int)) by omega)]
  rfl
 | m + 1, k, o, h, ho => by
  have h1 : k < l.length := by omega
  rw [List.drop_eq_getElem_cons h1]
  have i1 : inArr (k : Int) l.length = true := by simp [inArr]; omega
  have g1 : l.getD k [] = l[k] := getD_cons h1 []
  simp only [putG]
  by_cases hn : (l[k].length : Int) > 500
  ·rw [decide_eq_true hn]
   refine vmany_inr ((r25 l _ k o).trans ?_) (m + 1)
   simp only [G25, Tr.eval, Tr.chk, decide_eq_true (show ((k : Int) < (l.length : Int)) by omega), i1, Int.toNat_natCast, g1, decide_eq_true hn]
   rfl
  ·rw [decide_eq_false hn]
   have hh : (hd1 l[k]).length = 2 := rfl
   have q1 : room (o.length + 2) 1 = true := by simp only [room, decide_eq_true_eq]; omega
   have q2 : room ((o ++ hd1 l[k]).length + l[k].length) 1 = true := by simp only [room, decide_eq_true_eq, List.length_append, hh]; omega
   refine (vmany_inl (d := (((), l, (l.length : Int), ((k + 1 : Nat) : Int), ()), (o ++ hd1 l[k] ++ l[k], ()))) ((r25 l _ k o).trans ?_) (m + 1)).trans
    (k25 l hl m (k + 1) (o ++ hd1 l[k] ++ l[k]) (by omega) (by simp only [List.length_append, hh]; omega))
   simp only [G25, Tr.eval, Tr.chk, decide_eq_true (show ((k : Int) < (l.length : Int)) by omega), i1, Int.toNat_natCast, g1, decide_eq_false hn, q1, q2]
   rw [w_id (by omega) (by omega)]
   rfl
def F25 (xs : HL S25.Ts) (hs : HD S25.Es) : Tr (Ex × St) :=
 .chk (decide (xs.2.2.1 = (List.length (α := List Int) xs.2.1 : Int)) && (decide (xs.2.2.2.1 = (0 : Int)) && (decide (List.length (α := Int) hs.1 = 0) && decide (List.length (α := List Int) xs.2.1 ≤ 20))))
  (.ite (putG hd1 xs.2.1 []).1 (.ret (out25 (putG hd1 xs.2.1 []).2)) (.ret (ret25 (putG hd1 xs.2.1 []).2)))
noncomputable def L25 : Loops := fun j st => if j = 5 then S25.fn F25 st else .fail
theorem l25 : LoopOK Try.prog L25 b25 :=
 vloop_ok (L := L25) (L' := L0) nil_sound (loopsOK_of (by kernel_rfl)) S25 (F := F25) (i := 5) (by kernel_rfl) (fun _ => rfl) fun xs hs r h => by
  obtain ⟨u1, l, n, i, u⟩ := xs
  obtain ⟨o, u2⟩ := hs
  obtain ⟨h1, h2⟩ := Tr.chk_some h
  simp only [Bool.and_eq_true, decide_eq_true_eq] at h1
  obtain ⟨e1, e2, e3, e4⟩ := h1
  have e1 : n = (List.length (α := List Int) l : Int) := e1
  have e2 : i = ((0 : Nat) : Int) := e2
  have e3 : o = [] := List.eq_nil_of_length_eq_zero e3
  subst e1; subst e2; subst e3
  refine ⟨_, (k25 l e4 (List.length (α := List Int) l) 0 [] (Nat.zero_add _) (Nat.zero_le _)).trans ?_⟩
  simp only [List.drop_zero, end25]
  rcases Tr.ite_some h2 with ⟨hd, h2⟩ | ⟨hd, h2⟩
  ·have hd : (putG hd1 l []).1 = true := hd
   rw [hd, ← Tr.ret_some h2]; rfl
  ·have hd : (putG hd1 l []).1 = false := hd
   rw [hd, ← Tr.ret_some h2]; rfl
def putI (hd : List Int → List Int) (l : List (List Int)) : HL [bt, i64] :=
 bif decide ((l.length : Int) > 20) then ([], 7, ()) else (bif (putG hd l []).1 then ((putG hd l []).2, 0, ()) else ([], 7, ()))
def s25 : CSpec := .sl [ls] [bt, i64] fun x => putI hd1 x.1
theorem r25f (l : List (List Int)) : (fnS Try.prog (ctx []) L25 [bt, i64] Try.f47 (mkArgs [ls] (l, ()))).fold [bt, i64] = putI hd1 l := by kernel_rfl
theorem f25f (l : List (List Int)) : (fnS Try.prog (ctx []) L25 [bt, i64] Try.f47 (mkArgs [ls] (l, ()))).fine [bt, i64] =
  ((decide ((l.length : Int) = (l.length : Int)) && decide (l.length ≤ 20)) || decide ((l.length : Int) > 20)) := by kernel_rfl
theorem ok25 : CSound Try.prog 47 s25 ∧ CLocal s25 :=
 sl_ok (L := L25) nil_sound Try.func47 (by kernel_rfl) (fun b hb => by
  have : loopsOf (bodyOf Try.f47) = [b25] := by kernel_rfl
  rw [this] at hb
  rw [List.mem_singleton.1 hb]
  exact l25) (fun xs hx => by
   refine (f25f xs.1).trans ?_
   simp; omega) (fun xs hx => r25f xs.1)
def S26 : VSpec := ⟨⟨[0, 4, 5], [2, 3, 4], 38, [ls, .vc 0 1, i64], [.vec 1 u8]⟩, [4]⟩
noncomputable def b26 : Code := loopAt Try.f49 0
def out26 (o : List Int) : Ex × St := (.exit 0, encS [4] [.vc 0 1] [.vec 1 u8] 38 ((), ()) (o, ()))
def ret26 (o : List Int) : Ex × St := (.ret, encS [2, 3, 4] [.nils, i64, .vc 0 1] [.vec 1 u8] 38 ((), (7 : Int), (), ()) (o, ()))
def G26 (xs : HL S26.Ts) (hs : HD S26.Es) : Tr S26.toLSpec.End :=
 let l : List (List Int) := xs.1
 let i := xs.2.2.1
 let o : List Int := hs.1
 let p : List Int := l.getD i.toNat []
 .ite (decide (i < (l.length : Int))) (.chk (inArr i l.length) (.ite (decide ((p.length : Int) > 500)) (.ret (.inr (ret26 o)))
  (.chk (room (o.length + 2) 1) (.chk (inArr i l.length) (.chk (room ((o ++ hd2 p).length + p.length) 1) (.ret (.inl ((l, (), w (i + 1), ()), ((o ++ hd2 p) ++ p, ())))))))))
  (.ret (.inr (out26 o)))
theorem r26 (l : List (List Int)) (i : Int) (o : List Int) : (S26.round (bodyK Try.prog (ctx []) L0 b26) (l, (), i, ()) (o, ())).eval = (G26 (l, (), i, ()) (o, ())).eval := by kernel_rfl
end Go.Proofs.Ytaffancdidgkhaa.Fld
end
section
set_option linter.unusedVariables false
set_option maxRecDepth 100000
namespace Go.Proofs.Ytaffancdidgkhaa.Fld
open Go Vse Go.Proofs
def end26 (r : Bool × List Int) : Ex × St := bif r.1 then out26 r.2 else ret26 r.2
theorem k26 (l : List (List Int)) (hl : l.length ≤ 20) : ∀ (m k : Nat) (o : List Int), k + m = l.length → o.length ≤ 502 * k →
  S26.many (bodyK Try.prog (ctx []) L0 b26) (m + 1) (l, (), (k : Int), ()) (o, ()) = some (end26 (putG hd2 (l.drop k) o))
 | 0, k, o, h, ho => by
  have e1 : l.drop k = [] := List.drop_eq_nil_of_le (by omega)
  rw [e1]
  refine vmany_inr ((r26 l k o).trans ?_) 0
  simp only [G26, Tr.eval, decide_eq_false (show ¬ ((k : Int) < (l.length : Int)) by omega)]
  rfl
 | m + 1, k, o, h, ho => by
  have h1 : k < l.length := by omega
  rw [List.drop_eq_getElem_cons h1]
  have i1 : inArr (k : Int) l.length = true := by simp [inArr]; omega
  have g1 : l.getD k [] = l[k] := getD_cons h1 []
  simp only [putG]
  by_cases hn : (l[k].length : Int) > 500
  ·rw [decide_eq_true hn]
   refine vmany_inr ((r26 l k o).trans ?_) (m + 1)
   simp only [G26, Tr.eval, Tr.chk, decide_eq_true (show ((k : Int) < (l.length : Int)) by omega), i1, Int.toNat_natCast, g1, decide_eq_true hn]
   rfl
  ·rw [decide_eq_false hn]
   have hh : (hd2 l[k]).length = 2 := rfl
   have q1 : room (o.length + 2) 1 = true := by simp only [room, decide_eq_true_eq]; omega
   have q2 : room ((o ++ hd2 l[k]).length + l[k].length) 1 = true := by simp only [room, decide_eq_true_eq, List.length_append, hh]; omega
   refine (vmany_inl (d := ((l, (), ((k + 1 : Nat) : Int), ()), (o ++ hd2 l[k] ++ l[k], ()))) ((r26 l k o).trans ?_) (m + 1)).trans
    (k26 l hl m (k + 1) (o ++ hd2 l[k] ++ l[k]) (by omega) (by simp only [List.length_append, hh]; omega))
   simp only [G26, Tr.eval, Tr.chk, decide_eq_true (show ((k : Int) < (l.length : Int)) by omega), i1, Int.toNat_natCast, g1, decide_eq_false hn, q1, q2]
   rw [w_id (by omega) (by omega)]
   rfl
def F26 (xs : HL S26.Ts) (hs : HD S26.Es) : Tr (Ex × St) :=
 .chk (decide (xs.2.2.1 = (0 : Int)) && (decide (List.length (α := Int) hs.1 = 0) && decide (List.length (α := List Int) xs.1 ≤ 20)))
  (.ite (putG hd2 xs.1 []).1 (.ret (out26 (putG hd2 xs.1 []).2)) (.ret (ret26 (putG hd2 xs.1 []).2)))
noncomputable def L26 : Loops := fun j st => if j = 5 then S26.fn F26 st else .fail
theorem l26 : LoopOK Try.prog L26 b26 :=
 vloop_ok (L := L26) (L' := L0) nil_sound (loopsOK_of (by kernel_rfl)) S26 (F := F26) (i := 5) (by kernel_rfl) (fun _ => rfl) fun xs hs r h => by
  obtain ⟨l, u1, i, u⟩ := xs
  obtain ⟨o, u2⟩ := hs
  obtain ⟨h1, h2⟩ := Tr.chk_some h
  simp only [Bool.and_eq_true, decide_eq_true_eq] at h1
  obtain ⟨e2, e3, e4⟩ := h1
  have e2 : i = ((0 : Nat) : Int) := e2
  have e3 : o = [] := List.eq_nil_of_length_eq_zero e3
  subst e2; subst e3
  refine ⟨_, (k26 l e4 (List.length (α := List Int) l) 0 [] (Nat.zero_add _) (Nat.zero_le _)).trans ?_⟩
  simp only [List.drop_zero, end26]
  rcases Tr.ite_some h2 with ⟨hd, h2⟩ | ⟨hd, h2⟩
  ·have hd : (putG hd2 l []).1 = true := hd
   rw [hd, ← Tr.ret_some h2]; rfl
  ·have hd : (putG hd2 l []).1 = false := hd
   rw [hd, ← Tr.ret_some h2]; rfl
def s26 : CSpec := .sl [ls] [bt, i64] fun x => putI hd2 x.1
theorem r26f (l : List (List Int)) : (fnS Try.prog (ctx []) L26 [bt, i64] Try.f49 (mkArgs [ls] (l, ()))).fold [bt, i64] = putI hd2 l := by kernel_rfl
theorem f26f (l : List (List Int)) : (fnS Try.prog (ctx []) L26 [bt, i64] Try.f49 (mkArgs [ls] (l, ()))).fine [bt, i64] = (decide (l.length ≤ 20) || decide ((l.length : Int) > 20)) := by kernel_rfl
theorem ok26 : CSound Try.prog 49 s26 ∧ CLocal s26 :=
 sl_ok (L := L26) nil_sound Try.func49 (by kernel_rfl) (fun b hb => by
  have : loopsOf (bodyOf Try.f49) = [b26] := by kernel_rfl
  rw [this] at hb
  rw [List.mem_singleton.1 hb]
  exact l26) (fun xs hx => by
   refine (f26f xs.1).trans ?_
   simp; omega) (fun xs hx => r26f xs.1)
def CS : List (Nat × CSpec) := [(92, s58)]
theorem CS_sound : CtxSound Try.prog (ctx CS) ∧ CtxLocal (ctx CS) := ctx_sound ⟨ok58, trivial⟩
def S27 : VSpec := ⟨⟨[0, 4], [2, 3, 4], 48, [bs, .vc 0 1], [.vec 1 bt]⟩, [4]⟩
noncomputable def b27 : Code := loopAt Try.f52 0
def out27 (o : List (List Int)) : Ex × St := (.exit 0, encS [4] [.vc 0 1] [.vec 1 bt] 48 ((), ()) (o, ()))
def ret27 (c : Int) (o : List (List Int)) : Ex × St := (.ret, encS [2, 3, 4] [.nils, i64, .vc 0 1] [.vec 1 bt] 48 ((), c, (), ()) (o, ()))
def from_ (b : List Int) (k : Int) : List Int := (b.take (b.length : Int).toNat).drop k.toNat
def G27 (xs : HL S27.Ts) (hs : HD S27.Es) : Tr S27.toLSpec.End :=
 let b : List Int := xs.1
 let o : List (List Int) := hs.1
 let n : Int := orI .i64 (shlI .i64 (w (b.getD 0 0)) 8) (w (b.getD 1 0))
 let c := from_ b 2
 let d := (c.take n.toNat).drop 0
 let Z : Tr S27.toLSpec.End := .ret (.inl ((from_ c n, (), ()), (o ++ [d], ())))
 let Y : Tr S27.toLSpec.End := .chk (decide (0 ≤ n) && decide (n ≤ (c.length : Int))) (.chk (decide (d.length ≤ 140737488355328)) (.chk (room (o.length + 1) 24)
  (.chk (decide (0 ≤ n) && (decide (n ≤ (c.length : Int)) && decide ((c.length : Int) ≤ (c.length : Int)))) Z)))
 let X : Tr S27.toLSpec.End := .ite (decide (n > 500)) (.ret (.inr (ret27 7 o))) (.ite ((o.length : Int) == 20) (.ret (.inr (ret27 7 o))) (.ite (decide (n > (c.length : Int))) (.ret (.inr (ret27 2 o))) Y))
 let V : Tr S27.toLSpec.End := .chk (inArr 0 b.length) (.chk (inArr 1 b.length) (.chk (decide ((2 : Int) ≤ (b.length : Int)) && decide ((b.length : Int) ≤ (b.length : Int))) X))
 .ite (decide ((b.length : Int) > 0)) (.ite (decide ((b.length : Int) < 2)) (.ret (.inr (ret27 2 o))) V) (.ret (.inr (out27 o)))
theorem r27 (b : List Int) (o : List (List Int)) : (S27.round (bodyK Try.prog (ctx CS) L0 b27) (b, (), ()) (o, ())).eval = (G27 (b, (), ()) (o, ())).eval := by kernel_rfl
end Go.Proofs.Ytaffancdidgkhaa.Fld
end
section
set_option linter.unusedVariables false
set_option maxRecDepth 100000
namespace Go.Proofs.Ytaffancdidgkhaa.Fld
open Go Vse Go.Proofs
def lenN (b : List Int) : Int := 256 * b.getD 0 0 + b.getD 1 0
def splitG : Nat → List Int → List (List Int) → Int × List (List Int)
 | 0, _, o => (0, o)
 | f + 1, b, o => bif decide (b.length > 0) then (bif decide (b.length < 2) then (2, o) else (bif decide (lenN b > 500) then (7, o) else (bif decide (o.length = 20) then (7, o) else
   (bif decide (lenN b > ((b.drop 2).length : Int)) then (2, o) else splitG f ((b.drop 2).drop (lenN b).toNat) (o ++ [(b.drop 2).take (lenN b).toNat]))))) else (0, o)
def Bytes (b : List Int) : Prop := ∀ x ∈ b, 0 ≤ x ∧ x < 256
theorem bytes_get {b : List Int} (h : Bytes b) (i : Nat) : 0 ≤ b.getD i 0 ∧ b.getD i 0 < 256 := by
 rw [List.getD_eq_getElem?_getD]
 cases hx : b[i]? with
 | none => exact ⟨by simp, by simp⟩
 | some x => exact h x (List.mem_of_getElem? hx)
theorem bytes_drop {b : List Int} (h : Bytes b) (k : Nat) : Bytes (b.drop k) := fun x hx => h x (List.mem_of_mem_drop hx)
theorem or_bytes {x y : Int} (hx : 0 ≤ x ∧ x < 256) (hy : 0 ≤ y ∧ y < 256) : orI .i64 (shlI .i64 (w x) 8) (w y) = 256 * x + y := by
 obtain ⟨m, rfl⟩ : ∃ m : Nat, x = m := ⟨x.toNat, by omega⟩
 obtain ⟨n, rfl⟩ : ∃ n : Nat, y = n := ⟨y.toNat, by omega⟩
 have hm : m < 256 := by omega
 have hn : n < 256 := by omega
 rw [w_id (by omega) (by omega), w_id (by omega) (by omega)]
 have e1 : shlI .i64 (m : Int) 8 = ((m * 256 : Nat) : Int) := by
  show w ((m : Int) * 2 ^ 8) = _
  rw [w_id (by omega) (by omega)]
  omega
 rw [e1]
 have hor : m * 256 ||| n = m * 256 + n := by
  have := Nat.shiftLeft_add_eq_or_of_lt (b := n) (i := 8) (by omega) m
  rw [Nat.shiftLeft_eq] at this
  exact this.symm
 rw [orI_nat (by rw [max_i64]; omega) (by rw [max_i64]; omega) (by rw [hor, max_i64]; omega), hor]
 omega
def end27 (r : Int × List (List Int)) : Ex × St := bif decide (r.1 = 0) then out27 r.2 else ret27 r.1 r.2
theorem from_drop (b : List Int) {k : Int} (hk : 0 ≤ k) : from_ b k = b.drop k.toNat := by
 unfold from_
 rw [Int.toNat_natCast, List.take_of_length_le (Nat.le_refl _)]
theorem k27 : ∀ (f : Nat) (b : List Int) (o : List (List Int)), Bytes b → b.length ≤ f → f ≤ 140737488355328 → o.length ≤ 20 →
  S27.many (bodyK Try.prog (ctx CS) L0 b27) (f + 1) (b, (), ()) (o, ()) = some (end27 (splitG (f + 1) b o))
 | 0, b, o, hb, hf, hm, ho => by
  have : b = [] := List.eq_nil_of_length_eq_zero (by omega)
  subst this
  exact vmany_inr ((r27 [] o).trans rfl) 0
 | f + 1, b, o, hb, hf, hm, ho => by
  have h0 := bytes_get hb 0
  have h1 := bytes_get hb 1
  have hn : orI .i64 (shlI .i64 (w (b.getD 0 0)) 8) (w (b.getD 1 0)) = lenN b := or_bytes h0 h1
  have hn0 : 0 ≤ lenN b := by unfold lenN; omega
  have hd2 : from_ b 2 = b.drop 2 := from_drop b (by decide)
  rw [splitG]
  by_cases c0 : b.length > 0
  ·rw [decide_eq_true c0]
   by_cases c1 : b.length < 2
   ·rw [decide_eq_true c1]
    refine vmany_inr ((r27 b o).trans ?_) (f + 1)
    simp only [G27, Tr.eval, decide_eq_true (show (b.length : Int) > 0 by omega), decide_eq_true (show (b.length : Int) < 2 by omega)]
    rfl
   ·rw [decide_eq_false c1]
    have i0 : inArr 0 b.length = true := by simp [inArr]; omega
    have i1 : inArr 1 b.length = true := by simp [inArr]; omega
    have hg : (G27 (b, (), ()) (o, ())).eval = bif decide (lenN b > 500) then some (.inr (ret27 7 o)) else (bif decide (o.length = 20) then some (.inr (ret27 7 o)) else
      (bif decide (lenN b > ((b.drop 2).length : Int)) then some (.inr (ret27 2 o)) else some (.inl (((b.drop 2).drop (lenN b).toNat, (), ()), (o ++ [(b.drop 2).take (lenN b).toNat], ()))))) := by
     have e2 : ((o.length : Int) == 20) = decide (o.length = 20) := by by_cases h : o.length = 20 <;> simp [h] <;> omega
     simp only [G27, Tr.eval, Tr.chk, decide_eq_true (show (b.length : Int) > 0 by omega), decide_eq_false (show ¬ (b.length : Int) < 2 by omega), i0, i1,
      decide_eq_true (show (2 : Int) ≤ (b.length : Int) by omega), decide_eq_true (Int.le_refl (b.length : Int)), Bool.and_self, hn, hd2, e2, List.drop_zero]
     by_cases q1 : lenN b > 500
     ·simp only [decide_eq_true q1, cond_true]
     ·by_cases q2 : o.length = 20
      ·simp only [decide_eq_false q1, decide_eq_true q2, cond_true, cond_false]
      ·by_cases q3 : lenN b > ((b.drop 2).length : Int)
       ·simp only [decide_eq_false q1, decide_eq_false q2, decide_eq_true q3, cond_true, cond_false]
       ·have hl : (b.drop 2).length ≤ b.length := by rw [List.length_drop]; omega
        have hle : lenN b ≤ ((b.drop 2).length : Int) := by omega
        have hto : ((b.drop 2).take (lenN b).toNat).length ≤ 140737488355328 := by rw [List.length_take]; omega
        have hro : room (o.length + 1) 24 = true := by simp only [room, decide_eq_true_eq]; omega
        have hfr : from_ (b.drop 2) (lenN b) = (b.drop 2).drop (lenN b).toNat := from_drop _ hn0
        simp only [decide_eq_false q1, decide_eq_false q2, decide_eq_false q3, cond_false, decide_eq_true hn0, decide_eq_true hle, decide_eq_true hto, hro, hfr, decide_eq_true (Int.le_refl ((b.drop 2).length : Int)), Bool.and_self, Bool.and_true]
    by_cases q1 : lenN b > 500
    ·rw [decide_eq_true q1] at hg ⊢
     exact vmany_inr ((r27 b o).trans hg) (f + 1)
    ·rw [decide_eq_false q1] at hg ⊢
     by_cases q2 : o.length = 20
     ·rw [decide_eq_true q2] at hg ⊢
      exact vmany_inr ((r27 b o).trans hg) (f + 1)
     ·rw [decide_eq_false q2] at hg ⊢
      by_cases q3 : lenN b > ((b.drop 2).length : Int)
      ·rw [decide_eq_true q3] at hg ⊢
       exact vmany_inr ((r27 b o).trans hg) (f + 1)
      ·rw [decide_eq_false q3] at hg ⊢
       exact (vmany_inl ((r27 b o).trans hg) (f + 1)).trans (k27 f _ _ (bytes_drop (bytes_drop hb 2) _) (by rw [List.length_drop, List.length_drop]; omega) (by omega) (by simp; omega))
  ·rw [decide_eq_false c0]
   refine vmany_inr ((r27 b o).trans ?_) (f + 1)
   simp only [G27, Tr.eval, decide_eq_false (show ¬ (b.length : Int) > 0 by omega)]
   rfl
def F27 (xs : HL S27.Ts) (hs : HD S27.Es) : Tr (Ex × St) :=
 let b : List Int := xs.1
 let r := splitG (b.length + 1) b []
 .chk (decide (List.length (α := List Int) hs.1 = 0) && (decide (b.length ≤ 140737488355328) && b.all fun x => decide (0 ≤ x) && decide (x < 256)))
  (.ite (decide (r.1 = 0)) (.ret (out27 r.2)) (.ret (ret27 r.1 r.2)))
noncomputable def L27 : Loops := fun j st => if j = 2 then S27.fn F27 st else .fail
theorem bytes_all {b : List Int} (h : (b.all fun x => decide (0 ≤ x) && decide (x < 256)) = true) : Bytes b := fun x hx => by simpa using List.all_eq_true.1 h x hx
theorem all_bytes {b : List Int} (h : Bytes b) : (b.all fun x => decide (0 ≤ x) && decide (x < 256)) = true := List.all_eq_true.2 fun x hx => by simpa using h x hx
theorem l27 : LoopOK Try.prog L27 b27 :=
 vloop_ok (L := L27) (L' := L0) CS_sound (loopsOK_of (by kernel_rfl)) S27 (F := F27) (i := 2) (by kernel_rfl) (fun _ => rfl) fun xs hs r h => by
  obtain ⟨b, u1, u⟩ := xs
  obtain ⟨o, u2⟩ := hs
  obtain ⟨h1, h2⟩ := Tr.chk_some h
  simp only [Bool.and_eq_true, decide_eq_true_eq] at h1
  obtain ⟨e1, e2, e3⟩ := h1
  have e1 : o = [] := List.eq_nil_of_length_eq_zero e1
  subst e1
  have hb : Bytes b := bytes_all (by simpa using e3)
  refine ⟨_, (k27 (List.length (α := Int) b) b [] hb (Nat.le_refl _) e2 (by simp)).trans ?_⟩
  simp only [end27]
  rcases Tr.ite_some h2 with ⟨hd, h2⟩ | ⟨hd, h2⟩
  ·rw [hd, ← Tr.ret_some h2]; rfl
  ·rw [hd, ← Tr.ret_some h2]; rfl
def preB (b : List Int) : Bool := decide (b.length ≤ 140737488355328)
def splitI (b : List Int) : HL [lt, i64] := let r := splitG (b.length + 1) b []; bif decide (r.1 = 0) then (r.2, 0, ()) else ([], r.1, ())
def s27 : CSpec := .slp [bs] (fun x => preB x.1) [lt, i64] fun x => splitI x.1
theorem r27f (b : List Int) : (fnS Try.prog (ctx CS) L27 [lt, i64] Try.f52 (mkArgs [bs] (b, ()))).fold [lt, i64] = splitI b := by kernel_rfl
theorem f27f (b : List Int) : (fnS Try.prog (ctx CS) L27 [lt, i64] Try.f52 (mkArgs [bs] (b, ()))).fine [lt, i64] = (decide (b.length ≤ 140737488355328) && b.all fun x => decide (0 ≤ x) && decide (x < 256)) := by kernel_rfl
theorem bytes_ok {b : List Int} (h : (Ty.imm false false u8).ok b) : Bytes b := fun x hx => by
 have := inK_iff.1 (h.2 x hx)
 have h1 : IntKind.u8.min = 0 := by decide
 have h2 := max_u8
 omega
theorem ok27 : CSound Try.prog 52 s27 ∧ CLocal s27 :=
 slp_sound (L := L27) CS_sound Try.func52 (by kernel_rfl) (fun b hb => by
  have : loopsOf (bodyOf Try.f52) = [b27] := by kernel_rfl
  rw [this] at hb
  rw [List.mem_singleton.1 hb]
  exact l27) (fun xs hx hp => by
   refine (f27f xs.1).trans ?_
   rw [show decide (List.length (α := Int) xs.1 ≤ 140737488355328) = true from hp]
   exact all_bytes (bytes_ok hx.1)) (fun xs hx hp => r27f xs.1)
def S28 : VSpec := ⟨⟨[0, 4, 5], [2, 3, 4], 61, [bs, .vc 0 1, i64], [.vec 1 bt]⟩, [4]⟩
noncomputable def b28 : Code := loopAt Try.f54 0
def out28 (o : List (List Int)) : Ex × St := (.exit 0, encS [4] [.vc 0 1] [.vec 1 bt] 61 ((), ()) (o, ()))
def ret28 (c : Int) (o : List (List Int)) : Ex × St := (.ret, encS [2, 3, 4] [.nils, i64, .vc 0 1] [.vec 1 bt] 61 ((), c, (), ()) (o, ()))
def G28 (xs : HL S28.Ts) (hs : HD S28.Es) : Tr S28.toLSpec.End :=
 let b : List Int := xs.1
 let i : Int := xs.2.2.1
 let o : List (List Int) := hs.1
 let n : Int := w (w (256 * w (b.getD i.toNat 0)) + w (b.getD (w (i + 1)).toNat 0))
 let lo := w (i + 2)
 let hi := w (lo + n)
 let d := (b.take hi.toNat).drop lo.toNat
 let Z : Tr S28.toLSpec.End := .ret (.inl ((b, (), hi, ()), (o ++ [([] : List Int) ++ d], ())))
 let Y : Tr S28.toLSpec.End := .chk (decide (0 ≤ lo) && (decide (lo ≤ hi) && decide (hi ≤ (b.length : Int)))) (.chk (room (([] : List Int).length + d.length) 1) (.chk (room (o.length + 1) 24) Z))
 let X : Tr S28.toLSpec.End := .ite (decide (n > 500)) (.ret (.inr (ret28 7 o))) (.ite ((o.length : Int) == 20) (.ret (.inr (ret28 7 o))) (.ite (decide (w (w ((b.length : Int) - i) - 2) < n)) (.ret (.inr (ret28 2 o))) Y))
 let V : Tr S28.toLSpec.End := .chk (inArr i b.length) (.chk (inArr (w (i + 1)) b.length) X)
 .ite (decide (i < (b.length : Int))) (.ite (decide (w ((b.length : Int) - i) < 2)) (.ret (.inr (ret28 2 o))) V) (.ret (.inr (out28 o)))
theorem r28 (b : List Int) (i : Int) (o : List (List Int)) : (S28.round (bodyK Try.prog (ctx CS) L0 b28) (b, (), i, ()) (o, ())).eval = (G28 (b, (), i, ()) (o, ())).eval := by kernel_rfl
end Go.Proofs.Ytaffancdidgkhaa.Fld
end
section
set_option linter.unusedVariables false
set_option maxRecDepth 100000
namespace Go.Proofs.Ytaffancdidgkhaa.Fld
open Go Vse Go.Proofs
theorem getD_drop (b : List Int) (k j : Nat) : (b.drop k).getD j 0 = b.getD (k + j) 0 := by
 rw [List.getD_eq_getElem?_getD, List.getD_eq_getElem?_getD, List.getElem?_drop]
def end28 (r : Int × List (List Int)) : Ex × St := bif decide (r.1 = 0) then out28 r.2 else ret28 r.1 r.2
theorem k28 (b : List Int) (hb : Bytes b) (hm : b.length ≤ 140737488355328) : ∀ (f k : Nat) (o : List (List Int)), b.length ≤ k + f → k ≤ b.length → o.length ≤ 20 →
  S28.many (bodyK Try.prog (ctx CS) L0 b28) (f + 1) (b, (), (k : Int), ()) (o, ()) = some (end28 (splitG (f + 1) (b.drop k) o))
 | 0, k, o, hf, hk, ho => by
  have e : b.drop k = [] := List.drop_eq_nil_of_le (by omega)
  rw [e]
  refine vmany_inr ((r28 b k o).trans ?_) 0
  simp only [G28, Tr.eval, decide_eq_false (show ¬ ((k : Int) < (b.length : Int)) by omega)]
  rfl
 | f + 1, k, o, hf, hk, ho => by
  have h0 := bytes_get hb k
  have h1 := bytes_get hb (k + 1)
  have hlen : (b.drop k).length = b.length - k := List.length_drop
  have hlen2 : ((b.drop k).drop 2).length = b.length - k - 2 := by rw [List.length_drop, hlen]
  have hN : lenN (b.drop k) = 256 * b.getD k 0 + b.getD (k + 1) 0 := by unfold lenN; rw [getD_drop, getD_drop]; rfl
  have hn0 : 0 ≤ lenN (b.drop k) := by omega
  have hn1 : lenN (b.drop k) < 65536 := by omega
  rw [splitG]
  by_cases c0 : (b.drop k).length > 0
  ·rw [decide_eq_true c0]
   have hki : (k : Int) < (b.length : Int) := by omega
   by_cases c1 : (b.drop k).length < 2
   ·rw [decide_eq_true c1]
    refine vmany_inr ((r28 b k o).trans ?_) (f + 1)
    simp only [G28, Tr.eval, decide_eq_true hki]
    rw [w_id (x := (b.length : Int) - (k : Int)) (by omega) (by omega), decide_eq_true (show (b.length : Int) - (k : Int) < 2 by omega)]
    rfl
   ·rw [decide_eq_false c1]
    have i0 : inArr (k : Int) b.length = true := by simp [inArr]; omega
    have i1 : inArr ((k + 1 : Nat) : Int) b.length = true := by simp [inArr]; omega
    have wk1 : w ((k : Int) + 1) = ((k + 1 : Nat) : Int) := by rw [w_id (by omega) (by omega)]; omega
    have hn : w (w (256 * w (b.getD k 0)) + w (b.getD (k + 1) 0)) = lenN (b.drop k) := by
     rw [w_id (x := b.getD k 0) (by omega) (by omega), w_id (x := b.getD (k + 1) 0) (by omega) (by omega), w_id (x := 256 * b.getD k 0) (by omega) (by omega), w_id (by omega) (by omega), hN]
    have hlo : w ((k : Int) + 2) = ((k + 2 : Nat) : Int) := by rw [w_id (by omega) (by omega)]; omega
    have hhi : w (((k + 2 : Nat) : Int) + lenN (b.drop k)) = ((k + 2 + (lenN (b.drop k)).toNat : Nat) : Int) := by rw [w_id (by omega) (by omega)]; omega
    have hd : (b.take (k + 2 + (lenN (b.drop k)).toNat)).drop (k + 2) = ((b.drop k).drop 2).take (lenN (b.drop k)).toNat := by
     rw [List.drop_take, List.drop_drop]
     congr 1
     omega
    have hnx : b.drop (k + 2 + (lenN (b.drop k)).toNat) = ((b.drop k).drop 2).drop (lenN (b.drop k)).toNat := by
     rw [List.drop_drop, List.drop_drop]
     congr 1
     omega
    have hg : (G28 (b, (), (k : Int), ()) (o, ())).eval = bif decide (lenN (b.drop k) > 500) then some (.inr (ret28 7 o)) else (bif decide (o.length = 20) then some (.inr (ret28 7 o)) else
      (bif decide (lenN (b.drop k) > (((b.drop k).drop 2).length : Int)) then some (.inr (ret28 2 o)) else
       some (.inl ((b, (), ((k + 2 + (lenN (b.drop k)).toNat : Nat) : Int), ()), (o ++ [((b.drop k).drop 2).take (lenN (b.drop k)).toNat], ()))))) := by
     have e2 : ((o.length : Int) == 20) = decide (o.length = 20) := by by_cases h : o.length = 20 <;> simp [h] <;> omega
     simp only [G28, Tr.eval, Tr.chk, decide_eq_true hki, i0, wk1, i1, Int.toNat_natCast, hn, hlo, hhi, e2, hd]
     rw [w_id (x := (b.length : Int) - (k : Int)) (by omega) (by omega), decide_eq_false (show ¬ (b.length : Int) - (k : Int) < 2 by omega), w_id (by omega) (by omega)]
     by_cases q1 : lenN (b.drop k) > 500
     ·simp only [decide_eq_true q1, cond_true]
     ·by_cases q2 : o.length = 20
      ·simp only [decide_eq_false q1, decide_eq_true q2, cond_true, cond_false]
      ·by_cases q3 : lenN (b.drop k) > (((b.drop k).drop 2).length : Int)
       ·simp only [decide_eq_false q1, decide_eq_false q2, decide_eq_true q3, decide_eq_true (show (b.length : Int) - (k : Int) - 2 < lenN (b.drop k) by omega), cond_true, cond_false]
       ·have hle : ((k + 2 + (lenN (b.drop k)).toNat : Nat) : Int) ≤ (b.length : Int) := by omega
        have hto : room (([] : List Int).length + (((b.drop k).drop 2).take (lenN (b.drop k)).toNat).length) 1 = true := by simp only [room, decide_eq_true_eq, List.length_take, List.length_nil]; omega
        have hro : room (o.length + 1) 24 = true := by simp only [room, decide_eq_true_eq]; omega
        simp only [decide_eq_false q1, decide_eq_false q2, decide_eq_false q3, decide_eq_false (show ¬ (b.length : Int) - (k : Int) - 2 < lenN (b.drop k) by omega), cond_false,
         decide_eq_true (show (0 : Int) ≤ ((k + 2 : Nat) : Int) by omega), decide_eq_true (show ((k + 2 : Nat) : Int) ≤ ((k + 2 + (lenN (b.drop k)).toNat : Nat) : Int) by omega), decide_eq_true hle, hto, hro, Bool.and_self, List.nil_append]
    by_cases q1 : lenN (b.drop k) > 500
    ·rw [decide_eq_true q1] at hg ⊢
     exact vmany_inr ((r28 b k o).trans hg) (f + 1)
    ·rw [decide_eq_false q1] at hg ⊢
     by_cases q2 : o.length = 20
     ·rw [decide_eq_true q2] at hg ⊢
      exact vmany_inr ((r28 b k o).trans hg) (f + 1)
     ·rw [decide_eq_false q2] at hg ⊢
      by_cases q3 : lenN (b.drop k) > (((b.drop k).drop 2).length : Int)
      ·rw [decide_eq_true q3] at hg ⊢
       exact vmany_inr ((r28 b k o).trans hg) (f + 1)
      ·rw [decide_eq_false q3] at hg ⊢
       refine (vmany_inl ((r28 b k o).trans hg) (f + 1)).trans ?_
       have := k28 b hb hm f (k + 2 + (lenN (b.drop k)).toNat) (o ++ [((b.drop k).drop 2).take (lenN (b.drop k)).toNat]) (by omega) (by omega) (by simp; omega)
       rw [hnx] at this
       exact this
  ·rw [decide_eq_false c0]
   refine vmany_inr ((r28 b k o).trans ?_) (f + 1)
   simp only [G28, Tr.eval, decide_eq_false (show ¬ (k : Int) < (b.length : Int) by omega)]
   rfl
def F28 (xs : HL S28.Ts) (hs : HD S28.Es) : Tr (Ex × St) :=
 let b : List Int := xs.1
 let r := splitG (b.length + 1) b []
 .chk (decide (xs.2.2.1 = (0 : Int)) && (decide (List.length (α := List Int) hs.1 = 0) && (decide (b.length ≤ 140737488355328) && b.all fun x => decide (0 ≤ x) && decide (x < 256))))
  (.ite (decide (r.1 = 0)) (.ret (out28 r.2)) (.ret (ret28 r.1 r.2)))
noncomputable def L28 : Loops := fun j st => if j = 3 then S28.fn F28 st else .fail
theorem l28 : LoopOK Try.prog L28 b28 :=
 vloop_ok (L := L28) (L' := L0) CS_sound (loopsOK_of (by kernel_rfl)) S28 (F := F28) (i := 3) (by kernel_rfl) (fun _ => rfl) fun xs hs r h => by
  obtain ⟨b, u1, i, u⟩ := xs
  obtain ⟨o, u2⟩ := hs
  obtain ⟨h1, h2⟩ := Tr.chk_some h
  simp only [Bool.and_eq_true, decide_eq_true_eq] at h1
  obtain ⟨e0, e1, e2, e3⟩ := h1
  have e0 : i = ((0 : Nat) : Int) := e0
  have e1 : o = [] := List.eq_nil_of_length_eq_zero e1
  subst e0; subst e1
  have hb : Bytes b := bytes_all (by simpa using e3)
  refine ⟨_, (k28 b hb e2 (List.length (α := Int) b) 0 [] (by omega) (Nat.zero_le _) (by simp)).trans ?_⟩
  simp only [end28, List.drop_zero]
  rcases Tr.ite_some h2 with ⟨hd, h2⟩ | ⟨hd, h2⟩
  ·rw [hd, ← Tr.ret_some h2]; rfl
  ·rw [hd, ← Tr.ret_some h2]; rfl
def s28 : CSpec := .slp [bs] (fun x => preB x.1) [lt, i64] fun x => splitI x.1
theorem r28f (b : List Int) : (fnS Try.prog (ctx CS) L28 [lt, i64] Try.f54 (mkArgs [bs] (b, ()))).fold [lt, i64] = splitI b := by kernel_rfl
theorem f28f (b : List Int) : (fnS Try.prog (ctx CS) L28 [lt, i64] Try.f54 (mkArgs [bs] (b, ()))).fine [lt, i64] = (decide (b.length ≤ 140737488355328) && b.all fun x => decide (0 ≤ x) && decide (x < 256)) := by kernel_rfl
theorem ok28 : CSound Try.prog 54 s28 ∧ CLocal s28 :=
 slp_sound (L := L28) CS_sound Try.func54 (by kernel_rfl) (fun b hb => by
  have : loopsOf (bodyOf Try.f54) = [b28] := by kernel_rfl
  rw [this] at hb
  rw [List.mem_singleton.1 hb]
  exact l28) (fun xs hx hp => by
   refine (f28f xs.1).trans ?_
   rw [show decide (List.length (α := Int) xs.1 ≤ 140737488355328) = true from hp]
   exact all_bytes (bytes_ok hx.1)) (fun xs hx hp => r28f xs.1)
end Go.Proofs.Ytaffancdidgkhaa.Fld
end
section
set_option linter.unusedVariables false
namespace Vse
open Go Go.ChangeShapes Go.Proofs Go.Sort Go.Shelf
section
variable {P : Program} {C : Ctx} {L : Loops} {g : G} {H : Heap} {w : World}
def G.all (w : World) : G := ⟨fun _ => none, fun b => w.heap[b]?, fun _ => none, fun _ => 0, fun _ => .free, (((w.os, w.output, w.tape), w.drawn), [])⟩
abbrev Pr := { p : Int × Int // inK .i64 p.1 = true ∧ inK .i64 p.2 = true }
instance : Inhabited Pr := ⟨⟨(0, 0), by decide⟩⟩
end
end Vse
end
section
set_option linter.unusedVariables false
namespace Vse
open Go Go.ChangeShapes
section
variable {F : Fence} {n : Nat} {P : Program} {Q : Exit → Act → World → Prop} {a : Act} {w : World}
end
def fnPX (P : Program) (rn : St → Tr (Ex × St)) (S : PSpec) (fn : Func) (xs : HL S.As) (hs : HD S.Es) : Tr S.Out :=
 (fnTX P rn fn (mkArgs S.As xs) (encH S.Es hs)).bind fun r => match S.norm r with
  | some d => .ret d
  | none => .fail
end Vse
end
section
set_option linter.unusedVariables false
namespace Vse
open Go Go.ChangeShapes
structure Cut where
 depth : Nat
 E0 : List ETy
 inis : List IniT
 live : List Nat
 Ts : List Ty
 Es : List ETy
 nt : Nat
def runCut (P : Program) (C : Ctx) (L : Loops) (K : Cut) : Nat → Code → St → Tr (Ex × St)
 | 0, .seq a b, st => (run P C L a st).bind fun r => match r with
  | (.normal, s) => if heapIs K.E0 s.heap then match renTo K.E0 K.inis K.live K.Ts K.Es K.nt s with
   | some d => run P C L b (encS K.live K.Ts K.Es K.nt d.1 d.2)
   | none => .fail
   else .fail
  | r => .ret r
 | n + 1, .seq a b, st => (run P C L a st).bind fun r => match r with
  | (.normal, s) => runCut P C L K n b s
  | r => .ret r
 | _, _, _ => .fail
theorem runCut_ok {P : Program} {C : Ctx} {L : Loops} (hC : CtxSound P C ∧ CtxLocal C) (K : Cut) : ∀ (n : Nat) (c : Code), LoopsOK P L c → RunOK P (runCut P C L K n c) c := by
 intro n
 induction n with
 | zero =>
  intro c hl g st st' a w x Q hs hm he hn
  cases c with
  | seq p q =>
   obtain ⟨r, h1, h2⟩ := Tr.bind_some (show ((run P C L p st).bind fun r => match r with
    | (.normal, s) => if heapIs K.E0 s.heap then match renTo K.E0 K.inis K.live K.Ts K.Es K.nt s with
     | some d => run P C L q (encS K.live K.Ts K.Es K.nt d.1 d.2)
     | none => .fail
     else .fail
    | r => .ret r).eval = _ from he)
   obtain ⟨y, s⟩ := r
   refine wpIn_seq (run_ok hC p hl.1 hs hm h1 fun g' a' w' hle hs' hm' => ?_)
   cases y with
   | normal =>
    simp only [Ex.out, Exit.then]
    simp only at h2
    split at h2
    ·rename_i hh
     have h0 : ∀ t, isY (g'.sh t) K.E0[t]? := fun t => by rw [hs'.heap.sh]; exact heapIs_isY hh t
     split at h2
     ·rename_i d hd
      obtain ⟨g3, q1, q2⟩ := renTo_rep (G.le.refl g') hs' h0 hd
      exact run_ok hC q hl.2 q2 (by rw [q1.ext]; exact hm'.mono q1) h2 fun g'' a'' w'' hle' hs'' hm'' => hn g'' a'' w'' ((hle.trans q1.d).trans hle') hs'' hm''
     ·exact (Tr.fail_some h2).elim
    ·exact (Tr.fail_some h2).elim
   | exit i =>
    have := Tr.ret_some h2
    simp only [Prod.mk.injEq] at this
    obtain ⟨rfl, rfl⟩ := this
    exact hn g' a' w' hle hs' hm'
   | ret =>
    have := Tr.ret_some h2
    simp only [Prod.mk.injEq] at this
    obtain ⟨rfl, rfl⟩ := this
    exact hn g' a' w' hle hs' hm'
  | _ => exact (Tr.fail_some he).elim
 | succ n ih =>
  intro c hl g st st' a w x Q hs hm he hn
  cases c with
  | seq p q =>
   obtain ⟨r, h1, h2⟩ := Tr.bind_some (show ((run P C L p st).bind fun r => match r with
    | (.normal, s) => runCut P C L K n q s
    | r => .ret r).eval = _ from he)
   obtain ⟨y, s⟩ := r
   refine wpIn_seq (run_ok hC p hl.1 hs hm h1 fun g' a' w' hle hs' hm' => ?_)
   cases y with
   | normal =>
    simp only [Ex.out, Exit.then]
    exact ih q hl.2 hs' hm' h2 fun g'' a'' w'' hle' hs'' hm'' => hn g'' a'' w'' (hle.trans hle') hs'' hm''
   | exit i =>
    have := Tr.ret_some h2
    simp only [Prod.mk.injEq] at this
    obtain ⟨rfl, rfl⟩ := this
    exact hn g' a' w' hle hs' hm'
   | ret =>
    have := Tr.ret_some h2
    simp only [Prod.mk.injEq] at this
    obtain ⟨rfl, rfl⟩ := this
    exact hn g' a' w' hle hs' hm'
  | _ => exact (Tr.fail_some he).elim
theorem pos_cut {P : Program} {C : Ctx} {L : Loops} (hC : CtxSound P C ∧ CtxLocal C) (K : Cut) {k : Nat} {fn : Func} (hf : P.funcs[k]? = some fn) {c : Code} (hb : fn.body = some c) (hname : (fn.name == "runtime.NumGoroutine") = false)
  (hl : ∀ b ∈ loopsOf c, LoopOK P L b) {S : PSpec} {pre : HL S.As → HD S.Es → Bool} {f : HL S.As → HD S.Es → S.Out}
  (h1 : ∀ xs hs, HL.ok S.As xs → HD.ok S.Es hs → pre xs hs = true → (fnPX P (runCut P C L K K.depth c) S fn xs hs).eval = some (f xs hs)) : CSound P k (CSpec.pos S pre f) ∧ CLocal (CSpec.pos S pre f) :=
 pos_soundX (fnX := fnTX P (runCut P C L K K.depth c) fn) (fun args w => callFunc_enter hf hname hb args w) (fun hI hargs he => fn_soundX hf hb (runCut_ok hC K K.depth c (loopsOK_all hl)) hI hargs he) h1
end Vse
end
section
set_option linter.unusedVariables false
namespace Vse
open Go Go.ChangeShapes
abbrev CutE (K : Cut) : Type := (HL K.Ts × HD K.Es) ⊕ (Ex × St)
def cutR (K : Cut) (r : Ex × St) : Tr (CutE K) := match r with
 | (.normal, s) => if heapIs K.E0 s.heap then match renTo K.E0 K.inis K.live K.Ts K.Es K.nt s with
  | some d => .ret (.inl d)
  | none => .fail
  else .fail
 | r => .ret (.inr r)
def headC (P : Program) (C : Ctx) (L : Loops) (K : Cut) : Nat → Code → St → Tr (CutE K)
 | 0, .seq a b, st => (run P C L a st).bind (cutR K)
 | n + 1, .seq a b, st => (run P C L a st).bind fun r => match r with
  | (.normal, s) => headC P C L K n b s
  | r => .ret (.inr r)
 | _, _, _ => .fail
def restC : Nat → Code → Code
 | 0, .seq a b => b
 | n + 1, .seq a b => restC n b
 | _, c => c
def runCuts (P : Program) (C : Ctx) (L : Loops) : List Cut → Code → St → Tr (Ex × St)
 | [], c, st => run P C L c st
 | K :: Ks, c, st => (headC P C L K K.depth c st).bind fun r => match r with
  | .inl d => runCuts P C L Ks (restC K.depth c) (encS K.live K.Ts K.Es K.nt d.1 d.2)
  | .inr r => .ret r
theorem headC_ok {P : Program} {C : Ctx} {L : Loops} (hC : CtxSound P C ∧ CtxLocal C) (K : Cut) {rn : St → Tr (Ex × St)} : ∀ (n : Nat) (c : Code), LoopsOK P L c → RunOK P rn (restC n c) →
  RunOK P (fun st => (headC P C L K n c st).bind fun r => match r with
   | .inl d => rn (encS K.live K.Ts K.Es K.nt d.1 d.2)
   | .inr r => .ret r) c := by
 intro n
 induction n with
 | zero =>
  intro c hl hr g st st' a w x Q hs hm he hn
  cases c with
  | seq p q =>
   obtain ⟨e, h0, h3⟩ := Tr.bind_some he
   obtain ⟨r, h1, h2⟩ := Tr.bind_some (show ((run P C L p st).bind (cutR K)).eval = _ from h0)
   obtain ⟨y, s⟩ := r
   refine wpIn_seq (run_ok hC p hl.1 hs hm h1 fun g' a' w' hle hs' hm' => ?_)
   cases y with
   | normal =>
    simp only [Ex.out, Exit.then]
    unfold cutR at h2
    simp only at h2
    split at h2
    ·rename_i hh
     have h00 : ∀ t, isY (g'.sh t) K.E0[t]? := fun t => by rw [hs'.heap.sh]; exact heapIs_isY hh t
     split at h2
     ·rename_i d hd
      have := Tr.ret_some h2
      subst this
      obtain ⟨g3, q1, q2⟩ := renTo_rep (G.le.refl g') hs' h00 hd
      exact hr q2 (by rw [q1.ext]; exact hm'.mono q1) h3 fun g'' a'' w'' hle' hs'' hm'' => hn g'' a'' w'' ((hle.trans q1.d).trans hle') hs'' hm''
     ·exact (Tr.fail_some h2).elim
    ·exact (Tr.fail_some h2).elim
   | exit i =>
    have := Tr.ret_some h2
    subst this
    have := Tr.ret_some h3
    simp only [Prod.mk.injEq] at this
    obtain ⟨rfl, rfl⟩ := this
    exact hn g' a' w' hle hs' hm'
   | ret =>
    have := Tr.ret_some h2
    subst this
    have := Tr.ret_some h3
    simp only [Prod.mk.injEq] at this
    obtain ⟨rfl, rfl⟩ := this
    exact hn g' a' w' hle hs' hm'
  | _ => obtain ⟨e, h0, h3⟩ := Tr.bind_some he; exact (Tr.fail_some h0).elim
 | succ n ih =>
  intro c hl hr g st st' a w x Q hs hm he hn
  cases c with
  | seq p q =>
   obtain ⟨e, h0, h3⟩ := Tr.bind_some he
   obtain ⟨r, h1, h2⟩ := Tr.bind_some (show ((run P C L p st).bind fun r => match r with
    | (.normal, s) => headC P C L K n q s
    | r => (.ret (.inr r) : Tr (CutE K))).eval = _ from h0)
   obtain ⟨y, s⟩ := r
   refine wpIn_seq (run_ok hC p hl.1 hs hm h1 fun g' a' w' hle hs' hm' => ?_)
   cases y with
   | normal =>
    simp only [Ex.out, Exit.then]
    refine ih q hl.2 hr hs' hm' ?_ fun g'' a'' w'' hle' hs'' hm'' => hn g'' a'' w'' (hle.trans hle') hs'' hm''
    rw [Tr.eval_bind, show (headC P C L K n q s).eval = some e from h2]
    exact h3
   | exit i =>
    have := Tr.ret_some h2
    subst this
    have := Tr.ret_some h3
    simp only [Prod.mk.injEq] at this
    obtain ⟨rfl, rfl⟩ := this
    exact hn g' a' w' hle hs' hm'
   | ret =>
    have := Tr.ret_some h2
    subst this
    have := Tr.ret_some h3
    simp only [Prod.mk.injEq] at this
    obtain ⟨rfl, rfl⟩ := this
    exact hn g' a' w' hle hs' hm'
  | _ => obtain ⟨e, h0, h3⟩ := Tr.bind_some he; exact (Tr.fail_some h0).elim
theorem restC_loops {P : Program} {L : Loops} : ∀ {n : Nat} {c : Code}, LoopsOK P L c → LoopsOK P L (restC n c)
 | 0, c, h => by
  cases c with
  | seq p q => exact h.2
  | _ => exact h
 | n + 1, c, h => by
  cases c with
  | seq p q => exact restC_loops (n := n) h.2
  | _ => exact h
theorem runCuts_ok {P : Program} {C : Ctx} {L : Loops} (hC : CtxSound P C ∧ CtxLocal C) : ∀ (Ks : List Cut) (c : Code), LoopsOK P L c → RunOK P (runCuts P C L Ks c) c
 | [], c, hl => fun hs hm he hn => run_ok hC c hl hs hm he hn
 | K :: Ks, c, hl => headC_ok hC K K.depth c hl (runCuts_ok hC Ks _ (restC_loops hl))
def finC (P : Program) (S : PSpec) (fn : Func) (r : Ex × St) : Tr S.Out := match r with
 | (.exit _, _) => .fail
 | (_, s) => match resT P fn s with
  | some v => match S.norm (v, s.heap) with
   | some d => .ret d
   | none => .fail
  | none => .fail
def stC (P : Program) (C : Ctx) (L : Loops) (S : PSpec) (fn : Func) (Ks : List Cut) (c : Code) (st : St) : Tr S.Out := (runCuts P C L Ks c st).bind (finC P S fn)
def hdC (P : Program) (C : Ctx) (L : Loops) (S : PSpec) (fn : Func) (K : Cut) (c : Code) (st : St) : Tr ((HL K.Ts × HD K.Es) ⊕ S.Out) :=
 (headC P C L K K.depth c st).bind fun r => match r with
  | .inl d => .ret (.inl d)
  | .inr r => (finC P S fn r).bind fun o => .ret (.inr o)
theorem st_inl {P : Program} {C : Ctx} {L : Loops} {S : PSpec} {fn : Func} {K : Cut} {Ks : List Cut} {c : Code} {st : St} {d : HL K.Ts × HD K.Es} (h : (hdC P C L S fn K c st).eval = some (.inl d)) :
  (stC P C L S fn (K :: Ks) c st).eval = (stC P C L S fn Ks (restC K.depth c) (encS K.live K.Ts K.Es K.nt d.1 d.2)).eval := by
 obtain ⟨r, h1, h2⟩ := Tr.bind_some h
 unfold stC
 rw [Tr.eval_bind, Tr.eval_bind]
 show Option.bind ((headC P C L K K.depth c st).bind _).eval _ = _
 rw [Tr.eval_bind, h1]
 cases r with
 | inl d' =>
  have := Tr.ret_some h2
  simp only [Sum.inl.injEq] at this
  subst this
  rfl
 | inr r =>
  obtain ⟨o, h3, h4⟩ := Tr.bind_some h2
  have := Tr.ret_some h4
  cases this
theorem st_inr {P : Program} {C : Ctx} {L : Loops} {S : PSpec} {fn : Func} {K : Cut} {Ks : List Cut} {c : Code} {st : St} {o : S.Out} (h : (hdC P C L S fn K c st).eval = some (.inr o)) :
  (stC P C L S fn (K :: Ks) c st).eval = some o := by
 obtain ⟨r, h1, h2⟩ := Tr.bind_some h
 unfold stC
 rw [Tr.eval_bind]
 show Option.bind ((headC P C L K K.depth c st).bind _).eval _ = _
 rw [Tr.eval_bind, h1]
 cases r with
 | inl d' =>
  have := Tr.ret_some h2
  cases this
 | inr r =>
  obtain ⟨o', h3, h4⟩ := Tr.bind_some h2
  have := Tr.ret_some h4
  simp only [Sum.inr.injEq] at this
  subst this
  exact h3
theorem fnPX_st {P : Program} {C : Ctx} {L : Loops} {S : PSpec} {fn : Func} {Ks : List Cut} {c : Code} {xs : HL S.As} {hs : HD S.Es} :
  (fnPX P (runCuts P C L Ks c) S fn xs hs).eval = (stC P C L S fn Ks c (begin_ fn (mkArgs S.As xs) (encH S.Es hs))).eval := by
 unfold fnPX fnTX stC
 rw [Tr.eval_bind, Tr.eval_bind, Tr.eval_bind]
 cases (runCuts P C L Ks c (begin_ fn (mkArgs S.As xs) (encH S.Es hs))).eval with
 | none => rfl
 | some r =>
  obtain ⟨x, s⟩ := r
  simp only [Option.bind_some]
  cases x with
  | exit i => rfl
  | normal => simp only [finC]; cases h : resT P fn s <;> rfl
  | ret => simp only [finC]; cases h : resT P fn s <;> rfl
theorem pos_cuts {P : Program} {C : Ctx} {L : Loops} (hC : CtxSound P C ∧ CtxLocal C) (Ks : List Cut) {k : Nat} {fn : Func} (hf : P.funcs[k]? = some fn) {c : Code} (hb : fn.body = some c) (hname : (fn.name == "runtime.NumGoroutine") = false)
  (hl : ∀ b ∈ loopsOf c, LoopOK P L b) {S : PSpec} {pre : HL S.As → HD S.Es → Bool} {f : HL S.As → HD S.Es → S.Out}
  (h1 : ∀ xs hs, HL.ok S.As xs → HD.ok S.Es hs → pre xs hs = true → (stC P C L S fn Ks c (begin_ fn (mkArgs S.As xs) (encH S.Es hs))).eval = some (f xs hs)) : CSound P k (CSpec.pos S pre f) ∧ CLocal (CSpec.pos S pre f) :=
 pos_soundX (fnX := fnTX P (runCuts P C L Ks c) fn) (fun args w => callFunc_enter hf hname hb args w) (fun hI hargs he => fn_soundX hf hb (runCuts_ok hC Ks c (loopsOK_all hl)) hI hargs he)
  fun xs hs hx hh hp => fnPX_st.trans (h1 xs hs hx hh hp)
end Vse
end
section
set_option linter.unusedVariables false
set_option maxRecDepth 100000
namespace Go.Proofs.Ytaffancdidgkhaa.Kdc
open Go Vse Go.Proofs Gen
abbrev w16 : Ty := .arr 16 u8
abbrev ls : Ty := .imm false false bt
abbrev lt : Ty := .imm true false bt
abbrev Rs := List Int × Int × Unit
abbrev Rl := List (List Int) × Int × Unit
abbrev tEnt : Ty := .prod .str (.prod w16 .unit)
abbrev tB : Ty := .prod (.imm true false tEnt) (.prod (.imm true false w16) (.prod i64 (.prod w16 .unit)))
abbrev tN : Ty := .prod i64 (.prod .str (.prod .str (.prod w16 (.prod w16 (.prod bt (.prod bt (.prod bt .unit)))))))
abbrev nSd : PSpec := ⟨[w16, .str, w16, ls], [bt], [], [], []⟩
abbrev Pf := List (List Int) → Rs
abbrev Sf := List Int → ByteArray → List Int → List Int → Rs
def cSd (put : Nat) (sl : Nat) (P : Pf) (S : Sf) (ps : List Int → ByteArray → Bool) : List (Nat × CSpec) :=
 [(put, .sl [ls] [bt, i64] fun x => P x.1), (sl, .pos Seal.nSe (fun xs _ => ps xs.1 xs.2.1) fun xs _ => (S xs.1 xs.2.1 xs.2.2.1 xs.2.2.2.1, ()))]
def TSd (P : Pf) (S : Sf) (ps : List Int → ByteArray → Bool) (key : List Int) (s : ByteArray) (first : List Int) (l : List (List Int)) : Tr nSd.Out :=
 .ite ((P l).2.1 != 0) (.ret (([], ()), ())) (.chk (ps key s) (.ite ((S key s first (P l).1).2.1 != 0) (.ret (([], ()), ())) (.ret (((S key s first (P l).1).1, ()), ()))))
theorem tSd (P : Pf) (S : Sf) (ps : List Int → ByteArray → Bool) (key : List Int) (s : ByteArray) (first : List Int) (l : List (List Int)) :
  (fnP Try.prog (ctx (cSd 47 48 P S ps)) L0 nSd Try.f17 (key, s, first, l, ()) ()).eval = (TSd P S ps key s first l).eval := by kernel_rfl
def TSr (P : Pf) (S : Sf) (ps : List Int → ByteArray → Bool) (key : List Int) (s : ByteArray) (first : List Int) (l : List (List Int)) : Tr nSd.Out :=
 .ite ((P l).2.1 != 0) (.ret (([], ()), ())) (.chk (ps key s) (.ret (((S key s first (P l).1).1, ()), ())))
theorem tSr (P : Pf) (S : Sf) (ps : List Int → ByteArray → Bool) (key : List Int) (s : ByteArray) (first : List Int) (l : List (List Int)) :
  (fnP Try.prog (ctx (cSd 49 50 P S ps)) L0 nSd Try.f18 (key, s, first, l, ()) ()).eval = (TSr P S ps key s first l).eval := by kernel_rfl
abbrev nPt : PSpec := ⟨[w16, .str, bs, i64], [lt, i64], [], [], []⟩
abbrev Of := List Int → ByteArray → List Int → Rs
abbrev Qf := List Int → Rl
def cPt (op : Nat) (sp : Nat) (O : Of) (po : List Int → ByteArray → Bool) (Q : Qf) (pq : List Int → Bool) : List (Nat × CSpec) :=
 [(op, .pos Seal.nOp (fun xs _ => po xs.1 xs.2.1) fun xs _ => (O xs.1 xs.2.1 xs.2.2.1, ())), (sp, .slp [bs] (fun x => pq x.1) [lt, i64] fun x => Q x.1)]
def TPt (O : Of) (po : List Int → ByteArray → Bool) (Q : Qf) (pq : List Int → Bool) (key : List Int) (s : ByteArray) (b : List Int) (many : Int) : Tr nPt.Out :=
 .chk (po key s) (.ite ((O key s b).2.1 != 0) (.ret (([], (O key s b).2.1, ()), ())) (.chk (pq (O key s b).1) (.ite ((Q (O key s b).1).2.1 != 0) (.ret (([], (3 : Int), ()), ()))
  (.ite (((Q (O key s b).1).1.length : Int) != many) (.ret (([], (3 : Int), ()), ())) (.ret (((Q (O key s b).1).1, (0 : Int), ()), ()))))))
theorem tPt (O : Of) (po : List Int → ByteArray → Bool) (Q : Qf) (pq : List Int → Bool) (key : List Int) (s : ByteArray) (b : List Int) (many : Int) :
  (fnP Try.prog (ctx (cPt 51 52 O po Q pq)) L0 nPt Try.f20 (key, s, b, many, ()) ()).eval = (TPt O po Q pq key s b many).eval := by kernel_rfl
theorem tPr (O : Of) (po : List Int → ByteArray → Bool) (Q : Qf) (pq : List Int → Bool) (key : List Int) (s : ByteArray) (b : List Int) (many : Int) :
  (fnP Try.prog (ctx (cPt 53 54 O po Q pq)) L0 nPt Try.f21 (key, s, b, many, ()) ()).eval = (TPt O po Q pq key s b many).eval := by kernel_rfl
end Go.Proofs.Ytaffancdidgkhaa.Kdc
end
section
set_option linter.unusedVariables false
set_option maxRecDepth 100000
namespace Go.Proofs.Ytaffancdidgkhaa.Fld
open Go Vse Go.Proofs
theorem wb_mod (x : Int) : wb x = x % 256 := by
 simp [IntKind.wrap, IntKind.signed, IntKind.bits]
end Go.Proofs.Ytaffancdidgkhaa.Fld
end
section
set_option linter.unusedVariables false
set_option maxRecDepth 100000
namespace Go.Proofs.Ytaffancdidgkhaa.Fld
open Go Vse Go.Proofs
theorem hd1_eq {p : List Int} (h : p.length ≤ 500) : hd1 p = [(p.length : Int) / 256, (p.length : Int) % 256] := by
 unfold hd1
 have e : shrI .i64 (p.length : Int) 8 = (p.length : Int) / 256 := by
  show (p.length : Int).fdiv (2 ^ 8) = _
  rw [Int.fdiv_eq_ediv_of_nonneg _ (by decide)]; rfl
 rw [e, wb_mod, wb_mod]
 congr 1
 omega
theorem hd2_eq {p : List Int} (h : p.length ≤ 500) : hd2 p = [(p.length : Int) / 256, (p.length : Int) % 256] := by
 unfold hd2
 rw [Int.tdiv_eq_ediv_of_nonneg (by omega), Int.tmod_eq_emod_of_nonneg (by omega), w_id (by omega) (by omega), wb_mod, wb_mod]
 congr 1
 ·omega
 ·congr 1
  omega
theorem putG_same : ∀ (l : List (List Int)) (o : List Int), putG hd1 l o = putG hd2 l o
 | [], o => rfl
 | p :: r, o => by
  simp only [putG]
  by_cases h : (p.length : Int) > 500
  ·rw [decide_eq_true h]; rfl
  ·rw [decide_eq_false h]
   have h : p.length ≤ 500 := by omega
   rw [hd1_eq h, hd2_eq h]
   exact putG_same r _
theorem putI_same (l : List (List Int)) : putI hd1 l = putI hd2 l := by
 unfold putI
 rw [putG_same]
def encL : List (List Int) → List Int
 | [] => []
 | p :: r => hd1 p ++ p ++ encL r
theorem putG_ok : ∀ (l : List (List Int)) (o b : List Int), putG hd1 l o = (true, b) → (∀ p ∈ l, p.length ≤ 500) ∧ b = o ++ encL l
 | [], o, b, h => by
  simp only [putG, Prod.mk.injEq, true_and] at h
  subst h
  exact ⟨by simp, by simp [encL]⟩
 | p :: r, o, b, h => by
  simp only [putG] at h
  by_cases hp : (p.length : Int) > 500
  ·rw [decide_eq_true hp] at h; cases h
  ·rw [decide_eq_false hp] at h
   obtain ⟨h1, h2⟩ := putG_ok r _ b h
   refine ⟨fun q hq => ?_, by rw [h2]; simp [encL, List.append_assoc]⟩
   rcases List.mem_cons.1 hq with rfl | hq
   ·omega
   ·exact h1 q hq
theorem putG_enc : ∀ (l : List (List Int)) (o : List Int), (∀ p ∈ l, p.length ≤ 500) → putG hd1 l o = (true, o ++ encL l)
 | [], o, _ => by simp [putG, encL]
 | p :: r, o, h => by
  have hp := h p (by simp)
  simp only [putG, decide_eq_false (show ¬ (p.length : Int) > 500 by omega), cond_false]
  rw [putG_enc r _ fun q hq => h q (by simp [hq])]
  simp [encL, List.append_assoc]
theorem split_enc : ∀ (l : List (List Int)) (o : List (List Int)) (f : Nat), (∀ p ∈ l, p.length ≤ 500) → o.length + l.length ≤ 20 → (encL l).length < f → splitG f (encL l) o = (0, o ++ l)
 | [], o, f, _, _, hf => by
  cases f with
  | zero => omega
  | succ f => simp [splitG, encL]
 | p :: r, o, f, h, ho, hf => by
  have hp := h p (by simp)
  have e := hd1_eq hp
  have hh : (hd1 p).length = 2 := rfl
  simp only [List.length_cons] at ho
  cases f with
  | zero => omega
  | succ f =>
   have hb : encL (p :: r) = (p.length : Int) / 256 :: (p.length : Int) % 256 :: (p ++ encL r) := by simp [encL, e]
   have hl : (encL (p :: r)).length = p.length + (encL r).length + 2 := by rw [hb]; simp
   have hn : lenN (encL (p :: r)) = (p.length : Int) := by
    rw [hb]; unfold lenN
    simp only [List.getD_cons_zero, List.getD_cons_succ]
    omega
   have hd : (encL (p :: r)).drop 2 = p ++ encL r := by rw [hb]; rfl
   rw [splitG, decide_eq_true (show (encL (p :: r)).length > 0 by omega), decide_eq_false (show ¬ (encL (p :: r)).length < 2 by omega), hn, hd, decide_eq_false (show ¬ (p.length : Int) > 500 by omega),
    decide_eq_false (show ¬ o.length = 20 by omega), decide_eq_false (show ¬ (p.length : Int) > ((p ++ encL r).length : Int) by rw [List.length_append]; omega)]
   simp only [cond_true, cond_false, Int.toNat_natCast, List.drop_left, List.take_left]
   rw [split_enc r (o ++ [p]) f (fun q hq => h q (by simp [hq])) (by simp; omega) (by omega)]
   simp
theorem enc_split : ∀ (f : Nat) (b : List Int) (o r : List (List Int)), Bytes b → b.length < f → o.length ≤ 20 → splitG f b o = (0, r) → ∃ l, r = o ++ l ∧ encL l = b ∧ (∀ p ∈ l, p.length ≤ 500) ∧ r.length ≤ 20
 | 0, b, o, r, _, hf, _, _ => by omega
 | f + 1, b, o, r, hb, hf, ho, h => by
  rw [splitG] at h
  by_cases c0 : b.length > 0
  ·rw [decide_eq_true c0] at h
   by_cases c1 : b.length < 2
   ·rw [decide_eq_true c1] at h; cases h
   ·rw [decide_eq_false c1] at h
    by_cases q1 : lenN b > 500
    ·rw [decide_eq_true q1] at h; cases h
    ·rw [decide_eq_false q1] at h
     by_cases q2 : o.length = 20
     ·rw [decide_eq_true q2] at h; cases h
     ·rw [decide_eq_false q2] at h
      by_cases q3 : lenN b > ((b.drop 2).length : Int)
      ·rw [decide_eq_true q3] at h; cases h
      ·rw [decide_eq_false q3] at h
       simp only [cond_true, cond_false] at h
       have x0 := bytes_get hb 0
       have x1 := bytes_get hb 1
       have hn0 : 0 ≤ lenN b := by unfold lenN; omega
       have hlen : ((b.drop 2).take (lenN b).toNat).length = (lenN b).toNat := by rw [List.length_take]; omega
       obtain ⟨l, h1, h2, h3, h4⟩ := enc_split f _ (o ++ [(b.drop 2).take (lenN b).toNat]) r (bytes_drop (bytes_drop hb 2) _) (by rw [List.length_drop, List.length_drop]; omega) (by simp; omega) h
       refine ⟨(b.drop 2).take (lenN b).toNat :: l, by rw [h1]; simp, ?_, ?_, h4⟩
       ·simp only [encL]
        rw [hd1_eq (by rw [hlen]; omega), hlen, h2]
        match b, c1 with
        | y0 :: y1 :: t, _ =>
         have x0 : 0 ≤ y0 ∧ y0 < 256 := x0
         have x1 : 0 ≤ y1 ∧ y1 < 256 := x1
         have hN : lenN (y0 :: y1 :: t) = 256 * y0 + y1 := rfl
         have e0 : ((lenN (y0 :: y1 :: t)).toNat : Int) / 256 = y0 := by rw [hN]; omega
         have e1 : ((lenN (y0 :: y1 :: t)).toNat : Int) % 256 = y1 := by rw [hN]; omega
         rw [e0, e1]
         simp [List.take_append_drop]
        | [], c => simp at c
        | [_], c => simp at c
       ·intro p hp
        rcases List.mem_cons.1 hp with rfl | hp
        ·rw [hlen]; omega
        ·exact h3 p hp
  ·rw [decide_eq_false c0] at h
   simp only [cond_false, Prod.mk.injEq, true_and] at h
   have : b = [] := List.eq_nil_of_length_eq_zero (by omega)
   subst this
   subst h
   exact ⟨[], by simp, rfl, by simp, ho⟩
theorem put_split {l : List (List Int)} {x : List Int} (h : putI hd1 l = (x, 0, ())) : splitI x = (l, 0, ()) := by
 unfold putI at h
 by_cases h1 : (l.length : Int) > 20
 ·rw [decide_eq_true h1] at h; simp at h
 ·rw [decide_eq_false h1] at h
  cases hp : (putG hd1 l []).1 with
  | false => rw [hp] at h; simp at h
  | true =>
   rw [hp] at h
   simp only [cond_false, cond_true, Prod.mk.injEq, and_true] at h
   obtain ⟨q1, q2⟩ := putG_ok l [] (putG hd1 l []).2 (by rw [← hp])
   rw [h] at q2
   simp only [List.nil_append] at q2
   subst q2
   have := split_enc l [] ((encL l).length + 1) q1 (by simp; omega) (by omega)
   unfold splitI
   rw [this]
   rfl
end Go.Proofs.Ytaffancdidgkhaa.Fld
end
section
set_option linter.unusedVariables false
set_option linter.unusedSimpArgs false
set_option maxRecDepth 100000
namespace Go.Proofs.Ytaffancdidgkhaa.Kdc
open Go Vse Go.Proofs Gen
open Fld (putI splitI hd1 hd2 preB)
open Seal (sealF openF rsealF ropenF strP rsP Bytes)
open Ctr (B16)
def sealedG (P : Pf) (S : Sf) (key : List Int) (s : ByteArray) (first : List Int) (l : List (List Int)) : List Int :=
 if (P l).2.1 = 0 then (if (S key s first (P l).1).2.1 = 0 then (S key s first (P l).1).1 else []) else []
def partsG (O : Of) (Q : Qf) (key : List Int) (s : ByteArray) (b : List Int) (many : Int) : Rl :=
 if (O key s b).2.1 = 0 then (if (Q (O key s b).1).2.1 = 0 ∧ ((Q (O key s b).1).1.length : Int) = many then ((Q (O key s b).1).1, 0, ()) else ([], 3, ())) else ([], (O key s b).2.1, ())
abbrev putF : Pf := fun l => putI hd1 l
abbrev putR : Pf := fun l => putI hd2 l
abbrev splF : Qf := fun b => splitI b
abbrev sealedF := sealedG putF sealF
abbrev partsF := partsG openF splF
theorem open_len {key : List Int} {s : ByteArray} {b : List Int} (hb : Bytes b) : (openF key s b).1.length ≤ 1000 := by
 unfold openF Seal.withF
 split
 ·simp
 ·dsimp only
  unfold Seal.openK
  split
  ·simp
  ·split
   ·simp
   ·split
    ·rename_i h1 h2 _
     have hf : ((b.take (b.length - 32)).drop 16).length ≤ 1000 := by rw [List.length_drop, List.length_take]; omega
     have := Seal.flX_len (k := Seal.hideF key s) (a := b.take 16) (b := (b.take (b.length - 32)).drop 16) ⟨Seal.bytes_take hb 16, by rw [List.length_take]; omega⟩ (by omega)
     show (Ctr.flX _ _ _).length ≤ 1000
     omega
    ·simp
theorem TSd_eq {P : Pf} {S : Sf} {ps : List Int → ByteArray → Bool} {key : List Int} {s : ByteArray} {first : List Int} {l : List (List Int)} (hp : ps key s = true) : (TSd P S ps key s first l).eval = some ((sealedG P S key s first l, ()), ()) := by
 unfold TSd sealedG
 by_cases h1 : (P l).2.1 = 0
 ·rw [if_pos h1, ite_f (by simp [h1]), chk_eval hp]
  by_cases h2 : (S key s first (P l).1).2.1 = 0
  ·rw [if_pos h2, ite_f (by simp [h2])]; rfl
  ·rw [if_neg h2, ite_t (by simpa using h2)]; rfl
 ·rw [if_neg h1, ite_t (by simpa using h1)]; rfl
theorem TPt_eq {O : Of} {po : List Int → ByteArray → Bool} {Q : Qf} {pq : List Int → Bool} {key : List Int} {s : ByteArray} {b : List Int} {many : Int} (hp : po key s = true) (hq : pq (O key s b).1 = true) :
  (TPt O po Q pq key s b many).eval = some (((partsG O Q key s b many).1, (partsG O Q key s b many).2.1, ()), ()) := by
 unfold TPt partsG
 rw [chk_eval hp]
 by_cases h1 : (O key s b).2.1 = 0
 ·rw [if_pos h1, ite_f (by simp [h1]), chk_eval hq]
  by_cases h2 : (Q (O key s b).1).2.1 = 0
  ·rw [ite_f (by simp [h2])]
   by_cases h3 : ((Q (O key s b).1).1.length : Int) = many
   ·rw [if_pos ⟨h2, h3⟩, ite_f (by simp [h3])]; rfl
   ·rw [if_neg (fun h => h3 h.2), ite_t (by simpa using h3)]; rfl
  ·rw [if_neg (fun h => h2 h.1), ite_t (by simpa using h2)]; rfl
 ·rw [if_neg h1, ite_t (by simpa using h1)]; rfl
def sSd (F : List Int → ByteArray → List Int → List (List Int) → List Int) : CSpec := .pos nSd (fun _ _ => true) fun xs _ => ((F xs.1 xs.2.1 xs.2.2.1 xs.2.2.2.1, ()), ())
def sPt (F : List Int → ByteArray → List Int → Int → Rl) : CSpec := .pos nPt (fun _ _ => true) fun xs _ => (((F xs.1 xs.2.1 xs.2.2.1 xs.2.2.2.1).1, (F xs.1 xs.2.1 xs.2.2.1 xs.2.2.2.1).2.1, ()), ())
theorem byte_ok {x : Int} (h : u8.ok x) : 0 ≤ x ∧ x < 256 := by
 have := inK_iff.1 (show inK .u8 x = true from h)
 have h1 : IntKind.u8.min = 0 := by decide
 have h2 := (by decide : IntKind.u8.max = 255)
 omega
theorem b16_ok {k : List Int} (h : w16.ok k) : B16 k := ⟨fun x hx => byte_ok (h.2 x hx), h.1⟩
abbrev pStr : List Int → ByteArray → Bool := fun _ s => strP s
theorem okSd : CSound Try.prog 17 (sSd sealedF) ∧ CLocal (sSd sealedF) :=
 pos_sound (L := L0) (C := ctx (cSd 47 48 putF sealF pStr)) (ctx_sound ⟨Fld.ok25, Seal.ok36, trivial⟩) Try.func17 (by kernel_rfl) (noLoopsL (by kernel_rfl)) fun xs hs hx hh hp => by
  obtain ⟨key, s, first, l, u⟩ := xs
  exact (tSd _ _ _ key s first l).trans (TSd_eq (decide_eq_true hx.2.1))
theorem okPt : CSound Try.prog 20 (sPt partsF) ∧ CLocal (sPt partsF) :=
 pos_sound (L := L0) (C := ctx (cPt 51 52 openF pStr splF preB)) (ctx_sound ⟨Seal.ok38, Fld.ok27, trivial⟩) Try.func20 (by kernel_rfl) (noLoopsL (by kernel_rfl)) fun xs hs hx hh hp => by
  obtain ⟨key, s, b, many, u⟩ := xs
  have hb : Bytes b := Fld.bytes_ok hx.2.2.1
  have := open_len (key := key) (s := s) hb
  exact (tPt _ _ _ _ key s b many).trans (TPt_eq (decide_eq_true hx.2.1) (decide_eq_true (by omega)))
abbrev pKey : List Int → ByteArray → Bool := fun k _ => rsP k
def sealedRF (key : List Int) (s : ByteArray) (first : List Int) (l : List (List Int)) : List Int := if (putR l).2.1 = 0 then (rsealF key s first (putR l).1).1 else []
theorem okSr : CSound Try.prog 18 (sSd sealedRF) ∧ CLocal (sSd sealedRF) :=
 pos_sound (L := L0) (C := ctx (cSd 49 50 putR rsealF pKey)) (ctx_sound ⟨Fld.ok26, Seal.ok37, trivial⟩) Try.func18 (by kernel_rfl) (noLoopsL (by kernel_rfl)) fun xs hs hx hh hp => by
  obtain ⟨key, s, first, l, u⟩ := xs
  refine (tSr _ _ _ key s first l).trans ?_
  show _ = some ((sealedRF key s first l, ()), ())
  unfold TSr sealedRF
  by_cases h1 : (putR l).2.1 = 0
  ·rw [if_pos h1, ite_f (by simp [h1]), chk_eval (show pKey key s = true from decide_eq_true (b16_ok hx.1))]; rfl
  ·rw [if_neg h1, ite_t (by simpa using h1)]; rfl
abbrev partsRF := partsG ropenF splF
theorem ropen_len {key : List Int} {s : ByteArray} {b : List Int} (hb : Bytes b) : (ropenF key s b).1.length ≤ 1000 := by
 rw [← Seal.opens_same hb]; exact open_len hb
theorem okPr : CSound Try.prog 21 (sPt partsRF) ∧ CLocal (sPt partsRF) :=
 pos_sound (L := L0) (C := ctx (cPt 53 54 ropenF pKey splF preB)) (ctx_sound ⟨Seal.ok39, Fld.ok28, trivial⟩) Try.func21 (by kernel_rfl) (noLoopsL (by kernel_rfl)) fun xs hs hx hh hp => by
  obtain ⟨key, s, b, many, u⟩ := xs
  have hb : Bytes b := Fld.bytes_ok hx.2.2.1
  have := ropen_len (key := key) (s := s) hb
  exact (tPr _ _ _ _ key s b many).trans (TPt_eq (decide_eq_true (b16_ok hx.1)) (decide_eq_true (by omega)))
theorem partsF_same {key : List Int} {s : ByteArray} {b : List Int} (hb : Bytes b) (many : Int) : partsF key s b many = partsRF key s b many := by
 show partsG _ _ _ _ _ _ = partsG _ _ _ _ _ _
 unfold partsG
 rw [Seal.opens_same hb]
theorem wb_byte (x : Int) : 0 ≤ wb x ∧ wb x < 256 := by
 simp [wb, IntKind.wrap, IntKind.signed, IntKind.bits]
 omega
theorem hd_bytes (p : List Int) : Bytes (hd1 p) := fun x hx => by
 simp only [hd1, List.mem_cons, List.not_mem_nil, or_false] at hx
 rcases hx with rfl | rfl
 ·exact wb_byte _
 ·exact wb_byte _
theorem bytes_app {a b : List Int} (ha : Bytes a) (hb : Bytes b) : Bytes (a ++ b) := fun x hx => by
 rcases List.mem_append.1 hx with h | h
 ·exact ha x h
 ·exact hb x h
theorem putG_bytes : ∀ (l : List (List Int)) (o : List Int), Bytes o → (∀ p ∈ l, Bytes p) → Bytes (Fld.putG hd1 l o).2
 | [], o, ho, _ => ho
 | p :: l, o, ho, h => by
  unfold Fld.putG
  cases decide ((p.length : Int) > 500) with
  | true => exact ho
  | false => exact putG_bytes l _ (bytes_app (bytes_app ho (hd_bytes p)) (h p (by simp))) fun q hq => h q (by simp [hq])
theorem putF_bytes {l : List (List Int)} (h : ∀ p ∈ l, Bytes p) : Bytes (putF l).1 := by
 show Bytes (putI hd1 l).1
 unfold Fld.putI
 cases decide ((l.length : Int) > 20) with
 | true => intro x hx; cases hx
 | false =>
  have := putG_bytes l [] (fun x hx => by cases hx) h
  cases hq : (Fld.putG hd1 l []).1 with
  | true => simp only [hq, cond_false, cond_true]; exact this
  | false => simp only [hq, cond_false]; intro x hx; cases hx
theorem rseal_err {key : List Int} {s : ByteArray} {first plain : List Int} (h : (rsealF key s first plain).2.1 ≠ 0) : (rsealF key s first plain).1 = [] := by
 unfold rsealF at h ⊢
 split
 ·rfl
 ·rename_i h1
  rw [if_neg h1] at h
  split
  ·rfl
  ·rename_i h2
   rw [if_neg h2] at h
   exact absurd rfl h
theorem sealed_same {key first : List Int} {s : ByteArray} {l : List (List Int)} (hf : B16 first) (hb : ∀ p ∈ l, Bytes p) : sealedF key s first l = sealedRF key s first l := by
 show sealedG _ _ _ _ _ _ = _
 unfold sealedG sealedRF
 have e : putF l = putR l := Fld.putI_same l
 rw [← e]
 by_cases h1 : (putF l).2.1 = 0
 ·rw [if_pos h1, if_pos h1, Seal.seals_same hf (putF_bytes hb)]
  by_cases h2 : (rsealF key s first (putF l).1).2.1 = 0
  ·rw [if_pos h2]
  ·rw [if_neg h2, rseal_err h2]
 ·rw [if_neg h1, if_neg h1]
end Go.Proofs.Ytaffancdidgkhaa.Kdc
end

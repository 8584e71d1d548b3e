/- What the functions of layer 3 (aes) give: the keys of the rounds: the inner loop. -/
import Derived.Test.YtlkddajnebjlcaaA9
import Derived.Test.YtlkddajnebjlcaaM4
set_option linter.unusedVariables false
set_option linter.unusedSimpArgs false
set_option maxRecDepth 1000000
namespace Go.Proofs.Ytlkddajnebjlcaa.Aes
open Go Vse Go.Proofs

abbrev t11 : Ty := .arr 11 t16
noncomputable def b44o : Code := loopAt Try.f63 0
noncomputable def b44 : Code := ((loopsOf b44o)[0]?).getD .skip
def S44 : LSpec := ⟨[2, 3, 4, 5, 7, 8, 13, 22], [2, 3, 4, 5, 13], 73, [pt 1, pt 2, pt 3, u8, pt 4, .ptr 3 [.idx], i64, i64], [.box t16, .box t11, .box t256, .box t11, .box t16]⟩

def rowOf (o : List (List Int)) (q : Nat) : List Int := o.getD q (dflt t16)
def setByte (o : List (List Int)) (q : Nat) (i : Nat) (v : Int) : List (List Int) := o.set q ((rowOf o q).set i v)

theorem r44_0 (pw n : Int) (q : Nat) (key was box : List Int) (o ret : List (List Int)) : (S44.round (bodyK Try.prog (ctx C2) L0 b44) ((), (), (), pw, (), (q, ()), n, 0, ()) (key, ret, box, o, was, ())).eval =
    some (.inl (((), (), (), pw, (), (q, ()), n, 1, ()), (key, ret, box, setByte (setByte o q 0 (xorI .u8 (was.getD 0 0) (box.getD (was.getD 13 0).toNat 0))) q 0 (xorI .u8 ((rowOf (setByte o q 0 (xorI .u8 (was.getD 0 0) (box.getD (was.getD 13 0).toNat 0))) q).getD 0 0) pw), was, ()))) := by kernel_rfl
theorem r44_1 (pw n : Int) (q : Nat) (key was box : List Int) (o ret : List (List Int)) : (S44.round (bodyK Try.prog (ctx C2) L0 b44) ((), (), (), pw, (), (q, ()), n, 1, ()) (key, ret, box, o, was, ())).eval =
    some (.inl (((), (), (), pw, (), (q, ()), n, 2, ()), (key, ret, box, setByte o q 1 (xorI .u8 (was.getD 1 0) (box.getD (was.getD 14 0).toNat 0)), was, ()))) := by kernel_rfl
theorem r44_2 (pw n : Int) (q : Nat) (key was box : List Int) (o ret : List (List Int)) : (S44.round (bodyK Try.prog (ctx C2) L0 b44) ((), (), (), pw, (), (q, ()), n, 2, ()) (key, ret, box, o, was, ())).eval =
    some (.inl (((), (), (), pw, (), (q, ()), n, 3, ()), (key, ret, box, setByte o q 2 (xorI .u8 (was.getD 2 0) (box.getD (was.getD 15 0).toNat 0)), was, ()))) := by kernel_rfl
theorem r44_3 (pw n : Int) (q : Nat) (key was box : List Int) (o ret : List (List Int)) : (S44.round (bodyK Try.prog (ctx C2) L0 b44) ((), (), (), pw, (), (q, ()), n, 3, ()) (key, ret, box, o, was, ())).eval =
    some (.inl (((), (), (), pw, (), (q, ()), n, 4, ()), (key, ret, box, setByte o q 3 (xorI .u8 (was.getD 3 0) (box.getD (was.getD 12 0).toNat 0)), was, ()))) := by kernel_rfl
theorem r44_4 (pw n : Int) (q : Nat) (key was box : List Int) (o ret : List (List Int)) : (S44.round (bodyK Try.prog (ctx C2) L0 b44) ((), (), (), pw, (), (q, ()), n, 4, ()) (key, ret, box, o, was, ())).eval =
    some (.inl (((), (), (), pw, (), (q, ()), n, 5, ()), (key, ret, box, setByte o q 4 (xorI .u8 (was.getD 4 0) ((rowOf o q).getD 0 0)), was, ()))) := by kernel_rfl
theorem r44_5 (pw n : Int) (q : Nat) (key was box : List Int) (o ret : List (List Int)) : (S44.round (bodyK Try.prog (ctx C2) L0 b44) ((), (), (), pw, (), (q, ()), n, 5, ()) (key, ret, box, o, was, ())).eval =
    some (.inl (((), (), (), pw, (), (q, ()), n, 6, ()), (key, ret, box, setByte o q 5 (xorI .u8 (was.getD 5 0) ((rowOf o q).getD 1 0)), was, ()))) := by kernel_rfl
theorem r44_6 (pw n : Int) (q : Nat) (key was box : List Int) (o ret : List (List Int)) : (S44.round (bodyK Try.prog (ctx C2) L0 b44) ((), (), (), pw, (), (q, ()), n, 6, ()) (key, ret, box, o, was, ())).eval =
    some (.inl (((), (), (), pw, (), (q, ()), n, 7, ()), (key, ret, box, setByte o q 6 (xorI .u8 (was.getD 6 0) ((rowOf o q).getD 2 0)), was, ()))) := by kernel_rfl
theorem r44_7 (pw n : Int) (q : Nat) (key was box : List Int) (o ret : List (List Int)) : (S44.round (bodyK Try.prog (ctx C2) L0 b44) ((), (), (), pw, (), (q, ()), n, 7, ()) (key, ret, box, o, was, ())).eval =
    some (.inl (((), (), (), pw, (), (q, ()), n, 8, ()), (key, ret, box, setByte o q 7 (xorI .u8 (was.getD 7 0) ((rowOf o q).getD 3 0)), was, ()))) := by kernel_rfl
theorem r44_8 (pw n : Int) (q : Nat) (key was box : List Int) (o ret : List (List Int)) : (S44.round (bodyK Try.prog (ctx C2) L0 b44) ((), (), (), pw, (), (q, ()), n, 8, ()) (key, ret, box, o, was, ())).eval =
    some (.inl (((), (), (), pw, (), (q, ()), n, 9, ()), (key, ret, box, setByte o q 8 (xorI .u8 (was.getD 8 0) ((rowOf o q).getD 4 0)), was, ()))) := by kernel_rfl
theorem r44_9 (pw n : Int) (q : Nat) (key was box : List Int) (o ret : List (List Int)) : (S44.round (bodyK Try.prog (ctx C2) L0 b44) ((), (), (), pw, (), (q, ()), n, 9, ()) (key, ret, box, o, was, ())).eval =
    some (.inl (((), (), (), pw, (), (q, ()), n, 10, ()), (key, ret, box, setByte o q 9 (xorI .u8 (was.getD 9 0) ((rowOf o q).getD 5 0)), was, ()))) := by kernel_rfl
theorem r44_10 (pw n : Int) (q : Nat) (key was box : List Int) (o ret : List (List Int)) : (S44.round (bodyK Try.prog (ctx C2) L0 b44) ((), (), (), pw, (), (q, ()), n, 10, ()) (key, ret, box, o, was, ())).eval =
    some (.inl (((), (), (), pw, (), (q, ()), n, 11, ()), (key, ret, box, setByte o q 10 (xorI .u8 (was.getD 10 0) ((rowOf o q).getD 6 0)), was, ()))) := by kernel_rfl
theorem r44_11 (pw n : Int) (q : Nat) (key was box : List Int) (o ret : List (List Int)) : (S44.round (bodyK Try.prog (ctx C2) L0 b44) ((), (), (), pw, (), (q, ()), n, 11, ()) (key, ret, box, o, was, ())).eval =
    some (.inl (((), (), (), pw, (), (q, ()), n, 12, ()), (key, ret, box, setByte o q 11 (xorI .u8 (was.getD 11 0) ((rowOf o q).getD 7 0)), was, ()))) := by kernel_rfl
theorem r44_12 (pw n : Int) (q : Nat) (key was box : List Int) (o ret : List (List Int)) : (S44.round (bodyK Try.prog (ctx C2) L0 b44) ((), (), (), pw, (), (q, ()), n, 12, ()) (key, ret, box, o, was, ())).eval =
    some (.inl (((), (), (), pw, (), (q, ()), n, 13, ()), (key, ret, box, setByte o q 12 (xorI .u8 (was.getD 12 0) ((rowOf o q).getD 8 0)), was, ()))) := by kernel_rfl
theorem r44_13 (pw n : Int) (q : Nat) (key was box : List Int) (o ret : List (List Int)) : (S44.round (bodyK Try.prog (ctx C2) L0 b44) ((), (), (), pw, (), (q, ()), n, 13, ()) (key, ret, box, o, was, ())).eval =
    some (.inl (((), (), (), pw, (), (q, ()), n, 14, ()), (key, ret, box, setByte o q 13 (xorI .u8 (was.getD 13 0) ((rowOf o q).getD 9 0)), was, ()))) := by kernel_rfl
theorem r44_14 (pw n : Int) (q : Nat) (key was box : List Int) (o ret : List (List Int)) : (S44.round (bodyK Try.prog (ctx C2) L0 b44) ((), (), (), pw, (), (q, ()), n, 14, ()) (key, ret, box, o, was, ())).eval =
    some (.inl (((), (), (), pw, (), (q, ()), n, 15, ()), (key, ret, box, setByte o q 14 (xorI .u8 (was.getD 14 0) ((rowOf o q).getD 10 0)), was, ()))) := by kernel_rfl
theorem r44_15 (pw n : Int) (q : Nat) (key was box : List Int) (o ret : List (List Int)) : (S44.round (bodyK Try.prog (ctx C2) L0 b44) ((), (), (), pw, (), (q, ()), n, 15, ()) (key, ret, box, o, was, ())).eval =
    some (.inl (((), (), (), pw, (), (q, ()), n, 16, ()), (key, ret, box, setByte o q 15 (xorI .u8 (was.getD 15 0) ((rowOf o q).getD 11 0)), was, ()))) := by kernel_rfl
theorem r44_16 (pw n : Int) (q : Nat) (key was box : List Int) (o ret : List (List Int)) : (S44.round (bodyK Try.prog (ctx C2) L0 b44) ((), (), (), pw, (), (q, ()), n, 16, ()) (key, ret, box, o, was, ())).eval =
    some (.inr (.exit 2, encS [2, 3, 4, 5, 13] [pt 1, pt 2, pt 3, u8, i64] S44.Es 73 ((), (), (), pw, n, ()) (key, ret, box, o, was, ()))) := by kernel_rfl

theorem rowOf_set {o : List (List Int)} {q : Nat} (h : q < o.length) (r : List Int) : rowOf (o.set q r) q = r := by
  unfold rowOf
  rw [List.getD_eq_getElem?_getD, List.getElem?_set_self h]
  rfl
theorem setByte_set {o : List (List Int)} {q : Nat} (h : q < o.length) (r : List Int) (i : Nat) (v : Int) : setByte (o.set q r) q i v = o.set q (r.set i v) := by
  unfold setByte
  rw [rowOf_set h, List.set_set]

/-- a byte of a round's key -/
def stp (box was : List Int) (pw : Int) (i : Nat) (r : List Int) : List Int :=
  if i = 0 then r.set 0 (xorI .u8 ((r.set 0 (xorI .u8 (was.getD 0 0) (box.getD (was.getD 13 0).toNat 0))).getD 0 0) pw)
  else if i < 4 then r.set i (xorI .u8 (was.getD i 0) (box.getD (was.getD (12 + (i + 1) % 4) 0).toNat 0))
  else r.set i (xorI .u8 (was.getD i 0) (r.getD (i - 4) 0))

def stps (box was : List Int) (pw : Int) : Nat → List Int → List Int
  | 0, r => r
  | k + 1, r => stp box was pw k (stps box was pw k r)

theorem r44 (i : Nat) (hi : i < 16) (pw n : Int) (q : Nat) (key was box : List Int) (o ret : List (List Int)) (h : q < o.length) (r : List Int) :
    (S44.round (bodyK Try.prog (ctx C2) L0 b44) ((), (), (), pw, (), (q, ()), n, (i : Int), ()) (key, ret, box, o.set q r, was, ())).eval =
    some (.inl (((), (), (), pw, (), (q, ()), n, ((i + 1 : Nat) : Int), ()), (key, ret, box, o.set q (stp box was pw i r), was, ()))) := by
  match i, hi with
  | 0, _ => refine (r44_0 pw n q key was box (o.set q r) ret).trans ?_; simp only [setByte_set h, rowOf_set h, List.set_set]; rfl
  | 1, _ => refine (r44_1 pw n q key was box (o.set q r) ret).trans ?_; simp only [setByte_set h, rowOf_set h, List.set_set]; rfl
  | 2, _ => refine (r44_2 pw n q key was box (o.set q r) ret).trans ?_; simp only [setByte_set h, rowOf_set h, List.set_set]; rfl
  | 3, _ => refine (r44_3 pw n q key was box (o.set q r) ret).trans ?_; simp only [setByte_set h, rowOf_set h, List.set_set]; rfl
  | 4, _ => refine (r44_4 pw n q key was box (o.set q r) ret).trans ?_; simp only [setByte_set h, rowOf_set h, List.set_set]; rfl
  | 5, _ => refine (r44_5 pw n q key was box (o.set q r) ret).trans ?_; simp only [setByte_set h, rowOf_set h, List.set_set]; rfl
  | 6, _ => refine (r44_6 pw n q key was box (o.set q r) ret).trans ?_; simp only [setByte_set h, rowOf_set h, List.set_set]; rfl
  | 7, _ => refine (r44_7 pw n q key was box (o.set q r) ret).trans ?_; simp only [setByte_set h, rowOf_set h, List.set_set]; rfl
  | 8, _ => refine (r44_8 pw n q key was box (o.set q r) ret).trans ?_; simp only [setByte_set h, rowOf_set h, List.set_set]; rfl
  | 9, _ => refine (r44_9 pw n q key was box (o.set q r) ret).trans ?_; simp only [setByte_set h, rowOf_set h, List.set_set]; rfl
  | 10, _ => refine (r44_10 pw n q key was box (o.set q r) ret).trans ?_; simp only [setByte_set h, rowOf_set h, List.set_set]; rfl
  | 11, _ => refine (r44_11 pw n q key was box (o.set q r) ret).trans ?_; simp only [setByte_set h, rowOf_set h, List.set_set]; rfl
  | 12, _ => refine (r44_12 pw n q key was box (o.set q r) ret).trans ?_; simp only [setByte_set h, rowOf_set h, List.set_set]; rfl
  | 13, _ => refine (r44_13 pw n q key was box (o.set q r) ret).trans ?_; simp only [setByte_set h, rowOf_set h, List.set_set]; rfl
  | 14, _ => refine (r44_14 pw n q key was box (o.set q r) ret).trans ?_; simp only [setByte_set h, rowOf_set h, List.set_set]; rfl
  | 15, _ => refine (r44_15 pw n q key was box (o.set q r) ret).trans ?_; simp only [setByte_set h, rowOf_set h, List.set_set]; rfl
  | i + 16, h => omega

theorem k44 (pw n : Int) (q : Nat) (key was box : List Int) (o ret : List (List Int)) (h : q < o.length) (r : List Int) : ∀ (m k : Nat), k + m = 16 →
    S44.many (bodyK Try.prog (ctx C2) L0 b44) (m + 1) ((), (), (), pw, (), (q, ()), n, (k : Int), ()) (key, ret, box, o.set q (stps box was pw k r), was, ()) =
    some (.exit 2, encS [2, 3, 4, 5, 13] [pt 1, pt 2, pt 3, u8, i64] S44.Es 73 ((), (), (), pw, n, ()) (key, ret, box, o.set q (stps box was pw 16 r), was, ()))
  | 0, k, hk => by
    have : k = 16 := by omega
    subst this
    exact many_inr (r44_16 pw n q key was box _ ret) 0
  | m + 1, k, hk => (many_inl (r44 k (by omega) pw n q key was box o ret h _) (m + 1)).trans (k44 pw n q key was box o ret h r m (k + 1) (by omega))

def nextRow (box was : List Int) (pw : Int) : List Int :=
  let f (i : Nat) : Int := xorI .u8 (was.getD i 0) (box.getD (was.getD (12 + (i + 1) % 4) 0).toNat 0)
  let a0 := xorI .u8 (f 0) pw
  let a1 := f 1
  let a2 := f 2
  let a3 := f 3
  let a4 := xorI .u8 (was.getD 4 0) a0
  let a5 := xorI .u8 (was.getD 5 0) a1
  let a6 := xorI .u8 (was.getD 6 0) a2
  let a7 := xorI .u8 (was.getD 7 0) a3
  let a8 := xorI .u8 (was.getD 8 0) a4
  let a9 := xorI .u8 (was.getD 9 0) a5
  let a10 := xorI .u8 (was.getD 10 0) a6
  let a11 := xorI .u8 (was.getD 11 0) a7
  let a12 := xorI .u8 (was.getD 12 0) a8
  let a13 := xorI .u8 (was.getD 13 0) a9
  let a14 := xorI .u8 (was.getD 14 0) a10
  let a15 := xorI .u8 (was.getD 15 0) a11
  [a0, a1, a2, a3, a4, a5, a6, a7, a8, a9, a10, a11, a12, a13, a14, a15]

theorem stps_row (box was : List Int) (pw : Int) (x0 x1 x2 x3 x4 x5 x6 x7 x8 x9 xa xb xc xd xe xf : Int) : stps box was pw 16 [x0, x1, x2, x3, x4, x5, x6, x7, x8, x9, xa, xb, xc, xd, xe, xf] = nextRow box was pw := by kernel_rfl

theorem len16 {l : List Int} (h : l.length = 16) : ∃ x0 x1 x2 x3 x4 x5 x6 x7 x8 x9 xa xb xc xd xe xf, l = [x0, x1, x2, x3, x4, x5, x6, x7, x8, x9, xa, xb, xc, xd, xe, xf] := by
  match l, h with
  | [x0, x1, x2, x3, x4, x5, x6, x7, x8, x9, xa, xb, xc, xd, xe, xf], _ => exact ⟨_, _, _, _, _, _, _, _, _, _, _, _, _, _, _, _, rfl⟩

theorem stps_next (box was : List Int) (pw : Int) {r : List Int} (h : r.length = 16) : stps box was pw 16 r = nextRow box was pw := by
  obtain ⟨_, _, _, _, _, _, _, _, _, _, _, _, _, _, _, _, rfl⟩ := len16 h
  exact stps_row ..

def F44 (xs : HL S44.Ts) (hs : HD S44.Es) : Tr (Ex × St) :=
  .chk (decide (xs.2.2.2.2.2.2.2.1 = (0 : Int)) && (decide (xs.2.2.2.2.2.1.1 < (hs.2.2.2.1 : List (List Int)).length) && decide ((rowOf hs.2.2.2.1 xs.2.2.2.2.2.1.1).length = 16)))
    (.ret (.exit 2, encS [2, 3, 4, 5, 13] [pt 1, pt 2, pt 3, u8, i64] S44.Es 73 ((), (), (), xs.2.2.2.1, xs.2.2.2.2.2.2.1, ())
      (hs.1, hs.2.1, hs.2.2.1, (hs.2.2.2.1 : List (List Int)).set xs.2.2.2.2.2.1.1 (nextRow hs.2.2.1 hs.2.2.2.2.1 xs.2.2.2.1), hs.2.2.2.2.1, ())))
def L44 : Loops := fun j st => if j = 9 then S44.fn F44 st else .fail

theorem set_row {o : List (List Int)} {q : Nat} (h : q < o.length) : o.set q (rowOf o q) = o := by
  unfold rowOf
  rw [List.getD_eq_getElem?_getD, List.getElem?_eq_getElem h]
  exact List.set_getElem_self h

theorem l44 : LoopOK Try.prog L44 b44 :=
  loop_ok (L := L44) (L' := L0) C2_sound (loopsOK_of (by kernel_rfl)) S44 (by kernel_rfl) (F := F44) (i := 9) (by kernel_rfl) (fun _ => rfl) fun xs hs r h => by
    obtain ⟨u0, u1, u2, pw, u4, ⟨q, u5⟩, n, i, u⟩ := xs
    obtain ⟨key, ret, box, o, was, u7⟩ := hs
    obtain ⟨h1, h2⟩ := Tr.chk_some h
    have := Tr.ret_some h2
    simp only [Bool.and_eq_true, decide_eq_true_eq] at h1
    obtain ⟨e1, e2, e3⟩ := h1
    have e1 : i = ((0 : Nat) : Int) := e1
    subst e1
    have hk := k44 pw n q key was box o ret e2 (rowOf o q) 16 0 rfl
    rw [show stps box was pw 0 (rowOf o q) = rowOf o q from rfl, set_row e2, stps_next box was pw e3] at hk
    exact ⟨_, hk.trans (congrArg some this)⟩

end Go.Proofs.Ytlkddajnebjlcaa.Aes

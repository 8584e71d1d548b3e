import Derived.Test.YtlkddajnebjlcaaAA
import Derived.Test.YtlkddajnebjlcaaM4

section
/- What the functions of layer 3 (aes) give: the keys of the rounds: the inner loop. -/
set_option linter.unusedVariables false
set_option linter.unusedSimpArgs false
set_option maxRecDepth 1000000
namespace Go.Proofs.Ytlkddajnebjlcaa.Aes
open Go Vse Go.Proofs

abbrev t11 : Ty := .arr 11 t16
noncomputable def b44o : Code := loopAt Try.f63 0
noncomputable def b44 : Code := ((loopsOf b44o)[0]?).getD .skip
def S44 : LSpec := ⟨[2, 3, 4, 5, 7, 8, 13, 22], [2, 3, 4, 5, 13], 73, [pt 1, pt 2, pt 3, u8, pt 4, .ptr 3 [.idx], i64, i64], [.box t16, .box t11, .box t256, .box t11, .box t16]⟩

def rowOf (o : List (List Int)) (q : Nat) : List Int := o.getD q (dflt t16)
def setByte (o : List (List Int)) (q : Nat) (i : Nat) (v : Int) : List (List Int) := o.set q ((rowOf o q).set i v)

theorem r44_0 (pw n : Int) (q : Nat) (key was box : List Int) (o ret : List (List Int)) : (S44.round (bodyK Try.prog (ctx C2) L0 b44) ((), (), (), pw, (), (q, ()), n, 0, ()) (key, ret, box, o, was, ())).eval =
    some (.inl (((), (), (), pw, (), (q, ()), n, 1, ()), (key, ret, box, setByte (setByte o q 0 (xorI .u8 (was.getD 0 0) (box.getD (was.getD 13 0).toNat 0))) q 0 (xorI .u8 ((rowOf (setByte o q 0 (xorI .u8 (was.getD 0 0) (box.getD (was.getD 13 0).toNat 0))) q).getD 0 0) pw), was, ()))) := by kernel_rfl
theorem r44_1 (pw n : Int) (q : Nat) (key was box : List Int) (o ret : List (List Int)) : (S44.round (bodyK Try.prog (ctx C2) L0 b44) ((), (), (), pw, (), (q, ()), n, 1, ()) (key, ret, box, o, was, ())).eval =
    some (.inl (((), (), (), pw, (), (q, ()), n, 2, ()), (key, ret, box, setByte o q 1 (xorI .u8 (was.getD 1 0) (box.getD (was.getD 14 0).toNat 0)), was, ()))) := by kernel_rfl
theorem r44_2 (pw n : Int) (q : Nat) (key was box : List Int) (o ret : List (List Int)) : (S44.round (bodyK Try.prog (ctx C2) L0 b44) ((), (), (), pw, (), (q, ()), n, 2, ()) (key, ret, box, o, was, ())).eval =
    some (.inl (((), (), (), pw, (), (q, ()), n, 3, ()), (key, ret, box, setByte o q 2 (xorI .u8 (was.getD 2 0) (box.getD (was.getD 15 0).toNat 0)), was, ()))) := by kernel_rfl
theorem r44_3 (pw n : Int) (q : Nat) (key was box : List Int) (o ret : List (List Int)) : (S44.round (bodyK Try.prog (ctx C2) L0 b44) ((), (), (), pw, (), (q, ()), n, 3, ()) (key, ret, box, o, was, ())).eval =
    some (.inl (((), (), (), pw, (), (q, ()), n, 4, ()), (key, ret, box, setByte o q 3 (xorI .u8 (was.getD 3 0) (box.getD (was.getD 12 0).toNat 0)), was, ()))) := by kernel_rfl
theorem r44_4 (pw n : Int) (q : Nat) (key was box : List Int) (o ret : List (List Int)) : (S44.round (bodyK Try.prog (ctx C2) L0 b44) ((), (), (), pw, (), (q, ()), n, 4, ()) (key, ret, box, o, was, ())).eval =
    some (.inl (((), (), (), pw, (), (q, ()), n, 5, ()), (key, ret, box, setByte o q 4 (xorI .u8 (was.getD 4 0) ((rowOf o q).getD 0 0)), was, ()))) := by kernel_rfl
theorem r44_5 (pw n : Int) (q : Nat) (key was box : List Int) (o ret : List (List Int)) : (S44.round (bodyK Try.prog (ctx C2) L0 b44) ((), (), (), pw, (), (q, ()), n, 5, ()) (key, ret, box, o, was, ())).eval =
    some (.inl (((), (), (), pw, (), (q, ()), n, 6, ()), (key, ret, box, setByte o q 5 (xorI .u8 (was.getD 5 0) ((rowOf o q).getD 1 0)), was, ()))) := by kernel_rfl
theorem r44_6 (pw n : Int) (q : Nat) (key was box : List Int) (o ret : List (List Int)) : (S44.round (bodyK Try.prog (ctx C2) L0 b44) ((), (), (), pw, (), (q, ()), n, 6, ()) (key, ret, box, o, was, ())).eval =
    some (.inl (((), (), (), pw, (), (q, ()), n, 7, ()), (key, ret, box, setByte o q 6 (xorI .u8 (was.getD 6 0) ((rowOf o q).getD 2 0)), was, ()))) := by kernel_rfl
theorem r44_7 (pw n : Int) (q : Nat) (key was box : List Int) (o ret : List (List Int)) : (S44.round (bodyK Try.prog (ctx C2) L0 b44) ((), (), (), pw, (), (q, ()), n, 7, ()) (key, ret, box, o, was, ())).eval =
    some (.inl (((), (), (), pw, (), (q, ()), n, 8, ()), (key, ret, box, setByte o q 7 (xorI .u8 (was.getD 7 0) ((rowOf o q).getD 3 0)), was, ()))) := by kernel_rfl
theorem r44_8 (pw n : Int) (q : Nat) (key was box : List Int) (o ret : List (List Int)) : (S44.round (bodyK Try.prog (ctx C2) L0 b44) ((), (), (), pw, (), (q, ()), n, 8, ()) (key, ret, box, o, was, ())).eval =
    some (.inl (((), (), (), pw, (), (q, ()), n, 9, ()), (key, ret, box, setByte o q 8 (xorI .u8 (was.getD 8 0) ((rowOf o q).getD 4 0)), was, ()))) := by kernel_rfl
theorem r44_9 (pw n : Int) (q : Nat) (key was box : List Int) (o ret : List (List Int)) : (S44.round (bodyK Try.prog (ctx C2) L0 b44) ((), (), (), pw, (), (q, ()), n, 9, ()) (key, ret, box, o, was, ())).eval =
    some (.inl (((), (), (), pw, (), (q, ()), n, 10, ()), (key, ret, box, setByte o q 9 (xorI .u8 (was.getD 9 0) ((rowOf o q).getD 5 0)), was, ()))) := by kernel_rfl
theorem r44_10 (pw n : Int) (q : Nat) (key was box : List Int) (o ret : List (List Int)) : (S44.round (bodyK Try.prog (ctx C2) L0 b44) ((), (), (), pw, (), (q, ()), n, 10, ()) (key, ret, box, o, was, ())).eval =
    some (.inl (((), (), (), pw, (), (q, ()), n, 11, ()), (key, ret, box, setByte o q 10 (xorI .u8 (was.getD 10 0) ((rowOf o q).getD 6 0)), was, ()))) := by kernel_rfl
theorem r44_11 (pw n : Int) (q : Nat) (key was box : List Int) (o ret : List (List Int)) : (S44.round (bodyK Try.prog (ctx C2) L0 b44) ((), (), (), pw, (), (q, ()), n, 11, ()) (key, ret, box, o, was, ())).eval =
    some (.inl (((), (), (), pw, (), (q, ()), n, 12, ()), (key, ret, box, setByte o q 11 (xorI .u8 (was.getD 11 0) ((rowOf o q).getD 7 0)), was, ()))) := by kernel_rfl
theorem r44_12 (pw n : Int) (q : Nat) (key was box : List Int) (o ret : List (List Int)) : (S44.round (bodyK Try.prog (ctx C2) L0 b44) ((), (), (), pw, (), (q, ()), n, 12, ()) (key, ret, box, o, was, ())).eval =
    some (.inl (((), (), (), pw, (), (q, ()), n, 13, ()), (key, ret, box, setByte o q 12 (xorI .u8 (was.getD 12 0) ((rowOf o q).getD 8 0)), was, ()))) := by kernel_rfl
theorem r44_13 (pw n : Int) (q : Nat) (key was box : List Int) (o ret : List (List Int)) : (S44.round (bodyK Try.prog (ctx C2) L0 b44) ((), (), (), pw, (), (q, ()), n, 13, ()) (key, ret, box, o, was, ())).eval =
    some (.inl (((), (), (), pw, (), (q, ()), n, 14, ()), (key, ret, box, setByte o q 13 (xorI .u8 (was.getD 13 0) ((rowOf o q).getD 9 0)), was, ()))) := by kernel_rfl
theorem r44_14 (pw n : Int) (q : Nat) (key was box : List Int) (o ret : List (List Int)) : (S44.round (bodyK Try.prog (ctx C2) L0 b44) ((), (), (), pw, (), (q, ()), n, 14, ()) (key, ret, box, o, was, ())).eval =
    some (.inl (((), (), (), pw, (), (q, ()), n, 15, ()), (key, ret, box, setByte o q 14 (xorI .u8 (was.getD 14 0) ((rowOf o q).getD 10 0)), was, ()))) := by kernel_rfl
theorem r44_15 (pw n : Int) (q : Nat) (key was box : List Int) (o ret : List (List Int)) : (S44.round (bodyK Try.prog (ctx C2) L0 b44) ((), (), (), pw, (), (q, ()), n, 15, ()) (key, ret, box, o, was, ())).eval =
    some (.inl (((), (), (), pw, (), (q, ()), n, 16, ()), (key, ret, box, setByte o q 15 (xorI .u8 (was.getD 15 0) ((rowOf o q).getD 11 0)), was, ()))) := by kernel_rfl
theorem r44_16 (pw n : Int) (q : Nat) (key was box : List Int) (o ret : List (List Int)) : (S44.round (bodyK Try.prog (ctx C2) L0 b44) ((), (), (), pw, (), (q, ()), n, 16, ()) (key, ret, box, o, was, ())).eval =
    some (.inr (.exit 2, encS [2, 3, 4, 5, 13] [pt 1, pt 2, pt 3, u8, i64] S44.Es 73 ((), (), (), pw, n, ()) (key, ret, box, o, was, ()))) := by kernel_rfl

theorem rowOf_set {o : List (List Int)} {q : Nat} (h : q < o.length) (r : List Int) : rowOf (o.set q r) q = r := by
  unfold rowOf
  rw [List.getD_eq_getElem?_getD, List.getElem?_set_self h]
  rfl
theorem setByte_set {o : List (List Int)} {q : Nat} (h : q < o.length) (r : List Int) (i : Nat) (v : Int) : setByte (o.set q r) q i v = o.set q (r.set i v) := by
  unfold setByte
  rw [rowOf_set h, List.set_set]

/-- a byte of a round's key -/
def stp (box was : List Int) (pw : Int) (i : Nat) (r : List Int) : List Int :=
  if i = 0 then r.set 0 (xorI .u8 ((r.set 0 (xorI .u8 (was.getD 0 0) (box.getD (was.getD 13 0).toNat 0))).getD 0 0) pw)
  else if i < 4 then r.set i (xorI .u8 (was.getD i 0) (box.getD (was.getD (12 + (i + 1) % 4) 0).toNat 0))
  else r.set i (xorI .u8 (was.getD i 0) (r.getD (i - 4) 0))

def stps (box was : List Int) (pw : Int) : Nat → List Int → List Int
  | 0, r => r
  | k + 1, r => stp box was pw k (stps box was pw k r)

theorem r44 (i : Nat) (hi : i < 16) (pw n : Int) (q : Nat) (key was box : List Int) (o ret : List (List Int)) (h : q < o.length) (r : List Int) :
    (S44.round (bodyK Try.prog (ctx C2) L0 b44) ((), (), (), pw, (), (q, ()), n, (i : Int), ()) (key, ret, box, o.set q r, was, ())).eval =
    some (.inl (((), (), (), pw, (), (q, ()), n, ((i + 1 : Nat) : Int), ()), (key, ret, box, o.set q (stp box was pw i r), was, ()))) := by
  match i, hi with
  | 0, _ => refine (r44_0 pw n q key was box (o.set q r) ret).trans ?_; simp only [setByte_set h, rowOf_set h, List.set_set]; rfl
  | 1, _ => refine (r44_1 pw n q key was box (o.set q r) ret).trans ?_; simp only [setByte_set h, rowOf_set h, List.set_set]; rfl
  | 2, _ => refine (r44_2 pw n q key was box (o.set q r) ret).trans ?_; simp only [setByte_set h, rowOf_set h, List.set_set]; rfl
  | 3, _ => refine (r44_3 pw n q key was box (o.set q r) ret).trans ?_; simp only [setByte_set h, rowOf_set h, List.set_set]; rfl
  | 4, _ => refine (r44_4 pw n q key was box (o.set q r) ret).trans ?_; simp only [setByte_set h, rowOf_set h, List.set_set]; rfl
  | 5, _ => refine (r44_5 pw n q key was box (o.set q r) ret).trans ?_; simp only [setByte_set h, rowOf_set h, List.set_set]; rfl
  | 6, _ => refine (r44_6 pw n q key was box (o.set q r) ret).trans ?_; simp only [setByte_set h, rowOf_set h, List.set_set]; rfl
  | 7, _ => refine (r44_7 pw n q key was box (o.set q r) ret).trans ?_; simp only [setByte_set h, rowOf_set h, List.set_set]; rfl
  | 8, _ => refine (r44_8 pw n q key was box (o.set q r) ret).trans ?_; simp only [setByte_set h, rowOf_set h, List.set_set]; rfl
  | 9, _ => refine (r44_9 pw n q key was box (o.set q r) ret).trans ?_; simp only [setByte_set h, rowOf_set h, List.set_set]; rfl
  | 10, _ => refine (r44_10 pw n q key was box (o.set q r) ret).trans ?_; simp only [setByte_set h, rowOf_set h, List.set_set]; rfl
  | 11, _ => refine (r44_11 pw n q key was box (o.set q r) ret).trans ?_; simp only [setByte_set h, rowOf_set h, List.set_set]; rfl
  | 12, _ => refine (r44_12 pw n q key was box (o.set q r) ret).trans ?_; simp only [setByte_set h, rowOf_set h, List.set_set]; rfl
  | 13, _ => refine (r44_13 pw n q key was box (o.set q r) ret).trans ?_; simp only [setByte_set h, rowOf_set h, List.set_set]; rfl
  | 14, _ => refine (r44_14 pw n q key was box (o.set q r) ret).trans ?_; simp only [setByte_set h, rowOf_set h, List.set_set]; rfl
  | 15, _ => refine (r44_15 pw n q key was box (o.set q r) ret).trans ?_; simp only [setByte_set h, rowOf_set h, List.set_set]; rfl
  | i + 16, h => omega

theorem k44 (pw n : Int) (q : Nat) (key was box : List Int) (o ret : List (List Int)) (h : q < o.length) (r : List Int) : ∀ (m k : Nat), k + m = 16 →
    S44.many (bodyK Try.prog (ctx C2) L0 b44) (m + 1) ((), (), (), pw, (), (q, ()), n, (k : Int), ()) (key, ret, box, o.set q (stps box was pw k r), was, ()) =
    some (.exit 2, encS [2, 3, 4, 5, 13] [pt 1, pt 2, pt 3, u8, i64] S44.Es 73 ((), (), (), pw, n, ()) (key, ret, box, o.set q (stps box was pw 16 r), was, ()))
  | 0, k, hk => by
    have : k = 16 := by omega
    subst this
    exact many_inr (r44_16 pw n q key was box _ ret) 0
  | m + 1, k, hk => (many_inl (r44 k (by omega) pw n q key was box o ret h _) (m + 1)).trans (k44 pw n q key was box o ret h r m (k + 1) (by omega))

def nextRow (box was : List Int) (pw : Int) : List Int :=
  let f (i : Nat) : Int := xorI .u8 (was.getD i 0) (box.getD (was.getD (12 + (i + 1) % 4) 0).toNat 0)
  let a0 := xorI .u8 (f 0) pw
  let a1 := f 1
  let a2 := f 2
  let a3 := f 3
  let a4 := xorI .u8 (was.getD 4 0) a0
  let a5 := xorI .u8 (was.getD 5 0) a1
  let a6 := xorI .u8 (was.getD 6 0) a2
  let a7 := xorI .u8 (was.getD 7 0) a3
  let a8 := xorI .u8 (was.getD 8 0) a4
  let a9 := xorI .u8 (was.getD 9 0) a5
  let a10 := xorI .u8 (was.getD 10 0) a6
  let a11 := xorI .u8 (was.getD 11 0) a7
  let a12 := xorI .u8 (was.getD 12 0) a8
  let a13 := xorI .u8 (was.getD 13 0) a9
  let a14 := xorI .u8 (was.getD 14 0) a10
  let a15 := xorI .u8 (was.getD 15 0) a11
  [a0, a1, a2, a3, a4, a5, a6, a7, a8, a9, a10, a11, a12, a13, a14, a15]

theorem stps_row (box was : List Int) (pw : Int) (x0 x1 x2 x3 x4 x5 x6 x7 x8 x9 xa xb xc xd xe xf : Int) : stps box was pw 16 [x0, x1, x2, x3, x4, x5, x6, x7, x8, x9, xa, xb, xc, xd, xe, xf] = nextRow box was pw := by kernel_rfl

theorem len16 {l : List Int} (h : l.length = 16) : ∃ x0 x1 x2 x3 x4 x5 x6 x7 x8 x9 xa xb xc xd xe xf, l = [x0, x1, x2, x3, x4, x5, x6, x7, x8, x9, xa, xb, xc, xd, xe, xf] := by
  match l, h with
  | [x0, x1, x2, x3, x4, x5, x6, x7, x8, x9, xa, xb, xc, xd, xe, xf], _ => exact ⟨_, _, _, _, _, _, _, _, _, _, _, _, _, _, _, _, rfl⟩

theorem stps_next (box was : List Int) (pw : Int) {r : List Int} (h : r.length = 16) : stps box was pw 16 r = nextRow box was pw := by
  obtain ⟨_, _, _, _, _, _, _, _, _, _, _, _, _, _, _, _, rfl⟩ := len16 h
  exact stps_row ..

def F44 (xs : HL S44.Ts) (hs : HD S44.Es) : Tr (Ex × St) :=
  .chk (decide (xs.2.2.2.2.2.2.2.1 = (0 : Int)) && (decide (xs.2.2.2.2.2.1.1 < (hs.2.2.2.1 : List (List Int)).length) && decide ((rowOf hs.2.2.2.1 xs.2.2.2.2.2.1.1).length = 16)))
    (.ret (.exit 2, encS [2, 3, 4, 5, 13] [pt 1, pt 2, pt 3, u8, i64] S44.Es 73 ((), (), (), xs.2.2.2.1, xs.2.2.2.2.2.2.1, ())
      (hs.1, hs.2.1, hs.2.2.1, (hs.2.2.2.1 : List (List Int)).set xs.2.2.2.2.2.1.1 (nextRow hs.2.2.1 hs.2.2.2.2.1 xs.2.2.2.1), hs.2.2.2.2.1, ())))
def L44 : Loops := fun j st => if j = 9 then S44.fn F44 st else .fail

theorem set_row {o : List (List Int)} {q : Nat} (h : q < o.length) : o.set q (rowOf o q) = o := by
  unfold rowOf
  rw [List.getD_eq_getElem?_getD, List.getElem?_eq_getElem h]
  exact List.set_getElem_self h

theorem l44 : LoopOK Try.prog L44 b44 :=
  loop_ok (L := L44) (L' := L0) C2_sound (loopsOK_of (by kernel_rfl)) S44 (by kernel_rfl) (F := F44) (i := 9) (by kernel_rfl) (fun _ => rfl) fun xs hs r h => by
    obtain ⟨u0, u1, u2, pw, u4, ⟨q, u5⟩, n, i, u⟩ := xs
    obtain ⟨key, ret, box, o, was, u7⟩ := hs
    obtain ⟨h1, h2⟩ := Tr.chk_some h
    have := Tr.ret_some h2
    simp only [Bool.and_eq_true, decide_eq_true_eq] at h1
    obtain ⟨e1, e2, e3⟩ := h1
    have e1 : i = ((0 : Nat) : Int) := e1
    subst e1
    have hk := k44 pw n q key was box o ret e2 (rowOf o q) 16 0 rfl
    rw [show stps box was pw 0 (rowOf o q) = rowOf o q from rfl, set_row e2, stps_next box was pw e3] at hk
    exact ⟨_, hk.trans (congrArg some this)⟩

end Go.Proofs.Ytlkddajnebjlcaa.Aes

end
section
/- What the functions of layer 3 (aes) give: the keys of the rounds. -/
set_option linter.unusedVariables false
set_option maxRecDepth 1000000
namespace Go.Proofs.Ytlkddajnebjlcaa.Aes
open Go Vse Go.Proofs

noncomputable def L44t : Loops := fun j st => if j = 5 then runLoop Try.prog (ctx C2) L44 11 b44o st else .fail

theorem l44o : LoopOK Try.prog L44t b44o :=
  runLoop_ok (L' := L44) C2_sound (loopsOK_all (fun b hb => by
    have : loopsOf b44o = [b44] := by kernel_rfl
    rw [this] at hb
    rw [List.mem_singleton.1 hb]
    exact l44)) (i := 5) (n := 11) (by kernel_rfl) (fun _ => rfl)

/-- the keys of the rounds -/
def keysI (key : List Int) : List (List Int) :=
  let r1 := nextRow boxL key 1
  let r2 := nextRow boxL r1 2
  let r3 := nextRow boxL r2 4
  let r4 := nextRow boxL r3 8
  let r5 := nextRow boxL r4 16
  let r6 := nextRow boxL r5 32
  let r7 := nextRow boxL r6 64
  let r8 := nextRow boxL r7 128
  let r9 := nextRow boxL r8 27
  let r10 := nextRow boxL r9 54
  [key, r1, r2, r3, r4, r5, r6, r7, r8, r9, r10]

def s44 : CSpec := .fn1 [t16] t11 fun x => keysI x.1
theorem ok44 : CSound Try.prog 63 s44 ∧ CLocal s44 :=
  fn_okL (L := L44t) C2_sound Try.func63 (by kernel_rfl) (fun b hb => by
    have : loopsOf (bodyOf Try.f63) = [b44o] := by kernel_rfl
    rw [this] at hb
    rw [List.mem_singleton.1 hb]
    exact l44o) (fun xs _ => by kernel_rfl) (fun xs _ => by kernel_rfl)

end Go.Proofs.Ytlkddajnebjlcaa.Aes

end
section
/- What the functions of layer 3 (aes) give: a block under a key: the loops. -/
set_option linter.unusedVariables false
set_option maxRecDepth 1000000
namespace Go.Proofs.Ytlkddajnebjlcaa.Aes
open Go Vse Go.Proofs

def C3 : List (Nat × CSpec) := (63, s44) :: (60, s62) :: C2
theorem C3_sound : CtxSound Try.prog (ctx C3) ∧ CtxLocal (ctx C3) := ctx_sound ⟨ok44, ok62, ok59, ok40, ok41, ok39, ok61, trivial⟩

noncomputable def b46a : Code := ((loopsOf (bodyOf Try.f57))[0]?).getD .skip
noncomputable def b46o : Code := ((loopsOf (bodyOf Try.f57))[1]?).getD .skip
noncomputable def b46b : Code := ((loopsOf b46o)[0]?).getD .skip
noncomputable def b46c : Code := ((loopsOf b46o)[1]?).getD .skip

abbrev E46 : List ETy := [.box t16, .box t16, .box t16, .box t256, .box t11]
abbrev E46i : List ETy := [.box t16, .box t16, .box t16, .box t256, .box t11, .box t16]
def S46a : LSpec := ⟨[3, 4, 5, 6, 21], [3, 4, 5, 6], 117, [pt 1, pt 2, pt 3, pt 4, i64], E46⟩
def G46a (xs : HL S46a.Ts) (hs : HD S46a.Es) : Tr S46a.End :=
  let i := xs.2.2.2.2.1
  let b := hs.2.1
  let ks := hs.2.2.2.2.1
  .ite (decide (i < 16)) (.chk (inArr i 16) (.chk (inArr i 16) (.chk (inArr i 16) (.ret (.inl (((), (), (), (), w (i + 1), ()), (hs.1, xorAt b (rowOf ks 0) i.toNat, hs.2.2.1, hs.2.2.2.1, ks, ())))))))
    (.ret (.inr (.exit 0, encS [3, 4, 5, 6] [pt 1, pt 2, pt 3, pt 4] E46 117 ((), (), (), (), ()) hs)))
theorem r46a (i : Int) (key b o box : List Int) (ks : List (List Int)) : (S46a.round (bodyK Try.prog (ctx C3) L0 b46a) ((), (), (), (), i, ()) (key, b, o, box, ks, ())).eval =
    (G46a ((), (), (), (), i, ()) (key, b, o, box, ks, ())).eval := by kernel_rfl

def S46b : LSpec := ⟨[3, 4, 5, 6, 8, 9, 34, 37], [3, 4, 5, 6, 8, 9, 34], 117, [pt 1, pt 2, pt 3, pt 4, i64, pt 5, i64, i64], E46i⟩
def subAt (box b t : List Int) (i : Int) : List Int := t.set i.toNat (box.getD (b.getD ((w (i + w (4 * i.tmod 4))).tmod 16).toNat 0).toNat 0)
def G46b (xs : HL S46b.Ts) (hs : HD S46b.Es) : Tr S46b.End :=
  let n := xs.2.2.2.2.1
  let i := xs.2.2.2.2.2.2.2.1
  let n' := xs.2.2.2.2.2.2.1
  let b := hs.2.1
  let box := hs.2.2.2.1
  let t := hs.2.2.2.2.2.1
  .ite (decide (i < 16)) (.chk (inArr ((w (i + w (4 * i.tmod 4))).tmod 16) 16) (.chk (inArr i 16) (.ret (.inl (((), (), (), (), n, (), n', w (i + 1), ()), (hs.1, b, hs.2.2.1, box, hs.2.2.2.2.1, subAt box b t i, ()))))))
    (.ret (.inr (.exit 4, encS S46b.out [pt 1, pt 2, pt 3, pt 4, i64, pt 5, i64] E46i 117 ((), (), (), (), n, (), n', ()) hs)))
theorem r46b (n n' i : Int) (key b o box t : List Int) (ks : List (List Int)) : (S46b.round (bodyK Try.prog (ctx C3) L0 b46b) ((), (), (), (), n, (), n', i, ()) (key, b, o, box, ks, t, ())).eval =
    (G46b ((), (), (), (), n, (), n', i, ()) (key, b, o, box, ks, t, ())).eval := by kernel_rfl

def S46c : LSpec := ⟨[3, 4, 5, 6, 8, 9, 34, 53], [3, 4, 5, 6, 34], 117, [pt 1, pt 2, pt 3, pt 4, i64, pt 5, i64, i64], E46i⟩
def colI (i k : Int) : Int := w (w (i - i.tmod 4) + (w (i.tmod 4 + k)).tmod 4)
def mixB (x y z q : Int) : Int := xorI .u8 (xorI .u8 (xorI .u8 (twiceI (xorI .u8 x y)) y) z) q
def lastAt (b t : List Int) (k : List Int) (i : Int) : List Int :=
  let l := b.set i.toNat (t.getD i.toNat 0)
  l.set i.toNat (xorI .u8 (l.getD i.toNat 0) (k.getD i.toNat 0))
def mixAt (b t : List Int) (k : List Int) (i : Int) : List Int :=
  let l := (b.set i.toNat (t.getD i.toNat 0)).set i.toNat (mixB (t.getD i.toNat 0) (t.getD (colI i 1).toNat 0) (t.getD (colI i 2).toNat 0) (t.getD (colI i 3).toNat 0))
  l.set i.toNat (xorI .u8 (l.getD i.toNat 0) (k.getD i.toNat 0))
def G46c (xs : HL S46c.Ts) (hs : HD S46c.Es) : Tr S46c.End :=
  let n := xs.2.2.2.2.1
  let i := xs.2.2.2.2.2.2.2.1
  let n' := xs.2.2.2.2.2.2.1
  let b := hs.2.1
  let ks := hs.2.2.2.2.1
  let t := hs.2.2.2.2.2.1
  let A : Tr S46c.End := .chk (inArr i 16) (.chk (inArr i 16) (.chk (inArr (w (n + 1)) 11) (.chk (inArr i 16) (.chk (inArr i 16) (.ret (.inl (((), (), (), (), n, (), n', w (i + 1), ()), (hs.1, mixAt b t (rowOf ks (w (n + 1)).toNat) i, hs.2.2.1, hs.2.2.2.1, ks, t, ()))))))))
  let B : Tr S46c.End := .chk (inArr i 16) (.chk (inArr (w (n + 1)) 11) (.chk (inArr i 16) (.chk (inArr i 16) (.ret (.inl (((), (), (), (), n, (), n', w (i + 1), ()), (hs.1, lastAt b t (rowOf ks (w (n + 1)).toNat) i, hs.2.2.1, hs.2.2.2.1, ks, t, ())))))))
  .ite (decide (i < 16)) (.chk (inArr i 16) (.chk (inArr (colI i 1) 16) (.chk (inArr (colI i 2) 16) (.chk (inArr (colI i 3) 16) (.chk (inArr i 16) (.ite (decide (n < 9)) A B))))))
    (.ret (.inr (.exit 6, encS S46c.out [pt 1, pt 2, pt 3, pt 4, i64] E46i 117 ((), (), (), (), n', ()) hs)))
theorem r46c (n n' i : Int) (key b o box t : List Int) (ks : List (List Int)) : (S46c.round (bodyK Try.prog (ctx C3) L0 b46c) ((), (), (), (), n, (), n', i, ()) (key, b, o, box, ks, t, ())).eval =
    (G46c ((), (), (), (), n, (), n', i, ()) (key, b, o, box, ks, t, ())).eval := by kernel_rfl

end Go.Proofs.Ytlkddajnebjlcaa.Aes

end
section
/- What the functions of layer 3 (aes) give: a block under a key. -/
set_option linter.unusedVariables false
set_option maxRecDepth 1000000
namespace Go.Proofs.Ytlkddajnebjlcaa.Aes
open Go Vse Go.Proofs

/-- all bytes through their boxes, and turned -/
def subI (box b : List Int) : List Int := (List.range 16).map fun i => box.getD (b.getD ((i + 4 * (i % 4)) % 16) 0).toNat 0
/-- columns mixed, and the round's key -/
def mixI (t k : List Int) : List Int := (List.range 16).map fun i => xorI .u8 (mixB (t.getD i 0) (t.getD (i - i % 4 + (i + 1) % 4) 0) (t.getD (i - i % 4 + (i + 2) % 4) 0) (t.getD (i - i % 4 + (i + 3) % 4) 0)) (k.getD i 0)

def F46a (xs : HL S46a.Ts) (hs : HD S46a.Es) : Tr (Ex × St) :=
  .chk (decide (xs.2.2.2.2.1 = (0 : Int)) && decide ((hs.2.1 : List Int).length = 16)) (.ret (.exit 0, encS [3, 4, 5, 6] [pt 1, pt 2, pt 3, pt 4] E46 117 ((), (), (), (), ()) (hs.1, xorF hs.2.1 (rowOf hs.2.2.2.2.1 0), hs.2.2)))
def F46b (xs : HL S46b.Ts) (hs : HD S46b.Es) : Tr (Ex × St) :=
  .chk (decide (xs.2.2.2.2.2.2.2.1 = (0 : Int)) && decide ((hs.2.2.2.2.2.1 : List Int).length = 16)) (.ret (.exit 4, encS S46b.out [pt 1, pt 2, pt 3, pt 4, i64, pt 5, i64] E46i 117 ((), (), (), (), xs.2.2.2.2.1, (), xs.2.2.2.2.2.2.1, ())
    (hs.1, hs.2.1, hs.2.2.1, hs.2.2.2.1, hs.2.2.2.2.1, subI hs.2.2.2.1 hs.2.1, ())))
def lineI (n : Int) (t k : List Int) : List Int := bif decide (n < 9) then mixI t k else xorF t k
def F46c (xs : HL S46c.Ts) (hs : HD S46c.Es) : Tr (Ex × St) :=
  .chk (decide (xs.2.2.2.2.2.2.2.1 = (0 : Int)) && (decide ((0 : Int) ≤ xs.2.2.2.2.1) && (decide (xs.2.2.2.2.1 < (10 : Int)) && decide ((hs.2.1 : List Int).length = 16))))
    (.ret (.exit 6, encS S46c.out [pt 1, pt 2, pt 3, pt 4, i64] E46i 117 ((), (), (), (), xs.2.2.2.2.2.2.1, ())
      (hs.1, lineI xs.2.2.2.2.1 hs.2.2.2.2.2.1 (rowOf hs.2.2.2.2.1 (xs.2.2.2.2.1 + 1).toNat), hs.2.2)))

noncomputable def L46i : Loops := fun j st => if j = 12 then S46b.fn F46b st else if j = 17 then S46c.fn F46c st else .fail
noncomputable def L46 : Loops := fun j st => if j = 3 then S46a.fn F46a st else if j = 8 then runLoop Try.prog (ctx C3) L46i 11 b46o st else .fail

theorem l46a : LoopOK Try.prog L46 b46a :=
  loop_ok (L := L46) (L' := L0) C3_sound (loopsOK_of (by kernel_rfl)) S46a (by kernel_rfl) (F := F46a) (i := 3) (by kernel_rfl) (fun _ => rfl) fun xs hs r h => by
    obtain ⟨u0, u1, u2, u3, i, u⟩ := xs
    obtain ⟨key, b, o, box, ks, u7⟩ := hs
    obtain ⟨h1, h2⟩ := Tr.chk_some h
    have := Tr.ret_some h2
    simp only [Bool.and_eq_true, decide_eq_true_eq] at h1
    obtain ⟨e1, e2⟩ := h1
    have e1 : i = (0 : Int) := e1
    subst e1
    obtain ⟨x0, x1, x2, x3, x4, x5, x6, x7, x8, x9, xa, xb, xc, xd, xe, xf, rfl⟩ := len16 (show b.length = 16 from e2)
    refine ⟨17, iter_many (G := G46a) (fun xs hs r h => (r46a xs.2.2.2.2.1 hs.1 hs.2.1 hs.2.2.1 hs.2.2.2.1 hs.2.2.2.2.1).trans h) 17 _ _ _ (Eq.trans ?_ (congrArg some this))⟩
    kernel_rfl

theorem l46b : LoopOK Try.prog L46i b46b :=
  loop_ok (L := L46i) (L' := L0) C3_sound (loopsOK_of (by kernel_rfl)) S46b (by kernel_rfl) (F := F46b) (i := 12) (by kernel_rfl) (fun _ => rfl) fun xs hs r h => by
    obtain ⟨u0, u1, u2, u3, n, u4, n', i, u⟩ := xs
    obtain ⟨key, b, o, box, ks, t, u7⟩ := hs
    obtain ⟨h1, h2⟩ := Tr.chk_some h
    have := Tr.ret_some h2
    simp only [Bool.and_eq_true, decide_eq_true_eq] at h1
    obtain ⟨e1, e2⟩ := h1
    have e1 : i = (0 : Int) := e1
    subst e1
    obtain ⟨x0, x1, x2, x3, x4, x5, x6, x7, x8, x9, xa, xb, xc, xd, xe, xf, rfl⟩ := len16 (show t.length = 16 from e2)
    refine ⟨17, iter_many (G := G46b) (fun xs hs r h => (r46b xs.2.2.2.2.1 xs.2.2.2.2.2.2.1 xs.2.2.2.2.2.2.2.1 hs.1 hs.2.1 hs.2.2.1 hs.2.2.2.1 hs.2.2.2.2.2.1 hs.2.2.2.2.1).trans h) 17 _ _ _ (Eq.trans ?_ (congrArg some this))⟩
    kernel_rfl

theorem lt10 {n : Int} (h : 0 ≤ n) (h' : n < 10) : n = 0 ∨ n = 1 ∨ n = 2 ∨ n = 3 ∨ n = 4 ∨ n = 5 ∨ n = 6 ∨ n = 7 ∨ n = 8 ∨ n = 9 := by omega

theorem l46c : LoopOK Try.prog L46i b46c :=
  loop_ok (L := L46i) (L' := L0) C3_sound (loopsOK_of (by kernel_rfl)) S46c (by kernel_rfl) (F := F46c) (i := 17) (by kernel_rfl) (fun _ => rfl) fun xs hs r h => by
    obtain ⟨u0, u1, u2, u3, n, u4, n', i, u⟩ := xs
    obtain ⟨key, b, o, box, ks, t, u7⟩ := hs
    obtain ⟨h1, h2⟩ := Tr.chk_some h
    have := Tr.ret_some h2
    simp only [Bool.and_eq_true, decide_eq_true_eq] at h1
    obtain ⟨e1, e2, e3, e4⟩ := h1
    have e1 : i = (0 : Int) := e1
    subst e1
    have e2 : (0 : Int) ≤ n := e2
    have e3 : n < (10 : Int) := e3
    obtain ⟨x0, x1, x2, x3, x4, x5, x6, x7, x8, x9, xa, xb, xc, xd, xe, xf, rfl⟩ := len16 (show b.length = 16 from e4)
    refine ⟨17, iter_many (G := G46c) (fun xs hs r h => (r46c xs.2.2.2.2.1 xs.2.2.2.2.2.2.1 xs.2.2.2.2.2.2.2.1 hs.1 hs.2.1 hs.2.2.1 hs.2.2.2.1 hs.2.2.2.2.2.1 hs.2.2.2.2.1).trans h) 17 _ _ _ (Eq.trans ?_ (congrArg some this))⟩
    have hn := lt10 e2 e3
    rcases hn with rfl | rfl | rfl | rfl | rfl | rfl | rfl | rfl | rfl | rfl <;> (refine (?_ : _ = _); kernel_rfl)

theorem l46o : LoopOK Try.prog L46 b46o :=
  runLoop_ok (L' := L46i) C3_sound (loopsOK_all (fun b hb => by
    have : loopsOf b46o = [b46b, b46c] := by kernel_rfl
    rw [this] at hb
    simp only [List.mem_cons, List.not_mem_nil, or_false] at hb
    rcases hb with rfl | rfl
    · exact l46b
    · exact l46c)) (i := 8) (n := 11) (by kernel_rfl) (fun _ => rfl)

def roundE (ks : List (List Int)) (n : Nat) (b : List Int) : List Int := lineI n (subI boxL b) (rowOf ks (n + 1))
def encI (key b : List Int) : List Int :=
  let ks := keysI key
  roundE ks 9 (roundE ks 8 (roundE ks 7 (roundE ks 6 (roundE ks 5 (roundE ks 4 (roundE ks 3 (roundE ks 2 (roundE ks 1 (roundE ks 0 (xorF b (rowOf ks 0)))))))))))

def s46 : CSpec := .fn1 [t16, t16] t16 fun x => encI x.1 x.2.1
theorem ok46 : CSound Try.prog 57 s46 ∧ CLocal s46 :=
  fn_okL (L := L46) C3_sound Try.func57 (by kernel_rfl) (fun b hb => by
    have : loopsOf (bodyOf Try.f57) = [b46a, b46o] := by kernel_rfl
    rw [this] at hb
    simp only [List.mem_cons, List.not_mem_nil, or_false] at hb
    rcases hb with rfl | rfl
    · exact l46a
    · exact l46o) (fun xs hx => by
      obtain ⟨key, b, u⟩ := xs
      have h : b.length = 16 := hx.2.1.1
      obtain ⟨x0, x1, x2, x3, x4, x5, x6, x7, x8, x9, xa, xb, xc, xd, xe, xf, rfl⟩ := len16 h
      refine (?_ : _ = _)
      kernel_rfl) (fun xs _ => by kernel_rfl)

end Go.Proofs.Ytlkddajnebjlcaa.Aes

end
section
/- What the functions of layer 3 (aes) give: the document's keys of the rounds. -/
set_option linter.unusedVariables false
set_option maxRecDepth 1000000
namespace Go.Proofs.Ytlkddajnebjlcaa.Aes
open Go Vse Go.Proofs

noncomputable def b45 : Code := ((loopsOf (bodyOf Try.f59))[0]?).getD .skip
def S45 : LSpec := ⟨[2, 3, 4, 5, 6], [2, 4], 67, [pt 1, pt 2, pt 3, u8, i64], [.box t16, .box t11, .box t256, .box t11]⟩
noncomputable def A45 : Loops := autoL Try.prog (ctx C3) 17 b45
def G45 (xs : HL S45.Ts) (hs : HD S45.Es) : Tr S45.End :=
  let pw := xs.2.2.2.1
  let n := xs.2.2.2.2.1
  let box := hs.2.2.1
  let o := hs.2.2.2.1
  .ite (decide (n ≤ 10)) (.chk (inArr (w (n - 1)) 11) (.chk (inArr n 11) (.ret (.inl (((), (), (), timesR pw 2, w (n + 1), ()), (hs.1, hs.2.1, box, (o : List (List Int)).set n.toNat (nextRow box (rowOf o (w (n - 1)).toNat) pw), ()))))))
    (.ret (.inr (.exit 0, encS [2, 4] [pt 1, pt 3] S45.Es 67 ((), (), ()) hs)))
theorem r45 (pw n : Int) (key box : List Int) (ret o : List (List Int)) : (S45.round (bodyK Try.prog (ctx C3) A45 b45) ((), (), (), pw, n, ()) (key, ret, box, o, ())).eval =
    (G45 ((), (), (), pw, n, ()) (key, ret, box, o, ())).eval := by kernel_rfl

noncomputable def L45 : Loops := fun j st => if j = 6 then S45.fn (S45.iter G45 11) st else .fail
theorem l45 : LoopOK Try.prog L45 b45 :=
  iter_ok (L' := A45) C3_sound (autoL_ok C3_sound 17 b45 A45 (of_decide_eq_true (by kernel_rfl)) fun _ _ _ => rfl) S45 (by kernel_rfl) (G := G45) (n := 11) (i := 6) (by kernel_rfl) (fun _ => rfl)
    fun xs hs r h => (r45 xs.2.2.2.1 xs.2.2.2.2.1 hs.1 hs.2.2.1 hs.2.1 hs.2.2.2.1).trans h

def s45 : CSpec := .fn1 [t16] t11 fun x => keysI x.1
theorem ok45 : CSound Try.prog 59 s45 ∧ CLocal s45 :=
  fn_okL (L := L45) C3_sound Try.func59 (by kernel_rfl) (fun b hb => by
    have : loopsOf (bodyOf Try.f59) = [b45] := by kernel_rfl
    rw [this] at hb
    rw [List.mem_singleton.1 hb]
    exact l45) (fun xs _ => by kernel_rfl) (fun xs _ => by kernel_rfl)

end Go.Proofs.Ytlkddajnebjlcaa.Aes

end
section
/- What the functions of layer 3 (aes) give: the document's block under a key. -/
set_option linter.unusedVariables false
set_option maxRecDepth 1000000
namespace Go.Proofs.Ytlkddajnebjlcaa.Aes
open Go Vse Go.Proofs

def C4 : List (Nat × CSpec) := (59, s45) :: C3
theorem C4_sound : CtxSound Try.prog (ctx C4) ∧ CtxLocal (ctx C4) := ctx_sound ⟨ok45, ok44, ok62, ok59, ok40, ok41, ok39, ok61, trivial⟩

noncomputable def b47 : Code := ((loopsOf (bodyOf Try.f44))[0]?).getD .skip
noncomputable def b47a : Code := ((loopsOf b47)[0]?).getD .skip
noncomputable def b47b : Code := ((loopsOf b47)[1]?).getD .skip

abbrev E47a : List ETy := [.box t16, .box t16, .box t16, .box t256, .box t11, .box t16, .box t16]
abbrev E47b : List ETy := [.box t16, .box t16, .box t16, .box t256, .box t11, .box t16, .box t16, .box t16]
def S47a : LSpec := ⟨[4, 5, 6, 7, 8, 9, 10], [4, 5, 6, 7, 8, 9], 110, [pt 2, pt 3, pt 4, pt 5, i64, pt 6, i64], E47a⟩
abbrev i4 (c r : Int) : Int := w (w (4 * c) + r)
abbrev j4 (c r : Int) : Int := w (w (4 * (w (c + r)).tmod 4) + r)
def turnAt (box b t : List Int) (c r : Int) : List Int := t.set (i4 c r).toNat (box.getD (b.getD (j4 c r).toNat 0).toNat 0)
def G47a (xs : HL S47a.Ts) (hs : HD S47a.Es) : Tr S47a.End :=
  let n := xs.2.2.2.2.1
  let c := xs.2.2.2.2.2.2.1
  let box := hs.2.2.2.1
  let b := hs.2.2.2.2.2.1
  let t := hs.2.2.2.2.2.2.1
  .ite (decide (c < 4)) (.chk (inArr (j4 c 0) 16) (.chk (inArr (i4 c 0) 16) (.chk (inArr (j4 c 1) 16) (.chk (inArr (i4 c 1) 16) (.chk (inArr (j4 c 2) 16) (.chk (inArr (i4 c 2) 16) (.chk (inArr (j4 c 3) 16) (.chk (inArr (i4 c 3) 16)
      (.ret (.inl (((), (), (), (), n, (), w (c + 1), ()), (hs.1, hs.2.1, hs.2.2.1, box, hs.2.2.2.2.1, b, turnAt box b (turnAt box b (turnAt box b (turnAt box b t c 0) c 1) c 2) c 3, ()))))))))))))
    (.ret (.inr (.exit 2, encS S47a.out [pt 2, pt 3, pt 4, pt 5, i64, pt 6] E47a 110 ((), (), (), (), n, (), ()) hs)))
noncomputable def A47a : Loops := autoL Try.prog (ctx C4) 5 b47a
theorem r47a (n c : Int) (key blk o box b t : List Int) (ks : List (List Int)) : (S47a.round (bodyK Try.prog (ctx C4) A47a b47a) ((), (), (), (), n, (), c, ()) (key, blk, o, box, ks, b, t, ())).eval =
    (G47a ((), (), (), (), n, (), c, ()) (key, blk, o, box, ks, b, t, ())).eval := by kernel_rfl

def S47b : LSpec := ⟨[4, 5, 6, 7, 8, 9, 12, 13], [4, 5, 6, 7, 8, 12], 110, [pt 2, pt 3, pt 4, pt 5, i64, pt 6, pt 7, i64], E47b⟩
abbrev k4 (c r k : Int) : Int := w (w (4 * c) + (w (r + k)).tmod 4)
def mixC (t m : List Int) (c r : Int) : List Int := m.set (i4 c r).toNat (xorI .u8 (xorI .u8 (xorI .u8 (timesR 2 (t.getD (i4 c r).toNat 0)) (timesR 3 (t.getD (k4 c r 1).toNat 0))) (t.getD (k4 c r 2).toNat 0)) (t.getD (k4 c r 3).toNat 0))
def chkC {α : Type} (c r : Int) (x : Tr α) : Tr α := .chk (inArr (i4 c r) 16) (.chk (inArr (k4 c r 1) 16) (.chk (inArr (k4 c r 2) 16) (.chk (inArr (k4 c r 3) 16) (.chk (inArr (i4 c r) 16) x))))
def G47b (xs : HL S47b.Ts) (hs : HD S47b.Es) : Tr S47b.End :=
  let n := xs.2.2.2.2.1
  let c := xs.2.2.2.2.2.2.2.1
  let t := hs.2.2.2.2.2.2.1
  let m := hs.2.2.2.2.2.2.2.1
  let E : Tr S47b.End := .ret (.inr (.exit 6, encS S47b.out [pt 2, pt 3, pt 4, pt 5, i64, pt 7] E47b 110 ((), (), (), (), n, (), ()) hs))
  .ite (decide (c < 4)) (.ite (decide (n < 10)) (chkC c 0 (chkC c 1 (chkC c 2 (chkC c 3
      (.ret (.inl (((), (), (), (), n, (), (), w (c + 1), ()), (hs.1, hs.2.1, hs.2.2.1, hs.2.2.2.1, hs.2.2.2.2.1, hs.2.2.2.2.2.1, t, mixC t (mixC t (mixC t (mixC t m c 0) c 1) c 2) c 3, ()))))))))
    E) E
noncomputable def A47b : Loops := autoL Try.prog (ctx C4) 5 b47b
theorem r47b (n c : Int) (key blk o box b t m : List Int) (ks : List (List Int)) : (S47b.round (bodyK Try.prog (ctx C4) A47b b47b) ((), (), (), (), n, (), (), c, ()) (key, blk, o, box, ks, b, t, m, ())).eval =
    (G47b ((), (), (), (), n, (), (), c, ()) (key, blk, o, box, ks, b, t, m, ())).eval := by kernel_rfl

end Go.Proofs.Ytlkddajnebjlcaa.Aes

end
section
/- What the functions of layer 3 (aes) give: the document's block under a key, summed up. -/
set_option linter.unusedVariables false
set_option maxRecDepth 1000000
namespace Go.Proofs.Ytlkddajnebjlcaa.Aes
open Go Vse Go.Proofs

def mixR (t : List Int) : List Int := (List.range 16).map fun i => xorI .u8 (xorI .u8 (xorI .u8 (timesR 2 (t.getD i 0)) (timesR 3 (t.getD (i - i % 4 + (i + 1) % 4) 0))) (t.getD (i - i % 4 + (i + 2) % 4) 0)) (t.getD (i - i % 4 + (i + 3) % 4) 0)

def F47a (xs : HL S47a.Ts) (hs : HD S47a.Es) : Tr (Ex × St) :=
  .chk (decide (xs.2.2.2.2.2.2.1 = (0 : Int)) && decide ((hs.2.2.2.2.2.2.1 : List Int).length = 16))
    (.ret (.exit 2, encS S47a.out [pt 2, pt 3, pt 4, pt 5, i64, pt 6] E47a 110 ((), (), (), (), xs.2.2.2.2.1, (), ()) (hs.1, hs.2.1, hs.2.2.1, hs.2.2.2.1, hs.2.2.2.2.1, hs.2.2.2.2.2.1, subI hs.2.2.2.1 hs.2.2.2.2.2.1, ())))
def F47b (xs : HL S47b.Ts) (hs : HD S47b.Es) : Tr (Ex × St) :=
  .chk (decide (xs.2.2.2.2.2.2.2.1 = (0 : Int)) && (decide ((1 : Int) ≤ xs.2.2.2.2.1) && (decide (xs.2.2.2.2.1 ≤ (10 : Int)) && decide ((hs.2.2.2.2.2.2.2.1 : List Int).length = 16))))
    (.ret (.exit 6, encS S47b.out [pt 2, pt 3, pt 4, pt 5, i64, pt 7] E47b 110 ((), (), (), (), xs.2.2.2.2.1, (), ())
      (hs.1, hs.2.1, hs.2.2.1, hs.2.2.2.1, hs.2.2.2.2.1, hs.2.2.2.2.2.1, hs.2.2.2.2.2.2.1, (bif decide (xs.2.2.2.2.1 < (10 : Int)) then mixR hs.2.2.2.2.2.2.1 else hs.2.2.2.2.2.2.2.1), ())))

noncomputable def L47i : Loops := fun j st => if j = 9 then S47a.fn F47a st else if j = 17 then S47b.fn F47b st else .fail
noncomputable def L47 : Loops := fun j st => if j = 5 then runLoop Try.prog (ctx C4) L47i 11 b47 st else .fail

theorem l47a : LoopOK Try.prog L47i b47a :=
  loop_ok (L := L47i) (L' := A47a) C4_sound (autoL_ok C4_sound 5 b47a A47a (of_decide_eq_true (by kernel_rfl)) fun _ _ _ => rfl) S47a (by kernel_rfl) (F := F47a) (i := 9) (by kernel_rfl) (fun _ => rfl) fun xs hs r h => by
    obtain ⟨u0, u1, u2, u3, n, u4, c, u⟩ := xs
    obtain ⟨key, blk, o, box, ks, b, t, u7⟩ := hs
    obtain ⟨h1, h2⟩ := Tr.chk_some h
    have := Tr.ret_some h2
    simp only [Bool.and_eq_true, decide_eq_true_eq] at h1
    obtain ⟨e1, e2⟩ := h1
    have e1 : c = (0 : Int) := e1
    subst e1
    obtain ⟨x0, x1, x2, x3, x4, x5, x6, x7, x8, x9, xa, xb, xc, xd, xe, xf, rfl⟩ := len16 (show t.length = 16 from e2)
    refine ⟨17, iter_many (G := G47a) (fun xs hs r h => (r47a xs.2.2.2.2.1 xs.2.2.2.2.2.2.1 hs.1 hs.2.1 hs.2.2.1 hs.2.2.2.1 hs.2.2.2.2.2.1 hs.2.2.2.2.2.2.1 hs.2.2.2.2.1).trans h) 17 _ _ _ (Eq.trans ?_ (congrArg some this))⟩
    kernel_rfl

theorem le10 {n : Int} (h : 1 ≤ n) (h' : n ≤ 10) : n = 1 ∨ n = 2 ∨ n = 3 ∨ n = 4 ∨ n = 5 ∨ n = 6 ∨ n = 7 ∨ n = 8 ∨ n = 9 ∨ n = 10 := by omega

theorem l47b : LoopOK Try.prog L47i b47b :=
  loop_ok (L := L47i) (L' := A47b) C4_sound (autoL_ok C4_sound 5 b47b A47b (of_decide_eq_true (by kernel_rfl)) fun _ _ _ => rfl) S47b (by kernel_rfl) (F := F47b) (i := 17) (by kernel_rfl) (fun _ => rfl) fun xs hs r h => by
    obtain ⟨u0, u1, u2, u3, n, u4, u5, c, u⟩ := xs
    obtain ⟨key, blk, o, box, ks, b, t, m, u7⟩ := hs
    obtain ⟨h1, h2⟩ := Tr.chk_some h
    have := Tr.ret_some h2
    simp only [Bool.and_eq_true, decide_eq_true_eq] at h1
    obtain ⟨e1, e2, e3, e4⟩ := h1
    have e1 : c = (0 : Int) := e1
    subst e1
    have e2 : (1 : Int) ≤ n := e2
    have e3 : n ≤ (10 : Int) := e3
    obtain ⟨x0, x1, x2, x3, x4, x5, x6, x7, x8, x9, xa, xb, xc, xd, xe, xf, rfl⟩ := len16 (show m.length = 16 from e4)
    refine ⟨17, iter_many (G := G47b) (fun xs hs r h => (r47b xs.2.2.2.2.1 xs.2.2.2.2.2.2.2.1 hs.1 hs.2.1 hs.2.2.1 hs.2.2.2.1 hs.2.2.2.2.2.1 hs.2.2.2.2.2.2.1 hs.2.2.2.2.2.2.2.1 hs.2.2.2.2.1).trans h) 17 _ _ _ (Eq.trans ?_ (congrArg some this))⟩
    have hn := le10 e2 e3
    rcases hn with rfl | rfl | rfl | rfl | rfl | rfl | rfl | rfl | rfl | rfl <;> (refine (?_ : _ = _); kernel_rfl)

theorem l47 : LoopOK Try.prog L47 b47 :=
  runLoop_ok (L' := L47i) C4_sound (loopsOK_all (fun b hb => by
    have : loopsOf b47 = [b47a, b47b] := by kernel_rfl
    rw [this] at hb
    simp only [List.mem_cons, List.not_mem_nil, or_false] at hb
    rcases hb with rfl | rfl
    · exact l47a
    · exact l47b)) (i := 5) (n := 11) (by kernel_rfl) (fun _ => rfl)

def roundR (ks : List (List Int)) (n : Nat) (b : List Int) : List Int := xorF (bif decide ((n : Int) < 10) then mixR (subI boxL b) else subI boxL b) (rowOf ks n)
def encR (key b : List Int) : List Int :=
  let ks := keysI key
  roundR ks 10 (roundR ks 9 (roundR ks 8 (roundR ks 7 (roundR ks 6 (roundR ks 5 (roundR ks 4 (roundR ks 3 (roundR ks 2 (roundR ks 1 (xorF b (rowOf ks 0)))))))))))

def s47 : CSpec := .fn1 [t16, t16] t16 fun x => encR x.1 x.2.1
theorem ok47 : CSound Try.prog 44 s47 ∧ CLocal s47 :=
  fn_okL (L := L47) C4_sound Try.func44 (by kernel_rfl) (fun b hb => by
    have : loopsOf (bodyOf Try.f44) = [b47] := by kernel_rfl
    rw [this] at hb
    rw [List.mem_singleton.1 hb]
    exact l47) (fun xs hx => by kernel_rfl) (fun xs _ => by kernel_rfl)

end Go.Proofs.Ytlkddajnebjlcaa.Aes

end

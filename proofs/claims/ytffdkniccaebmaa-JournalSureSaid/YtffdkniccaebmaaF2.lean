/- What the functions of layer 9 (field) give: numbers and words of bytes. -/
import Derived.Test.YtffdkniccaebmaaF1
set_option linter.unusedVariables false
set_option maxRecDepth 100000
namespace Go.Proofs.Ytffdkniccaebmaa.Fld
open Go Vse Go.Proofs

abbrev t16 : Ty := .arr 16 u8
theorem len8 {l : List Int} (h : l.length = 8) : ∃ x0 x1 x2 x3 x4 x5 x6 x7, l = [x0, x1, x2, x3, x4, x5, x6, x7] := by
  match l, h with
  | [x0, x1, x2, x3, x4, x5, x6, x7], _ => exact ⟨_, _, _, _, _, _, _, _, rfl⟩
theorem len16 {l : List Int} (h : l.length = 16) : ∃ x0 x1 x2 x3 x4 x5 x6 x7 x8 x9 xa xb xc xd xe xf, l = [x0, x1, x2, x3, x4, x5, x6, x7, x8, x9, xa, xb, xc, xd, xe, xf] := by
  match l, h with
  | [x0, x1, x2, x3, x4, x5, x6, x7, x8, x9, xa, xb, xc, xd, xe, xf], _ => exact ⟨_, _, _, _, _, _, _, _, _, _, _, _, _, _, _, _, rfl⟩

/-! field.Take -/

def S29 : LSpec := ⟨[4, 10, 11, 12], [4], 23, [i64, bs, i64, i64], []⟩
noncomputable def b29 : Code := loopAt Try.f82 0
def take1 (a : List Int) : Int := a.foldl (fun v c => orI .i64 (shlI .i64 v 8) (w c)) 0
def F29 (xs : HL S29.Ts) (hs : HD S29.Es) : Tr (Ex × St) :=
  .chk (decide (xs.1 = (0 : Int)) && (decide (List.length (α := Int) xs.2.1 = 8) && (decide (xs.2.2.1 = (8 : Int)) && decide (xs.2.2.2.1 = (0 : Int))))) (.ret (.exit 0, encS [4] [i64] [] 23 (take1 xs.2.1, ()) ()))
def L29 : Loops := fun j st => if j = 5 then S29.fn F29 st else .fail
theorem k29 (x0 x1 x2 x3 x4 x5 x6 x7 : Int) : S29.many (bodyK Try.prog (ctx []) L0 b29) 9 ((0 : Int), [x0, x1, x2, x3, x4, x5, x6, x7], (8 : Int), (0 : Int), ()) () =
    some (.exit 0, encS [4] [i64] [] 23 (take1 [x0, x1, x2, x3, x4, x5, x6, x7], ()) ()) := by kernel_rfl
theorem l29 : LoopOK Try.prog L29 b29 :=
  loop_ok (L := L29) (L' := L0) nil_sound (loopsOK_of (by kernel_rfl)) S29 (by kernel_rfl) (F := F29) (i := 5) (by kernel_rfl) (fun _ => rfl) fun xs hs r h => by
    obtain ⟨n, a, m, i, u⟩ := xs
    obtain ⟨h1, h2⟩ := Tr.chk_some h
    have := Tr.ret_some h2
    simp only [Bool.and_eq_true, decide_eq_true_eq] at h1
    obtain ⟨e1, e2, e3, e4⟩ := h1
    have e1 : n = (0 : Int) := e1
    have e3 : m = (8 : Int) := e3
    have e4 : i = (0 : Int) := e4
    subst e1; subst e3; subst e4
    obtain ⟨x0, x1, x2, x3, x4, x5, x6, x7, rfl⟩ := len8 e2
    exact ⟨9, (k29 ..).trans (congrArg some this)⟩
def s29 : CSpec := .sl [bs] [i64, i64] fun x => bif decide (List.length (α := Int) x.1 = 8) then (take1 x.1, 0, ()) else (0, 3, ())
theorem r29 (a : List Int) : (fnS Try.prog (ctx []) L29 [i64, i64] Try.f82 (mkArgs [bs] (a, ()))).fold [i64, i64] = bif ((a.length : Int) != 8) then (0, 3, ()) else (take1 a, 0, ()) := by kernel_rfl
theorem f29 (a : List Int) : (fnS Try.prog (ctx []) L29 [i64, i64] Try.f82 (mkArgs [bs] (a, ()))).fine [i64, i64] =
  ((decide (a.length = 8) && (decide ((a.length : Int) = 8) && true)) || ((a.length : Int) != 8)) := by kernel_rfl

theorem ne8 (a : List Int) (k : Nat) : ((a.length : Int) != (k : Int)) = !decide (a.length = k) := by
  by_cases h : a.length = k
  · simp [h]
  · simp only [h, decide_false, Bool.not_false, bne_iff_ne, ne_eq]; omega

theorem ok29 : CSound Try.prog 82 s29 ∧ CLocal s29 :=
  sl_ok (L := L29) nil_sound Try.func82 (by kernel_rfl) (fun b hb => by
    have : loopsOf (bodyOf Try.f82) = [b29] := by kernel_rfl
    rw [this] at hb
    rw [List.mem_singleton.1 hb]
    exact l29) (fun xs hx => by
      refine (f29 xs.1).trans ?_
      rw [show (8 : Int) = ((8 : Nat) : Int) from rfl, ne8]
      by_cases h : List.length (α := Int) xs.1 = 8 <;> simp [h]) (fun xs hx => by
      refine (r29 xs.1).trans ?_
      rw [show (8 : Int) = ((8 : Nat) : Int) from rfl, ne8]
      show _ = bif decide (List.length (α := Int) xs.1 = 8) then (take1 xs.1, (0 : Int), ()) else ((0 : Int), (3 : Int), ())
      cases decide (List.length (α := Int) xs.1 = 8) <;> rfl)

/-! bartizanref09.Take -/

abbrev u64 : Ty := .int .u64
def S30 : LSpec := ⟨[0, 4, 5], [4], 23, [bs, u64, i64], []⟩
noncomputable def b30 : Code := loopAt Try.f97 0
def take2 (a : List Int) : Int := a.foldl (fun v c => wu (wu (256 * v) + wu c)) 0
def F30 (xs : HL S30.Ts) (hs : HD S30.Es) : Tr (Ex × St) :=
  .chk (decide (List.length (α := Int) xs.1 = 8) && (decide (xs.2.1 = (0 : Int)) && decide (xs.2.2.1 = (0 : Int)))) (.ret (.exit 0, encS [4] [u64] [] 23 (take2 xs.1, ()) ()))
def L30 : Loops := fun j st => if j = 5 then S30.fn F30 st else .fail
theorem k30 (x0 x1 x2 x3 x4 x5 x6 x7 : Int) : S30.many (bodyK Try.prog (ctx []) L0 b30) 9 ([x0, x1, x2, x3, x4, x5, x6, x7], (0 : Int), (0 : Int), ()) () =
    some (.exit 0, encS [4] [u64] [] 23 (take2 [x0, x1, x2, x3, x4, x5, x6, x7], ()) ()) := by kernel_rfl
theorem l30 : LoopOK Try.prog L30 b30 :=
  loop_ok (L := L30) (L' := L0) nil_sound (loopsOK_of (by kernel_rfl)) S30 (by kernel_rfl) (F := F30) (i := 5) (by kernel_rfl) (fun _ => rfl) fun xs hs r h => by
    obtain ⟨a, n, i, u⟩ := xs
    obtain ⟨h1, h2⟩ := Tr.chk_some h
    have := Tr.ret_some h2
    simp only [Bool.and_eq_true, decide_eq_true_eq] at h1
    obtain ⟨e2, e1, e4⟩ := h1
    have e1 : n = (0 : Int) := e1
    have e4 : i = (0 : Int) := e4
    subst e1; subst e4
    obtain ⟨x0, x1, x2, x3, x4, x5, x6, x7, rfl⟩ := len8 e2
    exact ⟨9, (k30 ..).trans (congrArg some this)⟩
def s30 : CSpec := .sl [bs] [i64, i64] fun x => bif decide (List.length (α := Int) x.1 = 8) then (w (take2 x.1), 0, ()) else (0, 3, ())
theorem r30 (a : List Int) : (fnS Try.prog (ctx []) L30 [i64, i64] Try.f97 (mkArgs [bs] (a, ()))).fold [i64, i64] = bif ((a.length : Int) != 8) then (0, 3, ()) else (w (take2 a), 0, ()) := by kernel_rfl
theorem f30 (a : List Int) : (fnS Try.prog (ctx []) L30 [i64, i64] Try.f97 (mkArgs [bs] (a, ()))).fine [i64, i64] = ((decide (a.length = 8) && true) || ((a.length : Int) != 8)) := by kernel_rfl
theorem ok30 : CSound Try.prog 97 s30 ∧ CLocal s30 :=
  sl_ok (L := L30) nil_sound Try.func97 (by kernel_rfl) (fun b hb => by
    have : loopsOf (bodyOf Try.f97) = [b30] := by kernel_rfl
    rw [this] at hb
    rw [List.mem_singleton.1 hb]
    exact l30) (fun xs hx => by
      refine (f30 xs.1).trans ?_
      rw [show (8 : Int) = ((8 : Nat) : Int) from rfl, ne8]
      by_cases h : List.length (α := Int) xs.1 = 8 <;> simp [h]) (fun xs hx => by
      refine (r30 xs.1).trans ?_
      rw [show (8 : Int) = ((8 : Nat) : Int) from rfl, ne8]
      show _ = bif decide (List.length (α := Int) xs.1 = 8) then (w (take2 xs.1), (0 : Int), ()) else ((0 : Int), (3 : Int), ())
      cases decide (List.length (α := Int) xs.1 = 8) <;> rfl)

/-! words -/

def z16 : List Int := List.replicate 16 0
def wordI (a : List Int) : HL [t16, i64] := bif decide (a.length = 16) then (a, 0, ()) else (z16, 3, ())
def s31 : CSpec := .sl [bs] [t16, i64] fun x => wordI x.1
theorem r31 (a : List Int) : (fnS Try.prog (ctx []) L0 [t16, i64] Try.f84 (mkArgs [bs] (a, ()))).fold [t16, i64] = bif ((a.length : Int) != 16) then (z16, 3, ()) else (a.take 16, 0, ()) := by kernel_rfl
theorem f31 (a : List Int) : (fnS Try.prog (ctx []) L0 [t16, i64] Try.f84 (mkArgs [bs] (a, ()))).fine [t16, i64] = (decide (16 ≤ a.length) || ((a.length : Int) != 16)) := by kernel_rfl

theorem ok31 : CSound Try.prog 84 s31 ∧ CLocal s31 :=
  sl_ok (L := L0) nil_sound Try.func84 (by kernel_rfl) (fun b hb => by
    have : loopsOf (bodyOf Try.f84) = [] := by kernel_rfl
    rw [this] at hb; cases hb) (fun xs hx => by
      refine (f31 xs.1).trans ?_
      rw [show (16 : Int) = ((16 : Nat) : Int) from rfl, ne8]
      by_cases h : List.length (α := Int) xs.1 = 16 <;> simp [h]) (fun xs hx => by
      refine (r31 xs.1).trans ?_
      rw [show (16 : Int) = ((16 : Nat) : Int) from rfl, ne8]
      show _ = wordI xs.1
      unfold wordI
      by_cases h : List.length (α := Int) xs.1 = 16
      · have : List.take (α := Int) 16 xs.1 = xs.1 := List.take_of_length_le (by omega)
        rw [decide_eq_true h, this]; rfl
      · rw [decide_eq_false h]; rfl)

abbrev pt (e : Nat) : Ty := .ptr e []
def S32 : LSpec := ⟨[0, 2, 4, 5], [2, 4], 22, [bs, pt 0, pt 1, i64], [.box t16, .box t16]⟩
noncomputable def b32 : Code := loopAt Try.f96 0
def F32 (xs : HL S32.Ts) (hs : HD S32.Es) : Tr (Ex × St) :=
  .chk (decide (List.length (α := Int) xs.1 = 16) && (decide (xs.2.2.2.1 = (0 : Int)) && decide (List.length (α := Int) hs.2.1 = 16))) (.ret (.exit 0, encS [2, 4] [pt 0, pt 1] S32.Es 22 ((), (), ()) (hs.1, xs.1, ())))
def L32 : Loops := fun j st => if j = 5 then S32.fn F32 st else .fail
theorem k32 (r : List Int) (x0 x1 x2 x3 x4 x5 x6 x7 x8 x9 xa xb xc xd xe xf y0 y1 y2 y3 y4 y5 y6 y7 y8 y9 ya yb yc yd ye yf : Int) :
    S32.many (bodyK Try.prog (ctx []) L0 b32) 17 ([x0, x1, x2, x3, x4, x5, x6, x7, x8, x9, xa, xb, xc, xd, xe, xf], (), (), (0 : Int), ()) (r, [y0, y1, y2, y3, y4, y5, y6, y7, y8, y9, ya, yb, yc, yd, ye, yf], ()) =
    some (.exit 0, encS [2, 4] [pt 0, pt 1] S32.Es 22 ((), (), ()) (r, [x0, x1, x2, x3, x4, x5, x6, x7, x8, x9, xa, xb, xc, xd, xe, xf], ())) := by kernel_rfl
theorem l32 : LoopOK Try.prog L32 b32 :=
  loop_ok (L := L32) (L' := L0) nil_sound (loopsOK_of (by kernel_rfl)) S32 (by kernel_rfl) (F := F32) (i := 5) (by kernel_rfl) (fun _ => rfl) fun xs hs r h => by
    obtain ⟨a, u1, u2, i, u⟩ := xs
    obtain ⟨r0, o, u3⟩ := hs
    obtain ⟨h1, h2⟩ := Tr.chk_some h
    have := Tr.ret_some h2
    simp only [Bool.and_eq_true, decide_eq_true_eq] at h1
    obtain ⟨e2, e4, e5⟩ := h1
    have e4 : i = (0 : Int) := e4
    subst e4
    obtain ⟨x0, x1, x2, x3, x4, x5, x6, x7, x8, x9, xa, xb, xc, xd, xe, xf, rfl⟩ := len16 e2
    obtain ⟨y0, y1, y2, y3, y4, y5, y6, y7, y8, y9, ya, yb, yc, yd, ye, yf, rfl⟩ := len16 e5
    exact ⟨17, (k32 ..).trans (congrArg some this)⟩
def s32 : CSpec := .sl [bs] [t16, i64] fun x => wordI x.1
theorem r32 (a : List Int) : (fnS Try.prog (ctx []) L32 [t16, i64] Try.f96 (mkArgs [bs] (a, ()))).fold [t16, i64] = bif ((a.length : Int) != 16) then (z16, 3, ()) else (a, 0, ()) := by kernel_rfl
theorem f32 (a : List Int) : (fnS Try.prog (ctx []) L32 [t16, i64] Try.f96 (mkArgs [bs] (a, ()))).fine [t16, i64] = ((decide (a.length = 16) && true) || ((a.length : Int) != 16)) := by kernel_rfl
theorem ok32 : CSound Try.prog 96 s32 ∧ CLocal s32 :=
  sl_ok (L := L32) nil_sound Try.func96 (by kernel_rfl) (fun b hb => by
    have : loopsOf (bodyOf Try.f96) = [b32] := by kernel_rfl
    rw [this] at hb
    rw [List.mem_singleton.1 hb]
    exact l32) (fun xs hx => by
      refine (f32 xs.1).trans ?_
      rw [show (16 : Int) = ((16 : Nat) : Int) from rfl, ne8]
      by_cases h : List.length (α := Int) xs.1 = 16 <;> simp [h]) (fun xs hx => by
      refine (r32 xs.1).trans ?_
      rw [show (16 : Int) = ((16 : Nat) : Int) from rfl, ne8]
      show _ = wordI xs.1
      unfold wordI
      cases decide (List.length (α := Int) xs.1 = 16) <;> rfl)

/-! numbers as bytes -/

def S34 : VSpec := ⟨⟨[0, 3, 4], [3], 18, [i64, .vc 0 1, i64], [.vec 1 u8]⟩, [3]⟩
noncomputable def b34 : Code := loopAt Try.f83 0
def byte1 (n : Int) (k : Int) : Int := wb (shrI .i64 n k)
def num1 (n : Int) : List Int := [byte1 n 56, byte1 n 48, byte1 n 40, byte1 n 32, byte1 n 24, byte1 n 16, byte1 n 8, byte1 n 0]
def F34 (xs : HL S34.Ts) (hs : HD S34.Es) : Tr (Ex × St) :=
  .chk (decide (xs.2.2.1 = (7 : Int)) && decide (List.length (α := Int) hs.1 = 0)) (.ret (.exit 0, encS [3] [.vc 0 1] [.vec 1 u8] 18 ((), ()) (num1 xs.1, ())))
def L34 : Loops := fun j st => if j = 3 then S34.fn F34 st else .fail
theorem k34 (n : Int) : S34.many (bodyK Try.prog (ctx []) L0 b34) 9 (n, (), (7 : Int), ()) (([] : List Int), ()) = some (.exit 0, encS [3] [.vc 0 1] [.vec 1 u8] 18 ((), ()) (num1 n, ())) := by kernel_rfl

end Go.Proofs.Ytffdkniccaebmaa.Fld

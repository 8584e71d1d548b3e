/- What the functions of layer 9 (field) give: numbers as bytes; names. -/
import Derived.Test.YtffdkniccaebmaaF2
set_option linter.unusedVariables false
set_option maxRecDepth 100000
namespace Go.Proofs.Ytffdkniccaebmaa.Fld
open Go Vse Go.Proofs

theorem l34 : LoopOK Try.prog L34 b34 :=
  vloop_ok (L := L34) (L' := L0) nil_sound (loopsOK_of (by kernel_rfl)) S34 (F := F34) (i := 3) (by kernel_rfl) (fun _ => rfl) fun xs hs r h => by
    obtain ⟨n, u1, i, u⟩ := xs
    obtain ⟨l, u2⟩ := hs
    obtain ⟨h1, h2⟩ := Tr.chk_some h
    have := Tr.ret_some h2
    simp only [Bool.and_eq_true, decide_eq_true_eq] at h1
    obtain ⟨e1, e2⟩ := h1
    have e1 : i = (7 : Int) := e1
    have e2 : l = [] := List.eq_nil_of_length_eq_zero e2
    subst e1; subst e2
    exact ⟨9, (k34 n).trans (congrArg some this)⟩
def s34 : CSpec := .sl1 [i64] bt fun x => num1 x.1
theorem ok34 : CSound Try.prog 83 s34 ∧ CLocal s34 :=
  sl_ok1 (L := L34) nil_sound Try.func83 (by kernel_rfl) (fun b hb => by
    have : loopsOf (bodyOf Try.f83) = [b34] := by kernel_rfl
    rw [this] at hb
    rw [List.mem_singleton.1 hb]
    exact l34) (fun xs hx => by kernel_rfl) (fun xs hx => by kernel_rfl)

def S35 : LSpec := ⟨[3, 4, 5], [4], 22, [u64, .vc 0 0, i64], [.vec 0 u8]⟩
noncomputable def b35 : Code := loopAt Try.f99 0
def dv (u : Int) : Int := wu (u.tdiv 256)
def lo (u : Int) : Int := wb (u.tmod 256)
def num2 (u : Int) : List Int := [lo (dv (dv (dv (dv (dv (dv (dv u))))))), lo (dv (dv (dv (dv (dv (dv u)))))), lo (dv (dv (dv (dv (dv u))))), lo (dv (dv (dv (dv u)))), lo (dv (dv (dv u))), lo (dv (dv u)), lo (dv u), lo u]
def F35 (xs : HL S35.Ts) (hs : HD S35.Es) : Tr (Ex × St) :=
  .chk (decide (xs.2.2.1 = (7 : Int)) && decide (List.length (α := Int) hs.1 = 8)) (.ret (.exit 0, encS [4] [.vc 0 0] [.vec 0 u8] 22 ((), ()) (num2 xs.1, ())))
def L35 : Loops := fun j st => if j = 4 then S35.fn F35 st else .fail
theorem k35 (n y0 y1 y2 y3 y4 y5 y6 y7 : Int) : S35.many (bodyK Try.prog (ctx []) L0 b35) 9 (n, (), (7 : Int), ()) ([y0, y1, y2, y3, y4, y5, y6, y7], ()) = some (.exit 0, encS [4] [.vc 0 0] [.vec 0 u8] 22 ((), ()) (num2 n, ())) := by kernel_rfl
theorem l35 : LoopOK Try.prog L35 b35 :=
  loop_ok (L := L35) (L' := L0) nil_sound (loopsOK_of (by kernel_rfl)) S35 (by kernel_rfl) (F := F35) (i := 4) (by kernel_rfl) (fun _ => rfl) fun xs hs r h => by
    obtain ⟨n, u1, i, u⟩ := xs
    obtain ⟨l, u2⟩ := hs
    obtain ⟨h1, h2⟩ := Tr.chk_some h
    have := Tr.ret_some h2
    simp only [Bool.and_eq_true, decide_eq_true_eq] at h1
    obtain ⟨e1, e2⟩ := h1
    have e1 : i = (7 : Int) := e1
    subst e1
    obtain ⟨x0, x1, x2, x3, x4, x5, x6, x7, rfl⟩ := len8 e2
    exact ⟨9, (k35 ..).trans (congrArg some this)⟩
def s35 : CSpec := .sl1 [i64] bt fun x => num2 (wu x.1)
theorem ok35 : CSound Try.prog 99 s35 ∧ CLocal s35 :=
  sl_ok1 (L := L35) nil_sound Try.func99 (by kernel_rfl) (fun b hb => by
    have : loopsOf (bodyOf Try.f99) = [b35] := by kernel_rfl
    rw [this] at hb
    rw [List.mem_singleton.1 hb]
    exact l35) (fun xs hx => by kernel_rfl) (fun xs hx => by kernel_rfl)

/-! names -/

/-- may a byte not stand in a name? -/
def badC (c : Int) : Bool := bif (bif decide (c < 97) then true else decide (c > 122)) then (bif decide (c < 48) then true else decide (c > 57)) else false
def S36 : LSpec := ⟨[0, 6, 7, 8], [0, 2], 34, [.str, .imm true true u8, i64, i64], []⟩
noncomputable def b36 : Code := loopAt Try.f85 0
def G36 (xs : HL S36.Ts) (hs : HD S36.Es) : Tr S36.End :=
  let a := xs.2.1
  let i := xs.2.2.2.1
  let c := List.getD (α := Int) a i.toNat 0
  let B : Tr S36.End := .ret (.inr (.ret, encS [0, 2] [.str, .bool] [] 34 (xs.1, false, ()) ()))
  let N : Tr S36.End := .ret (.inl ((xs.1, a, xs.2.2.1, w (i + 1), ()), ()))
  let X : Tr S36.End := .ite (decide (c < 48)) B (.ite (decide (c > 57)) B N)
  .ite (decide (i < xs.2.2.1)) (.chk (inArr i (List.length (α := Int) a)) (.ite (decide (c < 97)) X (.ite (decide (c > 122)) X N)))
    (.ret (.inr (.exit 0, encS [0] [.str] [] 34 (xs.1, ()) ())))
theorem r36 (s : ByteArray) (a : List Int) (n i : Int) : (S36.round (bodyK Try.prog (ctx []) L0 b36) (s, a, n, i, ()) ()).eval = (G36 (s, a, n, i, ()) ()).eval := by kernel_rfl

def okN (a : List Int) : Bool := a.all fun c => !badC c
def F36 (xs : HL S36.Ts) (hs : HD S36.Es) : Tr (Ex × St) :=
  .chk (decide (xs.2.2.2.1 = (0 : Int)) && (decide (xs.2.2.1 = (List.length (α := Int) xs.2.1 : Int)) && decide (List.length (α := Int) xs.2.1 ≤ 9223372036854775807)))
    (.ite (okN xs.2.1) (.ret (.exit 0, encS [0] [.str] [] 34 (xs.1, ()) ())) (.ret (.ret, encS [0, 2] [.str, .bool] [] 34 (xs.1, false, ()) ())))
noncomputable def L36 : Loops := fun j st => if j = 2 then S36.fn F36 st else .fail

theorem g36 (s : ByteArray) (a : List Int) (k : Nat) (hk : k < a.length) : (G36 (s, a, (a.length : Int), (k : Int), ()) ()).eval =
    bif badC a[k] then some (.inr (.ret, encS [0, 2] [.str, .bool] [] 34 (s, false, ()) ())) else some (.inl ((s, a, (a.length : Int), w ((k : Int) + 1), ()), ())) := by
  have i1 : inArr (k : Int) (List.length (α := Int) a) = true := by simp [inArr]; omega
  have g1 : List.getD (α := Int) a k 0 = a[k] := by rw [List.getD_eq_getElem?_getD, List.getElem?_eq_getElem hk]; rfl
  simp only [G36, Tr.eval, Tr.chk, decide_eq_true (show ((k : Int) < (a.length : Int)) by omega), i1, Int.toNat_natCast, g1, badC]
  cases decide (a[k] < 97) <;> cases decide (a[k] > 122) <;> cases decide (a[k] < 48) <;> cases decide (a[k] > 57) <;> rfl

theorem k36 (s : ByteArray) (a : List Int) (hm : a.length ≤ 9223372036854775807) : ∀ (m k : Nat), k + m = a.length → S36.many (bodyK Try.prog (ctx []) L0 b36) (m + 1) (s, a, (a.length : Int), (k : Int), ()) () =
    bif okN (a.drop k) then some (.exit 0, encS [0] [.str] [] 34 (s, ()) ()) else some (.ret, encS [0, 2] [.str, .bool] [] 34 (s, false, ()) ())
  | 0, k, h => by
    have e1 : a.drop k = [] := List.drop_eq_nil_of_le (by omega)
    rw [e1]
    refine many_inr ((r36 s a _ k).trans ?_) 0
    simp only [G36, Tr.eval, decide_eq_false (show ¬ ((k : Int) < (a.length : Int)) by omega)]
  | m + 1, k, h => by
    have h1 : k < a.length := by omega
    rw [List.drop_eq_getElem_cons h1]
    simp only [okN, List.all_cons]
    have hg := (r36 s a (a.length : Int) k).trans (g36 s a k h1)
    cases hb : badC a[k] with
    | true =>
      rw [hb] at hg
      exact many_inr hg (m + 1)
    | false =>
      rw [hb] at hg
      refine (many_inl hg (m + 1)).trans ?_
      rw [w_id (by omega) (by omega)]
      have := k36 s a hm m (k + 1) (by omega)
      simpa [okN] using this

theorem l36 : LoopOK Try.prog L36 b36 :=
  loop_ok (L := L36) (L' := L0) nil_sound (loopsOK_of (by kernel_rfl)) S36 (by kernel_rfl) (F := F36) (i := 2) (by kernel_rfl) (fun _ => rfl) fun xs hs r h => by
    obtain ⟨s, a, n, i, u⟩ := xs
    obtain ⟨h1, h2⟩ := Tr.chk_some h
    simp only [Bool.and_eq_true, decide_eq_true_eq] at h1
    obtain ⟨e1, e2, e3⟩ := h1
    have e1 : i = ((0 : Nat) : Int) := e1
    have e2 : n = (List.length (α := Int) a : Int) := e2
    subst e1; subst e2
    refine ⟨_, (k36 s a e3 (List.length (α := Int) a) 0 (by omega)).trans ?_⟩
    simp only [List.drop_zero]
    rcases Tr.ite_some h2 with ⟨hd, h2⟩ | ⟨hd, h2⟩
    · have hd : okN a = true := hd
      rw [hd, ← Tr.ret_some h2]; rfl
    · have hd : okN a = false := hd
      rw [hd, ← Tr.ret_some h2]; rfl

def nameI (s : ByteArray) : Bool := okN (strBytes s) && (decide (1 ≤ s.size) && decide (s.size ≤ 20))
def s36 : CSpec := .sl1 [.str] .bool fun x => nameI x.1
theorem r36f (s : ByteArray) : (fnS Try.prog (ctx []) L36 [.bool] Try.f85 (mkArgs [.str] (s, ()))).fold1 .bool =
    bif okN (strBytes s) then (bif (s != ByteArray.empty) then decide ((s.size : Int) ≤ 20) else false) else false := by kernel_rfl
theorem f36f (s : ByteArray) : (fnS Try.prog (ctx []) L36 [.bool] Try.f85 (mkArgs [.str] (s, ()))).fine [.bool] =
    (decide (((strBytes s).length : Int) = ((strBytes s).length : Int)) && decide ((strBytes s).length ≤ 9223372036854775807)) := by kernel_rfl

/-! bartizanref09.Name -/

def S37 : LSpec := ⟨[0, 3], [0, 2], 42, [.str, i64], []⟩
noncomputable def b37 : Code := loopAt Try.f100 0
def G37 (xs : HL S37.Ts) (hs : HD S37.Es) : Tr S37.End :=
  let s : ByteArray := xs.1
  let i := xs.2.1
  let c : Int := ((s.data.getD i.toNat 0).toNat : Int)
  let B : Tr S37.End := .ret (.inr (.ret, encS [0, 2] [.str, .bool] [] 42 (s, false, ()) ()))
  let N : Tr S37.End := .ret (.inl ((s, w (i + 1), ()), ()))
  let D : Tr S37.End := .chk (inArr i s.size) (.ite (decide (c ≥ 48)) (.chk (inArr i s.size) (.ite (!decide (c ≤ 57)) B N)) B)
  .ite (decide (i < (s.size : Int))) (.chk (inArr i s.size) (.ite (decide (c ≥ 97)) (.chk (inArr i s.size) (.ite (!decide (c ≤ 122)) D N)) D))
    (.ret (.inr (.exit 0, encS [0] [.str] [] 42 (s, ()) ())))
theorem r37 (s : ByteArray) (i : Int) : (S37.round (bodyK Try.prog (ctx []) L0 b37) (s, i, ()) ()).eval = (G37 (s, i, ()) ()).eval := by kernel_rfl

end Go.Proofs.Ytffdkniccaebmaa.Fld

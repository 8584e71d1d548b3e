/- New stores, sizes, and the law's own trial (layer 13). -/
import Derived.Test.YtodjkocikflmnaaB2
import Derived.Test.YtodjkocikflmnaaE40
set_option linter.unusedVariables false
set_option maxRecDepth 100000
namespace Go.Proofs.Ytodjkocikflmnaa.Sto
open Go Vse Go.Proofs Fld

/-! New -/

def okRoom (n : Int) : Bool := decide (0 ≤ n) && decide (n ≤ 1048576)
abbrev nA : PSpec := ⟨[i64], [.ptr 0 [], i64], [], sE 0, [(0, 0, u8)]⟩
abbrev nB : PSpec := ⟨[i64], [.nilp, i64], [], [], []⟩
def newF (n : Int) : (Unit × Int × Unit) × D := (((), 0, ()), mk [] 0 n (-1) false)
def newS : CSpec := .two (posSel nA fun xs _ => okRoom xs.1) (.pos nA (fun xs _ => okRoom xs.1) fun xs _ => newF xs.1) (.pos nB (fun xs _ => !okRoom xs.1) fun xs _ => (((), 1, ()), ()))

theorem k15a (n : Int) : (fnP Try.prog (ctx []) L0 nA Try.f15 (n, ()) ()).eval = (Tr.ite (decide (n < 0)) .fail (.ite (decide (n > 1048576)) .fail (.ret (newF n)))).eval := by kernel_rfl
theorem k15b (n : Int) : (fnP Try.prog (ctx []) L0 nB Try.f15 (n, ()) ()).eval = (Tr.ite (decide (n < 0)) (.ret (((), (1 : Int), ()), ())) (.ite (decide (n > 1048576)) (.ret (((), (1 : Int), ()), ())) .fail)).eval := by kernel_rfl
theorem k16a (n : Int) : (fnP Try.prog (ctx []) L0 nA Try.f16 (n, ()) ()).eval = (Tr.ite (decide (n < 0)) .fail (.ite (decide (n > 1048576)) .fail (.ret (newF n)))).eval := by kernel_rfl
theorem k16b (n : Int) : (fnP Try.prog (ctx []) L0 nB Try.f16 (n, ()) ()).eval = (Tr.ite (decide (n < 0)) (.ret (((), (1 : Int), ()), ())) (.ite (decide (n > 1048576)) (.ret (((), (1 : Int), ()), ())) .fail)).eval := by kernel_rfl

theorem newA {α : Type} {n : Int} (h : okRoom n = true) (r : α) : (Tr.ite (decide (n < 0)) .fail (.ite (decide (n > 1048576)) .fail (.ret r))).eval = some r := by
  simp only [okRoom, Bool.and_eq_true, decide_eq_true_eq] at h
  simp only [Tr.eval, decide_eq_false (show ¬ n < 0 by omega), decide_eq_false (show ¬ n > 1048576 by omega)]
theorem newB {α : Type} {n : Int} (h : (!okRoom n) = true) (r : α) : (Tr.ite (decide (n < 0)) (.ret r) (.ite (decide (n > 1048576)) (.ret r) .fail)).eval = some r := by
  simp only [okRoom, Bool.not_eq_true', Bool.and_eq_false_iff, decide_eq_false_iff_not] at h
  by_cases h0 : n < 0
  · simp [Tr.eval, h0]
  · simp [Tr.eval, h0, show n > 1048576 by omega]
theorem ok15 : CSound Try.prog 15 newS ∧ CLocal newS :=
  two_sound _ rfl rfl (pos_sound nil_sound Try.func15 (by kernel_rfl) (noL (by kernel_rfl)) fun xs hs _ _ hp => (k15a xs.1).trans (newA hp _))
    (pos_sound nil_sound Try.func15 (by kernel_rfl) (noL (by kernel_rfl)) fun xs hs _ _ hp => (k15b xs.1).trans (newB hp _))
theorem ok16 : CSound Try.prog 16 newS ∧ CLocal newS :=
  two_sound _ rfl rfl (pos_sound nil_sound Try.func16 (by kernel_rfl) (noL (by kernel_rfl)) fun xs hs _ _ hp => (k16a xs.1).trans (newA hp _))
    (pos_sound nil_sound Try.func16 (by kernel_rfl) (noL (by kernel_rfl)) fun xs hs _ _ hp => (k16b xs.1).trans (newB hp _))

/-! sizes -/

abbrev ob : Ty := .imm false false opT
def S14 : LSpec := ⟨[0, 3, 4], [3], 25, [ob, i64, i64], []⟩
noncomputable def b14 : Code := loopAt Try.f14 0
abbrev x0 : Ox := ((0 : Int), (0 : Int), ([] : List Int), ())
def G14 (l : List Ox) (n i : Int) : Tr S14.End :=
  let out : Tr S14.End := .ret (.inr (.exit 0, encS [3] [i64] [] 25 (n, ()) ()))
  .ite (decide (i < (l.length : Int))) (.ite (decide (n < 100000)) (.chk (inArr i l.length) (.ret (.inl ((l, w (w (n + ((l.getD i.toNat x0).2.2.1.length : Int)) + 1), w (i + 1), ()), ())))) out) out
theorem r14 (l : List Ox) (n i : Int) : (S14.round (bodyK Try.prog (ctx []) L0 b14) (l, n, i, ()) ()).eval = (G14 l n i).eval := by kernel_rfl

/-- the size that is told -/
def szL : List Ox → Int → Int
  | [], n => n
  | x :: l, n => if n < 100000 then szL l (w (w (n + (x.2.2.1.length : Int)) + 1)) else n

def shortO (l : List Ox) : Bool := l.all fun x => decide (x.2.2.1.length ≤ 140737488355328)
def F14 (xs : HL S14.Ts) (hs : HD S14.Es) : Tr (Ex × St) :=
  .chk (decide (xs.2.1 = (0 : Int)) && (decide (xs.2.2.1 = (0 : Int)) && decide (List.length (α := Ox) xs.1 ≤ 9223372036854775807))) (.ret (.exit 0, encS [3] [i64] [] 25 (szL xs.1 0, ()) ()))
def L14 : Loops := fun j st => if j = 3 then S14.fn F14 st else .fail

theorem many14 (l : List Ox) (hl : l.length ≤ 9223372036854775807) : ∀ (m k : Nat) (n : Int), k + m = l.length → S14.many (bodyK Try.prog (ctx []) L0 b14) (m + 1) (l, n, (k : Int), ()) () = some (.exit 0, encS [3] [i64] [] 25 (szL (l.drop k) n, ()) ())
  | 0, k, n, h => by
    rw [List.drop_eq_nil_of_le (by omega)]
    refine many_inr ((r14 l n k).trans ?_) 0
    simp only [G14, Tr.eval, decide_eq_false (show ¬ ((k : Int) < (l.length : Int)) by omega)]
    rfl
  | m + 1, k, n, h => by
    have h1 : k < l.length := by omega
    have i1 : inArr (k : Int) l.length = true := by simp [inArr]; omega
    have g1 : l.getD k x0 = l[k] := by rw [List.getD_eq_getElem?_getD, List.getElem?_eq_getElem h1]; rfl
    rw [List.drop_eq_getElem_cons h1]
    by_cases hn : n < 100000
    · refine (many_inl (d := ((l, w (w (n + (l[k].2.2.1.length : Int)) + 1), ((k + 1 : Nat) : Int), ()), ())) ((r14 l n k).trans ?_) (m + 1)).trans ((many14 l hl m (k + 1) _ (by omega)).trans ?_)
      · simp only [G14, Tr.eval, Tr.chk, decide_eq_true (show ((k : Int) < (l.length : Int)) by omega), decide_eq_true hn, i1, Int.toNat_natCast, g1]
        rw [w_id (x := (k : Int) + 1) (by omega) (by omega)]
        rfl
      · simp only [szL, if_pos hn]
    · refine many_inr ((r14 l n k).trans ?_) (m + 1)
      simp only [G14, Tr.eval, decide_eq_true (show ((k : Int) < (l.length : Int)) by omega), decide_eq_false hn]
      simp only [szL, if_neg hn]

theorem l14 : LoopOK Try.prog L14 b14 :=
  loop_ok (L := L14) (L' := L0) nil_sound (loopsOK_of (by kernel_rfl)) S14 (by kernel_rfl) (F := F14) (i := 3) (by kernel_rfl) (fun _ => rfl) fun xs hs r h => by
    obtain ⟨l, n, i, u⟩ := xs
    obtain ⟨h1, h2⟩ := Tr.chk_some h
    simp only [Bool.and_eq_true, decide_eq_true_eq] at h1
    obtain ⟨e1, e2, e3⟩ := h1
    have e1 : n = (0 : Int) := e1
    have e2 : i = ((0 : Nat) : Int) := e2
    subst e1; subst e2
    refine ⟨_, (many14 l e3 (List.length (α := Ox) l) 0 0 (by omega)).trans ?_⟩
    exact congrArg some (Tr.ret_some h2)

def s14 : CSpec := .sl1 [ob] i64 fun x => szL x.1 0
theorem r14f (l : List Ox) : (fnS Try.prog (ctx []) L14 [i64] Try.f14 (mkArgs [ob] (l, ()))).fold1 i64 = szL l 0 := by kernel_rfl
theorem f14f (l : List Ox) : (fnS Try.prog (ctx []) L14 [i64] Try.f14 (mkArgs [ob] (l, ()))).fine [i64] = decide (l.length ≤ 9223372036854775807) := by kernel_rfl
theorem ok14 : CSound Try.prog 14 s14 ∧ CLocal s14 :=
  sl_ok1 (L := L14) nil_sound Try.func14 (by kernel_rfl) (fun b hb => by
    have : loopsOf (bodyOf Try.f14) = [b14] := by kernel_rfl
    rw [this] at hb
    rw [List.mem_singleton.1 hb]
    exact l14) (fun xs hx => by
      obtain ⟨l, u⟩ := xs
      have hl : List.length (α := Ox) l ≤ 9223372036854775807 := hx.1.1
      refine (f14f l).trans ?_
      simp [hl]) (fun xs hx => r14f xs.1)

/-! the law's own trial -/

def cA : List (Nat × CSpec) := [(15, newS), (48, s48), (49, s49), (21, s21), (20, s20), (22, s22), (50, s50)]
theorem cA_sound : CtxSound Try.prog (ctx cA) ∧ CtxLocal (ctx cA) := ctx_sound ⟨ok15, ok48, ok49, ok21, ok20, ok22, ok50, trivial⟩
def s13 : CSpec := .sl1 [] .bool fun _ => true
theorem ok13 : CSound Try.prog 13 s13 ∧ CLocal s13 :=
  sl_ok1 (L := L0) cA_sound Try.func13 (by kernel_rfl) (noL (by kernel_rfl)) (fun xs _ => by kernel_rfl) (fun xs _ => by kernel_rfl)

end Go.Proofs.Ytodjkocikflmnaa.Sto

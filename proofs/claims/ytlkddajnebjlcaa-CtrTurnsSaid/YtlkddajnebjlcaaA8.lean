/- What the functions of layer 3 (aes) give: a box, the sum of two blocks. -/
import Derived.Test.YtlkddajnebjlcaaA6
set_option linter.unusedVariables false
set_option maxRecDepth 1000000
namespace Go.Proofs.Ytlkddajnebjlcaa.Aes
open Go Vse Go.Proofs

def C2 : List (Nat × CSpec) := (62, s59) :: C1
theorem C2_sound : CtxSound Try.prog (ctx C2) ∧ CtxLocal (ctx C2) := ctx_sound ⟨ok59, ok40, ok41, ok39, ok61, trivial⟩

def boxI (b : Int) : Int := boxL.getD b.toNat 0
def s42 : CSpec := .fn1 [u8] u8 fun x => boxI x.1

/-! bartizanref03.xored -/

def S62 : LSpec := ⟨[2, 3, 4, 5], [2, 4], 20, [pt 0, pt 1, pt 2, i64], [.box t16, .box t16, .box t16]⟩
noncomputable def b62 : Code := loopAt Try.f60 0
def xorAt (a b : List Int) (i : Nat) : List Int := a.set i (xorI .u8 (a.getD i 0) (b.getD i 0))
theorem r62 (i : Int) (a b o : List Int) : (S62.round (bodyK Try.prog (ctx []) L0 b62) ((), (), (), i, ()) (a, b, o, ())).eval =
    bif decide (i < 16) then (bif inArr i 16 then some (.inl (((), (), (), w (i + 1), ()), (xorAt a b i.toNat, b, o, ()))) else none)
    else some (.inr (.exit 0, encS [2, 4] [pt 0, pt 2] S62.Es 20 ((), (), ()) (a, b, o, ()))) := by
  have e : (S62.round (bodyK Try.prog (ctx []) L0 b62) ((), (), (), i, ()) (a, b, o, ())).eval =
    bif decide (i < 16) then (bif inArr i 16 then (bif inArr i 16 then (bif inArr i 16 then some (.inl (((), (), (), w (i + 1), ()), (xorAt a b i.toNat, b, o, ()))) else none) else none) else none)
    else some (.inr (.exit 0, encS [2, 4] [pt 0, pt 2] S62.Es 20 ((), (), ()) (a, b, o, ()))) := by kernel_rfl
  rw [e]
  cases decide (i < 16) <;> cases inArr i 16 <;> rfl

/-- the first k sums, behind them what was there -/
def lX (a b : List Int) (k : Nat) : List Int := (List.range 16).map fun j => if j < k then xorI .u8 (a.getD j 0) (b.getD j 0) else a.getD j 0

theorem lX_set {a b : List Int} {k : Nat} (h : k < 16) : xorAt (lX a b k) b k = lX a b (k + 1) := by
  unfold xorAt
  have hk : (lX a b k).getD k 0 = a.getD k 0 := by
    unfold lX
    rw [List.getD_eq_getElem?_getD, List.getElem?_map, List.getElem?_range h]
    simp
  rw [hk]
  unfold lX
  apply List.ext_getElem
  · simp
  · intro j h1 h2
    simp only [List.getElem_set, List.getElem_map, List.getElem_range]
    by_cases hj : k = j
    · subst hj; simp
    · simp only [if_neg hj]
      by_cases hlt : j < k
      · simp [hlt, Nat.lt_succ_of_lt hlt]
      · simp [hlt, show ¬ j < k + 1 by omega]

theorem lX_begin {a b : List Int} (h : a.length = 16) : lX a b 0 = a := by
  unfold lX
  apply List.ext_getElem
  · simp [h]
  · intro j h1 h2
    simp [List.getD_eq_getElem?_getD, List.getElem?_eq_getElem h2]

def xorF (a b : List Int) : List Int := lX a b 16

theorem k62 (a b o : List Int) : ∀ (m k : Nat), k + m = 16 → S62.many (bodyK Try.prog (ctx []) L0 b62) (m + 1) ((), (), (), (k : Int), ()) (lX a b k, b, o, ()) =
    some (.exit 0, encS [2, 4] [pt 0, pt 2] S62.Es 20 ((), (), ()) (xorF a b, b, o, ()))
  | 0, k, h => by
    refine many_inr ?_ 0
    rw [r62, decide_eq_false (by omega), show k = 16 by omega]
    rfl
  | m + 1, k, h => by
    refine (many_inl (d := (((), (), (), ((k + 1 : Nat) : Int), ()), (lX a b (k + 1), b, o, ()))) ?_ (m + 1)).trans (k62 a b o m (k + 1) (by omega))
    rw [r62, decide_eq_true (by omega), show inArr (k : Int) 16 = true by simp [inArr]; omega]
    simp only [cond_true]
    rw [w_id (by omega) (by omega), show ((k : Int)).toNat = k by omega, lX_set (by omega)]
    rfl

def F62 (xs : HL S62.Ts) (hs : HD S62.Es) : Tr (Ex × St) :=
  .chk (decide (xs.2.2.2.1 = (0 : Int)) && decide ((hs.1 : List Int).length = 16)) (.ret (.exit 0, encS [2, 4] [pt 0, pt 2] S62.Es 20 ((), (), ()) (xorF hs.1 hs.2.1, hs.2.1, hs.2.2.1, ())))
def L62 : Loops := fun j st => if j = 2 then S62.fn F62 st else .fail

theorem l62 : LoopOK Try.prog L62 b62 :=
  loop_ok (L := L62) (L' := L0) nil_sound (loopsOK_of (by kernel_rfl)) S62 (by kernel_rfl) (F := F62) (i := 2) (by kernel_rfl) (fun _ => rfl) fun xs hs r h => by
    obtain ⟨u0, u1, u2, i, u⟩ := xs
    obtain ⟨a, b, o, u3⟩ := hs
    obtain ⟨h1, h2⟩ := Tr.chk_some h
    have := Tr.ret_some h2
    simp only [Bool.and_eq_true, decide_eq_true_eq] at h1
    obtain ⟨e1, e2⟩ := h1
    have e1 : i = ((0 : Nat) : Int) := e1
    subst e1
    have e3 : lX a b 0 = a := lX_begin e2
    have := (k62 a b o 16 0 rfl).trans (congrArg some this)
    rw [e3] at this
    exact ⟨_, this⟩

def s62 : CSpec := .fn1 [t16, t16] t16 fun x => xorF x.1 x.2.1

theorem fine62 (a b : List Int) : (fnK Try.prog (ctx []) L62 Try.f60 (mkArgs [t16, t16] (a, b, ())) []).fine [t16] = (decide ((0 : Int) = 0) && decide (a.length = 16)) := by kernel_rfl

theorem ok62 : CSound Try.prog 60 s62 ∧ CLocal s62 :=
  fn_okL (L := L62) nil_sound Try.func60 (by kernel_rfl) (fun b hb => by
    have : loopsOf (bodyOf Try.f60) = [b62] := by kernel_rfl
    rw [this] at hb
    rw [List.mem_singleton.1 hb]
    exact l62) (fun xs hx => by
      obtain ⟨a, b, u⟩ := xs
      refine (fine62 a b).trans ?_
      rw [decide_eq_true (show a.length = 16 from hx.1.1)]
      rfl) (fun xs _ => by kernel_rfl)

end Go.Proofs.Ytlkddajnebjlcaa.Aes

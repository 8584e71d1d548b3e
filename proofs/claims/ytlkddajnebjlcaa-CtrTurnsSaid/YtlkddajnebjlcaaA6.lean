/- What the functions of layer 3 (aes) give: boxes, summed up. -/
import Derived.Test.YtlkddajnebjlcaaA5
set_option linter.unusedVariables false
set_option maxRecDepth 1000000
namespace Go.Proofs.Ytlkddajnebjlcaa.Aes
open Go Vse Go.Proofs

theorem l59i : LoopOK Try.prog L59i b59i :=
  loop_ok (L := L59i) (L' := L0) C1_sound (loopsOK_of (by kernel_rfl)) S59i (by kernel_rfl) (F := F59i) (i := 17) (by kernel_rfl) (fun _ => rfl) fun xs hs r h => by
    obtain ⟨u0, u1, u2, p, q, n, l, j, i, u⟩ := xs
    obtain ⟨h1, h2⟩ := Tr.chk_some h
    have := Tr.ret_some h2
    have hi : i = (0 : Int) := of_decide_eq_true h1
    subst hi
    exact ⟨_, (k59i p q n j l hs).trans (congrArg some this)⟩

def F59b (xs : HL S59b.Ts) (hs : HD S59b.Es) : Tr (Ex × St) :=
  .chk (decide (xs.2.2.2.1 = powL) && (decide (xs.2.2.2.2.1 = (0 : Int)) && (decide (hs.2.1 = powL) && decide (hs.2.2.1 = (List.replicate 256 (0 : Int)).set 0 99))))
    (.ret (.exit 2, encS [0, 4] [pt 0, pt 2] S59b.Es 47 ((), (), ()) (hs.1, powL, boxL, ())))

def L59 : Loops := fun j st => if j = 4 then S59a.fn F59a st else if j = 12 then S59b.fn F59b st else .fail

theorem l59a : LoopOK Try.prog L59 b59a :=
  loop_ok (L := L59) (L' := L0) C1_sound (loopsOK_of (by kernel_rfl)) S59a (by kernel_rfl) (F := F59a) (i := 4) (by kernel_rfl) (fun _ => rfl) fun xs hs r h => by
    obtain ⟨u0, u1, p, i, u⟩ := xs
    obtain ⟨o, l, u2⟩ := hs
    obtain ⟨h1, h2⟩ := Tr.chk_some h
    have := Tr.ret_some h2
    simp only [Bool.and_eq_true, decide_eq_true_eq] at h1
    obtain ⟨e1, e2, e3⟩ := h1
    have e1 : p = powE 0 := e1
    have e2 : i = ((0 : Nat) : Int) := e2
    have e3 : l = lA 0 := e3.trans lA_begin.symm
    subst e1; subst e2; subst e3
    exact ⟨_, (k59a o 255 0 rfl).trans (congrArg some this)⟩

theorem l59b : LoopOK Try.prog L59 b59b :=
  loop_ok (L := L59) (L' := L59i) C1_sound (loopsOK_all (fun b hb => by
    have : loopsOf b59b = [b59i] := by kernel_rfl
    rw [this] at hb
    rw [List.mem_singleton.1 hb]
    exact l59i)) S59b (by kernel_rfl) (F := F59b) (i := 12) (by kernel_rfl) (fun _ => rfl) fun xs hs r h => by
    obtain ⟨u0, u1, u2, l, i, u⟩ := xs
    obtain ⟨o, l2, z, u3⟩ := hs
    obtain ⟨h1, h2⟩ := Tr.chk_some h
    have := Tr.ret_some h2
    simp only [Bool.and_eq_true, decide_eq_true_eq] at h1
    obtain ⟨e1, e2, e3, e4⟩ := h1
    have e1 : l = powL := e1
    have e2 : i = (0 : Int) := e2
    have e3 : l2 = powL := e3
    have e4 : z = (List.replicate 256 (0 : Int)).set 0 99 := e4
    subst e1; subst e2; subst e3; subst e4
    exact ⟨_, (k59b o).trans (congrArg some this)⟩

def s59 : CSpec := .fn1 [] t256 fun _ => boxL
theorem ok59 : CSound Try.prog 62 s59 ∧ CLocal s59 :=
  fn_okL (L := L59) C1_sound Try.func62 (by kernel_rfl) (fun b hb => by
    have : loopsOf (bodyOf Try.f62) = [b59a, b59b] := by kernel_rfl
    rw [this] at hb
    simp only [List.mem_cons, List.not_mem_nil, or_false] at hb
    rcases hb with rfl | rfl
    · exact l59a
    · exact l59b) (fun xs _ => by kernel_rfl) (fun xs _ => by kernel_rfl)

end Go.Proofs.Ytlkddajnebjlcaa.Aes

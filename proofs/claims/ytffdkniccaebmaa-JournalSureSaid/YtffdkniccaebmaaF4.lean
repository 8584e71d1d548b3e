/- What the functions of layer 9 (field) give: names, summed up; lists of bytes. -/
import Derived.Test.YtffdkniccaebmaaF3
set_option linter.unusedVariables false
set_option maxRecDepth 100000
namespace Go.Proofs.Ytffdkniccaebmaa.Fld
open Go Vse Go.Proofs

theorem strBytes_length (s : ByteArray) : (strBytes s).length = s.size := by simp [strBytes]
theorem strBytes_get (s : ByteArray) {k : Nat} (h : k < s.size) : (strBytes s)[k]'(by rw [strBytes_length]; exact h) = ((s.data.getD k 0).toNat : Int) := by
  have h' : k < s.data.size := h
  simp [strBytes, Array.getD_eq_getD_getElem?, Array.getElem?_eq_getElem h']

theorem name_size (s : ByteArray) : (s != ByteArray.empty) = decide (1 ≤ s.size) := by
  by_cases h : s.size = 0
  · have : s = ByteArray.empty := by
      apply ByteArray.ext
      exact Array.eq_empty_of_size_eq_zero h
    subst this; rfl
  · have hne : s ≠ ByteArray.empty := by rintro rfl; exact h rfl
    have h1 : 1 ≤ s.size := by omega
    rw [decide_eq_true h1]
    cases hb : (s != ByteArray.empty) with
    | true => rfl
    | false =>
      exfalso
      have hb : (s == ByteArray.empty) = true := by simpa [bne] using hb
      rw [beq_toListBytes, ByteArray.toList_eq, ByteArray.toList_eq] at hb
      have hb := eq_of_beq hb
      have h2 : s.data.toList.length = 0 := by rw [hb]; rfl
      exact h (by simpa using h2)

theorem ok36 : CSound Try.prog 85 s36 ∧ CLocal s36 :=
  sl_ok1 (L := L36) nil_sound Try.func85 (by kernel_rfl) (fun b hb => by
    have : loopsOf (bodyOf Try.f85) = [b36] := by kernel_rfl
    rw [this] at hb
    rw [List.mem_singleton.1 hb]
    exact l36) (fun xs hx => by
      refine (f36f xs.1).trans ?_
      have h1 : ByteArray.size xs.1 ≤ 9223372036854775807 := hx.1
      have h2 := strBytes_length xs.1
      simp only [decide_true, Bool.true_and, decide_eq_true_eq]
      omega) (fun xs hx => by
      refine (r36f xs.1).trans ?_
      show _ = nameI xs.1
      unfold nameI
      rw [name_size]
      have : decide ((ByteArray.size xs.1 : Int) ≤ 20) = decide (ByteArray.size xs.1 ≤ 20) := decide_eq_decide.2 (by omega)
      rw [this]
      cases okN (strBytes xs.1) <;> cases decide (1 ≤ ByteArray.size xs.1) <;> rfl)

def F37 (xs : HL S37.Ts) (hs : HD S37.Es) : Tr (Ex × St) :=
  .chk (decide (xs.2.1 = (0 : Int)) && decide (ByteArray.size xs.1 ≤ 9223372036854775807))
    (.ite (okN (strBytes xs.1)) (.ret (.exit 0, encS [0] [.str] [] 42 (xs.1, ()) ())) (.ret (.ret, encS [0, 2] [.str, .bool] [] 42 (xs.1, false, ()) ())))
noncomputable def L37 : Loops := fun j st => if j = 2 then S37.fn F37 st else .fail

theorem g37 (s : ByteArray) (k : Nat) (hk : k < s.size) (c : Int) (hc : ((s.data.getD k 0).toNat : Int) = c) : (G37 (s, (k : Int), ()) ()).eval =
    bif badC c then some (.inr (.ret, encS [0, 2] [.str, .bool] [] 42 (s, false, ()) ())) else some (.inl ((s, w ((k : Int) + 1), ()), ())) := by
  have i1 : inArr (k : Int) s.size = true := by simp [inArr]; omega
  simp only [G37, Tr.eval, Tr.chk, decide_eq_true (show ((k : Int) < (s.size : Int)) by omega), i1, Int.toNat_natCast, hc, badC]
  have e1 : decide (c ≥ 97) = !decide (c < 97) := by by_cases h : c < 97 <;> simp [h] <;> omega
  have e2 : decide (c ≤ 122) = !decide (c > 122) := by by_cases h : c > 122 <;> simp [h] <;> omega
  have e3 : decide (c ≥ 48) = !decide (c < 48) := by by_cases h : c < 48 <;> simp [h] <;> omega
  have e4 : decide (c ≤ 57) = !decide (c > 57) := by by_cases h : c > 57 <;> simp [h] <;> omega
  rw [e1, e2, e3, e4]
  cases decide (c < 97) <;> cases decide (c > 122) <;> cases decide (c < 48) <;> cases decide (c > 57) <;> rfl

theorem k37 (s : ByteArray) (hm : s.size ≤ 9223372036854775807) : ∀ (m k : Nat), k + m = s.size → S37.many (bodyK Try.prog (ctx []) L0 b37) (m + 1) (s, (k : Int), ()) () =
    bif okN ((strBytes s).drop k) then some (.exit 0, encS [0] [.str] [] 42 (s, ()) ()) else some (.ret, encS [0, 2] [.str, .bool] [] 42 (s, false, ()) ())
  | 0, k, h => by
    have e1 : (strBytes s).drop k = [] := List.drop_eq_nil_of_le (by rw [strBytes_length]; omega)
    rw [e1]
    refine many_inr ((r37 s k).trans ?_) 0
    simp only [G37, Tr.eval, decide_eq_false (show ¬ ((k : Int) < (s.size : Int)) by omega)]
  | m + 1, k, h => by
    have h1 : k < s.size := by omega
    have h1' : k < (strBytes s).length := by rw [strBytes_length]; exact h1
    rw [List.drop_eq_getElem_cons h1']
    simp only [okN, List.all_cons]
    have hg := (r37 s k).trans (g37 s k h1 _ (strBytes_get s h1).symm)
    cases hb : badC (strBytes s)[k] with
    | true =>
      rw [hb] at hg
      exact many_inr hg (m + 1)
    | false =>
      rw [hb] at hg
      refine (many_inl hg (m + 1)).trans ?_
      rw [w_id (by omega) (by omega)]
      have := k37 s hm m (k + 1) (by omega)
      simpa [okN] using this

theorem l37 : LoopOK Try.prog L37 b37 :=
  loop_ok (L := L37) (L' := L0) nil_sound (loopsOK_of (by kernel_rfl)) S37 (by kernel_rfl) (F := F37) (i := 2) (by kernel_rfl) (fun _ => rfl) fun xs hs r h => by
    obtain ⟨s, i, u⟩ := xs
    obtain ⟨h1, h2⟩ := Tr.chk_some h
    simp only [Bool.and_eq_true, decide_eq_true_eq] at h1
    obtain ⟨e1, e3⟩ := h1
    have e1 : i = ((0 : Nat) : Int) := e1
    subst e1
    refine ⟨_, (k37 s e3 (ByteArray.size s) 0 (by omega)).trans ?_⟩
    simp only [List.drop_zero]
    rcases Tr.ite_some h2 with ⟨hd, h2⟩ | ⟨hd, h2⟩
    · have hd : okN (strBytes s) = true := hd
      rw [hd, ← Tr.ret_some h2]; rfl
    · have hd : okN (strBytes s) = false := hd
      rw [hd, ← Tr.ret_some h2]; rfl

def s37 : CSpec := .sl1 [.str] .bool fun x => nameI x.1
theorem r37f (s : ByteArray) : (fnS Try.prog (ctx []) L37 [.bool] Try.f100 (mkArgs [.str] (s, ()))).fold1 .bool =
    bif okN (strBytes s) then (bif decide ((s.size : Int) ≥ 1) then decide ((s.size : Int) ≤ 20) else false) else false := by kernel_rfl
theorem f37f (s : ByteArray) : (fnS Try.prog (ctx []) L37 [.bool] Try.f100 (mkArgs [.str] (s, ()))).fine [.bool] = decide (s.size ≤ 9223372036854775807) := by kernel_rfl
theorem ok37 : CSound Try.prog 100 s37 ∧ CLocal s37 :=
  sl_ok1 (L := L37) nil_sound Try.func100 (by kernel_rfl) (fun b hb => by
    have : loopsOf (bodyOf Try.f100) = [b37] := by kernel_rfl
    rw [this] at hb
    rw [List.mem_singleton.1 hb]
    exact l37) (fun xs hx => by
      refine (f37f xs.1).trans ?_
      exact decide_eq_true hx.1) (fun xs hx => by
      refine (r37f xs.1).trans ?_
      show _ = nameI xs.1
      unfold nameI
      have e1 : decide ((ByteArray.size xs.1 : Int) ≤ 20) = decide (ByteArray.size xs.1 ≤ 20) := decide_eq_decide.2 (by omega)
      have e2 : decide ((ByteArray.size xs.1 : Int) ≥ 1) = decide (1 ≤ ByteArray.size xs.1) := decide_eq_decide.2 (by omega)
      rw [e1, e2]
      cases okN (strBytes xs.1) <;> cases decide (1 ≤ ByteArray.size xs.1) <;> rfl)

/-! bartizanref01.All -/

abbrev ls : Ty := .imm false false bt
abbrev lt : Ty := .imm true false bt
def S24 : VSpec := ⟨⟨[0, 4, 5, 6], [4, 5], 33, [ls, .vc 0 1, i64, i64], [.vec 1 u8]⟩, [4]⟩
def G24 (xs : HL S24.Ts) (hs : HD S24.Es) : Tr S24.toLSpec.End :=
  let l : List (List Int) := xs.1
  let n := xs.2.2.1
  let i := xs.2.2.2.1
  let o : List Int := hs.1
  let p : List Int := l.getD i.toNat []
  let E : Tr S24.toLSpec.End := .ret (.inr (.exit 0, encS [4, 5] [.vc 0 1, i64] [.vec 1 u8] 33 ((), n, ()) (o, ())))
  .ite (decide (i < (l.length : Int))) (.ite (decide (n < 100000)) (.chk (inArr i l.length) (.chk (room (o.length + p.length) 1) (.chk (inArr i l.length)
    (.ret (.inl ((l, (), w (w (n + (p.length : Int)) + 1), w (i + 1), ()), (o ++ p, ()))))))) E) E
end Go.Proofs.Ytffdkniccaebmaa.Fld

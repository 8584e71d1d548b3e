/- What the functions of layer 9 (field) give: the parts of bytes. -/
import Derived.Test.YtffdkniccaebmaaF8
set_option linter.unusedVariables false
set_option maxRecDepth 100000
namespace Go.Proofs.Ytffdkniccaebmaa.Fld
open Go Vse Go.Proofs

def lenN (b : List Int) : Int := 256 * b.getD 0 0 + b.getD 1 0

/-- the parts of bytes: how it ends, and the parts so far -/
def splitG : Nat → List Int → List (List Int) → Int × List (List Int)
  | 0, _, o => (0, o)
  | f + 1, b, o => bif decide (b.length > 0) then (bif decide (b.length < 2) then (2, o) else (bif decide (lenN b > 500) then (7, o) else (bif decide (o.length = 20) then (7, o) else
      (bif decide (lenN b > ((b.drop 2).length : Int)) then (2, o) else splitG f ((b.drop 2).drop (lenN b).toNat) (o ++ [(b.drop 2).take (lenN b).toNat]))))) else (0, o)

def Bytes (b : List Int) : Prop := ∀ x ∈ b, 0 ≤ x ∧ x < 256
theorem bytes_get {b : List Int} (h : Bytes b) (i : Nat) : 0 ≤ b.getD i 0 ∧ b.getD i 0 < 256 := by
  rw [List.getD_eq_getElem?_getD]
  cases hx : b[i]? with
  | none => exact ⟨by simp, by simp⟩
  | some x => exact h x (List.mem_of_getElem? hx)
theorem bytes_drop {b : List Int} (h : Bytes b) (k : Nat) : Bytes (b.drop k) := fun x hx => h x (List.mem_of_mem_drop hx)

theorem or_bytes {x y : Int} (hx : 0 ≤ x ∧ x < 256) (hy : 0 ≤ y ∧ y < 256) : orI .i64 (shlI .i64 (w x) 8) (w y) = 256 * x + y := by
  obtain ⟨m, rfl⟩ : ∃ m : Nat, x = m := ⟨x.toNat, by omega⟩
  obtain ⟨n, rfl⟩ : ∃ n : Nat, y = n := ⟨y.toNat, by omega⟩
  have hm : m < 256 := by omega
  have hn : n < 256 := by omega
  rw [w_id (by omega) (by omega), w_id (by omega) (by omega)]
  have e1 : shlI .i64 (m : Int) 8 = ((m * 256 : Nat) : Int) := by
    show w ((m : Int) * 2 ^ 8) = _
    rw [w_id (by omega) (by omega)]
    omega
  rw [e1]
  have hor : m * 256 ||| n = m * 256 + n := by
    have := Nat.shiftLeft_add_eq_or_of_lt (b := n) (i := 8) (by omega) m
    rw [Nat.shiftLeft_eq] at this
    exact this.symm
  rw [orI_nat (by rw [max_i64]; omega) (by rw [max_i64]; omega) (by rw [hor, max_i64]; omega), hor]
  omega

def end27 (r : Int × List (List Int)) : Ex × St := bif decide (r.1 = 0) then out27 r.2 else ret27 r.1 r.2

theorem from_drop (b : List Int) {k : Int} (hk : 0 ≤ k) : from_ b k = b.drop k.toNat := by
  unfold from_
  rw [Int.toNat_natCast, List.take_of_length_le (Nat.le_refl _)]

theorem k27 : ∀ (f : Nat) (b : List Int) (o : List (List Int)), Bytes b → b.length ≤ f → f ≤ 140737488355328 → o.length ≤ 20 →
    S27.many (bodyK Try.prog (ctx CS) L0 b27) (f + 1) (b, (), ()) (o, ()) = some (end27 (splitG (f + 1) b o))
  | 0, b, o, hb, hf, hm, ho => by
    have : b = [] := List.eq_nil_of_length_eq_zero (by omega)
    subst this
    exact vmany_inr ((r27 [] o).trans rfl) 0
  | f + 1, b, o, hb, hf, hm, ho => by
    have h0 := bytes_get hb 0
    have h1 := bytes_get hb 1
    have hn : orI .i64 (shlI .i64 (w (b.getD 0 0)) 8) (w (b.getD 1 0)) = lenN b := or_bytes h0 h1
    have hn0 : 0 ≤ lenN b := by unfold lenN; omega
    have hd2 : from_ b 2 = b.drop 2 := from_drop b (by decide)
    rw [splitG]
    by_cases c0 : b.length > 0
    · rw [decide_eq_true c0]
      by_cases c1 : b.length < 2
      · rw [decide_eq_true c1]
        refine vmany_inr ((r27 b o).trans ?_) (f + 1)
        simp only [G27, Tr.eval, decide_eq_true (show (b.length : Int) > 0 by omega), decide_eq_true (show (b.length : Int) < 2 by omega)]
        rfl
      · rw [decide_eq_false c1]
        have i0 : inArr 0 b.length = true := by simp [inArr]; omega
        have i1 : inArr 1 b.length = true := by simp [inArr]; omega
        have hg : (G27 (b, (), ()) (o, ())).eval = bif decide (lenN b > 500) then some (.inr (ret27 7 o)) else (bif decide (o.length = 20) then some (.inr (ret27 7 o)) else
            (bif decide (lenN b > ((b.drop 2).length : Int)) then some (.inr (ret27 2 o)) else some (.inl (((b.drop 2).drop (lenN b).toNat, (), ()), (o ++ [(b.drop 2).take (lenN b).toNat], ()))))) := by
          have e2 : ((o.length : Int) == 20) = decide (o.length = 20) := by by_cases h : o.length = 20 <;> simp [h] <;> omega
          simp only [G27, Tr.eval, Tr.chk, decide_eq_true (show (b.length : Int) > 0 by omega), decide_eq_false (show ¬ (b.length : Int) < 2 by omega), i0, i1,
            decide_eq_true (show (2 : Int) ≤ (b.length : Int) by omega), decide_eq_true (Int.le_refl (b.length : Int)), Bool.and_self, hn, hd2, e2, List.drop_zero]
          by_cases q1 : lenN b > 500
          · simp only [decide_eq_true q1, cond_true]
          · by_cases q2 : o.length = 20
            · simp only [decide_eq_false q1, decide_eq_true q2, cond_true, cond_false]
            · by_cases q3 : lenN b > ((b.drop 2).length : Int)
              · simp only [decide_eq_false q1, decide_eq_false q2, decide_eq_true q3, cond_true, cond_false]
              · have hl : (b.drop 2).length ≤ b.length := by rw [List.length_drop]; omega
                have hle : lenN b ≤ ((b.drop 2).length : Int) := by omega
                have hto : ((b.drop 2).take (lenN b).toNat).length ≤ 140737488355328 := by rw [List.length_take]; omega
                have hro : room (o.length + 1) 24 = true := by simp only [room, decide_eq_true_eq]; omega
                have hfr : from_ (b.drop 2) (lenN b) = (b.drop 2).drop (lenN b).toNat := from_drop _ hn0
                simp only [decide_eq_false q1, decide_eq_false q2, decide_eq_false q3, cond_false, decide_eq_true hn0, decide_eq_true hle, decide_eq_true hto, hro, hfr, decide_eq_true (Int.le_refl ((b.drop 2).length : Int)), Bool.and_self, Bool.and_true]
        by_cases q1 : lenN b > 500
        · rw [decide_eq_true q1] at hg ⊢
          exact vmany_inr ((r27 b o).trans hg) (f + 1)
        · rw [decide_eq_false q1] at hg ⊢
          by_cases q2 : o.length = 20
          · rw [decide_eq_true q2] at hg ⊢
            exact vmany_inr ((r27 b o).trans hg) (f + 1)
          · rw [decide_eq_false q2] at hg ⊢
            by_cases q3 : lenN b > ((b.drop 2).length : Int)
            · rw [decide_eq_true q3] at hg ⊢
              exact vmany_inr ((r27 b o).trans hg) (f + 1)
            · rw [decide_eq_false q3] at hg ⊢
              exact (vmany_inl ((r27 b o).trans hg) (f + 1)).trans (k27 f _ _ (bytes_drop (bytes_drop hb 2) _) (by rw [List.length_drop, List.length_drop]; omega) (by omega) (by simp; omega))
    · rw [decide_eq_false c0]
      refine vmany_inr ((r27 b o).trans ?_) (f + 1)
      simp only [G27, Tr.eval, decide_eq_false (show ¬ (b.length : Int) > 0 by omega)]
      rfl

def F27 (xs : HL S27.Ts) (hs : HD S27.Es) : Tr (Ex × St) :=
  let b : List Int := xs.1
  let r := splitG (b.length + 1) b []
  .chk (decide (List.length (α := List Int) hs.1 = 0) && (decide (b.length ≤ 140737488355328) && b.all fun x => decide (0 ≤ x) && decide (x < 256)))
    (.ite (decide (r.1 = 0)) (.ret (out27 r.2)) (.ret (ret27 r.1 r.2)))
noncomputable def L27 : Loops := fun j st => if j = 2 then S27.fn F27 st else .fail
theorem bytes_all {b : List Int} (h : (b.all fun x => decide (0 ≤ x) && decide (x < 256)) = true) : Bytes b := fun x hx => by simpa using List.all_eq_true.1 h x hx
theorem all_bytes {b : List Int} (h : Bytes b) : (b.all fun x => decide (0 ≤ x) && decide (x < 256)) = true := List.all_eq_true.2 fun x hx => by simpa using h x hx
theorem l27 : LoopOK Try.prog L27 b27 :=
  vloop_ok (L := L27) (L' := L0) CS_sound (loopsOK_of (by kernel_rfl)) S27 (F := F27) (i := 2) (by kernel_rfl) (fun _ => rfl) fun xs hs r h => by
    obtain ⟨b, u1, u⟩ := xs
    obtain ⟨o, u2⟩ := hs
    obtain ⟨h1, h2⟩ := Tr.chk_some h
    simp only [Bool.and_eq_true, decide_eq_true_eq] at h1
    obtain ⟨e1, e2, e3⟩ := h1
    have e1 : o = [] := List.eq_nil_of_length_eq_zero e1
    subst e1
    have hb : Bytes b := bytes_all (by simpa using e3)
    refine ⟨_, (k27 (List.length (α := Int) b) b [] hb (Nat.le_refl _) e2 (by simp)).trans ?_⟩
    simp only [end27]
    rcases Tr.ite_some h2 with ⟨hd, h2⟩ | ⟨hd, h2⟩
    · rw [hd, ← Tr.ret_some h2]; rfl
    · rw [hd, ← Tr.ret_some h2]; rfl

def preB (b : List Int) : Bool := decide (b.length ≤ 140737488355328)
def splitI (b : List Int) : HL [lt, i64] := let r := splitG (b.length + 1) b []; bif decide (r.1 = 0) then (r.2, 0, ()) else ([], r.1, ())
def s27 : CSpec := .slp [bs] (fun x => preB x.1) [lt, i64] fun x => splitI x.1
theorem r27f (b : List Int) : (fnS Try.prog (ctx CS) L27 [lt, i64] Try.f38 (mkArgs [bs] (b, ()))).fold [lt, i64] = splitI b := by kernel_rfl
theorem f27f (b : List Int) : (fnS Try.prog (ctx CS) L27 [lt, i64] Try.f38 (mkArgs [bs] (b, ()))).fine [lt, i64] = (decide (b.length ≤ 140737488355328) && b.all fun x => decide (0 ≤ x) && decide (x < 256)) := by kernel_rfl
theorem bytes_ok {b : List Int} (h : (Ty.imm false false u8).ok b) : Bytes b := fun x hx => by
  have := inK_iff.1 (h.2 x hx)
  have h1 : IntKind.u8.min = 0 := by decide
  have h2 := max_u8
  omega
theorem ok27 : CSound Try.prog 38 s27 ∧ CLocal s27 :=
  slp_sound (L := L27) CS_sound Try.func38 (by kernel_rfl) (fun b hb => by
    have : loopsOf (bodyOf Try.f38) = [b27] := by kernel_rfl
    rw [this] at hb
    rw [List.mem_singleton.1 hb]
    exact l27) (fun xs hx hp => by
      refine (f27f xs.1).trans ?_
      rw [show decide (List.length (α := Int) xs.1 ≤ 140737488355328) = true from hp]
      exact all_bytes (bytes_ok hx.1)) (fun xs hx hp => r27f xs.1)

/-! bartizanref09.Split -/

def S28 : VSpec := ⟨⟨[0, 4, 5], [2, 3, 4], 61, [bs, .vc 0 1, i64], [.vec 1 bt]⟩, [4]⟩
noncomputable def b28 : Code := loopAt Try.f95 0
def out28 (o : List (List Int)) : Ex × St := (.exit 0, encS [4] [.vc 0 1] [.vec 1 bt] 61 ((), ()) (o, ()))
def ret28 (c : Int) (o : List (List Int)) : Ex × St := (.ret, encS [2, 3, 4] [.nils, i64, .vc 0 1] [.vec 1 bt] 61 ((), c, (), ()) (o, ()))
def G28 (xs : HL S28.Ts) (hs : HD S28.Es) : Tr S28.toLSpec.End :=
  let b : List Int := xs.1
  let i : Int := xs.2.2.1
  let o : List (List Int) := hs.1
  let n : Int := w (w (256 * w (b.getD i.toNat 0)) + w (b.getD (w (i + 1)).toNat 0))
  let lo := w (i + 2)
  let hi := w (lo + n)
  let d := (b.take hi.toNat).drop lo.toNat
  let Z : Tr S28.toLSpec.End := .ret (.inl ((b, (), hi, ()), (o ++ [([] : List Int) ++ d], ())))
  let Y : Tr S28.toLSpec.End := .chk (decide (0 ≤ lo) && (decide (lo ≤ hi) && decide (hi ≤ (b.length : Int)))) (.chk (room (([] : List Int).length + d.length) 1) (.chk (room (o.length + 1) 24) Z))
  let X : Tr S28.toLSpec.End := .ite (decide (n > 500)) (.ret (.inr (ret28 7 o))) (.ite ((o.length : Int) == 20) (.ret (.inr (ret28 7 o))) (.ite (decide (w (w ((b.length : Int) - i) - 2) < n)) (.ret (.inr (ret28 2 o))) Y))
  let V : Tr S28.toLSpec.End := .chk (inArr i b.length) (.chk (inArr (w (i + 1)) b.length) X)
  .ite (decide (i < (b.length : Int))) (.ite (decide (w ((b.length : Int) - i) < 2)) (.ret (.inr (ret28 2 o))) V) (.ret (.inr (out28 o)))
theorem r28 (b : List Int) (i : Int) (o : List (List Int)) : (S28.round (bodyK Try.prog (ctx CS) L0 b28) (b, (), i, ()) (o, ())).eval = (G28 (b, (), i, ()) (o, ())).eval := by kernel_rfl

end Go.Proofs.Ytffdkniccaebmaa.Fld

/- A table (layer 11, cache): CacheBound and CacheDoes are true. -/
import Derived.Test.YtfimgngiaggplaaX11
set_option linter.unusedVariables false
set_option linter.unusedSimpArgs false
set_option linter.unusedSectionVars false
set_option maxRecDepth 100000
namespace Go.Proofs.Ytfimgngiaggplaa.Cache
open Go Vse Go.Proofs Gen

section
variable {K V : Ty} (hE : Lawful K)
include hE
omit hE in
theorem drop_n {hs : Tb K V} (h : Wf hs) (x : K.den) : (dropF K V x hs).2.1 = hs.1 := by
  cases hx : isIn K hs.2.1 x with
  | true => rw [drop_in h hx]
  | false => rw [drop_out h hx]
theorem put_n {hs : Tb K V} (h : Wf hs) (x : K.den) (v : V.den) : (putF K V x v hs).2.1 = hs.1 := by
  cases hx : isIn K hs.2.1 x with
  | true => rw [put_in hE h hx]
  | false =>
    by_cases hl : (List.length (α := K.den) hs.2.1 : Int) = hs.1.1
    · rw [put_full h hx hl]; exact drop_n h _
    · rw [put_new hE h hx hl]
theorem drop_gone {hs : Tb K V} (h : Wf hs) (x : K.den) : (mapLook (K := K) (V := V) (dropF K V x hs).2.2.2.1 x).isSome = false := by
  rw [(h.drop hE x).same x]
  cases hx : isIn K hs.2.1 x with
  | true =>
    rw [drop_in h hx]
    show isIn K (remL K hs.2.1 x) x = false
    rw [Bool.eq_false_iff]
    intro hm
    exact ((mem_rem hE h.nod _ _).1 ((isIn_iff hE).1 hm)).2 rfl
  | false => rw [drop_out h hx]; exact hx
theorem put_gone {hs : Tb K V} (h : Wf hs) (x : K.den) (v : V.den) (hg : (putF K V x v hs).1.2.1 = true) : (List.length (α := K.den) hs.2.1 : Int) = hs.1.1 ∧ 0 < List.length (α := K.den) hs.2.1 ∧ (putF K V x v hs).1.1 = List.getD (α := K.den) hs.2.1 0 (dflt K) := by
  cases hx : isIn K hs.2.1 x with
  | true => rw [put_in hE h hx] at hg; cases hg
  | false =>
    by_cases hl : (List.length (α := K.den) hs.2.1 : Int) = hs.1.1
    · rw [put_full h hx hl]
      exact ⟨hl, by have := h.lo; omega, rfl⟩
    · rw [put_new hE h hx hl] at hg; cases hg
theorem put_kept {hs : Tb K V} (h : Wf hs) (x : K.den) (v : V.den) (hg : (putF K V x v hs).1.2.1 = false) : List.length (α := K.den) hs.2.1 ≤ List.length (α := K.den) (putF K V x v hs).2.2.1 := by
  cases hx : isIn K hs.2.1 x with
  | true => rw [put_in hE h hx]; exact Nat.le_refl _
  | false =>
    by_cases hl : (List.length (α := K.den) hs.2.1 : Int) = hs.1.1
    · rw [put_full h hx hl] at hg; cases hg
    · rw [put_new hE h hx hl]
      show _ ≤ (hs.2.1 ++ [x]).length
      rw [List.length_append]; omega
end

theorem bneB_self (s : ByteArray) : (s != s) = false := by
  show (!(s == s)) = false
  rw [eqB_refl]; rfl
abbrev T1 := Tb i64 .str
abbrev GB1 (up : Bool) (most : Int) (l : List tOp.den) (i : Int) (t : T1) := GB up (putP i64 .str) (putF i64 .str) (dropP i64 .str) (dropF i64 .str) (fun l => okL l) most l i t

theorem Wf.okl {t : T1} (h : Wf t) : okL (α := Int) t.2.1 = true := decide_eq_true h.ok
theorem GB_step {up : Bool} {most : Int} {l : List tOp.den} {k : Nat} {t : T1} (hl : l.length ≤ 60) (hk : k < l.length) (h : Wf t) (hm : t.1.1 = most) :
    ∃ t', (GB1 up most l (k : Int) t).eval = some (.inl ((most, l, up, (), ((k + 1 : Nat) : Int), ()), t')) ∧ Wf t' ∧ t'.1.1 = most := by
  have e1 : w ((k : Int) + 1) = ((k + 1 : Nat) : Int) := w_succ hk (by omega)
  unfold GB1 GB
  dsimp only
  rw [Int.toNat_natCast, e1]
  generalize l.getD k (dflt tOp) = X
  obtain ⟨do_, x, s, u⟩ := X
  dsimp only
  rw [ite_t (decide_eq_true (by omega)), chk_eval (inArr_of hk), chk_eval h.okl]
  by_cases hd : ((do_ : Int) == 1) = true
  · rw [ite_t hd, chk_eval (h.dropP x), ite_f (drop_gone law_i h x)]
    exact ⟨_, rfl, h.drop law_i x, by rw [drop_n h]; exact hm⟩
  · rw [ite_f (Bool.eq_false_iff.2 hd), chk_eval (h.putP x s), put_look law_i h x s]
    have h' := h.put law_i x s
    have hn := put_n law_i h x s
    have h1 := put_gone law_i h x s
    have h2 := put_kept law_i h x s
    generalize hP : putF i64 .str x s t = R at h' hn h1 h2 ⊢
    obtain ⟨⟨g, gone, u1⟩, t'⟩ := R
    dsimp only at h' hn h1 h2 ⊢
    have hlen := h'.len
    rw [hn, hm] at hlen
    rw [ite_f (show (!(some s).isSome) = false from rfl), ite_f (show ((some s).getD ByteArray.empty != s) = false from bneB_self s), ite_f (decide_eq_false (by
      have : (List.length (α := Int) t'.2.1 : Int) ≤ most := hlen
      omega))]
    cases gone with
    | true =>
      obtain ⟨q1, q2, q3⟩ := h1 rfl
      have q1 : (List.length (α := Int) t.2.1 : Int) = most := q1.trans hm
      rw [ite_t rfl, ite_f (by simp [q1]), chk_eval (show inArr 0 (List.length (α := Int) t.2.1) = true from inArr_of (k := 0) q2), ite_f (by
        rw [show (g : Int) = List.getD (α := Int) t.2.1 0 0 from q3]; simp), ite_f (show (!true) = false from rfl)]
      exact ⟨_, rfl, h', by rw [hn]; exact hm⟩
    | false =>
      have q := h2 rfl
      rw [ite_f rfl, ite_t (show (!false) = true from rfl), chk_eval h'.okl, ite_f (decide_eq_false (by
        have : List.length (α := Int) t.2.1 ≤ List.length (α := Int) t'.2.1 := q
        omega))]
      exact ⟨_, rfl, h', by rw [hn]; exact hm⟩
theorem GB_end {up : Bool} {most : Int} {l : List tOp.den} {t : T1} : (GB1 up most l (l.length : Int) t).eval = some (.inr (.exit 0, encS [5] [.bool] (dd 3) 128 (up, ()) ())) := by
  unfold GB1 GB
  dsimp only
  rw [ite_f (decide_eq_false (by omega))]
  rfl
abbrev CB1 : Ctx := ctx (cB true (putP i64 .str) (putF i64 .str) (dropP i64 .str) (dropF i64 .str) fun l => okL l)
theorem mB {up : Bool} {most : Int} {l : List tOp.den} (hl : l.length ≤ 60) : ∀ (m k : Nat) (t : T1), k + m = l.length → Wf t → t.1.1 = most →
    SB.many (bodyK Try.prog CB1 L0 bB) (m + 1) (most, l, up, (), (k : Int), ()) t = some (.exit 0, encS [5] [.bool] (dd 3) 128 (up, ()) ())
  | 0, k, t, h, _, _ => by
    have : k = l.length := by omega
    subst this
    obtain ⟨⟨n, u1, u2, u3⟩, ks, m, u⟩ := t
    exact rmany_inr ((rB _ _ _ _ _ _ _ most l _ n ks m).trans GB_end) 0
  | m + 1, k, t, h, hw, hm => by
    obtain ⟨t', q1, q2, q3⟩ := GB_step hl (k := k) (by omega) hw hm
    obtain ⟨⟨n, u1, u2, u3⟩, ks, mm, u⟩ := t
    exact (rmany_inl ((rB _ _ _ _ _ _ _ most l _ n ks mm).trans q1) (m + 1)).trans (mB hl m (k + 1) t' (by omega) q2 q3)
theorem cB_sound : CtxSound Try.prog CB1 ∧ CtxLocal CB1 := ctx_sound ⟨okA, okNi, okPui, okDri, okGei, okLei, okKei, trivial⟩
open Classical in
noncomputable def cB1 (most : Int) (l : List tOp.den) (i : Int) (t : T1) : Bool := decide (l.length ≤ 60 ∧ i = 0 ∧ Wf t ∧ t.1.1 = most)
open Classical in
theorem cB1_iff {most : Int} {l : List tOp.den} {i : Int} {t : T1} : cB1 most l i t = true ↔ (l.length ≤ 60 ∧ i = 0 ∧ Wf t ∧ t.1.1 = most) := by
  unfold cB1
  exact decide_eq_true_iff
theorem lB : LoopOK Try.prog (LB fun most l i t => cB1 most l i t) bB :=
  rloop_ok (L := LB fun most l i t => cB1 most l i t) (L' := L0) cB_sound (loopsOK_of (by kernel_rfl)) SB (F := FB fun most l i t => cB1 most l i t) (i := 8) (by kernel_rfl) (fun _ => rfl) fun xs hs r h => by
    obtain ⟨most, l, up, u1, i, u2⟩ := xs
    obtain ⟨h1, h2⟩ := Tr.chk_some h
    obtain ⟨hl, e2, hw, hm⟩ := cB1_iff.1 h1
    have hl : List.length (α := tOp.den) l ≤ 60 := hl
    have e2 : i = ((0 : Nat) : Int) := e2
    subst e2
    have := Tr.ret_some h2
    subst this
    have := mB (up := up) (most := most) (l := l) hl (List.length (α := tOp.den) l) 0 hs (Nat.zero_add _) hw hm
    exact ⟨_, this⟩
theorem TB_true {n : Int} {l : List tOp.den} : (TB true (fun most l i t => cB1 most l i t) n l).eval = some (.v .bool true) := by
  unfold TB
  by_cases hl : (l.length : Int) > 60
  · rw [ite_t (decide_eq_true hl)]; rfl
  rw [ite_f (decide_eq_false hl)]
  cases hn : okR n with
  | true =>
    have : cB1 n l 0 (newF i64 .str n).2 = true := cB1_iff.2 ⟨by omega, rfl, Wf.new hn, rfl⟩
    rw [ite_t rfl, chk_eval rfl, chk_eval this]
    rfl
  | false =>
    have hn' := okR_f (by rw [hn]; rfl)
    rw [ite_f rfl, chk_eval (show (!false) = true from rfl), ite_t rfl]
    by_cases h1 : n < 1
    · rw [ite_t (decide_eq_true h1)]; rfl
    · rw [ite_f (decide_eq_false h1), decide_eq_true (show n > 1000 by omega)]; rfl
end Go.Proofs.Ytfimgngiaggplaa.Cache

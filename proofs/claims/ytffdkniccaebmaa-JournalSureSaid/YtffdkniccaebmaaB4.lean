/- A store and the document's do the same (layer 13): plain lemmas. -/
import Derived.Test.YtffdkniccaebmaaB3
set_option linter.unusedVariables false
namespace Go.Proofs.Ytffdkniccaebmaa.Sto
open Go Vse Go.Proofs Fld

/-- what holds of a store -/
structure Inv (d : D) : Prop where
  s0 : 0 ≤ d.sure
  s1 : d.sure ≤ (d.b.length : Int)
  b1 : (d.b.length : Int) ≤ d.room
  r1 : d.room ≤ 1048576
  f0 : -1 ≤ d.fuse
  f1 : d.fuse ≤ 9223372036854775807

/-- what is known of an operation -/
structure OkX (x : Ox) : Prop where
  n0 : -9223372036854775808 ≤ x.2.1
  n1 : x.2.1 ≤ 9223372036854775807
  b1 : x.2.2.1.length ≤ 2000

theorem maxI_eq (x y : Int) : maxI x y = max x y := by unfold maxI; omega
theorem minI_eq (x y : Int) : minI x y = min x y := by unfold minI; omega

@[simp] theorem b_mk (b : List Int) (s r f : Int) (dn : Bool) : (mk b s r f dn).b = b := rfl
@[simp] theorem sure_mk (b : List Int) (s r f : Int) (dn : Bool) : (mk b s r f dn).sure = s := rfl
@[simp] theorem room_mk (b : List Int) (s r f : Int) (dn : Bool) : (mk b s r f dn).room = r := rfl
@[simp] theorem fuse_mk (b : List Int) (s r f : Int) (dn : Bool) : (mk b s r f dn).fuse = f := rfl
@[simp] theorem down_mk (b : List Int) (s r f : Int) (dn : Bool) : (mk b s r f dn).down = dn := rfl
theorem D_eta (d : D) : d = mk d.b d.sure d.room d.fuse d.down := rfl

theorem room_of {n : Nat} (h : n ≤ 2000000) : Vse.room n 1 = true := by simp only [Vse.room, decide_eq_true_eq]; omega

theorem inv_mk {b : List Int} {s r f : Int} {dn : Bool} (h1 : 0 ≤ s) (h2 : s ≤ (b.length : Int)) (h3 : (b.length : Int) ≤ r) (h4 : r ≤ 1048576) (h5 : -1 ≤ f) (h6 : f ≤ 9223372036854775807) : Inv (mk b s r f dn) := ⟨h1, h2, h3, h4, h5, h6⟩

/-- the three ways that 'ready' has -/
theorem rdy_ways (m : Int) {d : D} (h : Inv d) : (rdyF m d = er 8 (mk d.b d.sure d.room d.fuse true) ∧ powF d = ((false, ()), mk d.b d.sure d.room d.fuse true)) ∨
    ∃ f, -1 ≤ f ∧ f ≤ 9223372036854775807 ∧ rdyF m d = er (if m > d.room then 7 else 0) (mk d.b d.sure d.room f false) ∧ powF d = ((true, ()), mk d.b d.sure d.room f false) := by
  have f0 := h.f0
  have f1 := h.f1
  by_cases hd : d.down = true ∨ d.fuse = 0
  · exact .inl ⟨by simp only [rdyF, if_pos hd], by simp only [powF, if_pos hd]⟩
  · have hdn : d.down = false := by
      cases hx : d.down with
      | true => exact absurd (.inl hx) hd
      | false => rfl
    have hf : d.fuse ≠ 0 := fun h => hd (.inr h)
    by_cases h1 : d.fuse = -1
    · refine .inr ⟨d.fuse, f0, f1, by simp only [rdyF, if_neg hd, if_pos h1], ?_⟩
      have hp : powF d = ((true, ()), mk d.b d.sure d.room (if d.fuse > 0 then w (d.fuse - 1) else d.fuse) d.down) := if_neg hd
      rw [hp, hdn, if_neg (show ¬ d.fuse > 0 by omega)]
    · refine .inr ⟨d.fuse - 1, by omega, by omega, ?_, ?_⟩
      · simp only [rdyF, if_neg hd, if_neg h1]
        rw [w_id (by omega) (by omega)]
      · have hp : powF d = ((true, ()), mk d.b d.sure d.room (if d.fuse > 0 then w (d.fuse - 1) else d.fuse) d.down) := if_neg hd
        rw [hp, hdn, if_pos (show d.fuse > 0 by omega), w_id (by omega) (by omega)]

theorem app_same {x : List Int} (hx : x.length ≤ 2000) {d : D} (h : Inv d) : appF rdyF x d = rappF powF x d ∧ Inv (appF rdyF x d).2 ∧ appP rdyF x d = true ∧ rappP powF x d = true := by
  have b1 := h.b1
  have r1 := h.r1
  have hb : d.b.length ≤ 1048576 := by omega
  have hw : w ((d.b.length : Int) + x.length) = (d.b.length : Int) + x.length := w_id (by omega) (by omega)
  rcases rdy_ways (w ((d.b.length : Int) + x.length)) h with ⟨e1, e2⟩ | ⟨f, f0, f1, e1, e2⟩
  · refine ⟨?_, ?_, ?_, ?_⟩
    · simp only [appF, rappF, e1, e2, er]; rfl
    · simp only [appF, e1, er]; exact inv_mk h.s0 h.s1 h.b1 h.r1 h.f0 h.f1
    · simp only [appP, fits, e1, er, b_mk]; exact room_of (by omega)
    · simp only [rappP, fits, e2, b_mk]; exact room_of (by omega)
  · have q1 : appP rdyF x d = true := by simp only [appP, fits, e1, er, b_mk]; exact room_of (by omega)
    have q2 : rappP powF x d = true := by simp only [rappP, fits, e2, b_mk]; exact room_of (by omega)
    simp only [appF, rappF, e1, e2, er, b_mk, room_mk, if_true]
    rw [hw]
    by_cases hr : (d.b.length : Int) + x.length > d.room
    · simp only [if_pos hr]
      exact ⟨rfl, inv_mk h.s0 h.s1 h.b1 h.r1 f0 f1, q1, q2⟩
    · simp only [if_neg hr, if_true]
      refine ⟨trivial, ?_, q1, q2⟩
      have s1 := h.s1
      refine ⟨h.s0, ?_, ?_, h.r1, f0, f1⟩ <;> show _ ≤ _
      · show d.sure ≤ ((d.b ++ x).length : Int); rw [List.length_append]; omega
      · show ((d.b ++ x).length : Int) ≤ d.room; rw [List.length_append]; omega

theorem sync_same {d : D} (h : Inv d) : syncF rdyF d = rsyncF powF d ∧ Inv (syncF rdyF d).2 := by
  have b1 := h.b1
  have hr : ¬ (0 : Int) > d.room := by omega
  rcases rdy_ways 0 h with ⟨e1, e2⟩ | ⟨f, f0, f1, e1, e2⟩
  · refine ⟨?_, ?_⟩
    · simp only [syncF, rsyncF, e1, e2, er]; rfl
    · simp only [syncF, e1, er]; exact inv_mk h.s0 h.s1 h.b1 h.r1 h.f0 h.f1
  · simp only [syncF, rsyncF, e1, e2, er, if_neg hr, if_true]
    exact ⟨trivial, inv_mk (by simp) (by simp) h.b1 h.r1 f0 f1⟩

theorem rep_same {x : List Int} (hx : x.length ≤ 2000) {d : D} (h : Inv d) : repF rdyF x d = rrepF powF x d ∧ Inv (repF rdyF x d).2 := by
  have b1 := h.b1
  rcases rdy_ways x.length h with ⟨e1, e2⟩ | ⟨f, f0, f1, e1, e2⟩
  · refine ⟨?_, ?_⟩
    · simp only [repF, rrepF, e1, e2, er]; rfl
    · simp only [repF, e1, er]; exact inv_mk h.s0 h.s1 h.b1 h.r1 h.f0 h.f1
  · simp only [repF, rrepF, e1, e2, er, room_mk, if_true]
    by_cases hr : (x.length : Int) > d.room
    · simp only [if_pos hr]
      exact ⟨rfl, inv_mk h.s0 h.s1 h.b1 h.r1 f0 f1⟩
    · simp only [if_neg hr, if_true]
      exact ⟨trivial, inv_mk (by simp) (by simp) (by omega) h.r1 f0 f1⟩

theorem fuse_inv {n : Int} (h1 : n ≤ 9223372036854775807) {d : D} (h : Inv d) : Inv (fuseF n d).2 := by
  simp only [fuseF, maxI_eq]
  exact inv_mk h.s0 h.s1 h.b1 h.r1 (by omega) (by omega)

theorem crash_at {n : Int} (h0 : -9223372036854775808 ≤ n) (h1 : n ≤ 9223372036854775807) {d : D} (h : Inv d) : crashS n d = d.sure + min (max n 0) ((d.b.length : Int) - d.sure) := by
  have s0 := h.s0
  have s1 := h.s1
  have b1 := h.b1
  have r1 := h.r1
  simp only [crashS, maxI_eq, minI_eq]
  rw [w_id (x := (d.b.length : Int) - d.sure) (by omega) (by omega), w_id (by omega) (by omega)]

theorem crash_same {n : Int} (h0 : -9223372036854775808 ≤ n) (h1 : n ≤ 9223372036854775807) {d : D} (h : Inv d) : (crashF n d).2 = (rcrashF n d).2 ∧ Inv (crashF n d).2 ∧ crashP n d = true ∧ rcrashP n d = true := by
  have s0 := h.s0
  have s1 := h.s1
  have b1 := h.b1
  have r1 := h.r1
  have hs := crash_at h0 h1 h
  have hl : ((d.b.take (crashS n d).toNat).length : Int) = crashS n d := by rw [List.length_take, hs]; omega
  have hw : w ((d.b.length : Int) - d.sure) = (d.b.length : Int) - d.sure := w_id (by omega) (by omega)
  have key : rcrB n d = d.b.take (crashS n d).toNat ∧ rcrashP n d = true := by
    simp only [rcrB, rcrashP, rcrS, hw, maxI_eq]
    by_cases hc : n < (d.b.length : Int) - d.sure
    · rw [w_id (x := d.sure + max n 0) (by omega) (by omega)]
      have e : crashS n d = d.sure + max n 0 := by rw [hs]; omega
      rw [decide_eq_true hc, e]
      refine ⟨rfl, ?_⟩
      simp only [Bool.not_true, Bool.false_or, Bool.and_eq_true, decide_eq_true_eq]
      omega
    · have e : crashS n d = d.b.length := by rw [hs]; omega
      rw [decide_eq_false hc, e]
      refine ⟨?_, rfl⟩
      simp
  refine ⟨?_, ?_, ?_, key.2⟩
  · simp only [crashF, rcrashF, key.1, hl]
  · simp only [crashF]
    exact inv_mk (by omega) (by omega) (by omega) h.r1 (by omega) (by omega)
  · simp only [crashP, Bool.and_eq_true, decide_eq_true_eq]; omega

theorem turn_inv {n y : Int} {d : D} (h : Inv d) : Inv (turnF n y d).2 := by
  simp only [turnF]
  split
  · exact h
  · refine ⟨h.s0, ?_, ?_, h.r1, h.f0, h.f1⟩
    · have := h.s1
      show d.sure ≤ (((d.b.set n.toNat (xorI .u8 (d.b.getD n.toNat 0) y)).length : Nat) : Int)
      rw [List.length_set]; exact this
    · have := h.b1
      show (((d.b.set n.toNat (xorI .u8 (d.b.getD n.toNat 0) y)).length : Nat) : Int) ≤ d.room
      rw [List.length_set]; exact this

/-- an operation does the same to both -/
theorem do_same {x : Ox} (hx : OkX x) {d : D} (h : Inv d) : stoF x d = toldF x d ∧ Inv (stoF x d).2 ∧ stoP x d = true ∧ toldP x d = true := by
  obtain ⟨k, n, y, u⟩ := x
  have hy : y.length ≤ 2000 := hx.b1
  have hn0 : -9223372036854775808 ≤ n := hx.n0
  have hn1 : n ≤ 9223372036854775807 := hx.n1
  have hrb : Vse.room d.b.length 1 = true := room_of (by have := h.b1; have := h.r1; omega)
  simp only [stoF, toldF, stoP, toldP, doF, doP]
  by_cases h0 : k = 0
  · simp only [if_pos h0]; exact app_same hy h
  by_cases h1 : k = 1
  · simp only [if_neg h0, if_pos h1]; exact ⟨(sync_same h).1, (sync_same h).2, trivial, trivial⟩
  by_cases h2 : k = 2
  · simp only [if_neg h0, if_neg h1, if_pos h2]; exact ⟨(rep_same hy h).1, (rep_same hy h).2, room_of (by omega), room_of (by omega)⟩
  by_cases h3 : k = 3
  · simp only [if_neg h0, if_neg h1, if_neg h2, if_pos h3, er]; exact ⟨trivial, fuse_inv hn1 h, trivial, trivial⟩
  by_cases h4 : k = 4
  · simp only [if_neg h0, if_neg h1, if_neg h2, if_neg h3, if_pos h4, er]
    obtain ⟨a, b, c, e⟩ := crash_same hn0 hn1 h
    exact ⟨by rw [a], b, c, e⟩
  · simp only [if_neg h0, if_neg h1, if_neg h2, if_neg h3, if_neg h4]
    exact ⟨rfl, turn_inv h, trivial, hrb⟩

/-! sizes -/

theorem szL_le : ∀ (l : List Ox) (n : Int), shortO l = true → 0 ≤ n → n ≤ szL l n
  | [], n, _, _ => Int.le_refl n
  | x :: l, n, h, hn => by
    simp only [shortO, List.all_cons, Bool.and_eq_true, decide_eq_true_eq] at h
    simp only [szL]
    split
    · rw [w_id (x := n + (x.2.2.1.length : Int)) (by omega) (by omega), w_id (by omega) (by omega)]
      have := szL_le l (n + (x.2.2.1.length : Int) + 1) h.2 (by omega)
      omega
    · exact Int.le_refl n

theorem szL_each : ∀ (l : List Ox) (n : Int), shortO l = true → 0 ≤ n → szL l n ≤ 2000 → ∀ x ∈ l, x.2.2.1.length ≤ 2000
  | [], n, _, _, _, x, hx => by cases hx
  | y :: l, n, h, hn, hs, x, hx => by
    have h0 := h
    simp only [shortO, List.all_cons, Bool.and_eq_true, decide_eq_true_eq] at h
    have hle := szL_le (y :: l) n h0 hn
    have hn2 : n < 100000 := by omega
    simp only [szL] at hs
    rw [if_pos hn2, w_id (x := n + (y.2.2.1.length : Int)) (by omega) (by omega), w_id (by omega) (by omega)] at hs
    have hl := szL_le l (n + (y.2.2.1.length : Int) + 1) h.2 (by omega)
    rcases List.mem_cons.1 hx with rfl | hx
    · omega
    · exact szL_each l _ h.2 (by omega) hs x hx

/-- a list of operations that may come -/
def OkL (l : List Ox) : Prop := l.length ≤ 9223372036854775807 ∧ ∀ x ∈ l, OkX x

theorem okL_of {l : List Ox} (h : shortO l = true) (hs : ¬ szL l 0 > 2000) (hl : l.length ≤ 9223372036854775807) (hn : ∀ x ∈ l, -9223372036854775808 ≤ x.2.1 ∧ x.2.1 ≤ 9223372036854775807) : OkL l :=
  ⟨hl, fun x hx => ⟨(hn x hx).1, (hn x hx).2, szL_each l 0 h (by omega) (by omega) x hx⟩⟩

end Go.Proofs.Ytffdkniccaebmaa.Sto

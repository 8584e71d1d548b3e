/- A table (layer 11, cache): plain laws of tables. -/
import Derived.Test.YtfimgngiaggplaaX10
set_option linter.unusedVariables false
set_option linter.unusedSimpArgs false
set_option linter.unusedSectionVars false
set_option maxRecDepth 100000
namespace Go.Proofs.Ytfimgngiaggplaa.Cache
open Go Vse Go.Proofs Gen

/-- equality that is equality -/
def Lawful (K : Ty) : Prop := ∀ x y : K.den, eqT K x y = true ↔ x = y
theorem law_i : Lawful i64 := fun x y => ⟨of_decide_eq_true, decide_eq_true⟩
theorem law_s : Lawful .str := fun x y => eqB_iff

section
variable {K V : Ty} (hE : Lawful K)

abbrev keysM (m : MP K V) : List K.den := m.map (·.1)
include hE
theorem eq_self (x : K.den) : eqT K x x = true := (hE x x).2 rfl
theorem isIn_iff {l : List K.den} {x : K.den} : isIn K l x = true ↔ x ∈ l := by
  simp only [isIn, List.any_eq_true]
  exact ⟨fun ⟨y, h1, h2⟩ => (hE x y).1 h2 ▸ h1, fun h => ⟨x, h, eq_self hE x⟩⟩
theorem isIn_congr {l m : List K.den} {x : K.den} (h : x ∈ l ↔ x ∈ m) : isIn K l x = isIn K m x := by
  rw [Bool.eq_iff_iff, isIn_iff hE, isIn_iff hE]; exact h

theorem look_put (m : MP K V) (x : K.den) (v : V.den) (y : K.den) : mapLook (mapPut m x v) y = if eqT K y x = true then some v else mapLook m y := by
  induction m with
  | nil => rfl
  | cons e m ih =>
    simp only [mapPut]
    by_cases h : eqT K x e.1 = true
    · rw [if_pos h]
      have := (hE _ _).1 h
      subst this
      simp only [mapLook]
      split <;> rfl
    · rw [if_neg h]
      simp only [mapLook, ih]
      by_cases h2 : eqT K y e.1 = true
      · have := (hE _ _).1 h2
        subst this
        rw [if_pos h2, if_neg (fun h3 => h ((hE _ _).2 ((hE _ _).1 h3).symm)), if_pos h2]
      · rw [if_neg h2, if_neg h2]
theorem look_isSome (m : MP K V) (x : K.den) : (mapLook m x).isSome = true ↔ x ∈ keysM m := by
  induction m with
  | nil => simp [mapLook, keysM]
  | cons e m ih =>
    simp only [mapLook, keysM, List.map_cons, List.mem_cons]
    by_cases h : eqT K x e.1 = true
    · rw [if_pos h]; exact ⟨fun _ => .inl ((hE _ _).1 h), fun _ => rfl⟩
    · rw [if_neg h]; exact ih.trans ⟨.inr, fun h' => h'.resolve_left fun h2 => h ((hE _ _).2 h2)⟩
theorem look_none {m : MP K V} {x : K.den} (h : x ∉ keysM m) : mapLook m x = none := by
  cases hq : mapLook m x with
  | none => rfl
  | some v => exact absurd ((look_isSome hE m x).1 (by rw [hq]; rfl)) h
theorem look_del {m : MP K V} (hm : (keysM m).Nodup) (x y : K.den) : mapLook (mapDel m x) y = if eqT K y x = true then none else mapLook m y := by
  induction m with
  | nil => simp [mapDel, mapLook]
  | cons e m ih =>
    simp only [keysM, List.map_cons, List.nodup_cons] at hm
    simp only [mapDel]
    by_cases h : eqT K x e.1 = true
    · rw [if_pos h]
      have := (hE _ _).1 h
      subst this
      simp only [mapLook]
      by_cases h2 : eqT K y e.1 = true
      · rw [if_pos h2, (hE _ _).1 h2, look_none hE hm.1]
      · rw [if_neg h2, if_neg h2]
    · rw [if_neg h]
      simp only [mapLook, ih hm.2]
      by_cases h2 : eqT K y e.1 = true
      · have := (hE _ _).1 h2
        subst this
        rw [if_pos h2, if_neg (fun h3 => h ((hE _ _).2 ((hE _ _).1 h3).symm)), if_pos h2]
      · rw [if_neg h2, if_neg h2]
theorem keys_put (m : MP K V) (x : K.den) (v : V.den) (y : K.den) : y ∈ keysM (mapPut m x v) ↔ y ∈ keysM m ∨ y = x := by
  rw [← look_isSome hE, ← look_isSome hE, look_put hE]
  by_cases h : eqT K y x = true
  · rw [if_pos h]; exact ⟨fun _ => .inr ((hE _ _).1 h), fun _ => rfl⟩
  · rw [if_neg h]; exact ⟨.inl, fun h' => h'.resolve_right fun h2 => h ((hE _ _).2 h2)⟩
theorem nodup_put {m : MP K V} (hm : (keysM m).Nodup) (x : K.den) (v : V.den) : (keysM (mapPut m x v)).Nodup := by
  induction m with
  | nil => simp [mapPut, keysM]
  | cons e m ih =>
    simp only [keysM, List.map_cons, List.nodup_cons] at hm
    simp only [mapPut]
    by_cases h : eqT K x e.1 = true
    · rw [if_pos h]
      have := (hE _ _).1 h
      simp only [keysM, List.map_cons, List.nodup_cons, this]
      exact hm
    · rw [if_neg h]
      simp only [keysM, List.map_cons, List.nodup_cons]
      refine ⟨fun hh => ?_, ih hm.2⟩
      rcases (keys_put hE m x v e.1).1 hh with hh | hh
      · exact hm.1 hh
      · exact h ((hE _ _).2 hh.symm)
omit hE in
theorem del_sub (m : MP K V) (x : K.den) : (mapDel m x).Sublist m := by
  induction m with
  | nil => exact List.Sublist.refl _
  | cons e m ih =>
    simp only [mapDel]
    split
    · exact List.sublist_cons_self _ _
    · exact ih.cons_cons _
theorem nodup_del {m : MP K V} (hm : (keysM m).Nodup) (x : K.den) : (keysM (mapDel m x)).Nodup := hm.sublist ((del_sub m x).map _)

/-- one value is out -/
def remL (K : Ty) : List K.den → K.den → List K.den
  | [], _ => []
  | y :: l, x => if eqT K x y then l else y :: remL K l x
omit hE in
theorem out_rem : ∀ {l : List K.den} {x : K.den}, isIn K l x = true → outI l (idxF K l x) = remL K l x
  | [], x, h => by simp [isIn] at h
  | y :: l, x, h => by
    rw [idxF_in h]
    simp only [outI, Int.toNat_natCast, remL, List.findIdx_cons]
    cases hq : eqT K x y with
    | true => rfl
    | false =>
      have h' : isIn K l x = true := by simpa [isIn, hq] using h
      have := out_rem h'
      rw [idxF_in h'] at this
      simp only [outI, Int.toNat_natCast] at this
      simp only [cond_false, List.take_succ_cons, List.drop_succ_cons, List.cons_append, Bool.false_eq_true, if_false]
      rw [this]
omit hE in
theorem rem_sub (l : List K.den) (x : K.den) : (remL K l x).Sublist l := by
  induction l with
  | nil => exact List.Sublist.refl _
  | cons e m ih =>
    simp only [remL]
    split
    · exact List.sublist_cons_self _ _
    · exact ih.cons_cons _
theorem mem_rem {l : List K.den} (hl : l.Nodup) (x y : K.den) : y ∈ remL K l x ↔ y ∈ l ∧ y ≠ x := by
  induction l with
  | nil => simp [remL]
  | cons e l ih =>
    simp only [List.nodup_cons] at hl
    simp only [remL]
    by_cases h : eqT K x e = true
    · rw [if_pos h]
      have := (hE _ _).1 h
      subst this
      simp only [List.mem_cons]
      exact ⟨fun h => ⟨.inr h, fun h2 => hl.1 (h2 ▸ h)⟩, fun h => h.1.resolve_left h.2⟩
    · rw [if_neg h]
      simp only [List.mem_cons, ih hl.2]
      have hne : e ≠ x := fun h2 => h ((hE _ _).2 h2.symm)
      constructor
      · rintro (rfl | ⟨h1, h2⟩)
        · exact ⟨.inl rfl, hne⟩
        · exact ⟨.inr h1, h2⟩
      · rintro ⟨h1 | h1, h2⟩
        · exact .inl h1
        · exact .inr ⟨h1, h2⟩
omit hE in
theorem rem_len {l : List K.den} {x : K.den} (h : isIn K l x = true) : (remL K l x).length + 1 = l.length := by
  induction l with
  | nil => simp [isIn] at h
  | cons e l ih =>
    simp only [remL]
    cases hq : eqT K x e with
    | true => rfl
    | false =>
      have h' : isIn K l x = true := by simpa [isIn, hq] using h
      simp only [Bool.false_eq_true, if_false, List.length_cons, ih h']

/-- a table that may be -/
structure Wf (hs : Tb K V) : Prop where
  lo : (1 : Int) ≤ hs.1.1
  hi : hs.1.1 ≤ (1000 : Int)
  len : (List.length (α := K.den) hs.2.1 : Int) ≤ hs.1.1
  nod : List.Nodup (α := K.den) hs.2.1
  nodm : (keysM (K := K) (V := V) hs.2.2.1).Nodup
  same : ∀ x : K.den, (mapLook (K := K) (V := V) hs.2.2.1 x).isSome = isIn K hs.2.1 x

omit hE in
theorem Wf.ok {hs : Tb K V} (h : Wf hs) : List.length (α := K.den) hs.2.1 ≤ 1000 := Int.ofNat_le.1 (Int.le_trans h.len h.hi)
omit hE in
theorem Wf.dropP {hs : Tb K V} (h : Wf hs) (x : K.den) : dropP K V x hs = true := by
  simp only [Cache.dropP, okL, Bool.and_eq_true, decide_eq_true_eq, Bool.or_eq_true, Bool.not_eq_true']
  refine ⟨h.ok, ?_⟩
  rw [h.same x]
  cases isIn K hs.2.1 x
  · exact .inl rfl
  · exact .inr rfl
omit hE in
theorem Wf.putP {hs : Tb K V} (h : Wf hs) (x : K.den) (v : V.den) : putP K V x v hs = true := by
  simp only [Cache.putP, okL, Bool.and_eq_true, decide_eq_true_eq]
  exact ⟨h.ok, h.lo⟩
omit hE in
theorem drop_in {hs : Tb K V} (h : Wf hs) {x : K.den} (hx : isIn K hs.2.1 x = true) : dropF K V x hs = ((true, ()), (hs.1, remL K hs.2.1 x, mapDel (K := K) (V := V) hs.2.2.1 x, ())) := by
  have hs' := (h.same x).trans hx
  unfold dropF
  rw [if_pos hs', out_rem hx, hs']
omit hE in
theorem drop_out {hs : Tb K V} (h : Wf hs) {x : K.den} (hx : isIn K hs.2.1 x = false) : dropF K V x hs = ((false, ()), hs) := by
  have hs' := (h.same x).trans hx
  unfold dropF
  rw [if_neg (by rw [hs']; simp), hs']
theorem Wf.drop {hs : Tb K V} (h : Wf hs) (x : K.den) : Wf (K := K) (V := V) (dropF K V x hs).2 := by
  cases hx : isIn K hs.2.1 x with
  | false => rw [drop_out h hx]; exact h
  | true =>
    rw [drop_in h hx]
    have hlen := rem_len hx
    have := h.len
    refine ⟨h.lo, h.hi, ?_, h.nod.sublist (rem_sub _ _), nodup_del hE h.nodm x, fun y => ?_⟩
    · show ((remL K hs.2.1 x).length : Int) ≤ hs.1.1
      omega
    · show (mapLook (mapDel (K := K) (V := V) hs.2.2.1 x) y).isSome = isIn K (remL K hs.2.1 x) y
      rw [look_del hE h.nodm, Bool.eq_iff_iff, isIn_iff hE, mem_rem hE h.nod]
      by_cases h2 : eqT K y x = true
      · rw [if_pos h2]
        exact ⟨fun h => by simp at h, fun h => absurd ((hE _ _).1 h2) h.2⟩
      · rw [if_neg h2, h.same y, isIn_iff hE]
        exact ⟨fun h => ⟨h, fun h3 => h2 ((hE _ _).2 h3)⟩, fun h => h.1⟩

theorem put_in {hs : Tb K V} (h : Wf hs) {x : K.den} (hx : isIn K hs.2.1 x = true) (v : V.den) : putF K V x v hs = ((dflt K, false, ()), (hs.1, hs.2.1, mapPut (K := K) (V := V) hs.2.2.1 x v, ())) := by
  have hs' := (h.same x).trans hx
  unfold putF goneF roomF fullF
  simp only [hs', Bool.not_true, Bool.false_and, Bool.false_eq_true, if_false, if_true]
theorem put_new {hs : Tb K V} (h : Wf hs) {x : K.den} (hx : isIn K hs.2.1 x = false) (hl : (List.length (α := K.den) hs.2.1 : Int) ≠ hs.1.1) (v : V.den) : putF K V x v hs = ((dflt K, false, ()), (hs.1, List.append (α := K.den) hs.2.1 [x], mapPut (K := K) (V := V) hs.2.2.1 x v, ())) := by
  have hs' := (h.same x).trans hx
  have hl' : ((List.length (α := K.den) hs.2.1 : Int) == hs.1.1) = false := by simpa using hl
  unfold putF goneF roomF fullF
  simp only [hs', hl', Bool.not_false, Bool.true_and, Bool.false_eq_true, if_false]
omit hE in
theorem put_full {hs : Tb K V} (h : Wf hs) {x : K.den} (hx : isIn K hs.2.1 x = false) (hl : (List.length (α := K.den) hs.2.1 : Int) = hs.1.1) (v : V.den) :
    putF K V x v hs = ((List.getD (α := K.den) hs.2.1 0 (dflt K), true, ()), (let d := (dropF K V (List.getD (α := K.den) hs.2.1 0 (dflt K)) hs).2; (d.1, List.append (α := K.den) d.2.1 [x], mapPut (K := K) (V := V) d.2.2.1 x v, ()))) := by
  have hs' := (h.same x).trans hx
  have hl' : ((List.length (α := K.den) hs.2.1 : Int) == hs.1.1) = true := by simpa using hl
  unfold putF goneF roomF fullF
  simp only [hs', hl', Bool.not_false, Bool.true_and, Bool.false_eq_true, if_false, if_true]

theorem Wf.app {n : Int} {u1 u2 u3 : Unit} {l : List K.den} {m : MP K V} (h : Wf (K := K) (V := V) ((n, u1, u2, u3), l, m, ())) {x : K.den} (hx : isIn K l x = false) (hl : (l.length : Int) < n) (v : V.den) : Wf (K := K) (V := V) ((n, u1, u2, u3), l.append [x], mapPut m x v, ()) := by
  have hn : x ∉ l := fun hm => by rw [(isIn_iff hE).2 hm] at hx; cases hx
  refine ⟨h.lo, h.hi, ?_, ?_, nodup_put hE h.nodm x v, fun y => ?_⟩
  · show ((l ++ [x]).length : Int) ≤ n
    rw [List.length_append, List.length_singleton]; omega
  · show (l ++ [x]).Nodup
    rw [List.nodup_append]
    exact ⟨h.nod, by simp, fun a ha b hb => by
      simp only [List.mem_singleton] at hb
      subst hb
      exact fun h => hn (h ▸ ha)⟩
  · show (mapLook (mapPut m x v) y).isSome = isIn K (l ++ [x]) y
    have hq := h.same y
    have hq : (mapLook m y).isSome = isIn K l y := hq
    rw [look_put hE]
    simp only [isIn, List.any_append, List.any_cons, List.any_nil, Bool.or_false]
    by_cases h2 : eqT K y x = true
    · rw [if_pos h2, h2, Bool.or_true]; rfl
    · rw [if_neg h2, Bool.eq_false_iff.2 h2, Bool.or_false]; exact hq
theorem head_in {l : List K.den} (h : 0 < l.length) : isIn K l (l.getD 0 (dflt K)) = true := okIn_zero (eq_self hE) h
omit hE in
theorem Wf.eta {hs : Tb K V} (h : Wf hs) : Wf (K := K) (V := V) ((hs.1.1, hs.1.2.1, hs.1.2.2.1, hs.1.2.2.2), hs.2.1, hs.2.2.1, ()) := h
theorem Wf.put {hs : Tb K V} (h : Wf hs) (x : K.den) (v : V.den) : Wf (K := K) (V := V) (putF K V x v hs).2 := by
  cases hx : isIn K hs.2.1 x with
  | true =>
    rw [put_in hE h hx]
    refine ⟨h.lo, h.hi, h.len, h.nod, nodup_put hE h.nodm x v, fun y => ?_⟩
    show (mapLook (mapPut (K := K) (V := V) hs.2.2.1 x v) y).isSome = isIn K hs.2.1 y
    rw [look_put hE]
    by_cases h2 : eqT K y x = true
    · rw [if_pos h2, (hE _ _).1 h2, hx]; rfl
    · rw [if_neg h2]; exact h.same y
  | false =>
    by_cases hl : (List.length (α := K.den) hs.2.1 : Int) = hs.1.1
    · rw [put_full h hx hl]
      have h0 : 0 < List.length (α := K.den) hs.2.1 := by have := h.lo; omega
      have hi := head_in hE h0
      have hd := h.drop hE (List.getD (α := K.den) hs.2.1 0 (dflt K))
      rw [drop_in h hi] at hd ⊢
      have hlen := rem_len hi
      refine Wf.app hE (Wf.eta hd) ?_ ?_ v
      · rw [Bool.eq_false_iff]
        intro hm
        rw [isIn_iff hE] at hm
        have := (isIn_iff hE).2 ((mem_rem hE h.nod _ _).1 hm).1
        rw [hx] at this; cases this
      · show ((remL K hs.2.1 _).length : Int) < hs.1.1
        omega
    · rw [put_new hE h hx hl]
      exact Wf.app hE (Wf.eta h) hx (by have := h.len; show (List.length (α := K.den) hs.2.1 : Int) < hs.1.1; omega) v
omit hE in
theorem Wf.new {n : Int} (h : okR n = true) : Wf (K := K) (V := V) (newF K V n).2 := by
  have := okR_t h
  exact ⟨this.1, this.2, by show ((0 : Nat) : Int) ≤ n; omega, List.nodup_nil, List.nodup_nil, fun x => rfl⟩
theorem put_look {hs : Tb K V} (h : Wf hs) (x : K.den) (v : V.den) : mapLook (K := K) (V := V) (putF K V x v hs).2.2.2.1 x = some v := by
  cases hx : isIn K hs.2.1 x with
  | true => rw [put_in hE h hx]; show mapLook (mapPut _ _ _) _ = _; rw [look_put hE, if_pos (eq_self hE x)]
  | false =>
    by_cases hl : (List.length (α := K.den) hs.2.1 : Int) = hs.1.1
    · rw [put_full h hx hl]; show mapLook (mapPut _ _ _) _ = _; rw [look_put hE, if_pos (eq_self hE x)]
    · rw [put_new hE h hx hl]; show mapLook (mapPut _ _ _) _ = _; rw [look_put hE, if_pos (eq_self hE x)]
end
end Go.Proofs.Ytfimgngiaggplaa.Cache

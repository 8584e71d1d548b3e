/- Regions that draw their order (2): what orders the model draws. Nothing here is about one program. -/
import Derived.Test.YtodjkocikflmnaaE16
set_option linter.unusedVariables false
namespace Vse
open Go

/-- one operation goes before another, by the edges -/
inductive Anc (ops : List Oper) : Nat → Nat → Prop
  | edge {i x : Nat} {o : Oper} {e : Edge} (h : ops[x]? = some o) (he : e ∈ o.after.toList) (hb : Region.binds .any e = true) (hi : e.on = i) : Anc ops i x
  | step {i x : Nat} {o : Oper} {e : Edge} (h : ops[x]? = some o) (he : e ∈ o.after.toList) (hb : Region.binds .any e = true) (hi : Anc ops i e.on) : Anc ops i x

theorem maskOf_spec {acc : List Nat} {i : Nat} : ∀ {es : List Edge}, (maskOf acc es).testBit i = true → ∃ e ∈ es, Region.binds .any e = true ∧ (e.on = i ∨ (acc.getD e.on 0).testBit i = true)
  | [], h => by simp [maskOf] at h
  | e :: es, h => by
    simp only [maskOf] at h
    split at h
    · rename_i hb
      rw [Nat.testBit_or, Nat.testBit_or] at h
      simp only [Bool.or_eq_true] at h
      rcases h with (h | h) | h
      · rw [Nat.testBit_two_pow] at h
        exact ⟨e, by simp, hb, .inl (by simpa using h)⟩
      · exact ⟨e, by simp, hb, .inr h⟩
      · obtain ⟨e', h1, h2⟩ := maskOf_spec h
        exact ⟨e', by simp [h1], h2⟩
    · obtain ⟨e', h1, h2⟩ := maskOf_spec h
      exact ⟨e', by simp [h1], h2⟩

theorem masks_spec {ops : List Oper} : ∀ {os : List Oper} {acc : List Nat}, ops.drop acc.length = os → (∀ x i, x < acc.length → (acc.getD x 0).testBit i = true → Anc ops i x) →
    ∀ x i, ((masks os acc).getD x 0).testBit i = true → Anc ops i x
  | [], acc, hd, h, x, i, hb => by
    simp only [masks] at hb
    by_cases hx : x < acc.length
    · exact h x i hx hb
    · rw [List.getD_eq_getElem?_getD, List.getElem?_eq_none (by omega)] at hb; simp at hb
  | o :: os, acc, hd, h, x, i, hb => by
    simp only [masks] at hb
    have hlt : acc.length < ops.length := by
      rcases Nat.lt_or_ge acc.length ops.length with h' | h'
      · exact h'
      · rw [List.drop_of_length_le h'] at hd; cases hd
    have ho : ops[acc.length]? = some o := by
      rw [List.drop_eq_getElem_cons hlt] at hd
      simp only [List.cons.injEq] at hd
      rw [List.getElem?_eq_getElem hlt, hd.1]
    refine masks_spec (acc := acc ++ [maskOf acc o.after.toList]) ?_ ?_ x i hb
    · rw [List.length_append, List.length_singleton]
      rw [List.drop_eq_getElem_cons hlt] at hd
      simp only [List.cons.injEq] at hd
      exact hd.2
    · intro y j hy hj
      rw [List.length_append, List.length_singleton] at hy
      by_cases hyl : y < acc.length
      · rw [List.getD_eq_getElem?_getD, List.getElem?_append_left hyl, ← List.getD_eq_getElem?_getD] at hj
        exact h y j hyl hj
      · have : y = acc.length := by omega
        subst this
        rw [List.getD_eq_getElem?_getD, List.getElem?_append_right (by omega)] at hj
        simp only [Nat.sub_self, List.getElem?_cons_zero, Option.getD_some] at hj
        obtain ⟨e, h1, h2, h3⟩ := maskOf_spec hj
        rcases h3 with h3 | h3
        · exact .edge ho h1 h2 h3
        · refine .step ho h1 h2 ?_
          by_cases he : e.on < acc.length
          · exact h _ _ he h3
          · rw [List.getD_eq_getElem?_getD, List.getElem?_eq_none (by omega)] at h3; simp at h3

def before (ops : List Oper) (a x : Nat) : Prop := ((masks ops []).getD x 0).testBit a = true

theorem before_anc {ops : List Oper} {a x : Nat} (h : before ops a x) : Anc ops a x :=
  masks_spec (ops := ops) (os := ops) (acc := []) rfl (fun x i hx => by simp at hx) x a h

/-- whatever goes before something listed is listed -/
def Shut (ops : List Oper) (acc : List Nat) : Prop := ∀ x ∈ acc, ∀ o, ops[x]? = some o → ∀ e ∈ o.after.toList, Region.binds .any e = true → e.on ∈ acc

theorem Shut.anc {ops : List Oper} {acc : List Nat} (h : Shut ops acc) {a x : Nat} (ha : Anc ops a x) : x ∈ acc → a ∈ acc := by
  induction ha with
  | edge ho he hb hi => intro hx; rw [← hi]; exact h _ hx _ ho _ he hb
  | step ho he hb _ ih => intro hx; exact ih (h _ hx _ ho _ he hb)

theorem edgesOk_spec {ops : List Oper} : ∀ {os : List Oper} {n : Nat}, edgesOk os n = true → ∀ k o, os[k]? = some o → ∀ e ∈ o.after.toList, Region.binds .any e = true → e.on < n + k
  | [], n, _, k, o, h => by simp at h
  | o' :: os, n, h, 0, o, ho => by
    simp only [List.getElem?_cons_zero, Option.some.injEq] at ho
    subst ho
    simp only [edgesOk, Bool.and_eq_true, List.all_eq_true] at h
    intro e he hb
    have := h.1 e he
    simpa [hb] using this
  | o' :: os, n, h, k + 1, o, ho => by
    simp only [List.getElem?_cons_succ] at ho
    simp only [edgesOk, Bool.and_eq_true] at h
    intro e he hb
    have := edgesOk_spec (ops := ops) h.2 k o ho e he hb
    omega

theorem nodup_rev {l : List Nat} (h : l.Nodup) : l.reverse.Nodup := List.pairwise_reverse.2 (h.imp fun hab => hab.symm)

structure Lin (ops : List Oper) (listed : Array Bool) (acc : List Nat) : Prop where
  size : listed.size = ops.length
  mem : ∀ i, i < ops.length → listed.getD i true = decide (i ∈ acc)
  memF : ∀ i, i < ops.length → listed.getD i false = decide (i ∈ acc)
  nodup : acc.Nodup
  lt : ∀ i ∈ acc, i < ops.length
  shut : Shut ops acc
  pw : acc.reverse.Pairwise (fun x a => ¬ before ops a x)

theorem least {p : Nat → Prop} : ∀ n, (∀ j < n, p j) ∨ ∃ i < n, ¬ p i ∧ ∀ j < i, p j
  | 0 => .inl (by simp)
  | n + 1 => by
    rcases least (p := p) n with h | ⟨i, h1, h2, h3⟩
    · by_cases hn : p n
      · exact .inl fun j hj => by
          rcases Nat.lt_or_ge j n with hj' | hj'
          · exact h j hj'
          · rw [show j = n by omega]; exact hn
      · exact .inr ⟨n, by omega, hn, h⟩
    · exact .inr ⟨i, by omega, h2, h3⟩

theorem lin_go {ops : Array Oper} (hE : edgesOk ops.toList 0 = true) : ∀ (fuel t : Nat) (listed : Array Bool) (acc : List Nat), Lin ops.toList listed acc → acc.length + fuel = ops.size →
    let s := Region.linearise.go .any ops fuel t listed acc
    s.Nodup ∧ (List.range ops.size).Perm s ∧ s.Pairwise (fun x a => ¬ before ops.toList a x)
  | 0, t, listed, acc, h, hl => by
    simp only [Region.linearise.go]
    refine ⟨nodup_rev h.nodup, ?_, h.pw⟩
    have hn : acc.length = ops.size := by omega
    rw [List.perm_ext_iff_of_nodup List.nodup_range (nodup_rev h.nodup)]
    intro a
    simp only [List.mem_range, List.mem_reverse]
    refine ⟨fun ha => ?_, fun ha => by simpa using h.lt a ha⟩
    rcases Classical.em (a ∈ acc) with h' | h'
    · exact h'
    · exfalso
      have : (a :: acc).Nodup := List.nodup_cons.2 ⟨h', h.nodup⟩
      have hsub : (a :: acc) ⊆ List.range ops.size := by
        intro b hb
        simp only [List.mem_cons] at hb
        rcases hb with rfl | hb
        · simpa using ha
        · simpa using h.lt b hb
      have := List.Nodup.length_le_of_subset this hsub
      simp at this
      omega
  | fuel + 1, t, listed, acc, h, hl => by
    simp only [Region.linearise.go]
    generalize hrs : (List.range ops.size).filter (fun i => !listed.getD i true && ((ops[i]?).map (·.after.all fun e => !Region.binds .any e || listed.getD e.on false)).getD false) = rs
    have hne : rs ≠ [] := by
      rcases least (p := fun i => i ∈ acc) ops.size with hall | ⟨i, hi, hni, hlow⟩
      · exfalso
        have hsub : List.range ops.size ⊆ acc := fun b hb => hall b (by simpa using hb)
        have := List.Nodup.length_le_of_subset List.nodup_range hsub
        simp at this
        omega
      · have hmem : i ∈ rs := by
          rw [← hrs]
          simp only [List.mem_filter, List.mem_range]
          refine ⟨hi, ?_⟩
          have h1 := h.mem i (by simpa using hi)
          rw [h1]
          simp only [hni, decide_false, Bool.not_false, Bool.true_and]
          rw [Array.getElem?_eq_getElem hi]
          simp only [Option.map_some, Option.getD_some, Array.all_eq_true, Bool.or_eq_true, Bool.not_eq_true']
          intro k hk
          by_cases hb : Region.binds .any (ops[i].after[k]) = true
          · right
            have hlt : (ops[i].after[k]).on < 0 + i := edgesOk_spec (ops := ops.toList) hE i ops[i] (by simp [hi]) _ (by simp) hb
            have := h.memF _ (show (ops[i].after[k]).on < ops.toList.length by simp; omega)
            rw [this]
            simpa using hlow _ (by omega)
          · left; simpa using hb
        intro hrs'; rw [hrs'] at hmem; simp at hmem
    have hlen : 0 < rs.length := List.length_pos_iff.2 hne
    have hlt : t % rs.length < rs.length := Nat.mod_lt _ hlen
    rw [List.getElem?_eq_getElem hlt]
    simp only
    have hi : rs[t % rs.length] ∈ rs := List.getElem_mem hlt
    generalize rs[t % rs.length] = i at hi
    rw [← hrs] at hi
    simp only [List.mem_filter, List.mem_range, Bool.and_eq_true, Bool.not_eq_true'] at hi
    obtain ⟨hin, hiu, hip⟩ := hi
    have hni : i ∉ acc := by
      have := h.mem i (by simpa using hin)
      rw [hiu] at this
      simpa using this.symm
    have hpre : ∀ e ∈ ops[i].after.toList, Region.binds .any e = true → e.on ∈ acc := by
      intro e he hb
      rw [Array.getElem?_eq_getElem hin] at hip
      simp only [Option.map_some, Option.getD_some, Array.all_eq_true, Bool.or_eq_true, Bool.not_eq_true'] at hip
      obtain ⟨k, hk, rfl⟩ := List.getElem_of_mem he
      have := hip k (by simpa using hk)
      simp only [Array.getElem_toList] at hb
      rcases this with h' | h'
      · rw [hb] at h'; cases h'
      · simp only [Array.getElem_toList]
        by_cases hlt' : (ops[i].after[k]'(by simpa using hk)).on < ops.toList.length
        · have h2 := h.memF _ hlt'
          rw [h'] at h2
          simpa using h2.symm
        · rw [Array.getD_eq_getD_getElem?, Array.getElem?_eq_none (by rw [h.size]; omega)] at h'
          simp at h'
    refine lin_go hE fuel _ _ _ ?_ (by simp; omega)
    refine ⟨by simp [h.size], ?_, ?_, List.nodup_cons.2 ⟨hni, h.nodup⟩, ?_, ?_, ?_⟩
    · intro j hj
      have hj' := h.mem j hj
      rw [Array.getD_eq_getD_getElem?] at hj' ⊢
      rw [Array.getElem?_setIfInBounds]
      by_cases hij : i = j
      · subst hij
        have hls : i < listed.size := by rw [h.size]; exact hj
        rw [if_pos rfl, if_pos hls]; simp
      · rw [if_neg hij]
        rw [hj']
        have : j ≠ i := fun h => hij h.symm
        simp [this]
    · intro j hj
      have hj' := h.memF j hj
      rw [Array.getD_eq_getD_getElem?] at hj' ⊢
      rw [Array.getElem?_setIfInBounds]
      by_cases hij : i = j
      · subst hij
        have hls : i < listed.size := by rw [h.size]; exact hj
        rw [if_pos rfl, if_pos hls]; simp
      · rw [if_neg hij]
        rw [hj']
        have : j ≠ i := fun h => hij h.symm
        simp [this]
    · intro j hj
      simp only [List.mem_cons] at hj
      rcases hj with rfl | hj
      · simpa using hin
      · exact h.lt j hj
    · intro x hx o ho e he hb
      simp only [List.mem_cons] at hx ⊢
      rcases hx with rfl | hx
      · right
        have : ops.toList[x]? = some ops[x] := by simp [hin]
        rw [this] at ho
        simp only [Option.some.injEq] at ho
        subst ho
        exact hpre e he hb
      · exact .inr (h.shut x hx o ho e he hb)
    · simp only [List.reverse_cons]
      rw [List.pairwise_append]
      refine ⟨h.pw, by simp, ?_⟩
      intro x hx a ha
      simp only [List.mem_singleton] at ha
      subst ha
      intro hb
      exact hni (h.shut.anc (before_anc hb) (by simpa using hx))

theorem lin_spec {ops : Array Oper} (hE : edgesOk ops.toList 0 = true) (t : Nat) :
    (Region.linearise .any ops t).Nodup ∧ (List.range ops.size).Perm (Region.linearise .any ops t) ∧ (Region.linearise .any ops t).Pairwise (fun x a => ¬ before ops.toList a x) := by
  refine lin_go hE ops.size t (Array.replicate ops.size false) [] ?_ (by simp)
  refine ⟨by simp, ?_, ?_, List.nodup_nil, by simp, fun x hx => by simp at hx, by simp⟩
  · intro i hi
    have : i < ops.size := by simpa using hi
    simp [Array.getD_eq_getD_getElem?, this]
  · intro i hi
    have : i < ops.size := by simpa using hi
    simp [Array.getD_eq_getD_getElem?, this]

end Vse

/- Spans swept (layer 7, sweep): votes, and the first time that has enough. Plain: no program in sight. -/
import Derived.Test.YtmolcddccjgliaaG1
set_option linter.unusedVariables false
namespace Go.Proofs.Ytmolcddccjgliaa.Sweep
open Go Vse Go.Proofs Gen

abbrev Sp := Int × Int
def has (s : Sp) (t : Int) : Bool := decide (s.1 ≤ t) && decide (t ≤ s.2)
def votes (l : List Sp) (t : Int) : Nat := l.countP fun s => has s t
/-- an end comes ahead of another one: by time; of one time those that begin -/
def lt (x y : Sp) : Bool := decide (x.1 < y.1) || (decide (x.1 = y.1) && decide (y.2 < x.2))
def endsOf (l : List Sp) : List Sp := l.flatMap fun s => [(s.1, 1), (s.2, -1)]
def sums (E : List Sp) : Int := (E.map fun e => e.2).sum
/-- no later one is ahead of an earlier one -/
def Srt (E : List Sp) : Prop := E.Pairwise fun x y => lt y x = false
def unit (E : List Sp) : Prop := ∀ e ∈ E, e.2 = 1 ∨ e.2 = -1

/-- the first time at which there are so many votes -/
def fst (need : Int) : Int → List Sp → Option Int
  | _, [] => none
  | n, e :: E => if n + e.2 ≥ need then some e.1 else fst need (n + e.2) E

theorem fst_some {need : Int} : ∀ {E : List Sp} {n t : Int}, fst need n E = some t → ∃ P e Q, E = P ++ e :: Q ∧ e.1 = t ∧ n + sums (P ++ [e]) ≥ need ∧ (∀ P', P' <+: P → P' ≠ [] → n + sums P' < need)
  | [], n, t, h => by cases h
  | e :: E, n, t, h => by
    simp only [fst] at h
    split at h
    · rename_i hn
      cases h
      refine ⟨[], e, E, rfl, rfl, by simpa [sums] using hn, fun P' hP hne => ?_⟩
      exact absurd (List.prefix_nil.1 hP) hne
    · rename_i hn
      obtain ⟨P, e', Q, rfl, h2, h3, h4⟩ := fst_some h
      refine ⟨e :: P, e', Q, rfl, h2, by simp [sums] at h3 ⊢; omega, fun P' hP hne => ?_⟩
      cases P' with
      | nil => exact absurd rfl hne
      | cons a P' =>
        obtain ⟨ea, hP2⟩ := List.cons_prefix_cons.1 hP
        subst ea
        by_cases h0 : P' = []
        · subst h0; simp [sums] at hn ⊢; omega
        · have := h4 P' hP2 h0
          simp [sums] at this ⊢; omega
theorem fst_none {need : Int} : ∀ {E : List Sp} {n : Int}, fst need n E = none → ∀ P, P <+: E → P ≠ [] → n + sums P < need
  | [], n, _, P, hP, hne => absurd (List.prefix_nil.1 hP) hne
  | e :: E, n, h, P, hP, hne => by
    simp only [fst] at h
    split at h
    · cases h
    · rename_i hn
      cases P with
      | nil => exact absurd rfl hne
      | cons a P =>
        obtain ⟨ea, hP2⟩ := List.cons_prefix_cons.1 hP
        subst ea
        by_cases h0 : P = []
        · subst h0; simp [sums] at hn ⊢; omega
        · have := fst_none h P hP2 h0
          simp [sums] at this ⊢; omega

theorem sums_append (A B : List Sp) : sums (A ++ B) = sums A + sums B := by simp [sums, List.sum_append]
theorem sums_perm {A B : List Sp} (h : A.Perm B) : sums A = sums B := by
  induction h with
  | nil => rfl
  | cons x _ ih => simp [sums] at ih ⊢; omega
  | swap x y l => simp [sums]; omega
  | trans _ _ ih1 ih2 => exact ih1.trans ih2

/-- the sum of what is not behind a time: its votes -/
def upTo (t : Int) (e : Sp) : Bool := !lt (t, 1) e
theorem votes_sum : ∀ (l : List Sp) (t : Int), (∀ s ∈ l, s.1 ≤ s.2) → sums ((endsOf l).filter (upTo t)) = (votes l t : Int)
  | [], t, _ => rfl
  | s :: l, t, h => by
    have ih := votes_sum l t fun x hx => h x (List.mem_cons_of_mem _ hx)
    have hs := h s (by simp)
    have e1 : endsOf (s :: l) = [(s.1, 1), (s.2, -1)] ++ endsOf l := rfl
    have e2 : votes (s :: l) t = votes l t + if has s t then 1 else 0 := by
      unfold votes
      rw [List.countP_cons]
    rw [e1, List.filter_append, sums_append, ih, e2]
    have u1 : upTo t (s.1, 1) = decide (s.1 ≤ t) := by
      unfold upTo lt
      simp
      by_cases h1 : s.1 ≤ t <;> simp [h1] <;> omega
    have u2 : upTo t (s.2, -1) = !decide (t ≤ s.2) := by
      unfold upTo lt
      simp
      by_cases h1 : t ≤ s.2 <;> simp [h1] <;> omega
    simp only [List.filter_cons, u1, u2, List.filter_nil]
    unfold has
    by_cases h1 : s.1 ≤ t <;> by_cases h2 : t ≤ s.2
    · simp [h1, h2, sums]; omega
    · simp [h1, h2, sums]
    · simp [h1, h2, sums]
    · exfalso; omega

theorem lt_trans' {x y z : Sp} (h1 : lt x y = true) (h2 : lt y z = true) : lt x z = true := by
  unfold lt at *; simp at *; omega
theorem nlt_trans {x y z : Sp} (h1 : lt y x = false) (h2 : lt z y = false) : lt z x = false := by
  unfold lt at *; simp at *; omega

/-- what is not behind a time lies ahead of all else -/
theorem upTo_prefix {E : List Sp} (hE : Srt E) (t : Int) : E.filter (upTo t) <+: E := by
  induction E with
  | nil => exact List.prefix_refl _
  | cons e E ih =>
    obtain ⟨h1, h2⟩ := List.pairwise_cons.1 hE
    by_cases he : upTo t e = true
    · rw [List.filter_cons_of_pos he]
      exact List.cons_prefix_cons.2 ⟨rfl, ih h2⟩
    · have : (e :: E).filter (upTo t) = [] := by
        rw [List.filter_eq_nil_iff]
        intro x hx
        rcases List.mem_cons.1 hx with rfl | hx
        · exact he
        · intro hu
          apply he
          have := h1 x hx
          unfold upTo lt at *
          simp at *
          omega
      rw [this]
      exact List.nil_prefix

theorem least {l E : List Sp} (hl : ∀ s ∈ l, s.1 ≤ s.2) (hp : E.Perm (endsOf l)) (hE : Srt E) {need : Int} (hn : 0 < need) :
    (∀ t, fst need 0 E = some t → need ≤ votes l t ∧ (∃ s ∈ l, s.1 = t) ∧ ∀ t', need ≤ votes l t' → t ≤ t') ∧ (fst need 0 E = none → ∀ t, (votes l t : Int) < need) := by
  have hv : ∀ t, sums (E.filter (upTo t)) = (votes l t : Int) := fun t => by rw [← votes_sum l t hl]; exact sums_perm (hp.filter _)
  have hne : ∀ t, need ≤ votes l t → E.filter (upTo t) ≠ [] := fun t ht h0 => by
    have := hv t
    rw [h0] at this
    simp [sums] at this
    omega
  refine ⟨fun t ht => ?_, fun h t => ?_⟩
  · obtain ⟨P, e, Q, rfl, rfl, h3, h4⟩ := fst_some ht
    have hmem : e ∈ endsOf l := hp.mem_iff.1 (by simp)
    have hlast : sums P < need := by
      by_cases h0 : P = []
      · subst h0; simpa [sums] using hn
      · have := h4 P (List.prefix_refl _) h0
        omega
    rw [sums_append] at h3
    have he2 : sums [e] = e.2 := by simp [sums]
    rw [he2] at h3
    obtain ⟨s, hs, hes⟩ := List.mem_flatMap.1 hmem
    have hpos : e.2 = 1 ∧ s.1 = e.1 := by
      simp only [List.mem_cons, List.not_mem_nil, or_false] at hes
      rcases hes with rfl | rfl
      · exact ⟨rfl, rfl⟩
      · simp only at h3; omega
    obtain ⟨he, hse⟩ := hpos
    -- what lies behind the first hit
    have hsplit := List.pairwise_append.1 hE
    obtain ⟨hP, hQ, hPQ⟩ := hsplit
    have hQ' := (List.pairwise_cons.1 hQ).1
    have hall : ∀ x ∈ P, upTo e.1 x = true := fun x hx => by
      have := hPQ x hx e (by simp)
      unfold upTo lt at *
      simp [he] at *
      omega
    have hself : upTo e.1 e = true := by unfold upTo lt; simp [he]
    have hQs : 0 ≤ sums (Q.filter (upTo e.1)) := by
      have : ∀ x ∈ Q.filter (upTo e.1), x.2 ≥ 1 := fun x hx => by
        obtain ⟨hx1, hx2⟩ := List.mem_filter.1 hx
        have := hQ' x hx1
        unfold upTo lt at *
        simp [he] at *
        omega
      clear hv hne ht hp hE hPQ hQ hQ' hmem h3 h4
      generalize Q.filter (upTo e.1) = R at this
      induction R with
      | nil => simp [sums]
      | cons a R ih =>
        have h1 := this a (by simp)
        have h2 := ih fun x hx => this x (List.mem_cons_of_mem _ hx)
        simp [sums] at h2 ⊢
        omega
    have hvt := hv e.1
    rw [List.filter_append, List.filter_cons_of_pos hself, List.filter_eq_self.2 hall, sums_append] at hvt
    have e3 : sums (e :: Q.filter (upTo e.1)) = e.2 + sums (Q.filter (upTo e.1)) := by simp [sums]
    rw [e3] at hvt
    refine ⟨by omega, ⟨s, hs, hse⟩, fun t' ht' => ?_⟩
    -- no time ahead of it has enough
    rcases Int.lt_or_le t' e.1 with hlt | hge
    · exfalso
      have hpre := upTo_prefix hE t'
      have hnot : ∀ x ∈ (e :: Q).filter (upTo t'), False := fun x hx => by
        obtain ⟨hx1, hx2⟩ := List.mem_filter.1 hx
        rcases List.mem_cons.1 hx1 with rfl | hx1
        · unfold upTo lt at hx2; simp at hx2; omega
        · have := hQ' x hx1
          unfold upTo lt at *
          simp [he] at *
          omega
      have hnil : (e :: Q).filter (upTo t') = [] := List.eq_nil_iff_forall_not_mem.2 hnot
      have hfil : (P ++ e :: Q).filter (upTo t') = P.filter (upTo t') := by rw [List.filter_append, hnil, List.append_nil]
      have hvt' := hv t'
      rw [hfil] at hvt'
      have hP' : P.filter (upTo t') <+: P := upTo_prefix hP t'
      have := h4 _ hP' (by rw [← hfil]; exact hne t' ht')
      omega
    · exact hge
  · rcases Int.lt_or_le (votes l t : Int) need with hlt | hge
    · exact hlt
    · have := fst_none h _ (upTo_prefix hE t) (hne t hge)
      rw [hv t] at this
      omega

end Go.Proofs.Ytmolcddccjgliaa.Sweep

/- Spans swept (layer 7, sweep): more liars; the time lies within, and no wider than the two widest. Plain: no program in sight. -/
import Derived.Test.YtmolcddccjgliaaQ2
set_option linter.unusedVariables false
namespace Go.Proofs.Ytmolcddccjgliaa.Sweep
open Go Vse Go.Proofs Gen

theorem fused_err {l : List Sp} {liars : Int} (h : (fuseF l liars).2 ≠ 0) : (fuseF l liars).1 = (0, 0) ∧ ((fuseF l liars).2 = 1 ∨ (fuseF l liars).2 = 11) := by
  unfold fuseF at *
  split
  · exact ⟨rfl, .inl rfl⟩
  · rename_i hb
    rw [if_neg hb] at h
    split
    · exact ⟨rfl, .inr rfl⟩
    · rename_i lo he
      rw [he] at h
      exact absurd rfl h

theorem fused_ok {l : List Sp} {liars : Int} (h : (fuseF l liars).2 = 0) : (wrong l = false ∧ 0 ≤ liars ∧ liars < (l.length : Int)) ∧ FusedTo l ((l.length : Int) - liars) (fuseF l liars).1 := by
  by_cases hb : wrong l = true ∨ liars < 0 ∨ liars ≥ (l.length : Int)
  · unfold fuseF at h
    rw [if_pos hb] at h
    cases h
  have h1 : wrong l = false := by
    cases h : wrong l with
    | false => rfl
    | true => exact absurd (.inl h) hb
  have h2 : 0 ≤ liars := by
    rcases Int.lt_or_le liars 0 with h | h
    · exact absurd (.inr (.inl h)) hb
    · exact h
  have h3 : liars < (l.length : Int) := by
    rcases Int.lt_or_le liars (l.length : Int) with h | h
    · exact h
    · exact absurd (.inr (.inr h)) hb
  rcases fuse_spec h1 h2 h3 with ⟨e, _⟩ | ⟨s, e, hs⟩
  · rw [e] at h; cases h
  · rw [e]; exact ⟨⟨h1, h2, h3⟩, hs⟩

/-- where some time has enough votes, there is such a span -/
theorem fused_of {l : List Sp} {liars t : Int} (h1 : wrong l = false) (h2 : 0 ≤ liars) (h3 : liars < (l.length : Int)) (ht : (l.length : Int) - liars ≤ votes l t) : (fuseF l liars).2 = 0 ∧ (fuseF l liars).1.1 ≤ t ∧ t ≤ (fuseF l liars).1.2 := by
  rcases fuse_spec h1 h2 h3 with ⟨e, hn⟩ | ⟨s, e, hs⟩
  · have := hn t; omega
  · rw [e]; exact ⟨rfl, hs.1.2.2 t ht, hs.2.2.2 t ht⟩

theorem more {l : List Sp} {liars : Int} (h : (fuseF l liars).2 = 0) :
    let a := (fuseF l liars).1
    let need := (l.length : Int) - liars
    need ≤ votes l a.1 ∧ need ≤ votes l a.2 ∧ (votes l (a.1 - 1) : Int) < need ∧ (votes l (a.2 + 1) : Int) < need ∧ a.1 ≤ a.2 ∧ (-far ≤ a.1 ∧ a.2 ≤ far) ∧
      (liars + 1 ≥ (l.length : Int) → (fuseF l (liars + 1)).2 = 1) ∧
      (liars + 1 < (l.length : Int) → (fuseF l (liars + 1)).2 = 0 ∧ (fuseF l (liars + 1)).1.1 ≤ a.1 ∧ a.2 ≤ (fuseF l (liars + 1)).1.2) := by
  obtain ⟨⟨h1, h2, h3⟩, ⟨a1, ⟨x, hx, a2⟩, a3⟩, b1, ⟨y, hy, b2⟩, b3⟩ := fused_ok h
  obtain ⟨hl, hf, hp, hm⟩ := right_of h1
  simp only
  generalize (fuseF l liars).1 = a at a1 a2 a3 b1 b2 b3
  have f1 := hf x hx
  have f2 := hf y hy
  refine ⟨a1, b1, ?_, ?_, a3 _ b1, ⟨by omega, by omega⟩, fun hge => ?_, fun hlt => ?_⟩
  · rcases Int.lt_or_le (votes l (a.1 - 1) : Int) ((l.length : Int) - liars) with h | h
    · exact h
    · have := a3 _ h; omega
  · rcases Int.lt_or_le (votes l (a.2 + 1) : Int) ((l.length : Int) - liars) with h | h
    · exact h
    · have := b3 _ h; omega
  · unfold fuseF
    rw [if_pos (.inr (.inr hge))]
  · have A := fused_of h1 (liars := liars + 1) (by omega) hlt (t := a.1) (by omega)
    have B := fused_of h1 (liars := liars + 1) (by omega) hlt (t := a.2) (by omega)
    exact ⟨A.1, A.2.1, B.2.2⟩

/-! the honest ones -/

def wd (s : Sp) : Int := s.2 - s.1
/-- how many have a time; from where to where they go; the two widest -/
structure Hon where
  n : Int
  lo : Int
  hi : Int
  w0 : Int
  w1 : Int
def honStep (t : Int) (r : Hon) (s : Sp) : Hon :=
  if has s t = true then ⟨r.n + 1, min r.lo s.1, max r.hi s.2, if wd s > r.w0 then wd s else r.w0, if wd s > r.w0 then r.w0 else if wd s > r.w1 then wd s else r.w1⟩ else r

structure HonOK (t : Int) (P : List Sp) (r : Hon) : Prop where
  n : r.n = votes P t
  all : ∀ s ∈ P, has s t = true → r.lo ≤ s.1 ∧ s.2 ≤ r.hi ∧ wd s ≤ r.w0
  w : 0 ≤ r.w1 ∧ r.w1 ≤ r.w0
  two : ∀ s ∈ P, ∀ s' ∈ P, s ≠ s' → has s t = true → has s' t = true → wd s + wd s' ≤ r.w0 + r.w1

theorem hon_step {t : Int} {P : List Sp} {r : Hon} (h : HonOK t P r) (x : Sp) : HonOK t (P ++ [x]) (honStep t r x) := by
  obtain ⟨h1, h2, h3, h4⟩ := h
  have hv : votes (P ++ [x]) t = votes P t + if has x t = true then 1 else 0 := by
    unfold votes
    rw [List.countP_append, List.countP_singleton]
  unfold honStep
  by_cases hx : has x t = true
  · rw [if_pos hx] at hv ⊢
    refine ⟨?_, fun s hs hh => ?_, ?_, fun s hs s' hs' hne hh hh' => ?_⟩
    · simp only; rw [hv, h1]; omega
    · simp only
      rcases List.mem_append.1 hs with hs | hs
      · obtain ⟨a, b, c⟩ := h2 s hs hh
        refine ⟨by omega, by omega, ?_⟩
        split <;> omega
      · rw [List.mem_singleton.1 hs]
        refine ⟨by omega, by omega, ?_⟩
        split <;> omega
    · simp only
      split
      · omega
      · split <;> omega
    · simp only
      rcases List.mem_append.1 hs with hs | hs <;> rcases List.mem_append.1 hs' with hs' | hs'
      · have := h4 s hs s' hs' hne hh hh'
        split
        · omega
        · split <;> omega
      · rw [List.mem_singleton.1 hs']
        have := (h2 s hs hh).2.2
        split
        · omega
        · split <;> omega
      · rw [List.mem_singleton.1 hs]
        have := (h2 s' hs' hh').2.2
        split
        · omega
        · split <;> omega
      · rw [List.mem_singleton.1 hs, List.mem_singleton.1 hs'] at hne
        exact absurd rfl hne
  · rw [if_neg hx] at hv ⊢
    refine ⟨by rw [hv, h1]; omega, fun s hs hh => ?_, h3, fun s hs s' hs' hne hh hh' => ?_⟩
    · rcases List.mem_append.1 hs with hs | hs
      · exact h2 s hs hh
      · rw [List.mem_singleton.1 hs] at hh; exact absurd hh hx
    · rcases List.mem_append.1 hs with hs | hs
      · rcases List.mem_append.1 hs' with hs' | hs'
        · exact h4 s hs s' hs' hne hh hh'
        · rw [List.mem_singleton.1 hs'] at hh'; exact absurd hh' hx
      · rw [List.mem_singleton.1 hs] at hh; exact absurd hh hx

theorem hon_fold {t : Int} : ∀ (m P : List Sp) (r : Hon), HonOK t P r → HonOK t (P ++ m) (m.foldl (honStep t) r)
  | [], P, r, h => by rw [List.append_nil]; exact h
  | x :: m, P, r, h => by
    have := hon_fold m (P ++ [x]) (honStep t r x) (hon_step h x)
    rw [List.append_assoc] at this
    exact this
theorem hon_all (t : Int) (l : List Sp) : HonOK t l (l.foldl (honStep t) ⟨0, t, t, 0, 0⟩) :=
  hon_fold l [] _ ⟨rfl, fun s hs => absurd hs (by simp), ⟨Int.le_refl _, Int.le_refl _⟩, fun s hs => absurd hs (by simp)⟩

theorem countP_two {α : Type} (p q : α → Bool) : ∀ l : List α, l.countP p + l.countP q ≤ l.length + l.countP fun s => p s && q s
  | [] => by simp
  | x :: l => by
    have := countP_two p q l
    rw [List.countP_cons, List.countP_cons, List.countP_cons, List.length_cons]
    cases p x <;> cases q x <;> simp <;> omega
theorem meet {l : List Sp} {t t' : Int} (h : l.length < votes l t + votes l t') : ∃ s ∈ l, has s t = true ∧ has s t' = true := by
  have := countP_two (fun s => has s t) (fun s => has s t') l
  have hp : 0 < l.countP fun s => has s t && has s t' := by unfold votes at h; omega
  obtain ⟨s, hs, hh⟩ := List.countP_pos_iff.1 hp
  exact ⟨s, hs, by simpa using hh⟩

/-- where all but liars have a time, it lies in what is fused; of less than half liars that is no wider than the two widest -/
theorem holds {l : List Sp} {liars t : Int} (h1 : wrong l = false) (h2 : 0 ≤ liars) (h3 : liars < (l.length : Int)) (hh : (l.length : Int) - liars ≤ votes l t) :
    (fuseF l liars).2 = 0 ∧ ((fuseF l liars).1.1 ≤ t ∧ t ≤ (fuseF l liars).1.2) ∧ ((-far ≤ (fuseF l liars).1.1 ∧ (fuseF l liars).1.2 ≤ far)) ∧
      (2 * liars < (l.length : Int) → wd (fuseF l liars).1 ≤ (l.foldl (honStep t) ⟨0, t, t, 0, 0⟩).w0 + (l.foldl (honStep t) ⟨0, t, t, 0, 0⟩).w1 ∧
        (l.foldl (honStep t) ⟨0, t, t, 0, 0⟩).lo ≤ (fuseF l liars).1.1 ∧ (fuseF l liars).1.2 ≤ (l.foldl (honStep t) ⟨0, t, t, 0, 0⟩).hi) := by
  obtain ⟨hl, hf, hp, hm⟩ := right_of h1
  obtain ⟨e0, e1, e2⟩ := fused_of h1 h2 h3 hh
  obtain ⟨_, ⟨a1, ⟨x, hx, a2⟩, a3⟩, b1, ⟨y, hy, b2⟩, b3⟩ := fused_ok e0
  have f1 := hf x hx
  have f2 := hf y hy
  refine ⟨e0, ⟨e1, e2⟩, ⟨by omega, by omega⟩, fun hlt => ?_⟩
  generalize (fuseF l liars).1 = a at a1 a2 a3 b1 b2 b3 e1 e2
  obtain ⟨c1, c2, c3, c4⟩ := hon_all t l
  generalize l.foldl (honStep t) ⟨0, t, t, 0, 0⟩ = r at c1 c2 c3 c4
  obtain ⟨s, hs, s1, s2⟩ := meet (l := l) (t := t) (t' := a.1) (by omega)
  obtain ⟨s', hs', s3, s4⟩ := meet (l := l) (t := t) (t' := a.2) (by omega)
  have d1 := c2 s hs s1
  have d2 := c2 s' hs' s3
  have g1 : s.1 ≤ t ∧ t ≤ s.2 := by simpa [has] using s1
  have g2 : s.1 ≤ a.1 ∧ a.1 ≤ s.2 := by simpa [has] using s2
  have g3 : s'.1 ≤ t ∧ t ≤ s'.2 := by simpa [has] using s3
  have g4 : s'.1 ≤ a.2 ∧ a.2 ≤ s'.2 := by simpa [has] using s4
  refine ⟨?_, by omega, by omega⟩
  unfold wd at *
  by_cases he : s = s'
  · subst he; omega
  · have := c4 s hs s' hs' he s1 s3
    unfold wd at this
    omega

end Go.Proofs.Ytmolcddccjgliaa.Sweep

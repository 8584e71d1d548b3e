/- Spans swept (layer 7, sweep): from the first to the last time that has enough votes; the most votes. Plain: no program in sight. -/
import Derived.Test.YtmolcddccjgliaaQ1
set_option linter.unusedVariables false
namespace Go.Proofs.Ytmolcddccjgliaa.Sweep
open Go Vse Go.Proofs Gen

/-- ..in some order of ends -/
def fstS (need sign : Int) : Int → List Sp → Option Int
  | _, [] => none
  | n, e :: E => if n + e.2 * sign ≥ need then some e.1 else fstS need sign (n + e.2 * sign) E

theorem fstS_one (need : Int) : ∀ (n : Int) (E : List Sp), fstS need 1 n E = fst need n E
  | n, [] => rfl
  | n, e :: E => by simp only [fstS, fst, Int.mul_one, fstS_one need _ E]

def neg (e : Sp) : Sp := (-e.1, -e.2)
def negS (s : Sp) : Sp := (-s.2, -s.1)
theorem fstS_neg (need : Int) : ∀ (n : Int) (E : List Sp), fst need n (E.map neg) = (fstS need (-1) n E).map fun t => -t
  | n, [] => rfl
  | n, e :: E => by
    have h : n + (neg e).2 = n + e.2 * -1 := by simp [neg]
    simp only [List.map_cons, fst, fstS, h]
    split
    · rfl
    · exact fstS_neg need _ E

theorem votes_neg (l : List Sp) (t : Int) : votes (l.map negS) (-t) = votes l t := by
  unfold votes
  rw [List.countP_map]
  congr 1
  funext s
  simp only [Function.comp, has, negS]
  rw [Bool.and_comm]
  congr 1 <;> exact decide_eq_decide.2 (by omega)

theorem greatest {l E : List Sp} (hl : ∀ s ∈ l, s.1 ≤ s.2) (hp : E.Perm (endsOf l)) (hE : Srt E) {need : Int} (hn : 0 < need) :
    (∀ t, fstS need (-1) 0 E.reverse = some t → need ≤ votes l t ∧ (∃ s ∈ l, s.2 = t) ∧ ∀ t', need ≤ votes l t' → t' ≤ t) ∧ (fstS need (-1) 0 E.reverse = none → ∀ t, (votes l t : Int) < need) := by
  have hl2 : ∀ s ∈ l.map negS, s.1 ≤ s.2 := fun s hs => by
    obtain ⟨x, hx, rfl⟩ := List.mem_map.1 hs
    have := hl x hx
    simp only [negS]; omega
  have hends : ((endsOf l).map neg).Perm (endsOf (l.map negS)) := by
    clear hp hl hl2
    induction l with
    | nil => exact List.Perm.refl _
    | cons s l ih =>
      show ((-s.1, -1) :: (-s.2, - -1) :: (endsOf l).map neg).Perm ((-s.2, 1) :: (- s.1, -1) :: endsOf (l.map negS))
      exact (List.Perm.swap _ _ _).trans ((ih.cons _).cons _)
  have hp2 : (E.reverse.map neg).Perm (endsOf (l.map negS)) := ((List.reverse_perm E).trans hp |>.map neg).trans hends
  have hE2 : Srt (E.reverse.map neg) := by
    unfold Srt
    rw [List.pairwise_map, List.pairwise_reverse]
    refine hE.imp fun {x y} h => ?_
    unfold lt neg at *
    simp at *
    omega
  obtain ⟨h1, h2⟩ := least hl2 hp2 hE2 hn
  refine ⟨fun t ht => ?_, fun h t => ?_⟩
  · obtain ⟨a, ⟨s, hs, hst⟩, c⟩ := h1 (-t) (by rw [fstS_neg, ht]; rfl)
    rw [votes_neg] at a
    obtain ⟨x, hx, rfl⟩ := List.mem_map.1 hs
    refine ⟨a, ⟨x, hx, by simp only [negS] at hst; omega⟩, fun t' ht' => ?_⟩
    have := c (-t') (by rw [votes_neg]; exact ht')
    omega
  · have := h2 (by rw [fstS_neg, h]; rfl) (-t)
    rw [votes_neg] at this
    exact this

/-- the sorted ends -/
def cmpI (x y : Int) : Int := if x < y then -1 else if y < x then 1 else 0
def cmpE (x y : Sp) : Int := if cmpI x.1 y.1 ≠ 0 then cmpI x.1 y.1 else cmpI y.2 x.2
theorem cmpE_lt (x y : Sp) : decide (cmpE x y < 0) = lt x y := by
  unfold cmpE cmpI lt
  by_cases h1 : x.1 < y.1
  · simp [h1]
  · by_cases h2 : y.1 < x.1
    · have : ¬ x.1 = y.1 := by omega
      simp [h1, h2, this]
    · have : x.1 = y.1 := by omega
      by_cases h3 : y.2 < x.2
      · simp [this, h3]
      · by_cases h4 : x.2 < y.2 <;> simp [this, h3, h4]

def ends (l : List Sp) : List Sp := (endsOf l).mergeSort fun x y => !lt y x
theorem ends_perm (l : List Sp) : (ends l).Perm (endsOf l) := List.mergeSort_perm _ _
theorem ends_srt (l : List Sp) : Srt (ends l) := by
  have h := List.pairwise_mergeSort (le := fun x y : Sp => !lt y x) (fun a b c h1 h2 => by
    simp only [Bool.not_eq_eq_eq_not, Bool.not_true] at *
    exact nlt_trans h1 h2) (fun a b => by
    unfold lt; simp; omega) (endsOf l)
  unfold Srt ends
  exact h.imp fun {x y} h => by simpa using h

/-! what spans are fused to -/

def far : Int := 1152921504606846976
def right (s : Sp) : Bool := (decide (-far ≤ s.1) && decide (s.2 ≤ far)) && decide (s.1 ≤ s.2)
def wrong (l : List Sp) : Bool := decide (l.length = 0) || decide (64 < l.length) || l.any fun s => !right s

theorem right_of {l : List Sp} (h : wrong l = false) : (∀ s ∈ l, s.1 ≤ s.2) ∧ (∀ s ∈ l, -far ≤ s.1 ∧ s.2 ≤ far) ∧ 0 < l.length ∧ l.length ≤ 64 := by
  unfold wrong at h
  simp only [Bool.or_eq_false_iff, decide_eq_false_iff_not, List.any_eq_false, Bool.not_eq_true', Bool.not_eq_false] at h
  obtain ⟨⟨h1, h2⟩, h3⟩ := h
  have hr : ∀ s ∈ l, (-far ≤ s.1 ∧ s.2 ≤ far) ∧ s.1 ≤ s.2 := fun s hs => by
    have := h3 s hs
    unfold right at this
    simpa [Bool.and_eq_true] using this
  exact ⟨fun s hs => (hr s hs).2, fun s hs => (hr s hs).1, by omega, by omega⟩

/-- a span, and an error's number -/
def fuseF (l : List Sp) (liars : Int) : Sp × Int :=
  if wrong l = true ∨ liars < 0 ∨ liars ≥ (l.length : Int) then ((0, 0), 1) else
    match fstS ((l.length : Int) - liars) 1 0 (ends l) with
    | none => ((0, 0), 11)
    | some lo => ((lo, (fstS ((l.length : Int) - liars) (-1) 0 (ends l).reverse).getD 0), 0)

def FusedTo (l : List Sp) (need : Int) (s : Sp) : Prop :=
  (need ≤ votes l s.1 ∧ (∃ x ∈ l, x.1 = s.1) ∧ ∀ t, need ≤ votes l t → s.1 ≤ t) ∧ (need ≤ votes l s.2 ∧ (∃ x ∈ l, x.2 = s.2) ∧ ∀ t, need ≤ votes l t → t ≤ s.2)

theorem fuse_spec {l : List Sp} {liars : Int} (h1 : wrong l = false) (h2 : 0 ≤ liars) (h3 : liars < (l.length : Int)) :
    (fuseF l liars = ((0, 0), 11) ∧ ∀ t, (votes l t : Int) < (l.length : Int) - liars) ∨ ∃ s, fuseF l liars = (s, 0) ∧ FusedTo l ((l.length : Int) - liars) s := by
  obtain ⟨hl, hf, hp, hm⟩ := right_of h1
  unfold fuseF
  rw [if_neg (by rintro (h | h | h); · rw [h1] at h; cases h
                 · omega
                 · omega)]
  have A := least hl (ends_perm l) (ends_srt l) (need := (l.length : Int) - liars) (by omega)
  have B := greatest hl (ends_perm l) (ends_srt l) (need := (l.length : Int) - liars) (by omega)
  rw [fstS_one]
  cases hA : fst ((l.length : Int) - liars) 0 (ends l) with
  | none => exact .inl ⟨rfl, A.2 hA⟩
  | some lo =>
    obtain ⟨a1, a2, a3⟩ := A.1 lo hA
    cases hB : fstS ((l.length : Int) - liars) (-1) 0 (ends l).reverse with
    | none => have := B.2 hB lo; omega
    | some hi =>
      exact .inr ⟨(lo, hi), rfl, ⟨a1, a2, a3⟩, B.1 hi hB⟩

/-- there is one alone -/
theorem fused_one {l : List Sp} {need : Int} {s s' : Sp} (h : FusedTo l need s) (h' : FusedTo l need s') : s = s' := by
  obtain ⟨⟨a1, a2, a3⟩, b1, b2, b3⟩ := h
  obtain ⟨⟨c1, c2, c3⟩, d1, d2, d3⟩ := h'
  have e1 := a3 _ c1
  have e2 := c3 _ a1
  have e3 := b3 _ d1
  have e4 := d3 _ b1
  exact Prod.ext (by omega) (by omega)

/-! the document's -/

def loStep (l : List Sp) (need : Int) (r : Bool × Int) (s : Sp) : Bool × Int := if need ≤ votes l s.1 ∧ (r.1 = false ∨ s.1 < r.2) then (true, s.1) else r
def hiStep (l : List Sp) (need : Int) (r : Int) (s : Sp) : Int := if need ≤ votes l s.2 then max r s.2 else r
def rfuseF (l : List Sp) (liars : Int) : Sp × Int :=
  if wrong l = true ∨ liars < 0 ∨ liars ≥ (l.length : Int) then ((0, 0), 1) else
    let r := l.foldl (loStep l ((l.length : Int) - liars)) (false, 0)
    if r.1 = false then ((0, 0), 11) else ((r.2, l.foldl (hiStep l ((l.length : Int) - liars)) r.2), 0)

theorem lo_fold (l : List Sp) (need : Int) : ∀ (m : List Sp) (r : Bool × Int),
    (m.foldl (loStep l need) r = r ∨ ((m.foldl (loStep l need) r).1 = true ∧ need ≤ votes l (m.foldl (loStep l need) r).2 ∧ (∃ s ∈ m, s.1 = (m.foldl (loStep l need) r).2) ∧ (r.1 = true → (m.foldl (loStep l need) r).2 ≤ r.2))) ∧
      ∀ s ∈ m, need ≤ votes l s.1 → (m.foldl (loStep l need) r).1 = true ∧ (m.foldl (loStep l need) r).2 ≤ s.1
  | [], r => ⟨.inl rfl, fun s hs => by cases hs⟩
  | x :: m, r => by
    obtain ⟨ih1, ih2⟩ := lo_fold l need m (loStep l need r x)
    simp only [List.foldl_cons]
    have hstep : (loStep l need r x = r ∧ (need ≤ votes l x.1 → r.1 = true ∧ r.2 ≤ x.1)) ∨ (loStep l need r x = (true, x.1) ∧ need ≤ votes l x.1 ∧ (r.1 = true → x.1 ≤ r.2)) := by
      unfold loStep
      by_cases hc : need ≤ votes l x.1 ∧ (r.1 = false ∨ x.1 < r.2)
      · rw [if_pos hc]
        refine .inr ⟨rfl, hc.1, fun hr => ?_⟩
        rcases hc.2 with h | h
        · rw [hr] at h; cases h
        · omega
      · rw [if_neg hc]
        refine .inl ⟨rfl, fun hv => ?_⟩
        by_cases hr : r.1 = true
        · exact ⟨hr, by
            rcases Int.lt_or_le x.1 r.2 with h | h
            · exact absurd ⟨hv, .inr h⟩ hc
            · exact h⟩
        · exact absurd ⟨hv, .inl (by simpa using hr)⟩ hc
    rcases hstep with ⟨e, hx⟩ | ⟨e, hv, hr⟩
    · rw [e] at ih1 ih2 ⊢
      refine ⟨?_, fun s hs hvs => ?_⟩
      · rcases ih1 with h | ⟨a, b, ⟨s, hs, c⟩, d⟩
        · exact .inl h
        · exact .inr ⟨a, b, ⟨s, List.mem_cons_of_mem _ hs, c⟩, d⟩
      · rcases List.mem_cons.1 hs with rfl | hs
        · obtain ⟨h1, h2⟩ := hx hvs
          rcases ih1 with h | ⟨a, b, c, d⟩
          · rw [h]; exact ⟨h1, h2⟩
          · exact ⟨a, by have := d h1; omega⟩
        · exact ih2 s hs hvs
    · rw [e] at ih1 ih2 ⊢
      refine ⟨.inr ?_, fun s hs hvs => ?_⟩
      · rcases ih1 with h | ⟨a, b, ⟨s, hs, c⟩, d⟩
        · rw [h]; exact ⟨rfl, hv, ⟨x, by simp, rfl⟩, hr⟩
        · have := d rfl
          simp only at this
          exact ⟨a, b, ⟨s, List.mem_cons_of_mem _ hs, c⟩, fun h => by have := hr h; omega⟩
      · rcases List.mem_cons.1 hs with rfl | hs
        · rcases ih1 with h | ⟨a, b, c, d⟩
          · rw [h]; exact ⟨rfl, Int.le_refl _⟩
          · exact ⟨a, d rfl⟩
        · exact ih2 s hs hvs

theorem hi_fold (l : List Sp) (need : Int) : ∀ (m : List Sp) (r : Int),
    r ≤ m.foldl (hiStep l need) r ∧ (∀ s ∈ m, need ≤ votes l s.2 → s.2 ≤ m.foldl (hiStep l need) r) ∧ (m.foldl (hiStep l need) r = r ∨ ∃ s ∈ m, need ≤ votes l s.2 ∧ s.2 = m.foldl (hiStep l need) r)
  | [], r => ⟨Int.le_refl _, fun s hs => absurd hs (by simp), .inl rfl⟩
  | x :: m, r => by
    obtain ⟨h1, h2, h3⟩ := hi_fold l need m (hiStep l need r x)
    simp only [List.foldl_cons]
    have hge : r ≤ hiStep l need r x := by unfold hiStep; split <;> omega
    refine ⟨Int.le_trans hge h1, fun s hs hv => ?_, ?_⟩
    · rcases List.mem_cons.1 hs with rfl | hs
      · have : s.2 ≤ hiStep l need r s := by unfold hiStep; rw [if_pos hv]; omega
        omega
      · exact h2 s hs hv
    · rcases h3 with h | ⟨s, hs, hv, he⟩
      · rw [h]
        unfold hiStep
        split
        · rename_i hv
          by_cases hm : r ≤ x.2
          · exact .inr ⟨x, by simp, hv, by omega⟩
          · exact .inl (by omega)
        · exact .inl rfl
      · exact .inr ⟨s, List.mem_cons_of_mem _ hs, hv, he⟩

theorem fuses_same (l : List Sp) (liars : Int) : fuseF l liars = rfuseF l liars := by
  by_cases hb : wrong l = true ∨ liars < 0 ∨ liars ≥ (l.length : Int)
  · unfold fuseF rfuseF
    rw [if_pos hb, if_pos hb]
  have h1 : wrong l = false := by
    cases h : wrong l with
    | false => rfl
    | true => exact absurd (.inl h) hb
  have h2 : 0 ≤ liars := by
    rcases Int.lt_or_le liars 0 with h | h
    · exact absurd (.inr (.inl h)) hb
    · exact h
  have h3 : liars < (l.length : Int) := by
    rcases Int.lt_or_le liars (l.length : Int) with h | h
    · exact h
    · exact absurd (.inr (.inr h)) hb
  have hlo := lo_fold l ((l.length : Int) - liars) l (false, 0)
  have hr : rfuseF l liars = if (l.foldl (loStep l ((l.length : Int) - liars)) (false, 0)).1 = false then ((0, 0), 11) else (((l.foldl (loStep l ((l.length : Int) - liars)) (false, 0)).2, l.foldl (hiStep l ((l.length : Int) - liars)) (l.foldl (loStep l ((l.length : Int) - liars)) (false, 0)).2), 0) := by
    unfold rfuseF
    rw [if_neg hb]
  rw [hr]
  generalize l.foldl (loStep l ((l.length : Int) - liars)) (false, 0) = r at hlo
  have hhi := hi_fold l ((l.length : Int) - liars) l r.2
  generalize l.foldl (hiStep l ((l.length : Int) - liars)) r.2 = q at hhi
  obtain ⟨p1, p2⟩ := hlo
  obtain ⟨q1, q2, q3⟩ := hhi
  rcases fuse_spec h1 h2 h3 with ⟨e, hn⟩ | ⟨s, e, ⟨a1, ⟨x, hx, a2⟩, a3⟩, b1, ⟨y, hy, b2⟩, b3⟩
  · rw [e]
    rcases p1 with h | ⟨_, h, _⟩
    · rw [h]; rfl
    · have := hn r.2; omega
  · rw [e]
    obtain ⟨c1, c2⟩ := p2 x hx (by rw [a2]; exact a1)
    rw [if_neg (by rw [c1]; simp)]
    have hv : ((l.length : Int) - liars) ≤ votes l r.2 := by
      rcases p1 with h | ⟨_, h, _⟩
      · rw [h] at c1; cases c1
      · exact h
    have d1 : s.1 = r.2 := by have := a3 _ hv; omega
    have d2 : s.2 = q := by
      have g1 := q2 y hy (by rw [b2]; exact b1)
      rcases q3 with h | ⟨z, hz, hvz, hz2⟩
      · have := b3 _ hv; omega
      · have := b3 _ hvz; omega
    rw [← d1, ← d2]

/-! the most votes -/

def mostL (E : List Sp) : Nat → Int × Int
  | 0 => (0, 0)
  | k + 1 => match fstS ((k + 1 : Nat) : Int) 1 0 E with
    | some t => (t, ((k + 1 : Nat) : Int))
    | none => mostL E k
def mostF (l : List Sp) : Int × Int × Int := if wrong l = true then (0, 0, 1) else ((mostL (ends l) l.length).1, (mostL (ends l) l.length).2, 0)
def atStep (l : List Sp) (a : Int) (s : Sp) : Int := if votes l a < votes l s.1 ∨ (votes l s.1 = votes l a ∧ s.1 < a) then s.1 else a
def rmostF (l : List Sp) : Int × Int × Int :=
  if wrong l = true then (0, 0, 1) else
    let a := l.foldl (atStep l) (l.headD (0, 0)).1
    (a, (votes l a : Int), 0)

/-- a time that has the most votes, of these the first one -/
def Tops (l : List Sp) (t : Int) (k : Nat) : Prop := votes l t = k ∧ (∃ s ∈ l, s.1 = t) ∧ ∀ t', votes l t' ≤ k ∧ (votes l t' = k → t ≤ t')

theorem votes_le (l : List Sp) (t : Int) : votes l t ≤ l.length := List.countP_le_length

theorem mostL_spec {l : List Sp} (hl : ∀ s ∈ l, s.1 ≤ s.2) : ∀ n : Nat, (∀ t, votes l t ≤ n) → 0 < l.length → ∃ t k, mostL (ends l) n = (t, ((k : Nat) : Int)) ∧ Tops l t k
  | 0, h, hp => by
    obtain ⟨s, hs⟩ : ∃ s, s ∈ l := by
      cases l with
      | nil => simp at hp
      | cons s l => exact ⟨s, by simp⟩
    have h0 := h s.1
    have : 0 < votes l s.1 := List.countP_pos_iff.2 ⟨s, hs, by have := hl s hs; unfold has; simp; omega⟩
    omega
  | n + 1, h, hp => by
    have A := least hl (ends_perm l) (ends_srt l) (need := ((n + 1 : Nat) : Int)) (by omega)
    simp only [mostL]
    rw [fstS_one]
    cases hA : fst ((n + 1 : Nat) : Int) 0 (ends l) with
    | none =>
      have := A.2 hA
      exact mostL_spec hl n (fun t => by have := this t; omega) hp
    | some t =>
      obtain ⟨a1, a2, a3⟩ := A.1 t hA
      refine ⟨t, n + 1, rfl, by have := h t; omega, a2, fun t' => ⟨h t', fun he => a3 t' (by omega)⟩⟩

theorem at_fold (l : List Sp) : ∀ (m : List Sp) (a : Int),
    (m.foldl (atStep l) a = a ∨ ∃ s ∈ m, s.1 = m.foldl (atStep l) a) ∧ ∀ b, (b = a ∨ ∃ s ∈ m, s.1 = b) → votes l b ≤ votes l (m.foldl (atStep l) a) ∧ (votes l b = votes l (m.foldl (atStep l) a) → m.foldl (atStep l) a ≤ b)
  | [], a => ⟨.inl rfl, fun b hb => by
    rcases hb with rfl | ⟨s, hs, _⟩
    · exact ⟨Nat.le_refl _, fun _ => Int.le_refl _⟩
    · cases hs⟩
  | x :: m, a => by
    obtain ⟨h1, h2⟩ := at_fold l m (atStep l a x)
    simp only [List.foldl_cons]
    have hstep : (atStep l a x = x.1 ∧ (votes l a < votes l x.1 ∨ (votes l x.1 = votes l a ∧ x.1 < a))) ∨ (atStep l a x = a ∧ ¬ (votes l a < votes l x.1 ∨ (votes l x.1 = votes l a ∧ x.1 < a))) := by
      unfold atStep
      split
      · rename_i h; exact .inl ⟨rfl, h⟩
      · rename_i h; exact .inr ⟨rfl, h⟩
    have hself := h2 _ (.inl rfl)
    refine ⟨?_, fun b hb => ?_⟩
    · rcases h1 with h | ⟨s, hs, h⟩
      · rcases hstep with ⟨e, _⟩ | ⟨e, _⟩
        · exact .inr ⟨x, by simp, by rw [h, e]⟩
        · exact .inl (by rw [h, e])
      · exact .inr ⟨s, List.mem_cons_of_mem _ hs, h⟩
    · rcases hb with rfl | ⟨s, hs, rfl⟩
      · rcases hstep with ⟨e, hc⟩ | ⟨e, _⟩
        · rw [e] at hself ⊢
          exact ⟨by omega, fun he => by have := hself.2; omega⟩
        · rw [e] at hself ⊢; exact hself
      · rcases List.mem_cons.1 hs with rfl | hs
        · rcases hstep with ⟨e, hc⟩ | ⟨e, hc⟩
          · rw [e] at hself ⊢; exact hself
          · rw [e] at hself ⊢
            exact ⟨by omega, fun he => by have := hself.2; omega⟩
        · exact h2 _ (.inr ⟨s, hs, rfl⟩)

theorem tops_one {l : List Sp} {t t' : Int} {k k' : Nat} (h : Tops l t k) (h' : Tops l t' k') : t = t' ∧ k = k' := by
  obtain ⟨a1, _, a3⟩ := h
  obtain ⟨b1, _, b3⟩ := h'
  have c1 := a3 t'
  have c2 := b3 t
  have : k = k' := by omega
  subst this
  have d1 := c1.2 b1
  have d2 := c2.2 a1
  exact ⟨by omega, rfl⟩

theorem rmost_tops {l : List Sp} (hl : ∀ s ∈ l, s.1 ≤ s.2) (hp : 0 < l.length) : Tops l (l.foldl (atStep l) (l.headD (0, 0)).1) (votes l (l.foldl (atStep l) (l.headD (0, 0)).1)) := by
  obtain ⟨t, k, e, hk⟩ := mostL_spec hl l.length (votes_le l) hp
  obtain ⟨h1, h2⟩ := at_fold l l (l.headD (0, 0)).1
  have hmem : ∃ s ∈ l, s.1 = l.foldl (atStep l) (l.headD (0, 0)).1 := by
    rcases h1 with h | h
    · rw [h]
      cases l with
      | nil => simp at hp
      | cons s l => exact ⟨s, by simp, rfl⟩
    · exact h
  generalize l.foldl (atStep l) (l.headD (0, 0)).1 = a at h2 hmem
  obtain ⟨k1, ⟨s, hs, k2⟩, k3⟩ := hk
  have c := h2 t (.inr ⟨s, hs, k2⟩)
  have d := k3 a
  have e : votes l a = k := by omega
  refine ⟨rfl, hmem, fun t' => ⟨by rw [e]; exact (k3 t').1, fun he => ?_⟩⟩
  have f := (k3 t').2 (by omega)
  have g := c.2 (by omega)
  omega

theorem mosts_same (l : List Sp) : mostF l = rmostF l := by
  unfold mostF rmostF
  cases hw : wrong l with
  | true => rfl
  | false =>
    rw [if_neg (by simp), if_neg (by simp)]
    obtain ⟨hl, hf, hp, hm⟩ := right_of hw
    obtain ⟨t, k, e, hk⟩ := mostL_spec hl l.length (votes_le l) hp
    obtain ⟨e1, e2⟩ := tops_one hk (rmost_tops hl hp)
    rw [e]
    simp only
    rw [← e1, hk.1]

/-! spans turned about -/

theorem votes_rev (l : List Sp) (t : Int) : votes l.reverse t = votes l t := (List.reverse_perm l).countP_eq _
theorem wrong_rev (l : List Sp) : wrong l.reverse = wrong l := by
  unfold wrong
  rw [List.length_reverse, List.any_reverse]
theorem fuse_rev (l : List Sp) (liars : Int) : fuseF l.reverse liars = fuseF l liars := by
  by_cases hb : wrong l = true ∨ liars < 0 ∨ liars ≥ (l.length : Int)
  · unfold fuseF
    rw [if_pos hb, if_pos (by rw [wrong_rev, List.length_reverse]; exact hb)]
  have h1 : wrong l = false := by
    cases h : wrong l with
    | false => rfl
    | true => exact absurd (.inl h) hb
  have h2 : 0 ≤ liars := by
    rcases Int.lt_or_le liars 0 with h | h
    · exact absurd (.inr (.inl h)) hb
    · exact h
  have h3 : liars < (l.length : Int) := by
    rcases Int.lt_or_le liars (l.length : Int) with h | h
    · exact h
    · exact absurd (.inr (.inr h)) hb
  have A := fuse_spec h1 h2 h3
  have B := fuse_spec (l := l.reverse) (by rw [wrong_rev]; exact h1) h2 (by rw [List.length_reverse]; exact h3)
  rw [List.length_reverse] at B
  have tr : ∀ s, FusedTo l.reverse ((l.length : Int) - liars) s → FusedTo l ((l.length : Int) - liars) s := fun s hs => by
    unfold FusedTo at *
    simpa only [votes_rev, List.mem_reverse] using hs
  rcases A with ⟨e, hn⟩ | ⟨s, e, hs⟩ <;> rcases B with ⟨e', hn'⟩ | ⟨s', e', hs'⟩
  · rw [e, e']
  · have := (tr s' hs').1.1
    have := hn s'.1
    omega
  · have := hs.1.1
    have h := hn' s.1
    rw [votes_rev] at h
    omega
  · rw [e, e', fused_one hs (tr s' hs')]
theorem most_rev (l : List Sp) : mostF l.reverse = mostF l := by
  unfold mostF
  rw [wrong_rev]
  cases hw : wrong l with
  | true => rfl
  | false =>
    rw [if_neg (by simp), if_neg (by simp)]
    obtain ⟨hl, hf, hp, hm⟩ := right_of hw
    obtain ⟨t, k, e, hk⟩ := mostL_spec hl l.length (votes_le l) hp
    obtain ⟨t', k', e', hk'⟩ := mostL_spec (l := l.reverse) (fun s hs => hl s (List.mem_reverse.1 hs)) l.reverse.length (votes_le _) (by rw [List.length_reverse]; exact hp)
    have hk2 : Tops l t' k' := by
      unfold Tops at *
      simpa only [votes_rev, List.mem_reverse] using hk'
    obtain ⟨e1, e2⟩ := tops_one hk hk2
    rw [e, e', e1, e2]

end Go.Proofs.Ytmolcddccjgliaa.Sweep

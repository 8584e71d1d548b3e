/- Layer 9 (field): the plain laws: what was put is split, and no other bytes are. -/
import Derived.Test.YtffdkniccaebmaaF12
set_option linter.unusedVariables false
set_option maxRecDepth 100000
namespace Go.Proofs.Ytffdkniccaebmaa.Fld
open Go Vse Go.Proofs

theorem hd1_eq {p : List Int} (h : p.length ≤ 500) : hd1 p = [(p.length : Int) / 256, (p.length : Int) % 256] := by
  unfold hd1
  have e : shrI .i64 (p.length : Int) 8 = (p.length : Int) / 256 := by
    show (p.length : Int).fdiv (2 ^ 8) = _
    rw [Int.fdiv_eq_ediv_of_nonneg _ (by decide)]; rfl
  rw [e, wb_mod, wb_mod]
  congr 1
  omega

theorem hd2_eq {p : List Int} (h : p.length ≤ 500) : hd2 p = [(p.length : Int) / 256, (p.length : Int) % 256] := by
  unfold hd2
  rw [Int.tdiv_eq_ediv_of_nonneg (by omega), Int.tmod_eq_emod_of_nonneg (by omega), w_id (by omega) (by omega), wb_mod, wb_mod]
  congr 1
  · omega
  · congr 1
    omega

theorem putG_same : ∀ (l : List (List Int)) (o : List Int), putG hd1 l o = putG hd2 l o
  | [], o => rfl
  | p :: r, o => by
    simp only [putG]
    by_cases h : (p.length : Int) > 500
    · rw [decide_eq_true h]; rfl
    · rw [decide_eq_false h]
      have h : p.length ≤ 500 := by omega
      rw [hd1_eq h, hd2_eq h]
      exact putG_same r _
theorem putI_same (l : List (List Int)) : putI hd1 l = putI hd2 l := by
  unfold putI
  rw [putG_same]

/-- parts as bytes -/
def encL : List (List Int) → List Int
  | [] => []
  | p :: r => hd1 p ++ p ++ encL r

theorem putG_ok : ∀ (l : List (List Int)) (o b : List Int), putG hd1 l o = (true, b) → (∀ p ∈ l, p.length ≤ 500) ∧ b = o ++ encL l
  | [], o, b, h => by
    simp only [putG, Prod.mk.injEq, true_and] at h
    subst h
    exact ⟨by simp, by simp [encL]⟩
  | p :: r, o, b, h => by
    simp only [putG] at h
    by_cases hp : (p.length : Int) > 500
    · rw [decide_eq_true hp] at h; cases h
    · rw [decide_eq_false hp] at h
      obtain ⟨h1, h2⟩ := putG_ok r _ b h
      refine ⟨fun q hq => ?_, by rw [h2]; simp [encL, List.append_assoc]⟩
      rcases List.mem_cons.1 hq with rfl | hq
      · omega
      · exact h1 q hq

theorem putG_enc : ∀ (l : List (List Int)) (o : List Int), (∀ p ∈ l, p.length ≤ 500) → putG hd1 l o = (true, o ++ encL l)
  | [], o, _ => by simp [putG, encL]
  | p :: r, o, h => by
    have hp := h p (by simp)
    simp only [putG, decide_eq_false (show ¬ (p.length : Int) > 500 by omega), cond_false]
    rw [putG_enc r _ fun q hq => h q (by simp [hq])]
    simp [encL, List.append_assoc]

theorem split_enc : ∀ (l : List (List Int)) (o : List (List Int)) (f : Nat), (∀ p ∈ l, p.length ≤ 500) → o.length + l.length ≤ 20 → (encL l).length < f → splitG f (encL l) o = (0, o ++ l)
  | [], o, f, _, _, hf => by
    cases f with
    | zero => omega
    | succ f => simp [splitG, encL]
  | p :: r, o, f, h, ho, hf => by
    have hp := h p (by simp)
    have e := hd1_eq hp
    have hh : (hd1 p).length = 2 := rfl
    simp only [List.length_cons] at ho
    cases f with
    | zero => omega
    | succ f =>
      have hb : encL (p :: r) = (p.length : Int) / 256 :: (p.length : Int) % 256 :: (p ++ encL r) := by simp [encL, e]
      have hl : (encL (p :: r)).length = p.length + (encL r).length + 2 := by rw [hb]; simp
      have hn : lenN (encL (p :: r)) = (p.length : Int) := by
        rw [hb]; unfold lenN
        simp only [List.getD_cons_zero, List.getD_cons_succ]
        omega
      have hd : (encL (p :: r)).drop 2 = p ++ encL r := by rw [hb]; rfl
      rw [splitG, decide_eq_true (show (encL (p :: r)).length > 0 by omega), decide_eq_false (show ¬ (encL (p :: r)).length < 2 by omega), hn, hd, decide_eq_false (show ¬ (p.length : Int) > 500 by omega),
        decide_eq_false (show ¬ o.length = 20 by omega), decide_eq_false (show ¬ (p.length : Int) > ((p ++ encL r).length : Int) by rw [List.length_append]; omega)]
      simp only [cond_true, cond_false, Int.toNat_natCast, List.drop_left, List.take_left]
      rw [split_enc r (o ++ [p]) f (fun q hq => h q (by simp [hq])) (by simp; omega) (by omega)]
      simp

theorem enc_split : ∀ (f : Nat) (b : List Int) (o r : List (List Int)), Bytes b → b.length < f → o.length ≤ 20 → splitG f b o = (0, r) → ∃ l, r = o ++ l ∧ encL l = b ∧ (∀ p ∈ l, p.length ≤ 500) ∧ r.length ≤ 20
  | 0, b, o, r, _, hf, _, _ => by omega
  | f + 1, b, o, r, hb, hf, ho, h => by
    rw [splitG] at h
    by_cases c0 : b.length > 0
    · rw [decide_eq_true c0] at h
      by_cases c1 : b.length < 2
      · rw [decide_eq_true c1] at h; cases h
      · rw [decide_eq_false c1] at h
        by_cases q1 : lenN b > 500
        · rw [decide_eq_true q1] at h; cases h
        · rw [decide_eq_false q1] at h
          by_cases q2 : o.length = 20
          · rw [decide_eq_true q2] at h; cases h
          · rw [decide_eq_false q2] at h
            by_cases q3 : lenN b > ((b.drop 2).length : Int)
            · rw [decide_eq_true q3] at h; cases h
            · rw [decide_eq_false q3] at h
              simp only [cond_true, cond_false] at h
              have x0 := bytes_get hb 0
              have x1 := bytes_get hb 1
              have hn0 : 0 ≤ lenN b := by unfold lenN; omega
              have hlen : ((b.drop 2).take (lenN b).toNat).length = (lenN b).toNat := by rw [List.length_take]; omega
              obtain ⟨l, h1, h2, h3, h4⟩ := enc_split f _ (o ++ [(b.drop 2).take (lenN b).toNat]) r (bytes_drop (bytes_drop hb 2) _) (by rw [List.length_drop, List.length_drop]; omega) (by simp; omega) h
              refine ⟨(b.drop 2).take (lenN b).toNat :: l, by rw [h1]; simp, ?_, ?_, h4⟩
              · simp only [encL]
                rw [hd1_eq (by rw [hlen]; omega), hlen, h2]
                match b, c1 with
                | y0 :: y1 :: t, _ =>
                  have x0 : 0 ≤ y0 ∧ y0 < 256 := x0
                  have x1 : 0 ≤ y1 ∧ y1 < 256 := x1
                  have hN : lenN (y0 :: y1 :: t) = 256 * y0 + y1 := rfl
                  have e0 : ((lenN (y0 :: y1 :: t)).toNat : Int) / 256 = y0 := by rw [hN]; omega
                  have e1 : ((lenN (y0 :: y1 :: t)).toNat : Int) % 256 = y1 := by rw [hN]; omega
                  rw [e0, e1]
                  simp [List.take_append_drop]
                | [], c => simp at c
                | [_], c => simp at c
              · intro p hp
                rcases List.mem_cons.1 hp with rfl | hp
                · rw [hlen]; omega
                · exact h3 p hp
    · rw [decide_eq_false c0] at h
      simp only [cond_false, Prod.mk.injEq, true_and] at h
      have : b = [] := List.eq_nil_of_length_eq_zero (by omega)
      subst this
      subst h
      exact ⟨[], by simp, rfl, by simp, ho⟩

/-- what was put is split -/
theorem put_split {l : List (List Int)} {x : List Int} (h : putI hd1 l = (x, 0, ())) : splitI x = (l, 0, ()) := by
  unfold putI at h
  by_cases h1 : (l.length : Int) > 20
  · rw [decide_eq_true h1] at h; simp at h
  · rw [decide_eq_false h1] at h
    cases hp : (putG hd1 l []).1 with
    | false => rw [hp] at h; simp at h
    | true =>
      rw [hp] at h
      simp only [cond_false, cond_true, Prod.mk.injEq, and_true] at h
      obtain ⟨q1, q2⟩ := putG_ok l [] (putG hd1 l []).2 (by rw [← hp])
      rw [h] at q2
      simp only [List.nil_append] at q2
      subst q2
      have := split_enc l [] ((encL l).length + 1) q1 (by simp; omega) (by omega)
      unfold splitI
      rw [this]
      rfl

/-- no other bytes are split to it -/
theorem split_put {b : List Int} {r : List (List Int)} (hb : Bytes b) (h : splitI b = (r, 0, ())) : putI hd1 r = (b, 0, ()) := by
  unfold splitI at h
  cases hs : splitG (b.length + 1) b [] with
  | mk c r' =>
    rw [hs] at h
    simp only at h
    by_cases hc : c = 0
    · subst hc
      simp only [decide_true, cond_true, Prod.mk.injEq, and_true] at h
      subst h
      obtain ⟨l, h1, h2, h3, h4⟩ := enc_split _ b [] r' hb (by omega) (by simp) hs
      simp only [List.nil_append] at h1
      subst h1
      unfold putI
      rw [decide_eq_false (show ¬ (r'.length : Int) > 20 by omega), putG_enc r' [] h3]
      simp [h2]
    · rw [decide_eq_false hc] at h
      simp only [cond_false, Prod.mk.injEq, and_true] at h
      exact absurd h.2 hc

end Go.Proofs.Ytffdkniccaebmaa.Fld

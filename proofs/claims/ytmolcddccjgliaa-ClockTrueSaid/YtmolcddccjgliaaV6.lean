/- The clock (layer 8): awake and ClockTells are true. -/
import Derived.Test.YtmolcddccjgliaaV5
set_option linter.unusedVariables false
set_option maxRecDepth 100000
namespace Go.Proofs.Ytmolcddccjgliaa.Clock
open Go Vse Go.Proofs Gen Sweep

def sv0 : TL := [(10, 24, ())]
theorem fuse1 : fuseT sv0 0 = ((10, 24, ()), 0, ()) := by
  unfold fuseT
  rw [fuses_same]
  have : rfuseF (pl sv0) 0 = ((10, 24), 0) := by decide
  rw [this]
  rfl
def d0 : tC.den := (1000, true, 9, (10, 24, ()), ())
theorem set1 : setF (newC 1000) 9 sv0 0 = (d0, 0, ()) := by
  unfold setF
  rw [fuse1, if_pos (by decide), if_pos rfl]
  rfl
theorem samp1 : sampF (10, 20, ()) 5 9 0 = ((10, 24, ()), 0, ()) := by kernel_rfl
theorem new1 : newF 1000 = (newC 1000, 0, ()) := by kernel_rfl
theorem now1 : nowF (newC 1000) 9 = ((0, 0, ()), 11, ()) := by kernel_rfl
theorem now2 : nowF d0 1009 = ((1009, 1025, ()), 0, ()) := by kernel_rfl
theorem TA_true : (TA okL sampF newF nowF setF offF).eval = some (.v .bool true) := by
  unfold TA
  dsimp only
  rw [samp1, new1]
  dsimp only
  rw [show ([(10, 24, ())] : TL) = sv0 from rfl, set1]
  dsimp only
  rw [now1, now2]
  rfl
theorem cA_sound : CtxSound Try.prog (ctx (cA okL sampF newF nowF setF offF)) ∧ CtxLocal (ctx (cA okL sampF newF nowF setF offF)) := ctx_sound ⟨ok21, ok23, ok25, ok28, ok30, trivial⟩
def s20 : CSpec := .slp1 [] (fun _ => true) .bool fun _ => true
theorem ok20 : CSound Try.prog 20 s20 ∧ CLocal s20 :=
  slpE1 (L := L0) cA_sound Try.func20 (by kernel_rfl) (noLoopsL (by kernel_rfl)) fun xs hx hp => (tA okL sampF newF nowF setF offF).trans TA_true
abbrev cV8 : List (Nat × CSpec) := cK true okL sampF sampF newF newF nowF nowF setF setF mayC offF
theorem cV8_sound : CtxSound Try.prog (ctx cV8) ∧ CtxLocal (ctx cV8) := ctx_sound ⟨ok20, ok21, ok22, ok23, ok24, ok25, ok26, ok28, ok29, ok27, ok30, trivial⟩

theorem eqC_self (c : tC.den) : eqT tC c c = true := by
  obtain ⟨p, on, at_, ⟨lo, hi, u⟩, u2⟩ := c
  show (decide (p = p) && (eqT .bool on on && (decide (at_ = at_) && ((decide (lo = lo) && (decide (hi = hi) && true)) && true)))) = true
  have : eqT .bool on on = true := by cases on <;> rfl
  rw [this]
  simp

theorem T7_true (c : tC.den) (l : TL) (n0 n1 n2 n3 n4 : Int) : (T7 true okL sampF sampF newF newF nowF nowF setF setF mayC offF c l n0 n1 n2 n3 n4).eval = some (.v .bool true) := by
  unfold T7
  dsimp only
  by_cases h : (l.length : Int) > 70
  · rw [ite_t (decide_eq_true h)]; rfl
  have ho : okL l = true := decide_eq_true (by omega)
  rw [ite_f (decide_eq_false h)]
  by_cases h1 : n3 < -200000
  · rw [ite_t (decide_eq_true h1)]; rfl
  rw [ite_f (decide_eq_false h1)]
  by_cases h2 : n3 > 200000
  · rw [ite_t (decide_eq_true h2)]; rfl
  rw [ite_f (decide_eq_false h2)]
  by_cases h3 : n4 < -100
  · rw [ite_t (decide_eq_true h3)]; rfl
  rw [ite_f (decide_eq_false h3)]
  by_cases h4 : n4 > 100
  · rw [ite_t (decide_eq_true h4)]; rfl
  rw [ite_f (decide_eq_false h4), ite_f (by rw [eqT_self]; rfl), ite_f (by rw [beq_self]; rfl), ite_f (by rw [eqC_self]; rfl), ite_f (by rw [beq_self]; rfl), ite_f (by rw [eqT_self]; rfl), ite_f (by rw [beq_self]; rfl)]
  by_cases hm : mayC c = true
  · rw [ite_f (by rw [hm]; rfl), chk_eval ho, chk_eval ho, ite_t (by rfl), ite_t (eqC_self _), ite_t (beq_self _)]
    exact bl_true (eqC_self _)
  · rw [ite_t (by rw [Bool.eq_false_iff.2 hm]; rfl)]; rfl

end Go.Proofs.Ytmolcddccjgliaa.Clock

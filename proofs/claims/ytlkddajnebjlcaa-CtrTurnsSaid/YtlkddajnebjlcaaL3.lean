/- Counters (layer 4, ctr): what the document's Flip gives. -/
import Derived.Test.YtlkddajnebjlcaaL2
import Derived.Test.YtlkddajnebjlcaaA16
set_option linter.unusedVariables false
set_option maxRecDepth 100000
namespace Go.Proofs.Ytlkddajnebjlcaa.Ctr
open Go Vse Go.Proofs Gen

/-- the byte at a place, flipped -/
def elemF (N : Nx) (E : En) (key at_ b : List Int) (i : Nat) : Int := xorI .u8 (b.getD i 0) ((E key (N at_ ((i / 16 : Nat) : Int))).getD (i % 16) 0)
def partF (N : Nx) (E : En) (key at_ b : List Int) (i : Nat) : List Int := (List.range i).map (elemF N E key at_ b)
def flipG (N : Nx) (E : En) (key at_ b : List Int) : List Int := partF N E key at_ b b.length
theorem partF_len (N : Nx) (E : En) (key at_ b : List Int) (i : Nat) : (partF N E key at_ b i).length = i := by unfold partF; rw [List.length_map, List.length_range]
theorem partF_step (N : Nx) (E : En) (key at_ b : List Int) (i : Nat) : partF N E key at_ b (i + 1) = partF N E key at_ b i ++ [elemF N E key at_ b i] := by unfold partF; rw [List.range_succ, List.map_append]; rfl

abbrev encRF : En := fun k a => Aes.encR k a
def flipP (b : List Int) : Bool := decide (b.length ≤ 1000000)
theorem cF_sound : CtxSound Try.prog (ctx (cF rnextF encRF)) ∧ CtxLocal (ctx (cF rnextF encRF)) := ctx_sound ⟨ok27, Aes.ok47, trivial⟩
def cF1 (b : List Int) (i : Int) (at_ made out : List Int) : Bool := decide (i = 0) && (decide (out = []) && decide (b.length ≤ 1000000))

theorem mF (N : Nx) (E : En) (key at_ b : List Int) (hb : b.length ≤ 1000000) : ∀ (m i : Nat) (made : List Int), i + m = b.length → (i % 16 ≠ 0 → made = E key (N at_ ((i / 16 : Nat) : Int))) →
    SF.many (bodyK Try.prog (ctx (cF N E)) L0 bF) (m + 1) (b, (), (), (), (), (i : Int), ()) (key, at_, made, partF N E key at_ b i, ()) = some (.exit 0, encS [7] [.vc 3 0] [.dead, .dead, .dead, .vec 0 u8] 40 ((), ()) (flipG N E key at_ b, ()))
  | 0, i, made, h, hm => by
    refine rmany_inr ((rF N E b i key at_ made _).trans ?_) 0
    have : i = b.length := by omega
    subst this
    unfold GF
    simp only
    rw [ite_f (decide_eq_false (by omega))]
    rfl
  | m + 1, i, made, h, hm => by
    have hi : i < b.length := by omega
    have t1 : ((i : Nat) : Int).tmod 16 = ((i % 16 : Nat) : Int) := by rw [Int.tmod_eq_emod_of_nonneg (by omega)]; omega
    have d1 : ((i : Nat) : Int).tdiv 16 = ((i / 16 : Nat) : Int) := by rw [Int.tdiv_eq_ediv_of_nonneg (by omega)]; omega
    have w0 : w ((i : Int) + 1) = ((i + 1 : Nat) : Int) := (w_id (by omega) (by omega)).trans (by omega)
    have w1 : wu (w ((i / 16 : Nat) : Int)) = ((i / 16 : Nat) : Int) := by rw [w_id (by omega) (by omega), wu_mod]; omega
    have e1 : ∀ x : Int, Vse.room ((partF N E key at_ b i).length + [x].length) 1 = true := fun x => by simp only [Vse.room, decide_eq_true_eq, partF_len, List.length_singleton]; omega
    have hx : xorI .u8 (b.getD i 0) ((E key (N at_ ((i / 16 : Nat) : Int))).getD (i % 16) 0) = elemF N E key at_ b i := rfl
    refine (rmany_inl (d := ((b, (), (), (), (), ((i + 1 : Nat) : Int), ()), (key, at_, E key (N at_ ((i / 16 : Nat) : Int)), partF N E key at_ b (i + 1), ()))) ((rF N E b i key at_ made _).trans ?_) (m + 1)).trans
      (mF N E key at_ b hb m (i + 1) _ (by omega) (fun h16 => by rw [show (i + 1) / 16 = i / 16 by omega]))
    unfold GF
    simp only [t1, d1, w0, w1, Int.toNat_natCast]
    rw [ite_t (decide_eq_true (show (i : Int) < (b.length : Int) by omega))]
    by_cases h16 : i % 16 = 0
    · rw [ite_t (by rw [h16]; rfl), chk_eval (inArr_nat hi), chk_eval (inArrK64 (by omega) (by omega) (by omega)), chk_eval (e1 _), hx, partF_step]
      rfl
    · have hne : ((((i % 16 : Nat) : Int)) == 0) = false := by simp; omega
      have hmade := hm h16
      subst hmade
      rw [ite_f hne, chk_eval (inArr_nat hi), chk_eval (inArrK64 (by omega) (by omega) (by omega)), chk_eval (e1 _), hx, partF_step]
      rfl

theorem lF : LoopOK Try.prog (LF cF1 (flipG rnextF encRF)) bF :=
  rloop_ok (L := LF cF1 (flipG rnextF encRF)) (L' := L0) cF_sound (loopsOK_of (by kernel_rfl)) SF (F := FF cF1 (flipG rnextF encRF)) (i := 4) (by kernel_rfl) (fun _ => rfl) fun xs hs r h => by
    obtain ⟨b, u1, u2, u3, u4, i, u5⟩ := xs
    obtain ⟨key, at_, made, out, u6⟩ := hs
    obtain ⟨h1, h2⟩ := Tr.chk_some h
    simp only [cF1, Bool.and_eq_true, decide_eq_true_eq] at h1
    obtain ⟨e1, e2, e3⟩ := h1
    have e1 : i = ((0 : Nat) : Int) := e1
    have e2 : out = partF rnextF encRF key at_ b 0 := e2
    subst e1; subst e2
    exact ⟨_, (mF rnextF encRF key at_ b e3 (List.length (α := Int) b) 0 made (by omega) (fun h => absurd rfl h)).trans (congrArg some (Tr.ret_some h2))⟩

def rflipF (key at_ b : List Int) : List Int := flipG rnextF encRF key at_ b
def s25 : CSpec := .slp1 [w16, w16, bs] (fun x => flipP x.2.2.1) bt fun x => rflipF x.1 x.2.1 x.2.2.1
theorem ok25 : CSound Try.prog 25 s25 ∧ CLocal s25 :=
  slpE1 (L := LF cF1 (flipG rnextF encRF)) cF_sound Try.func25 (by kernel_rfl) (loops1 (by kernel_rfl) lF) fun xs hx hp => by
    obtain ⟨key, at_, b, u⟩ := xs
    have hb : List.length (α := Int) b ≤ 1000000 := of_decide_eq_true hp
    have e1 : cF1 b 0 at_ z16 [] = true := by simp only [cF1, Bool.and_eq_true, decide_eq_true_eq, true_and]; exact hb
    refine (tF rnextF encRF cF1 (flipG rnextF encRF) key at_ b).trans ?_
    have : (TF cF1 (flipG rnextF encRF) key at_ b).eval = some (.v bt (rflipF key at_ b)) := by
      unfold TF
      rw [chk_eval e1]
      rfl
    exact this

end Go.Proofs.Ytlkddajnebjlcaa.Ctr

/- The laws of layer 5 (seal): their walks answer true. -/
import Derived.Test.YtlkddajnebjlcaaP5
import Derived.Test.YtlkddajnebjlcaaP4k
set_option linter.unusedVariables false
set_option maxRecDepth 100000
namespace Go.Proofs.Ytlkddajnebjlcaa.Seal
open Go Vse Go.Proofs Gen
open Ctr (B16 flX flipF flipP rflipF encRF rnextF)
open Mac (macF macP macF_len expF expP expX expL rexpF rmacF eqF oneP)

theorem flip_bytes {key a b : List Int} (hk : B16 key) (ha : B16 a) (hb : Bytes b) : Bytes (flipF key a b) := fun x hx => by
  unfold flipF Ctr.flipG Ctr.partF at hx
  obtain ⟨i, _, rfl⟩ := List.mem_map.1 hx
  exact Aes.xorB (Ctr.byte_get hb i) (Ctr.key_byte hk (Ctr.b16_next ha _) _)

theorem sameI_self (a : List Int) : sameI a a = true := decide_eq_true rfl
theorem bytes_app {a b : List Int} (ha : Bytes a) (hb : Bytes b) : Bytes (a ++ b) := Mac.bytes_append ha hb

theorem seals_same {key first plain : List Int} {s : ByteArray} (hf : B16 first) (hb : Bytes plain) : sealF key s first plain = rsealF key s first plain := by
  unfold sealF rsealF withF sealK
  by_cases h1 : badL s
  · rw [if_pos h1, if_pos h1]
  rw [if_neg h1, if_neg h1]
  dsimp only
  by_cases h2 : plain.length > 1000
  · rw [if_pos h2, if_pos h2]
  rw [if_neg h2, if_neg h2]
  have hh := hide_b16 key s
  have hc := code_bytes key s
  have hl := code_len key s
  generalize hideF key s = H at hh
  generalize codeF key s = C at hc hl
  have e1 : flX H first plain = flipF H first plain := Ctr.flX_eq hf (by omega)
  have e2 : flipF H first plain = rflipF H first plain := Ctr.flips_same hh.1 hh.2 hf.1 hf.2 (by omega)
  have e3 : macF C (first ++ rflipF H first plain) = rmacF C (first ++ rflipF H first plain) :=
    Mac.mac_same hc (bytes_app hf.1 (e2 ▸ flip_bytes hh hf hb)) (by omega) (by rw [List.length_append, rflip_len, hf.2]; omega)
  rw [e1, e2, e3]

theorem opens_same {key b : List Int} {s : ByteArray} (hb : Bytes b) : openF key s b = ropenF key s b := by
  unfold openF ropenF withF openK
  by_cases h1 : badL s
  · rw [if_pos h1, if_pos h1]
  rw [if_neg h1, if_neg h1]
  dsimp only
  by_cases h2 : b.length < 48
  · rw [if_pos h2, if_pos h2]
  rw [if_neg h2, if_neg h2]
  by_cases h3 : b.length > 1048
  · rw [if_pos h3, if_pos h3]
  rw [if_neg h3, if_neg h3]
  have hh := hide_b16 key s
  have hc := code_bytes key s
  have hl := code_len key s
  generalize hideF key s = H at hh
  generalize codeF key s = C at hc hl
  have hf : B16 (b.take 16) := ⟨bytes_take hb 16, by rw [List.length_take]; omega⟩
  have e3 : macF C (b.take (b.length - 32)) = rmacF C (b.take (b.length - 32)) := Mac.mac_same hc (bytes_take hb _) (by omega) (by rw [List.length_take]; omega)
  have e4 : eqF (macF C (b.take (b.length - 32))) (b.drop (b.length - 32)) = sameI (rmacF C (b.take (b.length - 32))) (b.drop (b.length - 32)) := by
    rw [← e3]
    exact Mac.eq_same (Mac.bytes_mac _ _) (bytes_drop hb _)
  have e1 : flX H (b.take 16) ((b.take (b.length - 32)).drop 16) = rflipF H (b.take 16) ((b.take (b.length - 32)).drop 16) :=
    (Ctr.flX_eq hf (by rw [List.length_drop, List.length_take]; omega)).trans (Ctr.flips_same hh.1 hh.2 hf.1 hf.2 (by rw [List.length_drop, List.length_take]; omega))
  rw [e4, e1]

theorem T12_true {x y b c : List Int} {s : ByteArray} (hx : B16 x) (hy : B16 y) (hb : Bytes b) (hc : Bytes c) (hs : strP s = true) :
    (T12 sealF (fun _ s _ _ => strP s) openF (fun _ s _ => strP s) rsealF (fun k _ _ _ => rsP k) ropenF (fun k _ _ => rsP k) x y s b c).eval = some (.v .bool true) := by
  have hr : rsP x = true := decide_eq_true hx
  unfold T12
  rw [← seals_same hy hb, ← opens_same hc]
  by_cases h1 : (s.size : Int) > 100
  · rw [ite_t (decide_eq_true h1)]; rfl
  by_cases h2 : (b.length : Int) > 1100
  · rw [ite_f (decide_eq_false h1), ite_t (decide_eq_true h2)]; rfl
  by_cases h3 : (c.length : Int) > 1100
  · rw [ite_f (decide_eq_false h1), ite_f (decide_eq_false h2), ite_t (decide_eq_true h3)]; rfl
  generalize sealF x s y b = A
  generalize openF x s c = B
  rw [ite_f (decide_eq_false h1), ite_f (decide_eq_false h2), ite_f (decide_eq_false h3), chk_eval hs, chk_eval hr, chk_eval hs, chk_eval hr, ite_t (sameI_self _), ite_t (beq_self_eq_true _), ite_t (sameI_self _)]
  simp only [Tr.eval, beq_self_eq_true]

theorem flX_len {k a b : List Int} (ha : B16 a) (hb : b.length ≤ 1000000) : (flX k a b).length = b.length := by rw [Ctr.flX_eq ha hb, Ctr.flip_len]
theorem flX_twice {k a b : List Int} (hk : B16 k) (ha : B16 a) (hb : Bytes b) (hl : b.length ≤ 1000000) : flX k a (flX k a b) = b := by
  rw [Ctr.flX_eq ha hl, Ctr.flX_eq ha (by rw [Ctr.flip_len]; exact hl)]
  exact Ctr.flip_twice hk ha hb

/-- what was sealed opens -/
theorem open_seal {hide seals first plain : List Int} (hh : B16 hide) (hf : B16 first) (hb : Bytes plain) (hl : plain.length ≤ 1000) :
    openK hide seals ((first ++ flX hide first plain) ++ macF seals (first ++ flX hide first plain)) = (plain, 0, ()) := by
  have l1 : (flX hide first plain).length = plain.length := flX_len hf (by omega)
  have l2 : first.length = 16 := hf.2
  have e := flX_twice hh hf hb (by omega)
  generalize flX hide first plain = X at l1 e
  have l3 := macF_len seals (first ++ X)
  generalize hD : macF seals (first ++ X) = D at l3
  have hlen : ((first ++ X) ++ D).length = 48 + plain.length := by rw [List.length_append, List.length_append]; omega
  have t1 : ((first ++ X) ++ D).length - 32 = (first ++ X).length := by rw [List.length_append, List.length_append]; omega
  have t2 : ((first ++ X) ++ D).take 16 = first := by
    rw [List.append_assoc, ← l2, List.take_left]
  unfold openK
  rw [if_neg (by omega), if_neg (by omega), t1, List.take_left, List.drop_left, hD, if_pos (Mac.eqF_self D), t2, ← l2, List.drop_left, e]

theorem T13_true {x y b : List Int} {s : ByteArray} (hx : B16 x) (hy : B16 y) (hb : Bytes b) (hs : strP s = true) :
    (T13 sealF (fun _ s _ _ => strP s) openF (fun _ s _ => strP s) x y s b).eval = some (.v .bool true) := by
  unfold T13
  by_cases h1 : (s.size : Int) > 100
  · rw [ite_t (decide_eq_true h1)]; rfl
  by_cases h2 : (b.length : Int) > 1100
  · rw [ite_f (decide_eq_false h1), ite_t (decide_eq_true h2)]; rfl
  simp only
  rw [ite_f (decide_eq_false h1), ite_f (decide_eq_false h2), chk_eval hs]
  by_cases h3 : (s == ByteArray.empty) = true
  · have e : sealF x s y b = ([], 1, ()) := by unfold sealF withF; rw [if_pos (.inl h3)]
    rw [e, ite_t (by rfl), ite_t (by rfl), ite_t h3]; rfl
  by_cases h4 : s.size > 40
  · have e : sealF x s y b = ([], 1, ()) := by unfold sealF withF; rw [if_pos (.inr h4)]
    rw [e, ite_t (by rfl), ite_t (by rfl), ite_f (Bool.eq_false_iff.2 h3), ite_t (decide_eq_true (by omega))]; rfl
  have hbad := badL_of h3 h4
  by_cases h5 : b.length > 1000
  · have e : sealF x s y b = ([], 7, ()) := by unfold sealF withF sealK; rw [if_neg hbad]; dsimp only; rw [if_pos h5]
    rw [e, ite_t (by rfl), ite_t (by rfl), ite_f (Bool.eq_false_iff.2 h3), ite_f (decide_eq_false (by omega))]
    simp only [Tr.eval, decide_eq_true (show (b.length : Int) > 1000 by omega)]
  have hh := hide_b16 x s
  have hse : sealF x s y b = sealK (hideF x s) (codeF x s) b y := by unfold sealF withF; rw [if_neg hbad]
  have hop : ∀ c, openF x s c = openK (hideF x s) (codeF x s) c := fun c => by unfold openF withF; rw [if_neg hbad]
  rw [hse]
  simp only [hop]
  generalize hideF x s = H at hh
  generalize codeF x s = C
  have e : sealK H C b y = ((y ++ flX H y b) ++ macF C (y ++ flX H y b), 0, ()) := by unfold sealK; rw [if_neg h5]
  have ho := open_seal (seals := C) hh hy hb (by omega)
  have l1 : (flX H y b).length = b.length := flX_len hy (by omega)
  have l2 : y.length = 16 := hy.2
  have l3 := macF_len C (y ++ flX H y b)
  rw [e]
  dsimp only
  rw [ho]
  generalize flX H y b = X at l1 l3
  generalize macF C (y ++ X) = D at l3
  have hlen : ((y ++ X) ++ D).length = b.length + 48 := by rw [List.length_append, List.length_append]; omega
  have w1 : w ((b.length : Int) + 48) = ((b.length + 48 : Nat) : Int) := (w_id (by omega) (by omega)).trans (by omega)
  have c1 : cut ((y ++ X) ++ D) 0 16 = y := by
    refine (cut_to _ 16).trans ?_
    rw [List.append_assoc, ← l2, List.take_left]
  have c2 : cutOK ((y ++ X) ++ D) 0 16 = true := cut_ok (a := 0) (b := 16) (by omega) (by omega)
  rw [ite_f (by rfl), chk_eval hs, ite_t (by rw [hlen, w1]; exact beq_self_eq_true _), chk_eval c2, ite_t (by rfl), ite_t (sameI_self b), c1, all_len hy.2]
  simp only [Tr.eval, sameI_self]

/-! SealOne -/

theorem mN (s : ByteArray) (up : Bool) {b h : List Int} (p : List Int) (hb : 16 ≤ b.length) (hh : h.length = 16) (k : List Int) : ∀ (m i : Nat), i + m = 16 →
    SN.many (bodyK Try.prog (ctx (cV sealF (fun _ s _ _ => strP s) openF (fun _ s _ => strP s) rsealF (fun k _ _ _ => rsP k) ropenF (fun k _ _ => rsP k))) L0 bN) (m + 1) (s, b, (), up, p, (), (i : Int), ()) (k, b.take i ++ h.drop i, ()) =
      some (.exit 0, encS [1, 2, 3, 7, 8, 10] [.str, bt, .ptr 0 [], .bool, bt, .ptr 1 []] eN 76 (s, b, (), up, p, (), ()) (k, b.take 16, ()))
  | 0, i, hi => by
    refine rmany_inr ((rN _ _ _ _ _ _ _ _ s b up p _ k _).trans ?_) 0
    have : i = 16 := by omega
    subst this
    unfold GN
    rw [ite_f (decide_eq_false (by omega)), copy_all hh]
    rfl
  | m + 1, i, hi => by
    have e1 : w ((i : Int) + 1) = ((i + 1 : Nat) : Int) := (w_id (by omega) (by omega)).trans (by omega)
    refine (rmany_inl (d := ((s, b, (), up, p, (), ((i + 1 : Nat) : Int), ()), (k, b.take (i + 1) ++ h.drop (i + 1), ()))) ((rN _ _ _ _ _ _ _ _ s b up p _ k _).trans ?_) (m + 1)).trans (mN s up p hb hh k m (i + 1) (by omega))
    unfold GN
    rw [Int.toNat_natCast, ite_t (decide_eq_true (by omega)), ite_t (decide_eq_true (by omega)), chk_eval (Ctr.inArr_nat (by omega)), chk_eval (Ctr.inArrK64 (by omega) (by omega) (by omega)), e1, copy_step (by omega) (by omega)]
    rfl

abbrev CVF : Ctx := ctx (cV sealF (fun _ s _ _ => strP s) openF (fun _ s _ => strP s) rsealF (fun k _ _ _ => rsP k) ropenF (fun k _ _ => rsP k))

theorem T14_true {k b : List Int} {s : ByteArray} (hk : B16 k) (hb : Bytes b) (hs : strP s = true) :
    (T14 sealF (fun _ s _ _ => strP s) openF (fun _ s _ => strP s) cK1 (fun b => b.take 16) k s b).eval = some (.v .bool true) := by
  unfold T14
  simp only
  by_cases h1 : (s.size : Int) > 100
  · rw [ite_t (decide_eq_true h1)]; rfl
  by_cases h2 : (b.length : Int) > 1100
  · rw [ite_f (decide_eq_false h1), ite_t (decide_eq_true h2)]; rfl
  rw [ite_f (decide_eq_false h1), ite_f (decide_eq_false h2), chk_eval hs]
  by_cases hbad : badL s
  · have e : openF k s b = ([], 1, ()) := by unfold openF withF; rw [if_pos hbad]
    rw [e, ite_t (by rfl)]; rfl
  have hh := hide_b16 k s
  have hse : ∀ f p, sealF k s f p = sealK (hideF k s) (codeF k s) p f := fun f p => by unfold sealF withF; rw [if_neg hbad]
  have hop : ∀ c, openF k s c = openK (hideF k s) (codeF k s) c := fun c => by unfold openF withF; rw [if_neg hbad]
  simp only [hse, hop]
  generalize hideF k s = H at hh
  generalize codeF k s = C
  by_cases h3 : b.length < 48
  · have e : openK H C b = ([], 2, ()) := by unfold openK; rw [if_pos h3]
    rw [e, ite_t (by rfl)]; rfl
  by_cases h4 : b.length > 1048
  · have e : openK H C b = ([], 7, ()) := by unfold openK; rw [if_neg h3, if_pos h4]
    rw [e, ite_t (by rfl)]; rfl
  by_cases h5 : eqF (macF C (b.take (b.length - 32))) (b.drop (b.length - 32)) = true
  · have e : openK H C b = (flX H (b.take 16) ((b.take (b.length - 32)).drop 16), 0, ()) := by unfold openK; rw [if_neg h3, if_neg h4, if_pos h5]
    have hm : macF C (b.take (b.length - 32)) = b.drop (b.length - 32) := by
      rw [Mac.eq_same (Mac.bytes_mac _ _) (bytes_drop hb _)] at h5
      exact of_decide_eq_true h5
    have hf : B16 (b.take 16) := ⟨bytes_take hb 16, by rw [List.length_take]; omega⟩
    have hY : ((b.take (b.length - 32)).drop 16).length = b.length - 48 := by rw [List.length_drop, List.length_take]; omega
    have hl : (flX H (b.take 16) ((b.take (b.length - 32)).drop 16)).length = b.length - 48 := by rw [flX_len hf (by omega), hY]
    have ht := flX_twice hh hf (bytes_drop (bytes_take hb (b.length - 32)) 16) (by omega)
    have hj : b.take 16 ++ (b.take (b.length - 32)).drop 16 = b.take (b.length - 32) := by
      have : b.take 16 = (b.take (b.length - 32)).take 16 := by rw [List.take_take, Nat.min_eq_left (by omega)]
      rw [this, List.take_append_drop]
    have es : sealK H C (flX H (b.take 16) ((b.take (b.length - 32)).drop 16)) (b.take 16) = (b, 0, ()) := by
      unfold sealK
      rw [if_neg (by omega), ht, hj, hm, List.take_append_drop]
    have hc : cK1 b 0 z16 = true := by simp only [cK1, z16_len, Bool.and_eq_true, decide_eq_true_eq, and_true]; omega
    rw [e]
    dsimp only
    rw [es, ite_f (by rfl), chk_eval hc, chk_eval hs, ite_t (by rfl)]
    simp only [Tr.eval, sameI_self]
  · have e : openK H C b = ([], 6, ()) := by unfold openK; rw [if_neg h3, if_neg h4, if_neg h5]
    rw [e, ite_t (by rfl)]; rfl

/-! the laws' own trial -/

theorem sA_ok : ¬ badL sA := by
  rintro (h | h)
  · exact absurd h (by decide)
  · exact absurd h (by decide)
theorem sB_ok : ¬ badL sB := by
  rintro (h | h)
  · exact absurd h (by decide)
  · exact absurd h (by decide)
theorem seal_xyz : sealF one16 sA two16 xyz = (frontA ++ macA, 0, ()) := by
  unfold sealF withF
  rw [if_neg sA_ok]
  unfold hideF codeF
  rw [keysA_eq]
  unfold sealK
  dsimp only
  rw [if_neg (by decide), front_eq, macA_eq]
theorem len_frontA : (frontA ++ macA).length = 51 := rfl
theorem take_frontA : (frontA ++ macA).take 19 = frontA := rfl
theorem drop_frontA : (frontA ++ macA).drop 19 = macA := rfl
theorem open_xyz : openF one16 sA (frontA ++ macA) = (xyz, 0, ()) := by
  have h : openF one16 sA (sealF one16 sA two16 xyz).1 = (xyz, 0, ()) := by
    have e : sealF one16 sA two16 xyz = sealK (hideF one16 sA) (codeF one16 sA) xyz two16 := by unfold sealF withF; rw [if_neg sA_ok]
    rw [e]
    unfold openF withF
    rw [if_neg sA_ok]
    unfold sealK
    dsimp only
    rw [if_neg (by decide)]
    exact open_seal (hide_b16 _ _) (by decide) (by decide) (by decide)
  rw [seal_xyz] at h
  exact h
theorem open_other : openF one16 sB (frontA ++ macA) = ([], 6, ()) := by
  unfold openF withF
  rw [if_neg sB_ok]
  unfold hideF codeF
  rw [keysB_eq]
  unfold openK
  dsimp only
  rw [len_frontA, if_neg (by decide), if_neg (by decide), show 51 - 32 = 19 from rfl, take_frontA, drop_frontA, macB_eq, if_neg (by decide +kernel)]
theorem open_none : openF one16 sA [] = ([], 2, ()) := by
  unfold openF withF
  rw [if_neg sA_ok]
  unfold openK
  dsimp only
  rw [if_pos (by decide)]

theorem T35_true : (T35 sealF (fun _ s _ _ => strP s) openF fun _ s _ => strP s).eval = some (.v .bool true) := by
  unfold T35
  rw [seal_xyz]
  dsimp only
  rw [open_xyz, open_other, open_none]
  rfl

def cA : List (Nat × CSpec) := [(36, s36), (38, s38)]
theorem cA_sound : CtxSound Try.prog (ctx cA) ∧ CtxLocal (ctx cA) := ctx_sound ⟨ok36, ok38, trivial⟩
theorem ok35 : CSound Try.prog 35 s35 ∧ CLocal s35 :=
  slpE1 (L := L0) cA_sound Try.func35 (by kernel_rfl) (noLoopsL (by kernel_rfl)) fun xs hx hp => (t35 sealF (fun _ s _ _ => strP s) openF fun _ s _ => strP s).trans T35_true

theorem cV_sound : CtxSound Try.prog CVF ∧ CtxLocal CVF := ctx_sound ⟨ok35, ok36, ok38, ok37, ok39, okSame, trivial⟩
theorem lN : LoopOK Try.prog (LN cK1 fun b => b.take 16) bN :=
  rloop_ok (L := LN cK1 fun b => b.take 16) (L' := L0) cV_sound (loopsOK_of (by kernel_rfl)) SN (F := FN cK1 fun b => b.take 16) (i := 9) (by kernel_rfl) (fun _ => rfl) fun xs hs r h => by
    obtain ⟨s, b, u1, up, p, u2, i, u3⟩ := xs
    obtain ⟨k, h0, u4⟩ := hs
    obtain ⟨h1, h2⟩ := Tr.chk_some h
    simp only [cK1, Bool.and_eq_true, decide_eq_true_eq] at h1
    obtain ⟨⟨e1, _⟩, e2, e3⟩ := h1
    have e2 : i = ((0 : Nat) : Int) := e2
    subst e2
    have := mN s up p e1 e3 k 16 0 (by omega)
    rw [List.take_zero, List.nil_append, List.drop_zero] at this
    exact ⟨_, this.trans (congrArg some (Tr.ret_some h2))⟩

end Go.Proofs.Ytlkddajnebjlcaa.Seal

/- Sealed bytes (layer 5, seal): the document's functions; both ways are one. -/
import Derived.Test.YtlkddajnebjlcaaP4
set_option linter.unusedVariables false
set_option maxRecDepth 100000
namespace Go.Proofs.Ytlkddajnebjlcaa.Seal
open Go Vse Go.Proofs Gen
open Ctr (B16 flX flipF flipP rflipF encRF rnextF)
open Mac (macF macP macF_len expF expP expX expL rexpF rmacF eqF oneP)

/-! bytes, copied one by one -/

theorem copy_step {b h : List Int} {k : Nat} (h1 : k < h.length) (h2 : k < b.length) : (b.take k ++ h.drop k).set k (b.getD k 0) = b.take (k + 1) ++ h.drop (k + 1) := by
  have hl : (b.take k).length = k := by rw [List.length_take]; omega
  have hg : b.getD k 0 = b[k] := by rw [List.getD_eq_getElem?_getD, List.getElem?_eq_getElem h2]; rfl
  rw [List.set_append_right _ _ (by omega), hl, Nat.sub_self, List.drop_eq_getElem_cons h1, List.set_cons_zero, hg, ← List.take_append_getElem h2, List.append_assoc]
  rfl
theorem copy_all {b h : List Int} (h1 : h.length = 16) : b.take 16 ++ h.drop 16 = b.take 16 := by rw [List.drop_eq_nil_of_le (by omega), List.append_nil]

/-! keys -/

def cK1 (b : List Int) (i : Int) (h : List Int) : Bool := decide (16 ≤ b.length ∧ b.length ≤ 100000) && (decide (i = 0) && decide (h.length = 16))
theorem mK {b h : List Int} (hb : 16 ≤ b.length) (hh : h.length = 16) (r : List Int) : ∀ (m k : Nat), k + m = 16 →
    SK.many (bodyK Try.prog (ctx (cK rexpF expP)) L0 bK) (m + 1) ((), b, (), (k : Int), ()) (r, b.take k ++ h.drop k, ()) = some (.exit 0, encS [4, 6, 8] [.ptr 1 [], bt, .ptr 2 []] eK 31 ((), b, (), ()) (r, b.take 16, ()))
  | 0, k, hk => by
    refine rmany_inr ((rK rexpF expP b _ r _).trans ?_) 0
    have : k = 16 := by omega
    subst this
    unfold GK
    rw [ite_f (decide_eq_false (by omega)), copy_all hh]
    rfl
  | m + 1, k, hk => by
    have e1 : w ((k : Int) + 1) = ((k + 1 : Nat) : Int) := (w_id (by omega) (by omega)).trans (by omega)
    refine (rmany_inl (d := (((), b, (), ((k + 1 : Nat) : Int), ()), (r, b.take (k + 1) ++ h.drop (k + 1), ()))) ((rK rexpF expP b _ r _).trans ?_) (m + 1)).trans (mK hb hh r m (k + 1) (by omega))
    unfold GK
    rw [Int.toNat_natCast, ite_t (decide_eq_true (by omega)), chk_eval (Ctr.inArr_nat (by omega)), chk_eval (Ctr.inArrK64 (by omega) (by omega) (by omega)), e1, copy_step (by omega) (by omega)]
    rfl
theorem cK_sound : CtxSound Try.prog (ctx (cK rexpF expP)) ∧ CtxLocal (ctx (cK rexpF expP)) := ctx_sound ⟨Mac.ok32, trivial⟩
theorem lK : LoopOK Try.prog (LK cK1 fun b => b.take 16) bK :=
  rloop_ok (L := LK cK1 fun b => b.take 16) (L' := L0) cK_sound (loopsOK_of (by kernel_rfl)) SK (F := FK cK1 fun b => b.take 16) (i := 4) (by kernel_rfl) (fun _ => rfl) fun xs hs r h => by
    obtain ⟨u1, b, u2, i, u3⟩ := xs
    obtain ⟨q, h0, u4⟩ := hs
    obtain ⟨h1, h2⟩ := Tr.chk_some h
    simp only [cK1, Bool.and_eq_true, decide_eq_true_eq] at h1
    obtain ⟨⟨e1, _⟩, e2, e3⟩ := h1
    have e2 : i = ((0 : Nat) : Int) := e2
    subst e2
    have := mK e1 e3 q 16 0 (by omega)
    rw [List.take_zero, List.nil_append, List.drop_zero] at this
    exact ⟨_, this.trans (congrArg some (Tr.ret_some h2))⟩

def pK (key : List Int) (s : ByteArray) : Bool := decide (B16 key) && decide (s.size ≤ 40)
theorem rkeys_E {key : List Int} {s : ByteArray} (hk : B16 key) (hs : s.size ≤ 40) : rexpF key (pur ++ s) 48 = (keysF key s, 0, ()) := by
  rw [← Mac.expand_same hk.1 (by rw [hk.2]; omega) (by rw [pur_size]; omega), keysF_E]
theorem z16_len : z16.length = 16 := List.length_replicate
theorem TK_eq {key : List Int} {s : ByteArray} (hk : B16 key) (hs : s.size ≤ 40) : (TK rexpF expP cK1 (fun b => b.take 16) key s).eval = some ((hideF key s, codeF key s, ()), ()) := by
  have hl := keysF_len key s
  have ha : all 16 key = key := all_len hk.2
  have k0 : expP key (pur ++ s) = true := by simp only [expP, Bool.and_eq_true, decide_eq_true_eq, pur_size, hk.2]; omega
  unfold TK hideF codeF
  rw [ha, rkeys_E hk hs]
  dsimp only
  generalize keysF key s = K at hl
  have k1 : cK1 K 0 z16 = true := by simp only [cK1, z16_len, hl]; rfl
  have c2 : cut K 16 (K.length : Int) = K.drop 16 := cut_from K 16
  have k2 : cutOK K 16 (K.length : Int) = true := cut_ok (a := 16) (by omega) (Nat.le_refl _)
  rw [chk_eval (decide_eq_true (by omega)), chk_eval k0, chk_eval k1, chk_eval k2, c2]
  rfl
def s49 : CSpec := .pos nK (fun xs _ => pK xs.1 xs.2.1) fun xs _ => ((hideF xs.1 xs.2.1, codeF xs.1 xs.2.1, ()), ())
theorem ok49 : CSound Try.prog 49 s49 ∧ CLocal s49 :=
  pos_sound (L := LK cK1 fun b => b.take 16) cK_sound Try.func49 (by kernel_rfl) (loops1 (by kernel_rfl) lK) fun xs hs hx hh hp => by
    obtain ⟨key, s, u⟩ := xs
    have hp : pK key s = true := hp
    simp only [pK, Bool.and_eq_true, decide_eq_true_eq] at hp
    exact (tK rexpF expP cK1 (fun b => b.take 16) key s).trans (TK_eq hp.1 hp.2)

/-! Seal, Open -/

abbrev kF : Kf := fun key s => (hideF key s, codeF key s, ())
abbrev CRF : Ctx := ctx (cR kF pK flipP (fun k a b => rflipF k a b) oneP rmacF)
theorem cR_sound : CtxSound Try.prog CRF ∧ CtxLocal CRF := ctx_sound ⟨ok49, Ctr.ok25, Mac.ok33, okSame, trivial⟩
theorem rflip_len (k a b : List Int) : (rflipF k a b).length = b.length := Ctr.partF_len _ _ _ _ _ _
theorem rmac_len (k b : List Int) : (rmacF k b).length = 32 := Mac.rsumF_len _

def rsealF (key : List Int) (s : ByteArray) (first plain : List Int) : Rs :=
  if badL s then ([], 1, ()) else if plain.length > 1000 then ([], 7, ()) else
    ((first ++ rflipF (hideF key s) first plain) ++ rmacF (codeF key s) (first ++ rflipF (hideF key s) first plain), 0, ())

theorem badL_of {s : ByteArray} (h1 : ¬ (s == ByteArray.empty) = true) (h2 : ¬ s.size > 40) : ¬ badL s := fun h => by
  rcases h with h | h
  · exact h1 h
  · exact h2 h

theorem TRS_eq {key first plain : List Int} {s : ByteArray} (hk : B16 key) (hf : first.length = 16) :
    (TRS kF pK flipP (fun k a b => rflipF k a b) oneP rmacF key s first plain).eval = some (rsealF key s first plain, ()) := by
  unfold TRS rsealF
  simp only [List.nil_append]
  by_cases h1 : (s == ByteArray.empty) = true
  · rw [ite_t h1, if_pos (.inl h1)]; rfl
  by_cases h2 : s.size > 40
  · rw [ite_f (Bool.eq_false_iff.2 h1), ite_t (decide_eq_true (by omega)), if_pos (.inr h2)]; rfl
  rw [if_neg (badL_of h1 h2), ite_f (Bool.eq_false_iff.2 h1), ite_f (decide_eq_false (by omega))]
  by_cases h3 : plain.length > 1000
  · rw [if_pos h3, ite_t (decide_eq_true (by omega))]; rfl
  have hp : pK key s = true := by simp only [pK, Bool.and_eq_true, decide_eq_true_eq]; exact ⟨hk, by omega⟩
  have ha : all 16 first = first := all_len hf
  have hr : ∀ a b : Nat, a ≤ 2000 → b ≤ 2000 → Vse.room (a + b) 1 = true := fun a b _ _ => by simp only [Vse.room, decide_eq_true_eq]; omega
  have hcl := code_len key s
  rw [ha]
  generalize hideF key s = H
  generalize codeF key s = C at hcl
  have h5 : (rflipF H first plain).length = plain.length := rflip_len _ _ _
  generalize rflipF H first plain = X at h5
  have hm : oneP C (first ++ X) = true := by simp only [oneP, Bool.and_eq_true, decide_eq_true_eq, List.length_append]; omega
  have h6 : (rmacF C (first ++ X)).length = 32 := rmac_len _ _
  generalize rmacF C (first ++ X) = D at h6
  have hd : all 32 D = D := all_len h6
  rw [hd, if_neg h3, ite_f (decide_eq_false (by omega)), chk_eval hp, chk_eval (hr _ _ (by simp) (by omega)), chk_eval (show flipP plain = true from decide_eq_true (by omega)), chk_eval (hr _ _ (by omega) (by omega)), chk_eval hm,
    chk_eval (hr _ _ (by rw [List.length_append]; omega) (by omega))]
  rfl

def rsP (key : List Int) : Bool := decide (B16 key)
def s37 : CSpec := .pos nSe (fun xs _ => rsP xs.1) fun xs _ => (rsealF xs.1 xs.2.1 xs.2.2.1 xs.2.2.2.1, ())
theorem ok37 : CSound Try.prog 37 s37 ∧ CLocal s37 :=
  pos_sound (L := L0) cR_sound Try.func37 (by kernel_rfl) (noLoopsL (by kernel_rfl)) fun xs hs hx hh hp => by
    obtain ⟨key, s, first, plain, u⟩ := xs
    exact (tRS kF pK flipP (fun k a b => rflipF k a b) oneP rmacF key s first plain).trans (TRS_eq (of_decide_eq_true hp) hx.2.2.1.1)

theorem mO {b h : List Int} (front : List Int) (hb : 16 ≤ b.length) (hh : h.length = 16) (r : List Int) : ∀ (m k : Nat), k + m = 16 →
    SO.many (bodyK Try.prog CRF L0 bO) (m + 1) (b, (), front, (), (k : Int), ()) (r, b.take k ++ h.drop k, ()) = some (.exit 0, encS [8, 10, 12] [.ptr 1 [], bs, .ptr 5 []] eO 67 ((), front, (), ()) (r, b.take 16, ()))
  | 0, k, hk => by
    refine rmany_inr ((rO _ _ _ _ _ _ b front _ r _).trans ?_) 0
    have : k = 16 := by omega
    subst this
    unfold GO
    rw [ite_f (decide_eq_false (by omega)), copy_all hh]
    rfl
  | m + 1, k, hk => by
    have e1 : w ((k : Int) + 1) = ((k + 1 : Nat) : Int) := (w_id (by omega) (by omega)).trans (by omega)
    refine (rmany_inl (d := ((b, (), front, (), ((k + 1 : Nat) : Int), ()), (r, b.take (k + 1) ++ h.drop (k + 1), ()))) ((rO _ _ _ _ _ _ b front _ r _).trans ?_) (m + 1)).trans (mO front hb hh r m (k + 1) (by omega))
    unfold GO
    rw [Int.toNat_natCast, ite_t (decide_eq_true (by omega)), chk_eval (Ctr.inArr_nat (by omega)), chk_eval (Ctr.inArrK64 (by omega) (by omega) (by omega)), e1, copy_step (by omega) (by omega)]
    rfl
theorem lO : LoopOK Try.prog (LO cK1 fun b => b.take 16) bO :=
  rloop_ok (L := LO cK1 fun b => b.take 16) (L' := L0) cR_sound (loopsOK_of (by kernel_rfl)) SO (F := FO cK1 fun b => b.take 16) (i := 14) (by kernel_rfl) (fun _ => rfl) fun xs hs r h => by
    obtain ⟨b, u1, front, u2, i, u3⟩ := xs
    obtain ⟨q, h0, u4⟩ := hs
    obtain ⟨h1, h2⟩ := Tr.chk_some h
    simp only [cK1, Bool.and_eq_true, decide_eq_true_eq] at h1
    obtain ⟨⟨e1, _⟩, e2, e3⟩ := h1
    have e2 : i = ((0 : Nat) : Int) := e2
    subst e2
    have := mO front e1 e3 q 16 0 (by omega)
    rw [List.take_zero, List.nil_append, List.drop_zero] at this
    exact ⟨_, this.trans (congrArg some (Tr.ret_some h2))⟩

def ropenF (key : List Int) (s : ByteArray) (b : List Int) : Rs :=
  if badL s then ([], 1, ()) else if b.length < 48 then ([], 2, ()) else if b.length > 1048 then ([], 7, ()) else
    if sameI (rmacF (codeF key s) (b.take (b.length - 32))) (b.drop (b.length - 32)) = true then (rflipF (hideF key s) (b.take 16) ((b.take (b.length - 32)).drop 16), 0, ()) else ([], 6, ())

theorem TRO_eq {key b : List Int} {s : ByteArray} (hk : B16 key) :
    (TRO kF pK flipP (fun k a b => rflipF k a b) oneP rmacF cK1 (fun b => b.take 16) key s b).eval = some (ropenF key s b, ()) := by
  unfold TRO ropenF
  simp only [List.nil_append]
  by_cases h1 : (s == ByteArray.empty) = true
  · rw [ite_t h1, if_pos (.inl h1)]; rfl
  by_cases h2 : s.size > 40
  · rw [ite_f (Bool.eq_false_iff.2 h1), ite_t (decide_eq_true (by omega)), if_pos (.inr h2)]; rfl
  rw [if_neg (badL_of h1 h2), ite_f (Bool.eq_false_iff.2 h1), ite_f (decide_eq_false (by omega))]
  by_cases h3 : b.length < 48
  · rw [if_pos h3, ite_t (decide_eq_true (by omega))]; rfl
  by_cases h4 : b.length > 1048
  · rw [if_neg h3, if_pos h4, ite_f (decide_eq_false (by omega)), ite_t (decide_eq_true (by omega))]; rfl
  rw [if_neg h3, if_neg h4, ite_f (decide_eq_false (by omega)), ite_f (decide_eq_false (by omega))]
  have hp : pK key s = true := by simp only [pK, Bool.and_eq_true, decide_eq_true_eq]; exact ⟨hk, by omega⟩
  have hn : w ((b.length : Int) - 32) = ((b.length - 32 : Nat) : Int) := (w_id (by omega) (by omega)).trans (by omega)
  have c0 : cut b 0 ((b.length - 32 : Nat) : Int) = b.take (b.length - 32) := cut_to b _
  have c3 : cut b ((b.length - 32 : Nat) : Int) (b.length : Int) = b.drop (b.length - 32) := cut_from b _
  have k1 : cutOK b 0 ((b.length - 32 : Nat) : Int) = true := cut_ok (a := 0) (by omega) (by omega)
  have k4 : cutOK b ((b.length - 32 : Nat) : Int) (b.length : Int) = true := cut_ok (by omega) (by omega)
  have k0 : cK1 b 0 z16 = true := by simp only [cK1, z16_len, Bool.and_eq_true, decide_eq_true_eq, and_true]; omega
  rw [hn]
  simp only [c0, c3]
  generalize hfr : b.take (b.length - 32) = front
  have hl : front.length = b.length - 32 := by rw [← hfr, List.length_take]; omega
  have c2 : cut front 16 (front.length : Int) = front.drop 16 := cut_from front 16
  have k3 : cutOK front 16 (front.length : Int) = true := cut_ok (a := 16) (by omega) (by omega)
  have k5 : flipP (front.drop 16) = true := decide_eq_true (by rw [List.length_drop]; omega)
  have k6 : Vse.room (([] : List Int).length + front.length) 1 = true := by simp only [Vse.room, decide_eq_true_eq, List.length_nil]; omega
  have hcl := code_len key s
  generalize hideF key s = H
  generalize codeF key s = C at hcl
  have hm : oneP C front = true := by simp only [oneP, Bool.and_eq_true, decide_eq_true_eq]; omega
  have h6 : (rmacF C front).length = 32 := rmac_len _ _
  generalize rmacF C front = D at h6
  have hd : all 32 D = D := all_len h6
  rw [c2, hd, chk_eval hp, chk_eval k1, chk_eval k6, chk_eval hm, chk_eval k4]
  by_cases hq : sameI D (b.drop (b.length - 32)) = true
  · rw [if_pos hq, ite_f (by rw [hq]; rfl), chk_eval k0, chk_eval k3, chk_eval k5]
    rfl
  · rw [if_neg hq, ite_t (by rw [Bool.eq_false_iff.2 hq]; rfl)]
    rfl

def s39 : CSpec := .pos nOp (fun xs _ => rsP xs.1) fun xs _ => (ropenF xs.1 xs.2.1 xs.2.2.1, ())
theorem ok39 : CSound Try.prog 39 s39 ∧ CLocal s39 :=
  pos_sound (L := LO cK1 fun b => b.take 16) cR_sound Try.func39 (by kernel_rfl) (loops1 (by kernel_rfl) lO) fun xs hs hx hh hp => by
    obtain ⟨key, s, b, u⟩ := xs
    exact (tRO kF pK flipP (fun k a b => rflipF k a b) oneP rmacF cK1 (fun b => b.take 16) key s b).trans (TRO_eq (of_decide_eq_true hp))

end Go.Proofs.Ytlkddajnebjlcaa.Seal

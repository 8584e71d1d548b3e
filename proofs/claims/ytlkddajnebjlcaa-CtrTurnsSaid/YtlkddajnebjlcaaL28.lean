/- The laws of layer 4 (ctr): their walks answer true. -/
import Derived.Test.YtlkddajnebjlcaaL27
set_option linter.unusedVariables false
set_option maxRecDepth 100000
namespace Go.Proofs.Ytlkddajnebjlcaa.Ctr
open Go Vse Go.Proofs Gen

theorem eqA_self : ∀ a : List Int, eqA a a = true
  | [] => rfl
  | x :: a => by
    have h1 : decide (x = x) = true := decide_eq_true rfl
    have h2 : eqList (fun x y : Int => decide (x = y)) a a = true := eqA_self a
    show (decide (x = x) && eqList (fun x y : Int => decide (x = y)) a a) = true
    rw [h1, h2]; rfl
theorem eqA_of {a b : List Int} (h : a = b) : eqA a b = true := h ▸ eqA_self a

instance (l : List Int) : Decidable (Bytes l) := inferInstanceAs (Decidable (∀ x ∈ l, 0 ≤ x ∧ x < 256))

/-- a key, or a counter -/
def B16 (l : List Int) : Prop := Bytes l ∧ l.length = 16
instance (l : List Int) : Decidable (B16 l) := inferInstanceAs (Decidable (Bytes l ∧ l.length = 16))

theorem b16_ok {l : List Int} (h : Ty.ok w16 l) : B16 l := ⟨bytes_ok h, h.1⟩
theorem b16_next {a : List Int} (h : B16 a) (n : Int) : B16 (nextF a n) := ⟨next_bytes h.1 n, by rw [next_len, h.2]⟩

theorem flX_eq {key a b : List Int} (h : B16 a) (hb : b.length ≤ 1000000) : flX key a b = flipF key a b := flip_eq h.1 h.2 hb

theorem T6_true {key a b : List Int} (hk : B16 key) (ha : B16 a) : (T6 flipP flX flipP rflipF nextF rnextF key a b).eval = some (.v .bool true) := by
  unfold T6
  by_cases h : (b.length : Int) > 100
  · rw [ite_t (decide_eq_true h)]; rfl
  · have hb : b.length ≤ 1000000 := by omega
    have hp : flipP b = true := decide_eq_true hb
    have hs : sameI (flX key a b) (rflipF key a b) = true := by
      unfold sameI
      exact decide_eq_true ((flX_eq ha hb).trans (flips_same hk.1 hk.2 ha.1 ha.2 hb))
    have hn : ∀ x : Int, nextF a (wu x) = rnextF a (wu x) := fun x => by
      have : wu x = (((wu x).toNat : Nat) : Int) := by rw [wu_mod]; omega
      rw [this]
      exact nexts_same ha.1 (by rw [wu_mod]; omega)
    rw [ite_f (decide_eq_false h), chk_eval hp, chk_eval hp, ite_t hs]
    simp only [Tr.eval, eqA_of (hn _)]

/-! CtrBack -/

theorem key_byte {key a : List Int} (hk : B16 key) (ha : B16 a) (i : Nat) : IsB ((Aes.encI key a).getD i 0) := by
  have := Aes.encN_blk (Aes.keys_blk (blk_of hk.1 hk.2)) (blk_of ha.1 ha.2) 10 (Nat.le_refl _)
  exact this.2 i

theorem byte_get {b : List Int} (hb : Bytes b) (i : Nat) : IsB (b.getD i 0) := by
  obtain ⟨c, e, hc⟩ := bytes_get hb i
  rw [e]; exact isB_nat hc

theorem xor_back {x k : Int} (hx : IsB x) (hk : IsB k) : xorI .u8 (xorI .u8 x k) k = x := by
  obtain ⟨a, rfl, ha⟩ := hx.nat
  obtain ⟨c, rfl, hc⟩ := hk.nat
  rw [xorI_u8 ha hc, xorI_u8 (xor_lt256 ha hc) hc, Nat.xor_assoc, Nat.xor_self, Nat.xor_zero]

theorem xor_both {x y k : Int} (hx : IsB x) (hy : IsB y) (hk : IsB k) : xorI .u8 (xorI .u8 x k) (xorI .u8 y k) = xorI .u8 x y := by
  obtain ⟨a, rfl, ha⟩ := hx.nat
  obtain ⟨b, rfl, hb⟩ := hy.nat
  obtain ⟨c, rfl, hc⟩ := hk.nat
  rw [xorI_u8 ha hc, xorI_u8 hb hc, xorI_u8 (xor_lt256 ha hc) (xor_lt256 hb hc), xorI_u8 ha hb]
  congr 1
  rw [Nat.xor_comm b c, Nat.xor_assoc, ← Nat.xor_assoc c c b, Nat.xor_self, Nat.zero_xor]

theorem ext_getD {p q : List Int} (hl : p.length = q.length) (h : ∀ k, k < p.length → p.getD k 0 = q.getD k 0) : p = q := by
  apply List.ext_getElem hl
  intro i h1 h2
  have := h i h1
  rw [List.getD_eq_getElem?_getD, List.getD_eq_getElem?_getD, List.getElem?_eq_getElem h1, List.getElem?_eq_getElem h2] at this
  exact this

theorem flip_twice {key a b : List Int} (hk : B16 key) (ha : B16 a) (hb : Bytes b) : flipF key a (flipF key a b) = b := by
  refine ext_getD (by rw [flip_len, flip_len]) fun i hi => ?_
  rw [flip_len, flip_len] at hi
  rw [flip_get _ _ _ (by rw [flip_len]; exact hi)]
  unfold elemF
  rw [flip_get _ _ _ hi]
  unfold elemF
  exact xor_back (byte_get hb i) (key_byte hk (b16_next ha _) _)

theorem drop_getD (l : List Int) (n i : Nat) : (l.drop n).getD i 0 = l.getD (n + i) 0 := by
  rw [List.getD_eq_getElem?_getD, List.getD_eq_getElem?_getD, List.getElem?_drop]

theorem flip_part {key a b : List Int} (hk : B16 key) (ha : B16 a) (hb : b.length ≤ 1000000) {j : Nat} (hj : 16 * j ≤ b.length) : flipF key (nextF a ((j : Nat) : Int)) (b.drop (16 * j)) = (flipF key a b).drop (16 * j) := by
  refine ext_getD (by rw [flip_len, List.length_drop, List.length_drop, flip_len]) fun i hi => ?_
  rw [flip_len, List.length_drop] at hi
  rw [flip_get _ _ _ (by rw [List.length_drop]; exact hi), drop_getD, flip_get _ _ _ (by omega)]
  unfold elemF
  rw [drop_getD, next_add ha.1 ha.2 (by omega)]
  have h1 : (16 * j + i) / 16 = j + i / 16 := by omega
  have h2 : (16 * j + i) % 16 = i % 16 := by omega
  rw [h1, h2]

theorem behind_eq (l : List Int) (n : Nat) : behind l (n : Int) = l.drop n := by
  unfold behind
  rw [Int.toNat_natCast, Int.toNat_natCast, List.take_length]

def cB1 (key a b f : List Int) (i : Int) : Bool := decide (B16 key) && (decide (B16 a) && (decide (b.length ≤ 200) && (decide (f = flipF key a b) && decide (i = 16))))

theorem mB (up : Bool) {key a b : List Int} (hk : B16 key) (ha : B16 a) (hb : b.length ≤ 200) : ∀ (m j : Nat), b.length < 16 * (j + m) →
    SB.many (bodyK Try.prog CVF L0 bB) (m + 1) (b, (), (), up, flipF key a b, ((16 * j : Nat) : Int), ()) (key, a, ()) = some (.exit 0, encS [7] [.bool] eN 61 (up, ()) (key, a, ()))
  | 0, j, h => by
    refine rmany_inr ((rB _ _ _ _ _ _ b up _ _ key a).trans ?_) 0
    unfold GB
    rw [ite_f (decide_eq_false (by omega))]
    rfl
  | m + 1, j, h => by
    by_cases hj : 16 * j ≤ b.length
    · have e1 : sliceOK b ((16 * j : Nat) : Int) = true := by simp only [sliceOK, Bool.and_eq_true, decide_eq_true_eq]; omega
      have e2 : flipP (behind b ((16 * j : Nat) : Int)) = true := by
        rw [behind_eq]
        exact decide_eq_true (by rw [List.length_drop]; omega)
      have e3 : sliceOK (flipF key a b) ((16 * j : Nat) : Int) = true := by simp only [sliceOK, Bool.and_eq_true, decide_eq_true_eq, flip_len]; omega
      have e4 : wu (w (((16 * j : Nat) : Int).tdiv 16)) = ((j : Nat) : Int) := by
        have : ((16 * j : Nat) : Int).tdiv 16 = ((j : Nat) : Int) := by rw [Int.tdiv_eq_ediv_of_nonneg (by omega)]; omega
        rw [this, w_id (by omega) (by omega), wu_mod]
        omega
      have e5 : (!sameI (flX key (nextF a (wu (w (((16 * j : Nat) : Int).tdiv 16)))) (behind b ((16 * j : Nat) : Int))) (behind (flipF key a b) ((16 * j : Nat) : Int))) = false := by
        rw [e4, behind_eq, behind_eq, flX_eq (b16_next ha _) (by rw [List.length_drop]; omega), flip_part hk ha (by omega) hj]
        unfold sameI
        rw [decide_eq_true rfl]; rfl
      have e6 : w (((16 * j : Nat) : Int) + 16) = ((16 * (j + 1) : Nat) : Int) := (w_id (by omega) (by omega)).trans (by omega)
      refine (rmany_inl (d := ((b, (), (), up, flipF key a b, ((16 * (j + 1) : Nat) : Int), ()), (key, a, ()))) ((rB _ _ _ _ _ _ b up _ _ key a).trans ?_) (m + 1)).trans (mB up hk ha hb m (j + 1) (by omega))
      unfold GB
      rw [ite_t (decide_eq_true (by omega)), chk_eval e1, chk_eval e2, chk_eval e3, ite_f e5, e6]
      rfl
    · refine rmany_inr ((rB _ _ _ _ _ _ b up _ _ key a).trans ?_) (m + 1)
      unfold GB
      rw [ite_f (decide_eq_false (by omega))]
      rfl

theorem lB : LoopOK Try.prog (LB cB1) bB :=
  rloop_ok (L := LB cB1) (L' := L0) cV_sound (loopsOK_of (by kernel_rfl)) SB (F := FBk cB1) (i := 9) (by kernel_rfl) (fun _ => rfl) fun xs hs r h => by
    obtain ⟨b, u1, u2, up, f, i, u3⟩ := xs
    obtain ⟨key, a, u4⟩ := hs
    obtain ⟨h1, h2⟩ := Tr.chk_some h
    simp only [cB1, Bool.and_eq_true, decide_eq_true_eq] at h1
    obtain ⟨hk, ha, hb, e1, e2⟩ := h1
    have e2 : i = ((16 * 1 : Nat) : Int) := e2
    subst e1; subst e2
    exact ⟨_, (mB up hk ha hb 20 1 (by omega)).trans (congrArg some (Tr.ret_some h2))⟩

theorem T7_true {key a b : List Int} (hk : B16 key) (ha : B16 a) (hbb : Bytes b) : (T7 flipP flX cB1 key a b).eval = some (.v .bool true) := by
  unfold T7
  by_cases h : (b.length : Int) > 200
  · rw [ite_t (decide_eq_true h)]; rfl
  · have hb : b.length ≤ 1000000 := by omega
    have hp : flipP b = true := decide_eq_true hb
    have e0 := flX_eq (key := key) ha hb
    have hp2 : flipP (flipF key a b) = true := decide_eq_true (by rw [flip_len]; exact hb)
    have e1 : flX key a (flipF key a b) = b := (flX_eq ha (by rw [flip_len]; exact hb)).trans (flip_twice hk ha hbb)
    have hs : (!sameI b b) = false := by
      unfold sameI
      rw [decide_eq_true rfl]; rfl
    have hl : (((flipF key a b).length : Int) != (b.length : Int)) = false := by rw [flip_len, bne_self_eq_false]
    have hc : cB1 key a b (flipF key a b) 16 = true := by
      simp only [cB1, Bool.and_eq_true, decide_eq_true_eq, and_true, true_and]
      exact ⟨hk, ha, by omega⟩
    rw [ite_f (decide_eq_false h), e0, chk_eval hp, chk_eval hp2, e1, ite_f hs, ite_f hl, chk_eval hc]
    rfl

/-! CtrTurns -/

def cT1 (b f d c : List Int) (i : Int) : Bool := decide (i = 0) && (decide (f.length = b.length ∧ d.length = b.length ∧ c.length = b.length ∧ b.length ≤ 200) && decide (∀ j, j < b.length → xorI .u8 (f.getD j 0) (d.getD j 0) = xorI .u8 (b.getD j 0) (c.getD j 0)))

theorem mT (up : Bool) {b f d n a c : List Int} (hl : f.length = b.length ∧ d.length = b.length ∧ c.length = b.length ∧ b.length ≤ 200) (hx : ∀ j, j < b.length → xorI .u8 (f.getD j 0) (d.getD j 0) = xorI .u8 (b.getD j 0) (c.getD j 0)) : ∀ (m i : Nat), i + m = b.length →
    ST.many (bodyK Try.prog CVF L0 bT) (m + 1) (b, (), up, (), f, (), d, ((i : Nat) : Int), ()) (n, a, c, ()) = some (.exit 0, encS [5, 7, 9] [.ptr 1 [], .bool, .ptr 3 []] eT 118 ((), up, (), ()) (n, a, c, ()))
  | 0, i, h => by
    refine rmany_inr ((rT _ _ _ _ _ _ b up f d _ n a c).trans ?_) 0
    unfold GT
    rw [ite_f (decide_eq_false (by omega))]
    rfl
  | m + 1, i, h => by
    obtain ⟨l1, l2, l3, l4⟩ := hl
    have hne : (xorI .u8 (f.getD i 0) (d.getD i 0) != xorI .u8 (b.getD i 0) (c.getD i 0)) = false := by rw [hx i (by omega), bne_self_eq_false]
    have e6 : w ((i : Int) + 1) = ((i + 1 : Nat) : Int) := (w_id (by omega) (by omega)).trans (by omega)
    refine (rmany_inl (d := ((b, (), up, (), f, (), d, ((i + 1 : Nat) : Int), ()), (n, a, c, ()))) ((rT _ _ _ _ _ _ b up f d _ n a c).trans ?_) (m + 1)).trans (mT up ⟨l1, l2, l3, l4⟩ hx m (i + 1) (by omega))
    unfold GT
    rw [Int.toNat_natCast, ite_t (decide_eq_true (by omega)), chk_eval (inArr_nat (by omega)), chk_eval (inArr_nat (by omega)), chk_eval (inArr_nat (by omega)), chk_eval (inArr_nat (by omega)), ite_f hne, e6]
    rfl

theorem lT : LoopOK Try.prog (LT cT1) bT :=
  rloop_ok (L := LT cT1) (L' := L0) cV_sound (loopsOK_of (by kernel_rfl)) ST (F := FT cT1) (i := 14) (by kernel_rfl) (fun _ => rfl) fun xs hs r h => by
    obtain ⟨b, u1, up, u2, f, u3, d, i, u4⟩ := xs
    obtain ⟨n, a, c, u5⟩ := hs
    obtain ⟨h1, h2⟩ := Tr.chk_some h
    simp only [cT1, Bool.and_eq_true, decide_eq_true_eq] at h1
    obtain ⟨e1, hl, hx⟩ := h1
    have e1 : i = ((0 : Nat) : Int) := e1
    subst e1
    exact ⟨_, (mT up hl hx (List.length (α := Int) b) 0 (by omega)).trans (congrArg some (Tr.ret_some h2))⟩

theorem T8_true {key a b : List Int} {x y : Int} (hk : B16 key) (ha : B16 a) (hbb : Bytes b) (hx : 0 ≤ x ∧ x < 18446744073709551616) (hy : 0 ≤ y ∧ y < 18446744073709551616) : (T8 flipP flX nextF cT1 key a b x y).eval = some (.v .bool true) := by
  unfold T8
  simp only [List.nil_append]
  by_cases h : (b.length : Int) > 200
  · rw [ite_t (decide_eq_true h)]; rfl
  rw [ite_f (decide_eq_false h)]
  by_cases h0 : b.length = 0
  · rw [ite_t (by rw [h0]; rfl)]; rfl
  have hb : b.length ≤ 1000000 := by omega
  have hwl : wu (b.length : Int) = (b.length : Int) := by rw [wu_mod]; omega
  have hpl : ∃ p : Nat, w (x.tmod (wu (b.length : Int))) = ((p : Nat) : Int) ∧ p < b.length := by
    rw [hwl, Int.tmod_eq_emod_of_nonneg hx.1]
    have h1 := Int.emod_nonneg x (b := (b.length : Int)) (by omega)
    have h2 := Int.emod_lt_of_pos x (b := (b.length : Int)) (by omega)
    refine ⟨(x % (b.length : Int)).toNat, ?_, by omega⟩
    rw [w_id (by omega) (by omega)]
    omega
  obtain ⟨p, hp, hpb⟩ := hpl
  rw [hp, Int.toNat_natCast]
  generalize hcd : b.set p (xorI .u8 (b.getD p 0) (wb (y.tmod 256))) = c
  have hcl : c.length = b.length := by rw [← hcd, List.length_set]
  have hcb : Bytes c := fun z hz => by
    rw [← hcd] at hz
    rcases List.mem_or_eq_of_mem_set hz with h' | rfl
    · exact hbb z h'
    · have h1 : IsB (wb (y.tmod 256)) := by unfold IsB; rw [wb_mod]; omega
      exact Aes.xorB (byte_get hbb p) h1
  have e1 := flX_eq (key := key) ha hb
  have e2 : flX key a c = flipF key a c := flX_eq ha (by omega)
  have hpp : flipP b = true := decide_eq_true hb
  have hpc : flipP c = true := decide_eq_true (by omega)
  have hr : Vse.room (([] : List Int).length + b.length) 1 = true := by simp only [Vse.room, decide_eq_true_eq, List.length_nil]; omega
  have l1 : (((flipF key a b).length : Int) != (b.length : Int)) = false := by rw [flip_len, bne_self_eq_false]
  have l2 : (((flipF key a c).length : Int) != (b.length : Int)) = false := by rw [flip_len, hcl, bne_self_eq_false]
  have ht : cT1 b (flipF key a b) (flipF key a c) c 0 = true := by
    simp only [cT1, Bool.and_eq_true, decide_eq_true_eq, true_and]
    refine ⟨⟨flip_len _ _ _, by rw [flip_len, hcl], hcl, by omega⟩, fun j hj => ?_⟩
    rw [flip_get _ _ _ hj, flip_get _ _ _ (by omega)]
    exact xor_both (byte_get hbb j) (byte_get hcb j) (key_byte hk (b16_next ha _) _)
  have hn : nextF (nextF a (wu (x.tdiv 2))) (wu (y.tdiv 2)) = nextF a (wu (wu (x.tdiv 2) + wu (y.tdiv 2))) := by
    have q1 : wu (x.tdiv 2) = (((x / 2).toNat : Nat) : Int) := by rw [Int.tdiv_eq_ediv_of_nonneg hx.1, wu_mod]; omega
    have q2 : wu (y.tdiv 2) = (((y / 2).toNat : Nat) : Int) := by rw [Int.tdiv_eq_ediv_of_nonneg hy.1, wu_mod]; omega
    have q3 : wu ((((x / 2).toNat : Nat) : Int) + (((y / 2).toNat : Nat) : Int)) = (((x / 2).toNat + (y / 2).toNat : Nat) : Int) := by rw [wu_mod]; omega
    rw [q1, q2, q3]
    exact next_add ha.1 ha.2 (by omega)
  rw [ite_f (by simp only [beq_eq_false_iff_ne, ne_eq]; omega), ite_f (decide_eq_false (by rw [hwl]; omega)), chk_eval hpp, chk_eval hr, chk_eval (inArr_nat hpb), chk_eval (inArr_nat hpb), chk_eval hpc, e1, e2, ite_f l1, ite_f l2, chk_eval ht]
  simp only [Tr.eval, eqA_of hn]

end Go.Proofs.Ytlkddajnebjlcaa.Ctr

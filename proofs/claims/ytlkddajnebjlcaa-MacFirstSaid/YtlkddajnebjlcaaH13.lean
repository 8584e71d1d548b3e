/- The digest is the document's (layer 1, sha): blocks, and all of them. -/
import Derived.Test.YtlkddajnebjlcaaH11
set_option linter.unusedVariables false
set_option maxRecDepth 100000
namespace Go.Proofs.Ytlkddajnebjlcaa.Sha
open Go Vse Go.Proofs Gen

/-! sixty-four numbers -/

theorem shl_or {x c : Nat} (hx : x < 16777216) (hc : c < 256) : orI .u32 (shlI .u32 (x : Int) 8) (w3 (c : Int)) = ((x * 256 + c : Nat) : Int) := by
  have e1 : shlI .u32 (x : Int) 8 = ((x * 2 ^ 8 : Nat) : Int) := by
    unfold shlI
    show w3 ((x : Int) * 2 ^ (min (8 : Int).toNat 32)) = _
    have : min (8 : Int).toNat 32 = 8 := by decide
    rw [this, w3_id ⟨by omega, by omega⟩]
    omega
  have hor : x * 2 ^ 8 ||| c = x * 2 ^ 8 + c := or_add (by omega)
  rw [e1, w3_id (U_nat (by omega)), orI_nat (by rw [max_u32]; omega) (by rw [max_u32]; omega) (by rw [hor, max_u32]; omega), hor]

theorem getD_set {v : List Int} {k : Nat} (h : k < v.length) (x : Int) : (v.set k x).getD k 0 = x := by
  rw [List.getD_eq_getElem?_getD, List.getElem?_set_self h]; rfl

theorem put4_num {v : List Int} {k : Nat} (hk : k < v.length) (h0 : v.getD k 0 = 0) {c0 c1 c2 c3 : Nat} (h0' : c0 < 256) (h1 : c1 < 256) (h2 : c2 < 256) (h3 : c3 < 256) :
    put4 v (k : Int) [(c0 : Int), (c1 : Int), (c2 : Int), (c3 : Int)] = v.set k (((c0 * 16777216 + c1 * 65536 + c2 * 256 + c3 : Nat)) : Int) := by
  have step : ∀ (u : List Int) (x c : Nat), k < u.length → u.getD k 0 = (x : Int) → x < 16777216 → c < 256 → put1 u (k : Int) (c : Int) = u.set k ((x * 256 + c : Nat) : Int) := by
    intro u x c hu hx hx2 hc
    unfold put1
    rw [Int.toNat_natCast, hx, shl_or hx2 hc]
  show put1 (put1 (put1 (put1 v k c0) k c1) k c2) k c3 = _
  rw [step v 0 c0 hk h0 (by omega) h0']
  rw [step _ (0 * 256 + c0) c1 (by simpa using hk) (getD_set hk _) (by omega) h1, List.set_set]
  rw [step _ ((0 * 256 + c0) * 256 + c1) c2 (by simpa using hk) (getD_set hk _) (by omega) h2, List.set_set]
  rw [step _ (((0 * 256 + c0) * 256 + c1) * 256 + c2) c3 (by simpa using hk) (getD_set hk _) (by omega) h3, List.set_set]
  congr 2
  omega

theorem byte_nat {l : List Int} (h : Bytes l) {k : Nat} (hk : k < l.length) : ∃ c : Nat, l[k] = (c : Int) ∧ c < 256 := by
  have := h _ (List.getElem_mem hk)
  exact ⟨l[k].toNat, by omega, by omega⟩

theorem part4_four {b : List Int} {i : Nat} (h : 4 * i + 3 < b.length) : part4 b i = [b[4 * i]'(by omega), b[4 * i + 1]'(by omega), b[4 * i + 2]'(by omega), b[4 * i + 3]] := by
  unfold part4
  rw [List.drop_take, show 4 * i + 4 - 4 * i = 4 by omega, List.drop_eq_getElem_cons (by omega), List.drop_eq_getElem_cons (by omega), List.drop_eq_getElem_cons (by omega), List.drop_eq_getElem_cons (by omega)]
  simp only [List.take_succ_cons, List.take_zero]

theorem num4_eq {b : List Int} {i : Nat} (hi : i < 16) (h : b.length = 64) {c0 c1 c2 c3 : Nat} (e0 : b[4 * i]'(by omega) = (c0 : Int)) (e1 : b[4 * i + 1]'(by omega) = (c1 : Int)) (e2 : b[4 * i + 2]'(by omega) = (c2 : Int)) (e3 : b[4 * i + 3]'(by omega) = (c3 : Int))
    (h0 : c0 < 256) (h1 : c1 < 256) (h2 : c2 < 256) (h3 : c3 < 256) : num4 b (i : Int) = ((c0 * 16777216 + c1 * 65536 + c2 * 256 + c3 : Nat) : Int) := by
  have w1 : w (4 * (i : Int)) = ((4 * i : Nat) : Int) := (w_id (by omega) (by omega)).trans (by omega)
  have w2 : w (((4 * i : Nat) : Int) + 1) = ((4 * i + 1 : Nat) : Int) := (w_id (by omega) (by omega)).trans (by omega)
  have w3' : w (((4 * i : Nat) : Int) + 2) = ((4 * i + 2 : Nat) : Int) := (w_id (by omega) (by omega)).trans (by omega)
  have w4 : w (((4 * i : Nat) : Int) + 3) = ((4 * i + 3 : Nat) : Int) := (w_id (by omega) (by omega)).trans (by omega)
  unfold num4
  simp only [w1, w2, w3', w4, Int.toNat_natCast, getD_cons (show 4 * i < b.length by omega), getD_cons (show 4 * i + 1 < b.length by omega), getD_cons (show 4 * i + 2 < b.length by omega), getD_cons (show 4 * i + 3 < b.length by omega), e0, e1, e2, e3]
  simp only [w3_mod]
  omega

theorem schedL_add (t : Tu) (b : List Int) : ∀ (m n i : Nat) (v : List Int), schedL t b i (m + n) v = schedL t b (i + m) n (schedL t b i m v)
  | 0, n, i, v => by rw [Nat.zero_add, Nat.add_zero]; rfl
  | m + 1, n, i, v => by
    rw [show m + 1 + n = (m + n) + 1 by omega, schedL, schedL_add t b m n (i + 1), show i + 1 + m = i + (m + 1) by omega]
    rfl

theorem set_mid (p : List Int) (n : Nat) (x : Int) : (p ++ List.replicate (n + 1) 0).set p.length x = (p ++ [x]) ++ List.replicate n 0 := by
  rw [List.set_append_right _ _ (Nat.le_refl _), Nat.sub_self, List.replicate_succ, List.set_cons_zero, List.append_assoc]
  rfl
theorem getD_left (p q : List Int) {k : Nat} (h : k < p.length) : (p ++ q).getD k 0 = p.getD k 0 := by
  rw [List.getD_eq_getElem?_getD, List.getElem?_append_left h, ← List.getD_eq_getElem?_getD]
theorem getD_mid (p : List Int) (n : Nat) : (p ++ List.replicate (n + 1) 0).getD p.length 0 = 0 := by
  rw [List.getD_eq_getElem?_getD, List.getElem?_append_right (Nat.le_refl _), Nat.sub_self]
  rfl

theorem num4_part {b : List Int} (hb : b.length = 64) (hB : Bytes b) {v : List Int} {i : Nat} (hi : i < 16) (hv : i < v.length) (h0 : v.getD i 0 = 0) : put4 v (i : Int) (part4 b i) = v.set i (num4 b (i : Int)) ∧ U (num4 b (i : Int)) := by
  obtain ⟨c0, e0, l0⟩ := byte_nat hB (k := 4 * i) (by omega)
  obtain ⟨c1, e1, l1⟩ := byte_nat hB (k := 4 * i + 1) (by omega)
  obtain ⟨c2, e2, l2⟩ := byte_nat hB (k := 4 * i + 2) (by omega)
  obtain ⟨c3, e3, l3⟩ := byte_nat hB (k := 4 * i + 3) (by omega)
  rw [part4_four (by omega), e0, e1, e2, e3, put4_num hv h0 l0 l1 l2 l3, num4_eq hi hb e0 e1 e2 e3 l0 l1 l2 l3]
  exact ⟨rfl, U_nat (by omega)⟩

theorem Us_snoc {p : List Int} {x : Int} (h : Us p) (hx : U x) : Us (p ++ [x]) := by
  intro y hy
  rcases List.mem_append.1 hy with hy | hy
  · exact h y hy
  · rw [List.mem_singleton.1 hy]; exact hx

theorem stage1 {b : List Int} (hb : b.length = 64) (hB : Bytes b) (t : Tu) : ∀ (m i : Nat) (p : List Int), i + m = 16 → p.length = i → Us p →
    schedL t b i m (p ++ List.replicate (64 - i) 0) = sch1 b i m p ++ List.replicate 48 0 ∧ Us (sch1 b i m p)
  | 0, i, p, h, hp, hU => by
    have : i = 16 := by omega
    subst this
    exact ⟨rfl, hU⟩
  | m + 1, i, p, h, hp, hU => by
    have hi : i < 16 := by omega
    subst hp
    have e64 : 64 - p.length = (63 - p.length) + 1 := by omega
    obtain ⟨q1, q2⟩ := num4_part hb hB (v := p ++ List.replicate (64 - p.length) 0) hi (by simp; omega) (by rw [e64]; exact getD_mid p _)
    have hm : schedL t b p.length (m + 1) (p ++ List.replicate (64 - p.length) 0) = schedL t b (p.length + 1) m ((p ++ [num4 b (p.length : Int)]) ++ List.replicate (63 - p.length) 0) := by
      rw [schedL, if_pos hi, q1, e64, set_mid]
    rw [hm]
    have := stage1 hb hB t m (p.length + 1) (p ++ [num4 b (p.length : Int)]) (by omega) (by simp) (Us_snoc hU q2)
    rw [show 64 - (p.length + 1) = 63 - p.length by omega] at this
    exact this

theorem getD_U {l : List Int} (h : Us l) (k : Nat) : U (l.getD k 0) := by
  rw [List.getD_eq_getElem?_getD]
  cases hk : l[k]? with
  | none => exact ⟨by simp, by simp⟩
  | some x => exact h x (List.mem_of_getElem? hk)

theorem step2_eq {p q : List Int} (hU : Us p) (h16 : 16 ≤ p.length) (h64 : p.length < 64) : step2 turnF (p ++ q) (p.length : Int) = (p ++ q).set p.length (num2 rightF p (p.length : Int)) ∧ U (num2 rightF p (p.length : Int)) := by
  have j1 : w ((p.length : Int) - 15) = ((p.length - 15 : Nat) : Int) := (w_id (by omega) (by omega)).trans (by omega)
  have j2 : w ((p.length : Int) - 2) = ((p.length - 2 : Nat) : Int) := (w_id (by omega) (by omega)).trans (by omega)
  have j3 : w ((p.length : Int) - 16) = ((p.length - 16 : Nat) : Int) := (w_id (by omega) (by omega)).trans (by omega)
  have j4 : w ((p.length : Int) - 7) = ((p.length - 7 : Nat) : Int) := (w_id (by omega) (by omega)).trans (by omega)
  have x1 := getD_U hU (p.length - 15)
  have x2 := getD_U hU (p.length - 2)
  refine ⟨?_, ?_⟩
  · unfold step2 num2
    simp only [j1, j2, j3, j4, Int.toNat_natCast, getD_left p q (show p.length - 15 < p.length by omega), getD_left p q (show p.length - 2 < p.length by omega), getD_left p q (show p.length - 16 < p.length by omega), getD_left p q (show p.length - 7 < p.length by omega)]
    have t1 := turn_right x1 7 18 (by omega) (by omega) (shrI .u32 (p.getD (p.length - 15) 0) ((3 : Nat) : Int))
    have t2 := turn_right x2 17 19 (by omega) (by omega) (shrI .u32 (p.getD (p.length - 2) 0) ((10 : Nat) : Int))
    rw [shr_div x1 3 (by omega)] at t1
    rw [shr_div x2 10 (by omega)] at t2
    have s1 := shr_div x1 3 (by omega)
    have s2 := shr_div x2 10 (by omega)
    have t1' : turnF (p.getD (p.length - 15) 0) 7 18 (shrI .u32 (p.getD (p.length - 15) 0) 3) = xorI .u32 (xorI .u32 (rightF (p.getD (p.length - 15) 0) 7) (rightF (p.getD (p.length - 15) 0) 18)) (w3 ((p.getD (p.length - 15) 0).tdiv 8)) := by
      have : shrI .u32 (p.getD (p.length - 15) 0) 3 = w3 ((p.getD (p.length - 15) 0).tdiv ((2 ^ 3 : Nat) : Int)) := s1
      rw [this]; exact t1
    have t2' : turnF (p.getD (p.length - 2) 0) 17 19 (shrI .u32 (p.getD (p.length - 2) 0) 10) = xorI .u32 (xorI .u32 (rightF (p.getD (p.length - 2) 0) 17) (rightF (p.getD (p.length - 2) 0) 19)) (w3 ((p.getD (p.length - 2) 0).tdiv 1024)) := by
      have : shrI .u32 (p.getD (p.length - 2) 0) 10 = w3 ((p.getD (p.length - 2) 0).tdiv ((2 ^ 10 : Nat) : Int)) := s2
      rw [this]; exact t2
    rw [t1', t2']
  · unfold num2
    exact w3_U _

theorem stage2 {b : List Int} : ∀ (m i : Nat) (p : List Int), i + m = 64 → 16 ≤ i → p.length = i → Us p → schedL turnF b i m (p ++ List.replicate (64 - i) 0) = sch2 rightF i m p
  | 0, i, p, h, h16, hp, hU => by
    have : i = 64 := by omega
    subst this
    simp [schedL, sch2]
  | m + 1, i, p, h, h16, hp, hU => by
    subst hp
    have e64 : 64 - p.length = (63 - p.length) + 1 := by omega
    obtain ⟨q1, q2⟩ := step2_eq (q := List.replicate (64 - p.length) 0) hU h16 (by omega)
    have hm : schedL turnF b p.length (m + 1) (p ++ List.replicate (64 - p.length) 0) = schedL turnF b (p.length + 1) m ((p ++ [num2 rightF p (p.length : Int)]) ++ List.replicate (63 - p.length) 0) := by
      rw [schedL, if_neg (by omega), q1, e64, set_mid]
    rw [hm]
    have := stage2 (b := b) m (p.length + 1) (p ++ [num2 rightF p (p.length : Int)]) (by omega) (by omega) (by simp) (Us_snoc hU q2)
    rw [show 64 - (p.length + 1) = 63 - p.length by omega] at this
    rw [this]
    rfl

theorem sched_same {b : List Int} (hb : b.length = 64) (hB : Bytes b) : schedF b zeros64 = sch2F (sch1F b) := by
  have z : zeros64 = [] ++ List.replicate (64 - 0) 0 := by rfl
  obtain ⟨h1, h2⟩ := stage1 hb hB turnF 16 0 [] rfl rfl (fun x hx => by cases hx)
  have hl : (sch1 b 0 16 []).length = 16 := sch1_len b 16 0 []
  unfold schedF
  rw [show (64 : Nat) = 16 + 48 from rfl, schedL_add, z, h1, Nat.zero_add]
  exact stage2 48 16 _ rfl (by omega) hl h2

/-! rounds -/

theorem round_same {l0 l1 l2 l3 l4 l5 l6 l7 : Int} (h0 : U l0) (h4 : U l4) (k x : Int) : round1 rotF turnF [l0, l1, l2, l3, l4, l5, l6, l7] k x = roundR rightF [l0, l1, l2, l3, l4, l5, l6, l7] k x := by
  have ht : tF rotF turnF [l0, l1, l2, l3, l4, l5, l6, l7] k x = rT rightF l4 l5 l6 l7 k x := by
    show w3 (w3 (w3 (w3 (l7 + turnF l4 ((6 : Nat) : Int) ((11 : Nat) : Int) (rotF l4 (-((25 : Nat) : Int)))) + xorI .u32 (andI .u32 l4 l5) (andI .u32 (xorI .u32 4294967295 l4) l6)) + k) + x) = _
    rw [turn_right h4 6 11 (by omega) (by omega), rot_right h4 25 (by omega) (by omega), not_sub h4]
    rfl
  have hu : uF rotF turnF [l0, l1, l2, l3, l4, l5, l6, l7] = rU rightF l0 l1 l2 := by
    show w3 (turnF l0 ((2 : Nat) : Int) ((13 : Nat) : Int) (rotF l0 (-((22 : Nat) : Int))) + xorI .u32 (xorI .u32 (andI .u32 l0 l1) (andI .u32 l0 l2)) (andI .u32 l1 l2)) = _
    rw [turn_right h0 2 13 (by omega) (by omega), rot_right h0 22 (by omega) (by omega)]
    rfl
  unfold round1
  rw [ht, hu]
  rfl

theorem roundR_U {l0 l1 l2 l3 l4 l5 l6 l7 : Int} (h : Us [l0, l1, l2, l3, l4, l5, l6, l7]) (k x : Int) : Us (roundR rightF [l0, l1, l2, l3, l4, l5, l6, l7] k x) := by
  intro y hy
  have hy : y ∈ [w3 (rT rightF l4 l5 l6 l7 k x + rU rightF l0 l1 l2), l0, l1, l2, w3 (l3 + rT rightF l4 l5 l6 l7 k x), l4, l5, l6] := hy
  simp only [List.mem_cons, List.not_mem_nil, or_false] at hy
  rcases hy with rfl | rfl | rfl | rfl | rfl | rfl | rfl | rfl
  · exact w3_U _
  · exact h _ (by simp)
  · exact h _ (by simp)
  · exact h _ (by simp)
  · exact w3_U _
  · exact h _ (by simp)
  · exact h _ (by simp)
  · exact h _ (by simp)

theorem rounds_same (ks v : List Int) : ∀ (m i : Nat) (l : List Int), l.length = 8 → Us l → roundsL turnF rotF ks v i m l = rndsR rightF ks v i m l ∧ Us (rndsR rightF ks v i m l)
  | 0, i, l, h, hU => ⟨rfl, hU⟩
  | m + 1, i, l, h, hU => by
    obtain ⟨l0, l1, l2, l3, l4, l5, l6, l7, rfl⟩ := eight h
    rw [roundsL, round_same (hU _ (by simp)) (hU _ (by simp)), rndsR]
    exact rounds_same ks v m (i + 1) _ rfl (roundR_U hU _ _)

/-! added -/

theorem add_same {l s : List Int} (hl : l.length = 8) (hs : s.length = 8) : addF l s = addRF s l ∧ Us (addRF s l) := by
  obtain ⟨l0, l1, l2, l3, l4, l5, l6, l7, rfl⟩ := eight hl
  obtain ⟨s0, s1, s2, s3, s4, s5, s6, s7, rfl⟩ := eight hs
  have e1 : addF [l0, l1, l2, l3, l4, l5, l6, l7] [s0, s1, s2, s3, s4, s5, s6, s7] = [w3 (s0 + l0), w3 (s1 + l1), w3 (s2 + l2), w3 (s3 + l3), w3 (s4 + l4), w3 (s5 + l5), w3 (s6 + l6), w3 (s7 + l7)] := rfl
  have e2 : addRF [s0, s1, s2, s3, s4, s5, s6, s7] [l0, l1, l2, l3, l4, l5, l6, l7] = [w3 (l0 + s0), w3 (l1 + s1), w3 (l2 + s2), w3 (l3 + s3), w3 (l4 + s4), w3 (l5 + s5), w3 (l6 + s6), w3 (l7 + s7)] := rfl
  rw [e1, e2, Int.add_comm l0, Int.add_comm l1, Int.add_comm l2, Int.add_comm l3, Int.add_comm l4, Int.add_comm l5, Int.add_comm l6, Int.add_comm l7]
  refine ⟨rfl, fun y hy => ?_⟩
  simp only [List.mem_cons, List.not_mem_nil, or_false] at hy
  rcases hy with rfl | rfl | rfl | rfl | rfl | rfl | rfl | rfl <;> exact w3_U _

theorem mix_block {s b : List Int} (hs : s.length = 8) (hU : Us s) (hb : b.length = 64) (hB : Bytes b) : mixF s b = blockF s b ∧ Us (blockF s b) := by
  obtain ⟨r1, r2⟩ := rounds_same consts (sch2F (sch1F b)) 64 0 s hs hU
  have hlen : (rndsF consts (sch2F (sch1F b)) s).length = 8 := rndsR_len rightF consts _ 64 0 s hs
  obtain ⟨a1, a2⟩ := add_same hlen hs
  refine ⟨?_, a2⟩
  unfold mixF blockF
  rw [sched_same hb hB]
  show addF (roundsL turnF rotF consts (sch2F (sch1F b)) 0 64 s) s = _
  rw [r1]
  exact a1

theorem abs_blocks : ∀ (n : Nat) (s a : List Int), a.length / 64 = n → s.length = 8 → Us s → Bytes a → (absF s a).1 = blocksF n s a ∧ Us (blocksF n s a)
  | 0, s, a, h, hs, hU, hB => ⟨by rw [absF_short (by omega)]; rfl, hU⟩
  | n + 1, s, a, h, hs, hU, hB => by
    obtain ⟨m1, m2⟩ := mix_block hs hU (b := a.take 64) (by rw [List.length_take]; omega) (fun x hx => hB x (List.mem_of_mem_take hx))
    rw [absF_long (by omega), m1, blocksF]
    exact abs_blocks n _ _ (by rw [List.length_drop]; omega) (blockF_len _ hs) m2 (fun x hx => hB x (List.mem_of_mem_drop hx))

/-! bytes of a state -/

theorem out_same {s : List Int} (hs : s.length = 8) (hU : Us s) : outF s zeros32 = put8F s zeros32 := by
  obtain ⟨s0, s1, s2, s3, s4, s5, s6, s7, rfl⟩ := eight hs
  have b3 : ∀ x, U x → wb (shrI .u32 x 24) = wb (w3 (x.tdiv 16777216)) := fun x hx => by rw [show shrI .u32 x 24 = w3 (x.tdiv ((2 ^ 24 : Nat) : Int)) from shr_div hx 24 (by omega)]; rfl
  have b2 : ∀ x, U x → wb (shrI .u32 x 16) = wb ((w3 (x.tdiv 65536)).tmod 256) := fun x hx => by
    rw [show shrI .u32 x 16 = w3 (x.tdiv ((2 ^ 16 : Nat) : Int)) from shr_div hx 16 (by omega)]
    show wb (w3 (x.tdiv 65536)) = _
    have := (w3_U (x.tdiv 65536)).1
    generalize w3 (x.tdiv 65536) = y at this ⊢
    rw [wb_mod, wb_mod, Int.tmod_eq_emod_of_nonneg this]; omega
  have b1 : ∀ x, U x → wb (shrI .u32 x 8) = wb ((w3 (x.tdiv 256)).tmod 256) := fun x hx => by
    rw [show shrI .u32 x 8 = w3 (x.tdiv ((2 ^ 8 : Nat) : Int)) from shr_div hx 8 (by omega)]
    show wb (w3 (x.tdiv 256)) = _
    have := (w3_U (x.tdiv 256)).1
    generalize w3 (x.tdiv 256) = y at this ⊢
    rw [wb_mod, wb_mod, Int.tmod_eq_emod_of_nonneg this]; omega
  have b0 : ∀ x, U x → wb (shrI .u32 x 0) = wb (x.tmod 256) := fun x hx => by
    rw [show shrI .u32 x 0 = w3 (x.tdiv ((2 ^ 0 : Nat) : Int)) from shr_div hx 0 (by omega)]
    show wb (w3 (x.tdiv 1)) = _
    rw [Int.tdiv_one, w3_id hx, wb_mod, wb_mod, Int.tmod_eq_emod_of_nonneg hx.1]; omega
  have four : ∀ x, U x → [wb (shrI .u32 x 24), wb (shrI .u32 x 16), wb (shrI .u32 x 8), wb (shrI .u32 x 0)] = [wb (w3 (x.tdiv 16777216)), wb ((w3 (x.tdiv 65536)).tmod 256), wb ((w3 (x.tdiv 256)).tmod 256), wb (x.tmod 256)] := fun x hx => by rw [b3 x hx, b2 x hx, b1 x hx, b0 x hx]
  have h0 := four s0 (hU _ (by simp))
  have h1 := four s1 (hU _ (by simp))
  have h2 := four s2 (hU _ (by simp))
  have h3 := four s3 (hU _ (by simp))
  have h4 := four s4 (hU _ (by simp))
  have h5 := four s5 (hU _ (by simp))
  have h6 := four s6 (hU _ (by simp))
  have h7 := four s7 (hU _ (by simp))
  have e1 : outF [s0, s1, s2, s3, s4, s5, s6, s7] zeros32 = [wb (shrI .u32 s0 24), wb (shrI .u32 s0 16), wb (shrI .u32 s0 8), wb (shrI .u32 s0 0)] ++ ([wb (shrI .u32 s1 24), wb (shrI .u32 s1 16), wb (shrI .u32 s1 8), wb (shrI .u32 s1 0)] ++ ([wb (shrI .u32 s2 24), wb (shrI .u32 s2 16), wb (shrI .u32 s2 8), wb (shrI .u32 s2 0)] ++
    ([wb (shrI .u32 s3 24), wb (shrI .u32 s3 16), wb (shrI .u32 s3 8), wb (shrI .u32 s3 0)] ++ ([wb (shrI .u32 s4 24), wb (shrI .u32 s4 16), wb (shrI .u32 s4 8), wb (shrI .u32 s4 0)] ++ ([wb (shrI .u32 s5 24), wb (shrI .u32 s5 16), wb (shrI .u32 s5 8), wb (shrI .u32 s5 0)] ++
    ([wb (shrI .u32 s6 24), wb (shrI .u32 s6 16), wb (shrI .u32 s6 8), wb (shrI .u32 s6 0)] ++ [wb (shrI .u32 s7 24), wb (shrI .u32 s7 16), wb (shrI .u32 s7 8), wb (shrI .u32 s7 0)])))))) := by kernel_rfl
  have e2 : put8F [s0, s1, s2, s3, s4, s5, s6, s7] zeros32 = [wb (w3 (s0.tdiv 16777216)), wb ((w3 (s0.tdiv 65536)).tmod 256), wb ((w3 (s0.tdiv 256)).tmod 256), wb (s0.tmod 256)] ++ ([wb (w3 (s1.tdiv 16777216)), wb ((w3 (s1.tdiv 65536)).tmod 256), wb ((w3 (s1.tdiv 256)).tmod 256), wb (s1.tmod 256)] ++ ([wb (w3 (s2.tdiv 16777216)), wb ((w3 (s2.tdiv 65536)).tmod 256), wb ((w3 (s2.tdiv 256)).tmod 256), wb (s2.tmod 256)] ++ ([wb (w3 (s3.tdiv 16777216)), wb ((w3 (s3.tdiv 65536)).tmod 256), wb ((w3 (s3.tdiv 256)).tmod 256), wb (s3.tmod 256)] ++ ([wb (w3 (s4.tdiv 16777216)), wb ((w3 (s4.tdiv 65536)).tmod 256), wb ((w3 (s4.tdiv 256)).tmod 256), wb (s4.tmod 256)] ++ ([wb (w3 (s5.tdiv 16777216)), wb ((w3 (s5.tdiv 65536)).tmod 256), wb ((w3 (s5.tdiv 256)).tmod 256), wb (s5.tmod 256)] ++ ([wb (w3 (s6.tdiv 16777216)), wb ((w3 (s6.tdiv 65536)).tmod 256), wb ((w3 (s6.tdiv 256)).tmod 256), wb (s6.tmod 256)] ++ ([wb (w3 (s7.tdiv 16777216)), wb ((w3 (s7.tdiv 65536)).tmod 256), wb ((w3 (s7.tdiv 256)).tmod 256), wb (s7.tmod 256)]))))))) := by kernel_rfl
  rw [e1, h0, h1, h2, h3, h4, h5, h6, h7, e2]

/-! filled up -/

theorem tail_byte {n i : Nat} (hn : n < 2305843009213693952) (hi : i ≤ 7) : wb (shrI .u64 (shlI .u64 (n : Int) 3) (w (8 * (i : Int)))) = wb ((wu (((8 * n : Nat) : Int).tdiv (unit1 i))).tmod 256) := by
  have e1 : shlI .u64 (n : Int) 3 = ((8 * n : Nat) : Int) := by
    unfold shlI
    show wu ((n : Int) * 2 ^ (min (3 : Int).toNat 64)) = _
    have : min (3 : Int).toNat 64 = 3 := by decide
    rw [this, wu_id (by omega) (by omega)]
    omega
  have e2 : w (8 * (i : Int)) = ((8 * i : Nat) : Int) := (w_id (by omega) (by omega)).trans (by omega)
  have e3 : unit1 i = ((2 ^ (8 * i) : Nat) : Int) := by
    unfold unit1
    rw [Nat.pow_mul]
    exact (Int.natCast_pow 256 i).symm
  have e4 : shrI .u64 ((8 * n : Nat) : Int) ((8 * i : Nat) : Int) = ((8 * n / 2 ^ (8 * i) : Nat) : Int) := by
    unfold shrI
    have hmin : min (((8 * i : Nat) : Int)).toNat IntKind.u64.bits = 8 * i := by
      rw [Int.toNat_natCast]; show min (8 * i) 64 = 8 * i; omega
    rw [hmin, Int.fdiv_eq_ediv_of_nonneg _ (by exact_mod_cast Nat.zero_le _), Int.natCast_ediv, Int.natCast_pow]; rfl
  have e5 : ((8 * n : Nat) : Int).tdiv ((2 ^ (8 * i) : Nat) : Int) = ((8 * n / 2 ^ (8 * i) : Nat) : Int) := by
    rw [Int.tdiv_eq_ediv_of_nonneg (by omega)]; exact (Int.natCast_ediv _ _).symm
  have hle : 8 * n / 2 ^ (8 * i) ≤ 8 * n := Nat.div_le_self _ _
  rw [e1, e2, e4, e3, e5]
  generalize 8 * n / 2 ^ (8 * i) = y at hle ⊢
  rw [wu_id (by omega) (by omega), wb_mod, wb_mod, Int.tmod_eq_emod_of_nonneg (by omega)]
  omega

theorem fill_same {b : List Int} (hb : b.length ≤ 10000000000) : b ++ fillF (hashOf b) = filledF b := by
  have hm : (hashOf b).2.2.1 = (b.length : Int) := by
    show wu (0 + wu (b.length : Int)) = _
    rw [wu_id (x := (b.length : Int)) (by omega) (by omega), wu_id (by omega) (by omega)]; omega
  have hr : (hashOf b).2.1.length = b.length % 64 := by
    show (absF h0.1 (h0.2.1 ++ b)).2.length = _
    rw [abs_rest]
    rfl
  have hp : padN ((hashOf b).2.1.length + 1) = padM (b.length + 1) := by
    rw [hr]; unfold padN padM; omega
  have ht : tail8 (hashOf b) = tailF (wu (w (8 * (b.length : Int)))) := by
    have e1 : wu (w (8 * (b.length : Int))) = ((8 * b.length : Nat) : Int) := by
      rw [w_id (by omega) (by omega), wu_id (by omega) (by omega)]; omega
    have tb : ∀ i : Nat, i ≤ 7 → tailB (hashOf b) i = wb ((wu (((8 * b.length : Nat) : Int).tdiv (unit1 i))).tmod 256) := fun i hi => by
      unfold tailB
      rw [hm]
      exact tail_byte (by omega) hi
    rw [e1]
    unfold tail8
    rw [tb 7 (by omega), tb 6 (by omega), tb 5 (by omega), tb 4 (by omega), tb 3 (by omega), tb 2 (by omega), tb 1 (by omega), tb 0 (by omega)]
    rfl
  unfold fillF filledF padL padR
  rw [ht, List.length_append, List.length_singleton]
  rw [hp]
  simp only [List.append_assoc]

theorem init_U : Us init := by
  intro x hx
  have : ∀ x ∈ init, 0 ≤ x ∧ x < 4294967296 := by decide
  exact this x hx

theorem filled_bytes {b : List Int} (hB : Bytes b) : Bytes (filledF b) := by
  have hw : ∀ x, 0 ≤ wb x ∧ wb x < 256 := fun x => by rw [wb_mod]; omega
  have ht : ∀ (n : Int) (m : Nat), Bytes (tailR n m) := by
    intro n m
    induction m with
    | zero => intro x hx; cases hx
    | succ m ih =>
      intro x hx
      rcases List.mem_cons.1 hx with rfl | hx
      · exact hw _
      · exact ih x hx
  intro x hx
  unfold filledF padR at hx
  simp only [List.mem_append, List.mem_singleton, List.mem_replicate] at hx
  rcases hx with ((hx | hx) | hx) | hx
  · exact hB x hx
  · subst hx; omega
  · obtain ⟨_, rfl⟩ := hx; omega
  · exact ht _ _ x hx

/-- the digest is the document's -/
theorem sums_same {b : List Int} (hB : Bytes b) (hb : b.length ≤ 10000000000) : shaF b = rsumF b := by
  have hl := filledF_len b
  have h1 : (writeF (fillF (hashOf b)) ((hashOf b).1, (hashOf b).2.1, 0, ())).1 = (absF init (filledF b)).1 := by
    show (absF (absF h0.1 (h0.2.1 ++ b)).1 ((absF h0.1 (h0.2.1 ++ b)).2 ++ fillF (hashOf b))).1 = _
    show (absF (absF init b).1 ((absF init b).2 ++ fillF (hashOf b))).1 = _
    rw [absF_append _ init b _ rfl, fill_same hb]
  obtain ⟨a1, a2⟩ := abs_blocks _ init (filledF b) rfl rfl init_U (filled_bytes hB)
  have hlen : (blocksF ((filledF b).length / 64) init (filledF b)).length = 8 := blocksF_len _ _ _ rfl
  rw [shaF_hash]
  unfold sumH rsumF blkF
  rw [h1, a1, out_same hlen a2]

theorem T3_true {b : List Int} (hB : Bytes b) : (T3 shaF shaP rsumF filledP b).eval = some (.v .bool true) := by
  unfold T3
  by_cases h : (b.length : Int) > 400
  · rw [ite_t (decide_eq_true h)]; rfl
  rw [ite_f (decide_eq_false h), chk_eval (b := shaP b) (decide_eq_true (by omega)), chk_eval (b := filledP b) (decide_eq_true (by omega)), sums_same hB (by omega), eqA_self]
  rfl

theorem bytes_wf {b : List Int} (h : bt.wf b) : Bytes b := fun x hx => by
  have h : (Lit.int .u8 x).wf = true := h.2 x hx
  simp [Lit.wf, IntKind.min, IntKind.max, IntKind.signed, IntKind.bits] at h
  omega

end Go.Proofs.Ytlkddajnebjlcaa.Sha

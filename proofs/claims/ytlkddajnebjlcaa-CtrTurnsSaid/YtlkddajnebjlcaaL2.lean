/- Counters (layer 4, ctr): what Next gives; by the document, too; counters add up. -/
import Derived.Test.YtlkddajnebjlcaaL1
set_option linter.unusedVariables false
set_option maxRecDepth 100000
namespace Go.Proofs.Ytlkddajnebjlcaa.Ctr
open Go Vse Go.Proofs Gen

theorem inArrK64 {i : Int} {n : Nat} (hn : (n : Int) ≤ 9223372036854775807) (h0 : 0 ≤ i) (h1 : i < (n : Int)) : inArrK .i64 i n = true := by
  have e : (decide (0 ≤ IntKind.i64.min) && decide (IntKind.i64.max < (n : Int))) = false := by
    have : decide (0 ≤ IntKind.i64.min) = false := by decide
    rw [this]; rfl
  unfold inArrK
  rw [e]
  simp only [inArr, Bool.and_eq_true, decide_eq_true_eq]
  exact ⟨h0, h1⟩
theorem inArr_nat {k n : Nat} (h : k < n) : inArr (k : Int) n = true := by simp only [inArr, Bool.and_eq_true, decide_eq_true_eq]; omega
theorem wb_mod (x : Int) : wb x = x % 256 := by
  simp [IntKind.wrap, IntKind.signed, IntKind.bits]
theorem wu_mod (x : Int) : wu x = x % 18446744073709551616 := by
  simp [IntKind.wrap, IntKind.signed, IntKind.bits]

/-! Next -/

def nxL (by_ carry : Int) : Nat → List Int → List Int
  | 0, q => q
  | m + 1, q => nxL (shrI .u64 by_ 8) (shrI .u64 (sumN by_ carry (q.getD m 0)) 8) m (q.set m (wb (sumN by_ carry (q.getD m 0))))
def nextF (at_ : List Int) (by_ : Int) : List Int := nxL by_ 0 16 at_
def cN (carry i : Int) (q : List Int) : Bool := decide (carry = 0) && (decide (i = 15) && decide (q.length = 16))

theorem nxL_len : ∀ (m : Nat) (by_ carry : Int) (q : List Int), (nxL by_ carry m q).length = q.length
  | 0, _, _, _ => rfl
  | m + 1, by_, carry, q => by rw [nxL, nxL_len m, List.length_set]

theorem mN (r : List Int) : ∀ (m : Nat) (by_ carry : Int) (q : List Int), m ≤ 16 →
    SN.many (bodyK Try.prog (ctx []) L0 bN) (m + 1) (by_, (), (), carry, (m : Int) - 1, ()) (q, r, ()) = some (.exit 0, encS [2, 4] [.ptr 0 [], .ptr 1 []] eN 29 ((), (), ()) (nxL by_ carry m q, r, ()))
  | 0, by_, carry, q, h => by
    refine rmany_inr ((rN by_ carry _ q r).trans ?_) 0
    unfold GN
    simp only
    rw [ite_f (decide_eq_false (by omega))]
    rfl
  | m + 1, by_, carry, q, h => by
    have e1 : ((m + 1 : Nat) : Int) - 1 = (m : Int) := by omega
    rw [e1]
    refine (rmany_inl (d := ((shrI .u64 by_ 8, (), (), shrI .u64 (sumN by_ carry (q.getD m 0)) 8, (m : Int) - 1, ()), (q.set m (wb (sumN by_ carry (q.getD m 0))), r, ()))) ((rN by_ carry _ q r).trans ?_) (m + 1)).trans (mN r m _ _ _ (by omega))
    unfold GN
    simp only [Int.toNat_natCast]
    rw [ite_t (decide_eq_true (by omega)), chk_eval (inArrK64 (by omega) (by omega) (by omega)), chk_eval (inArrK64 (by omega) (by omega) (by omega)), w_id (by omega) (by omega)]
    rfl

theorem lN : LoopOK Try.prog (LN cN (fun by_ q => nextF q by_)) bN :=
  rloop_ok (L := LN cN (fun by_ q => nextF q by_)) (L' := L0) nil_sound (loopsOK_of (by kernel_rfl)) SN (F := FN cN (fun by_ q => nextF q by_)) (i := 3) (by kernel_rfl) (fun _ => rfl) fun xs hs r h => by
    obtain ⟨by_, u1, u2, carry, i, u3⟩ := xs
    obtain ⟨q, c, u4⟩ := hs
    obtain ⟨h1, h2⟩ := Tr.chk_some h
    simp only [cN, Bool.and_eq_true, decide_eq_true_eq] at h1
    obtain ⟨e1, e2, e3⟩ := h1
    have e2 : i = ((16 : Nat) : Int) - 1 := e2
    subst e1; subst e2
    exact ⟨_, (mN c 16 by_ 0 q (by omega)).trans (congrArg some (Tr.ret_some h2))⟩

def s26 : CSpec := .slp1 [w16, u64] (fun _ => true) w16 fun x => nextF x.1 x.2.1
theorem ok26 : CSound Try.prog 26 s26 ∧ CLocal s26 :=
  slpE1 (L := LN cN (fun by_ q => nextF q by_)) nil_sound Try.func26 (by kernel_rfl) (loops1 (by kernel_rfl) lN) fun xs hx hp => by
    obtain ⟨at_, by_, u⟩ := xs
    have hl : List.length (α := Int) at_ = 16 := hx.1.1
    have e1 : cN 0 15 at_ = true := by simp only [cN, Bool.and_eq_true, decide_eq_true_eq, true_and]; exact hl
    refine (tN cN (fun by_ q => nextF q by_) at_ by_).trans ?_
    have : (TN cN (fun by_ q => nextF q by_) at_ by_).eval = some (.v w16 (nextF at_ by_)) := by
      unfold TN
      rw [chk_eval e1]
      rfl
    exact this

/-! the document's Next -/

def rnL (by_ carry : Int) : Nat → List Int → List Int
  | 0, q => q
  | m + 1, q => rnL (wu (by_.tdiv 256)) (wu ((sumR by_ carry (q.getD m 0)).tdiv 256)) m (q.set m (wb ((sumR by_ carry (q.getD m 0)).tmod 256)))
def rnextF (at_ : List Int) (by_ : Int) : List Int := rnL by_ 0 16 at_

theorem mR (r : List Int) : ∀ (m : Nat) (by_ carry : Int) (q : List Int), m ≤ 16 →
    SR.many (bodyK Try.prog (ctx []) L0 bR) (m + 1) (by_, (), (), carry, (m : Int) - 1, ()) (q, r, ()) = some (.exit 0, encS [2, 4] [.ptr 0 [], .ptr 1 []] eN 31 ((), (), ()) (rnL by_ carry m q, r, ()))
  | 0, by_, carry, q, h => by
    refine rmany_inr ((rR by_ carry _ q r).trans ?_) 0
    unfold GR
    simp only
    rw [ite_f (decide_eq_false (by omega))]
    rfl
  | m + 1, by_, carry, q, h => by
    have e1 : ((m + 1 : Nat) : Int) - 1 = (m : Int) := by omega
    rw [e1]
    refine (rmany_inl (d := ((wu (by_.tdiv 256), (), (), wu ((sumR by_ carry (q.getD m 0)).tdiv 256), (m : Int) - 1, ()), (q.set m (wb ((sumR by_ carry (q.getD m 0)).tmod 256)), r, ()))) ((rR by_ carry _ q r).trans ?_) (m + 1)).trans (mR r m _ _ _ (by omega))
    unfold GR
    simp only [Int.toNat_natCast]
    rw [ite_t (decide_eq_true (by omega)), chk_eval (inArrK64 (by omega) (by omega) (by omega)), chk_eval (inArrK64 (by omega) (by omega) (by omega)), w_id (by omega) (by omega)]
    rfl

theorem lR : LoopOK Try.prog (LR cN (fun by_ q => rnextF q by_)) bR :=
  rloop_ok (L := LR cN (fun by_ q => rnextF q by_)) (L' := L0) nil_sound (loopsOK_of (by kernel_rfl)) SR (F := FR cN (fun by_ q => rnextF q by_)) (i := 3) (by kernel_rfl) (fun _ => rfl) fun xs hs r h => by
    obtain ⟨by_, u1, u2, carry, i, u3⟩ := xs
    obtain ⟨q, c, u4⟩ := hs
    obtain ⟨h1, h2⟩ := Tr.chk_some h
    simp only [cN, Bool.and_eq_true, decide_eq_true_eq] at h1
    obtain ⟨e1, e2, e3⟩ := h1
    have e2 : i = ((16 : Nat) : Int) - 1 := e2
    subst e1; subst e2
    exact ⟨_, (mR c 16 by_ 0 q (by omega)).trans (congrArg some (Tr.ret_some h2))⟩

def s27 : CSpec := .slp1 [w16, u64] (fun _ => true) w16 fun x => rnextF x.1 x.2.1
theorem ok27 : CSound Try.prog 27 s27 ∧ CLocal s27 :=
  slpE1 (L := LR cN (fun by_ q => rnextF q by_)) nil_sound Try.func27 (by kernel_rfl) (loops1 (by kernel_rfl) lR) fun xs hx hp => by
    obtain ⟨at_, by_, u⟩ := xs
    have hl : List.length (α := Int) at_ = 16 := hx.1.1
    have e1 : cN 0 15 at_ = true := by simp only [cN, Bool.and_eq_true, decide_eq_true_eq, true_and]; exact hl
    refine (tR cN (fun by_ q => rnextF q by_) at_ by_).trans ?_
    have : (TN cN (fun by_ q => rnextF q by_) at_ by_).eval = some (.v w16 (rnextF at_ by_)) := by
      unfold TN
      rw [chk_eval e1]
      rfl
    exact this

/-! both are numbers -/

def Bytes (l : List Int) : Prop := ∀ x ∈ l, 0 ≤ x ∧ x < 256
theorem bytes_get {q : List Int} (h : Bytes q) (m : Nat) : ∃ c : Nat, q.getD m 0 = (c : Int) ∧ c < 256 := by
  rw [List.getD_eq_getElem?_getD]
  cases hq : q[m]? with
  | none => exact ⟨0, rfl, by omega⟩
  | some x =>
    have := h x (List.mem_of_getElem? hq)
    exact ⟨x.toNat, by simp only [Option.getD_some]; omega, by omega⟩
theorem bytes_put {q : List Int} (h : Bytes q) (m : Nat) (x : Int) : Bytes (q.set m (wb x)) := fun y hy => by
  rcases List.mem_or_eq_of_mem_set hy with h' | rfl
  · exact h y h'
  · rw [wb_mod]; omega

theorem sumN_nat {b c x : Nat} (hb : b < 18446744073709551616) (hc : c < 4294967296) (hx : x < 256) : sumN (b : Int) (c : Int) (x : Int) = ((x + b % 256 + c : Nat) : Int) := by
  have h1 : andI .u64 (b : Int) 255 = ((b % 256 : Nat) : Int) := by
    have e := andI_nat (k := .u64) (m := b) (n := 255) (by rw [max_u64]; omega) (by rw [max_u64]; omega)
    have e2 : b &&& 255 = b % 256 := Nat.and_two_pow_sub_one_eq_mod b 8
    rw [e2] at e
    exact e
  unfold sumN
  rw [h1, wu_mod, wu_mod, wu_mod]
  omega
theorem sumR_nat {b c x : Nat} (hb : b < 18446744073709551616) (hc : c < 4294967296) (hx : x < 256) : sumR (b : Int) (c : Int) (x : Int) = ((x + b % 256 + c : Nat) : Int) := by
  have h1 : (b : Int).tmod 256 = ((b % 256 : Nat) : Int) := by rw [Int.tmod_eq_emod_of_nonneg (by omega)]; omega
  unfold sumR
  rw [h1, wu_mod, wu_mod, wu_mod]
  omega
theorem shr8 (n : Nat) : shrI .u64 (n : Int) 8 = ((n / 256 : Nat) : Int) := by
  unfold shrI
  show (n : Int).fdiv (2 ^ (min (8 : Int).toNat 64)) = _
  have : min (8 : Int).toNat 64 = 8 := by decide
  rw [this, Int.fdiv_eq_ediv_of_nonneg _ (by decide)]
  omega
theorem div8 {n : Nat} (h : n < 18446744073709551616) : wu ((n : Int).tdiv 256) = ((n / 256 : Nat) : Int) := by
  rw [Int.tdiv_eq_ediv_of_nonneg (by omega), wu_mod]
  omega

theorem next_same : ∀ (m : Nat) (b c : Nat) (q : List Int), b < 18446744073709551616 → c ≤ 2 → Bytes q → nxL (b : Int) (c : Int) m q = rnL (b : Int) (c : Int) m q
  | 0, _, _, _, _, _, _ => rfl
  | m + 1, b, c, q, hb, hc, hq => by
    obtain ⟨x, hx, hx2⟩ := bytes_get hq m
    rw [nxL, rnL, hx, sumN_nat hb (by omega) hx2, sumR_nat hb (by omega) hx2, shr8, shr8, div8 hb, div8 (by omega)]
    have h1 : wb (((x + b % 256 + c : Nat) : Int).tmod 256) = wb ((x + b % 256 + c : Nat) : Int) := by
      rw [Int.tmod_eq_emod_of_nonneg (by omega), wb_mod, wb_mod]; omega
    rw [h1]
    exact next_same m _ _ _ (by omega) (by omega) (bytes_put hq _ _)

/-- the number of the first bytes -/
def val (q : List Int) : Nat → Nat
  | 0 => 0
  | m + 1 => val q m * 256 + (q.getD m 0).toNat

theorem val_set : ∀ (m k : Nat) (q : List Int) (x : Int), m ≤ k → val (q.set k x) m = val q m
  | 0, _, _, _, _ => rfl
  | m + 1, k, q, x, h => by
    have : (q.set k x).getD m 0 = q.getD m 0 := by
      rw [List.getD_eq_getElem?_getD, List.getElem?_set_ne (by omega), List.getD_eq_getElem?_getD]
    rw [val, val, val_set m k q x (by omega), this]
theorem val_lt {q : List Int} (h : Bytes q) : ∀ m, val q m < 256 ^ m
  | 0 => by simp [val]
  | m + 1 => by
    obtain ⟨x, hx, hx2⟩ := bytes_get h m
    have := val_lt h m
    rw [val, hx, Int.toNat_natCast, Nat.pow_succ]
    omega
/-- what lies behind stays -/
theorem nxL_get : ∀ (m : Nat) (by_ carry : Int) (q : List Int) (k : Nat), m ≤ k → (nxL by_ carry m q).getD k 0 = q.getD k 0
  | 0, _, _, _, _, _ => rfl
  | m + 1, by_, carry, q, k, h => by
    rw [nxL, nxL_get m _ _ _ k (by omega), List.getD_eq_getElem?_getD, List.getElem?_set_ne (by omega), List.getD_eq_getElem?_getD]
theorem bytes_nxL : ∀ (m : Nat) (by_ carry : Int) (q : List Int), Bytes q → Bytes (nxL by_ carry m q)
  | 0, _, _, _, h => h
  | m + 1, by_, carry, q, h => by
    rw [nxL]
    exact bytes_nxL m _ _ _ (bytes_put h _ _)

theorem nxL_val : ∀ (m : Nat) (b c : Nat) (q : List Int), b < 18446744073709551616 → c ≤ 2 → Bytes q → m ≤ q.length → val (nxL (b : Int) (c : Int) m q) m = (val q m + b + c) % 256 ^ m
  | 0, b, c, q, _, _, _, _ => by simp [val, Nat.mod_one]
  | m + 1, b, c, q, hb, hc, hq, hl => by
    obtain ⟨x, hx, hx2⟩ := bytes_get hq m
    have hs : wb ((x + b % 256 + c : Nat) : Int) = (((x + b % 256 + c) % 256 : Nat) : Int) := by rw [wb_mod]; omega
    have ih := nxL_val m (b / 256) ((x + b % 256 + c) / 256) (q.set m (wb ((x + b % 256 + c : Nat) : Int))) (by omega) (by omega) (bytes_put hq _ _) (by rw [List.length_set]; omega)
    rw [val_set m m q _ (Nat.le_refl m)] at ih
    have hg : (nxL ((b / 256 : Nat) : Int) (((x + b % 256 + c) / 256 : Nat) : Int) m (q.set m (wb ((x + b % 256 + c : Nat) : Int)))).getD m 0 = (((x + b % 256 + c) % 256 : Nat) : Int) := by
      rw [nxL_get m _ _ _ m (Nat.le_refl m), List.getD_eq_getElem?_getD, List.getElem?_set_self (by omega), hs]
      rfl
    rw [nxL, hx, sumN_nat hb (by omega) hx2, shr8, shr8, val, ih, hg, Int.toNat_natCast, val, hx, Int.toNat_natCast, Nat.pow_succ]
    have key : val q m * 256 + x + b + c = (val q m + b / 256 + (x + b % 256 + c) / 256) * 256 + (x + b % 256 + c) % 256 := by omega
    rw [key]
    generalize val q m + b / 256 + (x + b % 256 + c) / 256 = y
    have hr : (x + b % 256 + c) % 256 < 256 := Nat.mod_lt _ (by omega)
    generalize (x + b % 256 + c) % 256 = r at hr
    have hp : 0 < 256 ^ m := Nat.pow_pos (by omega)
    generalize 256 ^ m = p at hp
    have e1 : (y * 256 + r) / 256 = y := by omega
    have e2 : (y * 256 + r) % 256 = r := by omega
    rw [Nat.mul_comm p 256, Nat.mod_mul, e1, e2]
    omega

theorem val_inj : ∀ (m : Nat) (p q : List Int), Bytes p → Bytes q → val p m = val q m → ∀ k, k < m → p.getD k 0 = q.getD k 0
  | 0, _, _, _, _, _, k, hk => by omega
  | m + 1, p, q, hp, hq, h, k, hk => by
    obtain ⟨x, hx, hx2⟩ := bytes_get hp m
    obtain ⟨y, hy, hy2⟩ := bytes_get hq m
    rw [val, val, hx, hy, Int.toNat_natCast, Int.toNat_natCast] at h
    by_cases hkm : k = m
    · subst hkm
      rw [hx, hy]; omega
    · exact val_inj m p q hp hq (by omega) k (by omega)

theorem ext16 {p q : List Int} (hp : p.length = 16) (hq : q.length = 16) (h : ∀ k, k < 16 → p.getD k 0 = q.getD k 0) : p = q := by
  apply List.ext_getElem (by omega)
  intro i h1 h2
  have := h i (by omega)
  rw [List.getD_eq_getElem?_getD, List.getD_eq_getElem?_getD, List.getElem?_eq_getElem h1, List.getElem?_eq_getElem h2] at this
  exact this

theorem next_len (at_ : List Int) (by_ : Int) : (nextF at_ by_).length = at_.length := nxL_len 16 by_ 0 at_
theorem next_bytes {at_ : List Int} (h : Bytes at_) (by_ : Int) : Bytes (nextF at_ by_) := bytes_nxL 16 by_ 0 at_ h
theorem next_val {at_ : List Int} (h : Bytes at_) (hl : at_.length = 16) {b : Nat} (hb : b < 18446744073709551616) : val (nextF at_ (b : Int)) 16 = (val at_ 16 + b) % 256 ^ 16 := by
  have := nxL_val 16 b 0 at_ hb (by omega) h (by omega)
  exact this

/-- counters add up -/
theorem next_add {at_ : List Int} (h : Bytes at_) (hl : at_.length = 16) {a b : Nat} (hab : a + b < 18446744073709551616) : nextF (nextF at_ (a : Int)) (b : Int) = nextF at_ ((a + b : Nat) : Int) := by
  have h1 := next_bytes h (a : Int)
  refine ext16 (by rw [next_len, next_len, hl]) (by rw [next_len, hl]) (val_inj 16 _ _ (next_bytes h1 _) (next_bytes h _) ?_)
  rw [next_val h1 (by rw [next_len, hl]) (by omega), next_val h hl (by omega), next_val h hl hab]
  rw [Nat.mod_add_mod, Nat.add_assoc]

theorem next_zero {at_ : List Int} (h : Bytes at_) (hl : at_.length = 16) : nextF at_ 0 = at_ := by
  refine ext16 (by rw [next_len, hl]) hl (val_inj 16 _ _ (next_bytes h _) h ?_)
  have := next_val h hl (b := 0) (by omega)
  rw [Nat.add_zero, Nat.mod_eq_of_lt (val_lt h 16)] at this
  exact this

theorem nexts_same {at_ : List Int} (h : Bytes at_) {b : Nat} (hb : b < 18446744073709551616) : nextF at_ (b : Int) = rnextF at_ (b : Int) := next_same 16 b 0 at_ hb (by omega) h

end Go.Proofs.Ytlkddajnebjlcaa.Ctr

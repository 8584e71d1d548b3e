import Derived.Test.YtlkddajnebjlcaaG1

section
/- Counters (layer 4, ctr): walks of Next, the document's Next, and the document's Flip. -/
set_option linter.unusedVariables false
set_option maxRecDepth 100000
namespace Go.Proofs.Ytlkddajnebjlcaa.Ctr
open Go Vse Go.Proofs Gen

abbrev w16 : Ty := .arr 16 u8
abbrev u64 : Ty := .int .u64

/-! Next -/

noncomputable def bN : Code := loopAt Try.f26 0
abbrev eN : List ETy := [.box w16, .box w16]
def SN : RSpec := ⟨[1, 2, 4, 5, 6], 29, [u64, .ptr 0 [], .ptr 1 [], u64, i64], eN, eN, [], fun _ => ([2, 4], [.ptr 0 [], .ptr 1 []], eN)⟩
/-- what is carried into a place, and its byte -/
def sumN (by_ carry x : Int) : Int := wu (carry + wu (wu x + andI .u64 by_ 255))
def GN (by_ carry i : Int) (q r : List Int) : Tr SN.End :=
  let c := sumN by_ carry (q.getD i.toNat 0)
  .ite (decide (i ≥ 0)) (.chk (inArrK .i64 i 16) (.chk (inArrK .i64 i 16) (.ret (.inl ((shrI .u64 by_ 8, (), (), shrI .u64 c 8, w (i - 1), ()), (q.set i.toNat (wb c), r, ()))))))
    (.ret (.inr (.exit 0, encS [2, 4] [.ptr 0 [], .ptr 1 []] eN 29 ((), (), ()) (q, r, ()))))
theorem rN (by_ carry i : Int) (q r : List Int) : (SN.round (bodyK Try.prog (ctx []) L0 bN) (by_, (), (), carry, i, ()) (q, r, ())).eval = (GN by_ carry i q r).eval := by kernel_rfl
def FN (c : Int → Int → List Int → Bool) (X : Int → List Int → List Int) (xs : HL SN.Ts) (hs : HD SN.Es) : Tr (Ex × St) :=
  .chk (c xs.2.2.2.1 xs.2.2.2.2.1 hs.1) (.ret (.exit 0, encS [2, 4] [.ptr 0 [], .ptr 1 []] eN 29 ((), (), ()) (X xs.1 hs.1, hs.2.1, ())))
def LN (c : Int → Int → List Int → Bool) (X : Int → List Int → List Int) : Loops := fun j st => if j = 3 then SN.fn (FN c X) st else .fail
def TN (c : Int → Int → List Int → Bool) (X : Int → List Int → List Int) (at_ : List Int) (by_ : Int) : Tr AV := .chk (c 0 15 at_) (.ret (.v w16 (X by_ at_)))
theorem tN (c : Int → Int → List Int → Bool) (X : Int → List Int → List Int) (at_ : List Int) (by_ : Int) :
    nrm (fnS Try.prog (ctx []) (LN c X) [w16] Try.f26 (mkArgs [w16, u64] (at_, by_, ()))) = (TN c X at_ by_).eval := by kernel_rfl

/-! the document's Next -/

noncomputable def bR : Code := loopAt Try.f27 0
def SR : RSpec := ⟨[1, 2, 4, 5, 6], 31, [u64, .ptr 0 [], .ptr 1 [], u64, i64], eN, eN, [], fun _ => ([2, 4], [.ptr 0 [], .ptr 1 []], eN)⟩
def sumR (by_ carry x : Int) : Int := wu (wu (wu x + by_.tmod 256) + carry)
def GR (by_ carry i : Int) (q r : List Int) : Tr SR.End :=
  let c := sumR by_ carry (q.getD i.toNat 0)
  .ite (decide (i ≥ 0)) (.chk (inArrK .i64 i 16) (.chk (inArrK .i64 i 16) (.ret (.inl ((wu (by_.tdiv 256), (), (), wu (c.tdiv 256), w (i - 1), ()), (q.set i.toNat (wb (c.tmod 256)), r, ()))))))
    (.ret (.inr (.exit 0, encS [2, 4] [.ptr 0 [], .ptr 1 []] eN 31 ((), (), ()) (q, r, ()))))
theorem rR (by_ carry i : Int) (q r : List Int) : (SR.round (bodyK Try.prog (ctx []) L0 bR) (by_, (), (), carry, i, ()) (q, r, ())).eval = (GR by_ carry i q r).eval := by kernel_rfl
def FR (c : Int → Int → List Int → Bool) (X : Int → List Int → List Int) (xs : HL SR.Ts) (hs : HD SR.Es) : Tr (Ex × St) :=
  .chk (c xs.2.2.2.1 xs.2.2.2.2.1 hs.1) (.ret (.exit 0, encS [2, 4] [.ptr 0 [], .ptr 1 []] eN 31 ((), (), ()) (X xs.1 hs.1, hs.2.1, ())))
def LR (c : Int → Int → List Int → Bool) (X : Int → List Int → List Int) : Loops := fun j st => if j = 3 then SR.fn (FR c X) st else .fail
theorem tR (c : Int → Int → List Int → Bool) (X : Int → List Int → List Int) (at_ : List Int) (by_ : Int) :
    nrm (fnS Try.prog (ctx []) (LR c X) [w16] Try.f27 (mkArgs [w16, u64] (at_, by_, ()))) = (TN c X at_ by_).eval := by kernel_rfl

/-! the document's Flip -/

abbrev Nx := List Int → Int → List Int
abbrev En := List Int → List Int → List Int
def cF (N : Nx) (E : En) : List (Nat × CSpec) := [(27, .slp1 [w16, u64] (fun _ => true) w16 fun x => N x.1 x.2.1), (44, .fn1 [w16, w16] w16 fun x => E x.1 x.2.1)]
noncomputable def bF : Code := loopAt Try.f25 0
abbrev eF : List ETy := [.box w16, .box w16, .box w16, .vec 0 u8]
def SF : RSpec := ⟨[2, 3, 4, 7, 8, 9], 40, [bs, .ptr 0 [], .ptr 1 [], .vc 3 0, .ptr 2 [], i64], eF, [.box w16, .box w16, .box w16], [.slot 7 u8], fun _ => ([7], [.vc 3 0], [.dead, .dead, .dead, .vec 0 u8])⟩
def GF (N : Nx) (E : En) (b : List Int) (i : Int) (key at_ made out : List Int) : Tr SF.End :=
  let step (m : List Int) : Tr SF.End := .chk (inArr i b.length) (.chk (inArrK .i64 (i.tmod 16) 16) (.chk (Vse.room (out.length + [xorI .u8 (b.getD i.toNat 0) (m.getD (i.tmod 16).toNat 0)].length) 1)
    (.ret (.inl ((b, (), (), (), (), w (i + 1), ()), (key, at_, m, out ++ [xorI .u8 (b.getD i.toNat 0) (m.getD (i.tmod 16).toNat 0)], ()))))))
  .ite (decide (i < (b.length : Int))) (.ite (i.tmod 16 == 0) (step (E key (N at_ (wu (w (i.tdiv 16)))))) (step made))
    (.ret (.inr (.exit 0, encS [7] [.vc 3 0] [.dead, .dead, .dead, .vec 0 u8] 40 ((), ()) (out, ()))))
theorem rF (N : Nx) (E : En) (b : List Int) (i : Int) (key at_ made out : List Int) :
    (SF.round (bodyK Try.prog (ctx (cF N E)) L0 bF) (b, (), (), (), (), i, ()) (key, at_, made, out, ())).eval = (GF N E b i key at_ made out).eval := by kernel_rfl

def z16 : List Int := [0, 0, 0, 0, 0, 0, 0, 0, 0, 0, 0, 0, 0, 0, 0, 0]
def FF (c : List Int → Int → List Int → List Int → List Int → Bool) (X : List Int → List Int → List Int → List Int) (xs : HL SF.Ts) (hs : HD SF.Es) : Tr (Ex × St) :=
  .chk (c xs.1 xs.2.2.2.2.2.1 hs.2.1 hs.2.2.1 hs.2.2.2.1) (.ret (.exit 0, encS [7] [.vc 3 0] [.dead, .dead, .dead, .vec 0 u8] 40 ((), ()) (X hs.1 hs.2.1 xs.1, ())))
def LF (c : List Int → Int → List Int → List Int → List Int → Bool) (X : List Int → List Int → List Int → List Int) : Loops := fun j st => if j = 4 then SF.fn (FF c X) st else .fail
def TF (c : List Int → Int → List Int → List Int → List Int → Bool) (X : List Int → List Int → List Int → List Int) (key at_ b : List Int) : Tr AV := .chk (c b 0 at_ z16 []) (.ret (.v bt (X key at_ b)))
theorem tF (N : Nx) (E : En) (c : List Int → Int → List Int → List Int → List Int → Bool) (X : List Int → List Int → List Int → List Int) (key at_ b : List Int) :
    nrm (fnS Try.prog (ctx (cF N E)) (LF c X) [bt] Try.f25 (mkArgs [w16, w16, bs] (key, at_, b, ()))) = (TF c X key at_ b).eval := by kernel_rfl

end Go.Proofs.Ytlkddajnebjlcaa.Ctr

end
section
/- Counters (layer 4, ctr): what Next gives; by the document, too; counters add up. -/
set_option linter.unusedVariables false
set_option maxRecDepth 100000
namespace Go.Proofs.Ytlkddajnebjlcaa.Ctr
open Go Vse Go.Proofs Gen

theorem inArrK64 {i : Int} {n : Nat} (hn : (n : Int) ≤ 9223372036854775807) (h0 : 0 ≤ i) (h1 : i < (n : Int)) : inArrK .i64 i n = true := by
  have e : (decide (0 ≤ IntKind.i64.min) && decide (IntKind.i64.max < (n : Int))) = false := by
    have : decide (0 ≤ IntKind.i64.min) = false := by decide
    rw [this]; rfl
  unfold inArrK
  rw [e]
  simp only [inArr, Bool.and_eq_true, decide_eq_true_eq]
  exact ⟨h0, h1⟩
theorem inArr_nat {k n : Nat} (h : k < n) : inArr (k : Int) n = true := by simp only [inArr, Bool.and_eq_true, decide_eq_true_eq]; omega
theorem wb_mod (x : Int) : wb x = x % 256 := by
  simp [IntKind.wrap, IntKind.signed, IntKind.bits]
theorem wu_mod (x : Int) : wu x = x % 18446744073709551616 := by
  simp [IntKind.wrap, IntKind.signed, IntKind.bits]

/-! Next -/

def nxL (by_ carry : Int) : Nat → List Int → List Int
  | 0, q => q
  | m + 1, q => nxL (shrI .u64 by_ 8) (shrI .u64 (sumN by_ carry (q.getD m 0)) 8) m (q.set m (wb (sumN by_ carry (q.getD m 0))))
def nextF (at_ : List Int) (by_ : Int) : List Int := nxL by_ 0 16 at_
def cN (carry i : Int) (q : List Int) : Bool := decide (carry = 0) && (decide (i = 15) && decide (q.length = 16))

theorem nxL_len : ∀ (m : Nat) (by_ carry : Int) (q : List Int), (nxL by_ carry m q).length = q.length
  | 0, _, _, _ => rfl
  | m + 1, by_, carry, q => by rw [nxL, nxL_len m, List.length_set]

theorem mN (r : List Int) : ∀ (m : Nat) (by_ carry : Int) (q : List Int), m ≤ 16 →
    SN.many (bodyK Try.prog (ctx []) L0 bN) (m + 1) (by_, (), (), carry, (m : Int) - 1, ()) (q, r, ()) = some (.exit 0, encS [2, 4] [.ptr 0 [], .ptr 1 []] eN 29 ((), (), ()) (nxL by_ carry m q, r, ()))
  | 0, by_, carry, q, h => by
    refine rmany_inr ((rN by_ carry _ q r).trans ?_) 0
    unfold GN
    simp only
    rw [ite_f (decide_eq_false (by omega))]
    rfl
  | m + 1, by_, carry, q, h => by
    have e1 : ((m + 1 : Nat) : Int) - 1 = (m : Int) := by omega
    rw [e1]
    refine (rmany_inl (d := ((shrI .u64 by_ 8, (), (), shrI .u64 (sumN by_ carry (q.getD m 0)) 8, (m : Int) - 1, ()), (q.set m (wb (sumN by_ carry (q.getD m 0))), r, ()))) ((rN by_ carry _ q r).trans ?_) (m + 1)).trans (mN r m _ _ _ (by omega))
    unfold GN
    simp only [Int.toNat_natCast]
    rw [ite_t (decide_eq_true (by omega)), chk_eval (inArrK64 (by omega) (by omega) (by omega)), chk_eval (inArrK64 (by omega) (by omega) (by omega)), w_id (by omega) (by omega)]
    rfl

theorem lN : LoopOK Try.prog (LN cN (fun by_ q => nextF q by_)) bN :=
  rloop_ok (L := LN cN (fun by_ q => nextF q by_)) (L' := L0) nil_sound (loopsOK_of (by kernel_rfl)) SN (F := FN cN (fun by_ q => nextF q by_)) (i := 3) (by kernel_rfl) (fun _ => rfl) fun xs hs r h => by
    obtain ⟨by_, u1, u2, carry, i, u3⟩ := xs
    obtain ⟨q, c, u4⟩ := hs
    obtain ⟨h1, h2⟩ := Tr.chk_some h
    simp only [cN, Bool.and_eq_true, decide_eq_true_eq] at h1
    obtain ⟨e1, e2, e3⟩ := h1
    have e2 : i = ((16 : Nat) : Int) - 1 := e2
    subst e1; subst e2
    exact ⟨_, (mN c 16 by_ 0 q (by omega)).trans (congrArg some (Tr.ret_some h2))⟩

def s26 : CSpec := .slp1 [w16, u64] (fun _ => true) w16 fun x => nextF x.1 x.2.1
theorem ok26 : CSound Try.prog 26 s26 ∧ CLocal s26 :=
  slpE1 (L := LN cN (fun by_ q => nextF q by_)) nil_sound Try.func26 (by kernel_rfl) (loops1 (by kernel_rfl) lN) fun xs hx hp => by
    obtain ⟨at_, by_, u⟩ := xs
    have hl : List.length (α := Int) at_ = 16 := hx.1.1
    have e1 : cN 0 15 at_ = true := by simp only [cN, Bool.and_eq_true, decide_eq_true_eq, true_and]; exact hl
    refine (tN cN (fun by_ q => nextF q by_) at_ by_).trans ?_
    have : (TN cN (fun by_ q => nextF q by_) at_ by_).eval = some (.v w16 (nextF at_ by_)) := by
      unfold TN
      rw [chk_eval e1]
      rfl
    exact this

/-! the document's Next -/

def rnL (by_ carry : Int) : Nat → List Int → List Int
  | 0, q => q
  | m + 1, q => rnL (wu (by_.tdiv 256)) (wu ((sumR by_ carry (q.getD m 0)).tdiv 256)) m (q.set m (wb ((sumR by_ carry (q.getD m 0)).tmod 256)))
def rnextF (at_ : List Int) (by_ : Int) : List Int := rnL by_ 0 16 at_

theorem mR (r : List Int) : ∀ (m : Nat) (by_ carry : Int) (q : List Int), m ≤ 16 →
    SR.many (bodyK Try.prog (ctx []) L0 bR) (m + 1) (by_, (), (), carry, (m : Int) - 1, ()) (q, r, ()) = some (.exit 0, encS [2, 4] [.ptr 0 [], .ptr 1 []] eN 31 ((), (), ()) (rnL by_ carry m q, r, ()))
  | 0, by_, carry, q, h => by
    refine rmany_inr ((rR by_ carry _ q r).trans ?_) 0
    unfold GR
    simp only
    rw [ite_f (decide_eq_false (by omega))]
    rfl
  | m + 1, by_, carry, q, h => by
    have e1 : ((m + 1 : Nat) : Int) - 1 = (m : Int) := by omega
    rw [e1]
    refine (rmany_inl (d := ((wu (by_.tdiv 256), (), (), wu ((sumR by_ carry (q.getD m 0)).tdiv 256), (m : Int) - 1, ()), (q.set m (wb ((sumR by_ carry (q.getD m 0)).tmod 256)), r, ()))) ((rR by_ carry _ q r).trans ?_) (m + 1)).trans (mR r m _ _ _ (by omega))
    unfold GR
    simp only [Int.toNat_natCast]
    rw [ite_t (decide_eq_true (by omega)), chk_eval (inArrK64 (by omega) (by omega) (by omega)), chk_eval (inArrK64 (by omega) (by omega) (by omega)), w_id (by omega) (by omega)]
    rfl

theorem lR : LoopOK Try.prog (LR cN (fun by_ q => rnextF q by_)) bR :=
  rloop_ok (L := LR cN (fun by_ q => rnextF q by_)) (L' := L0) nil_sound (loopsOK_of (by kernel_rfl)) SR (F := FR cN (fun by_ q => rnextF q by_)) (i := 3) (by kernel_rfl) (fun _ => rfl) fun xs hs r h => by
    obtain ⟨by_, u1, u2, carry, i, u3⟩ := xs
    obtain ⟨q, c, u4⟩ := hs
    obtain ⟨h1, h2⟩ := Tr.chk_some h
    simp only [cN, Bool.and_eq_true, decide_eq_true_eq] at h1
    obtain ⟨e1, e2, e3⟩ := h1
    have e2 : i = ((16 : Nat) : Int) - 1 := e2
    subst e1; subst e2
    exact ⟨_, (mR c 16 by_ 0 q (by omega)).trans (congrArg some (Tr.ret_some h2))⟩

def s27 : CSpec := .slp1 [w16, u64] (fun _ => true) w16 fun x => rnextF x.1 x.2.1
theorem ok27 : CSound Try.prog 27 s27 ∧ CLocal s27 :=
  slpE1 (L := LR cN (fun by_ q => rnextF q by_)) nil_sound Try.func27 (by kernel_rfl) (loops1 (by kernel_rfl) lR) fun xs hx hp => by
    obtain ⟨at_, by_, u⟩ := xs
    have hl : List.length (α := Int) at_ = 16 := hx.1.1
    have e1 : cN 0 15 at_ = true := by simp only [cN, Bool.and_eq_true, decide_eq_true_eq, true_and]; exact hl
    refine (tR cN (fun by_ q => rnextF q by_) at_ by_).trans ?_
    have : (TN cN (fun by_ q => rnextF q by_) at_ by_).eval = some (.v w16 (rnextF at_ by_)) := by
      unfold TN
      rw [chk_eval e1]
      rfl
    exact this

/-! both are numbers -/

def Bytes (l : List Int) : Prop := ∀ x ∈ l, 0 ≤ x ∧ x < 256
theorem bytes_get {q : List Int} (h : Bytes q) (m : Nat) : ∃ c : Nat, q.getD m 0 = (c : Int) ∧ c < 256 := by
  rw [List.getD_eq_getElem?_getD]
  cases hq : q[m]? with
  | none => exact ⟨0, rfl, by omega⟩
  | some x =>
    have := h x (List.mem_of_getElem? hq)
    exact ⟨x.toNat, by simp only [Option.getD_some]; omega, by omega⟩
theorem bytes_put {q : List Int} (h : Bytes q) (m : Nat) (x : Int) : Bytes (q.set m (wb x)) := fun y hy => by
  rcases List.mem_or_eq_of_mem_set hy with h' | rfl
  · exact h y h'
  · rw [wb_mod]; omega

theorem sumN_nat {b c x : Nat} (hb : b < 18446744073709551616) (hc : c < 4294967296) (hx : x < 256) : sumN (b : Int) (c : Int) (x : Int) = ((x + b % 256 + c : Nat) : Int) := by
  have h1 : andI .u64 (b : Int) 255 = ((b % 256 : Nat) : Int) := by
    have e := andI_nat (k := .u64) (m := b) (n := 255) (by rw [max_u64]; omega) (by rw [max_u64]; omega)
    have e2 : b &&& 255 = b % 256 := Nat.and_two_pow_sub_one_eq_mod b 8
    rw [e2] at e
    exact e
  unfold sumN
  rw [h1, wu_mod, wu_mod, wu_mod]
  omega
theorem sumR_nat {b c x : Nat} (hb : b < 18446744073709551616) (hc : c < 4294967296) (hx : x < 256) : sumR (b : Int) (c : Int) (x : Int) = ((x + b % 256 + c : Nat) : Int) := by
  have h1 : (b : Int).tmod 256 = ((b % 256 : Nat) : Int) := by rw [Int.tmod_eq_emod_of_nonneg (by omega)]; omega
  unfold sumR
  rw [h1, wu_mod, wu_mod, wu_mod]
  omega
theorem shr8 (n : Nat) : shrI .u64 (n : Int) 8 = ((n / 256 : Nat) : Int) := by
  unfold shrI
  show (n : Int).fdiv (2 ^ (min (8 : Int).toNat 64)) = _
  have : min (8 : Int).toNat 64 = 8 := by decide
  rw [this, Int.fdiv_eq_ediv_of_nonneg _ (by decide)]
  omega
theorem div8 {n : Nat} (h : n < 18446744073709551616) : wu ((n : Int).tdiv 256) = ((n / 256 : Nat) : Int) := by
  rw [Int.tdiv_eq_ediv_of_nonneg (by omega), wu_mod]
  omega

theorem next_same : ∀ (m : Nat) (b c : Nat) (q : List Int), b < 18446744073709551616 → c ≤ 2 → Bytes q → nxL (b : Int) (c : Int) m q = rnL (b : Int) (c : Int) m q
  | 0, _, _, _, _, _, _ => rfl
  | m + 1, b, c, q, hb, hc, hq => by
    obtain ⟨x, hx, hx2⟩ := bytes_get hq m
    rw [nxL, rnL, hx, sumN_nat hb (by omega) hx2, sumR_nat hb (by omega) hx2, shr8, shr8, div8 hb, div8 (by omega)]
    have h1 : wb (((x + b % 256 + c : Nat) : Int).tmod 256) = wb ((x + b % 256 + c : Nat) : Int) := by
      rw [Int.tmod_eq_emod_of_nonneg (by omega), wb_mod, wb_mod]; omega
    rw [h1]
    exact next_same m _ _ _ (by omega) (by omega) (bytes_put hq _ _)

/-- the number of the first bytes -/
def val (q : List Int) : Nat → Nat
  | 0 => 0
  | m + 1 => val q m * 256 + (q.getD m 0).toNat

theorem val_set : ∀ (m k : Nat) (q : List Int) (x : Int), m ≤ k → val (q.set k x) m = val q m
  | 0, _, _, _, _ => rfl
  | m + 1, k, q, x, h => by
    have : (q.set k x).getD m 0 = q.getD m 0 := by
      rw [List.getD_eq_getElem?_getD, List.getElem?_set_ne (by omega), List.getD_eq_getElem?_getD]
    rw [val, val, val_set m k q x (by omega), this]
theorem val_lt {q : List Int} (h : Bytes q) : ∀ m, val q m < 256 ^ m
  | 0 => by simp [val]
  | m + 1 => by
    obtain ⟨x, hx, hx2⟩ := bytes_get h m
    have := val_lt h m
    rw [val, hx, Int.toNat_natCast, Nat.pow_succ]
    omega
/-- what lies behind stays -/
theorem nxL_get : ∀ (m : Nat) (by_ carry : Int) (q : List Int) (k : Nat), m ≤ k → (nxL by_ carry m q).getD k 0 = q.getD k 0
  | 0, _, _, _, _, _ => rfl
  | m + 1, by_, carry, q, k, h => by
    rw [nxL, nxL_get m _ _ _ k (by omega), List.getD_eq_getElem?_getD, List.getElem?_set_ne (by omega), List.getD_eq_getElem?_getD]
theorem bytes_nxL : ∀ (m : Nat) (by_ carry : Int) (q : List Int), Bytes q → Bytes (nxL by_ carry m q)
  | 0, _, _, _, h => h
  | m + 1, by_, carry, q, h => by
    rw [nxL]
    exact bytes_nxL m _ _ _ (bytes_put h _ _)

theorem nxL_val : ∀ (m : Nat) (b c : Nat) (q : List Int), b < 18446744073709551616 → c ≤ 2 → Bytes q → m ≤ q.length → val (nxL (b : Int) (c : Int) m q) m = (val q m + b + c) % 256 ^ m
  | 0, b, c, q, _, _, _, _ => by simp [val, Nat.mod_one]
  | m + 1, b, c, q, hb, hc, hq, hl => by
    obtain ⟨x, hx, hx2⟩ := bytes_get hq m
    have hs : wb ((x + b % 256 + c : Nat) : Int) = (((x + b % 256 + c) % 256 : Nat) : Int) := by rw [wb_mod]; omega
    have ih := nxL_val m (b / 256) ((x + b % 256 + c) / 256) (q.set m (wb ((x + b % 256 + c : Nat) : Int))) (by omega) (by omega) (bytes_put hq _ _) (by rw [List.length_set]; omega)
    rw [val_set m m q _ (Nat.le_refl m)] at ih
    have hg : (nxL ((b / 256 : Nat) : Int) (((x + b % 256 + c) / 256 : Nat) : Int) m (q.set m (wb ((x + b % 256 + c : Nat) : Int)))).getD m 0 = (((x + b % 256 + c) % 256 : Nat) : Int) := by
      rw [nxL_get m _ _ _ m (Nat.le_refl m), List.getD_eq_getElem?_getD, List.getElem?_set_self (by omega), hs]
      rfl
    rw [nxL, hx, sumN_nat hb (by omega) hx2, shr8, shr8, val, ih, hg, Int.toNat_natCast, val, hx, Int.toNat_natCast, Nat.pow_succ]
    have key : val q m * 256 + x + b + c = (val q m + b / 256 + (x + b % 256 + c) / 256) * 256 + (x + b % 256 + c) % 256 := by omega
    rw [key]
    generalize val q m + b / 256 + (x + b % 256 + c) / 256 = y
    have hr : (x + b % 256 + c) % 256 < 256 := Nat.mod_lt _ (by omega)
    generalize (x + b % 256 + c) % 256 = r at hr
    have hp : 0 < 256 ^ m := Nat.pow_pos (by omega)
    generalize 256 ^ m = p at hp
    have e1 : (y * 256 + r) / 256 = y := by omega
    have e2 : (y * 256 + r) % 256 = r := by omega
    rw [Nat.mul_comm p 256, Nat.mod_mul, e1, e2]
    omega

theorem val_inj : ∀ (m : Nat) (p q : List Int), Bytes p → Bytes q → val p m = val q m → ∀ k, k < m → p.getD k 0 = q.getD k 0
  | 0, _, _, _, _, _, k, hk => by omega
  | m + 1, p, q, hp, hq, h, k, hk => by
    obtain ⟨x, hx, hx2⟩ := bytes_get hp m
    obtain ⟨y, hy, hy2⟩ := bytes_get hq m
    rw [val, val, hx, hy, Int.toNat_natCast, Int.toNat_natCast] at h
    by_cases hkm : k = m
    · subst hkm
      rw [hx, hy]; omega
    · exact val_inj m p q hp hq (by omega) k (by omega)

theorem ext16 {p q : List Int} (hp : p.length = 16) (hq : q.length = 16) (h : ∀ k, k < 16 → p.getD k 0 = q.getD k 0) : p = q := by
  apply List.ext_getElem (by omega)
  intro i h1 h2
  have := h i (by omega)
  rw [List.getD_eq_getElem?_getD, List.getD_eq_getElem?_getD, List.getElem?_eq_getElem h1, List.getElem?_eq_getElem h2] at this
  exact this

theorem next_len (at_ : List Int) (by_ : Int) : (nextF at_ by_).length = at_.length := nxL_len 16 by_ 0 at_
theorem next_bytes {at_ : List Int} (h : Bytes at_) (by_ : Int) : Bytes (nextF at_ by_) := bytes_nxL 16 by_ 0 at_ h
theorem next_val {at_ : List Int} (h : Bytes at_) (hl : at_.length = 16) {b : Nat} (hb : b < 18446744073709551616) : val (nextF at_ (b : Int)) 16 = (val at_ 16 + b) % 256 ^ 16 := by
  have := nxL_val 16 b 0 at_ hb (by omega) h (by omega)
  exact this

/-- counters add up -/
theorem next_add {at_ : List Int} (h : Bytes at_) (hl : at_.length = 16) {a b : Nat} (hab : a + b < 18446744073709551616) : nextF (nextF at_ (a : Int)) (b : Int) = nextF at_ ((a + b : Nat) : Int) := by
  have h1 := next_bytes h (a : Int)
  refine ext16 (by rw [next_len, next_len, hl]) (by rw [next_len, hl]) (val_inj 16 _ _ (next_bytes h1 _) (next_bytes h _) ?_)
  rw [next_val h1 (by rw [next_len, hl]) (by omega), next_val h hl (by omega), next_val h hl hab]
  rw [Nat.mod_add_mod, Nat.add_assoc]

theorem next_zero {at_ : List Int} (h : Bytes at_) (hl : at_.length = 16) : nextF at_ 0 = at_ := by
  refine ext16 (by rw [next_len, hl]) hl (val_inj 16 _ _ (next_bytes h _) h ?_)
  have := next_val h hl (b := 0) (by omega)
  rw [Nat.add_zero, Nat.mod_eq_of_lt (val_lt h 16)] at this
  exact this

theorem nexts_same {at_ : List Int} (h : Bytes at_) {b : Nat} (hb : b < 18446744073709551616) : nextF at_ (b : Int) = rnextF at_ (b : Int) := next_same 16 b 0 at_ hb (by omega) h

end Go.Proofs.Ytlkddajnebjlcaa.Ctr

end
section
/- Counters (layer 4, ctr): Flip's walk: what it ranges over, and the body of its loop. -/
set_option linter.unusedVariables false
set_option maxRecDepth 100000
namespace Go.Proofs.Ytlkddajnebjlcaa.Ctr
open Go Vse Go.Proofs Gen

/-! made: a function value that holds its two variables -/

abbrev kM : Nat := 56
abbrev fM (e e' : Nat) : Ty := .fn kM (.prod (.ptr e []) (.prod (.ptr e' []) .unit))
abbrev nM : PSpec := ⟨[w16, w16], [fM 0 1], [], [.box w16, .box w16], []⟩
def s43 : CSpec := .pos nM (fun _ _ => true) fun xs _ => ((((), (), ()), ()), (xs.1, xs.2.1, ()))
theorem ok43 : CSound Try.prog 43 s43 ∧ CLocal s43 :=
  pos_sound (L := L0) nil_sound Try.func43 (by kernel_rfl) (noLoopsL (by kernel_rfl)) fun xs hs _ _ _ => by
    obtain ⟨key, at_, u⟩ := xs
    kernel_rfl

/-! the code of the loop, and of what it ranges over -/

def rngAt : Code → List (Operand × Array Tmp × Code × Code)
  | .seq a b => rngAt a ++ rngAt b
  | .block _ c => rngAt c
  | .rangeFunc g ps x y => [(g, ps, x, y)]
  | _ => []
noncomputable def rngF : Operand × Array Tmp × Code × Code := ((rngAt (bodyOf Try.f24))[0]?).getD (.tmp 0, #[], .skip, .skip)
noncomputable def asgF : Code := rngF.2.2.1
noncomputable def bdyF : Code := rngF.2.2.2
theorem rng_shape : rngF = (.tmp 14, #[15], asgF, bdyF) := by kernel_rfl

def fst_ : Code → Code | .seq a _ => a | c => c
def snd_ : Code → Code | .seq _ b => b | c => c
def inn_ : Code → Code | .block _ c => c | .loop c => c | c => c
noncomputable def cI : Code := bodyOf Try.f56
noncomputable def cA : Code := inn_ (inn_ (inn_ cI))
noncomputable def R0 : Code := fst_ (fst_ cA)
noncomputable def R5 : Code := snd_ cA
noncomputable def cB : Code := inn_ (inn_ (snd_ (fst_ cA)))
noncomputable def R1 : Code := fst_ cB
noncomputable def CD : Code := fst_ (snd_ cB)
noncomputable def cY : Code := inn_ (fst_ (snd_ (snd_ cB)))
noncomputable def R2 : Code := fst_ cY
noncomputable def R3 : Code := fst_ (snd_ cY)
noncomputable def CR : Code := snd_ (snd_ cY)
noncomputable def R4 : Code := snd_ (snd_ (snd_ cB))
theorem cI_shape : cI = .block 0 (.loop (.block 1 (.seq (.seq R0 (.block 2 (.loop cB))) R5))) := by kernel_rfl
theorem cB_shape : cB = .seq R1 (.seq CD (.seq (.block 3 (.seq R2 (.seq R3 CR))) R4)) := by kernel_rfl
theorem CD_shape : CD = .cond (.tmp 10) .skip (.exit 2) := by kernel_rfl
theorem CR_shape : CR = .cond (.tmp 15) .ret .skip := by kernel_rfl

/-! a round of the body: Flip's variables (key, at, b, out), those of made (key, at), and the bytes so far -/

abbrev eL : List ETy := [.box w16, .box w16, .box bs, .box (.vc 6 0), .box w16, .box w16, .vec 0 u8]
def SL : RSpec := ⟨[5, 7, 15], 32, [.ptr 2 [], .ptr 3 [], u8], eL, [.box w16, .box w16, .box bs, .box .nils, .box w16, .box w16], [.all 3 u8], fun _ => ([], [], eL)⟩
noncomputable def bodyL (st : St) : Tr (Ex × St) := (run Try.prog (ctx []) L0 asgF st).bind fun r => match r with
  | (.normal, s) => run Try.prog (ctx []) L0 bdyF s
  | r => .ret r
def GL (x : Int) (k a b k' a' out : List Int) : Tr SL.End :=
  let o : List Int := out ++ [xorI .u8 (b.getD (out.length : Int).toNat 0) x]
  .chk (inArr (out.length : Int) b.length) (.chk (Vse.room (out.length + [xorI .u8 (b.getD (out.length : Int).toNat 0) x].length) 1)
    (.ite ((o.length : Int) == (b.length : Int)) (.ret (.inr (.exit 0, encS [] [] eL 32 () (k, a, b, (), k', a', o, ())))) (.ret (.inl (((), (), x, ()), (k, a, b, (), k', a', o, ()))))))
theorem rL (x : Int) (k a b k' a' out : List Int) : (SL.round bodyL ((), (), x, ()) (k, a, b, (), k', a', out, ())).eval = (GL x k a b k' a' out).eval := by kernel_rfl

end Go.Proofs.Ytlkddajnebjlcaa.Ctr

end
section
/- Counters (layer 4, ctr): what Flip ranges over: its pieces. -/
set_option linter.unusedVariables false
set_option maxRecDepth 100000
namespace Go.Proofs.Ytlkddajnebjlcaa.Ctr
open Go Vse Go.Proofs Gen

abbrev CI (E : En) (N : Nx) : Ctx := ctx [(57, .fn1 [w16, w16] w16 fun x => E x.1 x.2.1), (26, .slp1 [w16, u64] (fun _ => true) w16 fun x => N x.1 x.2.1)]
def hL (k a b k' a' out : List Int) : Heap := encH eL (k, a, b, (), k', a', out, ())
/-- the iterator's slots -/
def e0 (l : Nat) : List AV := (encS [0, 1, 2] [.it l, .ptr 4 [], .ptr 5 []] [] 19 ((), (), (), ()) ()).env
def e1 (l : Nat) (e : List Int) (j : Int) : List AV := (encS [0, 1, 2, 8, 9] [.it l, .ptr 4 [], .ptr 5 [], w16, i64] [] 19 ((), (), (), e, j, ()) ()).env
def e2 (l : Nat) (e : List Int) (j : Int) (t : Bool) : List AV := (encS [0, 1, 2, 8, 9, 10] [.it l, .ptr 4 [], .ptr 5 [], w16, i64, .bool] [] 19 ((), (), (), e, j, t, ()) ()).env
def e3 (l : Nat) (e : List Int) (j x : Int) : List AV := (encS [0, 1, 2, 5, 8, 9] [.it l, .ptr 4 [], .ptr 5 [], u8, w16, i64] [] 19 ((), (), (), x, e, j, ()) ()).env
noncomputable def pc (E : En) (N : Nx) (c : Code) (live : List Nat) (env : List AV) (H : Heap) : Tr (Ex × List AV × Heap) :=
  (run Try.prog (CI E N) L0 c ⟨env, H⟩).bind fun r => .ret (r.1, (keepS live r.2).env, r.2.heap)
theorem p0 (l : Nat) (E : En) (N : Nx) (k a b k' a' out : List Int) : (pc E N R0 [0, 1, 2, 8, 9] (e0 l) (hL k a b k' a' out)).eval = some (.normal, e1 l (E k' a') 0, hL k a b k' a' out) := by kernel_rfl
theorem p1 (l : Nat) (E : En) (N : Nx) (e : List Int) (j : Int) (k a b k' a' out : List Int) : (pc E N R1 [0, 1, 2, 8, 9, 10] (e1 l e j) (hL k a b k' a' out)).eval = some (.normal, e2 l e j (decide (j < 16)), hL k a b k' a' out) := by kernel_rfl
theorem pD (l : Nat) (E : En) (N : Nx) (e : List Int) (j : Int) (t : Bool) (k a b k' a' out : List Int) : (pc E N CD [0, 1, 2, 8, 9] (e2 l e j t) (hL k a b k' a' out)).eval =
    match t with | true => some (.normal, e1 l e j, hL k a b k' a' out) | false => some (.exit 2, e1 l e j, hL k a b k' a' out) := by kernel_rfl
theorem p2 (l : Nat) (E : En) (N : Nx) (e : List Int) (j : Int) (k a b k' a' out : List Int) : (pc E N R2 [0, 1, 2, 5, 8, 9] (e1 l e j) (hL k a b k' a' out)).eval =
    (Tr.chk (inArrK .i64 j 16) (.ret ((.normal, e3 l e j (e.getD j.toNat 0), hL k a b k' a' out) : Ex × List AV × Heap))).eval := by kernel_rfl
theorem p4 (l : Nat) (E : En) (N : Nx) (e : List Int) (j : Int) (k a b k' a' out : List Int) : (pc E N R4 [0, 1, 2, 8, 9] (e1 l e j) (hL k a b k' a' out)).eval = some (.normal, e1 l e (w (j + 1)), hL k a b k' a' out) := by kernel_rfl
theorem p5 (l : Nat) (E : En) (N : Nx) (e : List Int) (j : Int) (k a b k' a' out : List Int) : (pc E N R5 [0, 1, 2] (e1 l e j) (hL k a b k' a' out)).eval = some (.normal, e0 l, hL k a b k' (N a' 1) out) := by kernel_rfl

end Go.Proofs.Ytlkddajnebjlcaa.Ctr

end
section
/- Counters (layer 4, ctr): a call of yield. -/
set_option linter.unusedVariables false
set_option maxRecDepth 100000
namespace Go.Proofs.Ytlkddajnebjlcaa.Ctr
open Go Vse Go.Proofs Gen

def opsOf : Code → Array Oper | .region _ ops _ => ops | _ => #[]
noncomputable def oY (i : Nat) : Oper := ((opsOf R3)[i]?).getD { dst := none, op := .move (.tmp 0), type := 0, pos := "", after := #[], guard := none }
theorem R3_shape : R3 = .region 3 (opsOf R3) false ∧ (opsOf R3).toList = [oY 0, oY 1, oY 2, oY 3] := ⟨by kernel_rfl, by kernel_rfl⟩
theorem oY2 : (oY 2).op = .call { callee := .value (.tmp 12), args := #[.tmp 13], argTypes := #[5] } ∧ (oY 2).guard = none ∧ (oY 2).dst = some 14 := ⟨by kernel_rfl, by kernel_rfl, by kernel_rfl⟩

theorem exec_yield {a : Act} {w : World} {l : Nat} {o : Loop} {x : Value} (h1 : a.eval (.tmp 12) = .func (.yield l) #[] #[]) (h2 : a.eval (.tmp 13) = x) (hl : w.heap[l]? = some (.loop o)) (hp : o.params = #[15]) :
    (execOp a.eval (oY 2)).run Try.prog w = .ok (.round l o.fn (o.tmps.setIfInBounds 15 x) o.assign o.body) w := by
  unfold execOp
  rw [oY2.1]
  have := run_yield (P := Try.prog) (args := #[x]) hl (by rw [hp]; rfl)
  simp [resolve, h1, h2, Deferred.ofValue, invoke, this, hp]

end Go.Proofs.Ytlkddajnebjlcaa.Ctr

end
section
/- Counters (layer 4, ctr): the iterator's slots under other memory. -/
set_option linter.unusedVariables false
set_option maxRecDepth 100000
namespace Go.Proofs.Ytlkddajnebjlcaa.Ctr
open Go Vse Go.Proofs Gen

theorem plain16 {g g' : G} {e : List Int} {v : Value} (h : VRep g (.v w16 e) v) : VRep g' (.v w16 e) v := h
theorem plainI {g g' : G} {j : Int} {v : Value} (h : VRep g (.v i64 j) v) : VRep g' (.v i64 j) v := h
theorem plainY {g g' : G} {l : Nat} {v : Value} (h : VRep g (.v (.it l) ()) v) : VRep g' (.v (.it l) ()) v := h

theorem e1_move {g g3 : G} {l : Nat} {e : List Int} {j : Int} {a : Act} (he : EnvRep g (e1 l e j) a) (h1 : VRep g3 (.v (.ptr 4 []) ()) (a.tmps.getD 1 undef)) (h2 : VRep g3 (.v (.ptr 5 []) ()) (a.tmps.getD 2 undef)) : EnvRep g3 (e1 l e j) a := by
  refine ⟨he.1, fun i => ?_⟩
  have hi := he.2 i
  match i, hi with
  | 0, hi => exact plainY hi
  | 1, _ => exact h1
  | 2, _ => exact h2
  | 3, _ => exact trivial
  | 4, _ => exact trivial
  | 5, _ => exact trivial
  | 6, _ => exact trivial
  | 7, _ => exact trivial
  | 8, hi => exact plain16 hi
  | 9, hi => exact plainI hi
  | 10, _ => exact trivial
  | 11, _ => exact trivial
  | 12, _ => exact trivial
  | 13, _ => exact trivial
  | 14, _ => exact trivial
  | 15, _ => exact trivial
  | 16, _ => exact trivial
  | 17, _ => exact trivial
  | 18, _ => exact trivial
  | n + 19, hi => exact hi

end Go.Proofs.Ytlkddajnebjlcaa.Ctr

end
section
/- Counters (layer 4, ctr): the region that calls yield. -/
set_option linter.unusedVariables false
set_option maxRecDepth 100000
namespace Go.Proofs.Ytlkddajnebjlcaa.Ctr
open Go Vse Go.Proofs Gen

/-- slots 12 and 13 set; and 14, 15 -/
def e5 (l : Nat) (e : List Int) (j x : Int) : List AV := (encS [0, 1, 2, 5, 8, 9, 12, 13] [.it l, .ptr 4 [], .ptr 5 [], u8, w16, i64, .it l, u8] [] 19 ((), (), (), x, e, j, (), x, ()) ()).env
def e6 (l : Nat) (e : List Int) (j : Int) (t : Bool) : List AV := (encS [0, 1, 2, 8, 9, 14] [.it l, .ptr 4 [], .ptr 5 [], w16, i64, .bool] [] 19 ((), (), (), e, j, t, ()) ()).env
def e7 (l : Nat) (e : List Int) (j : Int) (t : Bool) : List AV := (encS [0, 1, 2, 8, 9, 15] [.it l, .ptr 4 [], .ptr 5 [], w16, i64, .bool] [] 19 ((), (), (), e, j, t, ()) ()).env
theorem s0 (l : Nat) (e : List Int) (j x : Int) (H : Heap) : ((Vse.stepT Try.prog (ctx []) (opsOf R3).toList (oY 0) 0 ⟨e3 l e j x, H⟩).bind fun s => Vse.stepT Try.prog (ctx []) (opsOf R3).toList (oY 1) 0 s).eval = some ⟨e5 l e j x, H⟩ := by kernel_rfl
theorem s3 (l : Nat) (e : List Int) (j : Int) (t : Bool) (H : Heap) : ((Vse.stepT Try.prog (ctx []) (opsOf R3).toList (oY 3) 0 ⟨e6 l e j t, H⟩).bind fun s => .ret (keepE [0, 1, 2, 8, 9, 15] 0 s.env, s.heap)).eval = some (e7 l e j (!t), H) := by kernel_rfl

end Go.Proofs.Ytlkddajnebjlcaa.Ctr

end
section
/- Counters (layer 4, ctr): pointers under other memory. -/
set_option linter.unusedVariables false
set_option maxRecDepth 100000
namespace Go.Proofs.Ytlkddajnebjlcaa.Ctr
open Go Vse Go.Proofs Gen

/-- what is a variable as the loop begins and is one now stands where it stood -/
theorem box_same {g0 g : G} (h : g0.leD g) {i : Nat} {s0 s : Sk} (h0 : g0.sh i = .box s0) (h1 : g.sh i = .box s) : g.sh i = g0.sh i ∧ g.bl i = g0.bl i := by
  cases h.ent i with
  | same a b c => exact ⟨a, b⟩
  | dead a => rw [a] at h1; cases h1
  | grew a b c => rw [a] at h0; cases h0
  | new a => rw [a] at h0; cases h0

theorem ptr_move {g0 g g3 : G} (h : g0.leD g) (h3 : g0.leD g3) {i : Nat} {s0 s s3 : Sk} (e0 : g0.sh i = .box s0) (e1 : g.sh i = .box s) (e3 : g3.sh i = .box s3) {v : Value} (hv : VRep g (.v (.ptr i []) ()) v) : VRep g3 (.v (.ptr i []) ()) v := by
  obtain ⟨a1, a2⟩ := box_same h e0 e1
  obtain ⟨b1, b2⟩ := box_same h3 e0 e3
  have hv := (VRep_v (by simp)).1 hv
  refine (VRep_v (by simp)).2 ?_
  simp only [TRep, Ty.agg, Ty.sk, Sk.agg, Bool.false_eq_true, if_false, Rep, G.bxr] at hv ⊢
  rw [b1, b2]
  rw [a1, a2] at hv
  exact hv

end Go.Proofs.Ytlkddajnebjlcaa.Ctr

end
section
/- Counters (layer 4, ctr): the region that calls yield, up to the call. -/
set_option linter.unusedVariables false
set_option maxRecDepth 100000
namespace Go.Proofs.Ytlkddajnebjlcaa.Ctr
open Go Vse Go.Proofs Gen

theorem oY_guard : (oY 2).guard = none := oY2.2.1

theorem yield_call {g : G} {H : Heap} {w : World} {l r : Nat} {o : Loop} {g0 : G} {e : List Int} {j x : Int} {act : Act} {Q : Exit → Act → World → Prop}
    (hg : Going g0 g H w l r o) (hp : o.params = #[15]) (he : EnvRep g (e3 l e j x) act) (hd : act.defers = [])
    (hround : ∀ g2 a2 w2, Going g0 g2 H w2 l r o → EnvRep g2 (e5 l e j x) a2 → a2.defers = [] →
      RoundIn (FW none) 0 Try.prog l o.fn (o.tmps.setIfInBounds 15 (.int .u8 x)) o.assign o.body w2 fun
        | .returned v, w'' => wpListIn (FW none) 0 Try.prog (opsOf R3) Q [oY 3] (a2.put (oY 2).dst v) w''
        | .panicked chain, w'' => Q (.panic chain) a2 w''
        | .outgrown, _ => LetsOut Q) :
    R3.wpIn (FW none) 0 Try.prog Q act w := by
  rw [R3_shape.1]
  refine wpIn_region_list ?_
  rw [R3_shape.2]
  obtain ⟨st1, t1, t2⟩ := Tr.bind_some (s0 l e j x H)
  refine stepT_sound nil_sound.1 (g := g.lenl l r o) (st := ⟨e3 l e j x, H⟩) ⟨he.c hg.c, hg.inv, by show act.defers = g.ext.2; rw [hd, hg.ds]⟩ t1 fun g1 a1 w1 le1 hs1 => ?_
  refine stepT_sound nil_sound.1 hs1 t2 fun g2 a2 w2 le2 hs2 => ?_
  have hle := le1.trans le2
  have hgr : g2.gr = (g.lenl l r o).gr := hle.gr
  have hext : g2.ext = g.ext := hle.ext
  let g' : G := { g2 with gr := g.gr }
  have hg' : g'.lenl l r o = g2 := by
    cases g2
    simp only [G.lenl, g'] at hgr ⊢
    simp only [hgr]
  have hD : g.leD g' := ⟨hle.fr, rfl, by show g2.ext.1 = g.ext.1; rw [hext], fun e => by
    cases hle.ent e with
    | same a b c => exact .same a b c
    | dead a => exact .dead a
    | grew a b c => exact .grew a b c
    | new a => exact .new a⟩
  have hg2 : Going g0 g' H w2 l r o := ⟨hg.le.trans hD, by show g2.ext.2 = []; rw [hext]; exact hg.ds, by rw [hg']; exact hs2.heap, hg.new⟩
  have he2 : EnvRep g' (e5 l e j x) a2 := by
    have := lenl_c g' l r o
    rw [hg'] at this
    exact hs2.env.c this
  have hd2 : a2.defers = [] := by rw [hs2.defers, hext]; exact hg.ds
  have h12 : a2.eval (.tmp 12) = .func (.yield l) #[] #[] := by
    have := he2.2 12
    have := (VRep_v (T := .it l) (x := ()) (by simp)).1 this
    have q : a2.tmps.getD 12 undef = .func (.yield l) #[] #[] := by simpa only [TRep, Ty.agg, Ty.sk, Sk.agg, Bool.false_eq_true, if_false, Rep, List.cons.injEq, and_true] using this
    exact q
  have h13 : a2.eval (.tmp 13) = .int .u8 x := by
    have := he2.2 13
    have := (VRep_v (T := u8) (x := x) (by simp)).1 this
    simp only [TRep, Ty.agg, Ty.sk, Sk.agg, Bool.false_eq_true, if_false, Rep, List.cons.injEq, and_true] at this
    exact this.1
  unfold wpListIn
  rw [if_pos (by simp [Region.wanted, oY_guard])]
  refine ⟨fun _ _ => trivial, ?_⟩
  rw [Oper.semAt_eq _ _ _ (by rw [oY2.1]; intro c h; cases h), exec_yield h12 h13 hg2.row hp, Oper.uponIn_round]
  exact ⟨fun h => absurd h (by simp [Fence.wide]), hround g' a2 w2 hg2 he2 hd2⟩

end Go.Proofs.Ytlkddajnebjlcaa.Ctr

end
section
/- Counters (layer 4, ctr): a round of Flip's loop. -/
set_option linter.unusedVariables false
set_option maxRecDepth 100000
namespace Go.Proofs.Ytlkddajnebjlcaa.Ctr
open Go Vse Go.Proofs Gen

theorem asg_normal (x : Int) (k a b k' a' out : List Int) : ((run Try.prog (ctx []) L0 asgF (SL.enc ((), (), x, ()) (k, a, b, (), k', a', out, ()))).bind fun r => .ret r.1).eval = some .normal := by kernel_rfl

theorem round_of {x : Int} {k a b k' a' out : List Int} {d : SL.End} (h : (SL.round bodyL ((), (), x, ()) (k, a, b, (), k', a', out, ())).eval = some d) :
    ∃ st1 y st2, (run Try.prog (ctx []) L0 asgF (SL.enc ((), (), x, ()) (k, a, b, (), k', a', out, ()))).eval = some (.normal, st1) ∧ (run Try.prog (ctx []) L0 bdyF st1).eval = some (y, st2) ∧
      (match y with
        | .normal => ∃ dd, renTo SL.E0 SL.inis SL.live SL.Ts SL.Es SL.nt st2 = some dd ∧ d = .inl dd
        | y => ∃ st, SL.outSt y st2 = some st ∧ d = .inr (y, st)) := by
  obtain ⟨r1, q1, q2⟩ := Tr.bind_some (asg_normal x k a b k' a' out)
  have q2 := Tr.ret_some q2
  unfold RSpec.round at h
  obtain ⟨r, h1, h2⟩ := Tr.bind_some h
  unfold bodyL at h1
  obtain ⟨r2, h3, h4⟩ := Tr.bind_some h1
  rw [q1] at h3
  simp only [Option.some.injEq] at h3
  subst h3
  obtain ⟨y1, st1⟩ := r1
  simp only at q2
  subst q2
  obtain ⟨y, st2⟩ := r
  refine ⟨st1, y, st2, q1, h4, ?_⟩
  cases y with
  | normal =>
    simp only at h2
    split at h2
    · rename_i dd hdd
      exact ⟨dd, hdd, (Tr.ret_some h2).symm⟩
    · exact (Tr.fail_some h2).elim
  | exit i =>
    simp only at h2
    split at h2
    · rename_i st hst
      exact ⟨st, hst, (Tr.ret_some h2).symm⟩
    · exact (Tr.fail_some h2).elim
  | ret =>
    simp only at h2
    split at h2
    · rename_i st hst
      exact ⟨st, hst, (Tr.ret_some h2).symm⟩
    · exact (Tr.fail_some h2).elim

end Go.Proofs.Ytlkddajnebjlcaa.Ctr

end
section
/- Counters (layer 4, ctr): a round of Flip's loop, while it goes on. -/
set_option linter.unusedVariables false
set_option maxRecDepth 100000
namespace Go.Proofs.Ytlkddajnebjlcaa.Ctr
open Go Vse Go.Proofs Gen

def flipB (x : Int) (b out : List Int) : Int := xorI .u8 (b.getD out.length 0) x

theorem yield_round {g0 g : G} {w : World} {l r : Nat} {o : Loop} {x : Int} {k a b k' a' out : List Int} {f : FuncId} {tm : Array Value} {R : Ending → World → Prop}
    (hg : Going g0 g (hL k a b k' a' out) w l r o) (hds : g0.ext.2 = []) (ho : o.state = .ready) (h0 : ∀ t, isY (g0.sh t) SL.E0[t]?)
    (hF : EnvRep g (SL.enc ((), (), x, ()) (k, a, b, (), k', a', out, ())).env { tmps := tm, defers := [] }) (hin : out.length < b.length) (hsm : b.length ≤ 1000000)
    (hmore : (out ++ [flipB x b out]).length ≠ b.length → ∀ g3 w', Going g0 g3 (hL k a b k' a' (out ++ [flipB x b out])) w' l r { o with state := .ready, pending := none } → R (.returned (.bool true)) w')
    (hlast : (out ++ [flipB x b out]).length = b.length → ∀ g3 w', Going g0 g3 (hL k a b k' a' (out ++ [flipB x b out])) w' l r { o with state := .done, pending := some (.exit 0) } → R (.returned (.bool false)) w') :
    RoundIn (FW none) 0 Try.prog l f tm asgF bdyF w R := by
  have hl1 : LoopsOK Try.prog L0 asgF := loopsOK_of (by kernel_rfl)
  have hl2 : LoopsOK Try.prog L0 bdyF := loopsOK_of (by kernel_rfl)
  have c1 : inArr (out.length : Int) b.length = true := inArr_nat hin
  have c2 : Vse.room (out.length + [flipB x b out].length) 1 = true := by simp only [Vse.room, decide_eq_true_eq, List.length_singleton]; omega
  have hG : (GL x k a b k' a' out).eval = if (out ++ [flipB x b out]).length = b.length then some (.inr (.exit 0, encS [] [] eL 32 () (k, a, b, (), k', a', out ++ [flipB x b out], ())))
      else some (.inl (((), (), x, ()), (k, a, b, (), k', a', out ++ [flipB x b out], ()))) := by
    unfold GL
    simp only [Int.toNat_natCast]
    rw [chk_eval c1]
    refine (chk_eval c2 _).trans ?_
    by_cases heq : (out ++ [flipB x b out]).length = b.length
    · rw [if_pos heq]
      refine (ite_t ?_ _ _).trans rfl
      show (((out ++ [flipB x b out]).length : Int) == (b.length : Int)) = true
      rw [heq]; exact beq_self_eq_true _
    · rw [if_neg heq]
      refine (ite_f ?_ _ _).trans rfl
      show (((out ++ [flipB x b out]).length : Int) == (b.length : Int)) = false
      simp only [beq_eq_false_iff_ne, ne_eq]
      omega
  by_cases heq : (out ++ [flipB x b out]).length = b.length
  · rw [if_pos heq] at hG
    obtain ⟨st1, y, st2, q1, q2, q3⟩ := round_of ((rL x k a b k' a' out).trans hG)
    cases y with
    | normal => obtain ⟨dd, _, h⟩ := q3; cases h
    | ret => obtain ⟨st, _, h⟩ := q3; cases h
    | exit i =>
      obtain ⟨st, h1, h2⟩ := q3
      simp only [Sum.inr.injEq, Prod.mk.injEq, Ex.exit.injEq] at h2
      obtain ⟨rfl, rfl⟩ := h2
      unfold RSpec.outSt at h1
      split at h1
      · rename_i d hren
        simp only [Option.some.injEq] at h1
        refine Going.round nil_sound hl1 hl2 hg ho hF q1 q2 (.inr ⟨0, rfl⟩) fun g' w' a2 hD he2 hd2 => ⟨fun h => absurd h (by simp), fun id hid hgo => ?_⟩
        cases hid
        obtain ⟨g3, w1, _⟩ := Going.ren hgo hds he2 hd2 h0 hren
        have hh : (encS (SL.outs (.exit 0)).1 (SL.outs (.exit 0)).2.1 (SL.outs (.exit 0)).2.2 SL.nt d.1 d.2).heap = hL k a b k' a' (out ++ [flipB x b out]) := by rw [h1]; rfl
        rw [hh] at w1
        exact hlast heq g3 w' w1
      · cases h1
  · rw [if_neg heq] at hG
    obtain ⟨st1, y, st2, q1, q2, q3⟩ := round_of ((rL x k a b k' a' out).trans hG)
    cases y with
    | exit i => obtain ⟨st, _, h⟩ := q3; cases h
    | ret => obtain ⟨st, _, h⟩ := q3; cases h
    | normal =>
      obtain ⟨dd, hren, h2⟩ := q3
      simp only [Sum.inl.injEq] at h2
      subst h2
      refine Going.round nil_sound hl1 hl2 hg ho hF q1 q2 (.inl rfl) fun g' w' a2 hD he2 hd2 => ⟨fun _ hgo => ?_, fun id hid => absurd hid (by simp)⟩
      obtain ⟨g3, w1, _⟩ := Going.ren hgo hds he2 hd2 h0 hren
      exact hmore heq g3 w' w1

end Go.Proofs.Ytlkddajnebjlcaa.Ctr

end
section
/- Counters (layer 4, ctr): Flip's slots in a round. -/
set_option linter.unusedVariables false
set_option maxRecDepth 100000
namespace Go.Proofs.Ytlkddajnebjlcaa.Ctr
open Go Vse Go.Proofs Gen

def eW (x : Int) : List AV := (encS [5, 7, 15] [.ptr 2 [], .ptr 3 [], u8] [] 32 ((), (), x, ()) ()).env
theorem eW_enc (x : Int) (hs : HD SL.Es) : (SL.enc ((), (), x, ()) hs).env = eW x := rfl

/-- a round's slots: two variables, and the byte that was yielded -/
theorem eW_rep {g : G} {tm : Array Value} {x : Int} (hn : tm.size = 32) (h5 : VRep g (.v (.ptr 2 []) ()) (tm.getD 5 undef)) (h7 : VRep g (.v (.ptr 3 []) ()) (tm.getD 7 undef)) (hx : inK .u8 x = true) :
    EnvRep g (eW x) { tmps := tm.setIfInBounds 15 (.int .u8 x), defers := [] } := by
  have hget : ∀ i, i ≠ 15 → (tm.setIfInBounds 15 (.int .u8 x)).getD i undef = tm.getD i undef := fun i hi => by
    simp only [Array.getD_eq_getD_getElem?]
    rw [Array.getElem?_setIfInBounds_ne (Ne.symm hi)]
  have h15 : (tm.setIfInBounds 15 (.int .u8 x)).getD 15 undef = .int .u8 x := by
    simp only [Array.getD_eq_getD_getElem?]
    rw [Array.getElem?_setIfInBounds_self_of_lt (by omega)]
    rfl
  refine ⟨by show 32 = (tm.setIfInBounds 15 _).size; rw [Array.size_setIfInBounds, hn], fun i => ?_⟩
  show VRep g (getV (eW x) i) ((tm.setIfInBounds 15 (.int .u8 x)).getD i undef)
  by_cases e5 : i = 5
  · subst e5; rw [hget 5 (by omega)]; exact h5
  by_cases e7 : i = 7
  · subst e7; rw [hget 7 (by omega)]; exact h7
  by_cases e15 : i = 15
  · subst e15
    rw [h15]
    show VRep g (.v u8 x) _
    refine (VRep_v (T := u8) (x := x) (by simp)).2 ?_
    simp only [TRep, Ty.agg, Ty.sk, Sk.agg, Bool.false_eq_true, if_false, Rep]
    exact ⟨trivial, hx⟩
  by_cases hi : i < 32
  · have key : ∀ i : Fin 32, i.1 ≠ 5 → i.1 ≠ 7 → i.1 ≠ 15 → getV (eW x) i.1 = AV.und := by
      intro i h1 h2 h3
      match i, h1, h2, h3 with
      | ⟨0, _⟩, _, _, _ => exact rfl
      | ⟨1, _⟩, _, _, _ => exact rfl
      | ⟨2, _⟩, _, _, _ => exact rfl
      | ⟨3, _⟩, _, _, _ => exact rfl
      | ⟨4, _⟩, _, _, _ => exact rfl
      | ⟨5, _⟩, h, _, _ => exact absurd rfl h
      | ⟨6, _⟩, _, _, _ => exact rfl
      | ⟨7, _⟩, _, h, _ => exact absurd rfl h
      | ⟨8, _⟩, _, _, _ => exact rfl
      | ⟨9, _⟩, _, _, _ => exact rfl
      | ⟨10, _⟩, _, _, _ => exact rfl
      | ⟨11, _⟩, _, _, _ => exact rfl
      | ⟨12, _⟩, _, _, _ => exact rfl
      | ⟨13, _⟩, _, _, _ => exact rfl
      | ⟨14, _⟩, _, _, _ => exact rfl
      | ⟨15, _⟩, _, _, h => exact absurd rfl h
      | ⟨16, _⟩, _, _, _ => exact rfl
      | ⟨17, _⟩, _, _, _ => exact rfl
      | ⟨18, _⟩, _, _, _ => exact rfl
      | ⟨19, _⟩, _, _, _ => exact rfl
      | ⟨20, _⟩, _, _, _ => exact rfl
      | ⟨21, _⟩, _, _, _ => exact rfl
      | ⟨22, _⟩, _, _, _ => exact rfl
      | ⟨23, _⟩, _, _, _ => exact rfl
      | ⟨24, _⟩, _, _, _ => exact rfl
      | ⟨25, _⟩, _, _, _ => exact rfl
      | ⟨26, _⟩, _, _, _ => exact rfl
      | ⟨27, _⟩, _, _, _ => exact rfl
      | ⟨28, _⟩, _, _, _ => exact rfl
      | ⟨29, _⟩, _, _, _ => exact rfl
      | ⟨30, _⟩, _, _, _ => exact rfl
      | ⟨31, _⟩, _, _, _ => exact rfl
      | ⟨n + 32, h⟩, _, _, _ => exact absurd h (by omega)
    rw [key ⟨i, hi⟩ e5 e7 e15]
    trivial
  · have key : ∀ (l : List AV) (i : Nat), l.length ≤ i → getV l i = AV.none := by
      intro l
      induction l with
      | nil => intro i _; rfl
      | cons a l ih =>
        intro i h
        cases i with
        | zero => simp at h
        | succ i => exact ih i (by simpa using h)
    rw [key _ _ (show 32 ≤ i by omega), hget i e15, Array.getD_eq_getD_getElem?, Array.getElem?_eq_none (by omega)]
    exact ⟨#[], rfl, rfl⟩

end Go.Proofs.Ytlkddajnebjlcaa.Ctr

end
section
/- Counters (layer 4, ctr): the region that calls yield, whole. -/
set_option linter.unusedVariables false
set_option maxRecDepth 100000
namespace Go.Proofs.Ytlkddajnebjlcaa.Ctr
open Go Vse Go.Proofs Gen

theorem leD_c {g g' : G} (h : g.leD g') : g.leC g' := ⟨fun b _ _ _ => h.fr b _, fun b _ _ _ hb => by rw [h.gr]; exact hb, h.ent⟩
theorem going_box {g0 g : G} {k a b k' a' out : List Int} {w : World} {l r : Nat} {o : Loop} (h : Going g0 g (hL k a b k' a' out) w l r o) : (∃ s, g.sh 4 = .box s) ∧ ∃ s, g.sh 5 = .box s := by
  have h4 := h.inv.sh 4
  have h5 := h.inv.sh 5
  exact ⟨⟨_, h4⟩, ⟨_, h5⟩⟩

/-- behind a round: yield's answer, and what is not -/
theorem yield_back {g0 g2 g3 : G} {k a b k' a' out out' : List Int} {w2 w3 : World} {l r : Nat} {o o' : Loop} {e : List Int} {j x : Int} {a2 : Act} {t : Bool} {Q : Exit → Act → World → Prop}
    (hg2 : Going g0 g2 (hL k a b k' a' out) w2 l r o) (hg3 : Going g0 g3 (hL k a b k' a' out') w3 l r o') (b4 : ∃ s, g0.sh 4 = .box s) (b5 : ∃ s, g0.sh 5 = .box s)
    (he2 : EnvRep g2 (e5 l e j x) a2) (hd2 : a2.defers = [])
    (hn : ∀ g4 act' w', Going g0 g4 (hL k a b k' a' out') w' l r o' → EnvRep g4 (e7 l e j (!t)) act' → act'.defers = [] → Q .normal act' w') :
    wpListIn (FW none) 0 Try.prog (opsOf R3) Q [oY 3] (a2.put (oY 2).dst (.bool t)) w3 := by
  obtain ⟨⟨s4, q4⟩, ⟨s5, q5⟩⟩ := going_box hg2
  obtain ⟨⟨u4, v4⟩, ⟨u5, v5⟩⟩ := going_box hg3
  obtain ⟨z4, y4⟩ := b4
  obtain ⟨z5, y5⟩ := b5
  have h1 : EnvRep g2 (e1 l e j) a2 := keepE_rep he2 [0, 1, 2, 8, 9]
  have h3 : EnvRep g3 (e1 l e j) a2 := e1_move h1 (ptr_move hg2.le hg3.le y4 q4 v4 (h1.2 1)) (ptr_move hg2.le hg3.le y5 q5 v5 (h1.2 2))
  have h6 : EnvRep g3 (e6 l e j t) (a2.put (some 14) (.bool t)) := h3.put (some 14) (v := .v .bool t) ((VRep_v (by simp)).2 (TRep_bool.2 rfl))
  rw [oY2.2.2]
  obtain ⟨st, t1, t2⟩ := Tr.bind_some (s3 l e j t (hL k a b k' a' out'))
  have t2 := Tr.ret_some t2
  simp only [Prod.mk.injEq] at t2
  obtain ⟨k1, k2⟩ := t2
  refine stepT_sound nil_sound.1 (g := g3.lenl l r o') (st := ⟨e6 l e j t, hL k a b k' a' out'⟩) ⟨h6.c hg3.c, hg3.inv, by show (a2.put (some 14) (.bool t)).defers = g3.ext.2; rw [put_defers, hd2, hg3.ds]⟩ t1 fun g4 a4 w4 le4 hs4 => ?_
  have hgr : g4.gr = (g3.lenl l r o').gr := le4.gr
  have hext : g4.ext = g3.ext := le4.ext
  let g' : G := { g4 with gr := g3.gr }
  have hg' : g'.lenl l r o' = g4 := by
    cases g4
    simp only [G.lenl, g'] at hgr ⊢
    simp only [hgr]
  have hD : g3.leD g' := ⟨le4.fr, rfl, by show g4.ext.1 = g3.ext.1; rw [hext], fun e => by
    cases le4.ent e with
    | same a b c => exact .same a b c
    | dead a => exact .dead a
    | grew a b c => exact .grew a b c
    | new a => exact .new a⟩
  refine hn g' a4 w4 ⟨hg3.le.trans hD, by show g4.ext.2 = []; rw [hext]; exact hg3.ds, by rw [hg', ← k2]; exact hs4.heap, hg3.new⟩ ?_ (by rw [hs4.defers, hext]; exact hg3.ds)
  have := lenl_c g' l r o'
  rw [hg'] at this
  rw [← k1]
  exact keepE_rep (hs4.env.c this) _

end Go.Proofs.Ytlkddajnebjlcaa.Ctr

end

/- Each operation of the symbolic machine is one of the model's (3). Nothing here is about one program. -/
import Derived.Test.YtodjkocikflmnaaE7
import Derived.Laws.Pointers
set_option linter.unusedVariables false
namespace Vse
open Go

section
variable {P : Program} {g : G}

theorem TRep_agg_val {T : Ty} {x : T.den} {v : Value} (h : TRep g T x v) : ∃ cs, Rep g T x cs ∧ (if T.agg then v = .agg cs.toArray else cs = [v]) := by
  unfold TRep at h
  split at h
  · obtain ⟨cs, rfl, hr⟩ := h; exact ⟨cs.toList, hr, by rw [if_pos (by assumption)]⟩
  · exact ⟨[v], h, by rw [if_neg (by assumption)]⟩

theorem eqlT_run {t : TypeId} {T : Ty} {x y : T.den} {va vb : Value} {r : Bool} (h : (eqlT P t T x y).eval = some r) (hx : TRep g T x va) (hy : TRep g T y vb) (w : World) :
    r = eqT T x y ∧ P.eqGuardType P.depth t = false ∧ (Op.equal t va vb).run P w = .ok (eqT T x y) w := by
  unfold eqlT at h
  split at h
  · rename_i hc
    have := Tr.ret_some h
    simp only [Bool.and_eq_true, Bool.not_eq_true', beq_iff_eq] at hc
    obtain ⟨⟨h1, h2⟩, h3⟩ := hc
    obtain ⟨xs, hxs, hva⟩ := TRep_agg_val hx
    obtain ⟨ys, hys, hvb⟩ := TRep_agg_val hy
    refine ⟨this.symm, h3, ?_⟩
    have := equalIn_run (g := g) depth0 t T depth0 _ h1 h2 rfl x y xs ys va vb 9988 w hxs hys hva hvb
    exact this
  · exact (Tr.fail_some h).elim

theorem run_eqGuard_plain {op : BinOp} {t : TypeId} {x y : Operand} {a b : Value} (w : World) (h1 : ∀ c, a ≠ .agg c) (h2 : a ≠ .nilIface) : (eqGuard op t x y a b).run P w = .ok () w := by
  cases op <;> cases a <;> simp_all [eqGuard]

theorem eqGuard_any {op : BinOp} {t : TypeId} {x y : Operand} {T : Ty} {u : T.den} {a b : Value} (w : World) (ha : TRep g T u a) (hT : T.sk ≠ .leaf ∨ ∃ c, T = .int c ∨ T = .str ∨ T = .bool ∨ T = .nilp) (hm : T.sk = .leaf ∨ P.eqGuardType P.depth t = false) :
    (eqGuard op t x y a b).run P w = .ok () w := by
  rcases hT with hT | ⟨c, hT⟩
  · rcases hm with hm | hm
    · exact absurd hm hT
    · have hag : T.agg = true := by unfold Ty.agg; cases hs : T.sk <;> first | rfl | (exact absurd hs hT)
      unfold TRep at ha
      rw [if_pos hag] at ha
      obtain ⟨cs, rfl, _⟩ := ha
      cases b with
      | agg ys => exact run_eqGuard_agg w op t x y cs ys hm
      | _ => cases op <;> simp [eqGuard]
  · refine run_eqGuard_plain w ?_ ?_
    · intro cs hc; subst hc
      rcases hT with rfl | rfl | rfl | rfl <;> simp [TRep, Ty.agg, Ty.sk, Sk.agg, Rep] at ha
    · intro hc; subst hc
      rcases hT with rfl | rfl | rfl | rfl <;> simp [TRep, Ty.agg, Ty.sk, Sk.agg, Rep] at ha

theorem inK_iff {k : IntKind} {n : Int} : inK k n = true ↔ k.min ≤ n ∧ n ≤ k.max := by simp [inK]

theorem min_nonpos (k : IntKind) : k.min ≤ 0 := by cases k <;> decide
theorem max_nonneg (k : IntKind) : 0 ≤ k.max := by cases k <;> decide

/-- between a number that its kind can hold, and none -/
theorem inK_between {k : IntKind} {x n : Int} (hx : inK k x = true) (h1 : 0 ≤ x → 0 ≤ n ∧ n ≤ x) (h2 : x ≤ 0 → x ≤ n ∧ n ≤ 0) : inK k n = true := by
  rw [inK_iff] at hx ⊢
  have := min_nonpos k
  have := max_nonneg k
  rcases Int.le_total 0 x with h | h
  · have := h1 h; omega
  · have := h2 h; omega

theorem nat_tmod (m : Nat) (y : Int) : ∃ q : Nat, (m : Int).tmod y = q ∧ q ≤ m := by
  obtain ⟨n, rfl | rfl⟩ := Int.eq_nat_or_neg y
  · exact ⟨m % n, rfl, Nat.mod_le _ _⟩
  · exact ⟨m % n, by rw [Int.tmod_neg]; rfl, Nat.mod_le _ _⟩

theorem inK_tmod {k : IntKind} {x y : Int} (hx : inK k x = true) : inK k (x.tmod y) = true := by
  refine inK_between hx (fun h => ?_) (fun h => ?_)
  · obtain ⟨m, rfl⟩ := Int.eq_ofNat_of_zero_le h
    obtain ⟨q, h1, h2⟩ := nat_tmod m y
    omega
  · obtain ⟨m, hm⟩ := Int.eq_ofNat_of_zero_le (show 0 ≤ -x by omega)
    have e : x = -(m : Int) := by omega
    obtain ⟨q, h1, h2⟩ := nat_tmod m y
    rw [e, Int.neg_tmod]
    omega

theorem inK_shr {k : IntKind} {x y : Int} (hx : inK k x = true) : inK k (shrI k x y) = true := by
  unfold shrI
  generalize min y.toNat k.bits = m
  have hd : (0 : Int) < 2 ^ m := Int.pow_pos (by omega)
  rw [Int.fdiv_eq_ediv_of_nonneg _ (by omega)]
  refine inK_between hx (fun h => ?_) (fun h => ?_)
  · exact ⟨Int.ediv_nonneg h (by omega), Int.ediv_le_self _ h⟩
  · refine ⟨?_, Int.ediv_nonpos_of_nonpos_of_neg h (by omega)⟩
    have : x * 2 ^ m ≤ x * 1 := Int.mul_le_mul_of_nonpos_left h (by omega)
    exact Int.le_ediv_of_mul_le hd (by omega)

theorem intBin_run {op : BinOp} {k : IntKind} {x y : Int} {t : TypeId} {r : TV} (hx : inK k x = true) (h : (intBin op k x y).eval = some r) (hop : op ≠ .shl ∧ op ≠ .shr) (w : World) :
    ∃ v, (binOp op t (.int k x) (.int k y)).run P w = .ok v w ∧ TRep g r.T r.x v := by
  cases op <;> simp only [intBin] at h
  case add | sub | mul => have := Tr.ret_some h; subst this; exact ⟨_, by simp [binOp, Op.intArith], TRep_wrap⟩
  case quo | rem =>
    rcases Tr.ite_some h with ⟨_, h⟩ | ⟨hb, h⟩
    · exact (Tr.fail_some h).elim
    · have := Tr.ret_some h; subst this
      have hy : y ≠ 0 := by simpa using hb
      first
        | exact ⟨_, by simp [binOp, Op.intDiv, hy], TRep_wrap⟩
        | exact ⟨_, by simp [binOp, Op.intDiv, hy], TRep_int.2 ⟨rfl, inK_tmod hx⟩⟩
  case and | or | xor | andNot => have := Tr.ret_some h; subst this; exact ⟨_, by simp only [binOp, ne_eq, not_true_eq_false, if_false, Op.intBits]; rfl, TRep_wrap⟩
  case eql | neq | lss | leq | gtr | geq => have := Tr.ret_some h; subst this; exact ⟨_, by simp [binOp, Op.intCmp], TRep_bool.2 rfl⟩
  case shl => exact absurd rfl hop.1
  case shr => exact absurd rfl hop.2

theorem strBin_run {op : BinOp} {x y : ByteArray} {t : TypeId} {r : TV} (h : (strBin op x y).eval = some r) (w : World) :
    ∃ v, (binOp op t (.string x) (.string y)).run P w = .ok v w ∧ TRep g r.T r.x v := by
  cases op <;> simp only [strBin] at h
  case add =>
    obtain ⟨hb, h⟩ := Tr.chk_some h
    have := Tr.ret_some h; subst this
    have hb : x.size + y.size ≤ 9223372036854775807 := by simpa using hb
    refine ⟨.string (x ++ y), ?_, TRep_str.2 ⟨rfl, by simpa using hb⟩⟩
    have : ¬ ((x.size + y.size : Nat) : Int) > IntKind.i64.max := by
      have : IntKind.i64.max = 9223372036854775807 := by decide
      rw [this]; omega
    simp only [binOp, Op.stringOp]
    rw [if_neg this]; rfl
  case eql => have := Tr.ret_some h; subst this; exact ⟨.bool (x == y), by simp [binOp, Op.stringOp, beq_toListBytes], TRep_bool.2 rfl⟩
  case neq => have := Tr.ret_some h; subst this; exact ⟨.bool (x != y), by simp [binOp, Op.stringOp, beq_toListBytes, bne], TRep_bool.2 rfl⟩
  all_goals exact (Tr.fail_some h).elim

theorem binOp_eql_agg (t : TypeId) (a b : Array Value) (w : World) : (binOp .eql t (.agg a) (.agg b)).run P w = ((Op.equal t (.agg a) (.agg b)).run P w).andThen fun r w' => .ok (.bool r) w' := by
  simp only [binOp, Sem.run_bind, Sem.run_pure]
theorem binOp_neq_agg (t : TypeId) (a b : Array Value) (w : World) : (binOp .neq t (.agg a) (.agg b)).run P w = ((Op.equal t (.agg a) (.agg b)).run P w).andThen fun r w' => .ok (.bool !r) w' := by
  simp only [binOp, Sem.run_bind, Sem.run_pure]
theorem binOp_eql_bool (t : TypeId) (a b : Bool) (w : World) : (binOp .eql t (.bool a) (.bool b)).run P w = ((Op.equal t (.bool a) (.bool b)).run P w).andThen fun r w' => .ok (.bool r) w' := by
  simp only [binOp, Sem.run_bind, Sem.run_pure]
theorem binOp_neq_bool (t : TypeId) (a b : Bool) (w : World) : (binOp .neq t (.bool a) (.bool b)).run P w = ((Op.equal t (.bool a) (.bool b)).run P w).andThen fun r w' => .ok (.bool !r) w' := by
  simp only [binOp, Sem.run_bind, Sem.run_pure]

/-- what can be held against another by '==' -/
theorem cmpTy_kind {n : Nat} {t : TypeId} {T : Ty} (h : cmpTy P n t T = true) : T = .bool ∨ (∃ k, T = .int k) ∨ T = .str ∨ T.sk ≠ .leaf := by
  cases n with
  | zero => simp [cmpTy] at h
  | succ n =>
    unfold cmpTy at h
    split at h
    · cases T <;> simp_all
    · cases T <;> simp_all
    · cases T <;> simp_all
    · rename_i fs hu
      refine .inr (.inr (.inr ?_))
      simp only [Bool.and_eq_true] at h
      have h := h.2
      cases hf : fs.toList <;> rw [hf] at h <;> cases T <;> simp_all [cmpFields, Ty.sk]
    · cases T <;> simp_all [Ty.sk]
    · cases h

theorem run_equal_nilp (w : World) {t e : TypeId} (hu : P.underlying t = some (.pointer e)) : (Op.equal t (.pointer none) (.pointer none)).run P w = .ok true w := by
  have e : Op.equal t (.pointer none) (.pointer none) = Op.equalIn (9999 + 1) t (.pointer none) (.pointer none) := rfl
  rw [e, Op.equalIn, Sem.run_bind, run_underlying hu]
  rfl

theorem binT_run {op : BinOp} {t : TypeId} {x y : Operand} {a b r : TV} {va vb : Value} (h : (binT P op t a b).eval = some r) (ha : TRep g a.T a.x va) (hb : TRep g b.T b.x vb) (w : World) :
    ∃ v, (do eqGuard op t x y va vb; binOp op t va vb : Sem Value).run P w = .ok v w ∧ TRep g r.T r.x v := by
  have key : ∀ (T : Ty) (p q : T.den), TRep g T p va → TRep g T q vb → ∀ (f : Bool → Bool), (op = .eql ∧ f = id) ∨ (op = .neq ∧ f = (! ·)) →
      ∀ r, (eqlT P t T p q).eval = some r → ∃ v, (do eqGuard op t x y va vb; binOp op t va vb : Sem Value).run P w = .ok v w ∧ v = .bool (f r) := by
    intro T p q hp hq f hf r hr
    obtain ⟨rfl, hg, he⟩ := eqlT_run hr hp hq w
    have hk : cmpTy P depth0 t T = true := by
      unfold eqlT at hr
      split at hr
      · rename_i hc; simp only [Bool.and_eq_true] at hc; exact hc.1.1
      · exact (Tr.fail_some hr).elim
    have hkind := cmpTy_kind hk
    have hgd : (eqGuard op t x y va vb).run P w = .ok () w := by
      refine eqGuard_any (T := T) (u := p) w hp ?_ (by by_cases hs : T.sk = .leaf <;> simp [hs, hg])
      rcases hkind with rfl | ⟨k, rfl⟩ | rfl | hs
      · exact .inr ⟨.i8, by simp⟩
      · exact .inr ⟨k, by simp⟩
      · exact .inr ⟨.i8, by simp⟩
      · exact .inl hs
    simp only [Sem.run_bind, hgd, Result.andThen_ok]
    rcases hkind with rfl | ⟨k, rfl⟩ | rfl | hs
    · rw [TRep_bool] at hp hq
      subst hp; subst hq
      rcases hf with ⟨rfl, rfl⟩ | ⟨rfl, rfl⟩
      · rw [binOp_eql_bool, he]; exact ⟨_, rfl, rfl⟩
      · rw [binOp_neq_bool, he]; exact ⟨_, rfl, rfl⟩
    · rw [TRep_int] at hp hq
      obtain ⟨hp, _⟩ := hp
      obtain ⟨hq, _⟩ := hq
      subst hp; subst hq
      rcases hf with ⟨rfl, rfl⟩ | ⟨rfl, rfl⟩
      · exact ⟨_, by simp [binOp, Op.intCmp]; rfl, by simp [eqT]; rfl⟩
      · exact ⟨_, by simp [binOp, Op.intCmp]; rfl, by simp [eqT, bne]; rfl⟩
    · rw [TRep_str] at hp hq
      obtain ⟨hp, _⟩ := hp
      obtain ⟨hq, _⟩ := hq
      subst hp; subst hq
      rcases hf with ⟨rfl, rfl⟩ | ⟨rfl, rfl⟩
      · exact ⟨_, by simp [binOp, Op.stringOp]; rfl, by simp [eqT, beq_toListBytes]⟩
      · exact ⟨_, by simp [binOp, Op.stringOp]; rfl, by simp [eqT, beq_toListBytes]⟩
    · have hag : T.agg = true := by unfold Ty.agg; cases hs' : T.sk <;> first | rfl | (exact absurd hs' hs)
      unfold TRep at hp hq
      rw [if_pos hag] at hp hq
      obtain ⟨ca, rfl, _⟩ := hp
      obtain ⟨cb, rfl, _⟩ := hq
      rcases hf with ⟨rfl, rfl⟩ | ⟨rfl, rfl⟩
      · rw [binOp_eql_agg, he]; exact ⟨_, rfl, rfl⟩
      · rw [binOp_neq_agg, he]; exact ⟨_, rfl, rfl⟩
  obtain ⟨A, p⟩ := a
  obtain ⟨B, q⟩ := b
  simp only at ha hb
  unfold binT at h
  split at h
  · -- integers
    rename_i k x' k' y' heq1 heq2
    simp only [TV.mk.injEq] at heq1 heq2
    obtain ⟨rfl, h1⟩ := heq1
    obtain ⟨rfl, h2⟩ := heq2
    cases h1; cases h2
    rw [TRep_int] at ha hb
    obtain ⟨ha, hax⟩ := ha
    obtain ⟨hb, _⟩ := hb
    subst ha; subst hb
    have hgd : ∀ op, (eqGuard op t x y (.int k x') (.int k' y')).run P w = .ok () w := fun op => run_eqGuard_plain w (by simp) (by simp)
    simp only [Sem.run_bind, hgd, Result.andThen_ok]
    split at h
    · obtain ⟨hy, h⟩ := Tr.chk_some h
      have := Tr.ret_some h; subst this
      have hy : ¬ (y' : Int) < 0 := Int.not_lt.2 (of_decide_eq_true hy)
      exact ⟨_, by simp only [binOp, Op.shift, if_neg hy]; rfl, TRep_wrap⟩
    · obtain ⟨hy, h⟩ := Tr.chk_some h
      have := Tr.ret_some h; subst this
      have hy : ¬ (y' : Int) < 0 := Int.not_lt.2 (of_decide_eq_true hy)
      exact ⟨_, by simp only [binOp, Op.shift, if_neg hy]; rfl, TRep_int.2 ⟨rfl, inK_shr hax⟩⟩
    · rename_i n1 n2
      split at h
      · rename_i hk; subst hk
        exact intBin_run hax h ⟨fun e => n1 e, fun e => n2 e⟩ w
      · exact (Tr.fail_some h).elim
  · rename_i x' y' heq1 heq2
    simp only [TV.mk.injEq] at heq1 heq2
    obtain ⟨rfl, h1⟩ := heq1
    obtain ⟨rfl, h2⟩ := heq2
    cases h1; cases h2
    rw [TRep_str] at ha hb
    obtain ⟨ha, _⟩ := ha
    obtain ⟨hb, _⟩ := hb
    subst ha; subst hb
    have hgd : ∀ op, (eqGuard op t x y (.string x') (.string y')).run P w = .ok () w := fun op => run_eqGuard_plain w (by simp) (by simp)
    simp only [Sem.run_bind, hgd, Result.andThen_ok]
    exact strBin_run h w
  · rename_i heq1 heq2
    simp only [TV.mk.injEq] at heq1 heq2
    obtain ⟨rfl, _⟩ := heq1
    obtain ⟨rfl, _⟩ := heq2
    rw [TRep_nilp] at ha hb
    subst ha; subst hb
    split at h
    · rename_i hc
      have := Tr.ret_some h; subst this
      have hgd : (eqGuard .eql t x y (.pointer none) (.pointer none)).run P w = .ok () w := run_eqGuard_plain w (by simp) (by simp)
      simp only [Sem.run_bind, hgd, Result.andThen_ok]
      unfold isPtrT at hc
      split at hc
      · rename_i e hu
        refine ⟨.bool true, ?_, TRep_bool.2 rfl⟩
        have e : binOp .eql t (.pointer none) (.pointer none) = (do pure (.bool (← Op.equal t (.pointer none) (.pointer none))) : Sem Value) := rfl
        rw [e, Sem.run_bind, run_equal_nilp w hu]; rfl
      · cases hc
    · exact (Tr.fail_some h).elim
  · rename_i heq1 heq2
    simp only [TV.mk.injEq] at heq1 heq2
    obtain ⟨rfl, _⟩ := heq1
    obtain ⟨rfl, _⟩ := heq2
    rw [TRep_nilp] at ha hb
    subst ha; subst hb
    split at h
    · rename_i hc
      have := Tr.ret_some h; subst this
      have hgd : (eqGuard .neq t x y (.pointer none) (.pointer none)).run P w = .ok () w := run_eqGuard_plain w (by simp) (by simp)
      simp only [Sem.run_bind, hgd, Result.andThen_ok]
      unfold isPtrT at hc
      split at hc
      · rename_i e hu
        refine ⟨.bool false, ?_, TRep_bool.2 rfl⟩
        have e : binOp .neq t (.pointer none) (.pointer none) = (do pure (.bool (!(← Op.equal t (.pointer none) (.pointer none)))) : Sem Value) := rfl
        rw [e, Sem.run_bind, run_equal_nilp w hu]; rfl
      · cases hc
    · exact (Tr.fail_some h).elim
  · rename_i T1 x1 T2 y1 n1 n2 n3 heq1 heq2
    simp only [TV.mk.injEq] at heq1 heq2
    obtain ⟨rfl, h1⟩ := heq1
    obtain ⟨rfl, h2⟩ := heq2
    cases h1; cases h2
    split at h
    · rename_i hT; subst hT
      obtain ⟨b, hb', h⟩ := Tr.bind_some h
      have := Tr.ret_some h; subst this
      obtain ⟨v, hv, rfl⟩ := key _ _ _ ha hb id (.inl ⟨rfl, rfl⟩) b hb'
      exact ⟨_, hv, TRep_bool.2 rfl⟩
    · exact (Tr.fail_some h).elim
  · rename_i T1 x1 T2 y1 n1 n2 n3 heq1 heq2
    simp only [TV.mk.injEq] at heq1 heq2
    obtain ⟨rfl, h1⟩ := heq1
    obtain ⟨rfl, h2⟩ := heq2
    cases h1; cases h2
    split at h
    · rename_i hT; subst hT
      obtain ⟨b, hb', h⟩ := Tr.bind_some h
      have := Tr.ret_some h; subst this
      obtain ⟨v, hv, rfl⟩ := key _ _ _ ha hb (! ·) (.inr ⟨rfl, rfl⟩) b hb'
      exact ⟨_, hv, TRep_bool.2 rfl⟩
    · exact (Tr.fail_some h).elim
  · exact (Tr.fail_some h).elim

theorem unT_run {op : UnOp} {a r : TV} {va : Value} (h : (unT op a).eval = some r) (ha : TRep g a.T a.x va) (w : World) :
    ∃ v, (Op.unary op va).run P w = .ok v w ∧ TRep g r.T r.x v := by
  obtain ⟨A, p⟩ := a
  simp only at ha
  unfold unT at h
  split at h
  · rename_i k n heq
    simp only [TV.mk.injEq] at heq
    obtain ⟨rfl, h1⟩ := heq
    cases h1
    rw [TRep_int] at ha; obtain ⟨ha, _⟩ := ha; subst ha
    have := Tr.ret_some h; subst this
    exact ⟨_, by simp [Op.unary, Op.intArith]; rfl, TRep_int.2 ⟨by simp, inK_wrap _ _⟩⟩
  · rename_i k n heq
    simp only [TV.mk.injEq] at heq
    obtain ⟨rfl, h1⟩ := heq
    cases h1
    rw [TRep_int] at ha; obtain ⟨ha, _⟩ := ha; subst ha
    have := Tr.ret_some h; subst this
    exact ⟨_, by simp only [Op.unary, Op.intBits]; rfl, TRep_wrap⟩
  · rename_i b heq
    simp only [TV.mk.injEq] at heq
    obtain ⟨rfl, h1⟩ := heq
    cases h1
    rw [TRep_bool] at ha; subst ha
    have := Tr.ret_some h; subst this
    exact ⟨_, by simp only [Op.unary]; rfl, TRep_bool.2 rfl⟩
  · exact (Tr.fail_some h).elim

end
end Vse

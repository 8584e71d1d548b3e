/- Each operation of the symbolic machine is one of the model's (6). Nothing here is about one program. -/
import Derived.Test.YtodjkocikflmnaaE10
set_option linter.unusedVariables false
namespace Vse
open Go

section
variable {P : Program} {g : G} {H : Heap} {w : World}

theorem seg_seg {cs : List Value} {o n i m : Nat} (h : i + m ≤ n) : seg (seg cs o n) i m = seg cs (o + i) m := by
  unfold seg
  rw [List.drop_take, List.drop_drop, List.take_take]
  congr 1
  omega

theorem reads_sub {F : Nat → Option Obj} {b off : Nat} {cs : List Value} (h : reads F ⟨b, off, none⟩ cs) (o n : Nat) : reads F ⟨b, off + o, none⟩ (seg cs o n) := by
  obtain ⟨_, cc, tt, fz, w1, w2⟩ := h
  refine ⟨rfl, cc, tt, fz, w1, fun i v hi => ?_⟩
  unfold seg at hi
  rw [List.getElem?_take] at hi
  split at hi
  · rw [List.getElem?_drop] at hi
    have := w2 _ _ hi
    simp only at this ⊢
    rw [← this]; congr 1; omega
  · cases hi

theorem sliceEl_spec {t e : TypeId} (h : sliceEl P t = some e) : P.underlying t = some (.slice e) := by
  unfold sliceEl at h
  split at h
  · rename_i e' hu; simp only [Option.some.injEq] at h; subst h; exact hu
  · cases h

theorem do_indexAddr (hI : HInv g H w) {t : TypeId} {vs : List AV} {r r2 : Value} (ha : argsRep g vs [r, r2]) {out : Out} {o o2 : Operand}
    (he : (c_indexAddr P t vs (shs H (shsOf (.indexAddr t o o2) vs))).eval = some out) : Done P g H w (do pure (.value (← Instr.indexAt t r r2))) out := by
  obtain ⟨a, a2, rfl, hr, hr2⟩ := argsRep2 ha
  unfold c_indexAddr at he
  split at he
  · rename_i e p d k i heq
    simp only [List.cons.injEq, and_true] at heq
    obtain ⟨rfl, rfl⟩ := heq
    simp only [shsOf, shs] at he
    split at he
    · rename_i n hn
      obtain ⟨el, hu⟩ := arrLen_spec hn
      split at he
      · rename_i hc
        obtain ⟨hi, he⟩ := Tr.chk_some he
        have := Tr.ret_some he; subst this
        simp only [Bool.and_eq_true, beq_iff_eq] at hc
        obtain ⟨c2, c3⟩ := hc
        obtain ⟨st, hst⟩ := Option.isSome_iff_exists.1 c2
        rw [hst] at c3
        obtain ⟨s, hs, hpe⟩ := shAt_spec c3
        obtain ⟨b, off, s', h1, h2, rfl, h4⟩ := ptr_sh hI hr hs
        rw [hpe] at h4
        simp only [Option.some.injEq] at h4
        subst h4
        obtain ⟨sa, m, rfl, hsa⟩ := arr_sk hst hu
        have hr2 := (VRep_v (by simp)).1 hr2
        rw [TRep_int] at hr2
        obtain ⟨hr2, hr2x⟩ := hr2
        subst hr2
        obtain ⟨i0, i1⟩ := inArrK_spec hi hr2x
        have hq : poff (.arr n sa) [.idx] (i.toNat, ()) = some (i.toNat * sa.nc, sa) := by
          simp only [poff]
          rw [if_pos (by omega)]; rfl
        refine done_val hI (v := .pointer (some ⟨b, off + i.toNat * sa.nc, none⟩)) ?_ ?_
        · simp only [Instr.indexAt, asIntOf, Sem.run_bind, Sem.run_pure, run_underlying hu, Result.andThen_ok, Instr.sureAddr]
          rw [if_pos ⟨i0, i1⟩]
          simp only [Sem.run_bind, run_sizeOf_sk hsa, Result.andThen_ok, Sem.run_pure, addr_add]
        · refine ptr_mk hI hs h1 ?_ (s' := sa)
          rw [poff_snoc h2, hq]
          rfl
      · exact (Tr.fail_some he).elim
    · exact (Tr.fail_some he).elim
  · rename_i q m a x k i heq
    simp only [List.cons.injEq, and_true] at heq
    obtain ⟨rfl, rfl⟩ := heq
    split at he
    · rename_i n hn
      obtain ⟨el, hu⟩ := arrLen_spec hn
      split at he
      · rename_i hc
        obtain ⟨hi, he⟩ := Tr.chk_some he
        have := Tr.ret_some he; subst this
        simp only [Bool.and_eq_true, beq_iff_eq, decide_eq_true_eq] at hc
        obtain ⟨rfl, c2⟩ := hc
        obtain ⟨sa, m', hsa', hsa⟩ := arr_sk c2 hu
        simp only [Sk.arr.injEq, true_and] at hsa'
        subst hsa'
        have hr2 := (VRep_v (by simp)).1 hr2
        rw [TRep_int] at hr2
        obtain ⟨hr2, hr2x⟩ := hr2
        subst hr2
        obtain ⟨i0, i1⟩ := inArrK_spec hi hr2x
        have hr := (VRep_v (by simp)).1 hr
        simp only [TRep, Ty.agg, Ty.sk, Sk.agg, Bool.false_eq_true, if_false, Rep] at hr
        obtain ⟨ad, cs, h1, ⟨h2, h2'⟩, h3⟩ := hr
        simp only [List.cons.injEq, and_true] at h1
        subst h1
        have hsp : ad.spot = none := by rcases h3 with h3 | ⟨_, h3⟩ <;> exact h3.1
        obtain ⟨b, off, sp⟩ := ad
        simp only at hsp
        subst hsp
        obtain ⟨r1, r2⟩ := repL_seg (fun x cs => Rep_length a x cs) (dflt a) h2' (i := i.toNat) (by omega)
        refine done_val hI (v := .pointer (some ⟨b, off + i.toNat * a.sk.nc, none⟩)) ?_ ?_
        · simp only [Instr.indexAt, asIntOf, Sem.run_bind, Sem.run_pure, run_underlying hu, Result.andThen_ok, Instr.sureAddr]
          rw [if_pos ⟨i0, i1⟩]
          simp only [Sem.run_bind, run_sizeOf_sk hsa, Result.andThen_ok, Sem.run_pure, addr_add]
        · refine (VRep_v (by simp)).2 ?_
          simp only [TRep, Ty.agg, Ty.sk, Sk.agg, Bool.false_eq_true, if_false, Rep]
          refine ⟨_, _, rfl, r1, ?_⟩
          rcases h3 with h3 | ⟨h0, h3⟩
          · exact .inl (reads_sub h3 _ _)
          · exact .inr ⟨h0, reads_sub h3 _ _⟩
      · exact (Tr.fail_some he).elim
    · exact (Tr.fail_some he).elim
  · rename_i q f a x k i heq
    simp only [List.cons.injEq, and_true] at heq
    obtain ⟨rfl, rfl⟩ := heq
    split at he
    · rename_i el hel
      have hu := sliceEl_spec hel
      split at he
      · rename_i hsk
        obtain ⟨hi, he⟩ := Tr.chk_some he
        have := Tr.ret_some he; subst this
        simp only [beq_iff_eq] at hsk
        have hr2 := (VRep_v (by simp)).1 hr2
        rw [TRep_int] at hr2
        obtain ⟨hr2, _⟩ := hr2
        subst hr2
        simp only [inArr, Bool.and_eq_true, decide_eq_true_eq] at hi
        obtain ⟨i0, i1⟩ := hi
        have hr := (VRep_v (by simp)).1 hr
        simp only [TRep, Ty.agg, Ty.sk, Sk.agg, Bool.false_eq_true, if_false, Rep] at hr
        obtain ⟨pv, cap, h1, _, _, h4⟩ := hr
        simp only [List.cons.injEq, and_true] at h1
        subst h1
        obtain ⟨ad, vs, rfl, h2, h3⟩ := h4 (by rintro rfl; simp at i1; omega)
        have hsp : ad.spot = none := by rcases h3 with h3 | ⟨_, h3⟩ <;> exact h3.1
        obtain ⟨b, off, sp⟩ := ad
        simp only at hsp
        subst hsp
        obtain ⟨r1, r2⟩ := repL_seg (fun x cs => Rep_length a x cs) (dflt a) h2 (i := i.toNat) (by omega)
        refine done_val hI (v := .pointer (some ⟨b, off + i.toNat * a.sk.nc, none⟩)) ?_ ?_
        · simp only [Instr.indexAt, asIntOf, Sem.run_bind, Sem.run_pure, run_underlying hu, Result.andThen_ok]
          rw [if_pos ⟨i0, i1⟩]
          simp only [Sem.run_bind, run_sizeOf_sk hsk, Result.andThen_ok, Sem.run_pure, addr_add]
        · refine (VRep_v (by simp)).2 ?_
          simp only [TRep, Ty.agg, Ty.sk, Sk.agg, Bool.false_eq_true, if_false, Rep]
          refine ⟨_, _, rfl, r1, ?_⟩
          rcases h3 with h3 | ⟨h0, h3⟩
          · exact .inl (reads_sub h3 _ _)
          · exact .inr ⟨h0, reads_sub h3 _ _⟩
      · exact (Tr.fail_some he).elim
    · exact (Tr.fail_some he).elim
  · rename_i e k x k' i heq
    simp only [List.cons.injEq, and_true] at heq
    obtain ⟨rfl, rfl⟩ := heq
    simp only [shsOf, shs] at he
    split at he
    · rename_i el hel
      have hu := sliceEl_spec hel
      split at he
      · rename_i g' s n hs
        simp only [List.cons.injEq, and_true] at hs
        split at he
        · rename_i hc
          obtain ⟨hi, he⟩ := Tr.chk_some he
          have := Tr.ret_some he; subst this
          simp only [Bool.and_eq_true, decide_eq_true_eq, beq_iff_eq] at hc
          obtain ⟨rfl, hsk⟩ := hc
          have hr2 := (VRep_v (by simp)).1 hr2
          rw [TRep_int] at hr2
          obtain ⟨hr2, _⟩ := hr2
          subst hr2
          simp only [inArr, Bool.and_eq_true, decide_eq_true_eq] at hi
          obtain ⟨i0, i1⟩ := hi
          have hr := (VRep_v (by simp)).1 hr
          simp only [TRep, Ty.agg, Ty.sk, Sk.agg, Bool.false_eq_true, if_false, Rep, G.vcr, hI.sh, hs] at hr
          obtain ⟨_, _, hr⟩ := hr
          rcases hr trivial with ⟨_, h0, _⟩ | ⟨b, cap, h1, h2, h3, h4⟩
          · omega
          simp only [List.cons.injEq, and_true] at h2
          subst h2
          refine done_val hI (v := .pointer (some ⟨b, i.toNat * s.nc, none⟩)) ?_ ?_
          · simp only [Instr.indexAt, asIntOf, Sem.run_bind, Sem.run_pure, run_underlying hu, Result.andThen_ok]
            rw [if_pos ⟨i0, i1⟩]
            simp only [Sem.run_bind, run_sizeOf_sk hsk, Result.andThen_ok, Sem.run_pure, addr_add, Nat.zero_add]
          · refine (VRep_v (by simp)).2 ?_
            simp only [TRep, Ty.agg, Ty.sk, Sk.agg, Bool.false_eq_true, if_false, Rep, G.vcr, hI.sh, hs]
            refine ⟨⟨_, rfl⟩, Nat.le_refl _, fun _ => ⟨b, i.toNat * s.nc, s, h1, ?_, rfl⟩⟩
            simp only [vpoff]
            rw [if_pos (by omega)]
            cases s <;> rfl
        · exact (Tr.fail_some he).elim
      · exact (Tr.fail_some he).elim
    · exact (Tr.fail_some he).elim
  · exact (Tr.fail_some he).elim

theorem do_index (hI : HInv g H w) {t : TypeId} {vs : List AV} {r r2 : Value} (ha : argsRep g vs [r, r2]) {out : Out}
    (he : (c_index P t vs).eval = some out) : Done P g H w (do pure (.value (← Instr.index t r r2))) out := by
  obtain ⟨a, a2, rfl, hr, hr2⟩ := argsRep2 ha
  unfold c_index at he
  split at he
  · rename_i s k i heq
    simp only [List.cons.injEq, and_true] at heq
    obtain ⟨rfl, rfl⟩ := heq
    split at he
    · rename_i hu
      obtain ⟨hi, he⟩ := Tr.chk_some he
      have := Tr.ret_some he; subst this
      have hr := (VRep_v (by simp)).1 hr
      have hr2 := (VRep_v (by simp)).1 hr2
      rw [TRep_str] at hr
      rw [TRep_int] at hr2
      obtain ⟨hr, _⟩ := hr
      obtain ⟨hr2, _⟩ := hr2
      subst hr; subst hr2
      simp only [inArr, Bool.and_eq_true, decide_eq_true_eq] at hi
      obtain ⟨i0, i1⟩ := hi
      have hlt : i.toNat < s.size := by omega
      have hlt' : i.toNat < s.data.size := hlt
      have hb : (s.data.getD i.toNat 0) = s.data[i.toNat] := by
        simp [Array.getD_eq_getD_getElem?, Array.getElem?_eq_getElem hlt']
      refine done_val hI (v := .int .u8 ((s.data.getD i.toNat 0).toNat : Int)) ?_ ((VRep_v (by simp)).2 (TRep_int.2 ⟨rfl, ?_⟩))
      · rw [hb]
        simp only [Instr.index, asIntOf, Sem.run_bind, Sem.run_pure, run_underlying hu, Result.andThen_ok]
        have e1 : s[i.toNat]? = some (s.data[i.toNat]) := getElem?_pos s i.toNat hlt
        rw [if_pos i0, e1]
        rfl
      · have := UInt8.toNat_lt (s.data.getD i.toNat 0)
        have h1 : IntKind.u8.min = 0 := by decide
        have h2 : IntKind.u8.max = 255 := by decide
        rw [inK_iff, h1, h2]
        omega
    · exact (Tr.fail_some he).elim
  · rename_i m a x k i heq
    simp only [List.cons.injEq, and_true] at heq
    obtain ⟨rfl, rfl⟩ := heq
    split at he
    · rename_i n hn
      obtain ⟨el, hu⟩ := arrLen_spec hn
      split at he
      · rename_i hc
        obtain ⟨hi, he⟩ := Tr.chk_some he
        have := Tr.ret_some he; subst this
        simp only [Bool.and_eq_true, beq_iff_eq, decide_eq_true_eq] at hc
        obtain ⟨rfl, c2⟩ := hc
        obtain ⟨sa, m', hsa', hsa⟩ := arr_sk c2 hu
        simp only [Sk.arr.injEq, true_and] at hsa'
        subst hsa'
        have hr2 := (VRep_v (by simp)).1 hr2
        rw [TRep_int] at hr2
        obtain ⟨hr2, hr2x⟩ := hr2
        subst hr2
        obtain ⟨i0, i1⟩ := inArrK_spec hi hr2x
        have hr := (VRep_v (by simp)).1 hr
        unfold TRep at hr
        rw [if_pos (show (Ty.arr n a).agg = true from rfl)] at hr
        obtain ⟨cs, rfl, h2, h2'⟩ := hr
        obtain ⟨r1, r2⟩ := repL_seg (fun x cs => Rep_length a x cs) (dflt a) h2' (i := i.toNat) (by omega)
        have hz : i.toNat * a.sk.nc + a.sk.nc ≤ cs.size := by
          have : a.sk.nc = a.nc := rfl
          rw [this]; simpa using r2
        obtain ⟨rv, hv1, hv2⟩ := run_part_sk hsa w cs (i.toNat * a.sk.nc) hz
        refine done_val hI (v := rv) ?_ ((VRep_v (Rep_ne r1)).2 (TRep_of_load r1 hv2))
        simp only [Instr.index, asIntOf, Sem.run_bind, Sem.run_pure, run_underlying hu, Result.andThen_ok]
        rw [if_pos ⟨i0, i1⟩]
        simp only [Sem.run_bind, run_sizeOf_sk hsa, Result.andThen_ok, hv1]
      · exact (Tr.fail_some he).elim
    · exact (Tr.fail_some he).elim
  · exact (Tr.fail_some he).elim

theorem tupRep_get : ∀ {l : List TV} {vs : List Value} {i : Nat} {t : TV}, tupRep g l vs → l[i]? = some t → ∃ v, vs[i]? = some v ∧ TRep g t.T t.x v
  | [], vs, i, t, h, hi => by simp at hi
  | a :: l, vs, 0, t, ⟨v, r, h1, h2, h3⟩, hi => by
    simp only [List.getElem?_cons_zero, Option.some.injEq] at hi
    subst hi; subst h1
    exact ⟨v, by simp, h2⟩
  | a :: l, vs, i + 1, t, ⟨v, r, h1, h2, h3⟩, hi => by
    subst h1
    simp only [List.getElem?_cons_succ] at hi ⊢
    exact tupRep_get h3 hi

theorem do_extract (hI : HInv g H w) {i : Nat} {vs : List AV} {r : Value} (ha : argsRep g vs [r]) {out : Out}
    (he : (c_extract i vs).eval = some out) : Done P g H w (do pure (.value (← Instr.extract r i))) out := by
  obtain ⟨a, rfl, hr⟩ := argsRep1 ha
  unfold c_extract at he
  split at he
  · rename_i l heq
    simp only [List.cons.injEq, and_true] at heq
    subst heq
    split at he
    · rename_i t ht
      have := Tr.ret_some he; subst this
      obtain ⟨vs, rfl, hv⟩ := hr
      obtain ⟨v, hv1, hv2⟩ := tupRep_get hv ht
      refine done_val hI (v := v) ?_ (VRep_val hv2)
      have : vs[i]? = some v := by simpa using hv1
      simp [Instr.extract, this]
    · exact (Tr.fail_some he).elim
  · exact (Tr.fail_some he).elim

theorem do_builtin (hI : HInv g H w) {b : Builtin} {ats : Array TypeId} {t : TypeId} {cts : Array Bool} {vs : List AV} {rs : List Value} (ha : argsRep g vs rs) {out : Out}
    (he : (c_builtin b vs).eval = some out) : Done P g H w (builtin b ats t cts rs.toArray) out := by
  unfold c_builtin at he
  split at he
  · rename_i k a k' c
    split at he
    · rename_i hk
      subst hk
      obtain ⟨v1, r1, rfl, h1, v2, r2, rfl, h2, h3⟩ := ha
      simp only [argsRep] at h3
      subst h3
      have h1 := (VRep_v (by simp)).1 h1
      have h2 := (VRep_v (by simp)).1 h2
      rw [TRep_int] at h1 h2
      obtain ⟨h1, h1x⟩ := h1
      obtain ⟨h2, h2x⟩ := h2
      subst h1; subst h2
      split at he
      · have := Tr.ret_some he; subst this
        refine done_val hI (v := .int k (maxI a c)) ?_ ((VRep_v (by simp)).2 (TRep_int.2 ⟨rfl, by unfold maxI; split <;> assumption⟩))
        simp [Builtin.max_, Builtin.max2, maxI]
      · have := Tr.ret_some he; subst this
        refine done_val hI (v := .int k (minI a c)) ?_ ((VRep_v (by simp)).2 (TRep_int.2 ⟨rfl, by unfold minI; split <;> assumption⟩))
        simp [Builtin.min_, Builtin.min2, minI]
      · exact (Tr.fail_some he).elim
    · exact (Tr.fail_some he).elim
  · exact (Tr.fail_some he).elim

theorem do_nilCheck (hI : HInv g H w) {vs : List AV} {r : Value} (ha : argsRep g vs [r]) {out : Out} {ρ : Operand → Value} {o : Oper} {x : Operand} (ho : o.op = .nilCheck x) (hx : ρ x = r)
    (he : (c_nilCheck vs).eval = some out) : Done P g H w (execOp ρ o) out := by
  obtain ⟨a, rfl, hr⟩ := argsRep1 ha
  have key : ∀ p, r = .pointer (some p) → VRep g out.1 r → out.2 = [] → Done P g H w (execOp ρ o) out := by
    rintro p rfl hv h0
    refine ⟨.value (.pointer (some p)), _, w, g, ?_, .inl rfl, G.le.refl g, by rw [h0]; exact hI, hv⟩
    simp [execOp, ho, hx]
  unfold c_nilCheck at he
  split at he
  · rename_i e p d heq
    simp only [List.cons.injEq, and_true] at heq
    subst heq
    have := Tr.ret_some he; subst this
    have h0 := (VRep_v (by simp)).1 hr
    simp only [TRep, Ty.agg, Ty.sk, Sk.agg, Bool.false_eq_true, if_false, Rep] at h0
    obtain ⟨⟨v, hv⟩, h0⟩ := h0
    simp only [List.cons.injEq, and_true] at hv
    exact key _ hv hr rfl
  · rename_i e k p d heq
    simp only [List.cons.injEq, and_true] at heq
    subst heq
    have := Tr.ret_some he; subst this
    have h0 := (VRep_v (by simp)).1 hr
    simp only [TRep, Ty.agg, Ty.sk, Sk.agg, Bool.false_eq_true, if_false, Rep] at h0
    obtain ⟨⟨v, hv⟩, h0⟩ := h0
    simp only [List.cons.injEq, and_true] at hv
    exact key _ hv hr rfl
  · rename_i q a x heq
    simp only [List.cons.injEq, and_true] at heq
    subst heq
    have := Tr.ret_some he; subst this
    have h0 := (VRep_v (by simp)).1 hr
    simp only [TRep, Ty.agg, Ty.sk, Sk.agg, Bool.false_eq_true, if_false, Rep] at h0
    obtain ⟨ad, cs, h1, _⟩ := h0
    simp only [List.cons.injEq, and_true] at h1
    exact key _ h1 hr rfl
  · exact (Tr.fail_some he).elim

end
end Vse

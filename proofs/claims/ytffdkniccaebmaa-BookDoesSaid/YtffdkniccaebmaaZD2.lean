/- The statements of layer 15 (book) hold: BookDoes. No conditions but the given ones. Part 2. -/
import Derived.Test.YtffdkniccaebmaaZD1
import Derived.Laws.OwnMore
import Derived.Laws.AppendOwn
import Derived.Laws.MakeOwn
import Derived.Laws.BytesString
import Derived.Lib.ConvBytes
import Derived.Lib.AppendStr
import Derived.MapKept
import Derived.DeepKeys3
import Derived.TacticsIn
import Derived.Sort.LoopGhostIn
import Derived.RangeFuncRecord
set_option linter.unusedVariables false
set_option linter.unusedSimpArgs false
section
section
set_option linter.unusedVariables false
namespace Vse
open Go
section
variable {P : Program} {g : G} {H : Heap} {w : World}
theorem reads_sub {F : Nat → Option Obj} {b off : Nat} {cs : List Value} (h : reads F ⟨b, off, none⟩ cs) (o n : Nat) : reads F ⟨b, off + o, none⟩ (seg cs o n) := by
 obtain ⟨_, cc, tt, fz, w1, w2⟩ := h
 refine ⟨rfl, cc, tt, fz, w1, fun i v hi => ?_⟩
 unfold seg at hi
 rw [List.getElem?_take] at hi
 split at hi
 ·rw [List.getElem?_drop] at hi
  have := w2 _ _ hi
  simp only at this ⊢
  rw [← this]; congr 1; omega
 ·cases hi
theorem sliceEl_spec {t e : TypeId} (h : sliceEl P t = some e) : P.underlying t = some (.slice e) := by
 unfold sliceEl at h
 split at h
 ·rename_i e' hu; simp only [Option.some.injEq] at h; subst h; exact hu
 ·cases h
theorem do_indexAddr (hI : HInv g H w) {t : TypeId} {vs : List AV} {r r2 : Value} (ha : argsRep g vs [r, r2]) {out : Out} {o o2 : Operand}
  (he : (c_indexAddr P t vs (shs H (shsOf (.indexAddr t o o2) vs))).eval = some out) : Done P g H w (do pure (.value (← Instr.indexAt t r r2))) out := by
 obtain ⟨a, a2, rfl, hr, hr2⟩ := argsRep2 ha
 unfold c_indexAddr at he
 split at he
 ·rename_i e p d k i heq
  simp only [List.cons.injEq, and_true] at heq
  obtain ⟨rfl, rfl⟩ := heq
  simp only [shsOf, shs] at he
  split at he
  ·rename_i n hn
   obtain ⟨el, hu⟩ := arrLen_spec hn
   split at he
   ·rename_i hc
    obtain ⟨hi, he⟩ := Tr.chk_some he
    have := Tr.ret_some he; subst this
    simp only [Bool.and_eq_true, beq_iff_eq] at hc
    obtain ⟨c2, c3⟩ := hc
    obtain ⟨st, hst⟩ := Option.isSome_iff_exists.1 c2
    rw [hst] at c3
    obtain ⟨s, hs, hpe⟩ := shAt_spec c3
    obtain ⟨b, off, s', h1, h2, rfl, h4⟩ := ptr_sh hI hr hs
    rw [hpe] at h4
    simp only [Option.some.injEq] at h4
    subst h4
    obtain ⟨sa, m, rfl, hsa⟩ := arr_sk hst hu
    have hr2 := (VRep_v (by simp)).1 hr2
    rw [TRep_int] at hr2
    obtain ⟨hr2, hr2x⟩ := hr2
    subst hr2
    obtain ⟨i0, i1⟩ := inArrK_spec hi hr2x
    have hq : poff (.arr n sa) [.idx] (i.toNat, ()) = some (i.toNat * sa.nc, sa) := by
     simp only [poff]
     rw [if_pos (by omega)]; rfl
    refine done_val hI (v := .pointer (some ⟨b, off + i.toNat * sa.nc, none⟩)) ?_ ?_
    ·simp only [Instr.indexAt, asIntOf, Sem.run_bind, Sem.run_pure, run_underlying hu, Result.andThen_ok, Instr.sureAddr]
     rw [if_pos ⟨i0, i1⟩]
     simp only [Sem.run_bind, run_sizeOf_sk hsa, Result.andThen_ok, Sem.run_pure, addr_add]
    ·refine ptr_mk hI hs h1 ?_ (s' := sa)
     rw [poff_snoc h2, hq]
     rfl
   ·exact (Tr.fail_some he).elim
  ·exact (Tr.fail_some he).elim
 ·rename_i q m a x k i heq
  simp only [List.cons.injEq, and_true] at heq
  obtain ⟨rfl, rfl⟩ := heq
  split at he
  ·rename_i n hn
   obtain ⟨el, hu⟩ := arrLen_spec hn
   split at he
   ·rename_i hc
    obtain ⟨hi, he⟩ := Tr.chk_some he
    have := Tr.ret_some he; subst this
    simp only [Bool.and_eq_true, beq_iff_eq, decide_eq_true_eq] at hc
    obtain ⟨rfl, c2⟩ := hc
    obtain ⟨sa, m', hsa', hsa⟩ := arr_sk c2 hu
    simp only [Sk.arr.injEq, true_and] at hsa'
    subst hsa'
    have hr2 := (VRep_v (by simp)).1 hr2
    rw [TRep_int] at hr2
    obtain ⟨hr2, hr2x⟩ := hr2
    subst hr2
    obtain ⟨i0, i1⟩ := inArrK_spec hi hr2x
    have hr := (VRep_v (by simp)).1 hr
    simp only [TRep, Ty.agg, Ty.sk, Sk.agg, Bool.false_eq_true, if_false, Rep] at hr
    obtain ⟨ad, cs, h1, ⟨h2, h2'⟩, h3⟩ := hr
    simp only [List.cons.injEq, and_true] at h1
    subst h1
    have hsp : ad.spot = none := by rcases h3 with h3 | ⟨_, h3⟩ <;> exact h3.1
    obtain ⟨b, off, sp⟩ := ad
    simp only at hsp
    subst hsp
    obtain ⟨r1, r2⟩ := repL_seg (fun x cs => Rep_length a x cs) (dflt a) h2' (i := i.toNat) (by omega)
    refine done_val hI (v := .pointer (some ⟨b, off + i.toNat * a.sk.nc, none⟩)) ?_ ?_
    ·simp only [Instr.indexAt, asIntOf, Sem.run_bind, Sem.run_pure, run_underlying hu, Result.andThen_ok, Instr.sureAddr]
     rw [if_pos ⟨i0, i1⟩]
     simp only [Sem.run_bind, run_sizeOf_sk hsa, Result.andThen_ok, Sem.run_pure, addr_add]
    ·refine (VRep_v (by simp)).2 ?_
     simp only [TRep, Ty.agg, Ty.sk, Sk.agg, Bool.false_eq_true, if_false, Rep]
     refine ⟨_, _, rfl, r1, ?_⟩
     rcases h3 with h3 | ⟨h0, h3⟩
     ·exact .inl (reads_sub h3 _ _)
     ·exact .inr ⟨h0, reads_sub h3 _ _⟩
   ·exact (Tr.fail_some he).elim
  ·exact (Tr.fail_some he).elim
 ·rename_i q f a x k i heq
  simp only [List.cons.injEq, and_true] at heq
  obtain ⟨rfl, rfl⟩ := heq
  split at he
  ·rename_i el hel
   have hu := sliceEl_spec hel
   split at he
   ·rename_i hsk
    obtain ⟨hi, he⟩ := Tr.chk_some he
    have := Tr.ret_some he; subst this
    simp only [beq_iff_eq] at hsk
    have hr2 := (VRep_v (by simp)).1 hr2
    rw [TRep_int] at hr2
    obtain ⟨hr2, _⟩ := hr2
    subst hr2
    simp only [inArr, Bool.and_eq_true, decide_eq_true_eq] at hi
    obtain ⟨i0, i1⟩ := hi
    have hr := (VRep_v (by simp)).1 hr
    simp only [TRep, Ty.agg, Ty.sk, Sk.agg, Bool.false_eq_true, if_false, Rep] at hr
    obtain ⟨pv, cap, h1, _, _, h4⟩ := hr
    simp only [List.cons.injEq, and_true] at h1
    subst h1
    obtain ⟨ad, vs, rfl, h2, h3⟩ := h4 (by rintro rfl; simp at i1; omega)
    have hsp : ad.spot = none := by rcases h3 with h3 | ⟨_, h3⟩ <;> exact h3.1
    obtain ⟨b, off, sp⟩ := ad
    simp only at hsp
    subst hsp
    obtain ⟨r1, r2⟩ := repL_seg (fun x cs => Rep_length a x cs) (dflt a) h2 (i := i.toNat) (by omega)
    refine done_val hI (v := .pointer (some ⟨b, off + i.toNat * a.sk.nc, none⟩)) ?_ ?_
    ·simp only [Instr.indexAt, asIntOf, Sem.run_bind, Sem.run_pure, run_underlying hu, Result.andThen_ok]
     rw [if_pos ⟨i0, i1⟩]
     simp only [Sem.run_bind, run_sizeOf_sk hsk, Result.andThen_ok, Sem.run_pure, addr_add]
    ·refine (VRep_v (by simp)).2 ?_
     simp only [TRep, Ty.agg, Ty.sk, Sk.agg, Bool.false_eq_true, if_false, Rep]
     refine ⟨_, _, rfl, r1, ?_⟩
     rcases h3 with h3 | ⟨h0, h3⟩
     ·exact .inl (reads_sub h3 _ _)
     ·exact .inr ⟨h0, reads_sub h3 _ _⟩
   ·exact (Tr.fail_some he).elim
  ·exact (Tr.fail_some he).elim
 ·rename_i e k x k' i heq
  simp only [List.cons.injEq, and_true] at heq
  obtain ⟨rfl, rfl⟩ := heq
  simp only [shsOf, shs] at he
  split at he
  ·rename_i el hel
   have hu := sliceEl_spec hel
   split at he
   ·rename_i g' s n hs
    simp only [List.cons.injEq, and_true] at hs
    split at he
    ·rename_i hc
     obtain ⟨hi, he⟩ := Tr.chk_some he
     have := Tr.ret_some he; subst this
     simp only [Bool.and_eq_true, decide_eq_true_eq, beq_iff_eq] at hc
     obtain ⟨rfl, hsk⟩ := hc
     have hr2 := (VRep_v (by simp)).1 hr2
     rw [TRep_int] at hr2
     obtain ⟨hr2, _⟩ := hr2
     subst hr2
     simp only [inArr, Bool.and_eq_true, decide_eq_true_eq] at hi
     obtain ⟨i0, i1⟩ := hi
     have hr := (VRep_v (by simp)).1 hr
     simp only [TRep, Ty.agg, Ty.sk, Sk.agg, Bool.false_eq_true, if_false, Rep, G.vcr, hI.sh, hs] at hr
     obtain ⟨_, _, hr⟩ := hr
     rcases hr trivial with ⟨_, h0, _⟩ | ⟨b, cap, h1, h2, h3, h4⟩
     ·omega
     simp only [List.cons.injEq, and_true] at h2
     subst h2
     refine done_val hI (v := .pointer (some ⟨b, i.toNat * s.nc, none⟩)) ?_ ?_
     ·simp only [Instr.indexAt, asIntOf, Sem.run_bind, Sem.run_pure, run_underlying hu, Result.andThen_ok]
      rw [if_pos ⟨i0, i1⟩]
      simp only [Sem.run_bind, run_sizeOf_sk hsk, Result.andThen_ok, Sem.run_pure, addr_add, Nat.zero_add]
     ·refine (VRep_v (by simp)).2 ?_
      simp only [TRep, Ty.agg, Ty.sk, Sk.agg, Bool.false_eq_true, if_false, Rep, G.vcr, hI.sh, hs]
      refine ⟨⟨_, rfl⟩, Nat.le_refl _, fun _ => ⟨b, i.toNat * s.nc, s, h1, ?_, rfl⟩⟩
      simp only [vpoff]
      rw [if_pos (by omega)]
      cases s <;> rfl
    ·exact (Tr.fail_some he).elim
   ·exact (Tr.fail_some he).elim
  ·exact (Tr.fail_some he).elim
 ·exact (Tr.fail_some he).elim
theorem do_index (hI : HInv g H w) {t : TypeId} {vs : List AV} {r r2 : Value} (ha : argsRep g vs [r, r2]) {out : Out}
  (he : (c_index P t vs).eval = some out) : Done P g H w (do pure (.value (← Instr.index t r r2))) out := by
 obtain ⟨a, a2, rfl, hr, hr2⟩ := argsRep2 ha
 unfold c_index at he
 split at he
 ·rename_i s k i heq
  simp only [List.cons.injEq, and_true] at heq
  obtain ⟨rfl, rfl⟩ := heq
  split at he
  ·rename_i hu
   obtain ⟨hi, he⟩ := Tr.chk_some he
   have := Tr.ret_some he; subst this
   have hr := (VRep_v (by simp)).1 hr
   have hr2 := (VRep_v (by simp)).1 hr2
   rw [TRep_str] at hr
   rw [TRep_int] at hr2
   obtain ⟨hr, _⟩ := hr
   obtain ⟨hr2, _⟩ := hr2
   subst hr; subst hr2
   simp only [inArr, Bool.and_eq_true, decide_eq_true_eq] at hi
   obtain ⟨i0, i1⟩ := hi
   have hlt : i.toNat < s.size := by omega
   have hlt' : i.toNat < s.data.size := hlt
   have hb : (s.data.getD i.toNat 0) = s.data[i.toNat] := by
    simp [Array.getD_eq_getD_getElem?, Array.getElem?_eq_getElem hlt']
   refine done_val hI (v := .int .u8 ((s.data.getD i.toNat 0).toNat : Int)) ?_ ((VRep_v (by simp)).2 (TRep_int.2 ⟨rfl, ?_⟩))
   ·rw [hb]
    simp only [Instr.index, asIntOf, Sem.run_bind, Sem.run_pure, run_underlying hu, Result.andThen_ok]
    have e1 : s[i.toNat]? = some (s.data[i.toNat]) := getElem?_pos s i.toNat hlt
    rw [if_pos i0, e1]
    rfl
   ·have := UInt8.toNat_lt (s.data.getD i.toNat 0)
    have h1 : IntKind.u8.min = 0 := by decide
    have h2 : IntKind.u8.max = 255 := by decide
    rw [inK_iff, h1, h2]
    omega
  ·exact (Tr.fail_some he).elim
 ·rename_i m a x k i heq
  simp only [List.cons.injEq, and_true] at heq
  obtain ⟨rfl, rfl⟩ := heq
  split at he
  ·rename_i n hn
   obtain ⟨el, hu⟩ := arrLen_spec hn
   split at he
   ·rename_i hc
    obtain ⟨hi, he⟩ := Tr.chk_some he
    have := Tr.ret_some he; subst this
    simp only [Bool.and_eq_true, beq_iff_eq, decide_eq_true_eq] at hc
    obtain ⟨rfl, c2⟩ := hc
    obtain ⟨sa, m', hsa', hsa⟩ := arr_sk c2 hu
    simp only [Sk.arr.injEq, true_and] at hsa'
    subst hsa'
    have hr2 := (VRep_v (by simp)).1 hr2
    rw [TRep_int] at hr2
    obtain ⟨hr2, hr2x⟩ := hr2
    subst hr2
    obtain ⟨i0, i1⟩ := inArrK_spec hi hr2x
    have hr := (VRep_v (by simp)).1 hr
    unfold TRep at hr
    rw [if_pos (show (Ty.arr n a).agg = true from rfl)] at hr
    obtain ⟨cs, rfl, h2, h2'⟩ := hr
    obtain ⟨r1, r2⟩ := repL_seg (fun x cs => Rep_length a x cs) (dflt a) h2' (i := i.toNat) (by omega)
    have hz : i.toNat * a.sk.nc + a.sk.nc ≤ cs.size := by
     have : a.sk.nc = a.nc := rfl
     rw [this]; simpa using r2
    obtain ⟨rv, hv1, hv2⟩ := run_part_sk hsa w cs (i.toNat * a.sk.nc) hz
    refine done_val hI (v := rv) ?_ ((VRep_v (Rep_ne r1)).2 (TRep_of_load r1 hv2))
    simp only [Instr.index, asIntOf, Sem.run_bind, Sem.run_pure, run_underlying hu, Result.andThen_ok]
    rw [if_pos ⟨i0, i1⟩]
    simp only [Sem.run_bind, run_sizeOf_sk hsa, Result.andThen_ok, hv1]
   ·exact (Tr.fail_some he).elim
  ·exact (Tr.fail_some he).elim
 ·exact (Tr.fail_some he).elim
theorem tupRep_get : ∀ {l : List TV} {vs : List Value} {i : Nat} {t : TV}, tupRep g l vs → l[i]? = some t → ∃ v, vs[i]? = some v ∧ TRep g t.T t.x v
 | [], vs, i, t, h, hi => by simp at hi
 | a :: l, vs, 0, t, ⟨v, r, h1, h2, h3⟩, hi => by
  simp only [List.getElem?_cons_zero, Option.some.injEq] at hi
  subst hi; subst h1
  exact ⟨v, by simp, h2⟩
 | a :: l, vs, i + 1, t, ⟨v, r, h1, h2, h3⟩, hi => by
  subst h1
  simp only [List.getElem?_cons_succ] at hi ⊢
  exact tupRep_get h3 hi
theorem do_extract (hI : HInv g H w) {i : Nat} {vs : List AV} {r : Value} (ha : argsRep g vs [r]) {out : Out}
  (he : (c_extract i vs).eval = some out) : Done P g H w (do pure (.value (← Instr.extract r i))) out := by
 obtain ⟨a, rfl, hr⟩ := argsRep1 ha
 unfold c_extract at he
 split at he
 ·rename_i l heq
  simp only [List.cons.injEq, and_true] at heq
  subst heq
  split at he
  ·rename_i t ht
   have := Tr.ret_some he; subst this
   obtain ⟨vs, rfl, hv⟩ := hr
   obtain ⟨v, hv1, hv2⟩ := tupRep_get hv ht
   refine done_val hI (v := v) ?_ (VRep_val hv2)
   have : vs[i]? = some v := by simpa using hv1
   simp [Instr.extract, this]
  ·exact (Tr.fail_some he).elim
 ·exact (Tr.fail_some he).elim
theorem do_builtin (hI : HInv g H w) {b : Builtin} {ats : Array TypeId} {t : TypeId} {cts : Array Bool} {vs : List AV} {rs : List Value} (ha : argsRep g vs rs) {out : Out}
  (he : (c_builtin b vs).eval = some out) : Done P g H w (builtin b ats t cts rs.toArray) out := by
 unfold c_builtin at he
 split at he
 ·rename_i k a k' c
  split at he
  ·rename_i hk
   subst hk
   obtain ⟨v1, r1, rfl, h1, v2, r2, rfl, h2, h3⟩ := ha
   simp only [argsRep] at h3
   subst h3
   have h1 := (VRep_v (by simp)).1 h1
   have h2 := (VRep_v (by simp)).1 h2
   rw [TRep_int] at h1 h2
   obtain ⟨h1, h1x⟩ := h1
   obtain ⟨h2, h2x⟩ := h2
   subst h1; subst h2
   split at he
   ·have := Tr.ret_some he; subst this
    refine done_val hI (v := .int k (maxI a c)) ?_ ((VRep_v (by simp)).2 (TRep_int.2 ⟨rfl, by unfold maxI; split <;> assumption⟩))
    simp [Builtin.max_, Builtin.max2, maxI]
   ·have := Tr.ret_some he; subst this
    refine done_val hI (v := .int k (minI a c)) ?_ ((VRep_v (by simp)).2 (TRep_int.2 ⟨rfl, by unfold minI; split <;> assumption⟩))
    simp [Builtin.min_, Builtin.min2, minI]
   ·exact (Tr.fail_some he).elim
  ·exact (Tr.fail_some he).elim
 ·exact (Tr.fail_some he).elim
theorem do_nilCheck (hI : HInv g H w) {vs : List AV} {r : Value} (ha : argsRep g vs [r]) {out : Out} {ρ : Operand → Value} {o : Oper} {x : Operand} (ho : o.op = .nilCheck x) (hx : ρ x = r)
  (he : (c_nilCheck vs).eval = some out) : Done P g H w (execOp ρ o) out := by
 obtain ⟨a, rfl, hr⟩ := argsRep1 ha
 have key : ∀ p, r = .pointer (some p) → VRep g out.1 r → out.2 = [] → Done P g H w (execOp ρ o) out := by
  rintro p rfl hv h0
  refine ⟨.value (.pointer (some p)), _, w, g, ?_, .inl rfl, G.le.refl g, by rw [h0]; exact hI, hv⟩
  simp [execOp, ho, hx]
 unfold c_nilCheck at he
 split at he
 ·rename_i e p d heq
  simp only [List.cons.injEq, and_true] at heq
  subst heq
  have := Tr.ret_some he; subst this
  have h0 := (VRep_v (by simp)).1 hr
  simp only [TRep, Ty.agg, Ty.sk, Sk.agg, Bool.false_eq_true, if_false, Rep] at h0
  obtain ⟨⟨v, hv⟩, h0⟩ := h0
  simp only [List.cons.injEq, and_true] at hv
  exact key _ hv hr rfl
 ·rename_i e k p d heq
  simp only [List.cons.injEq, and_true] at heq
  subst heq
  have := Tr.ret_some he; subst this
  have h0 := (VRep_v (by simp)).1 hr
  simp only [TRep, Ty.agg, Ty.sk, Sk.agg, Bool.false_eq_true, if_false, Rep] at h0
  obtain ⟨⟨v, hv⟩, h0⟩ := h0
  simp only [List.cons.injEq, and_true] at hv
  exact key _ hv hr rfl
 ·rename_i q a x heq
  simp only [List.cons.injEq, and_true] at heq
  subst heq
  have := Tr.ret_some he; subst this
  have h0 := (VRep_v (by simp)).1 hr
  simp only [TRep, Ty.agg, Ty.sk, Sk.agg, Bool.false_eq_true, if_false, Rep] at h0
  obtain ⟨ad, cs, h1, _⟩ := h0
  simp only [List.cons.injEq, and_true] at h1
  exact key _ h1 hr rfl
 ·exact (Tr.fail_some he).elim
end
end Vse
end
section
set_option linter.unusedVariables false
set_option linter.unusedSimpArgs false
namespace Vse
open Go
section
variable {P : Program} {g : G} {H : Heap} {w : World}
theorem sub_sh (hI : HInv g H w) {e : Nat} {p : List PS} {d : SubD p} {rv : Value} {s : Sk} (hv : VRep g (.v (.sub e p) d) rv) (hE : shp (getE H e) = .box s) :
  ∃ pv cap b off n a, g.bl e = some b ∧ poff s p d.at_ = some (off, .arr n a) ∧ rv = .slice pv d.len cap ∧ (d.len ≤ cap ∧ cap ≤ 9223372036854775807) ∧ (d.tt = true → cap = d.len) ∧ d.start + d.len ≤ n ∧ (d.len ≠ 0 → pv = some ⟨b, off + d.start * a.nc, none⟩) := by
 have hr := (VRep_v (by simp)).1 hv
 simp only [TRep, Ty.agg, Ty.sk, Sk.agg, Bool.false_eq_true, if_false, Rep] at hr
 obtain ⟨_, hr⟩ := hr
 unfold G.bxr at hr
 rw [hI.sh, hE] at hr
 obtain ⟨pv, cap, b, off, n, a, h1, h2, h3, h4⟩ := hr
 simp only [List.cons.injEq, and_true] at h3
 exact ⟨pv, cap, b, off, n, a, h1, h2, h3, h4⟩
theorem sub_mk (hI : HInv g H w) {e : Nat} {p : List PS} {d : SubD p} {s : Sk} {pv : Option Addr} {cap b off n : Nat} {a : Sk} (hE : shp (getE H e) = .box s) (h1 : g.bl e = some b) (h2 : poff s p d.at_ = some (off, .arr n a))
  (h3 : d.len ≤ cap ∧ cap ≤ 9223372036854775807) (h4 : d.tt = true → cap = d.len) (h5 : d.start + d.len ≤ n) (h6 : d.len ≠ 0 → pv = some ⟨b, off + d.start * a.nc, none⟩) : VRep g (.v (.sub e p) d) (.slice pv d.len cap) := by
 refine (VRep_v (by simp)).2 ?_
 simp only [TRep, Ty.agg, Ty.sk, Sk.agg, Bool.false_eq_true, if_false, Rep]
 refine ⟨⟨_, rfl, rfl⟩, ?_⟩
 unfold G.bxr
 rw [hI.sh, hE]
 exact ⟨pv, cap, b, off, n, a, h1, h2, rfl, h3, h4, h5, h6⟩
theorem repL_take' {α : Type} {R : α → List Value → Prop} {n : Nat} (hn : ∀ x cs, R x cs → cs.length = n) : ∀ {l : List α} {cs : List Value} (k : Nat), repL R l cs → repL R (l.take k) (cs.take (k * n))
 | l, cs, 0, h => by simp [repL]
 | [], cs, k + 1, h => by simp only [repL] at h; subst h; simp [repL]
 | x :: l, cs, k + 1, ⟨c1, c2, h1, h2, h3⟩ => by
  have e := hn _ _ h2
  refine ⟨c1, c2.take (k * n), ?_, h2, repL_take' hn k h3⟩
  rw [h1, Nat.add_mul, Nat.one_mul, List.take_append, List.take_of_length_le (by omega)]
  congr 2
  omega
theorem repL_drop' {α : Type} {R : α → List Value → Prop} {n : Nat} (hn : ∀ x cs, R x cs → cs.length = n) : ∀ {l : List α} {cs : List Value} (k : Nat), repL R l cs → repL R (l.drop k) (cs.drop (k * n))
 | l, cs, 0, h => by simpa using h
 | [], cs, k + 1, h => by simp only [repL] at h; subst h; simp [repL]
 | x :: l, cs, k + 1, ⟨c1, c2, h1, h2, h3⟩ => by
  have e := hn _ _ h2
  have := repL_drop' hn k h3
  have hd : c1.drop (k * n + n) = [] := List.drop_eq_nil_of_le (by omega)
  rw [List.drop_succ_cons, h1, Nat.add_mul, Nat.one_mul, List.drop_append, hd, List.nil_append]
  rwa [show k * n + n - c1.length = k * n by omega]
theorem arr_cells (hI : HInv g H w) {e : Nat} {T : Ty} {x : T.den} {p : List PS} {d : PD p} {m n off b : Nat} {a : Ty} {s : Sk} {l : List a.den} (hE : getE H e = .box T x) (hg : getP T x p d = some ⟨.arr m a, l⟩) (hb : g.bl e = some b) (hp : poff T.sk p d = some (off, .arr n s)) :
  ∃ cs tt fz us, w.heap[b]? = some (.cells cs tt fz) ∧ thawed cs fz ∧ Rep g T x cs.toList ∧ m = n ∧ a.sk = s ∧ l.length = n ∧ repL (Rep g a) l us ∧ us.length = n * s.nc ∧ us = seg cs.toList off (n * s.nc) ∧ off + n * s.nc ≤ cs.size := by
 have he := hI.ent e
 rw [hE] at he
 obtain ⟨b', cs, tt, fz, w1, w2, w3, w4⟩ := he
 rw [hb] at w1
 cases w1
 obtain ⟨p1, p2, p3⟩ := getP_rep T x p d cs.toList _ off _ w4 hg hp
 simp only [Ty.sk, Sk.arr.injEq] at p2
 obtain ⟨rfl, rfl⟩ := p2
 obtain ⟨q1, q2⟩ := p1
 have hnc : (Ty.arr m a).nc = m * a.sk.nc := rfl
 simp only at q2 p3
 rw [hnc] at q2 p3
 refine ⟨cs, tt, fz, _, w2, w3, w4, rfl, rfl, q1, q2, ?_, rfl, by simpa using p3⟩
 rw [repL_length (fun x cs => Rep_length a x cs) q2, q1]
 rfl
theorem seen_spec (hI : HInv g H w) {a : AV} {r : Value} (ha : VRep g a r) {T : Ty} {l : List T.den} (hs : seen a (ents H (vcOf a)) = some ⟨T, l⟩) :
  ∃ pv cap vs, r = .slice pv l.length cap ∧ l.length ≤ cap ∧ cap ≤ 9223372036854775807 ∧ repL (Rep g T) l vs ∧ (∀ ad, pv = some ad → ∀ j v, vs[j]? = some v → w.cell? (ad.add j) = some v) ∧ (pv = none → l = []) := by
 unfold seen at hs
 split at hs
 ·rename_i q f T' l'
  simp only [Option.some.injEq, Sigma.mk.injEq] at hs
  obtain ⟨rfl, hl⟩ := hs
  have hl := eq_of_heq hl
  subst hl
  have hr := (VRep_v (by simp)).1 ha
  simp only [TRep, Ty.agg, Ty.sk, Sk.agg, Bool.false_eq_true, if_false, Rep] at hr
  obtain ⟨pv, cap, h1, ⟨h2, h3⟩, _, h4⟩ := hr
  simp only [List.cons.injEq, and_true] at h1
  subst h1
  by_cases hl : l' = []
  ·subst hl
   exact ⟨pv, cap, [], rfl, h2, h3, rfl, by simp, fun _ => rfl⟩
  ·obtain ⟨ad, vs, rfl, h5, h6⟩ := h4 hl
   refine ⟨_, cap, vs, rfl, h2, h3, h5, ?_, by simp⟩
   rintro ad' hx j v hv
   cases hx
   have hrd : ∃ F, (∀ b o, F b = some o → w.heap[b]? = some o) ∧ reads F ad vs := by
    rcases h6 with h6 | ⟨_, h6⟩
    ·exact ⟨g.fr, hI.fr, h6⟩
    ·exact ⟨g.gr, hI.gr, h6⟩
   obtain ⟨F, hF, hsp, cs, tt, fz, hc, hcs⟩ := hrd
   obtain ⟨b, off, sp⟩ := ad
   simp only at hsp hc hcs
   subst hsp
   rw [addr_add]
   simp only [World.cell?, hF _ _ hc, Option.isSome_none, Bool.false_eq_true, if_false]
   exact hcs j v hv
 ·rename_i q T' l'
  simp only [Option.some.injEq, Sigma.mk.injEq] at hs
  obtain ⟨rfl, hl⟩ := hs
  have hl := eq_of_heq hl
  subst hl
  have hr := (VRep_v (by simp)).1 ha
  simp only [TRep, Ty.agg, Ty.sk, Sk.agg, Bool.false_eq_true, if_false, Rep] at hr
  obtain ⟨pv, h1, h3, h4⟩ := hr
  simp only [List.cons.injEq, and_true] at h1
  subst h1
  by_cases hl : l' = []
  ·subst hl
   exact ⟨pv, _, [], rfl, Nat.le_refl _, h3, rfl, by simp, fun _ => rfl⟩
  ·obtain ⟨ad, vs, rfl, h5, h6⟩ := h4 hl
   refine ⟨_, _, vs, rfl, Nat.le_refl _, h3, h5, ?_, by simp⟩
   rintro ad' hx j v hv
   cases hx
   have hrd : ∃ F, (∀ b o, F b = some o → w.heap[b]? = some o) ∧ reads F ad vs := by
    rcases h6 with h6 | ⟨_, h6⟩
    ·exact ⟨g.fr, hI.fr, h6⟩
    ·exact ⟨g.gr, hI.gr, h6⟩
   obtain ⟨F, hF, hsp, cs, tt, fz, hc, hcs⟩ := hrd
   obtain ⟨b, off, sp⟩ := ad
   simp only at hsp hc hcs
   subst hsp
   rw [addr_add]
   simp only [World.cell?, hF _ _ hc, Option.isSome_none, Bool.false_eq_true, if_false]
   exact hcs j v hv
 ·rename_i e p d
  simp only [vcOf, ents] at hs
  split at hs
  ·rename_i T' x hE
   simp only [List.cons.injEq, and_true] at hE
   split at hs
   ·rename_i m a l' hg
    simp only [Option.some.injEq, Sigma.mk.injEq] at hs
    obtain ⟨rfl, hl⟩ := hs
    have hl := eq_of_heq hl
    subst hl
    obtain ⟨pv, cap, b, off, n, s, h1, h2, rfl, h3, _, h5, h6⟩ := sub_sh hI ha (s := T'.sk) (by rw [hE]; rfl)
    obtain ⟨cs, tt, fz, us, q1, _, _, rfl, rfl, q4, q5, q6, q7, q8⟩ := arr_cells hI hE hg h1 h2
    have hlen : ((l'.drop d.start).take d.len).length = d.len := by rw [List.length_take, List.length_drop]; omega
    have hrep := repL_take' (fun x cs => Rep_length a x cs) d.len (repL_drop' (fun x cs => Rep_length a x cs) d.start q5)
    refine ⟨pv, cap, _, by rw [hlen], by rw [hlen]; exact h3.1, h3.2, hrep, ?_, ?_⟩
    ·rintro ad rfl j v hv
     by_cases h0 : d.len = 0
     ·rw [h0, Nat.zero_mul, List.take_zero] at hv; simp at hv
     have hpv := h6 h0
     simp only [Option.some.injEq] at hpv
     subst hpv
     rw [addr_add]
     simp only [World.cell?, q1, Option.isSome_none, Bool.false_eq_true, if_false]
     rw [q7] at hv
     have hnc : a.nc = a.sk.nc := rfl
     rw [hnc] at hv
     have hj : j < d.len * a.sk.nc := by
      have := (List.getElem?_eq_some_iff.1 hv).1
      rw [List.length_take] at this
      omega
     rw [List.getElem?_take_of_lt hj, List.getElem?_drop] at hv
     unfold seg at hv
     have hm : d.start * a.sk.nc + j < m * a.sk.nc := by
      have : (d.start + d.len) * a.sk.nc ≤ m * a.sk.nc := Nat.mul_le_mul_right _ h5
      rw [Nat.add_mul] at this
      omega
     rw [List.getElem?_take_of_lt hm, List.getElem?_drop] at hv
     rw [show off + d.start * a.sk.nc + j = off + (d.start * a.sk.nc + j) by omega]
     simpa using hv
    ·rintro rfl
     have h0 : d.len = 0 := by
      refine Decidable.byContradiction fun h => ?_
      have := h6 h
      cases this
     rw [h0, List.take_zero]
   ·cases hs
  ·cases hs
 ·rename_i e k _
  simp only [vcOf, ents] at hs
  split at hs
  ·rename_i k' T' l' hE
   simp only [List.cons.injEq, and_true] at hE
   split at hs
   ·rename_i hk
    subst hk
    simp only [Option.some.injEq, Sigma.mk.injEq] at hs
    obtain ⟨rfl, hl⟩ := hs
    have hl := eq_of_heq hl
    subst hl
    have hr := (VRep_v (by simp)).1 ha
    simp only [TRep, Ty.agg, Ty.sk, Sk.agg, Bool.false_eq_true, if_false, Rep, G.vcr, hI.sh, hE, shp] at hr
    obtain ⟨_, _, hr⟩ := hr
    have he := hI.ent e
    rw [hE] at he
    rcases hr trivial with ⟨h1, h2, pv0, h3⟩ | ⟨b, cap, h1, h2, h3, h4⟩
    ·simp only [List.cons.injEq, and_true] at h3
     subst h3
     have hl : l' = [] := List.eq_nil_of_length_eq_zero h2
     subst hl
     exact ⟨pv0, 0, [], rfl, by simp, by omega, rfl, by simp, fun _ => rfl⟩
    ·simp only [List.cons.injEq, and_true] at h2
     subst h2
     rcases he with ⟨q1, _⟩ | ⟨b', cs, t, fz, vs, rr, q1, q2, q3, q4, q5, q6, q7⟩
     ·rw [h1] at q1; cases q1
     rw [h1] at q1
     cases q1
     refine ⟨_, cap, vs, rfl, h3.1, h3.2, q6, ?_, by simp⟩
     rintro ad' hx j v hv
     cases hx
     rw [addr_add]
     simp only [World.cell?, q2, Option.isSome_none, Bool.false_eq_true, if_false, Nat.zero_add]
     have hj : j < vs.length := (List.getElem?_eq_some_iff.1 hv).1
     have : cs.toList[j]? = some v := by rw [q5, List.getElem?_append_left hj]; exact hv
     simpa using this
   ·cases hs
  ·cases hs
 ·rename_i e k d
  simp only [vcOf, ents] at hs
  split at hs
  ·rename_i k' T' l' hE
   simp only [List.cons.injEq, and_true] at hE
   split at hs
   ·rename_i hk
    subst hk
    simp only [Option.some.injEq, Sigma.mk.injEq] at hs
    obtain ⟨rfl, hl⟩ := hs
    have hl := eq_of_heq hl
    subst hl
    have hr := (VRep_v (by simp)).1 ha
    simp only [TRep, Ty.agg, Ty.sk, Sk.agg, Bool.false_eq_true, if_false, Rep, G.vcr, hI.sh, hE, shp] at hr
    obtain ⟨_, _, hr⟩ := hr
    obtain ⟨pv, cap, h1, h2, _, h4, h5⟩ := hr trivial
    simp only [List.cons.injEq, and_true] at h1
    subst h1
    have hlen : ((l'.drop d.start).take d.len).length = d.len := by rw [List.length_take, List.length_drop]; omega
    have he := hI.ent e
    rw [hE] at he
    by_cases h0 : d.len = 0
    ·refine ⟨pv, cap, [], by rw [hlen], by rw [hlen]; exact h2.1, h2.2, ?_, by simp, fun _ => List.eq_nil_of_length_eq_zero (by rw [hlen, h0])⟩
     rw [h0, List.take_zero]; rfl
    ·obtain ⟨b, hb, rfl⟩ := h5 h0
     rcases he with ⟨q1, _⟩ | ⟨b', cs, t, fz, vs, rr, q1, q2, q3, q4, q5, q6, q7⟩
     ·rw [hb] at q1; cases q1
     rw [hb] at q1
     cases q1
     have hnc : T'.nc = T'.sk.nc := rfl
     have hrep := repL_take' (fun x cs => Rep_length T' x cs) d.len (repL_drop' (fun x cs => Rep_length T' x cs) d.start q6)
     refine ⟨_, cap, _, by rw [hlen], by rw [hlen]; exact h2.1, h2.2, hrep, ?_, by simp⟩
     rintro ad' hx j v hv
     cases hx
     rw [addr_add]
     simp only [World.cell?, q2, Option.isSome_none, Bool.false_eq_true, if_false]
     have hj : j < d.len * T'.nc := by
      have := (List.getElem?_eq_some_iff.1 hv).1
      rw [List.length_take] at this
      omega
     rw [List.getElem?_take_of_lt hj, List.getElem?_drop, hnc] at hv
     have hjv : d.start * T'.sk.nc + j < vs.length := (List.getElem?_eq_some_iff.1 hv).1
     have : cs.toList[d.start * T'.sk.nc + j]? = some v := by rw [q5, List.getElem?_append_left hjv]; exact hv
     simpa using this
   ·cases hs
  ·cases hs
 ·cases hs
theorem inK_len {n : Nat} (h : n ≤ 9223372036854775807) : inK .i64 (n : Int) = true := by
 rw [inK_iff]
 have h1 : IntKind.i64.min = -9223372036854775808 := by decide
 have h2 : IntKind.i64.max = 9223372036854775807 := by decide
 rw [h1, h2]; omega
theorem do_len {fz : Bool} (hI : HInv g H w) {t : TypeId} {ats : Array TypeId} (hat : ats[0]? = some t) {ty : TypeId} {cts : Array Bool} {vs : List AV} {rs : List Value} (ha : argsRep g vs rs) {out : Out} {c : Call}
  (hc : ∃ args at', c = { callee := .builtin .len, args := args, argTypes := at' })
  (he : (c_len P t vs (ents H (idsOf fz (.call c) vs))).eval = some out) : Done P g H w (builtin .len ats ty cts rs.toArray) out := by
 obtain ⟨cargs, at', rfl⟩ := hc
 have hb : builtin .len ats ty cts rs.toArray = (do pure (.value (← Builtin.len_ ats ty rs.toArray)) : Sem Next) := rfl
 rw [hb]
 unfold c_len at he
 split at he
 ·rename_i s
  obtain ⟨v, r, rfl, hv, hr⟩ := ha
  simp only [argsRep] at hr
  subst hr
  split at he
  ·rename_i hu
   have := Tr.ret_some he; subst this
   have hv := (VRep_v (by simp)).1 hv
   rw [TRep_str] at hv
   obtain ⟨rfl, hs⟩ := hv
   refine done_val hI (v := .int .i64 (s.size : Int)) ?_ ((VRep_v (by simp)).2 (TRep_int.2 ⟨rfl, inK_len hs⟩))
   simp [Builtin.len_, hat, run_underlying hu, goInt]
  ·exact (Tr.fail_some he).elim
 ·rename_i x
  obtain ⟨v, r, rfl, hv, hr⟩ := ha
  simp only [argsRep] at hr
  subst hr
  split at he
  ·rename_i e hel
   have := Tr.ret_some he; subst this
   have hu := sliceEl_spec hel
   have hv := (VRep_v (by simp)).1 hv
   simp only [TRep, Ty.agg, Ty.sk, Sk.agg, Bool.false_eq_true, if_false, Rep, List.cons.injEq, and_true] at hv
   subst hv
   refine done_val hI (v := .int .i64 (0 : Int)) ?_ ((VRep_v (by simp)).2 (TRep_int.2 ⟨rfl, inK_zero _⟩))
   simp [Builtin.len_, hat, run_underlying hu, goInt]
  ·exact (Tr.fail_some he).elim
 ·rename_i x _ _
  obtain ⟨v, r, rfl, hv, hr⟩ := ha
  simp only [argsRep] at hr
  subst hr
  split at he
  ·rename_i e hel
   have hu := sliceEl_spec hel
   split at he
   ·rename_i T l hs
    have := Tr.ret_some he; subst this
    simp only [idsOf] at hs
    obtain ⟨pv, cap, us, rfl, h2, h3, _⟩ := seen_spec hI hv hs
    refine done_val hI (v := .int .i64 (l.length : Int)) ?_ ((VRep_v (by simp)).2 (TRep_int.2 ⟨rfl, inK_len (by omega)⟩))
    simp [Builtin.len_, hat, run_underlying hu, goInt]
   ·exact (Tr.fail_some he).elim
  ·exact (Tr.fail_some he).elim
 ·exact (Tr.fail_some he).elim
theorem elBytes_spec {t : TypeId} {n : Nat} (h : elBytes P t = some n) : ∃ e i z, P.underlying t = some (.slice e) ∧ P.info? e = some i ∧ i.zero = some z ∧ z.cells.size = i.size ∧ i.bytes = n ∧ (n ≠ 0 ∧ n ≤ 1073741824) ∧ ∀ v ∈ z.cells.toList, v.oneCell' = true := by
 unfold elBytes at h
 split at h
 ·rename_i e hel
  split at h
  ·rename_i i hi
   split at h
   ·rename_i z hz
    split at h
    ·rename_i hc
     simp only [Option.some.injEq] at h
     subst h
     simp only [Bool.and_eq_true, decide_eq_true_eq, Array.all_eq_true] at hc
     refine ⟨e, i, z, sliceEl_spec hel, hi, hz, hc.1, rfl, ⟨hc.2.1, hc.2.2.1⟩, fun v hv => ?_⟩
     obtain ⟨j, hj, rfl⟩ := List.mem_iff_getElem.1 hv
     exact hc.2.2.2 j (by simpa using hj)
    ·cases h
   ·cases h
  ·cases h
 ·cases h
theorem elOk_spec {t e : TypeId} {a : Ty} (h : elOk P t a = true) (hu : P.underlying t = some (.slice e)) : sk? P e = some a.sk ∧ 0 < a.nc := by
 unfold elOk sliceEl at h
 rw [hu] at h
 simp only [Bool.and_eq_true, beq_iff_eq, decide_eq_true_eq] at h
 exact ⟨h.1, by omega⟩
theorem zero_one {z : Array Value} (hz : ∀ v ∈ z.toList, v.oneCell' = true) (h0 : 0 < z.size) (n : Nat) : ∀ v ∈ (Builtin.zeroCells z n).toList, v.oneCell' = true := by
 intro v hv
 simp only [Builtin.zeroCells, Array.toList_map, List.mem_map] at hv
 obtain ⟨i, _, rfl⟩ := hv
 have hm := Nat.mod_lt i h0
 rw [getElem!_pos z _ hm]
 exact hz _ (Array.getElem_mem_toList hm)
theorem repL_append {α : Type} {R : α → List Value → Prop} : ∀ {l m : List α} {cs ds : List Value}, repL R l cs → repL R m ds → repL R (l ++ m) (cs ++ ds)
 | [], m, cs, ds, h, h' => by simp only [repL] at h; subst h; exact h'
 | x :: l, m, cs, ds, ⟨c1, c2, h1, h2, h3⟩, h' => ⟨c1, c2 ++ ds, by rw [h1, List.append_assoc], h2, repL_append h3 h'⟩
theorem vc_rep {g : G} {e k n b cap : Nat} {s : Sk} (hs : g.sh e = .vec k s n) (hb : g.bl e = some b) (h1 : n ≤ cap) (h2 : cap ≤ 9223372036854775807) (h3 : cap * s.nc ≤ g.sz e) :
  VRep g (.v (.vc e k) ()) (.slice (some ⟨b, 0, none⟩) n cap) := by
 refine (VRep_v (by simp)).2 ?_
 simp only [TRep, Ty.agg, Ty.sk, Sk.agg, Bool.false_eq_true, if_false, Rep, G.vcr, hs]
 exact ⟨⟨_, rfl, rfl⟩, Nat.le_refl _, fun _ => .inr ⟨b, cap, hb, rfl, ⟨h1, h2⟩, h3⟩⟩
theorem vc_rep_nil {g : G} {e k : Nat} {s : Sk} (hs : g.sh e = .vec k s 0) (hb : g.bl e = none) {pv : Option Addr} : VRep g (.v (.vc e k) ()) (.slice pv 0 0) := by
 refine (VRep_v (by simp)).2 ?_
 simp only [TRep, Ty.agg, Ty.sk, Sk.agg, Bool.false_eq_true, if_false, Rep, G.vcr, hs]
 exact ⟨⟨_, rfl, rfl⟩, Nat.le_refl _, fun _ => .inl ⟨hb, trivial, pv, rfl⟩⟩
theorem HInv.nilVec {g : G} {H : Heap} {w : World} (h : HInv g H w) {e k : Nat} {a : Ty} (hlt : e < H.length) (hf : getE H e = .free ∨ ∃ k0 a0 l0, getE H e = .vec k0 a0 l0 ∧ k0 < k) :
  ∃ g', g.le g' ∧ HInv g' (setE H e (.vec k a [])) w ∧ g'.sh e = .vec k a.sk 0 ∧ g'.bl e = none := by
 have hle : g.le (g.put e (shp (.vec k a [])) none 0) := by
  refine G.put_le ?_
  rcases hf with hf | ⟨k0, a0, l0, hf, hk⟩
  ·exact .new (by rw [h.sh, hf]; rfl)
  ·exact .grew (k := k0) (s := a0.sk) (n := l0.length) (s' := a.sk) (n' := 0) (by rw [h.sh, hf]; rfl) (by simp [G.put, shp]) hk
 refine ⟨_, hle, h.turn hlt hle (fun b' o _ ho => ho) (.inl ⟨by simp [G.put], rfl⟩) (by simp) (by simp) h.ext, by simp [G.put, shp], by simp [G.put]⟩
theorem run_append_empty {t ty e : TypeId} {i : TypeInfo} (ht : P.underlying t = some (.slice e)) (hi : P.info? e = some i) (base : Option Addr) (n cap : Nat) (hn : n ≤ cap) (pv : Option Addr) (c : Nat) (w : World) :
  (Builtin.append_ #[t, t] ty #[.slice base n cap, .slice pv 0 c]).run P w = .ok (.slice base n cap) w := by
 cases pv with
 | none =>
  cases base with
  | none => simp [Builtin.append_, run_underlying ht, Go.sizeOf, typeInfo, hi, Builtin.lenOf, hn, Builtin.firstCells]
  | some a => simp [Builtin.append_, run_underlying ht, Go.sizeOf, typeInfo, hi, Builtin.lenOf, hn, Builtin.firstCells, storeCells]
 | some b =>
  cases base with
  | none => simp [Builtin.append_, run_underlying ht, Go.sizeOf, typeInfo, hi, Builtin.lenOf, hn, Builtin.firstCells, loadCells, loadCellsFrom]
  | some a => simp [Builtin.append_, run_underlying ht, Go.sizeOf, typeInfo, hi, Builtin.lenOf, hn, Builtin.firstCells, loadCells, loadCellsFrom, storeCells]
theorem run_append_in (w : World) (t ty e : TypeId) (i : TypeInfo) (ht : P.underlying t = some (.slice e)) (hi : P.info? e = some i)
  (b sLen sCap : Nat) (cur : Array Value) (tt : TypeId) (fz : Nat × Nat) (hg : w.heap[b]? = some (.cells cur tt fz)) (hth : thawed cur fz)
  (a : Addr) (m c : Nat) (news : List Value) (hl : news.length = m * i.size) (hnews : ∀ j u, news[j]? = some u → w.cell? (a.add j) = some u) (h1 : ∀ u ∈ news, u.oneCell' = true)
  (hroom : sLen + m ≤ sCap) (hfit : sLen * i.size + news.length ≤ cur.size) :
  (Builtin.append_ #[t, t] ty #[.slice (some ⟨b, 0, none⟩) sLen sCap, .slice (some a) m c]).run P w = .ok (.slice (some ⟨b, 0, none⟩) (sLen + m) sCap) (w.setRow b (splice cur.toList (sLen * i.size) news).toArray) := by
 have hf := run_firstCells_some (P := P) w i.size m a m c news hl hnews
 have hst := run_storeCells_thaw (P := P) b (sLen * i.size) tt fz news 0 cur w hg hth (by simpa using hfit) h1
 simp only [Nat.add_zero] at hst
 simp [Builtin.append_, run_underlying ht, Go.sizeOf, typeInfo, hi, Builtin.lenOf, hroom, hf, Addr.add_lit, hst]
def appIds : List AV → List Nat
 | [s, x] => vcOf s ++ vcOf x
 | _ => []
theorem growBy_le (need : Nat) : ∀ (k c : Nat), Builtin.growBy need k c ≤ max c (need + (need + 768) / 4)
 | 0, c => Nat.le_max_left _ _
 | k + 1, c => by
  simp only [Builtin.growBy]
  split
  ·exact Nat.le_max_left _ _
  ·have := growBy_le need k (c + (c + 768) / 4)
   omega
theorem nextcap_le {need old : Nat} (h : old < need) : Builtin.nextslicecap need old ≤ need + need / 4 + 512 := by
 unfold Builtin.nextslicecap
 split
 ·omega
 ·split
  ·omega
  ·have := growBy_le need 4 old
   omega
theorem grow_fits {need old bytes : Nat} (h : old < need) (hb : need * bytes ≤ 180000000000000) (h1 : bytes ≤ 1073741824) : Builtin.nextslicecap need old * bytes ≤ 281474976710656 := by
 have h2 : Builtin.nextslicecap need old * bytes ≤ (need + need / 4 + 512) * bytes := Nat.mul_le_mul_right _ (nextcap_le h)
 have h3 : need / 4 * bytes ≤ need * bytes / 4 := by
  rw [Nat.le_div_iff_mul_le (by decide)]
  have : need / 4 * bytes * 4 = need / 4 * 4 * bytes := by rw [Nat.mul_assoc, Nat.mul_comm bytes 4, ← Nat.mul_assoc]
  rw [this]
  exact Nat.mul_le_mul_right _ (Nat.div_mul_le_self _ _)
 rw [Nat.add_mul, Nat.add_mul] at h2
 have h4 : 512 * bytes ≤ 512 * 1073741824 := Nat.mul_le_mul_left _ h1
 omega
theorem ents_app (H : Heap) : ∀ (l m : List Nat), (ents H (l ++ m)).take l.length = ents H l ∧ (ents H (l ++ m)).drop l.length = ents H m
 | [], m => ⟨rfl, rfl⟩
 | i :: l, m => by
  obtain ⟨h1, h2⟩ := ents_app H l m
  simp only [List.cons_append, ents, List.length_cons, List.take_succ_cons, List.drop_succ_cons]
  exact ⟨by rw [h1], h2⟩
theorem tight_spec (hI : HInv g H w) {s : AV} {v : Value} (hv : VRep g s v) {a : Ty} {l : List a.den} (h : tight s (ents H (vcOf s)) = some ⟨a, l⟩) : seen s (ents H (vcOf s)) = some ⟨a, l⟩ ∧ ∃ pv n, v = .slice pv n n := by
 unfold tight at h
 split at h
 ·refine ⟨h, ?_⟩
  have hr := (VRep_v (by simp)).1 hv
  simp only [TRep, Ty.agg, Ty.sk, Sk.agg, Bool.false_eq_true, if_false, Rep] at hr
  obtain ⟨pv, h1, _⟩ := hr
  simp only [List.cons.injEq, and_true] at h1
  exact ⟨pv, _, h1⟩
 ·rename_i e p d
  split at h
  ·rename_i htt
   refine ⟨h, ?_⟩
   have h' := h
   unfold seen at h'
   simp only [vcOf, ents] at h'
   split at h'
   ·rename_i T x hE
    simp only [List.cons.injEq, and_true] at hE
    obtain ⟨pv, cap, b, off, n, s, h1, h2, rfl, h3, h4, _⟩ := sub_sh hI hv (s := T.sk) (by rw [hE]; rfl)
    rw [h4 htt]
    exact ⟨_, _, rfl⟩
   ·cases h'
  ·cases h
 ·cases h
theorem do_appT (hI : HInv g H w) {t ty : TypeId} {by_ : Nat} (hby : elBytes P t = some by_) {s x : AV} {v1 v2 : Value} (hv1 : VRep g s v1) (hv2 : VRep g x v2) {fr : Nat} (hfr : getE H fr = .free ∧ fr < H.length) {out : Out}
  (he : (c_appT P t by_ s x (ents H (appIds [s, x])) fr).eval = some out) :
  ∃ rv w' g', (Builtin.append_ #[t, t] ty #[v1, v2]).run P w = .ok rv w' ∧ g.le g' ∧ HInv g' (upd H out.2) w' ∧ VRep g' out.1 rv := by
 obtain ⟨el, i, z, hu, hi, hz, hzs, rfl, ⟨hb0, hb1⟩, hz1⟩ := elBytes_spec hby
 unfold c_appT at he
 simp only [appIds, ents_app] at he
 split at he
 ·rename_i a l ht
  obtain ⟨hs, pv1, n1, hv⟩ := tight_spec hI hv1 ht
  obtain ⟨pv0, cap1, ls, hv0, h2, h3, h4, h5, h6⟩ := seen_spec hI hv1 hs
  rw [hv] at hv0
  simp only [Value.slice.injEq] at hv0
  obtain ⟨rfl, rfl, rfl⟩ := hv0
  subst hv
  split at he
  ·rename_i hel
   obtain ⟨hsk, hnc⟩ := elOk_spec hel hu
   obtain ⟨i', hi', hsz, _⟩ := skOf_spec hsk
   rw [hi] at hi'
   simp only [Option.some.injEq] at hi'
   subst hi'
   split at he
   ·rename_i hn
    have := Tr.ret_some he; subst this
    have hx : v2 = .slice none 0 0 := by
     unfold isNils at hn
     split at hn
     ·have hv2 := (VRep_v (by simp)).1 hv2
      simpa only [TRep, Ty.agg, Ty.sk, Sk.agg, Bool.false_eq_true, if_false, Rep, List.cons.injEq, and_true] using hv2
     ·cases hn
    subst hx
    exact ⟨_, w, g, run_append_empty hu hi pv1 _ _ (Nat.le_refl _) none 0 w, G.le.refl g, hI, hv1⟩
   ·split at he
    ·rename_i y hsx
     split at he
     ·rename_i m hm
      obtain ⟨a2, m2⟩ := y
      unfold castL at hm
      simp only at hm
      split at hm
      ·rename_i heq
       subst heq
       simp only [Option.some.injEq] at hm
       subst hm
       obtain ⟨pv, xcap, us, rfl, k2, k3, k4, k5, k6⟩ := seen_spec hI hv2 hsx
       rcases Tr.ite_some he with ⟨h0, he⟩ | ⟨h0, he⟩
       ·have := Tr.ret_some he; subst this
        have h0 : m2.length = 0 := of_decide_eq_true h0
        rw [h0]
        exact ⟨_, w, g, run_append_empty hu hi pv1 _ _ (Nat.le_refl _) pv xcap w, G.le.refl g, hI, hv1⟩
       ·have h0 : m2.length ≠ 0 := of_decide_eq_false h0
        obtain ⟨hroom, he⟩ := Tr.chk_some he
        have := Tr.ret_some he; subst this
        simp only [room, decide_eq_true_eq] at hroom
        have hul : us.length = m2.length * i.size := by rw [hsz]; exact repL_length (fun x cs => Rep_length a2 x cs) k4
        have hll : ls.length = l.length * i.size := by rw [hsz]; exact repL_length (fun x cs => Rep_length a2 x cs) h4
        have hsmall : l.length + m2.length ≤ 180000000000000 := by
         have : (l.length + m2.length) * 1 ≤ (l.length + m2.length) * i.bytes := Nat.mul_le_mul_left _ (by omega)
         omega
        cases pv with
        | none => exact absurd (by rw [k6 rfl]; rfl) h0
        | some ad =>
         cases pv1 with
         | none =>
          have hl := h6 rfl
          subst hl
          have hbytes : m2.length * i.bytes ≤ 281474976710656 := by simp only [List.length_nil, Nat.zero_add] at hroom; omega
          have hrun := run_append_nil (P := P) w t ty el i z hu hi hz ad m2.length xcap us hul (k5 ad rfl) (by omega) (by omega) hbytes
          obtain ⟨g', q1, q2, q3, q4, q5⟩ := hI.newVec (w1 := w.drew) hfr.1 hfr.2 0 (a := a2) (l := [] ++ m2) (cs := us.toArray ++ Builtin.zeroCells z.cells (grownCap w m2.length 0 el - m2.length)) (vs := us)
           (r := (Builtin.zeroCells z.cells (grownCap w m2.length 0 el - m2.length)).toList) el rfl (Goes.drew _) (by simp) k4 (zero_one hz1 (by rw [hzs, hsz]; exact hnc) _)
          refine ⟨_, _, g', hrun, q1, q2, ?_⟩
          have hge := grownCap_ge w m2.length 0 el
          have hle := grownCap_le_maxLen w m2.length 0 el (by simp only [maxLen]; omega)
          refine vc_rep q3 q4 hge (by simpa [maxLen] using hle) ?_
          rw [q5]
          simp only [Array.size_append, List.size_toArray, size_zeroCells, hul, hzs, hsz, ← Nat.add_mul]
          exact Nat.mul_le_mul_right _ (by omega)
         | some ad1 =>
          have hrun := run_append_grow (P := P) w t ty el i z hu hi hz ad1 l.length l.length ls hll (h5 ad1 rfl) ad m2.length xcap us hul (k5 ad rfl) (by omega) (by omega) (grow_fits (by omega) hroom hb1)
          obtain ⟨g', w1, w2, w3, w4, w5⟩ := hI.newVec (w1 := w.drew) hfr.1 hfr.2 0 (a := a2) (l := l ++ m2) (cs := ls.toArray ++ us.toArray ++ Builtin.zeroCells z.cells (grownCap w (l.length + m2.length) l.length el - (l.length + m2.length))) (vs := ls ++ us)
           (r := (Builtin.zeroCells z.cells (grownCap w (l.length + m2.length) l.length el - (l.length + m2.length))).toList) el rfl (Goes.drew _) (by simp) (repL_append h4 k4) (zero_one hz1 (by rw [hzs, hsz]; exact hnc) _)
          refine ⟨_, _, g', hrun, w1, w2, ?_⟩
          have hge := grownCap_ge w (l.length + m2.length) l.length el
          have hle := grownCap_le_maxLen w (l.length + m2.length) l.length el (by simp only [maxLen]; omega)
          have := vc_rep w3 w4 (cap := grownCap w (l.length + m2.length) l.length el) (by simpa using hge) (by simpa [maxLen] using hle) (by
           rw [w5]
           simp only [Array.size_append, List.size_toArray, size_zeroCells, hul, hll, hzs, hsz, ← Nat.add_mul]
           exact Nat.mul_le_mul_right _ (by omega))
          simpa using this
      ·cases hm
     ·exact (Tr.fail_some he).elim
    ·exact (Tr.fail_some he).elim
  ·exact (Tr.fail_some he).elim
 ·exact (Tr.fail_some he).elim
theorem isStr_spec {t : TypeId} (h : isStr P t = true) : P.underlying t = some .string := by
 unfold isStr at h
 split at h
 ·assumption
 ·cases h
theorem strBytes_len (x : ByteArray) : (strBytes x).length = x.size := by simp [strBytes]
theorem strBytes_rep {g' : G} (x : ByteArray) : repL (Rep g' (.int .u8)) (strBytes x) (Go.Lib.strCells x) := by
 have : ∀ l : List UInt8, repL (Rep g' (.int .u8)) (l.map fun b => (b.toNat : Int)) (l.map fun b => Value.int .u8 b.toNat) := by
  intro l
  induction l with
  | nil => rfl
  | cons b l ih =>
   refine ⟨[.int .u8 b.toNat], _, rfl, ⟨rfl, ?_⟩, ih⟩
   have := UInt8.toNat_lt b
   have h1 : IntKind.u8.min = 0 := by decide
   have h2 : IntKind.u8.max = 255 := by decide
   simp only [inK, h1, h2, Bool.and_eq_true, decide_eq_true_eq]
   omega
 exact this x.data.toList
theorem run_append_str0 {t u ty e : TypeId} {i : TypeInfo} (ht : P.underlying t = some (.slice e)) (hu : P.underlying u = some .string) (hi : P.info? e = some i) (base : Option Addr) (n cap : Nat) (hn : n ≤ cap) (s : ByteArray) (hs : s.size = 0) (w : World) :
  (Builtin.append_ #[t, u] ty #[.slice base n cap, .string s]).run P w = .ok (.slice base n cap) w := by
 have hf := Go.Lib.run_firstCells_string (P := P) w i.size s
 rw [hs] at hf
 have h0 : Go.Lib.strCells s = [] := List.eq_nil_of_length_eq_zero (by rw [Go.Lib.strCells_length, hs])
 rw [h0] at hf
 cases base with
 | none => simp [Builtin.append_, run_underlying ht, run_underlying hu, Go.sizeOf, typeInfo, hi, Builtin.lenOf, hn, hs, hf]
 | some a => simp [Builtin.append_, run_underlying ht, run_underlying hu, Go.sizeOf, typeInfo, hi, Builtin.lenOf, hn, hs, hf, storeCells]
theorem run_append_inS (w : World) (t u ty e : TypeId) (i : TypeInfo) (ht : P.underlying t = some (.slice e)) (hu : P.underlying u = some .string) (hi : P.info? e = some i)
  (b sLen sCap : Nat) (cur : Array Value) (tt : TypeId) (fz : Nat × Nat) (hg : w.heap[b]? = some (.cells cur tt fz)) (hth : thawed cur fz) (s : ByteArray)
  (hroom : sLen + s.size ≤ sCap) (hfit : sLen * i.size + (Go.Lib.strCells s).length ≤ cur.size) :
  (Builtin.append_ #[t, u] ty #[.slice (some ⟨b, 0, none⟩) sLen sCap, .string s]).run P w = .ok (.slice (some ⟨b, 0, none⟩) (sLen + s.size) sCap) (w.setRow b (splice cur.toList (sLen * i.size) (Go.Lib.strCells s)).toArray) := by
 have hf := Go.Lib.run_firstCells_string (P := P) w i.size s
 have hst := run_storeCells_thaw (P := P) b (sLen * i.size) tt fz (Go.Lib.strCells s) 0 cur w hg hth (by simpa using hfit) (Go.Lib.strCells_oneCell s)
 simp only [Nat.add_zero] at hst
 simp [Builtin.append_, run_underlying ht, run_underlying hu, Go.sizeOf, typeInfo, hi, Builtin.lenOf, hroom, hf, Addr.add_lit, hst]
theorem do_appStr (hI : HInv g H w) {t t2 ty : TypeId} {s x : AV} {v1 v2 : Value} (hv1 : VRep g s v1) (hv2 : VRep g x v2) {out : Out}
  (he : (c_appStr P t t2 s x (ents H (appIds [s, x]))).eval = some out) :
  ∃ rv w' g', (Builtin.append_ #[t, t2] ty #[v1, v2]).run P w = .ok rv w' ∧ g.le g' ∧ HInv g' (upd H out.2) w' ∧ VRep g' out.1 rv := by
 unfold c_appStr at he
 split at he
 ·rename_i by_ hby
  obtain ⟨el, i, z, hu, hi, hz, hzs, rfl, ⟨hb0, hb1⟩, hz1⟩ := elBytes_spec hby
  split at he
  ·rename_i e k ue
   split at he
   ·rename_i b
    simp only [appIds, vcOf, List.append_nil, ents] at he
    split at he
    ·rename_i k' l hE
     simp only [List.cons.injEq, and_true] at hE
     have hlive : (getE H e).live = true := by rw [hE]; rfl
     have hlt := lt_of_live hlive
     split at he
     ·rename_i hc
      simp only [Bool.and_eq_true, decide_eq_true_eq] at hc
      obtain ⟨rfl, hel, hstr⟩ := hc
      have hu2 := isStr_spec hstr
      obtain ⟨hroom, he⟩ := Tr.chk_some he
      have := Tr.ret_some he; subst this
      obtain ⟨g1, hnc⟩ := elOk_spec hel hu
      obtain ⟨i', hi', hsz, _⟩ := skOf_spec g1
      rw [hi] at hi'
      simp only [Option.some.injEq] at hi'
      subst hi'
      have hv2 := (VRep_v (by simp)).1 hv2
      simp only [TRep, Ty.agg, Ty.sk, Sk.agg, Bool.false_eq_true, if_false, Rep, List.cons.injEq, and_true] at hv2
      obtain ⟨rfl, hb63⟩ := hv2
      have hsh : g.sh e = .vec k (Ty.int .u8).sk l.length := by rw [hI.sh, hE]; rfl
      have hv1 := (VRep_v (by simp)).1 hv1
      simp only [TRep, Ty.agg, Ty.sk, Sk.agg, Bool.false_eq_true, if_false, Rep, G.vcr, hsh] at hv1
      obtain ⟨_, _, hv1⟩ := hv1
      have h4 : repL (Rep g (.int .u8)) (strBytes b) (Go.Lib.strCells b) := strBytes_rep b
      have hml := strBytes_len b
      simp only [room, decide_eq_true_eq, hml] at hroom
      have hul : (Go.Lib.strCells b).length = b.size * i.size := by rw [hsz, Go.Lib.strCells_length]; exact (Nat.mul_one _).symm
      have hsmall : l.length + b.size ≤ 180000000000000 := by
       have : (l.length + b.size) * 1 ≤ (l.length + b.size) * i.bytes := Nat.mul_le_mul_left _ (by omega)
       omega
      have hx : b.data.map (fun c => Value.int IntKind.u8 (c.toNat : Int)) = (Go.Lib.strCells b).toArray := by
       apply Array.ext'
       simp [Go.Lib.strCells]
      rcases hv1 trivial with ⟨hbn, hl0, pv1, hh⟩ | ⟨b1, cap, hb, hh, ⟨hcap, hcm⟩, hcz⟩
      ·simp only [List.cons.injEq, and_true] at hh
       subst hh
       have hl : l = [] := List.eq_nil_of_length_eq_zero hl0
       subst hl
       by_cases hm0 : b.size = 0
       ·have hs0 : strBytes b = [] := List.eq_nil_of_length_eq_zero (by rw [hml, hm0])
        obtain ⟨g', q1, q2, q3, q4⟩ := hI.nilVec (k := k + 1) (a := .int .u8) hlt (.inr ⟨k, .int .u8, [], hE, Nat.lt_succ_self k⟩)
        refine ⟨_, w, g', run_append_str0 hu hu2 hi pv1 0 0 (Nat.le_refl _) b hm0 w, q1, ?_, vc_rep_nil q3 q4⟩
        rw [hs0]
        exact q2
       ·cases pv1 with
        | none =>
         have hbytes : b.size * i.bytes ≤ 281474976710656 := by simp only [List.length_nil, Nat.zero_add] at hroom; omega
         have hrun := run_append_nil_string (P := P) w t t2 ty el i z hu hu2 hi hz b (by omega) (by omega) hbytes
         rw [hx] at hrun
         obtain ⟨g', q1, q2, q3, q4, q5⟩ := hI.growVec (w1 := w.drew) (k' := k + 1) (l' := [] ++ strBytes b) hE (Nat.lt_succ_self k) (cs := (Go.Lib.strCells b).toArray ++ Builtin.zeroCells z.cells (grownCap w b.size 0 el - b.size)) (vs := Go.Lib.strCells b)
          (r := (Builtin.zeroCells z.cells (grownCap w b.size 0 el - b.size)).toList) el rfl (Goes.drew _) (by simp) h4 (zero_one hz1 (by rw [hzs, hsz]; exact hnc) _)
         refine ⟨_, _, g', hrun, q1, q2, ?_⟩
         have hge := grownCap_ge w b.size 0 el
         have hle := grownCap_le_maxLen w b.size 0 el (by simp only [maxLen]; omega)
         have := vc_rep q3 q4 (cap := grownCap w b.size 0 el) (by simpa [hml] using hge) (by simpa [maxLen] using hle) (by
          rw [q5]
          simp only [Array.size_append, List.size_toArray, size_zeroCells, hul, hzs, hsz, ← Nat.add_mul]
          exact Nat.mul_le_mul_right _ (by omega))
         simpa [hml] using this
        | some ad1 =>
         have hrun := Go.Lib.run_append_grow_string (P := P) w t t2 ty el i z hu hu2 hi hz ad1 0 0 [] (by simp) (fun j v hv => by simp at hv) b (by omega) (by omega) (grow_fits (by omega) (by simpa using hroom) hb1)
         obtain ⟨g', w1, w2, w3, w4, w5⟩ := hI.growVec (w1 := w.drew) (k' := k + 1) (l' := [] ++ strBytes b) hE (Nat.lt_succ_self k) (cs := ([] : List Value).toArray ++ (Go.Lib.strCells b).toArray ++ Builtin.zeroCells z.cells (grownCap w (0 + b.size) 0 el - (0 + b.size))) (vs := Go.Lib.strCells b)
          (r := (Builtin.zeroCells z.cells (grownCap w (0 + b.size) 0 el - (0 + b.size))).toList) el rfl (Goes.drew _) (by simp) h4 (zero_one hz1 (by rw [hzs, hsz]; exact hnc) _)
         refine ⟨_, _, g', hrun, w1, w2, ?_⟩
         have hge := grownCap_ge w (0 + b.size) 0 el
         have hle := grownCap_le_maxLen w (0 + b.size) 0 el (by simp only [maxLen]; omega)
         have := vc_rep w3 w4 (cap := grownCap w (0 + b.size) 0 el) (by simpa [hml] using hge) (by simpa [maxLen] using hle) (by
          rw [w5]
          simp only [Array.size_append, List.size_toArray, List.length_nil, Nat.zero_add, size_zeroCells, hul, hzs, hsz, ← Nat.add_mul]
          exact Nat.mul_le_mul_right _ (by omega))
         simpa [hml] using this
      ·simp only [List.cons.injEq, and_true] at hh
       subst hh
       have hent := hI.ent e
       rw [hE] at hent
       rcases hent with ⟨q1, _⟩ | ⟨b', cs, tt, fz, ls, rr, q1, q2, q3, q4, q5, q6, q7⟩
       ·rw [hb] at q1; cases q1
       rw [hb] at q1
       cases q1
       have hll : ls.length = l.length * i.size := by rw [hsz]; exact repL_length (fun x cs => Rep_length (.int .u8) x cs) q6
       have hcsz : cs.size = ls.length + rr.length := by rw [← Array.length_toList, q5, List.length_append]
       have happ : repL (Rep g (.int .u8)) (l ++ strBytes b) (ls ++ Go.Lib.strCells b) := repL_append q6 h4
       have hlm : (l ++ strBytes b).length = l.length + b.size := by rw [List.length_append, hml]
       by_cases hr : l.length + b.size ≤ cap
       ·have hfit : l.length * i.size + (Go.Lib.strCells b).length ≤ cs.size := by
         rw [hul, ← Nat.add_mul, ← q4, hsz]
         exact Nat.le_trans (Nat.mul_le_mul_right _ hr) hcz
        have hrun := run_append_inS (P := P) w t t2 ty el i hu hu2 hi b1 l.length cap cs tt fz q2 q3 b hr hfit
        have hsp : splice cs.toList (l.length * i.size) (Go.Lib.strCells b) = (ls ++ Go.Lib.strCells b) ++ rr.drop (Go.Lib.strCells b).length := by
         unfold splice
         rw [q5, ← hll, List.take_left, List.drop_append, List.drop_eq_nil_of_le (by omega)]
         simp
        have hsplen : (splice cs.toList (l.length * i.size) (Go.Lib.strCells b)).length = cs.size := by
         unfold splice; simp; omega
        obtain ⟨g', w1, w2, w3, w4, w5⟩ := hI.setVec (k' := k + 1) (l' := l ++ strBytes b) (cs' := (splice cs.toList (l.length * i.size) (Go.Lib.strCells b)).toArray) hE hb q2 (by simpa [hsplen] using q4)
         (by unfold thawed at q3 ⊢; simpa [hsplen] using q3) (.inl (Nat.lt_succ_self k)) (vs := ls ++ Go.Lib.strCells b) (r := rr.drop (Go.Lib.strCells b).length) (by simpa using hsp) happ (fun v hv => q7 v (List.mem_of_mem_drop hv))
        refine ⟨_, _, g', hrun, w1, w2, ?_⟩
        have := vc_rep w3 w4 (by simpa [hlm] using hr) hcm (by rw [w5]; exact hcz)
        simpa [hlm] using this
       ·have holds : ∀ j v, ls[j]? = some v → w.cell? ((⟨b1, 0, none⟩ : Addr).add j) = some v := by
         intro j v hv
         rw [addr_add]
         simp only [World.cell?, q2, Option.isSome_none, Bool.false_eq_true, if_false, Nat.zero_add]
         have hj : j < ls.length := (List.getElem?_eq_some_iff.1 hv).1
         have : cs.toList[j]? = some v := by rw [q5, List.getElem?_append_left hj]; exact hv
         simpa using this
        have hrun := Go.Lib.run_append_grow_string (P := P) w t t2 ty el i z hu hu2 hi hz ⟨b1, 0, none⟩ l.length cap ls hll holds b (by omega) (by omega) (grow_fits (by omega) hroom hb1)
        obtain ⟨g', w1, w2, w3, w4, w5⟩ := hI.growVec (w1 := w.drew) (k' := k + 1) (l' := l ++ strBytes b) hE (Nat.lt_succ_self k) (cs := ls.toArray ++ (Go.Lib.strCells b).toArray ++ Builtin.zeroCells z.cells (grownCap w (l.length + b.size) cap el - (l.length + b.size))) (vs := ls ++ Go.Lib.strCells b)
         (r := (Builtin.zeroCells z.cells (grownCap w (l.length + b.size) cap el - (l.length + b.size))).toList) el rfl (Goes.drew _) (by simp) happ (zero_one hz1 (by rw [hzs, hsz]; exact hnc) _)
        refine ⟨_, _, g', hrun, w1, w2, ?_⟩
        have hge := grownCap_ge w (l.length + b.size) cap el
        have hle := grownCap_le_maxLen w (l.length + b.size) cap el (by simp only [maxLen]; omega)
        have := vc_rep w3 w4 (cap := grownCap w (l.length + b.size) cap el) (by simpa [hlm] using hge) (by simpa [maxLen] using hle) (by
         rw [w5]
         simp only [Array.size_append, List.size_toArray, size_zeroCells, hul, hll, hzs, hsz, ← Nat.add_mul]
         exact Nat.mul_le_mul_right _ (by omega))
        simpa [hlm] using this
     ·exact (Tr.fail_some he).elim
    ·exact (Tr.fail_some he).elim
   ·exact (Tr.fail_some he).elim
  ·exact (Tr.fail_some he).elim
 ·exact (Tr.fail_some he).elim
theorem do_append (hI : HInv g H w) {t t2 ty : TypeId} {vs : List AV} {rs : List Value} (ha : argsRep g vs rs) {fr : Nat} (hfr : getE H fr = .free ∧ fr < H.length) {out : Out} {cts : Array Bool}
  (he : (c_append P t t2 vs (ents H (appIds vs)) fr).eval = some out) : Done P g H w (builtin .append #[t, t2] ty cts rs.toArray) out := by
 have hbi : builtin .append #[t, t2] ty cts rs.toArray = (do pure (.value (← Builtin.append_ #[t, t2] ty rs.toArray)) : Sem Next) := rfl
 rw [hbi]
 unfold c_append at he
 split at he
 ·rename_i s x
  obtain ⟨v1, r1, rfl, hv1, v2, r2, rfl, hv2, hr⟩ := ha
  simp only [argsRep] at hr
  subst hr
  split at he
  ·rename_i ht
   subst ht
   split at he
   ·rename_i by_ hby
    obtain ⟨el, i, z, hu, hi, hz, hzs, rfl, ⟨hb0, hb1⟩, hz1⟩ := elBytes_spec hby
    have hsize : ∀ a, elOk P t a = true → i.size = a.sk.nc ∧ 0 < a.nc := by
     intro a h
     obtain ⟨h1, h2⟩ := elOk_spec h hu
     obtain ⟨i', hi', hs', _⟩ := skOf_spec h1
     rw [hi] at hi'
     simp only [Option.some.injEq] at hi'
     subst hi'
     exact ⟨hs', h2⟩
    have done : ∀ {rv : Value} {w' : World} {g' : G}, (Builtin.append_ #[t, t] ty #[v1, v2]).run P w = .ok rv w' → g.le g' → HInv g' (upd H out.2) w' → VRep g' out.1 rv → Done P g H w (do pure (.value (← Builtin.append_ #[t, t] ty #[v1, v2])) : Sem Next) out := by
     intro rv w' g' h1 h2 h3 h4
     exact ⟨.value rv, rv, w', g', by simp [h1], .inl rfl, h2, h3, h4⟩
    split at he
    ·rename_i ux
     have hv1 := (VRep_v (by simp)).1 hv1
     simp only [TRep, Ty.agg, Ty.sk, Sk.agg, Bool.false_eq_true, if_false, Rep, List.cons.injEq, and_true] at hv1
     subst hv1
     split at he
     ·rename_i hn
      have := Tr.ret_some he; subst this
      have hx : v2 = .slice none 0 0 := by
       unfold isNils at hn
       split at hn
       ·have hv2 := (VRep_v (by simp)).1 hv2
        simpa only [TRep, Ty.agg, Ty.sk, Sk.agg, Bool.false_eq_true, if_false, Rep, List.cons.injEq, and_true] using hv2
       ·cases hn
      subst hx
      refine done (run_append_empty hu hi none 0 0 (Nat.le_refl _) none 0 w) (G.le.refl g) hI ((VRep_v (by simp)).2 ?_)
      simp [TRep, Ty.agg, Ty.sk, Sk.agg, Rep]
     ·split at he
      ·rename_i a l hs
       split at he
       ·rename_i hel
        obtain ⟨hroom, he⟩ := Tr.chk_some he
        have := Tr.ret_some he; subst this
        simp only [appIds, vcOf, List.nil_append] at hs
        obtain ⟨pv, cap, us, rfl, h2, h3, h4, h5, h6⟩ := seen_spec hI hv2 hs
        obtain ⟨hsz, hnc⟩ := hsize a hel
        simp only [room, decide_eq_true_eq] at hroom
        by_cases hl : l = []
        ·subst hl
         obtain ⟨g', q1, q2, q3, q4⟩ := hI.nilVec (k := 0) (a := a) hfr.2 (.inl hfr.1)
         exact done (run_append_empty hu hi none 0 0 (Nat.le_refl _) pv cap w) q1 q2 (vc_rep_nil q3 q4)
        ·have hlen : 0 < l.length := by cases l with | nil => exact absurd rfl hl | cons _ _ => simp
         cases pv with
         | none => exact absurd (h6 rfl) hl
         | some ad =>
          have hul : us.length = l.length * i.size := by rw [hsz]; exact repL_length (fun x cs => Rep_length a x cs) h4
          have hbytes : l.length * i.bytes ≤ 281474976710656 := by omega
          have hrun := run_append_nil (P := P) w t ty el i z hu hi hz ad l.length cap us hul (h5 ad rfl) hlen (by omega) hbytes
          obtain ⟨g', q1, q2, q3, q4, q5⟩ := hI.newVec (w1 := w.drew) hfr.1 hfr.2 0 (a := a) (l := l) (cs := us.toArray ++ Builtin.zeroCells z.cells (grownCap w l.length 0 el - l.length)) (vs := us)
           (r := (Builtin.zeroCells z.cells (grownCap w l.length 0 el - l.length)).toList) el rfl (Goes.drew _) (by simp) h4 (zero_one hz1 (by rw [hzs, hsz]; exact hnc) _)
          refine done hrun q1 q2 ?_
          have hge := grownCap_ge w l.length 0 el
          have hle := grownCap_le_maxLen w l.length 0 el (by simp only [maxLen]; omega)
          refine vc_rep q3 q4 hge (by simpa [maxLen] using hle) ?_
          rw [q5]
          simp only [Array.size_append, List.size_toArray, size_zeroCells, hul, hzs, hsz, ← Nat.add_mul]
          exact Nat.mul_le_mul_right _ (by omega)
       ·exact (Tr.fail_some he).elim
      ·exact (Tr.fail_some he).elim
    ·rename_i e k ux
     simp only [appIds, vcOf, List.cons_append, List.nil_append, ents] at he
     split at he
     ·rename_i k' a l es' hE
      simp only [List.cons.injEq] at hE
      obtain ⟨hE, rfl⟩ := hE
      have hlive : (getE H e).live = true := by rw [hE]; rfl
      have hlt := lt_of_live hlive
      split at he
      ·rename_i hc
       simp only [Bool.and_eq_true, decide_eq_true_eq] at hc
       obtain ⟨rfl, hel⟩ := hc
       obtain ⟨hsz, hnc⟩ := hsize a hel
       have hsh : g.sh e = .vec k a.sk l.length := by rw [hI.sh, hE]; rfl
       have hv1' := hv1
       have hv1 := (VRep_v (by simp)).1 hv1
       simp only [TRep, Ty.agg, Ty.sk, Sk.agg, Bool.false_eq_true, if_false, Rep, G.vcr, hsh] at hv1
       obtain ⟨_, _, hv1⟩ := hv1
       split at he
       ·rename_i hn
        have := Tr.ret_some he; subst this
        have hx : v2 = .slice none 0 0 := by
         unfold isNils at hn
         split at hn
         ·have hv2 := (VRep_v (by simp)).1 hv2
          simpa only [TRep, Ty.agg, Ty.sk, Sk.agg, Bool.false_eq_true, if_false, Rep, List.cons.injEq, and_true] using hv2
         ·cases hn
        subst hx
        rcases hv1 trivial with ⟨_, _, pv1, h3⟩ | ⟨b, cap, _, h2, h3, _⟩
        ·simp only [List.cons.injEq, and_true] at h3
         subst h3
         exact done (run_append_empty hu hi pv1 0 0 (Nat.le_refl _) none 0 w) (G.le.refl g) hI hv1'
        ·simp only [List.cons.injEq, and_true] at h2
         subst h2
         exact done (run_append_empty hu hi _ _ _ h3.1 none 0 w) (G.le.refl g) hI hv1'
       ·split at he
        ·rename_i y hs
         split at he
         ·rename_i m hm
          obtain ⟨hroom, he⟩ := Tr.chk_some he
          have := Tr.ret_some he; subst this
          obtain ⟨a2, m2⟩ := y
          unfold castL at hm
          simp only at hm
          split at hm
          ·rename_i heq
           subst heq
           simp only [Option.some.injEq] at hm
           subst hm
           obtain ⟨pv, xcap, us, rfl, h2, h3, h4, h5, h6⟩ := seen_spec hI hv2 hs
           simp only [room, decide_eq_true_eq] at hroom
           have hul : us.length = m2.length * i.size := by rw [hsz]; exact repL_length (fun x cs => Rep_length a2 x cs) h4
           have hsmall : l.length + m2.length ≤ 180000000000000 := by
            have : (l.length + m2.length) * 1 ≤ (l.length + m2.length) * i.bytes := Nat.mul_le_mul_left _ (by omega)
            omega
           rcases hv1 trivial with ⟨hbn, hl0, pv1, hh⟩ | ⟨b, cap, hb, hh, ⟨hcap, hcm⟩, hcz⟩
           ·
            simp only [List.cons.injEq, and_true] at hh
            subst hh
            have hl : l = [] := List.eq_nil_of_length_eq_zero hl0
            subst hl
            by_cases hm0 : m2 = []
            ·subst hm0
             obtain ⟨g', q1, q2, q3, q4⟩ := hI.nilVec (k := k + 1) (a := a2) hlt (.inr ⟨k, a2, [], hE, Nat.lt_succ_self k⟩)
             exact done (run_append_empty hu hi pv1 0 0 (Nat.le_refl _) pv xcap w) q1 q2 (vc_rep_nil q3 q4)
            ·have hlen : 0 < m2.length := by cases m2 with | nil => exact absurd rfl hm0 | cons _ _ => simp
             cases pv with
             | none => exact absurd (h6 rfl) hm0
             | some ad =>
              cases pv1 with
              | none =>
               have hbytes : m2.length * i.bytes ≤ 281474976710656 := by simp only [List.length_nil, Nat.zero_add] at hroom; omega
               have hrun := run_append_nil (P := P) w t ty el i z hu hi hz ad m2.length xcap us hul (h5 ad rfl) hlen (by omega) hbytes
               obtain ⟨g', q1, q2, q3, q4, q5⟩ := hI.growVec (w1 := w.drew) (k' := k + 1) (l' := [] ++ m2) hE (Nat.lt_succ_self k) (cs := us.toArray ++ Builtin.zeroCells z.cells (grownCap w m2.length 0 el - m2.length)) (vs := us)
                (r := (Builtin.zeroCells z.cells (grownCap w m2.length 0 el - m2.length)).toList) el rfl (Goes.drew _) (by simp) h4 (zero_one hz1 (by rw [hzs, hsz]; exact hnc) _)
               refine done hrun q1 q2 ?_
               have hge := grownCap_ge w m2.length 0 el
               have hle := grownCap_le_maxLen w m2.length 0 el (by simp only [maxLen]; omega)
               refine vc_rep q3 q4 hge (by simpa [maxLen] using hle) ?_
               rw [q5]
               simp only [Array.size_append, List.size_toArray, size_zeroCells, hul, hzs, hsz, ← Nat.add_mul]
               exact Nat.mul_le_mul_right _ (by omega)
              | some ad1 =>
               have hrun := run_append_grow (P := P) w t ty el i z hu hi hz ad1 0 0 [] (by simp) (fun j v hv => by simp at hv) ad m2.length xcap us hul (h5 ad rfl) (by omega) (by omega) (grow_fits (by omega) (by simpa using hroom) hb1)
               obtain ⟨g', w1, w2, w3, w4, w5⟩ := hI.growVec (w1 := w.drew) (k' := k + 1) (l' := [] ++ m2) hE (Nat.lt_succ_self k) (cs := ([] : List Value).toArray ++ us.toArray ++ Builtin.zeroCells z.cells (grownCap w (0 + m2.length) 0 el - (0 + m2.length))) (vs := us)
                (r := (Builtin.zeroCells z.cells (grownCap w (0 + m2.length) 0 el - (0 + m2.length))).toList) el rfl (Goes.drew _) (by simp) h4 (zero_one hz1 (by rw [hzs, hsz]; exact hnc) _)
               refine done hrun w1 w2 ?_
               have hge := grownCap_ge w (0 + m2.length) 0 el
               have hle := grownCap_le_maxLen w (0 + m2.length) 0 el (by simp only [maxLen]; omega)
               have := vc_rep w3 w4 (cap := grownCap w (0 + m2.length) 0 el) (by simpa using hge) (by simpa [maxLen] using hle) (by
                rw [w5]
                simp only [Array.size_append, List.size_toArray, List.length_nil, Nat.zero_add, size_zeroCells, hul, hzs, hsz, ← Nat.add_mul]
                exact Nat.mul_le_mul_right _ (by omega))
               simpa using this
           ·simp only [List.cons.injEq, and_true] at hh
            subst hh
            have hent := hI.ent e
            rw [hE] at hent
            rcases hent with ⟨q1, _⟩ | ⟨b', cs, tt, fz, ls, rr, q1, q2, q3, q4, q5, q6, q7⟩
            ·rw [hb] at q1; cases q1
            rw [hb] at q1
            cases q1
            have hll : ls.length = l.length * i.size := by rw [hsz]; exact repL_length (fun x cs => Rep_length a2 x cs) q6
            have hcsz : cs.size = ls.length + rr.length := by rw [← Array.length_toList, q5, List.length_append]
            have happ : repL (Rep g a2) (l ++ m2) (ls ++ us) := repL_append q6 h4
            by_cases hm0 : m2 = []
            ·subst hm0
             obtain ⟨g', w1, w2, w3, w4, w5⟩ := hI.setVec (k' := k + 1) (l' := l ++ []) (cs' := cs) hE hb q2 q4 q3 (.inl (Nat.lt_succ_self k)) q5 (by simpa using q6) q7
             rw [setRow_self w b cs tt fz q2] at w2
             refine done (run_append_empty hu hi _ _ _ hcap pv xcap w) w1 w2 ?_
             have := vc_rep w3 w4 (by simpa using hcap) hcm (by rw [w5]; exact hcz)
             simpa using this
            ·cases pv with
             | none => exact absurd (h6 rfl) hm0
             | some ad =>
              by_cases hr : l.length + m2.length ≤ cap
              ·have hfit : l.length * i.size + us.length ≤ cs.size := by
                rw [hul, ← Nat.add_mul, ← q4, hsz]
                exact Nat.le_trans (Nat.mul_le_mul_right _ hr) hcz
               have hone : ∀ u ∈ us, u.oneCell' = true := repL_cells (fun x cs => Rep_cells a2 x cs) h4
               have hrun := run_append_in (P := P) w t ty el i hu hi b l.length cap cs tt fz q2 q3 ad m2.length xcap us hul (h5 ad rfl) hone hr hfit
               have hsp : splice cs.toList (l.length * i.size) us = (ls ++ us) ++ rr.drop us.length := by
                unfold splice
                rw [q5, ← hll, List.take_left, List.drop_append, List.drop_eq_nil_of_le (by omega)]
                simp
               have hsplen : (splice cs.toList (l.length * i.size) us).length = cs.size := by
                unfold splice; simp; omega
               obtain ⟨g', w1, w2, w3, w4, w5⟩ := hI.setVec (k' := k + 1) (l' := l ++ m2) (cs' := (splice cs.toList (l.length * i.size) us).toArray) hE hb q2 (by simpa [hsplen] using q4)
                (by unfold thawed at q3 ⊢; simpa [hsplen] using q3) (.inl (Nat.lt_succ_self k)) (vs := ls ++ us) (r := rr.drop us.length) (by simpa using hsp) happ (fun v hv => q7 v (List.mem_of_mem_drop hv))
               refine done hrun w1 w2 ?_
               have := vc_rep w3 w4 (by simpa using hr) hcm (by rw [w5]; exact hcz)
               simpa using this
              ·have holds : ∀ j v, ls[j]? = some v → w.cell? ((⟨b, 0, none⟩ : Addr).add j) = some v := by
                intro j v hv
                rw [addr_add]
                simp only [World.cell?, q2, Option.isSome_none, Bool.false_eq_true, if_false, Nat.zero_add]
                have hj : j < ls.length := (List.getElem?_eq_some_iff.1 hv).1
                have : cs.toList[j]? = some v := by rw [q5, List.getElem?_append_left hj]; exact hv
                simpa using this
               have hrun := run_append_grow (P := P) w t ty el i z hu hi hz ⟨b, 0, none⟩ l.length cap ls hll holds ad m2.length xcap us hul (h5 ad rfl) (by omega) (by omega) (grow_fits (by omega) hroom hb1)
               obtain ⟨g', w1, w2, w3, w4, w5⟩ := hI.growVec (w1 := w.drew) (k' := k + 1) (l' := l ++ m2) hE (Nat.lt_succ_self k) (cs := ls.toArray ++ us.toArray ++ Builtin.zeroCells z.cells (grownCap w (l.length + m2.length) cap el - (l.length + m2.length))) (vs := ls ++ us)
                (r := (Builtin.zeroCells z.cells (grownCap w (l.length + m2.length) cap el - (l.length + m2.length))).toList) el rfl (Goes.drew _) (by simp) happ (zero_one hz1 (by rw [hzs, hsz]; exact hnc) _)
               refine done hrun w1 w2 ?_
               have hge := grownCap_ge w (l.length + m2.length) cap el
               have hle := grownCap_le_maxLen w (l.length + m2.length) cap el (by simp only [maxLen]; omega)
               have := vc_rep w3 w4 (cap := grownCap w (l.length + m2.length) cap el) (by simpa using hge) (by simpa [maxLen] using hle) (by
                rw [w5]
                simp only [Array.size_append, List.size_toArray, size_zeroCells, hul, hll, hzs, hsz, ← Nat.add_mul]
                exact Nat.mul_le_mul_right _ (by omega))
               simpa using this
          ·cases hm
         ·exact (Tr.fail_some he).elim
        ·exact (Tr.fail_some he).elim
      ·exact (Tr.fail_some he).elim
     ·exact (Tr.fail_some he).elim
    ·obtain ⟨rv, w', g', q1, q2, q3, q4⟩ := do_appT (ty := ty) hI hby hv1 hv2 hfr he
     exact done q1 q2 q3 q4
   ·exact (Tr.fail_some he).elim
  ·obtain ⟨rv, w', g', q1, q2, q3, q4⟩ := do_appStr (ty := ty) hI hv1 hv2 he
   exact ⟨.value rv, rv, w', g', by simp [q1], .inl rfl, q2, q3, q4⟩
 ·exact (Tr.fail_some he).elim
theorem argsRep_length' {g : G} : ∀ {vs : List AV} {rs : List Value}, argsRep g vs rs → vs.length = rs.length
 | [], rs, h => by simp only [argsRep] at h; subst h; rfl
 | a :: vs, rs, ⟨v, r, h1, h2, h3⟩ => by subst h1; simp [argsRep_length' h3]
theorem manyV_rep {a : Ty} : ∀ {vs : List AV} {rs : List Value} {l : List a.den}, manyV a vs = some l → argsRep g vs rs →
  l.length = rs.length ∧ (∀ v ∈ rs, v.cells.size = a.nc) ∧ repL (Rep g a) l (rs.flatMap fun v => v.cells.toList)
 | [], rs, l, h, hr => by
  simp only [manyV, Option.some.injEq] at h
  subst h
  simp only [argsRep] at hr
  subst hr
  exact ⟨rfl, by simp, rfl⟩
 | v :: vs, rs, l, h, ⟨r, rs', hrs, hv, hr⟩ => by
  subst hrs
  simp only [manyV] at h
  split at h
  ·rename_i t ht
   split at h
   ·rename_i x hx
    split at h
    ·rename_i l' hl
     simp only [Option.some.injEq] at h
     subst h
     have := castT_spec hx
     subst this
     have hc := TRep_cells (tvOf_spec ht hv)
     obtain ⟨h1, h2, h3⟩ := manyV_rep hl hr
     have hlen := Rep_length _ _ _ hc
     refine ⟨by simp [h1], ?_, r.cells.toList, _, by simp, hc, h3⟩
     intro u hu
     rcases List.mem_cons.1 hu with rfl | hu
     ·simpa using hlen
     ·exact h2 u hu
    ·cases h
   ·cases h
  ·cases h
theorem fill_range (size : Nat) : ∀ (rs : List Value) (j : Nat) (cells : Array Value) (done rest : List Value), cells.toList = done ++ rest → done.length = j * size → rest.length = rs.length * size → (∀ v ∈ rs, v.cells.size = size) →
  ∃ cells', Instr.fill (fun i => some (i * size, size)) cells ((List.range' j rs.length).zip rs) = some cells' ∧ cells'.toList = done ++ rs.flatMap fun v => v.cells.toList
 | [], j, cells, done, rest, h, hd, hr, hv => by
  have : rest = [] := List.eq_nil_of_length_eq_zero (by simpa using hr)
  subst this
  exact ⟨cells, by simp [Instr.fill], by simpa using h⟩
 | v :: rs, j, cells, done, rest, h, hd, hr, hv => by
  have hvs := hv v (by simp)
  have hcs : cells.size = done.length + rest.length := by rw [← Array.length_toList, h, List.length_append]
  have hrl : rest.length = rs.length * size + size := by rw [hr, List.length_cons, Nat.add_mul, Nat.one_mul]
  have hfit : j * size + v.cells.size ≤ cells.size := by omega
  have hone := fill_one cells v (j * size) hfit
  have hsp : splice cells.toList (j * size) v.cells.toList = (done ++ v.cells.toList) ++ rest.drop size := by
   unfold splice
   rw [h, ← hd, List.take_left, List.drop_append, List.drop_eq_nil_of_le (by omega)]
   simp [hvs]
  obtain ⟨cells', h1, h2⟩ := fill_range size rs (j + 1) (splice cells.toList (j * size) v.cells.toList).toArray (done ++ v.cells.toList) (rest.drop size) (by simpa using hsp) (by simp [hd, hvs, Nat.add_mul]) (by simp; omega) (fun u hu => hv u (by simp [hu]))
  refine ⟨cells', ?_, by rw [h2]; simp⟩
  rw [List.length_cons, List.range'_succ, List.zip_cons_cons]
  simp only [Instr.fill, hvs]
  rw [if_neg (by simp; omega), hone]
  exact h1
theorem do_build (hI : HInv g H w) {t : TypeId} {n : Nat} {ps : Array (Nat × Operand)} {ρ : Operand → Value} {vs : List AV} (ha : argsRep g vs (ps.toList.map fun x => ρ x.2)) {fr : Nat} (hfr : getE H fr = .free ∧ fr < H.length) {out : Out}
  (he : (c_buildS P t n (ps.toList.map (·.1)) vs fr).eval = some out) : Done P g H w (do pure (.value (← Instr.buildSlice t n (ps.map fun (i, x) => (i, ρ x))))) out := by
 unfold c_buildS at he
 split at he
 ·rename_i hc
  simp only [Bool.and_eq_true, decide_eq_true_eq] at hc
  obtain ⟨hns, hvn⟩ := hc
  have hlen := argsRep_length' ha
  have key : ∀ {a : Ty} {l : List a.den} {e : TypeId} {zc : Array Value}, P.underlying t = some (.slice e) → sk? P e = some a.sk → manyV a vs = some l → n * a.sk.nc ≤ 16777216 → 0 < a.sk.nc →
    ((n * a.sk.nc = 0 ∧ zc = #[]) ∨ (n * a.sk.nc ≠ 0 ∧ ∃ z, zc = z.cells ∧ ∀ w : World, (zeroValue e).run P w = .ok z w)) → out = (.v (.vc fr 0) (), [(fr, .vec 0 a l)]) →
    Done P g H w (do pure (.value (← Instr.buildSlice t n (ps.map fun (i, x) => (i, ρ x))))) out := by
   rintro a l e zc hu hsk hl hsz hnc hz rfl
   obtain ⟨h1, h2, h3⟩ := manyV_rep hl ha
   have h2 : ∀ v ∈ (ps.toList.map fun x => ρ x.2), v.cells.size = a.sk.nc := h2
   obtain ⟨cells', q1, q2⟩ := fill_range a.sk.nc (ps.toList.map fun x => ρ x.2) 0 (madeCells zc (n * a.sk.nc)) [] (madeCells zc (n * a.sk.nc)).toList (by simp) (by simp) (by simp only [Array.length_toList, size_madeCells]; rw [← hlen, hvn]) h2
   simp only [List.nil_append] at q2
   have hparts : (ps.map fun (i, x) => (i, ρ x)).toList = (List.range' 0 (ps.toList.map fun x => ρ x.2).length).zip (ps.toList.map fun x => ρ x.2) := by
    have e1 : List.range' 0 (ps.toList.map fun x => ρ x.2).length = ps.toList.map (·.1) := by
     rw [hns, List.range_eq_range', ← hlen, hvn]
    rw [e1, List.zip_map']
    simp
   have hrun : (Instr.buildSlice t n (ps.map fun (i, x) => (i, ρ x))).run P w = .ok (.slice (some ⟨w.heap.size, 0, none⟩) n n) (World.mk' w (.cells cells' e)) := by
    have hfill : Instr.fill (fun i => some (i * a.sk.nc, a.sk.nc)) ((Array.range (n * a.sk.nc)).map (zc[· % zc.size]!)) (ps.map fun (i, x) => (i, ρ x)).toList = some cells' := by rw [hparts]; exact q1
    have hbig : ¬ (n * a.sk.nc > 2 ^ 24) := by omega
    simp only [Instr.buildSlice, Sem.run_bind, run_underlying hu, Result.andThen_ok, run_sizeOf_sk hsk]
    rw [if_neg hbig]
    have hfill' : Instr.fill (fun i => some (i * a.sk.nc, a.sk.nc)) ((Array.range (n * a.sk.nc)).map (zc[· % zc.size]!)) (ps.map fun x => (x.1, ρ x.2)).toList = some cells' := hfill
    rcases hz with ⟨h0, hzc⟩ | ⟨h0, z, hzc, hzr⟩
    ·rw [if_pos h0]
     rw [hzc] at hfill'
     simp only [Sem.run_bind, Sem.run_pure, Result.andThen_ok, hfill', newRow, run_newObj, World.mk']
    ·rw [if_neg h0]
     rw [hzc] at hfill'
     simp only [Sem.run_bind, Sem.run_pure, Result.andThen_ok, hzr, hfill', newRow, run_newObj, World.mk']
   obtain ⟨g', w1, w2, w3, w4, w5⟩ := hI.newVec (w1 := w) hfr.1 hfr.2 0 (a := a) (l := l) (cs := cells') (vs := cells'.toList) (r := []) e rfl (Goes.refl _) (by simp) (by rw [q2]; exact h3) (by simp)
   refine ⟨.value (.slice (some ⟨w.heap.size, 0, none⟩) n n), .slice (some ⟨w.heap.size, 0, none⟩) n n, _, g', by simp [hrun], .inl rfl, w1, w2, ?_⟩
   have hnl : n = l.length := by rw [h1, ← hlen, hvn]
   subst hnl
   refine vc_rep w3 w4 (Nat.le_refl _) ?_ ?_
   ·have : l.length * 1 ≤ l.length * a.sk.nc := Nat.mul_le_mul_left _ (by omega)
    omega
   ·rw [w5, ← Array.length_toList, q2]
    have := repL_length (fun x cs => Rep_length a x cs) h3
    rw [this]
    exact Nat.le_refl _
  split at he
  ·split at he
   ·rename_i e hel
    split at he
    ·rename_i z hz
     split at he
     ·rename_i hok
      have := Tr.ret_some he; subst this
      have hu := sliceEl_spec hel
      obtain ⟨h1, h2⟩ := elOk_spec hok hu
      have hv0 : vs = [] := List.eq_nil_of_length_eq_zero (by omega)
      subst hv0
      exact key (zc := #[]) hu h1 rfl (by simp) h2 (.inl ⟨by simp, rfl⟩) rfl
     ·exact (Tr.fail_some he).elim
    ·exact (Tr.fail_some he).elim
   ·exact (Tr.fail_some he).elim
  ·rename_i hn0
   split at he
   ·rename_i a _
    split at he
    ·rename_i l hl
     split at he
     ·rename_i hc
      have := Tr.ret_some he; subst this
      simp only [Bool.and_eq_true, decide_eq_true_eq] at hc
      obtain ⟨⟨c1, c2⟩, c3⟩ := hc
      obtain ⟨by_, hby⟩ := Option.isSome_iff_exists.1 c3
      obtain ⟨e, i, z, hu, hi, hz, _⟩ := elBytes_spec hby
      obtain ⟨h1, h2⟩ := elOk_spec c1 hu
      have hz' : ∀ w : World, (zeroValue e).run P w = .ok z w := fun w => by simp [zeroValue, typeInfo, hi, hz]
      have hnn : n ≠ 0 := fun h => hn0 h
      exact key (zc := z.cells) hu h1 hl c2 h2 (.inr ⟨Nat.mul_ne_zero hnn (by have : a.sk.nc = a.nc := rfl; omega), z, rfl, hz'⟩) rfl
     ·exact (Tr.fail_some he).elim
    ·exact (Tr.fail_some he).elim
   ·exact (Tr.fail_some he).elim
 ·exact (Tr.fail_some he).elim
theorem toList_made_one (z : Value) (n : Nat) : (madeCells #[z] n).toList = List.replicate n z := toList_madeCells_one z n
theorem repL_replicate {α : Type} {R : α → List Value → Prop} {x : α} {v : Value} (h : R x [v]) : ∀ n, repL R (List.replicate n x) (List.replicate n v)
 | 0 => rfl
 | n + 1 => ⟨[v], List.replicate n v, rfl, h, repL_replicate h n⟩
theorem do_make (hI : HInv g H w) {t : TypeId} {vs : List AV} {r1 r2 : Value} (ha : argsRep g vs [r1, r2]) {fr : Nat} (hfr : getE H fr = .free ∧ fr < H.length) {out : Out}
  (he : (c_makeSlice P t vs fr).eval = some out) : Done P g H w (do pure (.value (← Instr.makeSlice t r1 r2))) out := by
 obtain ⟨a1, a2, rfl, h1, h2⟩ := argsRep2 ha
 unfold c_makeSlice at he
 split at he
 ·rename_i n c heq
  simp only [List.cons.injEq, and_true] at heq
  obtain ⟨rfl, rfl⟩ := heq
  have h1 := (VRep_v (by simp)).1 h1
  have h2 := (VRep_v (by simp)).1 h2
  rw [TRep_int] at h1 h2
  obtain ⟨rfl, _⟩ := h1
  obtain ⟨rfl, hck⟩ := h2
  split at he
  ·rename_i e hel
   have hu := sliceEl_spec hel
   split at he
   ·rename_i z hz
    split at he
    ·rename_i by_ hby
     obtain ⟨e', i, zv, hu', hi, hzv, hzs, rfl, ⟨hb0, hb1⟩, hz1⟩ := elBytes_spec hby
     rw [hu] at hu'
     simp only [Option.some.injEq, TypeDesc.slice.injEq] at hu'
     subst hu'
     split at he
     ·rename_i hc
      obtain ⟨hroom, he⟩ := Tr.chk_some he
      have := Tr.ret_some he; subst this
      simp only [Bool.and_eq_true, decide_eq_true_eq, room, Bool.not_eq_true'] at hc hroom
      obtain ⟨⟨hok, hn1⟩, hna⟩ := hc
      obtain ⟨hnc, hn0, hrm⟩ := hroom
      have hnc : n = c := hnc
      have hn0 : (0 : Int) ≤ n := hn0
      subst hnc
      obtain ⟨hsk, _⟩ := elOk_spec hok hu
      obtain ⟨i', hi', hsz, _⟩ := skOf_spec hsk
      rw [hi] at hi'
      simp only [Option.some.injEq] at hi'
      subst hi'
      obtain ⟨_, i2, zv2, hi2, hzv2, hzr, _⟩ := zeroT_spec (g := g) hz
      rw [hi] at hi2
      simp only [Option.some.injEq] at hi2
      subst hi2
      rw [hzv] at hzv2
      simp only [Option.some.injEq] at hzv2
      subst hzv2
      have hsz1 : i.size = 1 := by rw [hsz]; exact hn1
      have hrep : Rep g z.T z.x [zv] := by
       unfold TRep at hzr
       rw [if_neg (by simp [hna])] at hzr
       exact hzr
      have hcells : zv.cells = #[zv] := by
       have h1 := Rep_cells _ _ _ hrep zv (by simp)
       cases zv <;> first | rfl | (simp [Value.oneCell'] at h1)
      obtain ⟨m, hm⟩ : ∃ m : Nat, n = (m : Int) := ⟨n.toNat, (Int.toNat_of_nonneg hn0).symm⟩
      subst hm
      have hrm : m * i.bytes ≤ 180000000000000 := by simpa using hrm
      have hsmall : m ≤ 180000000000000 := by
       have : m * 1 ≤ m * i.bytes := Nat.mul_le_mul_left _ (by omega)
       omega
      have hbi : (i.bytes : Int) * (m : Int) ≤ 281474976710656 := by
       rw [← Int.natCast_mul, Nat.mul_comm]; omega
      have hrun := run_make (P := P) w t e i zv hu hi hzv .i64 .i64 m m hn0 (Int.le_refl _) hbi (by omega)
      simp only [Int.toNat_natCast, hsz1, Nat.mul_one, hcells] at hrun
      obtain ⟨g', w1, w2, w3, w4, w5⟩ := hI.newVec (w1 := w) hfr.1 hfr.2 0 (a := z.T) (l := List.replicate m z.x) (cs := madeCells #[zv] m) (vs := List.replicate m zv) (r := []) e rfl (Goes.refl _) (by rw [toList_made_one]; simp) (repL_replicate hrep m) (by simp)
      refine ⟨.value (.slice (some ⟨w.heap.size, 0, none⟩) m m), .slice (some ⟨w.heap.size, 0, none⟩) m m, _, g', by rw [Sem.run_bind, hrun]; rfl, .inl rfl, w1, by simp only [Int.toNat_natCast, upd]; exact w2, ?_⟩
      simp only [Int.toNat_natCast]
      refine vc_rep (n := m) (by simpa using w3) w4 (Nat.le_refl _) (by omega) ?_
      rw [w5, size_madeCells]
      have : z.T.sk.nc = 1 := hn1
      rw [this, Nat.mul_one]
      exact Nat.le_refl _
     ·exact (Tr.fail_some he).elim
    ·exact (Tr.fail_some he).elim
   ·exact (Tr.fail_some he).elim
  ·exact (Tr.fail_some he).elim
 ·exact (Tr.fail_some he).elim
theorem bytesStr_size (l : List Int) : (bytesStr l).size = l.length := by
 have : ∀ (l : List Int) (s : ByteArray), (l.foldl (fun r n => r.push (UInt8.ofNat n.toNat)) s).size = s.size + l.length := by
  intro l
  induction l with
  | nil => intro s; rfl
  | cons x l ih => intro s; simp only [List.foldl_cons, ih, ByteArray.size_push, List.length_cons]; omega
 unfold bytesStr
 rw [this]
 show 0 + _ = _
 omega
theorem isBytes_spec {t : TypeId} (h : isBytes P t = true) : ∃ e, P.underlying t = some (.slice e) ∧ P.underlying e = some (.int .u8) := by
 unfold isBytes at h
 split at h
 ·rename_i e hu
  split at h
  ·rename_i he; exact ⟨e, hu, he⟩
  ·cases h
 ·cases h
theorem repL_u8 {l : List Int} {vs : List Value} (h : repL (Rep g (.int .u8)) l vs) : vs = l.map (Value.int .u8) := by
 induction l generalizing vs with
 | nil => exact h
 | cons x l ih =>
  obtain ⟨c1, c2, rfl, h1, h2⟩ := h
  obtain ⟨h1, _⟩ := h1
  rw [h1, ih h2]
  rfl
theorem do_str (hI : HInv g H w) {s d : TypeId} {x : AV} {l : List Int} {r : Value} (hr : VRep g x r) (hx : seen x (ents H (vcOf x)) = some ⟨.int .u8, l⟩) (hs : isBytes P s = true) (hd : P.underlying d = some .string) :
  (convert s d r).run P w = .ok (.string (bytesStr l)) w ∧ (bytesStr l).size ≤ 9223372036854775807 := by
 obtain ⟨e, hu, he⟩ := isBytes_spec hs
 obtain ⟨pv, cap, us, rfl, h2, h3, h4, h5, h6⟩ := seen_spec hI hr (T := .int .u8) (l := l) hx
 refine ⟨?_, by rw [bytesStr_size]; exact Nat.le_trans h2 h3⟩
 rw [run_convert_bytes_string w s d e pv l.length cap hu he hd]
 cases pv with
 | none =>
  have hl := h6 rfl
  subst hl
  rfl
 | some ad =>
  refine run_bytesToString w ad l.length cap l ?_
  have h4 := repL_u8 h4
  subst h4
  have := run_loadCells_list (P := P) w ad (l.map (Value.int .u8)) (h5 ad rfl)
  rwa [List.length_map] at this
def Bound (o : Option Value) (i : Option Int) : Prop := match o, i with
 | none, none => True
 | some v, some n => ∃ k, v = .int k n
 | _, _ => False
theorem bnd_spec {o : Option Value} {b : Bool} (hb : b = o.isSome) {vs r : List AV} {i : Option Int} {rest : List Value} (h : bnd b vs = some (i, r)) (ha : argsRep g vs (o.toList ++ rest)) : Bound o i ∧ argsRep g r rest := by
 cases o with
 | none =>
  subst hb
  simp only [bnd, Option.isSome_none, Option.some.injEq, Prod.mk.injEq] at h
  obtain ⟨rfl, rfl⟩ := h
  exact ⟨trivial, ha⟩
 | some v =>
  subst hb
  obtain ⟨a, vs', rfl, h1⟩ : ∃ a vs', vs = a :: vs' ∧ (VRep g a v ∧ argsRep g vs' rest) := by
   cases vs with
   | nil => cases ha
   | cons a vs' =>
    obtain ⟨v', r', hh, h1, h2⟩ := ha
    simp only [Option.toList_some, List.cons_append, List.nil_append, List.cons.injEq] at hh
    obtain ⟨rfl, rfl⟩ := hh
    exact ⟨a, vs', rfl, h1, h2⟩
  simp only [bnd, Option.isSome_some] at h
  split at h
  ·rename_i n hn
   simp only [Option.some.injEq, Prod.mk.injEq] at h
   obtain ⟨rfl, rfl⟩ := h
   unfold intOf at hn
   split at hn
   ·rename_i k n'
    simp only [Option.some.injEq] at hn
    subst hn
    have h3 := (VRep_v (by simp)).1 h1.1
    rw [TRep_int] at h3
    exact ⟨⟨k, h3.1⟩, h1.2⟩
   ·cases hn
  ·cases h
theorem run_bounds {b : Bool} {len cap : Nat} {lo hi : Option Value} {l h : Option Int} (hl : Bound lo l) (hh : Bound hi h) {m : Int} (hm : h.getD (len : Int) = m) (h1 : m ≤ (cap : Int)) (h0 : 0 ≤ l.getD 0) (h2 : l.getD 0 ≤ m) (w : World) :
  (Instr.sliceBounds b len cap lo hi none).run P w = .ok ((l.getD 0).toNat, m.toNat, cap) w := by
 have sb : ∀ {k : IntKind} {i : Int} {y : Nat} {code : BoundsCode}, 0 ≤ i → i ≤ (y : Int) → (Instr.sliceBound (.int k i) y code).run P w = .ok i.toNat w := by
  intro k i y code q1 q2
  simp only [Instr.sliceBound, asIntOf, Sem.run_bind, Sem.run_pure, Result.andThen_ok]
  rw [if_pos ⟨q1, q2⟩]; rfl
 have hhi : (match hi, (none : Option Value) with
  | some v, some _ => Instr.sliceBound v cap .slice3B
  | some v, none => Instr.sliceBound v cap (if b then .sliceAcap else .sliceAlen)
  | none, none => pure len
  | none, some _ => stuck "Slice: max without high" : Sem Nat).run P w = .ok m.toNat w := by
  cases hi with
  | none => cases h with
   | none => simp only [Option.getD_none] at hm; subst hm; simp
   | some _ => exact hh.elim
  | some v => cases h with
   | none => exact hh.elim
   | some n =>
    obtain ⟨k, rfl⟩ := hh
    simp only [Option.getD_some] at hm; subst hm
    exact sb (by omega) h1
 have hlo : (match lo with
  | some v => Instr.sliceBound v m.toNat (if (none : Option Value).isSome then .slice3C else .sliceB)
  | none => pure 0 : Sem Nat).run P w = .ok (l.getD 0).toNat w := by
  cases lo with
  | none => cases l with
   | none => simp
   | some _ => exact hl.elim
  | some v => cases l with
   | none => exact hl.elim
   | some n =>
    obtain ⟨k, rfl⟩ := hl
    exact sb h0 (by simp only [Option.getD_some] at h2; omega)
 cases hi <;> cases lo <;> simp_all [Instr.sliceBounds, Sem.run_bind, Result.andThen_ok, Sem.run_pure]
theorem repL_take {α : Type} {R : α → List Value → Prop} {n : Nat} (hn : ∀ x cs, R x cs → cs.length = n) : ∀ {l : List α} {cs : List Value} (k : Nat), repL R l cs → repL R (l.take k) (cs.take (k * n))
 | l, cs, 0, h => by simp [repL]
 | [], cs, k + 1, h => by simp only [repL] at h; subst h; simp [repL]
 | x :: l, cs, k + 1, ⟨c1, c2, h1, h2, h3⟩ => by
  have e := hn _ _ h2
  refine ⟨c1, c2.take (k * n), ?_, h2, repL_take hn k h3⟩
  rw [h1, Nat.add_mul, Nat.one_mul, List.take_append, List.take_of_length_le (by omega)]
  congr 2
  omega
theorem repL_drop {α : Type} {R : α → List Value → Prop} {n : Nat} (hn : ∀ x cs, R x cs → cs.length = n) : ∀ {l : List α} {cs : List Value} (k : Nat), repL R l cs → repL R (l.drop k) (cs.drop (k * n))
 | l, cs, 0, h => by simpa using h
 | [], cs, k + 1, h => by simp only [repL] at h; subst h; simp [repL]
 | x :: l, cs, k + 1, ⟨c1, c2, h1, h2, h3⟩ => by
  have e := hn _ _ h2
  have := repL_drop hn k h3
  have hd : c1.drop (k * n + n) = [] := List.drop_eq_nil_of_le (by omega)
  rw [List.drop_succ_cons, h1, Nat.add_mul, Nat.one_mul, List.drop_append, hd, List.nil_append]
  rwa [show k * n + n - c1.length = k * n by omega]
theorem setE_same : ∀ (H : Heap) (e : Nat), setE H e (getE H e) = H
 | [], _ => rfl
 | x :: H, 0 => rfl
 | x :: H, e + 1 => by simp only [setE, getE, setE_same H e]
theorem do_cut (hI : HInv g H w) {t : TypeId} {e k : Nat} {u : Unit} {r : Value} {lo hi : Option Value} {h : Option Int} {a : Ty} {xs : List a.den} (hx : VRep g (.v (.vc e k) u) r) (hE : getE H e = .vec k a xs) (hok : elOk P t a = true)
  (hlo : Bound lo none) (hhi : Bound hi h) (c1 : 0 ≤ h.getD xs.length) (c3 : h.getD xs.length ≤ (xs.length : Int)) :
  Done P g H w (do pure (.value (← Instr.sliceAt t r lo hi none))) (.v (.vc e (k + 1)) (), [(e, .vec (k + 1) a (xs.take (h.getD xs.length).toNat))]) := by
 obtain ⟨el, hu⟩ : ∃ e, P.underlying t = some (.slice e) := by
  unfold elOk at hok
  split at hok
  ·rename_i e hel; exact ⟨e, sliceEl_spec hel⟩
  ·cases hok
 obtain ⟨hsk, hnc⟩ := elOk_spec hok hu
 have hlive : (getE H e).live = true := by rw [hE]; rfl
 have hlt := lt_of_live hlive
 have hsh : g.sh e = .vec k a.sk xs.length := by rw [hI.sh, hE]; rfl
 have hr := (VRep_v (by simp)).1 hx
 simp only [TRep, Ty.agg, Ty.sk, Sk.agg, Bool.false_eq_true, if_false, Rep, G.vcr, hsh] at hr
 obtain ⟨_, _, hr⟩ := hr
 have go : ∀ (pv : Option Addr) (cap : Nat), r = .slice pv xs.length cap → xs.length ≤ cap → (Instr.sliceAt t r lo hi none).run P w = .ok (.slice (if cap = 0 then pv else pv.map (·.add (0 * a.sk.nc))) (h.getD xs.length).toNat cap) w := by
  rintro pv cap rfl hcap
  have hrun := run_bounds (P := P) (b := true) (len := xs.length) (cap := cap) hlo hhi rfl (Int.le_trans c3 (by omega)) (by simp) (by simpa using c1) w
  simp only [Option.getD_none, Int.toNat_zero] at hrun
  have hsl : (Instr.slice t (.slice pv xs.length cap) lo hi none).run P w = .ok (.slice (if cap = 0 then pv else pv.map (·.add (0 * a.sk.nc))) (h.getD xs.length).toNat cap) w := by
   simp only [Instr.slice, Sem.run_bind, run_underlying hu, Result.andThen_ok, hrun, run_sizeOf_sk hsk, Sem.run_pure, Nat.sub_zero]
  simp only [Instr.sliceAt, Sem.run_bind, run_underlying hu, Result.andThen_ok, hsl]
 have hlen : (xs.take (h.getD xs.length).toNat).length = (h.getD xs.length).toNat := by rw [List.length_take]; omega
 rcases hr trivial with ⟨hbn, hl0, pv1, hh⟩ | ⟨b, cap, hb, hh, ⟨hcap, hcm⟩, hcz⟩
 ·simp only [List.cons.injEq, and_true] at hh
  have hl : xs = [] := List.eq_nil_of_length_eq_zero hl0
  subst hl
  have hz : (h.getD (([] : List a.den).length : Int)).toNat = 0 := by simp only [List.length_nil] at c3 c1 ⊢; omega
  obtain ⟨g', q1, q2, q3, q4⟩ := hI.nilVec (k := k + 1) (a := a) hlt (.inr ⟨k, a, [], hE, Nat.lt_succ_self k⟩)
  have hgo := go pv1 0 hh (by simp)
  rw [hz] at hgo
  simp only [if_true] at hgo
  refine ⟨.value (.slice pv1 0 0), .slice pv1 0 0, w, g', by rw [Sem.run_bind, hgo]; rfl, .inl rfl, q1, by simpa [upd] using q2, vc_rep_nil q3 q4⟩
 ·simp only [List.cons.injEq, and_true] at hh
  have hgo := go _ _ hh hcap
  have hent := hI.ent e
  rw [hE] at hent
  rcases hent with ⟨q1, _⟩ | ⟨b', cs, tt, fz, ls, rr, q1, q2, q3, q4, q5, q6, q7⟩
  ·rw [hb] at q1; cases q1
  rw [hb] at q1
  cases q1
  obtain ⟨g', w1, w2, w3, w4, w5⟩ := hI.setVec (k' := k + 1) (l' := xs.take (h.getD xs.length).toNat) (cs' := cs) (vs := ls.take ((h.getD xs.length).toNat * a.nc)) (r := ls.drop ((h.getD xs.length).toNat * a.nc) ++ rr) hE hb q2 q4 q3 (.inl (Nat.lt_succ_self k))
   (by rw [← List.append_assoc, List.take_append_drop]; exact q5) (repL_take (fun x cs => Rep_length a x cs) _ q6) (by
    intro v hv
    rcases List.mem_append.1 hv with hv | hv
    ·exact repL_cells (fun x cs => Rep_cells a x cs) q6 v (List.mem_of_mem_drop hv)
    ·exact q7 v hv)
  rw [setRow_self w b cs tt fz q2] at w2
  have hpv : (if cap = 0 then some (⟨b, 0, none⟩ : Addr) else (some (⟨b, 0, none⟩ : Addr)).map (·.add (0 * a.sk.nc))) = some ⟨b, 0, none⟩ := by
   split
   ·rfl
   ·simp [addr_add]
  rw [hpv] at hgo
  refine ⟨.value _, .slice (some ⟨b, 0, none⟩) (h.getD xs.length).toNat cap, w, g', by rw [Sem.run_bind, hgo]; rfl, .inl rfl, w1, by simpa [upd] using w2, ?_⟩
  exact vc_rep (n := (h.getD xs.length).toNat) (by rw [← hlen]; simpa [hlen] using w3) w4 (by omega) hcm (by rw [w5]; exact hcz)
theorem run_copy_empty {ats : Array TypeId} {t ty e : TypeId} {i : TypeInfo} (hat : ats[0]? = some t) (ht : P.underlying t = some (.slice e)) (hi : P.info? e = some i) (base : Option Addr) (n cap : Nat) (pv : Option Addr) (m c : Nat) (hz : min m n = 0) (w : World) :
  (Builtin.copy_ ats ty #[.slice base n cap, .slice pv m c]).run P w = .ok (.int .i64 0) w := by
 have hz' : Nat.min m n = 0 := hz
 cases pv <;> cases base <;> simp [Builtin.copy_, hat, run_underlying ht, Go.sizeOf, typeInfo, hi, Builtin.lenOf, hz', Builtin.firstCells, storeCells, loadCells, loadCellsFrom, goInt]
theorem run_copy_in (w : World) {ats : Array TypeId} {t ty e : TypeId} {i : TypeInfo} (hat : ats[0]? = some t) (ht : P.underlying t = some (.slice e)) (hi : P.info? e = some i)
  (b dLen dCap : Nat) (cur : Array Value) (tt : TypeId) (fz : Nat × Nat) (hg : w.heap[b]? = some (.cells cur tt fz)) (hth : thawed cur fz)
  (a : Addr) (m c : Nat) (news : List Value) (hl : news.length = (min m dLen) * i.size) (hnews : ∀ j u, news[j]? = some u → w.cell? (a.add j) = some u) (h1 : ∀ u ∈ news, u.oneCell' = true)
  (hfit : news.length ≤ cur.size) :
  (Builtin.copy_ ats ty #[.slice (some ⟨b, 0, none⟩) dLen dCap, .slice (some a) m c]).run P w = .ok (.int .i64 ((min m dLen : Nat) : Int)) (w.setRow b (splice cur.toList 0 news).toArray) := by
 have hf := run_firstCells_some (P := P) w i.size (min m dLen) a m c news hl hnews
 have hst := run_storeCells_thaw (P := P) b 0 tt fz news 0 cur w hg hth (by simpa using hfit) h1
 simp only [Nat.add_zero] at hst
 have hm : Nat.min m dLen = min m dLen := rfl
 simp [Builtin.copy_, hat, run_underlying ht, Go.sizeOf, typeInfo, hi, Builtin.lenOf, hm, hf, Addr.add_lit, hst, goInt]
theorem run_copy_at (w : World) {ats : Array TypeId} {t ty e : TypeId} {i : TypeInfo} (hat : ats[0]? = some t) (ht : P.underlying t = some (.slice e)) (hi : P.info? e = some i)
  (b o dLen dCap : Nat) (cur : Array Value) (tt : TypeId) (fz : Nat × Nat) (hg : w.heap[b]? = some (.cells cur tt fz)) (hth : thawed cur fz)
  (a : Addr) (m c : Nat) (news : List Value) (hl : news.length = (min m dLen) * i.size) (hnews : ∀ j u, news[j]? = some u → w.cell? (a.add j) = some u) (h1 : ∀ u ∈ news, u.oneCell' = true)
  (hfit : o + news.length ≤ cur.size) :
  (Builtin.copy_ ats ty #[.slice (some ⟨b, o, none⟩) dLen dCap, .slice (some a) m c]).run P w = .ok (.int .i64 ((min m dLen : Nat) : Int)) (w.setRow b (splice cur.toList o news).toArray) := by
 have hf := run_firstCells_some (P := P) w i.size (min m dLen) a m c news hl hnews
 have hst := run_storeCells_thaw (P := P) b o tt fz news 0 cur w hg hth (by simpa using hfit) h1
 simp only [Nat.add_zero] at hst
 have hm : Nat.min m dLen = min m dLen := rfl
 simp [Builtin.copy_, hat, run_underlying ht, Go.sizeOf, typeInfo, hi, Builtin.lenOf, hm, hf, Addr.add_lit, hst, goInt]
theorem over_at {α : Type} (l m : List α) (s n : Nat) (h : s + n ≤ l.length) : l.take s ++ (overL ((l.drop s).take n) m ++ l.drop (s + n)) = l.take s ++ (m.take (min m.length n) ++ l.drop (s + min m.length n)) := by
 have hlen : ((l.drop s).take n).length = n := by rw [List.length_take, List.length_drop]; omega
 unfold overL
 rw [hlen]
 have e1 : m.take n = m.take (min m.length n) := by
  rw [Nat.min_comm, ← List.take_take, List.take_length]
 have e2 : ((l.drop s).take n).drop (min m.length n) ++ l.drop (s + n) = l.drop (s + min m.length n) := by
  have h1 : l.drop (s + n) = (l.drop s).drop n := by rw [List.drop_drop]
  have h2 : l.drop (s + min m.length n) = (l.drop s).drop (min m.length n) := by rw [List.drop_drop]
  rw [h1, h2]
  generalize l.drop s = q
  have hk : min m.length n ≤ n := Nat.min_le_right _ _
  generalize min m.length n = k at hk
  rw [List.drop_take]
  have h3 : q.drop n = (q.drop k).drop (n - k) := by rw [List.drop_drop]; congr 1; omega
  rw [h3, List.take_append_drop]
 rw [e1, List.append_assoc, e2]
theorem do_copyS (hI : HInv g H w) {ats : Array TypeId} {t ty : TypeId} (hat : ats[0]? = some t) {e : Nat} {p : List PS} {d : SubD p} {x : AV} {v1 v2 : Value} (hv1 : VRep g (.v (.sub e p) d) v1) (hv2 : VRep g x v2) {T : Ty} {bx : T.den} (hE : getE H e = .box T bx)
  {n : Nat} {a : Ty} {l : List a.den} (hgp : getP T bx p d.at_ = some ⟨.arr n a, l⟩) (hel : elOk P t a = true) {out : Out}
  (he : (if isNils x then (.ret (.v (.int .i64) (0 : Int), []) : Tr Out) else (match seen x (ents H (vcOf x)) with
    | some y => match castL y a with
     | some m => match setP T bx p d.at_ ⟨.arr n a, l.take d.start ++ (overL ((l.drop d.start).take d.len) m ++ l.drop (d.start + d.len))⟩ with
      | some r => .ret (.v (.int .i64) ((min m.length d.len : Nat) : Int), [(e, .box r.T r.x)])
      | none => .fail
     | none => .fail
    | none => .fail)).eval = some out) :
  ∃ rv w' g', (Builtin.copy_ ats ty #[v1, v2]).run P w = .ok rv w' ∧ g.le g' ∧ HInv g' (upd H out.2) w' ∧ VRep g' out.1 rv := by
 obtain ⟨el, hu⟩ : ∃ e, P.underlying t = some (.slice e) := by
  have hel2 := hel
  unfold elOk at hel2
  split at hel2
  ·rename_i e hq; exact ⟨e, sliceEl_spec hq⟩
  ·cases hel2
 obtain ⟨hsk, hnc⟩ := elOk_spec hel hu
 obtain ⟨i, hi, hsz, _⟩ := skOf_spec hsk
 obtain ⟨pv, cap, b, off, n', s, h1, h2, rfl, h3, _, h5, h6⟩ := sub_sh hI hv1 (s := T.sk) (by rw [hE]; rfl)
 obtain ⟨cs, tt, fz, us, q1, q2, q3, rfl, rfl, q4, q5, q6, q7, q8⟩ := arr_cells hI hE hgp h1 h2
 have zero : ∀ {g' : G}, VRep g' (.v (.int .i64) (0 : Int)) (.int .i64 0) := (VRep_v (by simp)).2 (TRep_int.2 ⟨rfl, by decide⟩)
 split at he
 ·rename_i hn
  have := Tr.ret_some he; subst this
  have hx : v2 = .slice none 0 0 := by
   unfold isNils at hn
   split at hn
   ·have hv2 := (VRep_v (by simp)).1 hv2
    simpa only [TRep, Ty.agg, Ty.sk, Sk.agg, Bool.false_eq_true, if_false, Rep, List.cons.injEq, and_true] using hv2
   ·cases hn
  subst hx
  exact ⟨_, w, g, run_copy_empty hat hu hi pv d.len cap none 0 0 (by simp) w, G.le.refl g, hI, zero⟩
 ·split at he
  ·rename_i y hs
   split at he
   ·rename_i m hm
    obtain ⟨a2, m2⟩ := y
    unfold castL at hm
    simp only at hm
    split at hm
    ·rename_i heq
     subst heq
     simp only [Option.some.injEq] at hm
     subst hm
     split at he
     ·rename_i r hr
      have := Tr.ret_some he; subst this
      obtain ⟨pv2, xcap, us2, rfl, k2, k3, k4, k5, k6⟩ := seen_spec hI hv2 hs
      rw [over_at l m2 d.start d.len (by omega)] at hr
      have hK1 : min m2.length d.len ≤ m2.length := Nat.min_le_left _ _
      have hK2 : min m2.length d.len ≤ d.len := Nat.min_le_right _ _
      generalize hK : min m2.length d.len = K at hr hK1 hK2
      have hul : us2.length = m2.length * a2.sk.nc := repL_length (fun x cs => Rep_length a2 x cs) k4
      have hnc' : a2.nc = a2.sk.nc := rfl
      have hb1 : d.start * a2.sk.nc + K * a2.sk.nc ≤ n * a2.sk.nc := by rw [← Nat.add_mul]; exact Nat.mul_le_mul_right _ (by omega)
      have hb2 : K * a2.sk.nc ≤ us2.length := by rw [hul]; exact Nat.mul_le_mul_right _ hK1
      have hrep : Rep g (.arr n a2) (l.take d.start ++ (m2.take K ++ l.drop (d.start + K))) (us.take (d.start * a2.sk.nc) ++ (us2.take (K * a2.sk.nc) ++ us.drop ((d.start + K) * a2.sk.nc))) := by
       refine ⟨?_, ?_⟩
       ·simp only [List.length_append, List.length_take, List.length_drop]; omega
       ·exact repL_append (repL_take' (fun x cs => Rep_length a2 x cs) _ q5) (repL_append (repL_take' (fun x cs => Rep_length a2 x cs) _ k4) (repL_drop' (fun x cs => Rep_length a2 x cs) _ q5))
      obtain ⟨z1, z2, z3, z4⟩ := setP_rep T bx p d.at_ cs.toList _ ⟨.arr n a2, _⟩ r off _ q3 hr h2 hrep
      have hNl : (us.take (d.start * a2.sk.nc) ++ (us2.take (K * a2.sk.nc) ++ us.drop ((d.start + K) * a2.sk.nc))).length = n * a2.sk.nc := by
       simp only [List.length_append, List.length_take, List.length_drop, q6, Nat.add_mul]; omega
      have hspl : splice cs.toList off (us.take (d.start * a2.sk.nc) ++ (us2.take (K * a2.sk.nc) ++ us.drop ((d.start + K) * a2.sk.nc))) = splice cs.toList (off + d.start * a2.sk.nc) (us2.take (K * a2.sk.nc)) := by
       unfold splice
       rw [hNl, List.length_take, Nat.min_eq_left hb2]
       have e1 : cs.toList.take (off + d.start * a2.sk.nc) = cs.toList.take off ++ us.take (d.start * a2.sk.nc) := by
        rw [q7]
        unfold seg
        rw [List.take_take, Nat.min_eq_left (by omega), List.take_add]
       have e2 : us.drop ((d.start + K) * a2.sk.nc) ++ cs.toList.drop (off + n * a2.sk.nc) = cs.toList.drop (off + d.start * a2.sk.nc + K * a2.sk.nc) := by
        rw [q7, Nat.add_mul]
        unfold seg
        rw [List.drop_take, List.drop_drop]
        have h3 : cs.toList.drop (off + n * a2.sk.nc) = (cs.toList.drop (off + (d.start * a2.sk.nc + K * a2.sk.nc))).drop (n * a2.sk.nc - (d.start * a2.sk.nc + K * a2.sk.nc)) := by
         rw [List.drop_drop]; congr 1; omega
        rw [h3, List.take_append_drop]
        congr 1
        omega
       rw [e1, ← e2]
       simp only [List.append_assoc]
      rw [hspl] at z3
      have hspz : (splice cs.toList (off + d.start * a2.sk.nc) (us2.take (K * a2.sk.nc))).length = cs.size := by
       unfold splice
       simp only [List.length_append, List.length_take, List.length_drop, Array.length_toList]
       omega
      have hI2 := hI.setBox (cs' := (splice cs.toList (off + d.start * a2.sk.nc) (us2.take (K * a2.sk.nc))).toArray) hE h1 q1 (by unfold thawed at q2 ⊢; simpa [hspz] using q2) z2 (by simpa using z3)
      have num : VRep g (.v (.int .i64) ((min m2.length d.len : Nat) : Int)) (.int .i64 ((min m2.length d.len : Nat) : Int)) := (VRep_v (by simp)).2 (TRep_int.2 ⟨rfl, inK_len (by omega)⟩)
      by_cases hK0 : K = 0
      ·have hsame : (splice cs.toList (off + d.start * a2.sk.nc) (us2.take (K * a2.sk.nc))).toArray = cs := by
        rw [hK0, Nat.zero_mul, List.take_zero]
        unfold splice
        simp
       rw [hsame, setRow_self w b cs tt fz q1] at hI2
       refine ⟨_, w, g, run_copy_empty hat hu hi pv d.len cap pv2 m2.length xcap (by rw [hK, hK0]) w, G.le.refl g, hI2, ?_⟩
       have := num
       rw [hK, hK0] at this
       rw [hK0]
       exact this
      ·have hpv := h6 (by omega)
       subst hpv
       cases pv2 with
       | none => have := k6 rfl; rw [this] at hK1; simp at hK1; omega
       | some ad =>
        have hone : ∀ u ∈ us2.take (K * a2.sk.nc), u.oneCell' = true := fun u hu => repL_cells (fun x cs => Rep_cells a2 x cs) k4 u (List.mem_of_mem_take hu)
        have hrun := run_copy_at (P := P) (ty := ty) w hat hu hi b (off + d.start * a2.sk.nc) d.len cap cs tt fz q1 q2 ad m2.length xcap (us2.take (K * a2.sk.nc)) (by rw [List.length_take, Nat.min_eq_left hb2, hK, hsz]) (fun j v hv => k5 ad rfl j v (by
         have hj := (List.getElem?_eq_some_iff.1 hv).1
         rw [List.length_take] at hj
         rw [List.getElem?_take_of_lt (by omega)] at hv
         exact hv)) hone (by rw [List.length_take, Nat.min_eq_left hb2]; omega)
        rw [hK] at num
        exact ⟨_, _, g, hrun, G.le.refl g, hI2, by rw [hK]; exact num⟩
     ·exact (Tr.fail_some he).elim
    ·cases hm
   ·exact (Tr.fail_some he).elim
  ·exact (Tr.fail_some he).elim
theorem do_copy (hI : HInv g H w) {ats : Array TypeId} {t ty : TypeId} (hat : ats[0]? = some t) {vs : List AV} {rs : List Value} (ha : argsRep g vs rs) {out : Out} {cts : Array Bool}
  (he : (c_copy P t vs (ents H (appIds vs))).eval = some out) : Done P g H w (builtin .copy ats ty cts rs.toArray) out := by
 have hbi : builtin .copy ats ty cts rs.toArray = (do pure (.value (← Builtin.copy_ ats ty rs.toArray)) : Sem Next) := rfl
 rw [hbi]
 unfold c_copy at he
 split at he
 ·rename_i e k ux x
  obtain ⟨v1, r1, rfl, hv1, v2, r2, rfl, hv2, hr⟩ := ha
  simp only [argsRep] at hr
  subst hr
  have done : ∀ {rv : Value} {w' : World} {g' : G}, (Builtin.copy_ ats ty #[v1, v2]).run P w = .ok rv w' → g.le g' → HInv g' (upd H out.2) w' → VRep g' out.1 rv → Done P g H w (do pure (.value (← Builtin.copy_ ats ty #[v1, v2])) : Sem Next) out := by
   intro rv w' g' h1 h2 h3 h4
   exact ⟨.value rv, rv, w', g', by simp [h1], .inl rfl, h2, h3, h4⟩
  simp only [appIds, vcOf, List.cons_append, List.nil_append, ents] at he
  split at he
  ·rename_i k' a l es' hE
   simp only [List.cons.injEq] at hE
   obtain ⟨hE, rfl⟩ := hE
   have hlive : (getE H e).live = true := by rw [hE]; rfl
   split at he
   ·rename_i hc
    simp only [Bool.and_eq_true, decide_eq_true_eq] at hc
    obtain ⟨rfl, hel⟩ := hc
    obtain ⟨el, hu⟩ : ∃ e, P.underlying t = some (.slice e) := by
     have hel2 := hel
     unfold elOk at hel2
     split at hel2
     ·rename_i e hq; exact ⟨e, sliceEl_spec hq⟩
     ·cases hel2
    obtain ⟨hsk, hnc⟩ := elOk_spec hel hu
    obtain ⟨i, hi, hsz, _⟩ := skOf_spec hsk
    have hsh : g.sh e = .vec k a.sk l.length := by rw [hI.sh, hE]; rfl
    have hv1 := (VRep_v (by simp)).1 hv1
    simp only [TRep, Ty.agg, Ty.sk, Sk.agg, Bool.false_eq_true, if_false, Rep, G.vcr, hsh] at hv1
    obtain ⟨_, _, hv1⟩ := hv1
    have zero : ∀ {g' : G}, VRep g' (.v (.int .i64) (0 : Int)) (.int .i64 0) := (VRep_v (by simp)).2 (TRep_int.2 ⟨rfl, by decide⟩)
    split at he
    ·rename_i hn
     have := Tr.ret_some he; subst this
     have hx : v2 = .slice none 0 0 := by
      unfold isNils at hn
      split at hn
      ·have hv2 := (VRep_v (by simp)).1 hv2
       simpa only [TRep, Ty.agg, Ty.sk, Sk.agg, Bool.false_eq_true, if_false, Rep, List.cons.injEq, and_true] using hv2
      ·cases hn
     subst hx
     rcases hv1 trivial with ⟨_, _, pv1, h3⟩ | ⟨b, cap, _, h2, h3, _⟩
     ·simp only [List.cons.injEq, and_true] at h3
      subst h3
      exact done (run_copy_empty hat hu hi pv1 0 0 none 0 0 (by simp) w) (G.le.refl g) hI zero
     ·simp only [List.cons.injEq, and_true] at h2
      subst h2
      exact done (run_copy_empty hat hu hi _ _ _ none 0 0 (by simp) w) (G.le.refl g) hI zero
    ·split at he
     ·rename_i y hs
      split at he
      ·rename_i m hm
       have := Tr.ret_some he; subst this
       obtain ⟨a2, m2⟩ := y
       unfold castL at hm
       simp only at hm
       split at hm
       ·rename_i heq
        subst heq
        simp only [Option.some.injEq] at hm
        subst hm
        obtain ⟨pv, xcap, us, rfl, h2, h3, h4, h5, h6⟩ := seen_spec hI hv2 hs
        have hul : us.length = m2.length * i.size := by rw [hsz]; exact repL_length (fun x cs => Rep_length a2 x cs) h4
        have num : ∀ {g' : G} (hmin : min m2.length l.length ≤ 9223372036854775807), VRep g' (.v (.int .i64) ((min m2.length l.length : Nat) : Int)) (.int .i64 ((min m2.length l.length : Nat) : Int)) := fun hmin => (VRep_v (by simp)).2 (TRep_int.2 ⟨rfl, inK_len hmin⟩)
        rcases hv1 trivial with ⟨hbn, hl0, pv1, hh⟩ | ⟨b, cap, hb, hh, ⟨hcap, hcm⟩, hcz⟩
        ·simp only [List.cons.injEq, and_true] at hh
         subst hh
         have hl : l = [] := List.eq_nil_of_length_eq_zero hl0
         subst hl
         have hov : overL ([] : List a2.den) m2 = [] := by simp [overL]
         refine done (run_copy_empty hat hu hi pv1 0 0 pv _ _ (by simp) w) (G.le.refl g) ?_ (by simpa using zero)
         simp only [upd, hov]
         rw [← hE, setE_same]
         exact hI
        ·simp only [List.cons.injEq, and_true] at hh
         subst hh
         have hent := hI.ent e
         rw [hE] at hent
         rcases hent with ⟨q1, _⟩ | ⟨b', cs, tt, fz, ls, rr, q1, q2, q3, q4, q5, q6, q7⟩
         ·rw [hb] at q1; cases q1
         rw [hb] at q1
         cases q1
         have hll : ls.length = l.length * i.size := by rw [hsz]; exact repL_length (fun x cs => Rep_length a2 x cs) q6
         have hcsz : cs.size = ls.length + rr.length := by rw [← Array.length_toList, q5, List.length_append]
         by_cases hm0 : m2 = []
         ·subst hm0
          have hov : overL l ([] : List a2.den) = l := by simp [overL]
          refine done (run_copy_empty hat hu hi _ _ _ pv _ _ (by simp) w) (G.le.refl g) ?_ (by simpa using zero)
          simp only [upd, hov]
          rw [← hE, setE_same]
          exact hI
         ·cases pv with
          | none => exact absurd (h6 rfl) hm0
          | some ad =>
           have hmul : (min m2.length l.length) * i.size ≤ m2.length * i.size := Nat.mul_le_mul_right _ (Nat.min_le_left _ _)
           have hmul2 : (min m2.length l.length) * i.size ≤ l.length * i.size := Nat.mul_le_mul_right _ (Nat.min_le_right _ _)
           have hone : ∀ u ∈ us.take ((min m2.length l.length) * i.size), u.oneCell' = true := fun u hu => repL_cells (fun x cs => Rep_cells a2 x cs) h4 u (List.mem_of_mem_take hu)
           have hnl : (us.take ((min m2.length l.length) * i.size)).length = (min m2.length l.length) * i.size := by rw [List.length_take]; omega
           have hrun := run_copy_in (P := P) (ty := ty) w hat hu hi b l.length cap cs tt fz q2 q3 ad m2.length xcap (us.take ((min m2.length l.length) * i.size)) hnl (fun j v hv => h5 ad rfl j v (by
            have hj := (List.getElem?_eq_some_iff.1 hv).1
            rw [hnl] at hj
            rw [List.getElem?_take_of_lt hj] at hv
            exact hv)) hone (by omega)
           have hsp : splice cs.toList 0 (us.take ((min m2.length l.length) * i.size)) = (us.take ((min m2.length l.length) * i.size) ++ ls.drop ((min m2.length l.length) * i.size)) ++ rr := by
            unfold splice
            rw [hnl, q5]
            simp only [List.take_zero, List.nil_append, Nat.zero_add]
            rw [List.drop_append_of_le_length (by omega), List.append_assoc]
           have hsplen : (splice cs.toList 0 (us.take ((min m2.length l.length) * i.size))).length = cs.size := by
            rw [hsp]
            simp only [List.length_append, List.length_take, List.length_drop]
            omega
           have hrep : repL (Rep g a2) (overL l m2) (us.take ((min m2.length l.length) * i.size) ++ ls.drop ((min m2.length l.length) * i.size)) := by
            have ht : m2.take l.length = m2.take (min m2.length l.length) := by
             rw [Nat.min_comm, ← List.take_take, List.take_length]
            unfold overL
            rw [ht, hsz]
            exact repL_append (repL_take (fun x cs => Rep_length a2 x cs) _ h4) (repL_drop (fun x cs => Rep_length a2 x cs) _ q6)
           have hovl : (overL l m2).length = l.length := by
            unfold overL
            simp only [List.length_append, List.length_take, List.length_drop]
            omega
           obtain ⟨g', w1, w2, w3, w4, w5⟩ := hI.setVec (k' := k) (l' := overL l m2) (cs' := (splice cs.toList 0 (us.take ((min m2.length l.length) * i.size))).toArray) hE hb q2 (by simpa [hsplen] using q4)
            (by unfold thawed at q3 ⊢; simpa [hsplen] using q3) (.inr ⟨rfl, hovl⟩) (vs := us.take ((min m2.length l.length) * i.size) ++ ls.drop ((min m2.length l.length) * i.size)) (r := rr) (by simpa using hsp) hrep q7
           exact done hrun w1 w2 (num (by omega))
       ·cases hm
      ·exact (Tr.fail_some he).elim
     ·exact (Tr.fail_some he).elim
   ·exact (Tr.fail_some he).elim
  ·exact (Tr.fail_some he).elim
 ·rename_i e p d x
  obtain ⟨v1, r1, rfl, hv1, v2, r2, rfl, hv2, hr⟩ := ha
  simp only [argsRep] at hr
  subst hr
  simp only [appIds, vcOf, List.cons_append, List.nil_append, ents] at he
  split at he
  ·rename_i T b es' hE
   simp only [List.cons.injEq] at hE
   obtain ⟨hE, rfl⟩ := hE
   split at he
   ·rename_i n a l hgp
    split at he
    ·rename_i hel
     obtain ⟨rv, w', g', q1, q2, q3, q4⟩ := do_copyS (ty := ty) hI hat hv1 hv2 hE hgp hel he
     exact ⟨.value rv, rv, w', g', by simp [q1], .inl rfl, q2, q3, q4⟩
    ·exact (Tr.fail_some he).elim
   ·exact (Tr.fail_some he).elim
  ·exact (Tr.fail_some he).elim
 ·exact (Tr.fail_some he).elim
theorem run_bounds3 {b : Bool} {len cap : Nat} {lo hi mx : Option Value} {l h m : Option Int} (hl : Bound lo l) (hh : Bound hi h) (hm : Bound mx m) (hx : (h.isSome || m.isNone) = true) {A M : Int} (hA : h.getD (len : Int) = A) (hM : m.getD (cap : Int) = M)
  (h1 : M ≤ (cap : Int)) (h2 : A ≤ M) (h0 : 0 ≤ l.getD 0) (h3 : l.getD 0 ≤ A) (w : World) :
  (Instr.sliceBounds b len cap lo hi mx).run P w = .ok ((l.getD 0).toNat, A.toNat, M.toNat) w := by
 have sb : ∀ {k : IntKind} {i : Int} {y : Nat} {code : BoundsCode}, 0 ≤ i → i ≤ (y : Int) → (Instr.sliceBound (.int k i) y code).run P w = .ok i.toNat w := by
  intro k i y code q1 q2
  simp only [Instr.sliceBound, asIntOf, Sem.run_bind, Sem.run_pure, Result.andThen_ok]
  rw [if_pos ⟨q1, q2⟩]; rfl
 have hmx : (match (generalizing := false) mx with
  | some v => Instr.sliceBound v cap (if b then .slice3Acap else .slice3Alen)
  | none => pure cap : Sem Nat).run P w = .ok M.toNat w := by
  cases mx with
  | none => cases m with
   | none => simp only [Option.getD_none] at hM; subst hM; simp
   | some _ => exact hm.elim
  | some v => cases m with
   | none => exact hm.elim
   | some n =>
    obtain ⟨k, rfl⟩ := hm
    simp only [Option.getD_some] at hM; subst hM
    exact sb (by omega) h1
 have hhi : (match (generalizing := false) hi, mx with
  | some v, some _ => Instr.sliceBound v M.toNat .slice3B
  | some v, none => Instr.sliceBound v M.toNat (if b then .sliceAcap else .sliceAlen)
  | none, none => pure len
  | none, some _ => stuck "Slice: max without high" : Sem Nat).run P w = .ok A.toNat w := by
  cases hi with
  | none => cases h with
   | none =>
    cases mx with
    | none => simp only [Option.getD_none] at hA; subst hA; simp
    | some _ => cases m with
     | none => exact hm.elim
     | some _ => simp at hx
   | some _ => exact hh.elim
  | some v => cases h with
   | none => exact hh.elim
   | some n =>
    obtain ⟨k, rfl⟩ := hh
    simp only [Option.getD_some] at hA; subst hA
    cases mx <;> exact sb (by omega) (by omega)
 have hlo : ∀ q : Bool, (match (generalizing := false) lo with
  | some v => Instr.sliceBound v A.toNat (if q then .slice3C else .sliceB)
  | none => pure 0 : Sem Nat).run P w = .ok (l.getD 0).toNat w := by
  intro q
  cases lo with
  | none => cases l with
   | none => simp
   | some _ => exact hl.elim
  | some v => cases l with
   | none => exact hl.elim
   | some n =>
    obtain ⟨k, rfl⟩ := hl
    exact sb h0 (by simp only [Option.getD_some] at h3; omega)
 have hlo1 := hlo true
 have hlo2 := hlo false
 cases hi <;> cases lo <;> cases mx <;> simp_all [Instr.sliceBounds, Sem.run_bind, Result.andThen_ok, Sem.run_pure]
theorem isPA_spec {t : TypeId} {n : Nat} {s : Sk} (h : isPA P t n s = true) : ∃ e, sk? P e = some s ∧ (P.underlying t = some (.array n e) ∨ ∃ r, P.underlying t = some (.pointer r) ∧ P.underlying r = some (.array n e)) := by
 unfold isPA at h
 split at h
 ·rename_i k e he
  simp only [Bool.and_eq_true, decide_eq_true_eq, beq_iff_eq] at h
  obtain ⟨rfl, h2⟩ := h
  exact ⟨e, h2, .inl he⟩
 ·rename_i r hr
  split at h
  ·rename_i k e he
   simp only [Bool.and_eq_true, decide_eq_true_eq, beq_iff_eq] at h
   obtain ⟨rfl, h2⟩ := h
   exact ⟨e, h2, .inr ⟨r, hr, he⟩⟩
  ·cases h
 ·cases h
theorem arrAt_spec {s0 : ESh} {p : List PS} {n : Nat} {a : Sk} (h : arrAt [s0] p = some (n, a)) : ∃ s, s0 = .box s ∧ pend s p = some (.arr n a) := by
 unfold arrAt at h
 split at h
 ·rename_i n' a' hs
  simp only [Option.some.injEq, Prod.mk.injEq] at h
  obtain ⟨rfl, rfl⟩ := h
  exact shAt_spec hs
 ·cases h
theorem do_sliceA (hI : HInv g H w) {t : TypeId} {x : AV} {v : Value} (hx : VRep g x v) {lo hi mx : Option Value} {l h m : Option Int} (hlo : Bound lo l) (hhi : Bound hi h) (hmx : Bound mx m) {out : Out}
  {ss : List ESh} (hss : ∀ e p (d : PD p), x = .v (.ptr e p) d → ss = [shp (getE H e)]) (hss2 : ∀ e p (d : SubD p), x = .v (.sub e p) d → ss = [shp (getE H e)])
  (he : (c_sliceA P t l h m x ss).eval = some out) : Done P g H w (do pure (.value (← Instr.sliceAt t v lo hi mx))) out := by
 unfold c_sliceA at he
 split at he
 ·rename_i e p d
  rw [hss e p d rfl] at he
  split at he
  ·rename_i n s hn
   split at he
   ·rename_i hc
    simp only [Bool.and_eq_true, decide_eq_true_eq] at hc
    obtain ⟨⟨⟨hpa, hnc⟩, hmax⟩, hsome⟩ := hc
    obtain ⟨el, hsk, hor⟩ := isPA_spec hpa
    obtain ⟨hc, he⟩ := Tr.chk_some he
    have := Tr.ret_some he; subst this
    simp only [Bool.and_eq_true, decide_eq_true_eq] at hc
    obtain ⟨c1, c2, c3, c4⟩ := hc
    obtain ⟨S, hS, hpe⟩ := arrAt_spec hn
    obtain ⟨b, off, s', h1, h2, rfl, h4⟩ := ptr_sh hI hx hS
    rw [hpe] at h4
    simp only [Option.some.injEq] at h4
    subst h4
    have hrun := run_bounds3 (P := P) (b := false) (len := n) (cap := n) hlo hhi hmx hsome rfl rfl c4 c3 c1 c2 w
    generalize h.getD (n : Int) = A at *
    generalize m.getD (n : Int) = M at *
    generalize l.getD 0 = L at *
    refine done_val hI (v := .slice (some (if M.toNat = L.toNat then ⟨b, off, none⟩ else ⟨b, off + L.toNat * s.nc, none⟩)) (A.toNat - L.toNat) (M.toNat - L.toNat)) ?_ ?_
    ·rcases hor with hu | ⟨r, hu, hur⟩
     ·simp only [Instr.sliceAt, Instr.sureAddr, Sem.run_bind, run_underlying hu, Result.andThen_ok, Sem.run_pure, hrun, run_sizeOf_sk hsk, addr_add]
     have hsl : (Instr.slice t (.pointer (some ⟨b, off, none⟩)) lo hi mx).run P w = .ok (.slice (some (if M.toNat = L.toNat then ⟨b, off, none⟩ else ⟨b, off + L.toNat * s.nc, none⟩)) (A.toNat - L.toNat) (M.toNat - L.toNat)) w := by
      simp only [Instr.slice, asAddr, Sem.run_bind, run_underlying hu, run_underlying hur, Result.andThen_ok, Sem.run_pure, hrun, run_sizeOf_sk hsk, addr_add]
     simp only [Instr.sliceAt, Sem.run_bind, run_underlying hu, Result.andThen_ok, hsl]
    ·have hAL : (A - L).toNat = A.toNat - L.toNat := by omega
     rw [← hAL]
     refine sub_mk hI (d := ⟨d, L.toNat, (A - L).toNat, decide (A = M)⟩) hS h1 h2 ⟨by simp only; omega, by omega⟩ (fun h => ?_) (by simp only; omega) (fun h => ?_)
     ·have : A = M := of_decide_eq_true h
      simp only
      omega
     ·simp only at h
      rw [if_neg (by omega)]
   ·exact (Tr.fail_some he).elim
  ·exact (Tr.fail_some he).elim
 ·rename_i e p d
  rw [hss2 e p d rfl] at he
  split at he
  ·rename_i el n0 s hel hn
   have hu := sliceEl_spec hel
   split at he
   ·rename_i hc
    simp only [Bool.and_eq_true, beq_iff_eq, Option.isNone_iff_eq_none] at hc
    obtain ⟨hsk, rfl⟩ := hc
    obtain ⟨hc, he⟩ := Tr.chk_some he
    have := Tr.ret_some he; subst this
    simp only [Bool.and_eq_true, decide_eq_true_eq] at hc
    obtain ⟨c1, c2, c4⟩ := hc
    obtain ⟨S, hS, hpe⟩ := arrAt_spec hn
    obtain ⟨pv, cap, b, off, n, s', h1, h2, rfl, h3, h4, h5, h6⟩ := sub_sh hI hx hS
    have h7 := pend_of_poff h2
    rw [hpe] at h7
    simp only [Option.some.injEq, Sk.arr.injEq] at h7
    obtain ⟨rfl, rfl⟩ := h7
    have hrun := run_bounds3 (P := P) (b := true) (len := d.len) (cap := cap) hlo hhi hmx (by simp) rfl rfl (by simp) (by simp only [Option.getD_none]; omega) c1 c2 w
    simp only [Option.getD_none, Int.toNat_natCast] at hrun
    generalize h.getD (d.len : Int) = A at *
    generalize l.getD 0 = L at *
    refine done_val hI (v := .slice (if cap = L.toNat then pv else pv.map (·.add (L.toNat * s.nc))) (A.toNat - L.toNat) (cap - L.toNat)) ?_ ?_
    ·have hsl : (Instr.slice t (.slice pv d.len cap) lo hi mx).run P w = .ok (.slice (if cap = L.toNat then pv else pv.map (·.add (L.toNat * s.nc))) (A.toNat - L.toNat) (cap - L.toNat)) w := by
      simp only [Instr.slice, Sem.run_bind, run_underlying hu, Result.andThen_ok, hrun, run_sizeOf_sk hsk, Sem.run_pure]
     simp only [Instr.sliceAt, Sem.run_bind, run_underlying hu, Result.andThen_ok, hsl]
    ·have hAL : (A - L).toNat = A.toNat - L.toNat := by omega
     rw [← hAL]
     refine sub_mk hI (d := ⟨d.at_, d.start + L.toNat, (A - L).toNat, d.tt && decide (A = (d.len : Int))⟩) hS h1 h2 ⟨by simp only; omega, by omega⟩ (fun h => ?_) (by simp only; omega) (fun h => ?_)
     ·simp only [Bool.and_eq_true, decide_eq_true_eq] at h
      have := h4 h.1
      simp only
      omega
     ·simp only at h
      rw [if_neg (by omega), h6 (by omega)]
      simp only [Option.map_some, addr_add, Nat.add_mul, Nat.add_assoc]
   ·exact (Tr.fail_some he).elim
  ·exact (Tr.fail_some he).elim
 ·rename_i q n a xs
  split at he
  ·rename_i hc
   simp only [Bool.and_eq_true, decide_eq_true_eq, Option.isNone_iff_eq_none] at hc
   obtain ⟨⟨⟨hpa, hnc⟩, hmax⟩, rfl⟩ := hc
   obtain ⟨el, hsk, hor⟩ := isPA_spec hpa
   obtain ⟨hc, he⟩ := Tr.chk_some he
   have := Tr.ret_some he; subst this
   simp only [Bool.and_eq_true, decide_eq_true_eq] at hc
   obtain ⟨c1, c2, c4⟩ := hc
   have hr := (VRep_v (by simp)).1 hx
   simp only [TRep, Ty.agg, Ty.sk, Sk.agg, Bool.false_eq_true, if_false, Rep] at hr
   obtain ⟨ad, us, hv, ⟨hxl, h5⟩, h6⟩ := hr
   simp only [List.cons.injEq, and_true] at hv
   subst hv
   have hsp : ad.spot = none := by rcases h6 with h6 | ⟨_, h6⟩ <;> exact h6.1
   obtain ⟨b, off, sp⟩ := ad
   simp only at hsp
   subst hsp
   have hrun := run_bounds3 (P := P) (b := false) (len := n) (cap := n) hlo hhi hmx (by simp) rfl rfl (by simp) (by simp only [Option.getD_none]; omega) c1 c2 w
   simp only [Option.getD_none, Int.toNat_natCast] at hrun
   generalize h.getD (n : Int) = A at *
   generalize l.getD 0 = L at *
   have hlen : ((xs.take A.toNat).drop L.toNat).length = A.toNat - L.toNat := by rw [List.length_drop, List.length_take]; omega
   refine done_val hI (v := .slice (some (if n = L.toNat then ⟨b, off, none⟩ else ⟨b, off + L.toNat * a.sk.nc, none⟩)) (A.toNat - L.toNat) (n - L.toNat)) ?_ ?_
   ·rcases hor with hu | ⟨r, hu, hur⟩
    ·simp only [Instr.sliceAt, Instr.sureAddr, Sem.run_bind, run_underlying hu, Result.andThen_ok, Sem.run_pure, hrun, run_sizeOf_sk hsk, addr_add]
    have hsl : (Instr.slice t (.pointer (some ⟨b, off, none⟩)) lo hi mx).run P w = .ok (.slice (some (if n = L.toNat then ⟨b, off, none⟩ else ⟨b, off + L.toNat * a.sk.nc, none⟩)) (A.toNat - L.toNat) (n - L.toNat)) w := by
     simp only [Instr.slice, asAddr, Sem.run_bind, run_underlying hu, run_underlying hur, Result.andThen_ok, Sem.run_pure, hrun, run_sizeOf_sk hsk, addr_add]
    simp only [Instr.sliceAt, Sem.run_bind, run_underlying hu, Result.andThen_ok, hsl]
   ·refine (VRep_v (by simp)).2 (TRep_of_leaf rfl ?_)
    refine ⟨_, _, by rw [hlen], ⟨by rw [hlen]; omega, by omega⟩, fun _ => by simp, fun hne => ?_⟩
    have hlt : L.toNat < A.toNat := by
     have : ((xs.take A.toNat).drop L.toNat).length ≠ 0 := fun h0 => hne (List.eq_nil_of_length_eq_zero h0)
     omega
    refine ⟨⟨b, off + L.toNat * a.sk.nc, none⟩, seg us (L.toNat * a.sk.nc) (A.toNat * a.sk.nc - L.toNat * a.sk.nc), by rw [if_neg (by omega)], ?_, ?_⟩
    ·have hT := repL_drop (fun x cs => Rep_length a x cs) L.toNat (repL_take (fun x cs => Rep_length a x cs) A.toNat h5)
     have : seg us (L.toNat * a.sk.nc) (A.toNat * a.sk.nc - L.toNat * a.sk.nc) = (us.take (A.toNat * a.nc)).drop (L.toNat * a.nc) := by
      unfold seg
      rw [List.drop_take]
      rfl
     rw [this]
     exact hT
    ·rcases h6 with h6 | ⟨h0, h6⟩
     ·exact .inl (reads_sub h6 _ _)
     ·exact .inr ⟨h0, reads_sub h6 _ _⟩
  ·exact (Tr.fail_some he).elim
 ·exact (Tr.fail_some he).elim
theorem imm_slice3 {t : TypeId} {q f : Bool} {a : Ty} {xs : List a.den} {v : Value} (hx : VRep g (.v (.imm q f a) xs) v) {lo hi mx : Option Value} {l h : Option Int} {m : Int} (hlo : Bound lo l) (hhi : Bound hi h) (hmx : Bound mx (some m)) (hok : elOk P t a = true) (hsome : h.isSome = true)
  (c1 : 0 ≤ l.getD 0) (c2 : l.getD 0 ≤ h.getD xs.length) (c3 : h.getD xs.length = m) (c4 : h.getD xs.length ≤ (xs.length : Int)) :
  ∃ rv, (Instr.sliceAt t v lo hi mx).run P w = .ok rv w ∧ VRep g (.v (.tg q a) ((xs.take (h.getD xs.length).toNat).drop (l.getD 0).toNat)) rv := by
 obtain ⟨e, hu⟩ : ∃ e, P.underlying t = some (.slice e) := by
  unfold elOk at hok
  split at hok
  ·rename_i e hel; exact ⟨e, sliceEl_spec hel⟩
  ·cases hok
 obtain ⟨hsk, hnc⟩ := elOk_spec hok hu
 have hr := (VRep_v (by simp)).1 hx
 simp only [TRep, Ty.agg, Ty.sk, Sk.agg, Bool.false_eq_true, if_false, Rep] at hr
 obtain ⟨pv, cap, h1, ⟨h2, h3⟩, hnn, h4⟩ := hr
 simp only [List.cons.injEq, and_true] at h1
 subst h1
 have hrun := run_bounds3 (P := P) (b := true) (len := xs.length) (cap := cap) hlo hhi hmx (by simp [hsome]) rfl rfl (by simp only [Option.getD_some]; omega) (by simp only [Option.getD_some]; omega) c1 c2 w
 simp only [Option.getD_some] at hrun
 have hlen : ((xs.take (h.getD xs.length).toNat).drop (l.getD 0).toNat).length = (h.getD xs.length).toNat - (l.getD 0).toNat := by
  rw [List.length_drop, List.length_take]; omega
 have hsl : (Instr.slice t (.slice pv xs.length cap) lo hi mx).run P w = .ok (.slice (if m.toNat = (l.getD 0).toNat then pv else pv.map (·.add ((l.getD 0).toNat * a.sk.nc))) ((h.getD xs.length).toNat - (l.getD 0).toNat) (m.toNat - (l.getD 0).toNat)) w := by
  simp only [Instr.slice, Sem.run_bind, run_underlying hu, Result.andThen_ok, hrun, run_sizeOf_sk hsk, Sem.run_pure]
 have hsa : (Instr.sliceAt t (.slice pv xs.length cap) lo hi mx).run P w = .ok (.slice (if m.toNat = (l.getD 0).toNat then pv else pv.map (·.add ((l.getD 0).toNat * a.sk.nc))) ((h.getD xs.length).toNat - (l.getD 0).toNat) (m.toNat - (l.getD 0).toNat)) w := by
  simp only [Instr.sliceAt, Sem.run_bind, run_underlying hu, Result.andThen_ok, hsl]
 refine ⟨_, hsa, ?_⟩
 refine (VRep_v (by simp)).2 ?_
 simp only [TRep, Ty.agg, Ty.sk, Sk.agg, Bool.false_eq_true, if_false, Rep]
 have hmc : m.toNat - (l.getD 0).toNat = ((xs.take (h.getD xs.length).toNat).drop (l.getD 0).toNat).length := by rw [hlen, ← c3]
 refine ⟨if m.toNat = (l.getD 0).toNat then pv else pv.map (·.add ((l.getD 0).toNat * a.sk.nc)), by rw [← hmc, ← c3], by rw [hlen]; omega, ?_⟩
 intro hne
 have hxs : xs ≠ [] := by rintro rfl; simp at hne
 obtain ⟨ad, us, rfl, h5, h6⟩ := h4 hxs
 have hlt : (l.getD 0).toNat < (h.getD xs.length).toNat := by
  have : ((xs.take (h.getD xs.length).toNat).drop (l.getD 0).toNat).length ≠ 0 := fun h0 => hne (List.eq_nil_of_length_eq_zero h0)
  omega
 have hul : us.length = xs.length * a.sk.nc := repL_length (fun x cs => Rep_length a x cs) h5
 have hsp : ad.spot = none := by rcases h6 with h6 | ⟨_, h6⟩ <;> exact h6.1
 obtain ⟨b, off, sp⟩ := ad
 simp only at hsp
 subst hsp
 refine ⟨⟨b, off + (l.getD 0).toNat * a.sk.nc, none⟩, seg us ((l.getD 0).toNat * a.sk.nc) ((h.getD xs.length).toNat * a.sk.nc - (l.getD 0).toNat * a.sk.nc), ?_, ?_, ?_⟩
 ·rw [if_neg (by omega)]; simp [addr_add]
 ·have hT := repL_drop (fun x cs => Rep_length a x cs) (l.getD 0).toNat (repL_take (fun x cs => Rep_length a x cs) (h.getD xs.length).toNat h5)
  have : seg us ((l.getD 0).toNat * a.sk.nc) ((h.getD xs.length).toNat * a.sk.nc - (l.getD 0).toNat * a.sk.nc) = (us.take ((h.getD xs.length).toNat * a.nc)).drop ((l.getD 0).toNat * a.nc) := by
   unfold seg
   rw [List.drop_take]
   rfl
  rw [this]
  exact hT
 ·rcases h6 with h6 | ⟨h0, h6⟩
  ·exact .inl (reads_sub h6 _ _)
  ·exact .inr ⟨h0, reads_sub h6 _ _⟩
theorem do_sv (hI : HInv g H w) {t : TypeId} {e k : Nat} {u : Unit} {v : Value} (hx : VRep g (.v (.vc e k) u) v) {a : Ty} {xs : List a.den} (hE : getE H e = .vec k a xs) (hok : elOk P t a = true) {lo hi : Option Value} {l h : Option Int} (hlo : Bound lo l) (hhi : Bound hi h)
  (c1 : 0 ≤ l.getD 0) (c2 : l.getD 0 ≤ h.getD xs.length) (c3 : h.getD xs.length ≤ (xs.length : Int)) :
  Done P g H w (do pure (.value (← Instr.sliceAt t v lo hi none))) (.v (.sv e k) ⟨(), (l.getD 0).toNat, (h.getD xs.length - l.getD 0).toNat, false⟩, []) := by
 obtain ⟨el, hu⟩ : ∃ e, P.underlying t = some (.slice e) := by
  unfold elOk at hok
  split at hok
  ·rename_i e hel; exact ⟨e, sliceEl_spec hel⟩
  ·cases hok
 obtain ⟨hsk, hnc⟩ := elOk_spec hok hu
 have hr := (VRep_v (by simp)).1 hx
 simp only [TRep, Ty.agg, Ty.sk, Sk.agg, Bool.false_eq_true, if_false, Rep, G.vcr, hI.sh, hE, shp] at hr
 obtain ⟨_, _, hr⟩ := hr
 obtain ⟨pv, cap, rfl, h2, h3⟩ : ∃ pv cap, v = .slice pv xs.length cap ∧ (xs.length ≤ cap ∧ cap ≤ 9223372036854775807) ∧ (xs.length ≠ 0 → ∃ b, g.bl e = some b ∧ pv = some ⟨b, 0, none⟩) := by
  rcases hr trivial with ⟨q1, q2, pv0, q3⟩ | ⟨b, cap, q1, q2, q3, _⟩
  ·simp only [List.cons.injEq, and_true] at q3
   exact ⟨pv0, 0, by rw [q3, q2], by omega, fun h => absurd q2 h⟩
  ·simp only [List.cons.injEq, and_true] at q2
   exact ⟨_, cap, q2, q3, fun _ => ⟨b, q1, rfl⟩⟩
 have hrun := run_bounds (P := P) (b := true) (len := xs.length) (cap := cap) hlo hhi rfl (Int.le_trans c3 (by omega)) c1 c2 w
 have hsl : (Instr.slice t (.slice pv xs.length cap) lo hi none).run P w = .ok (.slice (if cap = (l.getD 0).toNat then pv else pv.map (·.add ((l.getD 0).toNat * a.sk.nc))) ((h.getD xs.length).toNat - (l.getD 0).toNat) (cap - (l.getD 0).toNat)) w := by
  simp only [Instr.slice, Sem.run_bind, run_underlying hu, Result.andThen_ok, hrun, run_sizeOf_sk hsk, Sem.run_pure]
 refine done_val hI (v := .slice (if cap = (l.getD 0).toNat then pv else pv.map (·.add ((l.getD 0).toNat * a.sk.nc))) ((h.getD xs.length).toNat - (l.getD 0).toNat) (cap - (l.getD 0).toNat)) ?_ ?_
 ·simp only [Instr.sliceAt, Sem.run_bind, run_underlying hu, Result.andThen_ok, hsl]
 ·have hAL : (h.getD xs.length - l.getD 0).toNat = (h.getD xs.length).toNat - (l.getD 0).toNat := by omega
  refine (VRep_v (by simp)).2 (TRep_of_leaf rfl ?_)
  simp only [Rep, G.vcr, hI.sh, hE, shp]
  refine ⟨⟨_, rfl, rfl⟩, Nat.le_refl _, fun _ => ⟨_, _, by rw [hAL], ⟨by omega, by omega⟩, fun h => absurd h (by simp), by omega, fun hne => ?_⟩⟩
  obtain ⟨b, hb, rfl⟩ := h3 (by omega)
  refine ⟨b, hb, ?_⟩
  rw [if_neg (by omega)]
  simp [addr_add]
theorem do_slice2 {ro : Bool} (hI : HInv g H w) {t : TypeId} {lo hi : Option Value} {bl : Bool} {pos : Bool} (hpos : pos = true → ∃ k n, lo = some (.int k n) ∧ 0 < n) (hbl : bl = lo.isSome) {l h : Option Int} (hlo : Bound lo l) (hhi : Bound hi h) {x : AV} {v : Value} (hx : VRep g x v) {es : List Entry} (hes : ∀ e k u, x = .v (.vc e k) u → es = [getE H e]) {out : Out}
  (he : (c_slice2 P ro t pos bl l h x es).eval = some out) : Done P g H w (do pure (.value (← Instr.sliceAt t v lo hi none))) out := by
 unfold c_slice2 at he
 split at he
 ·rename_i s
  split at he
  ·rename_i hu
   obtain ⟨hc, he⟩ := Tr.chk_some he
   have := Tr.ret_some he; subst this
   simp only [Bool.and_eq_true, decide_eq_true_eq] at hc
   obtain ⟨c1, c2, c3⟩ := hc
   have hv := (VRep_v (by simp)).1 hx
   rw [TRep_str] at hv
   obtain ⟨rfl, hs⟩ := hv
   have hrun := run_bounds (P := P) (b := false) (len := s.size) (cap := s.size) hlo hhi rfl c3 c1 c2 w
   refine done_val hI (v := .string (s.extract (l.getD 0).toNat (h.getD s.size).toNat)) ?_ ((VRep_v (by simp)).2 (TRep_str.2 ⟨rfl, ?_⟩))
   ·have hsl : (Instr.slice t (.string s) lo hi none).run P w = .ok (.string (s.extract (l.getD 0).toNat (h.getD s.size).toNat)) w := by
     simp only [Instr.slice, Sem.run_bind, run_underlying hu, Result.andThen_ok]
     simp only [Option.isSome_none, Bool.false_eq_true, if_false, Sem.run_bind, Sem.run_pure, Result.andThen_ok, hrun]
    simp only [Instr.sliceAt, Sem.run_bind, run_underlying hu, Result.andThen_ok, hsl]
   ·simp only [ByteArray.size_extract]
    omega
  ·exact (Tr.fail_some he).elim
 ·rename_i q f a xs
  split at he
  ·rename_i hok
   obtain ⟨hc, he⟩ := Tr.chk_some he
   have := Tr.ret_some he; subst this
   simp only [Bool.and_eq_true, decide_eq_true_eq] at hc
   obtain ⟨c1, c2, c3⟩ := hc
   obtain ⟨e, hu⟩ : ∃ e, P.underlying t = some (.slice e) := by
    unfold elOk at hok
    split at hok
    ·rename_i e hel; exact ⟨e, sliceEl_spec hel⟩
    ·cases hok
   obtain ⟨hsk, hnc⟩ := elOk_spec hok hu
   have hr := (VRep_v (by simp)).1 hx
   simp only [TRep, Ty.agg, Ty.sk, Sk.agg, Bool.false_eq_true, if_false, Rep] at hr
   obtain ⟨pv, cap, h1, ⟨h2, h3⟩, hnn, h4⟩ := hr
   simp only [List.cons.injEq, and_true] at h1
   subst h1
   have hrun := run_bounds (P := P) (b := true) (len := xs.length) (cap := cap) hlo hhi rfl (Int.le_trans c3 (by omega)) c1 c2 w
   have hlen : ((xs.take (h.getD xs.length).toNat).drop (l.getD 0).toNat).length = (h.getD xs.length).toNat - (l.getD 0).toNat := by
    rw [List.length_drop, List.length_take]; omega
   have hsl : (Instr.slice t (.slice pv xs.length cap) lo hi none).run P w = .ok (.slice (if cap = (l.getD 0).toNat then pv else pv.map (·.add ((l.getD 0).toNat * a.sk.nc))) ((h.getD xs.length).toNat - (l.getD 0).toNat) (cap - (l.getD 0).toNat)) w := by
    simp only [Instr.slice, Sem.run_bind, run_underlying hu, Result.andThen_ok, hrun, run_sizeOf_sk hsk, Sem.run_pure]
   refine done_val hI (v := .slice (if cap = (l.getD 0).toNat then pv else pv.map (·.add ((l.getD 0).toNat * a.sk.nc))) ((h.getD xs.length).toNat - (l.getD 0).toNat) (cap - (l.getD 0).toNat)) ?_ ?_
   ·simp only [Instr.sliceAt, Sem.run_bind, run_underlying hu, Result.andThen_ok, hsl]
   ·refine (VRep_v (by simp)).2 ?_
    simp only [TRep, Ty.agg, Ty.sk, Sk.agg, Bool.false_eq_true, if_false, Rep]
    refine ⟨_, _, by rw [hlen], ?_, ?_, ?_⟩
    ·rw [hlen]; omega
    ·intro hpf
     have hpv : pv ≠ none := by
      rw [Bool.or_eq_true] at hpf
      rcases hpf with hpf | hpf
      ·obtain ⟨kk, nn, hlo', hn'⟩ := hpos hpf
       rw [hlo'] at hlo
       cases l with
       | none => exact hlo.elim
       | some l0 =>
        obtain ⟨k2, hk2⟩ := hlo
        simp only [Value.int.injEq] at hk2
        obtain ⟨_, rfl⟩ := hk2
        simp only [Option.getD_some] at c2
        have hxs : xs ≠ [] := by rintro rfl; simp only [List.length_nil] at c2 c3; omega
        obtain ⟨ad, us, hpv, _⟩ := h4 hxs
        rw [hpv]; simp
      ·exact hnn hpf
     split
     ·exact hpv
     ·cases pv with
      | none => exact absurd rfl hpv
      | some _ => simp
    ·intro hne
     have hxs : xs ≠ [] := by rintro rfl; simp at hne
     obtain ⟨ad, us, rfl, h5, h6⟩ := h4 hxs
     have hlt : (l.getD 0).toNat < (h.getD xs.length).toNat := by
      have : ((xs.take (h.getD xs.length).toNat).drop (l.getD 0).toNat).length ≠ 0 := fun h0 => hne (List.eq_nil_of_length_eq_zero h0)
      omega
     have hul : us.length = xs.length * a.sk.nc := repL_length (fun x cs => Rep_length a x cs) h5
     have hsp : ad.spot = none := by rcases h6 with h6 | ⟨_, h6⟩ <;> exact h6.1
     obtain ⟨b, off, sp⟩ := ad
     simp only at hsp
     subst hsp
     refine ⟨⟨b, off + (l.getD 0).toNat * a.sk.nc, none⟩, seg us ((l.getD 0).toNat * a.sk.nc) ((h.getD xs.length).toNat * a.sk.nc - (l.getD 0).toNat * a.sk.nc), ?_, ?_, ?_⟩
     ·rw [if_neg (by omega)]; simp [addr_add]
     ·have hT := repL_drop (fun x cs => Rep_length a x cs) (l.getD 0).toNat (repL_take (fun x cs => Rep_length a x cs) (h.getD xs.length).toNat h5)
      have : seg us ((l.getD 0).toNat * a.sk.nc) ((h.getD xs.length).toNat * a.sk.nc - (l.getD 0).toNat * a.sk.nc) = (us.take ((h.getD xs.length).toNat * a.nc)).drop ((l.getD 0).toNat * a.nc) := by
       unfold seg
       rw [List.drop_take]
       rfl
      rw [this]
      exact hT
     ·rcases h6 with h6 | ⟨h0, h6⟩
      ·exact .inl (reads_sub h6 _ _)
      ·exact .inr ⟨h0, reads_sub h6 _ _⟩
  ·exact (Tr.fail_some he).elim
 ·rename_i e k u
  split at he
  ·rename_i k' a xs hbt
   have hE := hes e k u rfl
   simp only [List.cons.injEq, and_true] at hE
   have hE := hE.symm
   split at he
   ·rename_i hk
    simp only [Bool.and_eq_true, decide_eq_true_eq] at hk
    obtain ⟨rfl, hok⟩ := hk
    obtain ⟨hc, he⟩ := Tr.chk_some he
    have := Tr.ret_some he; subst this
    simp only [Bool.and_eq_true, decide_eq_true_eq] at hc
    obtain ⟨c1, c2, c3⟩ := hc
    exact do_sv hI hx hE hok hlo hhi c1 c2 c3
   ·exact (Tr.fail_some he).elim
  ·rename_i k' a xs hbt
   have hE := hes e k u rfl
   simp only [List.cons.injEq, and_true] at hE
   have hE := hE.symm
   split at he
   ·rename_i hk
    simp only [Bool.and_eq_true, decide_eq_true_eq] at hk
    obtain ⟨rfl, hok⟩ := hk
    obtain ⟨hc, he⟩ := Tr.chk_some he
    have := Tr.ret_some he; subst this
    simp only [Bool.and_eq_true, decide_eq_true_eq] at hc
    obtain ⟨c1, c3⟩ := hc
    have hblf : bl = false := by
     rw [Bool.or_eq_false_iff] at hbt
     exact hbt.1
    have hl0 : l = none := by
     cases l with
     | none => rfl
     | some l => cases lo with
      | none => exact hlo.elim
      | some v => rw [hblf] at hbl; simp at hbl
    subst hl0
    exact do_cut hI hx hE hok hlo hhi c1 c3
   ·exact (Tr.fail_some he).elim
  ·exact (Tr.fail_some he).elim
 ·exact (Tr.fail_some he).elim
theorem do_nilEq {op : BinOp} {t : TypeId} (hI : HInv g H w) {a b : AV} {va vb : Value} (ha : VRep g a va) (hb : VRep g b vb) {r : Bool} (h : nilEq op a b = some r) (hs : (sliceEl P t).isSome = true) {x y : Operand} :
  ∃ v, (do eqGuard op t x y va vb; binOp op t va vb : Sem Value).run P w = .ok v w ∧ v = .bool r := by
 obtain ⟨e, he⟩ := Option.isSome_iff_exists.1 hs
 have hu := sliceEl_spec he
 have nn : ∀ {q : Bool} {T : Ty} {l : List T.den} {v : Value}, VRep g (.v (.imm q true T) l) v → ∃ ad n c, v = .slice (some ad) n c := by
  intro q T l v hv
  have hv := (VRep_v (by simp)).1 hv
  simp only [TRep, Ty.agg, Ty.sk, Sk.agg, Bool.false_eq_true, if_false, Rep] at hv
  obtain ⟨pv, cap, h1, _, h3, _⟩ := hv
  simp only [List.cons.injEq, and_true] at h1
  cases pv with
  | none => exact absurd rfl (h3 trivial)
  | some ad => exact ⟨ad, _, _, h1⟩
 have nil : ∀ {u : Unit} {v : Value}, VRep g (.v .nils u) v → v = .slice none 0 0 := by
  intro u v hv
  have hv := (VRep_v (by simp)).1 hv
  simpa only [TRep, Ty.agg, Ty.sk, Sk.agg, Bool.false_eq_true, if_false, Rep, List.cons.injEq, and_true] using hv
 have hgd : ∀ (op : BinOp) {v v' : Value}, (∃ a n c, v = .slice a n c) → (∃ a n c, v' = .slice a n c) → (eqGuard op t x y v v').run P w = .ok () w := by
  rintro op _ _ ⟨a, n, c, rfl⟩ ⟨a', n', c', rfl⟩
  exact run_eqGuard_plain w (by simp) (by simp)
 have e1 : ∀ v v' : Option Addr × Nat × Nat, binOp .eql t (.slice v.1 v.2.1 v.2.2) (.slice v'.1 v'.2.1 v'.2.2) = (do pure (.bool (← Op.equal t (.slice v.1 v.2.1 v.2.2) (.slice v'.1 v'.2.1 v'.2.2))) : Sem Value) := fun _ _ => rfl
 have e2 : ∀ v v' : Option Addr × Nat × Nat, binOp .neq t (.slice v.1 v.2.1 v.2.2) (.slice v'.1 v'.2.1 v'.2.2) = (do pure (.bool (!(← Op.equal t (.slice v.1 v.2.1 v.2.2) (.slice v'.1 v'.2.1 v'.2.2)))) : Sem Value) := fun _ _ => rfl
 have q1 : ∀ ad n c, (Op.equal t (.slice (some ad) n c) (.slice none 0 0)).run P w = .ok false w := by
  intro ad n c
  have e : Op.equal t (.slice (some ad) n c) (.slice none 0 0) = Op.equalIn (9999 + 1) t (.slice (some ad) n c) (.slice none 0 0) := rfl
  rw [e, Op.equalIn, Sem.run_bind, run_underlying hu]
  rfl
 have q2 : (Op.equal t (.slice none 0 0) (.slice none 0 0)).run P w = .ok true w := by
  have e : Op.equal t (.slice none 0 0) (.slice none 0 0) = Op.equalIn (9999 + 1) t (.slice none 0 0) (.slice none 0 0) := rfl
  rw [e, Op.equalIn, Sem.run_bind, run_underlying hu]
  rfl
 unfold nilEq at h
 split at h
 ·simp only [Option.some.injEq] at h; subst h
  obtain ⟨ad, n, c, rfl⟩ := nn ha
  have := nil hb; subst this
  refine ⟨_, ?_, rfl⟩
  rw [Sem.run_bind, hgd _ ⟨_, _, _, rfl⟩ ⟨_, _, _, rfl⟩, Result.andThen_ok, e1 (some ad, n, c) (none, 0, 0), Sem.run_bind, q1]; rfl
 ·simp only [Option.some.injEq] at h; subst h
  obtain ⟨ad, n, c, rfl⟩ := nn ha
  have := nil hb; subst this
  refine ⟨_, ?_, rfl⟩
  rw [Sem.run_bind, hgd _ ⟨_, _, _, rfl⟩ ⟨_, _, _, rfl⟩, Result.andThen_ok, e2 (some ad, n, c) (none, 0, 0), Sem.run_bind, q1]; rfl
 ·simp only [Option.some.injEq] at h; subst h
  have := nil ha; subst this
  have := nil hb; subst this
  refine ⟨_, ?_, rfl⟩
  rw [Sem.run_bind, hgd _ ⟨_, _, _, rfl⟩ ⟨_, _, _, rfl⟩, Result.andThen_ok, e1 (none, 0, 0) (none, 0, 0), Sem.run_bind, q2]; rfl
 ·simp only [Option.some.injEq] at h; subst h
  have := nil ha; subst this
  have := nil hb; subst this
  refine ⟨_, ?_, rfl⟩
  rw [Sem.run_bind, hgd _ ⟨_, _, _, rfl⟩ ⟨_, _, _, rfl⟩, Result.andThen_ok, e2 (none, 0, 0) (none, 0, 0), Sem.run_bind, q2]; rfl
 ·cases h
theorem isAd_rep {a : AV} {va : Value} (ha : VRep g a va) (h : isAd a = true) : ∃ ad, va = .pointer (some ad) := by
 unfold isAd at h
 split at h
 ·have ha := (VRep_v (by simp)).1 ha
  simp only [TRep, Ty.agg, Ty.sk, Sk.agg, Bool.false_eq_true, if_false, Rep] at ha
  obtain ⟨⟨ad, had⟩, _⟩ := ha
  simp only [List.cons.injEq, and_true] at had
  exact ⟨ad, had⟩
 ·have ha := (VRep_v (by simp)).1 ha
  simp only [TRep, Ty.agg, Ty.sk, Sk.agg, Bool.false_eq_true, if_false, Rep] at ha
  obtain ⟨ad, vs, had, _⟩ := ha
  simp only [List.cons.injEq, and_true] at had
  exact ⟨ad, had⟩
 ·have ha := (VRep_v (by simp)).1 ha
  simp only [TRep, Ty.agg, Ty.sk, Sk.agg, Bool.false_eq_true, if_false, Rep] at ha
  obtain ⟨⟨ad, had⟩, _⟩ := ha
  simp only [List.cons.injEq, and_true] at had
  exact ⟨ad, had⟩
 ·cases h
theorem do_nilPtr {op : BinOp} {t : TypeId} {a b : AV} {va vb : Value} (ha : VRep g a va) (hb : VRep g b vb) {r : Bool} (h : nilPtr op a b = some r) (hs : isPtrT P t = true) {x y : Operand} :
  ∃ v, (do eqGuard op t x y va vb; binOp op t va vb : Sem Value).run P w = .ok v w ∧ v = .bool r := by
 obtain ⟨el, hu⟩ : ∃ el, P.underlying t = some (.pointer el) := by
  unfold isPtrT at hs
  split at hs
  ·rename_i e hu; exact ⟨e, hu⟩
  ·cases hs
 unfold nilPtr at h
 split at h
 ·rename_i hc
  simp only [Bool.and_eq_true] at hc
  obtain ⟨ad, rfl⟩ := isAd_rep ha hc.1
  have hb' : vb = .pointer none := by
   have hn := hc.2
   unfold isNilp at hn
   split at hn
   ·have hb := (VRep_v (by simp)).1 hb
    simpa only [TRep, Ty.agg, Ty.sk, Sk.agg, Bool.false_eq_true, if_false, Rep, List.cons.injEq, and_true] using hb
   ·cases hn
  subst hb'
  have hgd : ∀ op : BinOp, (eqGuard op t x y (.pointer (some ad)) (.pointer none)).run P w = .ok () w := fun op => run_eqGuard_plain w (by simp) (by simp)
  have q1 : (Op.equal t (.pointer (some ad)) (.pointer none)).run P w = .ok false w := by
   have e : Op.equal t (.pointer (some ad)) (.pointer none) = Op.equalIn (9999 + 1) t (.pointer (some ad)) (.pointer none) := rfl
   rw [e, Op.equalIn, Sem.run_bind, run_underlying hu]
   rfl
  split at h
  ·simp only [Option.some.injEq] at h; subst h
   refine ⟨_, ?_, rfl⟩
   have e : binOp .eql t (.pointer (some ad)) (.pointer none) = (do pure (.bool (← Op.equal t (.pointer (some ad)) (.pointer none))) : Sem Value) := rfl
   rw [Sem.run_bind, hgd, Result.andThen_ok, e, Sem.run_bind, q1]; rfl
  ·simp only [Option.some.injEq] at h; subst h
   refine ⟨_, ?_, rfl⟩
   have e : binOp .neq t (.pointer (some ad)) (.pointer none) = (do pure (.bool (!(← Op.equal t (.pointer (some ad)) (.pointer none)))) : Sem Value) := rfl
   rw [Sem.run_bind, hgd, Result.andThen_ok, e, Sem.run_bind, q1]; rfl
  ·cases h
 ·cases h
theorem do_s2ap (hI : HInv g H w) {t : TypeId} {vs : List AV} {r : Value} (ha : argsRep g vs [r]) {out : Out} (he : (c_s2ap P t vs).eval = some out) : Done P g H w (do pure (.value (← Instr.arrayAt t r))) out := by
 obtain ⟨a, rfl, hr⟩ := argsRep1 ha
 unfold c_s2ap at he
 split at he
 ·rename_i q f a l heq
  simp only [List.cons.injEq, and_true] at heq
  subst heq
  split at he
  ·rename_i n hn
   obtain ⟨el, hu⟩ := arrLen_spec hn
   split at he
   ·rename_i hc
    obtain ⟨hle, he⟩ := Tr.chk_some he
    have := Tr.ret_some he; subst this
    simp only [Bool.and_eq_true, beq_iff_eq, decide_eq_true_eq] at hc hle
    have hr := (VRep_v (by simp)).1 hr
    simp only [TRep, Ty.agg, Ty.sk, Sk.agg, Bool.false_eq_true, if_false, Rep] at hr
    obtain ⟨pv, cap, h1, _, _, h4⟩ := hr
    simp only [List.cons.injEq, and_true] at h1
    subst h1
    obtain ⟨ad, us, rfl, h5, h6⟩ := h4 (by rintro rfl; simp at hle; exact hc.2 hle)
    refine done_val hI (v := .pointer (some ad)) ?_ ((VRep_v (by simp)).2 ?_)
    ·simp only [Instr.arrayAt, Sem.run_bind, run_underlying hu, Result.andThen_ok]
     rw [if_neg (by omega)]
     simp
    ·simp only [TRep, Ty.agg, Ty.sk, Sk.agg, Bool.false_eq_true, if_false, Rep]
     have cut : ∀ F, reads F ad us → reads F ad (us.take (n * a.nc)) := by
      rintro F ⟨h0, cs, tt, fz, w1, w2⟩
      refine ⟨h0, cs, tt, fz, w1, fun i v hi => w2 i v ?_⟩
      rw [List.getElem?_take] at hi
      split at hi
      ·exact hi
      ·cases hi
     refine ⟨ad, us.take (n * a.nc), rfl, ⟨by simp [hle], repL_take (fun x cs => Rep_length a x cs) n h5⟩, ?_⟩
     rcases h6 with h6 | ⟨h0, h6⟩
     ·exact .inl (cut _ h6)
     ·exact .inr ⟨h0, cut _ h6⟩
   ·exact (Tr.fail_some he).elim
  ·exact (Tr.fail_some he).elim
 ·exact (Tr.fail_some he).elim
theorem HInv.newFr (h : HInv g H w) {w' : World} {cs : Array Value} {t : TypeId} {fz : Nat × Nat} (hold : ∀ b, b < w.heap.size → w'.heap[b]? = w.heap[b]?) (hnew : w'.heap[w.heap.size]? = some (.cells cs t fz))
  (hx : Goes w w') : ∃ g', g.le g' ∧ HInv g' H w' ∧ g'.fr w.heap.size = some (.cells cs t fz) := by
 have hlt : ∀ {b : Nat} {o : Obj}, w.heap[b]? = some o → b < w.heap.size := fun h => (Array.getElem?_eq_some_iff.1 h).1
 have hk : ∀ {b : Nat} {o : Obj}, w.heap[b]? = some o → w'.heap[b]? = some o := fun {b o} h => by rw [hold b (hlt h)]; exact h
 let g' : G := { g with fr := fun b => if b = w.heap.size then some (.cells cs t fz) else g.fr b }
 have hle : g.le g' := by
  refine ⟨fun b o hb => ?_, rfl, rfl, fun e => .same rfl rfl rfl⟩
  have := hlt (h.fr b o hb)
  simp only [g']
  rw [if_neg (by omega)]; exact hb
 refine ⟨g', hle, ⟨h.sh, ?_, fun b o hb => hk (h.gr b o hb), ?_, ?_, ?_, h.dis, h.ext.goes hx⟩, by simp [g']⟩
 ·intro b o hb
  simp only [g'] at hb
  split at hb
  ·rename_i hb'; subst hb'; simp only [Option.some.injEq] at hb; subst hb; exact hnew
  ·exact hk (h.fr b o hb)
 ·intro e
  exact ERep_mono hle rfl rfl (ERep_world (fun b _ o ho => hk ho) (h.ent e))
 ·intro e b hl hb
  refine ⟨?_, (h.own e b hl hb).2⟩
  obtain ⟨o0, hx'⟩ := h.there hl hb
  have := hlt hx'
  simp only [g']
  rw [if_neg (by omega)]
  exact (h.own e b hl hb).1
 ·intro b o o' hb hb'
  simp only [g'] at hb
  split at hb
  ·rename_i he
   subst he
   have := hlt (h.gr _ _ hb')
   omega
  ·exact h.sep b o o' hb hb'
theorem do_bytes (hI : HInv g H w) {s d : TypeId} {x : ByteArray} (hx : x.size ≤ 9223372036854775807) (hs : P.underlying s = some .string) (hd : isBytes P d = true) :
  Done P g H w (do pure (.value (← convert s d (.string x)))) (.v (.imm true true (.int .u8)) (strBytes x), []) := by
 obtain ⟨e, hu, he⟩ := isBytes_spec hd
 have hrun := Go.Lib.run_convert_string_bytes (P := P) w s d e x hs hu he
 have hbn := Go.Lib.bytesWorld_at_new w e x
 obtain ⟨g', h1, h2, h3⟩ := hI.newFr (w' := Go.Lib.bytesWorld w e x) (Go.Lib.bytesWorld_at_old w e x) hbn (by unfold Go.Lib.bytesWorld; exact ⟨rfl, Nat.le_succ _⟩)
 refine ⟨.value (.slice (some ⟨w.heap.size, 0, none⟩) x.size (grownCap w x.size 0 e)), _, _, g', by simp [hrun], .inl rfl, h1, h2, (VRep_v (by simp)).2 ?_⟩
 simp only [TRep, Ty.agg, Ty.sk, Sk.agg, Bool.false_eq_true, if_false, Rep]
 have hlen : (strBytes x).length = x.size := by simp [strBytes]
 have hcap := grownCap_le_maxLen w x.size 0 e (by simpa [maxLen] using hx)
 refine ⟨_, _, by rw [hlen], ⟨by rw [hlen]; exact grownCap_ge w x.size 0 e, by simpa [maxLen] using hcap⟩, by simp, fun _ => ⟨_, (strBytes x).map (Value.int .u8), rfl, ?_, .inl ⟨rfl, _, _, _, h3, ?_⟩⟩⟩
 ·have : ∀ l : List UInt8, repL (Rep g' (.int .u8)) (l.map fun b => (b.toNat : Int)) ((l.map fun b => (b.toNat : Int)).map (Value.int .u8)) := by
   intro l
   induction l with
   | nil => rfl
   | cons b l ih =>
    refine ⟨[.int .u8 b.toNat], _, rfl, ⟨rfl, ?_⟩, ih⟩
    have := UInt8.toNat_lt b
    show inK .u8 (b.toNat : Int) = true
    rw [inK_iff]
    have h1 : IntKind.u8.min = 0 := by decide
    have h2 : IntKind.u8.max = 255 := by decide
    rw [h1, h2]; omega
  exact this x.data.toList
 ·intro i v hi
  simp only [Nat.zero_add]
  have hi' : i < x.data.toList.length := by
   have := (List.getElem?_eq_some_iff.1 hi).1
   simpa [strBytes] using this
  have e1 : (Go.Lib.bytesCells w e x).toList = (strBytes x).map (Value.int .u8) ++ List.replicate (grownCap w x.size 0 e - x.size) (.int .u8 0) := by
   simp [Go.Lib.bytesCells, strBytes, Function.comp_def]
  have : (Go.Lib.bytesCells w e x).toList[i]? = some v := by
   rw [e1, List.getElem?_append_left (by simpa [strBytes] using hi')]; exact hi
  simpa using this
theorem do_mark (hI : HInv g H w) {s : TypeId} {e k : Nat} {r : Value} (hr : VRep g (.v (.vc e k) ()) r) {a : Sk} {n : Nat} (hE : shp (getE H e) = .vec k a n) (hn : n ≠ 0) (hs : isBytes P s = true) :
  Done P g H w (do pure (.value (← convert s s r))) (.v (.vc e k) (), []) := by
 obtain ⟨el, hu, he⟩ := isBytes_spec hs
 cases hEe : getE H e with
 | free => rw [hEe] at hE; cases hE
 | dead => rw [hEe] at hE; cases hE
 | box T x => rw [hEe] at hE; cases hE
 | map K V l => rw [hEe] at hE; cases hE
 | itr s p => rw [hEe] at hE; cases hE
 | vec k' b l =>
  rw [hEe] at hE
  simp only [shp, ESh.vec.injEq] at hE
  obtain ⟨rfl, rfl, rfl⟩ := hE
  have hlive : (getE H e).live = true := by rw [hEe]; rfl
  have hsh : g.sh e = .vec k' b.sk l.length := by rw [hI.sh, hEe]; rfl
  have hr' := (VRep_v (by simp)).1 hr
  simp only [TRep, Ty.agg, Ty.sk, Sk.agg, Bool.false_eq_true, if_false, Rep, G.vcr, hsh] at hr'
  obtain ⟨_, _, hr'⟩ := hr'
  rcases hr' trivial with ⟨_, h0, _⟩ | ⟨bb, cap, hb, hh, hcap, hcz⟩
  ·exact absurd h0 hn
  simp only [List.cons.injEq, and_true] at hh
  subst hh
  have hent := hI.ent e
  rw [hEe] at hent
  rcases hent with ⟨q1, _⟩ | ⟨b', cs, tt, fz, ls, rr, q1, q2, q3, q4, q5, q6, q7⟩
  ·rw [hb] at q1; cases q1
  rw [hb] at q1
  cases q1
  have hshape : w.shape? bb = some (tt, cs.size) := by simp [World.shape?, q2]
  have hrun : (convert s s (.slice (some ⟨bb, 0, none⟩) l.length cap)).run P w = .ok (.slice (some ⟨bb, 0, none⟩) l.length cap) (w.freeze ⟨bb, cs.size, none⟩ 1) := by
   simp [convert, run_underlying hu, run_underlying he, markStringish, hshape]
  have hnew : (w.freeze ⟨bb, cs.size, none⟩ 1).heap[bb]? = some (.cells cs tt (if fz.1 == fz.2 then (cs.size, cs.size + 1) else (min fz.1 cs.size, max fz.2 (cs.size + 1)))) := by
   obtain ⟨lo, hi⟩ := fz
   simp only [World.freeze, Nat.one_ne_zero, if_false, Array.getElem?_modify, if_true, q2, Option.map_some]
  have hoth : ∀ b2, b2 ≠ bb → (w.freeze ⟨bb, cs.size, none⟩ 1).heap[b2]? = w.heap[b2]? := by
   intro b2 hne
   simp only [World.freeze, Nat.one_ne_zero, if_false, Array.getElem?_modify, if_neg (Ne.symm hne)]
  have hth : thawed cs (if fz.1 == fz.2 then (cs.size, cs.size + 1) else (min fz.1 cs.size, max fz.2 (cs.size + 1))) := by
   unfold thawed at q3 ⊢
   split
   ·exact .inr (Nat.le_refl _)
   ·rename_i hne
    rcases q3 with q3 | q3
    ·exact absurd (by simp [q3]) hne
    ·exact .inr (by simp only; omega)
  have hle : g.le (g.put e (shp (getE H e)) (g.bl e) (g.sz e)) := G.put_le (.same (by simp [G.put, hI.sh]) (by simp [G.put]) (by simp [G.put]))
  have hI' := hI.turn (w' := w.freeze ⟨bb, cs.size, none⟩ 1) (lt_of_live hlive) (E := getE H e) (b := g.bl e) (z := g.sz e) hle
   (fun b2 o hne ho => by rw [hoth b2 (hne bb hlive hb)]; exact ho)
   (by
    rw [hEe]
    exact .inr ⟨bb, cs, tt, _, ls, rr, by simp [G.put, hb], hnew, hth, by simp [G.put, q4], q5, repL_mono (fun y _ cs => (Rep_mono (hEe ▸ hle) b y cs).1) q6, q7⟩)
   (fun b2 hb2 => hI.own e b2 hlive hb2) (fun i b2 hi hl hb1 hb2 => hi (hI.dis i e b2 hl hlive hb1 hb2)) (by
    have : Goes w (w.freeze ⟨bb, cs.size, none⟩ 1) := by
     simp [World.freeze, Goes]
    exact hI.ext.goes this)
  rw [setE_same] at hI'
  exact ⟨.value _, _, _, _, by rw [Sem.run_bind, hrun]; rfl, .inl rfl, hle, hI', VRep_mono hle hr⟩
theorem HInv.freeze (h : HInv g H w) {e k : Nat} {a : Ty} {l : List a.den} (hE : getE H e = .vec k a l) :
  ∃ g', g.le g' ∧ HInv g' (setE H e .dead) w ∧ ∀ rv, VRep g (.v (.vc e k) ()) rv → VRep g' (.v (.imm true false a) l) rv := by
 have hlive : (getE H e).live = true := by rw [hE]; rfl
 have hlt := lt_of_live hlive
 have hget : ∀ i, getE (setE H e .dead) i = if i = e then .dead else getE H i := by
  intro i; rw [getE_setE]; by_cases hi : i = e <;> simp [hi, hlt]
 let g' : G := { g with fr := fun b => if g.bl e = some b then w.heap[b]? else g.fr b, sh := fun i => if i = e then .dead else g.sh i }
 have hle : g.le g' := by
  refine ⟨fun b o hb => ?_, rfl, rfl, fun i => ?_⟩
  ·simp only [g']
   by_cases hbe : g.bl e = some b
   ·rw [(h.own e b hlive hbe).1] at hb; cases hb
   ·rw [if_neg hbe]; exact hb
  ·by_cases hi : i = e
   ·subst hi; exact .dead (by simp [g'])
   ·exact .same (by simp [g', hi]) rfl rfl
 have hl : ∀ i, (getE (setE H e .dead) i).live = true → i ≠ e ∧ (getE H i).live = true := by
  intro i hi
  rw [hget] at hi
  by_cases hie : i = e
  ·rw [if_pos hie] at hi; cases hi
  ·rw [if_neg hie] at hi; exact ⟨hie, hi⟩
 refine ⟨g', hle, ⟨?_, ?_, h.gr, ?_, ?_, ?_, ?_, h.ext⟩, ?_⟩
 ·intro i; rw [hget]; by_cases hi : i = e
  ·simp [g', hi, shp]
  ·simp only [g', if_neg hi]; exact h.sh i
 ·intro b o hb
  simp only [g'] at hb
  split at hb
  ·exact hb
  ·exact h.fr b o hb
 ·intro i
  rw [hget]
  by_cases hi : i = e
  ·rw [if_pos hi]; trivial
  ·rw [if_neg hi]; exact ERep_mono hle rfl rfl (h.ent i)
 ·intro i b hi hb
  obtain ⟨hne, hi⟩ := hl i hi
  refine ⟨?_, (h.own i b hi hb).2⟩
  simp only [g']
  rw [if_neg]
  ·exact (h.own i b hi hb).1
  ·intro hbe
   exact hne (h.dis i e b hi hlive hb hbe)
 ·intro b o o' hb hb'
  simp only [g'] at hb
  split at hb
  ·rename_i hbe
   rw [(h.own e b hlive hbe).2] at hb'; cases hb'
  ·exact h.sep b o o' hb hb'
 ·intro i j b hi hj hb hb'
  exact h.dis i j b (hl i hi).2 (hl j hj).2 hb hb'
 ·intro rv hv
  have hsh : g.sh e = .vec k a.sk l.length := by rw [h.sh, hE]; rfl
  have hv := (VRep_v (by simp)).1 hv
  simp only [TRep, Ty.agg, Ty.sk, Sk.agg, Bool.false_eq_true, if_false, Rep, G.vcr, hsh] at hv
  obtain ⟨_, _, hv⟩ := hv
  refine (VRep_v (by simp)).2 ?_
  simp only [TRep, Ty.agg, Ty.sk, Sk.agg, Bool.false_eq_true, if_false, Rep]
  have he := h.ent e
  rw [hE] at he
  rcases hv trivial with ⟨_, h0, pv0, hh⟩ | ⟨b, cap, hb, hh, hcap, _⟩
  ·have hl0 : l = [] := List.eq_nil_of_length_eq_zero h0
   subst hl0
   exact ⟨pv0, 0, hh, by simp, by simp, by simp⟩
  ·rcases he with ⟨q1, _⟩ | ⟨b', cs, t, fz, vs, r, q1, q2, q3, q4, q5, q6, q7⟩
   ·rw [hb] at q1; cases q1
   rw [hb] at q1
   cases q1
   refine ⟨_, cap, hh, hcap, by simp, fun _ => ⟨_, vs, rfl, repL_mono (fun y _ cs => (Rep_mono hle a y cs).1) q6, .inl ⟨rfl, cs, t, fz, by simp [g', hb, q2], fun i v hi => ?_⟩⟩⟩
   have hj : i < vs.length := (List.getElem?_eq_some_iff.1 hi).1
   have : cs.toList[i]? = some v := by rw [q5, List.getElem?_append_left hj]; exact hi
   simpa using this
theorem weakV_rep {g : G} {P' : Bool} {a : Ty} {v : AV} {r : Value} (h : VRep g v r) : VRep g (weakV P' a v) r := by
 unfold weakV
 split
 ·have h2 := (VRep_v (by simp)).1 h
  refine (VRep_v (by simp)).2 ?_
  simp only [TRep, Ty.agg, Ty.sk, Sk.agg, Bool.false_eq_true, if_false, Rep] at h2 ⊢
  exact ⟨none, 0, h2, by simp, by simp, by simp⟩
 ·rename_i p f b l
  split
  ·rename_i hp
   split
   ·rename_i m hm
    unfold castL at hm
    split at hm
    ·rename_i he
     simp only at he
     subst he
     simp only [Option.some.injEq] at hm
     subst hm
     have h2 := (VRep_v (by simp)).1 h
     refine (VRep_v (by simp)).2 ?_
     simp only [TRep, Ty.agg, Ty.sk, Sk.agg, Bool.false_eq_true, if_false, Rep] at h2 ⊢
     obtain ⟨pv, cap, h1, h3, h4, h5⟩ := h2
     refine ⟨pv, cap, h1, h3, by simp, fun hl => ?_⟩
     obtain ⟨ad, vs, q1, q2, q3⟩ := h5 hl
     refine ⟨ad, vs, q1, q2, q3.imp id fun ⟨q4, q5⟩ => ⟨?_, q5⟩⟩
     subst q4
     simpa using hp
    ·cases hm
   ·exact h
  ·exact h
 ·rename_i p b l
  split
  ·rename_i hp
   split
   ·rename_i m hm
    unfold castL at hm
    split at hm
    ·rename_i he
     simp only at he
     subst he
     simp only [Option.some.injEq] at hm
     subst hm
     have h2 := (VRep_v (by simp)).1 h
     refine (VRep_v (by simp)).2 ?_
     simp only [TRep, Ty.agg, Ty.sk, Sk.agg, Bool.false_eq_true, if_false, Rep] at h2 ⊢
     obtain ⟨pv, h1, h3, h5⟩ := h2
     refine ⟨pv, _, h1, ⟨Nat.le_refl _, h3⟩, by simp, fun hl => ?_⟩
     obtain ⟨ad, vs, q1, q2, q3⟩ := h5 hl
     refine ⟨ad, vs, q1, q2, q3.imp id fun ⟨q4, q5⟩ => ⟨?_, q5⟩⟩
     subst q4
     simpa using hp
    ·cases hm
   ·exact h
  ·exact h
 ·exact h
theorem argsRep_map {g : G} {f : AV → AV} (hf : ∀ v r, VRep g v r → VRep g (f v) r) : ∀ {vs : List AV} {rs : List Value}, argsRep g vs rs → argsRep g (vs.map f) rs
 | [], _, h => h
 | v :: vs, rs, ⟨r, rs', h1, h2, h3⟩ => ⟨r, rs', h1, hf v r h2, argsRep_map hf h3⟩
theorem weakS_rep {g : G} {vs : List AV} {rs : List Value} (h : argsRep g vs rs) : argsRep g (weakS vs) rs := by
 unfold weakS
 split
 ·exact argsRep_map (fun v r => weakV_rep) h
 ·exact h
theorem ents_setE {H : Heap} {e : Nat} {E : Entry} : ∀ {l : List Nat}, e ∉ l → ents (setE H e E) l = ents H l
 | [], _ => rfl
 | i :: l, h => by
  simp only [ents]
  rw [ents_setE (l := l) (fun hm => h (List.mem_cons_of_mem _ hm)), getE_setE, if_neg (by rintro ⟨rfl, _⟩; exact h (by simp))]
theorem upd_app : ∀ (l m : List (Nat × Entry)) (H : Heap), upd H (l ++ m) = upd (upd H l) m
 | [], _, _ => rfl
 | (i, e) :: l, m, H => upd_app l m _
theorem argsRep_le {g g' : G} (hle : g.le g') : ∀ {vs : List AV} {rs : List Value}, argsRep g vs rs → argsRep g' vs rs
 | [], _, h => h
 | v :: vs, rs, ⟨r, rs', h1, h2, h3⟩ => ⟨r, rs', h1, VRep_mono hle h2, argsRep_le hle h3⟩
theorem frzE_ok {w : World} {fr : Nat} : ∀ (vs : List AV) (g : G) (H : Heap) (rs : List Value) (us : List AV), HInv g H w → argsRep g vs rs → nodupB (ownIds vs) = true → frzE vs (ents H (ownIds vs)) = some us → getE H fr = .free ∧ fr < H.length →
  ∃ g', g.le g' ∧ HInv g' (upd H ((ownIds vs).map fun e => (e, .dead))) w ∧ argsRep g' us rs ∧ getE (upd H ((ownIds vs).map fun e => (e, .dead))) fr = .free ∧ fr < (upd H ((ownIds vs).map fun e => (e, .dead))).length
 | [], g, H, rs, us, hI, ha, _, he, hfr => by
  simp only [frzE, Option.some.injEq] at he
  subst he
  exact ⟨g, G.le.refl g, hI, ha, hfr⟩
 | v :: vs, g, H, rs, us, hI, ⟨r, rs', h1, h2, h3⟩, hn, he, hfr => by
  have keep : ∀ us', ownId v = [] → frzE vs (ents H (ownIds vs)) = some us' → us = v :: us' →
    ∃ g', g.le g' ∧ HInv g' (upd H ((ownIds (v :: vs)).map fun e => (e, .dead))) w ∧ argsRep g' us rs ∧ getE (upd H ((ownIds (v :: vs)).map fun e => (e, .dead))) fr = .free ∧ fr < (upd H ((ownIds (v :: vs)).map fun e => (e, .dead))).length := by
   intro us' hv hu heq
   subst heq
   simp only [ownIds, hv, List.nil_append] at hn ⊢
   obtain ⟨g', q1, q2, q3, q4⟩ := frzE_ok vs g H rs' us' hI h3 hn hu hfr
   exact ⟨g', q1, q2, ⟨r, rs', h1, VRep_mono q1 h2, q3⟩, q4⟩
  unfold frzE at he
  split at he
  ·rename_i heq; cases heq
  ·rename_i e k u vs' heq
   simp only [List.cons.injEq] at heq
   obtain ⟨rfl, rfl⟩ := heq
   simp only [ownIds, ownId, List.singleton_append, ents, nodupB, Bool.and_eq_true, Bool.not_eq_true', List.contains_eq_mem, decide_eq_false_iff_not] at he hn ⊢
   split at he
   ·rename_i k' a l es' hE
    simp only [List.cons.injEq] at hE
    obtain ⟨hE, rfl⟩ := hE
    split at he
    ·rename_i hk
     subst hk
     split at he
     ·rename_i us' hu
      simp only [Option.some.injEq] at he
      subst he
      obtain ⟨g1, q1, q2, q3⟩ := hI.freeze hE
      have hne : ¬ (fr = e) := by
       rintro rfl
       rw [hfr.1] at hE; cases hE
      have hu' : frzE vs (ents (setE H e .dead) (ownIds vs)) = some us' := by rw [ents_setE hn.1]; exact hu
      obtain ⟨g', p1, p2, p3, p4⟩ := frzE_ok vs g1 (setE H e .dead) rs' us' q2 (argsRep_le q1 h3) hn.2 hu' ⟨by rw [getE_setE, if_neg fun h => hne h.1]; exact hfr.1, by rw [setE_length]; exact hfr.2⟩
      refine ⟨g', q1.trans p1, p2, ⟨r, rs', h1, VRep_mono p1 (q3 r h2), p3⟩, p4⟩
     ·cases he
    ·cases he
   ·cases he
  ·rename_i v' vs' hnv heq
   simp only [List.cons.injEq] at heq
   obtain ⟨rfl, rfl⟩ := heq
   have hv : ownId v = [] := by
    unfold ownId
    split
    ·rename_i e k u; exact (hnv e k u rfl).elim
    ·rfl
   simp only [ownIds, hv, List.nil_append] at he
   split at he
   ·rename_i us' hu
    simp only [Option.some.injEq] at he
    exact keep us' hv hu he.symm
   ·cases he
theorem do_buildSlice {fz : Bool} (hI : HInv g H w) {t : TypeId} {n : Nat} {ps : Array (Nat × Operand)} {ρ : Operand → Value} {vs : List AV} (ha : argsRep g vs (ps.toList.map fun x => ρ x.2)) {fr : Nat} (hfr : getE H fr = .free ∧ fr < H.length) {out : Out}
  (he : (c_buildSlice P fz t n (ps.toList.map (·.1)) vs (ents H (bsIds fz vs)) fr).eval = some out) : Done P g H w (do pure (.value (← Instr.buildSlice t n (ps.map fun (i, x) => (i, ρ x))))) out := by
 unfold c_buildSlice at he
 split at he
 ·exact do_build hI ha hfr he
 rename_i hns
 have hids : bsIds fz vs = ownIds vs := by
  unfold bsIds
  split
  ·exact (hns _ _ _ rfl rfl).elim
  ·rfl
 rw [hids] at he
 split at he
 ·rename_i hn
  split at he
  ·rename_i us hu
   obtain ⟨r, h1, h2⟩ := Tr.bind_some he
   have := Tr.ret_some h2; subst this
   obtain ⟨g', q1, q2, q3, q4⟩ := frzE_ok vs g H _ us hI ha hn hu hfr
   obtain ⟨nx, rv', w', g'', w1, w2, w3, w4, w5⟩ := do_build q2 (weakS_rep q3) q4 h1
   exact ⟨nx, rv', w', g'', w1, w2, q1.trans w3, by rw [upd_app]; exact w4, w5⟩
  ·exact (Tr.fail_some he).elim
 ·exact (Tr.fail_some he).elim
theorem do_slice3 (hI : HInv g H w) {t : TypeId} {x : AV} {v : Value} (hx : VRep g x v) {lo hi mx : Option Value} {l h : Option Int} {m : Int} (hlo : Bound lo l) (hhi : Bound hi h) (hmx : Bound mx (some m)) {es : List Entry} (hes : ∀ e k u, x = .v (.vc e k) u → es = [getE H e]) {out : Out}
  (he : (c_slice3 P t l h m x es).eval = some out) : Done P g H w (do pure (.value (← Instr.sliceAt t v lo hi mx))) out := by
 unfold c_slice3 at he
 split at he
 ·rename_i q f a xs
  split at he
  ·rename_i hok
   simp only [Bool.and_eq_true] at hok
   obtain ⟨hc, he⟩ := Tr.chk_some he
   have := Tr.ret_some he; subst this
   simp only [Bool.and_eq_true, decide_eq_true_eq] at hc
   obtain ⟨c1, c2, c3, c4⟩ := hc
   obtain ⟨rv, q1, q2⟩ := imm_slice3 (w := w) hx hlo hhi hmx hok.1 hok.2 c1 c2 c3 c4
   exact done_val hI q1 q2
  ·exact (Tr.fail_some he).elim
 ·rename_i e k u
  rw [hes e k u rfl] at he
  split at he
  ·rename_i k' a xs hE
   simp only [List.cons.injEq, and_true] at hE
   split at he
   ·rename_i hok
    simp only [Bool.and_eq_true, decide_eq_true_eq] at hok
    obtain ⟨⟨rfl, hok⟩, hs⟩ := hok
    obtain ⟨hc, he⟩ := Tr.chk_some he
    have := Tr.ret_some he; subst this
    simp only [Bool.and_eq_true, decide_eq_true_eq] at hc
    obtain ⟨c1, c2, c3, c4⟩ := hc
    obtain ⟨g', w1, w2, w3⟩ := hI.freeze hE
    obtain ⟨rv, q1, q2⟩ := imm_slice3 (w := w) (w3 v hx) hlo hhi hmx hok hs c1 c2 c3 c4
    exact ⟨.value rv, rv, w, g', by simp [q1], .inl rfl, w1, w2, q2⟩
   ·exact (Tr.fail_some he).elim
  ·exact (Tr.fail_some he).elim
 ·exact (Tr.fail_some he).elim
theorem do_slice {ro : Bool} (hI : HInv g H w) {t : TypeId} {lo hi mx : Option Value} {bl bh bm : Bool} {pos : Bool} (hpos : pos = true → ∃ k n, lo = some (.int k n) ∧ 0 < n) (hbl : bl = lo.isSome) (hbh : bh = hi.isSome) (hbm : bm = mx.isSome) {vs : List AV} {r : Value} (ha : argsRep g vs (r :: (lo.toList ++ (hi.toList ++ (mx.toList ++ []))))) {out : Out}
  {ss : List ESh} (hss : ∀ e p (d : PD p) tl, vs = .v (.ptr e p) d :: tl → ss = [shp (getE H e)]) (hss2 : ∀ e p (d : SubD p) tl, vs = .v (.sub e p) d :: tl → ss = [shp (getE H e)])
  (he : (c_slice P ro t pos bl bh bm vs (ents H (headIds vs)) ss).eval = some out) : Done P g H w (do pure (.value (← Instr.sliceAt t r lo hi mx))) out := by
 unfold c_slice at he
 split at he
 ·rename_i x rs
  obtain ⟨v, rest, hrest, hx, ha⟩ := ha
  simp only [List.cons.injEq] at hrest
  obtain ⟨rfl, rfl⟩ := hrest
  split at he
  ·rename_i l r1 hb1
   obtain ⟨hlo, ha1⟩ := bnd_spec hbl hb1 ha
   split at he
   ·rename_i h r2 hb2
    obtain ⟨hhi, ha2⟩ := bnd_spec hbh hb2 ha1
    split at he
    ·rename_i m hb3
     obtain ⟨hmx, _⟩ := bnd_spec hbm hb3 ha2
     split at he
     ·split at he
      ·rename_i m'
       exact do_slice3 hI hx hlo hhi hmx (fun e k u hxx => by subst hxx; rfl) he
      ·have hmn : mx = none := by
        cases mx with
        | none => rfl
        | some v => exact hmx.elim
       subst hmn
       exact do_slice2 hI hpos hbl hlo hhi hx (fun e k u hxx => by subst hxx; rfl) he
     ·exact do_sliceA hI hx hlo hhi hmx (fun e p d hxx => hss e p d rs (by rw [hxx])) (fun e p d hxx => hss2 e p d rs (by rw [hxx])) he
    ·exact (Tr.fail_some he).elim
   ·exact (Tr.fail_some he).elim
  ·exact (Tr.fail_some he).elim
 ·exact (Tr.fail_some he).elim
end
end Vse
end
section
set_option linter.unusedVariables false
namespace Vse
open Go
section
variable {P : Program} {g : G} {w : World}
def Ty.cmpb : Ty → Bool
 | .bool | .int _ | .str | .unit => true
 | .prod a b => a.cmpb && b.cmpb
 | .arr _ a => a.cmpb
 | _ => false
theorem cmpFields_b {rec : TypeId → Ty → Bool} (h : ∀ t T, rec t T = true → T.cmpb = true) : ∀ (fs : List Field) (T : Ty), cmpFields rec fs T = true → T.cmpb = true
 | [], T, hc => by cases T <;> simp [cmpFields] at hc; rfl
 | f :: fs, T, hc => by
  cases T <;> simp only [cmpFields, Bool.false_eq_true] at hc
  simp only [Bool.and_eq_true] at hc
  simp only [Ty.cmpb, Bool.and_eq_true]
  exact ⟨h _ _ hc.1.2, cmpFields_b h fs _ hc.2⟩
theorem cmpTy_b : ∀ (n : Nat) (t : TypeId) (T : Ty), cmpTy P n t T = true → T.cmpb = true
 | 0, _, _, h => by simp [cmpTy] at h
 | n + 1, t, T, h => by
  unfold cmpTy at h
  split at h
  ·cases T <;> simp at h; rfl
  ·cases T <;> simp at h; rfl
  ·cases T <;> simp at h; rfl
  ·simp only [Bool.and_eq_true] at h
   exact cmpFields_b (cmpTy_b n) _ _ h.2
  ·cases T <;> simp only [Bool.false_eq_true] at h
   rename_i k a
   simp only [Bool.and_eq_true] at h
   exact (show a.cmpb = true from cmpTy_b n _ a h.2)
  ·cases h
theorem repL_lits {α : Type} {R : α → List Value → Prop} {Q : Value → Prop} (hR : ∀ x cs, R x cs → ∀ v ∈ cs, Q v) : ∀ {l : List α} {cs : List Value}, repL R l cs → ∀ v ∈ cs, Q v
 | [], cs, h, v, hv => by rw [show cs = [] from h] at hv; cases hv
 | x :: l, cs, ⟨c1, c2, e, h1, h2⟩, v, hv => by
  rw [e, List.mem_append] at hv
  rcases hv with hv | hv
  ·exact hR _ _ h1 v hv
  ·exact repL_lits hR h2 v hv
theorem repL_det {α : Type} {R : α → List Value → Prop} {n : Nat} : ∀ {l : List α} {cs cs' : List Value}, (∀ x ∈ l, ∀ cs cs', R x cs → R x cs' → cs = cs') → repL R l cs → repL R l cs' → cs = cs'
 | [], _, _, _, h, h' => by rw [show _ = [] from h, show _ = [] from h']
 | x :: l, _, _, hd, ⟨a, b, e, h1, h2⟩, ⟨a', b', e', h1', h2'⟩ => by
  rw [e, e', hd x (by simp) _ _ h1 h1', repL_det (n := n) (fun y hy => hd y (by simp [hy])) h2 h2']
theorem Rep_det : ∀ (T : Ty) (x : T.den) (cs cs' : List Value), T.cmpb = true → Rep g T x cs → Rep g T x cs' → cs = cs' := by
 intro T
 induction T with
 | bool => intro x cs cs' _ h h'; rw [show cs = _ from h, show cs' = _ from h']
 | unit => intro x cs cs' _ h h'; rw [show cs = _ from h, show cs' = _ from h']
 | int k => intro x cs cs' _ h h'; rw [h.1, h'.1]
 | str => intro x cs cs' _ h h'; rw [h.1, h'.1]
 | prod a b iha ihb =>
  rintro x cs cs' hc ⟨c1, c2, e, h1, h2⟩ ⟨d1, d2, e', h1', h2'⟩
  simp only [Ty.cmpb, Bool.and_eq_true] at hc
  rw [e, e', iha _ _ _ hc.1 h1 h1', ihb _ _ _ hc.2 h2 h2']
 | arr n a iha =>
  rintro x cs cs' hc ⟨_, h⟩ ⟨_, h'⟩
  exact repL_det (n := 0) (fun y _ cs cs' => iha y cs cs' hc) h h'
 | _ => intro x cs cs' hc; simp [Ty.cmpb] at hc
theorem eqT_iff : ∀ (T : Ty) (x y : T.den), T.cmpb = true → (eqT T x y = true ↔ x = y) := by
 intro T
 induction T with
 | bool => intro x y _; exact beq_iff_eq
 | unit => intro x y _; exact ⟨fun _ => rfl, fun _ => rfl⟩
 | int k => intro x y _; exact ⟨of_decide_eq_true, decide_eq_true⟩
 | str => intro x y _; exact MapKept.bytes_beq x y
 | prod a b iha ihb =>
  intro x y hc
  simp only [Ty.cmpb, Bool.and_eq_true] at hc
  simp only [eqT, Bool.and_eq_true, iha _ _ hc.1, ihb _ _ hc.2]
  exact ⟨fun h => Prod.ext h.1 h.2, fun h => by rw [h]; exact ⟨rfl, rfl⟩⟩
 | arr n a iha => intro x y hc; exact eqList_iff fun z _ u => iha z u hc
 | _ => intro x y hc; simp [Ty.cmpb] at hc
theorem sameBits_self {v : Value} (h : (∃ b, v = .bool b) ∨ (∃ k n, v = .int k n) ∨ ∃ s, v = .string s) (n : Nat) : Instr.sameBits n v v = true := by
 rcases h with ⟨b, rfl⟩ | ⟨k, m, rfl⟩ | ⟨s, rfl⟩
 ·unfold Instr.sameBits; simp
 ·unfold Instr.sameBits; simp
 ·unfold Instr.sameBits; exact (MapKept.bytes_beq s s).2 rfl
theorem Rep_lits : ∀ (T : Ty) (x : T.den) (cs : List Value), T.cmpb = true → Rep g T x cs → ∀ v ∈ cs, (∃ b, v = .bool b) ∨ (∃ k n, v = .int k n) ∨ ∃ s, v = .string s := by
 intro T
 induction T with
 | bool => intro x cs _ h v hv; rw [show cs = _ from h] at hv; simp only [List.mem_singleton] at hv; exact .inl ⟨_, hv⟩
 | unit => intro x cs _ h v hv; rw [show cs = [] from h] at hv; cases hv
 | int k => intro x cs _ h v hv; rw [h.1] at hv; simp only [List.mem_singleton] at hv; exact .inr (.inl ⟨_, _, hv⟩)
 | str => intro x cs _ h v hv; rw [h.1] at hv; simp only [List.mem_singleton] at hv; exact .inr (.inr ⟨_, hv⟩)
 | prod a b iha ihb =>
  rintro x cs hc ⟨c1, c2, e, h1, h2⟩ v hv
  simp only [Ty.cmpb, Bool.and_eq_true] at hc
  rw [e, List.mem_append] at hv
  rcases hv with hv | hv
  ·exact iha _ _ hc.1 h1 v hv
  ·exact ihb _ _ hc.2 h2 v hv
 | arr n a iha =>
  rintro x cs hc ⟨_, h⟩
  exact repL_lits (fun y cs hy => iha y cs hc hy) h
 | _ => intro x cs hc; simp [Ty.cmpb] at hc
def ChkAt (P : Program) (g : G) (em : Bool) (n : Nat) (t : TypeId) (T : Ty) : Prop :=
 ∀ (x : T.den) (xs : List Value) (va : Value) (d : Nat) (w : World), Rep g T x xs → (if T.agg then va = .agg xs.toArray else xs = [va]) → (Instr.checkKey em (n + d) t va).run P w = .ok () w
theorem chkFields_run {em : Bool} {n m : Nat} (ih : ∀ t T s, cmpTy P n t T = true → skOf P m t = some s → s = T.sk → ChkAt P g em n t T) (cx : Array Value) (d : Nat) (w : World) :
  ∀ (fs : List Field) (T : Ty) (s : Sk) (x : T.den) (xs : List Value) (off : Nat),
  cmpFields (cmpTy P n) fs T = true → skFields (skOf P m) fs off = some s → s = T.sk → Rep g T x xs → (∃ p, cx.toList = p ++ xs ∧ p.length = off) →
  (do
   let r ← forIn fs PUnit.unit fun f _ => do
    if f.name ≠ "_" then
     Instr.checkKey em (n + d) f.type (← part f.type cx f.offset)
     pure (ForInStep.yield PUnit.unit)
    else pure (ForInStep.yield PUnit.unit)
   pure () : Sem Unit).run P w = .ok () w := by
 intro fs
 induction fs with
 | nil => intro T s x xs off hc hs hT hx hp; simp
 | cons f fs ihf =>
  intro T s x xs off hc hs hT hx hpx
  cases T <;> simp only [cmpFields, Bool.false_eq_true] at hc
  rename_i a b
  simp only [Bool.and_eq_true] at hc
  obtain ⟨⟨hname, hca⟩, hcb⟩ := hc
  simp only [skFields] at hs
  split at hs
  ·rename_i ho
   split at hs
   ·rename_i sf hsf
    split at hs
    ·rename_i sr hsr
     simp only [Option.some.injEq] at hs
     rw [← hs] at hT
     simp only [Ty.sk, Sk.prod.injEq] at hT
     obtain ⟨ha, hb⟩ := hT
     obtain ⟨x1, x2, rfl, hx1, hx2⟩ := hx
     obtain ⟨px, ex, lx⟩ := hpx
     have l1 := Rep_length _ _ _ hx1
     have hn : sf.nc = a.nc := by unfold Ty.nc; rw [ha]
     have sx : seg cx.toList f.offset sf.nc = x1 := by rw [ex, ho, ← lx, show px.length = px.length + 0 by omega, seg_append_right, seg_append_left (by omega), seg_all (by omega)]
     have zx : f.offset + sf.nc ≤ cx.size := by
      have := congrArg List.length ex
      simp only [Array.length_toList, List.length_append] at this
      omega
     obtain ⟨va, ra, hva⟩ := run_part_sk hsf w cx f.offset zx
     rw [sx] at hva
     have hag : a.agg = sf.agg := by unfold Ty.agg; rw [ha]
     have he := ih f.type a sf hca hsf ha x.1 x1 va d w hx1 (by rw [hag]; exact hva)
     have hne : f.name ≠ "_" := by simpa using hname
     have hi := ihf b sr x.2 x2 (off + sf.nc) hcb hsr hb hx2 ⟨px ++ x1, by rw [ex, List.append_assoc], by rw [List.length_append]; omega⟩
     simp only [List.forIn_cons, Sem.run_bind, hne, ne_eq, not_false_eq_true, if_true, Result.andThen_ok, ra, he, Sem.run_pure] at hi ⊢
     exact hi
    ·cases hs
   ·cases hs
  ·cases hs
theorem chkItems_run {em : Bool} {n m : Nat} {e : TypeId} {a : Ty} {s : Sk} (ih : ChkAt P g em n e a) (hs : skOf P m e = some s) (hsa : s = a.sk) {i0 : TypeInfo} (hi0 : P.info? e = some i0) (cx : Array Value) (d : Nat) (w : World) :
  ∀ (x : List a.den) (xs : List Value) (i : Nat), repL (Rep g a) x xs → (∃ p, cx.toList = p ++ xs ∧ p.length = i * a.nc) →
  (do
   let r ← forIn (List.range' i x.length) PUnit.unit fun j _ => do
    Instr.checkKey em (n + d) e (← part e cx (j * (← Go.sizeOf e)))
    pure (ForInStep.yield PUnit.unit)
   pure () : Sem Unit).run P w = .ok () w := by
 intro x
 induction x with
 | nil => intro xs i hx hp; simp
 | cons x0 x ihx =>
  intro xs i hx hpx
  obtain ⟨x1, x2, rfl, hx1, hx2⟩ := hx
  obtain ⟨px, ex, lx⟩ := hpx
  have l1 := Rep_length _ _ _ hx1
  have hn : s.nc = a.nc := by unfold Ty.nc; rw [hsa]
  have hz : P.cellsOf e = a.nc := by rw [cellsOf_sk hs, hn]
  have sx : seg cx.toList (i * P.cellsOf e) s.nc = x1 := by rw [ex, hz, ← lx, show px.length = px.length + 0 by omega, seg_append_right, seg_append_left (by omega), seg_all (by omega)]
  have zx : i * P.cellsOf e + s.nc ≤ cx.size := by
   have := congrArg List.length ex
   simp only [Array.length_toList, List.length_append] at this
   rw [hz]; omega
  obtain ⟨va, ra, hva⟩ := run_part_sk hs w cx _ zx
  rw [sx] at hva
  have hag : a.agg = s.agg := by unfold Ty.agg; rw [hsa]
  have he := ih x0 x1 va d w hx1 (by rw [hag]; exact hva)
  have hi := ihx x2 (i + 1) hx2 ⟨px ++ x1, by rw [ex, List.append_assoc], by rw [List.length_append, lx, l1, Nat.add_mul]; omega⟩
  simp only [List.length_cons, List.range'_succ, List.forIn_cons, Sem.run_bind, run_sizeOf w hi0, Result.andThen_ok, ra, he, Sem.run_pure] at hi ⊢
  exact hi
theorem chk_run (em : Bool) : ∀ (n : Nat) (t : TypeId) (T : Ty) (m : Nat) (s : Sk), cmpTy P n t T = true → skOf P m t = some s → s = T.sk → ChkAt P g em n t T
 | 0, t, T, m, s, h, _, _ => by simp [cmpTy] at h
 | n + 1, t, T, m, s, h, hs, hT => by
  intro x xs va d w hx hva
  rw [show n + 1 + d = (n + d) + 1 by omega]
  unfold cmpTy at h
  split at h
  ·rename_i hu
   unfold Instr.checkKey
   simp only [Sem.run_bind, run_underlying hu, Result.andThen_ok]; rfl
  ·rename_i k hu
   unfold Instr.checkKey
   simp only [Sem.run_bind, run_underlying hu, Result.andThen_ok]; rfl
  ·rename_i hu
   unfold Instr.checkKey
   simp only [Sem.run_bind, run_underlying hu, Result.andThen_ok]; rfl
  ·rename_i fs hu
   simp only [Bool.and_eq_true, Bool.not_eq_true'] at h
   obtain ⟨i, hi, hz, d', hu', hd⟩ := skOf_spec hs
   rw [hu] at hu'
   simp only [Option.some.injEq] at hu'
   subst hu'
   rcases hd with ⟨_, h1, _⟩ | ⟨fs', m', hfs, rfl, hsf, hag⟩ | ⟨k, e, a, m', hk, _⟩
   ·exact absurd rfl (h1 fs)
   ·simp only [TypeDesc.struct.injEq] at hfs
    subst hfs
    have hTa : T.agg = true := by unfold Ty.agg; rw [← hT]; exact hag
    rw [if_pos hTa] at hva
    subst hva
    unfold Instr.checkKey
    simp only [Sem.run_bind, run_underlying hu, Result.andThen_ok]
    rw [← Array.forIn_toList]
    have := chkFields_run (fun t T s hc hs hT => chk_run em n t T m' s hc hs hT) xs.toArray d w fs.toList T s x xs 0 h.2 hsf hT hx ⟨[], by simp, rfl⟩
    rw [Sem.run_bind] at this
    exact this
   ·cases hk
  ·rename_i k e hu
   cases T <;> simp only [Bool.false_eq_true] at h
   rename_i k' a
   simp only [Bool.and_eq_true, beq_iff_eq] at h
   obtain ⟨i, hi, hz, d', hu', hd⟩ := skOf_spec hs
   rw [hu] at hu'
   simp only [Option.some.injEq] at hu'
   subst hu'
   rcases hd with ⟨_, _, h2⟩ | ⟨fs', m', hfs, _⟩ | ⟨k2, e2, a2, m', hk, rfl, hsa, rfl⟩
   ·exact absurd rfl (h2 k e)
   ·cases hfs
   ·simp only [TypeDesc.array.injEq] at hk
    obtain ⟨rfl, rfl⟩ := hk
    simp only [Ty.sk, Sk.arr.injEq] at hT
    have hTa : (Ty.arr k' a).agg = true := rfl
    rw [if_pos hTa] at hva
    subst hva
    obtain ⟨lx, hx⟩ := hx
    obtain ⟨ie, hie, _⟩ := skOf_spec hsa
    unfold Instr.checkKey
    simp only [Sem.run_bind, run_underlying hu, Result.andThen_ok]
    simp only [Std.Legacy.Range.forIn_eq_forIn_range', Std.Legacy.Range.size, Nat.sub_zero, Nat.add_one_sub_one, Nat.div_one]
    rw [h.1, ← lx]
    have := chkItems_run (chk_run em n e a m' a2 h.2 hsa hT.2) hsa hT.2 hie xs.toArray d w x xs 0 hx ⟨[], by simp, by simp⟩
    rw [Sem.run_bind] at this
    exact this
  ·cases h
theorem keyTy_spec {t : TypeId} {K : Ty} (h : keyTy P t = some K) : (∃ k, P.underlying t = some (.int k) ∧ K = .int k) ∨ (P.underlying t = some .string ∧ K = .str) ∨
  ((∃ fs, P.underlying t = some (.struct fs)) ∨ ∃ n e, P.underlying t = some (.array n e)) ∧ keyAgg P t = some K := by
 unfold keyTy at h
 split at h
 ·rename_i k hk; simp only [Option.some.injEq] at h; exact .inl ⟨k, hk, h.symm⟩
 ·rename_i hk; simp only [Option.some.injEq] at h; exact .inr (.inl ⟨hk, h.symm⟩)
 ·rename_i fs hk; exact .inr (.inr ⟨.inl ⟨fs, hk⟩, h⟩)
 ·rename_i n e hk; exact .inr (.inr ⟨.inr ⟨n, e, hk⟩, h⟩)
 ·cases h
theorem keyAgg_spec {t : TypeId} {K : Ty} (h : keyAgg P t = some K) : cmpTy P depth0 t K = true ∧ sk? P t = some K.sk ∧ P.eqGuardType P.depth t = false ∧ K.agg = true := by
 unfold keyAgg at h
 split at h
 ·split at h
  ·rename_i hc
   simp only [Option.some.injEq] at h
   subst h
   simp only [Bool.and_eq_true, beq_iff_eq, Bool.not_eq_true'] at hc
   exact ⟨hc.1.1.1, hc.1.1.2, hc.1.2, hc.2⟩
  ·cases h
 ·cases h
theorem key_b {t : TypeId} {K : Ty} (h : keyTy P t = some K) : K.cmpb = true := by
 rcases keyTy_spec h with ⟨k, _, rfl⟩ | ⟨_, rfl⟩ | ⟨_, h⟩
 ·rfl
 ·rfl
 ·exact cmpTy_b _ _ _ (keyAgg_spec h).1
theorem key_und {t : TypeId} {K : Ty} (h : keyTy P t = some K) : K ≠ .und := by
 intro hK
 have := key_b h
 rw [hK] at this
 cases this
theorem key_under {t : TypeId} {K : Ty} (h : keyTy P t = some K) : ∃ d, P.underlying t = some d := by
 rcases keyTy_spec h with ⟨k, h, _⟩ | ⟨h, _⟩ | ⟨⟨fs, h⟩ | ⟨n, e, h⟩, _⟩ <;> exact ⟨_, h⟩
theorem sameNow_key {t : TypeId} {K : Ty} (hK : keyTy P t = some K) {d : TypeDesc} (hd : P.underlying t = some d) {x y : K.den} {u v : Value} (hx : TRep g K x u) (hy : TRep g K y v) :
  Instr.sameNow d u v = some (eqT K x y) ∨ (Instr.sameNow d u v = none ∧ ∀ w, (Op.equal t u v).run P w = .ok (eqT K x y) w) := by
 rcases keyTy_spec hK with ⟨k, hk, rfl⟩ | ⟨hk, rfl⟩ | ⟨hk, ha⟩
 ·left
  rw [hk] at hd; cases hd
  obtain ⟨rfl, _⟩ := TRep_int.1 hx
  obtain ⟨rfl, _⟩ := TRep_int.1 hy
  simp only [Instr.sameNow, if_true, eqT, Option.some.injEq]
  exact Bool.eq_iff_iff.2 (by rw [beq_iff_eq, decide_eq_true_eq])
 ·left
  rw [hk] at hd; cases hd
  obtain ⟨rfl, _⟩ := TRep_str.1 hx
  obtain ⟨rfl, _⟩ := TRep_str.1 hy
  rfl
 ·right
  obtain ⟨h1, h2, h3, h4⟩ := keyAgg_spec ha
  refine ⟨?_, fun w => ?_⟩
  ·rcases hk with ⟨fs, hk⟩ | ⟨n, e, hk⟩ <;> (rw [hk] at hd; cases hd; simp [Instr.sameNow])
  ·have : (eqlT P t K x y).eval = some (eqT K x y) := by
    unfold eqlT
    rw [if_pos (by simp [h1, h2, h3])]
    rfl
   exact (eqlT_run this hx hy w).2.2
theorem eqT_key {t : TypeId} {K : Ty} (hK : keyTy P t = some K) {x y : K.den} (h : eqT K x y = true) : x = y := (eqT_iff K x y (key_b hK)).1 h
theorem sameBits_key {t : TypeId} {K : Ty} (hK : keyTy P t = some K) {x : K.den} {u v : Value} (hx : TRep g K x u) (hy : TRep g K x v) (n : Nat) : Instr.sameBits (n + 1) u v = true := by
 have hb := key_b hK
 obtain ⟨xs, hxs, hva⟩ := TRep_agg_val hx
 obtain ⟨ys, hys, hvb⟩ := TRep_agg_val hy
 have := Rep_det K x xs ys hb hxs hys
 subst this
 have hl := Rep_lits K x xs hb hxs
 split at hva
 ·rw [if_pos (by assumption)] at hvb
  subst hva; subst hvb
  simp only [Instr.sameBits, beq_self_eq_true, Bool.true_and, List.all_eq_true]
  intro p hp
  obtain ⟨i, hi, e⟩ := List.getElem_of_mem hp
  rw [List.getElem_zip] at e
  rw [← e]
  exact sameBits_self (hl _ (List.getElem_mem _)) n
 ·rw [if_neg (by assumption)] at hvb
  have : u = v := by rw [hva] at hvb; simpa using hvb
  subst this
  exact sameBits_self (hl _ (by rw [hva]; simp)) (n + 1)
theorem run_checkKey' {t : TypeId} {K : Ty} (hK : keyTy P t = some K) (e : Bool) {x : K.den} {v : Value} (hx : TRep g K x v) (w : World) : (Instr.checkKey e 10000 t v).run P w = .ok () w := by
 rcases keyTy_spec hK with ⟨k, hk, rfl⟩ | ⟨hk, rfl⟩ | ⟨hk, ha⟩
 ·unfold Instr.checkKey
  simp only [Sem.run_bind, run_underlying hk, Result.andThen_ok]; rfl
 ·unfold Instr.checkKey
  simp only [Sem.run_bind, run_underlying hk, Result.andThen_ok]; rfl
 ·obtain ⟨h1, h2, h3, h4⟩ := keyAgg_spec ha
  obtain ⟨xs, hxs, hva⟩ := TRep_agg_val hx
  exact chk_run e depth0 t K depth0 _ h1 h2 rfl x xs v 9988 w hxs hva
def mapAt {K V : Ty} (x : K.den) : List (K.den × V.den) → Nat → Option Nat
 | [], _ => none
 | e :: l, i => if eqT K x e.1 then some i else mapAt x l (i + 1)
theorem findNow_spec {t : TypeId} {K V : Ty} (hK : keyTy P t = some K) {d : TypeDesc} (hd : P.underlying t = some d) {x : K.den} {u : Value} (hx : TRep g K x u) : ∀ {l : List (K.den × V.den)} {es : List MapEntry} (i : Nat),
  mapRep (fun x v => TRep g K x v) (fun x v => TRep g V x v) l es →
  (mapLook l x = none ∧ mapAt x l i = none ∧ (Instr.findNow d u es i = some none ∨ (Instr.findNow d u es i = none ∧ ∀ w, (Instr.findAsking t u es i).run P w = .ok none w))) ∨
   ∃ j v val, mapLook l x = some v ∧ mapAt x l i = some (i + j) ∧ (Instr.findNow d u es i = some (some (i + j, val)) ∨ (Instr.findNow d u es i = none ∧ ∀ w, (Instr.findAsking t u es i).run P w = .ok (some (i + j, val)) w)) ∧
    TRep g V v val ∧ ∃ e, es[j]? = some e ∧ TRep g K x e.key
 | [], es, i, h => by
  simp only [mapRep] at h
  subst h
  exact .inl ⟨rfl, rfl, .inl rfl⟩
 | e :: l, es, i, ⟨m, r, h1, h2, h3, h4⟩ => by
  subst h1
  have hs := sameNow_key hK hd hx h2
  simp only [mapLook, mapAt, Instr.findNow, Instr.findAsking]
  cases he : eqT K x e.1 with
  | true =>
   rw [he] at hs
   refine .inr ⟨0, e.2, m.val, by simp, by simp, ?_, h3, m, rfl, ?_⟩
   ·rcases hs with hs | ⟨hs, hw⟩
    ·exact .inl (by simp [hs])
    ·exact .inr ⟨by simp [hs], fun w => by simp only [Sem.run_bind, hw w, Result.andThen_ok]; rfl⟩
   ·have := eqT_key hK he
    rw [this]; exact h2
  | false =>
   rw [he] at hs
   simp only [Bool.false_eq_true, if_false]
   have kind : (∀ (a b : K.den) (p q : Value), TRep g K a p → TRep g K b q → Instr.sameNow d p q ≠ none) ∨ (∀ (p q : Value), TRep g K x p → Instr.sameNow d p q = none) := by
    rcases keyTy_spec hK with ⟨k, hk, rfl⟩ | ⟨hk, rfl⟩ | ⟨hk, _⟩
    ·left
     intro a b p q hp hq
     rw [hk] at hd; cases hd
     obtain ⟨rfl, _⟩ := TRep_int.1 hp
     obtain ⟨rfl, _⟩ := TRep_int.1 hq
     simp [Instr.sameNow]
    ·left
     intro a b p q hp hq
     rw [hk] at hd; cases hd
     obtain ⟨rfl, _⟩ := TRep_str.1 hp
     obtain ⟨rfl, _⟩ := TRep_str.1 hq
     simp [Instr.sameNow]
    ·right
     intro p q _
     rcases hk with ⟨fs, hk⟩ | ⟨n, e, hk⟩ <;> (rw [hk] at hd; cases hd; simp [Instr.sameNow])
   rcases hs with hs | ⟨hs, hw⟩
   ·simp only [hs]
    have now : ∀ {r : List MapEntry} {l : List (K.den × V.den)} (i : Nat), mapRep (fun x v => TRep g K x v) (fun x v => TRep g V x v) l r → Instr.findNow d u r i ≠ none := by
     rcases kind with hk | hk
     ·intro r l
      induction l generalizing r with
      | nil => intro i h; rw [show r = [] from h]; simp [Instr.findNow]
      | cons y l ih =>
       rintro i ⟨m', r', rfl, q1, q2, q3⟩
       simp only [Instr.findNow]
       have := hk x y.1 u m'.key hx q1
       cases hsn : Instr.sameNow d u m'.key with
       | none => exact absurd hsn this
       | some b => cases b <;> simp [ih (i + 1) q3]
     ·exact absurd (hk u m.key hx) (by rw [hs]; simp)
    rcases findNow_spec hK hd hx (i + 1) h4 with ⟨q1, q2, q3⟩ | ⟨j, v, val, q1, q2, q3, q4, e', q5, q6⟩
    ·exact .inl ⟨q1, q2, .inl (q3.resolve_right fun h => now _ h4 h.1)⟩
    ·refine .inr ⟨j + 1, v, val, q1, by rw [q2]; congr 1; omega, .inl ?_, q4, e', by simpa using q5, q6⟩
     rw [q3.resolve_right fun h => now _ h4 h.1, show i + 1 + j = i + (j + 1) by omega]
   ·simp only [hs]
    have ask : ∀ {r : List MapEntry} {o : Option (Nat × Value)} (i : Nat), Instr.findNow d u r i = some o → r = [] ∧ o = none := by
     intro r o i h
     cases r with
     | nil => simp only [Instr.findNow, Option.some.injEq] at h; exact ⟨rfl, h.symm⟩
     | cons m' r =>
      exfalso
      rcases kind with hk | hk
      ·exact hk x e.1 u m.key hx h2 hs
      ·simp only [Instr.findNow, hk u m'.key hx] at h
       cases h
    have asked : ∀ (o : Option (Nat × Value)), (Instr.findNow d u r (i + 1) = some o ∨ (Instr.findNow d u r (i + 1) = none ∧ ∀ w, (Instr.findAsking t u r (i + 1)).run P w = .ok o w)) → ∀ w, (Instr.findAsking t u r (i + 1)).run P w = .ok o w := by
     intro o h w
     rcases h with h | h
     ·obtain ⟨rfl, rfl⟩ := ask _ h
      rfl
     ·exact h.2 w
    rcases findNow_spec hK hd hx (i + 1) h4 with ⟨q1, q2, q3⟩ | ⟨j, v, val, q1, q2, q3, q4, e', q5, q6⟩
    ·refine .inl ⟨q1, q2, .inr ⟨trivial, fun w => ?_⟩⟩
     simp only [Sem.run_bind, hw w, Result.andThen_ok, Bool.false_eq_true, if_false]
     exact asked _ q3 w
    ·refine .inr ⟨j + 1, v, val, q1, by rw [q2]; congr 1; omega, .inr ⟨trivial, fun w => ?_⟩, q4, e', by simpa using q5, q6⟩
     simp only [Sem.run_bind, hw w, Result.andThen_ok, Bool.false_eq_true, if_false]
     rw [asked _ q3 w, show i + 1 + j = i + (j + 1) by omega]
theorem run_findKey {t : TypeId} {K : Ty} (hK : keyTy P t = some K) {u : Value} {es : List MapEntry} {r : Option (Nat × Value)} {d : TypeDesc} (hd : P.underlying t = some d)
  (h : Instr.findNow d u es 0 = some r ∨ (Instr.findNow d u es 0 = none ∧ ∀ w, (Instr.findAsking t u es 0).run P w = .ok r w)) (w : World) :
  (Instr.findKey t u es).run P w = .ok r w := by
 unfold Instr.findKey
 rcases h with h | ⟨h, hw⟩
 ·simp only [Sem.run_bind, run_underlying hd, Result.andThen_ok, h]
  rfl
 ·simp only [Sem.run_bind, run_underlying hd, Result.andThen_ok, h]
  exact hw w
end
end Vse
end
section
set_option linter.unusedVariables false
namespace Vse
open Go
section
variable {P : Program} {g : G} {H : Heap} {w : World}
theorem put_rep {K V : Ty} {x : K.den} {v : V.den} {key val : Value} (hx : TRep g K x key) (hv : TRep g V v val) (clock : Nat) : ∀ {l : List (K.den × V.den)} {es : List MapEntry} (i : Nat), mapRep (fun x v => TRep g K x v) (fun x v => TRep g V x v) l es →
  (mapAt x l i = none → mapRep (fun x v => TRep g K x v) (fun x v => TRep g V x v) (mapPut l x v) (es ++ [{ key := key, val := val, born := clock }])) ∧
   ∀ j, mapAt x l i = some (i + j) → mapRep (fun x v => TRep g K x v) (fun x v => TRep g V x v) (mapPut l x v) (es.modify j fun e => { e with key := key, val := val })
 | [], es, i, h => by
  simp only [mapRep] at h
  subst h
  exact ⟨fun _ => ⟨_, [], rfl, hx, hv, rfl⟩, fun j hj => absurd hj (by simp [mapAt])⟩
 | e :: l, es, i, ⟨m, r, h1, h2, h3, h4⟩ => by
  subst h1
  simp only [mapAt, mapPut]
  cases he : eqT K x e.1 with
  | true =>
   simp only [if_true]
   refine ⟨fun h => absurd h (by simp), fun j hj => ?_⟩
   have : j = 0 := by simp only [Option.some.injEq] at hj; omega
   subst this
   exact ⟨_, r, rfl, hx, hv, h4⟩
  | false =>
   simp only [Bool.false_eq_true, if_false]
   obtain ⟨q1, q2⟩ := put_rep hx hv clock (i + 1) h4
   refine ⟨fun h => ⟨m, _, rfl, h2, h3, q1 h⟩, fun j hj => ?_⟩
   have hle : ∀ {l : List (K.den × V.den)} {a b : Nat}, mapAt x l a = some b → a ≤ b := by
    intro l
    induction l with
    | nil => intro a b h; cases h
    | cons y l ih =>
     intro a b h
     simp only [mapAt] at h
     split at h
     ·simp only [Option.some.injEq] at h; omega
     ·have := ih h; omega
   have := hle hj
   obtain ⟨j, rfl⟩ : ∃ j', j = j' + 1 := ⟨j - 1, by omega⟩
   exact ⟨m, _, rfl, h2, h3, q2 j (by rw [hj]; congr 1; omega)⟩
theorem del_rep {K V : Ty} {x : K.den} : ∀ {l : List (K.den × V.den)} {es : List MapEntry} (i : Nat), mapRep (fun x v => TRep g K x v) (fun x v => TRep g V x v) l es →
  (mapAt x l i = none → mapRep (fun x v => TRep g K x v) (fun x v => TRep g V x v) (mapDel l x) es) ∧
   ∀ j, mapAt x l i = some (i + j) → mapRep (fun x v => TRep g K x v) (fun x v => TRep g V x v) (mapDel l x) (es.eraseIdx j)
 | [], es, i, h => ⟨fun _ => h, fun j hj => absurd hj (by simp [mapAt])⟩
 | e :: l, es, i, ⟨m, r, h1, h2, h3, h4⟩ => by
  subst h1
  simp only [mapAt, mapDel]
  cases he : eqT K x e.1 with
  | true =>
   simp only [if_true]
   refine ⟨fun h => absurd h (by simp), fun j hj => ?_⟩
   have : j = 0 := by simp only [Option.some.injEq] at hj; omega
   subst this
   exact h4
  | false =>
   simp only [Bool.false_eq_true, if_false]
   obtain ⟨q1, q2⟩ := del_rep (x := x) (i + 1) h4
   refine ⟨fun h => ⟨m, _, rfl, h2, h3, q1 h⟩, fun j hj => ?_⟩
   have hle : ∀ {l : List (K.den × V.den)} {a b : Nat}, mapAt x l a = some b → a ≤ b := by
    intro l
    induction l with
    | nil => intro a b h; cases h
    | cons y l ih =>
     intro a b h
     simp only [mapAt] at h
     split at h
     ·simp only [Option.some.injEq] at h; omega
     ·have := ih h; omega
   have := hle hj
   obtain ⟨j, rfl⟩ : ∃ j', j = j' + 1 := ⟨j - 1, by omega⟩
   exact ⟨m, _, rfl, h2, h3, q2 j (by rw [hj]; congr 1; omega)⟩
theorem HInv.setMap (h : HInv g H w) {e b : Nat} {K V : Ty} {l l' : List (K.den × V.den)} {es es' : Array MapEntry} {clock clock' : Nat}
  (hE : getE H e = .map K V l) (hb : g.bl e = some b) (hc : w.heap[b]? = some (.map es clock)) (hl : mapRep (fun x v => TRep g K x v) (fun x v => TRep g V x v) l' es'.toList) :
  ∃ g', g.le g' ∧ HInv g' (setE H e (.map K V l')) { w with heap := w.heap.setIfInBounds b (.map es' clock') } := by
 have hlive : (getE H e).live = true := by rw [hE]; rfl
 have hlt := lt_of_live hlive
 have hsh : g.sh e = .map := by rw [h.sh, hE]; rfl
 have hle : g.le (g.put e (shp (.map K V l')) (some b) (g.sz e)) := by
  refine G.put_le (.same (by simp [G.put, shp, hsh]) (by simp [G.put, hb]) (by simp [G.put]))
 have hbl : b < w.heap.size := (Array.getElem?_eq_some_iff.1 hc).1
 refine ⟨_, hle, h.turn hlt hle ?_ ?_ ?_ ?_ ?_⟩
 ·intro b' o hne ho
  have : b ≠ b' := fun q => hne b hlive hb q.symm
  simp only [Array.getElem?_setIfInBounds, if_neg this]
  exact ho
 ·exact ⟨b, es', clock', by simp [G.put], by simp [Array.getElem?_setIfInBounds, hbl], mapRep_mono (fun _ _ => TRep_mono hle) (fun _ _ => TRep_mono hle) hl⟩
 ·intro b' hb'
  cases hb'
  exact h.own e b hlive hb
 ·intro i b' hi hl hb' hc'
  cases hc'
  exact hi (h.dis i e b hl hlive hb' hb)
 ·exact h.ext.goes ⟨rfl, Nat.le_refl _⟩
theorem HInv.newMap (h : HInv g H w) {fr : Nat} (hf : getE H fr = .free) (hlt : fr < H.length) (K V : Ty) :
  ∃ g', g.le g' ∧ HInv g' (setE H fr (.map K V [])) (w.alloc (.map #[] 0)) ∧ g'.sh fr = .map ∧ g'.bl fr = some w.heap.size := by
 have hsh : g.sh fr = .free := by rw [h.sh, hf]; rfl
 have hle : g.le (g.put fr (shp (.map K V [])) (some w.heap.size) 0) := G.put_le (.new hsh)
 have hnl : (getE H fr).live = false := by rw [hf]; rfl
 refine ⟨_, hle, h.turn hlt hle ?_ ?_ ?_ ?_ ?_, by simp [G.put, shp], by simp [G.put]⟩
 ·intro b' o hne ho
  exact push_old (o := .map #[] 0) ho
 ·exact ⟨w.heap.size, #[], 0, by simp [G.put], (MapKept.heap_alloc w _).1, rfl⟩
 ·intro b' hb'
  cases hb'
  constructor
  ·cases hq : g.fr w.heap.size with
   | none => rfl
   | some o => have := h.fr _ _ hq; simp at this
  ·cases hq : g.gr w.heap.size with
   | none => rfl
   | some o => have := h.gr _ _ hq; simp at this
 ·intro i b' hi hl hb' hc'
  cases hc'
  obtain ⟨o, ho⟩ := h.there hl hb'
  simp at ho
 ·exact h.ext.goes ⟨rfl, Nat.le_refl _⟩
theorem do_makeMap (hI : HInv g H w) {t : TypeId} {vs : List AV} {rs : List Value} (ha : argsRep g vs rs) {fr : Nat} (hf : getE H fr = .free) (hlt : fr < H.length) {out : Out}
  (he : (c_makeMap P t fr vs).eval = some out) (hrs : vs = [] → rs = [] → True) : vs = [] ∧ Done P g H w (do pure (.value (← Instr.makeMap t none))) out := by
 unfold c_makeMap at he
 split at he
 ·refine ⟨rfl, ?_⟩
  split at he
  ·split at he
   ·rename_i K hK
    split at he
    ·rename_i z hz
     have := Tr.ret_some he; subst this
     obtain ⟨g', q1, q2, q3, q4⟩ := hI.newMap hf hlt K z
     refine ⟨_, .map (some w.heap.size), _, g', ?_, .inl rfl, q1, q2, ?_⟩
     ·have hm : (Instr.makeMap t none).run P w = .ok (.map (some w.heap.size)) (w.alloc (.map #[] 0)) := rfl
      simp only [Sem.run_bind, hm, Result.andThen_ok, Sem.run_pure]
     ·refine (VRep_v (by simp)).2 (TRep_of_leaf rfl ?_)
      exact ⟨⟨_, rfl, rfl⟩, by simp only [G.mpr, q3]; exact ⟨_, q4, rfl⟩⟩
    ·exact (Tr.fail_some he).elim
   ·exact (Tr.fail_some he).elim
  ·exact (Tr.fail_some he).elim
 ·exact (Tr.fail_some he).elim
theorem mp_spec (hI : HInv g H w) {e : Nat} {u : Unit} {r : Value} (hr : VRep g (.v (.mp e) u) r) {K V : Ty} {l : List (K.den × V.den)} (hE : getE H e = .map K V l) :
  ∃ b es clock, r = .map (some b) ∧ g.bl e = some b ∧ w.heap[b]? = some (.map es clock) ∧ mapRep (fun x v => TRep g K x v) (fun x v => TRep g V x v) l es.toList := by
 have hsh : g.sh e = .map := by rw [hI.sh, hE]; rfl
 have hr' := (VRep_v (by simp)).1 hr
 simp only [TRep, Ty.agg, Ty.sk, Sk.agg, Bool.false_eq_true, if_false, Rep, G.mpr, hsh] at hr'
 obtain ⟨_, b, hb, hh⟩ := hr'
 simp only [List.cons.injEq, and_true] at hh
 have hent := hI.ent e
 rw [hE] at hent
 obtain ⟨b', es, clock, q1, q2, q3⟩ := hent
 rw [hb] at q1
 cases q1
 exact ⟨b, es, clock, hh, hb, q2, q3⟩
theorem asW_cast {W T : Ty} {x : T.den} {y : W.den} (h : castT ⟨T, x⟩ W = some y) : (⟨T, x⟩ : TV) = ⟨W, y⟩ := castT_spec h
theorem asW_sk : ∀ (W T : Ty) (x : T.den) (y : W.den), asW W T x = some y → W.sk = T.sk := by
 intro W
 have dflt : ∀ {W T : Ty} {x : T.den} {y : W.den}, castT ⟨T, x⟩ W = some y → W.sk = T.sk := by
  intro W T x y h
  have := asW_cast h
  simp only [TV.mk.injEq] at this
  rw [this.1]
 induction W with
 | prod a b iha ihb =>
  intro T x y h
  cases T <;> simp only [asW] at h <;> try (cases h; done)
  split at h
  ·rename_i y1 h1
   split at h
   ·rename_i y2 h2
    simp only [Ty.sk]
    rw [iha _ _ _ h1, ihb _ _ _ h2]
   ·cases h
  ·cases h
 | imm p f a => intro T x y h; cases T <;> simp only [asW] at h <;> first | (cases h; done) | rfl
 | _ => intro T x y h; exact dflt h
theorem asW_Rep : ∀ (W T : Ty) (x : T.den) (y : W.den) (cs : List Value), asW W T x = some y → Rep g T x cs → Rep g W y cs := by
 intro W
 have dflt : ∀ {W T : Ty} {x : T.den} {y : W.den} (cs : List Value), castT ⟨T, x⟩ W = some y → Rep g T x cs → Rep g W y cs := by
  intro W T x y cs h hr
  have := asW_cast h
  simp only [TV.mk.injEq] at this
  obtain ⟨rfl, h2⟩ := this
  have h2 := eq_of_heq h2
  subst h2
  exact hr
 induction W with
 | prod a b iha ihb =>
  intro T x y cs h hr
  cases T <;> simp only [asW] at h <;> try (cases h; done)
  split at h
  ·rename_i y1 h1
   split at h
   ·rename_i y2 h2
    simp only [Option.some.injEq] at h
    subst h
    obtain ⟨c1, c2, e, r1, r2⟩ := hr
    exact ⟨c1, c2, e, iha _ _ _ _ h1 r1, ihb _ _ _ _ h2 r2⟩
   ·cases h
  ·cases h
 | imm p f a =>
  intro T x y cs h hr
  cases T <;> simp only [asW] at h <;> try (cases h; done)
  ·split at h
   ·rename_i hc
    simp only [Bool.and_eq_true, Bool.or_eq_true, Bool.not_eq_true'] at hc
    unfold castL at h
    split at h
    ·rename_i heq
     simp only at heq
     subst heq
     simp only [Option.some.injEq] at h
     subst h
     obtain ⟨pv, cap, e1, e2, e3, e4⟩ := hr
     refine ⟨pv, cap, e1, e2, fun hf => e3 ?_, fun hne => ?_⟩
     ·rcases hc.2 with h | h
      ·exact h
      ·rw [h] at hf; cases hf
     ·obtain ⟨ad, vs, a1, a2, a3⟩ := e4 hne
      refine ⟨ad, vs, a1, a2, ?_⟩
      rcases a3 with a3 | ⟨a3, a4⟩
      ·exact .inl a3
      ·rcases hc.1 with h | h
       ·rw [h] at a3; cases a3
       ·exact .inr ⟨h, a4⟩
    ·cases h
   ·cases h
  ·split at h
   ·cases h
   ·rename_i hf
    simp only [Option.some.injEq] at h
    subst h
    simp only [Rep] at hr
    subst hr
    exact ⟨none, 0, rfl, ⟨Nat.le_refl _, by omega⟩, fun h => absurd h hf, fun h => absurd rfl h⟩
 | _ => intro T x y cs h; exact dflt cs h
theorem castT_rep {z : TV} {V : Ty} {d : V.den} (h : asW V z.T z.x = some d) {v : Value} (hr : TRep g z.T z.x v) : TRep g V d v := by
 have hag : V.agg = z.T.agg := by unfold Ty.agg; rw [asW_sk _ _ _ _ h]
 unfold TRep at hr ⊢
 rw [hag]
 split
 ·rw [if_pos (by assumption)] at hr
  obtain ⟨cs, h1, h2⟩ := hr
  exact ⟨cs, h1, asW_Rep _ _ _ _ _ h h2⟩
 ·rw [if_neg (by assumption)] at hr
  exact asW_Rep _ _ _ _ _ h hr
theorem do_lookup (hI : HInv g H w) {t : TypeId} {ok : Bool} {vs : List AV} {r r2 : Value} (ha : argsRep g vs [r, r2]) {out : Out}
  (he : (c_lookup P t ok vs (ents H (mpIds vs))).eval = some out) : Done P g H w (do pure (.value (← Instr.lookup t r r2 ok))) out := by
 obtain ⟨a, a2, rfl, hr, hr2⟩ := argsRep2 ha
 unfold c_lookup at he
 split at he
 ·rename_i e u K x K2 V l heq hes
  simp only [List.cons.injEq, and_true] at heq
  obtain ⟨rfl, rfl⟩ := heq
  simp only [mpIds, ents, List.cons.injEq, and_true] at hes
  split at he
  ·rename_i hKK
   subst hKK
   obtain ⟨b, es, clock, rfl, hb, hc, hm⟩ := mp_spec hI hr hes
   split at he
   ·rename_i k el hu
    split at he
    ·rename_i hK
     split at he
     ·rename_i z hz
      split at he
      ·rename_i d hd
       obtain ⟨_, i, zv, _, _, hzr, hzrun⟩ := zeroT_spec (g := g) hz
       have hzr := castT_rep hd hzr
       have hKne : K ≠ .und := key_und hK
       have hx := (VRep_v hKne).1 hr2
       obtain ⟨dk, hdk⟩ := key_under hK
       have key : ∃ val, (Instr.lookup t (.map (some b)) r2 ok).run P w = .ok (if ok then .tuple #[val, .bool (mapLook l x).isSome] else val) w ∧ TRep g V ((mapLook l x).getD d) val := by
        rcases findNow_spec (V := V) hK hdk hx 0 hm with ⟨q1, _, q3⟩ | ⟨j, v, val, q1, _, q3, q4, _⟩
        ·refine ⟨zv, ?_, by rw [q1]; exact hzr⟩
         have hfind := run_findKey hK hdk q3 w
         simp only [Instr.lookup, Sem.run_bind, run_underlying hu, Result.andThen_ok, MapKept.run_getObj_map hc, run_checkKey' hK _ hx, hfind, hzrun w, Sem.run_pure, q1]
         rfl
        ·refine ⟨val, ?_, by rw [q1]; exact q4⟩
         have hfind := run_findKey hK hdk q3 w
         simp only [Instr.lookup, Sem.run_bind, run_underlying hu, Result.andThen_ok, MapKept.run_getObj_map hc, run_checkKey' hK _ hx, hfind, Sem.run_pure, q1]
         rfl
       obtain ⟨val, h1, h2⟩ := key
       cases ok with
       | true =>
        have := Tr.ret_some he; subst this
        refine done_val hI h1 ?_
        exact ⟨_, rfl, val, [.bool (mapLook l x).isSome], rfl, h2, _, [], rfl, TRep_bool.2 rfl, rfl⟩
       | false =>
        have := Tr.ret_some he; subst this
        exact done_val hI h1 ((VRep_v (TRep_ne h2)).2 h2)
      ·exact (Tr.fail_some he).elim
     ·exact (Tr.fail_some he).elim
    ·exact (Tr.fail_some he).elim
   ·exact (Tr.fail_some he).elim
  ·exact (Tr.fail_some he).elim
 ·exact (Tr.fail_some he).elim
theorem do_mapUpdate (hI : HInv g H w) {t : TypeId} {vs : List AV} {r r2 r3 : Value} (ha : argsRep g vs [r, r2, r3]) {out : Out}
  (he : (c_mapUpdate P t vs (ents H (mpIds vs))).eval = some out) : Done P g H w (do Instr.mapUpdate t r r2 r3; pure .skip) out := by
 obtain ⟨a, a2, a3, rfl, hr, hr2, hr3⟩ := argsRep3 ha
 unfold c_mapUpdate at he
 split at he
 ·rename_i e u K x a' K2 V l heq hes
  simp only [List.cons.injEq, and_true] at heq
  obtain ⟨rfl, rfl, rfl⟩ := heq
  simp only [mpIds, ents, List.cons.injEq, and_true] at hes
  split at he
  ·rename_i hKK
   subst hKK
   obtain ⟨b, es, clock, rfl, hb, hc, hm⟩ := mp_spec hI hr hes
   split at he
   ·rename_i k el hu
    split at he
    ·rename_i hK
     split at he
     ·rename_i y hy
      split at he
      ·rename_i v hv
       have := Tr.ret_some he; subst this
       have hvr := castT_rep hv (tvOf_spec hy hr3)
       have hKne : K ≠ .und := key_und hK
       have hx := (VRep_v hKne).1 hr2
       obtain ⟨dk, hdk⟩ := key_under hK
       rcases findNow_spec (V := V) hK hdk hx 0 hm with ⟨q1, q2, q3⟩ | ⟨j, v0, val, q1, q2, q3, q4, e0, q5, q6⟩
       ·have hfind := run_findKey hK hdk q3 w
        have hp := (put_rep hx hvr clock 0 hm).1 q2
        obtain ⟨g', w1, w2⟩ := hI.setMap (clock' := clock + 1) (es' := es.push { key := r2, val := r3, born := clock }) hes hb hc (by simpa using hp)
        refine ⟨.skip, undef, _, g', ?_, .inr ⟨rfl, rfl⟩, w1, w2, trivial⟩
        simp only [Instr.mapUpdate, Sem.run_bind, run_underlying hu, Result.andThen_ok, MapKept.run_getObj_map hc, run_checkKey' hK _ hx, hfind, MapKept.run_setObj_map _ hc, Sem.run_pure]
       ·have hfind := run_findKey hK hdk q3 w
        rw [Nat.zero_add] at q2 q3 hfind
        have hp := (put_rep hx hvr clock 0 hm).2 j (by rw [Nat.zero_add]; exact q2)
        have hst : (Instr.keyThatStays e0.key r2).run P w = .ok r2 w := by
         unfold Instr.keyThatStays
         rw [if_pos (sameBits_key hK q6 hx _)]
         rfl
        have hej : (es[j]?).map (·.key) = some e0.key := by
         rw [← Array.getElem?_toList, q5]; rfl
        obtain ⟨g', w1, w2⟩ := hI.setMap (clock' := clock) (es' := es.modify j fun e => { e with key := r2, val := r3 }) hes hb hc (by simpa using hp)
        refine ⟨.skip, undef, _, g', ?_, .inr ⟨rfl, rfl⟩, w1, w2, trivial⟩
        simp only [Instr.mapUpdate, Sem.run_bind, run_underlying hu, Result.andThen_ok, MapKept.run_getObj_map hc, run_checkKey' hK _ hx, hfind, hej, Option.getD_some, hst, MapKept.run_setObj_map _ hc, Sem.run_pure]
      ·exact (Tr.fail_some he).elim
     ·exact (Tr.fail_some he).elim
    ·exact (Tr.fail_some he).elim
   ·exact (Tr.fail_some he).elim
  ·exact (Tr.fail_some he).elim
 ·exact (Tr.fail_some he).elim
theorem do_delete (hI : HInv g H w) {t : TypeId} {ats : Array TypeId} (hat : ats[0]? = some t) {ty : TypeId} {vs : List AV} {r r2 : Value} (ha : argsRep g vs [r, r2]) {out : Out}
  (he : (c_delete P t vs (ents H (mpIds vs))).eval = some out) : Done P g H w (do pure (.value (← Builtin.delete_ ats ty #[r, r2]))) out := by
 obtain ⟨a, a2, rfl, hr, hr2⟩ := argsRep2 ha
 unfold c_delete at he
 split at he
 ·rename_i e u K x K2 V l heq hes
  simp only [List.cons.injEq, and_true] at heq
  obtain ⟨rfl, rfl⟩ := heq
  simp only [mpIds, ents, List.cons.injEq, and_true] at hes
  split at he
  ·rename_i hKK
   subst hKK
   obtain ⟨b, es, clock, rfl, hb, hc, hm⟩ := mp_spec hI hr hes
   split at he
   ·rename_i k el hu
    split at he
    ·rename_i hK
     have := Tr.ret_some he; subst this
     have hKne : K ≠ .und := key_und hK
     have hx := (VRep_v hKne).1 hr2
     obtain ⟨dk, hdk⟩ := key_under hK
     rcases findNow_spec (V := V) hK hdk hx 0 hm with ⟨q1, q2, q3⟩ | ⟨j, v0, val, q1, q2, q3, q4, e0, q5, q6⟩
     ·have hfind := run_findKey hK hdk q3 w
      have hp := (del_rep (x := x) 0 hm).1 q2
      obtain ⟨g', w1, w2⟩ := hI.setMap (clock' := clock) (es' := es) hes hb hc hp
      refine ⟨_, .tuple #[], _, g', ?_, .inl rfl, w1, w2, ⟨#[], rfl, rfl⟩⟩
      simp [Builtin.delete_, hat, run_underlying hu, MapKept.run_getObj_map hc, run_checkKey' hK _ hx, hfind, MapKept.run_setObj_map _ hc]
     ·have hfind := run_findKey hK hdk q3 w
      rw [Nat.zero_add] at q2 q3 hfind
      have hp := (del_rep (x := x) 0 hm).2 j (by rw [Nat.zero_add]; exact q2)
      obtain ⟨g', w1, w2⟩ := hI.setMap (clock' := clock) (es' := es.eraseIdxIfInBounds j) hes hb hc (by simpa using hp)
      refine ⟨_, .tuple #[], _, g', ?_, .inl rfl, w1, w2, ⟨#[], rfl, rfl⟩⟩
      simp [Builtin.delete_, hat, run_underlying hu, MapKept.run_getObj_map hc, run_checkKey' hK _ hx, hfind, MapKept.run_setObj_map _ hc]
    ·exact (Tr.fail_some he).elim
   ·exact (Tr.fail_some he).elim
  ·exact (Tr.fail_some he).elim
 ·exact (Tr.fail_some he).elim
end
end Vse
end
section
set_option linter.unusedVariables false
namespace Vse
open Go
section
variable {P : Program} {g : G} {H : Heap} {w : World}
theorem HInv.setItr (h : HInv g H w) {e b : Nat} {s : ByteArray} {p : Nat} (p' : Nat) (hE : getE H e = .itr s p) (hb : g.bl e = some b) (hc : w.heap[b]? = some (.stringIter s p)) :
  ∃ g', g.le g' ∧ HInv g' (setE H e (.itr s p')) { w with heap := w.heap.setIfInBounds b (.stringIter s p') } := by
 have hlive : (getE H e).live = true := by rw [hE]; rfl
 have hlt := lt_of_live hlive
 have hsh : g.sh e = .map := by rw [h.sh, hE]; rfl
 have hsz : s.size ≤ 9223372036854775807 := by
  have := h.ent e
  rw [hE] at this
  exact this.1
 have hle : g.le (g.put e (shp (.itr s p')) (some b) (g.sz e)) := by
  refine G.put_le (.same (by simp [G.put, shp, hsh]) (by simp [G.put, hb]) (by simp [G.put]))
 have hbl : b < w.heap.size := (Array.getElem?_eq_some_iff.1 hc).1
 refine ⟨_, hle, h.turn hlt hle ?_ ?_ ?_ ?_ ?_⟩
 ·intro b' o hne ho
  have : b ≠ b' := fun q => hne b hlive hb q.symm
  simp only [Array.getElem?_setIfInBounds, if_neg this]
  exact ho
 ·exact ⟨hsz, b, by simp [G.put], by simp [Array.getElem?_setIfInBounds, hbl]⟩
 ·intro b' hb'
  cases hb'
  exact h.own e b hlive hb
 ·intro i b' hi hl hb' hc'
  cases hc'
  exact hi (h.dis i e b hl hlive hb' hb)
 ·exact h.ext.goes ⟨rfl, Nat.le_refl _⟩
theorem HInv.newItr (h : HInv g H w) {fr : Nat} (hf : getE H fr = .free) (hlt : fr < H.length) {s : ByteArray} (hsz : s.size ≤ 9223372036854775807) :
  ∃ g', g.le g' ∧ HInv g' (setE H fr (.itr s 0)) (w.alloc (.stringIter s 0)) ∧ g'.sh fr = .map ∧ g'.bl fr = some w.heap.size := by
 have hsh : g.sh fr = .free := by rw [h.sh, hf]; rfl
 have hle : g.le (g.put fr (shp (.itr s 0)) (some w.heap.size) 0) := G.put_le (.new hsh)
 have hnl : (getE H fr).live = false := by rw [hf]; rfl
 refine ⟨_, hle, h.turn hlt hle ?_ ?_ ?_ ?_ ?_, by simp [G.put, shp], by simp [G.put]⟩
 ·intro b' o hne ho
  exact push_old (o := .stringIter s 0) ho
 ·exact ⟨hsz, w.heap.size, by simp [G.put], (MapKept.heap_alloc w _).1⟩
 ·intro b' hb'
  cases hb'
  constructor
  ·cases hq : g.fr w.heap.size with
   | none => rfl
   | some o => have := h.fr _ _ hq; simp at this
  ·cases hq : g.gr w.heap.size with
   | none => rfl
   | some o => have := h.gr _ _ hq; simp at this
 ·intro i b' hi hl hb' hc'
  cases hc'
  obtain ⟨o, ho⟩ := h.there hl hb'
  simp at ho
 ·exact h.ext.goes ⟨rfl, Nat.le_refl _⟩
theorem do_range (hI : HInv g H w) {t : TypeId} {vs : List AV} {r : Value} (ha : argsRep g vs [r]) {fr : Nat} (hf : getE H fr = .free) (hlt : fr < H.length) {out : Out}
  (he : (c_range P t fr vs).eval = some out) : Done P g H w (do pure (.value (← Instr.range t r))) out := by
 obtain ⟨a, rfl, hr⟩ := argsRep1 ha
 unfold c_range at he
 split at he
 ·rename_i s heq
  simp only [List.cons.injEq, and_true] at heq
  subst heq
  split at he
  ·rename_i hu
   have := Tr.ret_some he; subst this
   have hr := (VRep_v (by simp)).1 hr
   rw [TRep_str] at hr
   obtain ⟨rfl, hsz⟩ := hr
   obtain ⟨g', q1, q2, q3, q4⟩ := hI.newItr hf hlt hsz
   refine ⟨_, .pointer (some ⟨w.heap.size, 0, none⟩), _, g', ?_, .inl rfl, q1, q2, ?_⟩
   ·have hm : (Instr.range t (.string s)).run P w = .ok (.pointer (some ⟨w.heap.size, 0, none⟩)) (w.alloc (.stringIter s 0)) := by
     simp [Instr.range, run_underlying hu]
    simp only [Sem.run_bind, hm, Result.andThen_ok, Sem.run_pure]
   ·refine (VRep_v (by simp)).2 (TRep_of_leaf rfl ?_)
    exact ⟨⟨_, rfl, rfl⟩, by simp only [G.mpr, q3]; exact ⟨_, q4, rfl⟩⟩
  ·exact (Tr.fail_some he).elim
 ·exact (Tr.fail_some he).elim
theorem do_next (hI : HInv g H w) {t : TypeId} {isS : Bool} {vs : List AV} {r : Value} (ha : argsRep g vs [r]) {out : Out}
  (he : (c_next isS vs (ents H (chIds vs))).eval = some out) : Done P g H w (do pure (.value (← Instr.next r isS t))) out := by
 obtain ⟨a, rfl, hr⟩ := argsRep1 ha
 unfold c_next at he
 split at he
 ·rename_i e u s p hvs hes
  simp only [List.cons.injEq, and_true] at hvs
  subst hvs
  simp only [chIds, ents, List.cons.injEq, and_true] at hes
  have hsh : g.sh e = .map := by rw [hI.sh, hes]; rfl
  have hr' := (VRep_v (by simp)).1 hr
  simp only [TRep, Ty.agg, Ty.sk, Sk.agg, Bool.false_eq_true, if_false, Rep, G.mpr, hsh] at hr'
  obtain ⟨_, b, hb, hh⟩ := hr'
  simp only [List.cons.injEq, and_true] at hh
  subst hh
  have hent := hI.ent e
  rw [hes] at hent
  obtain ⟨hsz, b', q1, q2⟩ := hent
  rw [hb] at q1
  cases q1
  have hget : (getObj b).run P w = .ok (.stringIter s p) w := by simp [getObj, Sem.run, q2]
  rcases Tr.ite_some he with ⟨hp, he⟩ | ⟨hp, he⟩
  ·have hp := of_decide_eq_true hp
   obtain ⟨hk, he⟩ := Tr.chk_some he
   have := Tr.ret_some he; subst this
   obtain ⟨g', w1, w2⟩ := hI.setItr (p + (Utf8.decode s p).2) hes hb q2
   refine ⟨.value (.tuple #[.bool true, .int .i64 (p : Int), .int .i32 ((Utf8.decode s p).1 : Int)]), _, _, g', ?_, .inl rfl, w1, w2, ?_⟩
   ·simp [Instr.next, hget, hp, setObj, Sem.run, q2, goInt]
   ·refine ⟨_, rfl, ?_⟩
    refine ⟨_, _, rfl, TRep_of_leaf rfl rfl, _, _, rfl, TRep_of_leaf rfl ⟨rfl, ?_⟩, _, _, rfl, TRep_of_leaf rfl ⟨rfl, hk⟩, rfl⟩
    simp only [inK, IntKind.min, IntKind.max, IntKind.signed, IntKind.bits, Bool.and_eq_true, decide_eq_true_eq]
    simp
    omega
  ·have hp := of_decide_eq_false hp
   have := Tr.ret_some he; subst this
   refine ⟨.value (.tuple #[.bool false]), _, w, g, ?_, .inl rfl, G.le.refl g, hI, ?_⟩
   ·simp [Instr.next, hget, hp]
   ·exact ⟨_, rfl, _, _, rfl, TRep_of_leaf rfl rfl, rfl⟩
 ·exact (Tr.fail_some he).elim
end
end Vse
end
section
set_option linter.unusedVariables false
namespace Vse
open Go
section
variable {ro : Fl} {P : Program} {g : G} {H : Heap} {w : World}
theorem capT_rep {g : G} : ∀ {vs : List AV} {rs : List Value} {t : TV}, capT vs = some t → argsRep g vs rs → Rep.RepC g t.T t.x rs
 | [], rs, t, h, ha => by
  simp only [capT, Option.some.injEq] at h
  subst h
  exact ha
 | a :: vs, rs, t, h, ⟨r, rs', h1, h2, h3⟩ => by
  simp only [capT] at h
  split at h
  ·rename_i u hu
   split at h
   ·rename_i q hq
    simp only [Option.some.injEq] at h
    subst h
    exact ⟨r, rs', h1, tvOf_spec hu h2, capT_rep hq h3⟩
   ·cases h
  ·cases h
theorem do_makeFunc (hI : HInv g H w) {fn : Fn} {first captured : Array Operand} {ρ : Operand → Value} {vs : List AV} (ha : argsRep g vs (captured.toList.map ρ)) {out : Out}
  (he : (c_makeFunc fn first vs).eval = some out) : Done P g H w (do pure (.value (← Instr.makeFunc fn (first.map ρ) (captured.map ρ)))) out := by
 unfold c_makeFunc at he
 split at he
 ·rename_i k
  split at he
  ·rename_i hf
   split at he
   ·rename_i t ht
    have := Tr.ret_some he; subst this
    have hf0 : first = #[] := by simpa using hf
    subst hf0
    have hr : VRep g (.v (.fn k t.T) t.x) (.func (.func k) #[] (captured.map ρ)) := by
     refine (VRep_v (by simp)).2 ?_
     simp only [TRep, Ty.agg, Ty.sk, Sk.agg, Bool.false_eq_true, if_false, Rep]
     exact ⟨_, rfl, by simpa using capT_rep ht ha⟩
    exact ⟨.value _, _, w, g, by simp [Instr.makeFunc], .inl rfl, G.le.refl g, hI, hr⟩
   ·exact (Tr.fail_some he).elim
  ·exact (Tr.fail_some he).elim
 ·exact (Tr.fail_some he).elim
theorem core_sound (hI : HInv g H w) {o : Oper} (hcall : isCall o.op = false) {ρ : Operand → Value} (hlit : ∀ v, ρ (.const v) = v) {vs : List AV} (ha : argsRep g vs ((opArgs o.op).map ρ)) {fr : Nat}
  (hfr : newOf o.op = 0 ∨ (getE H fr = .free ∧ fr < H.length)) {out : Out}
  (he : (core P ro o.op vs (ents H (idsOf ro.2 o.op vs)) (shs H (shsOf o.op vs)) fr).eval = some out) : Done P g H w (execOp ρ o) out := by
 have hmove : ∀ r, argsRep g vs [r] → (c_move vs).eval = some out → Done P g H w (pure (.value r)) out := by
  intro r ha he
  obtain ⟨a, rfl, hr⟩ := argsRep1 ha
  have := Tr.ret_some he; subst this
  exact ⟨.value r, r, w, g, rfl, .inl rfl, G.le.refl g, hI, hr⟩
 cases hop : o.op with
 | move x =>
  rw [hop] at ha he
  unfold execOp; rw [hop]
  exact hmove _ ha he
 | assign x =>
  rw [hop] at ha he
  unfold execOp; rw [hop]
  exact hmove _ ha he
 | pick c a b =>
  rw [hop] at ha he
  unfold execOp; rw [hop]
  obtain ⟨x, y, z, rfl, h1, h2, h3⟩ := argsRep3 ha
  simp only [core] at he
  unfold c_pick at he
  split at he
  ·rename_i t x' y' heq
   simp only [List.cons.injEq, and_true] at heq
   obtain ⟨rfl, rfl, rfl⟩ := heq
   have h1 := (VRep_v (by simp)).1 h1
   rw [TRep_bool] at h1
   rcases Tr.ite_some he with ⟨rfl, he⟩ | ⟨rfl, he⟩
   ·have := Tr.ret_some he; subst this
    exact ⟨.value (ρ a), _, w, g, by simp [h1, asBool], .inl rfl, G.le.refl g, hI, h2⟩
   ·have := Tr.ret_some he; subst this
    exact ⟨.value (ρ b), _, w, g, by simp [h1, asBool], .inl rfl, G.le.refl g, hI, h3⟩
  ·exact (Tr.fail_some he).elim
 | alloc t =>
  rw [hop] at ha he hfr
  unfold execOp; rw [hop]
  simp only [core] at he
  unfold c_alloc at he
  split at he
  ·rename_i z hz
   have := Tr.ret_some he; subst this
   obtain ⟨_, i, zv, _, _, hzr, hzrun⟩ := zeroT_spec (g := g) hz
   have hf := hfr.resolve_left (by simp [newOf])
   have := do_new (P := P) hI hf.1 hf.2 hzr t
   obtain ⟨nx, rv, w', g', h1, h2⟩ := this
   refine ⟨nx, rv, w', g', ?_, h2⟩
   rw [← h1]
   simp only [Instr.alloc, Sem.run_bind, hzrun w, Result.andThen_ok]
  ·exact (Tr.fail_some he).elim
 | box t x =>
  rw [hop] at ha he hfr
  unfold execOp; rw [hop]
  obtain ⟨a, rfl, hr⟩ := argsRep1 ha
  simp only [core, c_box] at he
  split at he
  ·rename_i z hz
   have := Tr.ret_some he; subst this
   have hf := hfr.resolve_left (by simp [newOf])
   exact do_new (P := P) hI hf.1 hf.2 (tvOf_spec hz hr) t
  ·exact (Tr.fail_some he).elim
 | build t ps =>
  rw [hop] at ha he
  unfold execOp; rw [hop]
  simp only [core] at he
  unfold c_build at he
  split at he
  ·rename_i ts hts
   split at he
   ·rename_i v hv
    have := Tr.ret_some he; subst this
    have hargs : (opArgs (.build t ps)).map ρ = ps.toList.map fun x => ρ x.2 := by simp [opArgs, Function.comp_def]
    rw [hargs] at ha
    obtain ⟨rv, h1, h2⟩ := build_run hts hv ha (by simp) w
    refine done_val hI (v := rv) ?_ (VRep_val h2)
    rw [← h1]
    congr 2
    apply Array.ext'
    simp only [Array.toList_map]
    rw [List.zip_map']
   ·exact (Tr.fail_some he).elim
  ·exact (Tr.fail_some he).elim
 | load t x => rw [hop] at ha he; unfold execOp; rw [hop]; exact do_load hI ha he
 | store t x y => rw [hop] at ha he; unfold execOp; rw [hop]; exact do_store hI ha he
 | nilCheck x => rw [hop] at ha he; exact do_nilCheck hI ha hop rfl he
 | binOp op t x y yt =>
  rw [hop] at ha he
  unfold execOp; rw [hop]
  obtain ⟨a, b, rfl, h1, h2⟩ := argsRep2 ha
  simp only [core, c_bin] at he
  split at he
  ·rename_i r hr
   split at he
   ·rename_i hs
    have := Tr.ret_some he; subst this
    obtain ⟨v, hv1, rfl⟩ := do_nilEq (P := P) (x := x) (y := y) hI h1 h2 hr hs
    exact done_val hI hv1 ((VRep_v (by simp)).2 (TRep_bool.2 rfl))
   ·exact (Tr.fail_some he).elim
  split at he
  ·rename_i r hr
   split at he
   ·rename_i hs
    have := Tr.ret_some he; subst this
    obtain ⟨v, hv1, rfl⟩ := do_nilPtr (P := P) (x := x) (y := y) (w := w) h1 h2 hr hs
    exact done_val hI hv1 ((VRep_v (by simp)).2 (TRep_bool.2 rfl))
   ·exact (Tr.fail_some he).elim
  split at he
  ·rename_i p hp
   split at he
   ·rename_i q hq
    obtain ⟨r, hr, he⟩ := Tr.bind_some he
    have := Tr.ret_some he; subst this
    obtain ⟨v, hv1, hv2⟩ := binT_run (x := x) (y := y) hr (tvOf_spec hp h1) (tvOf_spec hq h2) w
    exact done_val hI hv1 (VRep_val hv2)
   ·exact (Tr.fail_some he).elim
  ·exact (Tr.fail_some he).elim
 | unOp op t x =>
  rw [hop] at ha he
  unfold execOp; rw [hop]
  obtain ⟨a, rfl, h1⟩ := argsRep1 ha
  simp only [core, c_un] at he
  split at he
  ·rename_i p hp
   obtain ⟨r, hr, he⟩ := Tr.bind_some he
   have := Tr.ret_some he; subst this
   obtain ⟨v, hv1, hv2⟩ := unT_run hr (tvOf_spec hp h1) w
   exact done_val hI hv1 (VRep_val hv2)
  ·exact (Tr.fail_some he).elim
 | convert s d x =>
  rw [hop] at ha he
  unfold execOp; rw [hop]
  obtain ⟨a, rfl, h1⟩ := argsRep1 ha
  simp only [core] at he
  revert he
  have old : ∀ {out : Out} {es : List Entry}, es = ents H (vcOf a) → (c_convert P s d [a] es (shs H (shsOf (.convert s d x) [a]))).eval = some out → Done P g H w (do pure (.value (← convert s d (ρ x)))) out := by
   intro out es hes he
   subst hes
   unfold c_convert at he
   split at he
   ·rename_i hbs
    simp only [Bool.and_eq_true] at hbs
    split at he
    ·rename_i x' heq
     simp only [List.cons.injEq, and_true] at heq
     subst heq
     split at he
     ·rename_i l hl
      have := Tr.ret_some he; subst this
      have hd : P.underlying d = some .string := by
       have h := hbs.2
       unfold isStr at h
       split at h
       ·assumption
       ·cases h
      obtain ⟨h2, h3⟩ := do_str hI h1 hl hbs.1 hd
      exact done_val hI (v := .string (bytesStr l)) h2 ((VRep_v (by simp)).2 (TRep_str.2 ⟨rfl, h3⟩))
     ·exact (Tr.fail_some he).elim
    ·rename_i hn
     exact (hn a rfl).elim
   ·unfold c_convert0 at he
    split at he
    ·rename_i s' heq
     simp only [List.cons.injEq, and_true] at heq
     subst heq
     split at he
     ·rename_i hu
      split at he
      ·rename_i hb
       have := Tr.ret_some he; subst this
       have h1 := (VRep_v (by simp)).1 h1
       rw [TRep_str] at h1
       obtain ⟨h1, hsz⟩ := h1
       have hd := do_bytes hI hsz hu hb
       rw [← h1] at hd
       exact hd
      ·exact (Tr.fail_some he).elim
     ·exact (Tr.fail_some he).elim
    ·rename_i e k u heq
     simp only [List.cons.injEq, and_true] at heq
     subst heq
     simp only [shsOf, shs] at he
     split at he
     ·rename_i k' sk n hE
      simp only [List.cons.injEq, and_true] at hE
      split at he
      ·rename_i hc
       have := Tr.ret_some he; subst this
       simp only [Bool.and_eq_true, decide_eq_true_eq, beq_iff_eq] at hc
       obtain ⟨⟨⟨rfl, hn⟩, rfl⟩, hb⟩ := hc
       exact do_mark hI h1 hE hn hb
      ·exact (Tr.fail_some he).elim
     ·exact (Tr.fail_some he).elim
    ·rename_i k n heq
     simp only [List.cons.injEq, and_true] at heq
     subst heq
     split at he
     ·rename_i ds hs
      split at he
      ·rename_i k' hu
       have := Tr.ret_some he; subst this
       have h1 := (VRep_v (by simp)).1 h1
       rw [TRep_int] at h1
       obtain ⟨h1, _⟩ := h1
       refine done_val hI (v := .int k' (k'.wrap n)) ?_ ((VRep_v (by simp)).2 TRep_wrap)
       simp only [convert, Sem.run_bind, run_underlying hs, run_underlying hu, Result.andThen_ok, h1]
       cases ds <;> rfl
      ·exact (Tr.fail_some he).elim
     ·exact (Tr.fail_some he).elim
    ·exact (Tr.fail_some he).elim
  intro he
  split at he
  ·unfold c_convF at he
   split at he
   ·rename_i e k u k' A l hvs hes
    simp only [List.cons.injEq, and_true] at hvs
    subst hvs
    obtain ⟨r, q1, q2⟩ := Tr.bind_some he
    split at q2
    ·rename_i e' k'' u'
     split at q2
     ·rename_i hc
      obtain ⟨rfl, rfl, rfl⟩ := hc
      have := Tr.ret_some q2; subst this
      have hE : ents H (vcOf (.v (.vc e' k') u)) = [.vec k' A l] := hes
      obtain ⟨nx, rv, w', g', w1, w2, w3, w4, w5⟩ := old hE.symm q1
      simp only [vcOf, ents, List.cons.injEq, and_true] at hE
      obtain ⟨g3, p1, p2, p3⟩ := HInv.freeze (H := H) w4 hE
      exact ⟨nx, rv, w', g3, w1, w2, w3.trans p1, p2, p3 _ w5⟩
     ·exact (Tr.fail_some q2).elim
    ·exact (Tr.fail_some q2).elim
   ·exact old rfl he
  ·exact old rfl he
 | fieldAddr t x f => rw [hop] at ha he; unfold execOp; rw [hop]; exact do_fieldAddr hI ha he
 | field t x f => rw [hop] at ha he; unfold execOp; rw [hop]; exact do_field hI ha he
 | indexAddr t x y => rw [hop] at ha he; unfold execOp; rw [hop]; exact do_indexAddr hI ha he
 | index t x y => rw [hop] at ha he; unfold execOp; rw [hop]; exact do_index hI ha he
 | sliceToArrayPointer t x => rw [hop] at ha he; unfold execOp; rw [hop]; exact do_s2ap hI ha he
 | extract x i => rw [hop] at ha he; unfold execOp; rw [hop]; exact do_extract hI ha he
 | makeFunc fn first captured =>
  rw [hop] at ha he
  unfold execOp; rw [hop]
  exact do_makeFunc hI ha he
 | buildSlice t n ps =>
  rw [hop] at ha he hfr
  unfold execOp; rw [hop]
  have hargs : (opArgs (.buildSlice t n ps)).map ρ = ps.toList.map fun x => ρ x.2 := by simp [opArgs, Function.comp_def]
  rw [hargs] at ha
  exact do_buildSlice hI ha (hfr.resolve_left (by simp [newOf])) he
 | makeSlice t l c =>
  rw [hop] at ha he hfr
  unfold execOp; rw [hop]
  exact do_make hI ha (hfr.resolve_left (by simp [newOf])) he
 | slice t x lo hi mx =>
  rw [hop] at ha he
  unfold execOp; rw [hop]
  simp only [core] at he
  refine do_slice hI (lo := lo.map ρ) (hi := hi.map ρ) (mx := mx.map ρ) (pos := posLo lo) (fun hp => ?_) (by cases lo <;> rfl) (by cases hi <;> rfl) (by cases mx <;> rfl) ?_ (fun e p d tl hvs => ?_) (fun e p d tl hvs => ?_) he
  ·unfold posLo at hp
   split at hp
   ·rename_i k n
    exact ⟨k, n, by simp only [Option.map_some, hlit], by simpa using hp⟩
   ·cases hp
  ·cases lo <;> cases hi <;> cases mx <;> exact ha
  ·subst hvs; rfl
  ·subst hvs; rfl
 | call c =>
  rw [hop] at ha he hcall
  unfold execOp; rw [hop]
  obtain ⟨callee, args, ats⟩ := c
  cases callee with
  | builtin b =>
   have hres : ∀ {out : Out}, Done P g H w (builtin b ats o.type (args.map fun | .const _ => true | _ => false) (args.toList.map ρ).toArray) out → Done P g H w (execOp ρ o) out := by
    rintro out ⟨nx, rv, w', g', h1, h2⟩
    refine ⟨nx, rv, w', g', ?_, h2⟩
    rw [← h1]
    unfold execOp; rw [hop]
    simp only [resolve, Sem.run_bind, Sem.run_pure, Result.andThen_ok, invoke]
    congr 2
    apply Array.ext'
    simp
   unfold execOp at hres
   rw [hop] at hres
   by_cases hlen : b = .len
   ·subst hlen
    simp only [core] at he
    split at he
    ·rename_i t ht
     exact hres (do_len hI ht (c := ⟨.builtin .len, args, ats⟩) ha ⟨args, ats, rfl⟩ he)
    ·exact (Tr.fail_some he).elim
   by_cases happ : b = .append
   ·subst happ
    simp only [core] at he
    split at he
    ·rename_i t t2 ht
     have hat : ats = #[t, t2] := by
      apply Array.ext'; simpa using ht
     subst hat
     have hf := hfr.resolve_left (by rw [hop]; simp [newOf])
     have hid : idsOf ro.2 (.call ⟨.builtin .append, args, #[t, t2]⟩) vs = appIds vs := by
      unfold idsOf appIds
      rcases vs with _ | ⟨a, _ | ⟨b, _ | ⟨c, l⟩⟩⟩ <;> rfl
     rw [hid] at he
     exact hres (do_append hI ha hf he)
    ·exact (Tr.fail_some he).elim
   by_cases hcop : b = .copy
   ·subst hcop
    simp only [core] at he
    split at he
    ·rename_i t ht
     have hid : idsOf ro.2 (.call ⟨.builtin .copy, args, ats⟩) vs = appIds vs := by
      unfold idsOf appIds
      rcases vs with _ | ⟨a, _ | ⟨b, _ | ⟨c, l⟩⟩⟩ <;> rfl
     rw [hid] at he
     exact hres (do_copy hI ht ha he)
    ·exact (Tr.fail_some he).elim
   by_cases hdel : b = .delete
   ·subst hdel
    simp only [core] at he
    split at he
    ·rename_i t ht
     have h2 : ∃ r r2, args.toList.map ρ = [r, r2] := by
      unfold c_delete at he
      split at he
      ·obtain ⟨r, rs, h1, _, h3⟩ := ha
       obtain ⟨r2, rs2, h4, _, h5⟩ := h3
       simp only [argsRep] at h5
       subst h5
       exact ⟨r, r2, by rw [show args.toList.map ρ = r :: rs from h1, h4]⟩
      ·exact (Tr.fail_some he).elim
     obtain ⟨r, r2, h2⟩ := h2
     have ha' : argsRep g vs [r, r2] := by rw [← h2]; exact ha
     refine hres ?_
     rw [h2]
     exact do_delete hI ht ha' he
    ·exact (Tr.fail_some he).elim
   have he : (c_builtin b vs).eval = some out := by
    cases b <;> first | exact he | exact absurd rfl hlen | exact absurd rfl happ | exact absurd rfl hcop | exact absurd rfl hdel
   have := do_builtin (P := P) hI (ats := ats) (t := o.type) (cts := args.map fun | .const _ => true | _ => false) (rs := args.toList.map ρ) ha he
   obtain ⟨nx, rv, w', g', h1, h2⟩ := this
   refine ⟨nx, rv, w', g', ?_, h2⟩
   rw [← h1]
   simp only [resolve, Sem.run_bind, Sem.run_pure, Result.andThen_ok, invoke]
   congr 2
   apply Array.ext'
   simp
  | value f => simp [isCall] at hcall
  | invoke r m => exact (Tr.fail_some he).elim
 | makeMap t rv =>
  rw [hop] at ha he hfr
  unfold execOp; rw [hop]
  have hf := hfr.resolve_left (by simp [newOf])
  simp only [core] at he
  obtain ⟨hvs, hd⟩ := do_makeMap hI ha hf.1 hf.2 he fun _ _ => trivial
  subst hvs
  cases rv with
  | none => exact hd
  | some x => simp [opArgs, argsRep] at ha
 | range t x =>
  rw [hop] at ha he hfr
  unfold execOp; rw [hop]
  have hf := hfr.resolve_left (by simp [newOf])
  exact do_range hI ha hf.1 hf.2 he
 | next x b =>
  rw [hop] at ha he
  unfold execOp; rw [hop]
  exact do_next hI ha he
 | lookup t x ix ok =>
  rw [hop] at ha he
  unfold execOp; rw [hop]
  exact do_lookup hI ha he
 | mapUpdate t m k x =>
  rw [hop] at ha he
  unfold execOp; rw [hop]
  exact do_mapUpdate hI ha he
 | insert t m k x =>
  rw [hop] at ha he
  unfold execOp; rw [hop]
  exact do_mapUpdate hI ha he
 | _ => rw [hop] at he; exact (Tr.fail_some he).elim
end
end Vse
end
section
set_option linter.unusedVariables false
namespace Vse
open Go
def EnvRep (g : G) (env : List AV) (a : Act) : Prop := env.length = a.tmps.size ∧ ∀ i, VRep g (getV env i) (a.tmps.getD i undef)
abbrev FW (rd : Option Nat) : Fence := { Fence.wide with round := rd }
theorem callsIn_FW {P : Program} {rd : Option Nat} {n : Nat} {f : FuncId} {args : Array Value} {w : World} {R : Ending → World → Prop} : CallsIn (FW rd) n P f args w R ↔ Calls P f args w R :=
 callsIn_wide (n := n)
def mkD (r : Nat) : Deferred := { target := .collected r, args := #[] }
def Marks (g : G) (ds : List Deferred) : Prop := ∃ rs : List Nat, ds = rs.map mkD ∧ rs.Nodup ∧ ∀ r ∈ rs, g.fr r = some (.deferred (some []))
theorem Marks.nil (g : G) : Marks g [] := ⟨[], rfl, List.nodup_nil, fun r hr => by cases hr⟩
theorem Marks.fr {g g' : G} (h : ∀ b o, g.fr b = some o → g'.fr b = some o) {ds : List Deferred} (hm : Marks g ds) : Marks g' ds := let ⟨rs, h1, h2, h3⟩ := hm; ⟨rs, h1, h2, fun r hr => h _ _ (h3 r hr)⟩
theorem Marks.mono {g g' : G} (h : g.le g') {ds : List Deferred} (hm : Marks g ds) : Marks g' ds := let ⟨rs, h1, h2, h3⟩ := hm; ⟨rs, h1, h2, fun r hr => h.fr _ _ (h3 r hr)⟩
structure SRep (g : G) (st : St) (a : Act) (w : World) : Prop where
 env : EnvRep g st.env a
 heap : HInv g st.heap w
 defers : a.defers = g.ext.2
structure CSound (P : Program) (k : Nat) (c : CSpec) : Prop where
 enter : ∀ (args : Array Value) (w : World), (callFunc k args).run P w = .ok (.enter k args) w
 calls : ∀ (g : G) (H : Heap) (w : World) (vs : List AV) (rvs : List Value) (fr : Nat) (out : Out), HInv g H w → argsRep g vs rvs → freeAt H fr c.new = true →
  (c.core vs (ents H (c.ids vs H)) fr).eval = some out →
  Calls P k rvs.toArray w fun e w' => ∃ rv g', e = .returned rv ∧ g.le g' ∧ HInv g' (upd H out.2) w' ∧ VRep g' out.1 rv
def CtxSound (P : Program) (C : Ctx) : Prop := ∀ k c, C k = some c → CSound P k c
section
variable {ro : Fl} {P : Program} {C : Ctx}
theorem setV_length : ∀ (env : List AV) (d : Nat) (v : AV), (setV env d v).length = env.length
 | [], _, _ => rfl
 | _ :: _, 0, _ => rfl
 | _ :: l, d + 1, v => by simp [setV, setV_length l]
theorem getV_setV : ∀ (env : List AV) (d i : Nat) (v : AV), getV (setV env d v) i = if i = d ∧ d < env.length then v else getV env i
 | [], d, i, v => by simp [setV]
 | a :: l, 0, i, v => by cases i <;> simp [setV, getV]
 | a :: l, d + 1, 0, v => by simp [setV, getV]
 | a :: l, d + 1, i + 1, v => by simp [setV, getV, getV_setV l]
theorem EnvRep.mono {g g' : G} (h : g.le g') {env : List AV} {a : Act} (hr : EnvRep g env a) : EnvRep g' env a :=
 ⟨hr.1, fun i => VRep_mono h (hr.2 i)⟩
theorem EnvRep.put {g : G} {env : List AV} {a : Act} (hr : EnvRep g env a) (d : Option Nat) {v : AV} {rv : Value} (hv : VRep g v rv) : EnvRep g (putV env d v) (a.put d rv) := by
 cases d with
 | none => exact hr
 | some d =>
  refine ⟨by simp [putV, setV_length, Act.put, hr.1], fun i => ?_⟩
  have h0 := hr.2 i
  simp only [putV, Act.put, getV_setV, Array.getD_eq_getD_getElem?, Array.getElem?_setIfInBounds] at h0 ⊢
  by_cases hid : i = d
  ·subst hid
   by_cases hlt : i < env.length
   ·have : i < a.tmps.size := by rw [← hr.1]; exact hlt
    simp only [hlt, this, and_self, if_true, Option.getD_some]
    exact hv
   ·have : ¬ i < a.tmps.size := by rw [← hr.1]; exact hlt
    have hn : a.tmps[i]? = none := Array.getElem?_eq_none (by omega)
    rw [hn] at h0
    simp only [hlt, this, and_false, if_false, if_true]
    exact h0
  ·rw [if_neg (fun h => hid h.1), if_neg (fun h => hid h.symm)]
   exact h0
theorem put_defers (a : Act) (d : Option Nat) (v : Value) : (a.put d v).defers = a.defers := by cases d <;> rfl
theorem ev_rep {g : G} {env : List AV} {a : Act} (hr : EnvRep g env a) (o : Operand) : VRep g (ev env o) (a.eval o) := by
 cases o with
 | tmp t => exact hr.2 t
 | const v => exact ofVal_spec g v
 | global i => trivial
 | func f =>
  refine (VRep_v (by simp)).2 ?_
  simp only [TRep, Ty.agg, Ty.sk, Sk.agg, Bool.false_eq_true, if_false, Rep]
  exact ⟨#[], rfl, rfl⟩
theorem evs_rep {g : G} {env : List AV} {a : Act} (hr : EnvRep g env a) : ∀ os : List Operand, argsRep g (evs env os) (os.map a.eval)
 | [] => rfl
 | o :: os => ⟨_, _, rfl, ev_rep hr o, evs_rep hr os⟩
theorem argsRep_append {g : G} : ∀ {vs us : List AV} {rs ss : List Value}, argsRep g vs rs → argsRep g us ss → argsRep g (vs ++ us) (rs ++ ss)
 | [], us, rs, ss, h, h' => by simp only [argsRep] at h; subst h; exact h'
 | a :: vs, us, rs, ss, ⟨v, r, h1, h2, h3⟩, h' => by subst h1; exact ⟨v, r ++ ss, rfl, h2, argsRep_append h3 h'⟩
theorem caps_rep {g : G} : ∀ {c : Ty} {x : c.den} {l : List AV} {vs : List Value}, caps c x = some l → Rep.RepC g c x vs → argsRep g l vs := by
 intro c
 induction c with
 | unit =>
  intro x l vs h hr
  simp only [caps, Option.some.injEq] at h
  subst h
  exact hr
 | prod a b iha ihb =>
  intro x l vs h hr
  simp only [caps, Option.bind_eq_some_iff] at h
  obtain ⟨l', hl', h⟩ := h
  simp only [Option.some.injEq] at h
  subst h
  obtain ⟨v, r, rfl, h1, h2⟩ := hr
  have h1 : TRep g a x.1 v := h1
  exact ⟨v, r, rfl, (VRep_v (TRep_ne h1)).2 h1, ihb hl' h2⟩
 | _ => intro x l vs h; simp [caps] at h
theorem isFree_spec : ∀ {H : Heap} {n : Nat}, isFree H n = true → getE H n = .free ∧ n < H.length
 | [], n, h => by simp [isFree] at h
 | e :: H, 0, h => by cases e <;> simp_all [isFree, getE]
 | e :: H, n + 1, h => by
  have : isFree H n = true := by cases e <;> exact h
  obtain ⟨h1, h2⟩ := isFree_spec this
  exact ⟨h1, by simpa using h2⟩
theorem freeAt_one {H : Heap} {fr n : Nat} (h : freeAt H fr n = true) : n = 0 ∨ (getE H fr = .free ∧ fr < H.length) := by
 cases n with
 | zero => exact .inl rfl
 | succ n =>
  simp only [freeAt, Bool.and_eq_true] at h
  exact .inr (isFree_spec h.1)
theorem opT_sound {rd : Option Nat} (hC : CtxSound P C) {g : G} {st st' : St} {a : Act} {w : World} {o : Oper} {fr : Nat} {next : Act → World → Prop} {Q : Exit → Act → World → Prop}
  (hs : SRep g st a w) (he : (opT P C ro o fr st).eval = some st') (hn : ∀ g' a' w', g.le g' → SRep g' st' a' w' → next a' w') : o.wpIn (FW rd) 0 P a w next Q := by
 have fin : ∀ (out : Out) (rv : Value) (w' : World) (g' : G), g.le g' → HInv g' (upd st.heap out.2) w' → VRep g' out.1 rv → st' = ⟨putV st.env o.dst out.1, upd st.heap out.2⟩ → next (a.put o.dst rv) w' := by
  rintro out rv w' g' hle hI hv rfl
  exact hn g' _ _ hle ⟨(hs.env.mono hle).put o.dst hv, hI, by rw [put_defers, hle.ext]; exact hs.defers⟩
 unfold opT at he
 obtain ⟨out, hout, he⟩ := Tr.bind_some he
 have := Tr.ret_some he
 unfold outT at hout
 split at hout
 ·rename_i hcall
  split at hout
  ·rename_i k vs hco
   split at hout
   ·rename_i c hc
    split at hout
    ·rename_i hfree
     unfold callOf at hco
     split at hco
     ·rename_i f args ats hop
      split at hco
      ·rename_i k' c' x hev
       split at hco
       ·rename_i l hl
        simp only [Option.some.injEq, Prod.mk.injEq] at hco
        obtain ⟨rfl, rfl⟩ := hco
        have hf := ev_rep hs.env f
        rw [hev] at hf
        have hf := (VRep_v (by simp)).1 hf
        simp only [TRep, Ty.agg, Ty.sk, Sk.agg, Bool.false_eq_true, if_false, Rep] at hf
        obtain ⟨cs, hf, hcs⟩ := hf
        simp only [List.cons.injEq, and_true] at hf
        have hargs := argsRep_append (evs_rep hs.env args.toList) (caps_rep hl hcs)
        have hsound := hC _ _ hc
        have hrun : (execOp a.eval o).run P w = .ok (.enter k' (args.toList.map a.eval ++ cs.toList).toArray) w := by
         unfold execOp
         rw [hop]
         simp only [resolve, hf, Deferred.ofValue, Sem.run_bind, Sem.run_pure, Result.andThen_ok, invoke]
         rw [hsound.enter]
         congr 2
         apply Array.ext'
         simp
        refine ⟨fun _ _ => trivial, ?_⟩
        rw [Oper.semAt_eq _ _ _ (by rw [hop]; intro c h; cases h), hrun, Oper.uponIn_enter]
        refine ⟨fun h => absurd h (by simp [Fence.wide]), callsIn_FW.2 ((hsound.calls g st.heap w _ _ fr out hs.heap hargs hfree hout).mono ?_)⟩
        rintro e w' ⟨rv, g', rfl, hle, hI, hv⟩
        exact fin out rv w' g' hle hI hv this.symm
       ·cases hco
      ·cases hco
     ·cases hco
    ·exact (Tr.fail_some hout).elim
   ·exact (Tr.fail_some hout).elim
  ·exact (Tr.fail_some hout).elim
 ·rename_i hcall
  split at hout
  ·rename_i hfree
   obtain ⟨nx, rv, w', g', h1, h2, h3, h4, h5⟩ := core_sound hs.heap (by simpa using hcall) (fun _ => rfl) (evs_rep hs.env (opArgs o.op)) (freeAt_one hfree) hout
   refine ⟨fun _ _ => trivial, ?_⟩
   rw [Oper.semAt_eq _ _ _ (by
    intro c hc
    rw [hc] at hout
    exact Tr.fail_some hout), h1]
   rcases h2 with rfl | ⟨rfl, rfl⟩
   ·rw [Oper.uponIn_value]; exact fin out rv w' g' h3 h4 h5 this.symm
   ·rw [Oper.uponIn_skip]; exact fin out undef w' g' h3 h4 h5 this.symm
  ·exact (Tr.fail_some hout).elim
theorem getD_bool {tmps : Array Value} {d : Nat} {b : Bool} (h : tmps.getD d undef = .bool b) : tmps[d]? = some (.bool b) := by
 unfold Array.getD at h
 split at h
 ·rename_i hd; rw [Array.getElem?_eq_getElem hd]; rw [← h]; rfl
 ·cases h
theorem stepT_sound' {rd : Option Nat} (hC : CtxSound P C) {g : G} {st st' : St} {a : Act} {w : World} {ops : Array Oper} {o : Oper} {fr : Nat} {Q : Exit → Act → World → Prop} {K : Act → World → Prop}
  (hs : SRep g st a w) (he : (stepT P C ro ops.toList o fr st).eval = some st') (hn : ∀ g' a' w', g.le g' → SRep g' st' a' w' → K a' w') :
  if Region.wanted o (yielded ops a.tmps) then o.wpIn (FW rd) 0 P a w K Q else (∀ f, o.about P w a.eval = some f → (FW rd).fn f) ∧ K (a.put o.dst undef) w := by
 unfold stepT at he
 split at he
 ·rename_i hg
  rw [if_pos (by simp [Region.wanted, hg])]
  exact (opT_sound hC hs he hn)
 ·rename_i j want hg
  split at he
  ·rename_i d hd
   have hd' : (ops[j]?).bind (·.dst) = some d := by
    unfold dstOf at hd
    simpa using hd
   have hslot := hs.env.2 d
   split at he
   ·rename_i b hb
    rw [hb] at hslot
    have hslot := (VRep_v (by simp)).1 hslot
    rw [TRep_bool] at hslot
    have hy : yielded ops a.tmps j = some b := by
     unfold yielded
     rw [hd']
     simp only [Option.bind_some, getD_bool hslot]
    have hw : Region.wanted o (yielded ops a.tmps) = (b == want) := by
     simp only [Region.wanted, hg, hy]
     cases b <;> cases want <;> rfl
    have hset : SRep g ⟨setV st.env d (.v .bool b), st.heap⟩ a w := by
     have hb' : EnvRep g (setV st.env d (.v .bool b)) a := by
      refine ⟨by rw [setV_length]; exact hs.env.1, fun i => ?_⟩
      rw [getV_setV]
      split
      ·rename_i hi
       rw [hi.1]
       refine (VRep_v (by simp)).2 (TRep_bool.2 hslot)
      ·exact hs.env.2 i
     exact ⟨hb', hs.heap, hs.defers⟩
    have hskip : SRep g ⟨putV (setV st.env d (.v .bool b)) o.dst AV.none, st.heap⟩ (a.put o.dst undef) w :=
     ⟨hset.env.put o.dst ⟨#[], rfl, rfl⟩, hset.heap, by rw [put_defers]; exact hs.defers⟩
    rw [hw]
    rcases Tr.ite_some he with ⟨rfl, he⟩ | ⟨rfl, he⟩
    ·cases want with
     | true => rw [if_pos (show (true == true) = true from rfl)]; exact (opT_sound hC hset he hn)
     | false =>
      rw [if_neg (by simp)]
      have := Tr.ret_some he; subst this
      exact ⟨fun _ _ => trivial, hn g _ _ (G.le.refl g) hskip⟩
    ·cases want with
     | false => rw [if_pos (show (false == false) = true from rfl)]; exact (opT_sound hC hset he hn)
     | true =>
      rw [if_neg (by simp)]
      have := Tr.ret_some he; subst this
      exact ⟨fun _ _ => trivial, hn g _ _ (G.le.refl g) hskip⟩
   ·rename_i l hl
    rw [hl] at hslot
    obtain ⟨vs, hv, _⟩ := hslot
    have hy : yielded ops a.tmps j = none := by
     unfold yielded
     rw [hd']
     simp only [Option.bind_some]
     unfold Array.getD at hv
     split at hv
     ·rename_i hdl
      have : a.tmps[d]? = some (.tuple vs) := by rw [Array.getElem?_eq_getElem hdl, ← hv]; rfl
      rw [this]
     ·rename_i hdl
      rw [Array.getElem?_eq_none (by omega)]
    have hw : Region.wanted o (yielded ops a.tmps) = false := by
     simp only [Region.wanted, hg, hy]
     cases want <;> rfl
    rw [hw, if_neg (by simp)]
    have := Tr.ret_some he; subst this
    exact ⟨fun _ _ => trivial, hn g _ _ (G.le.refl g) ⟨hs.env.put o.dst ⟨#[], rfl, rfl⟩, hs.heap, by rw [put_defers]; exact hs.defers⟩⟩
   ·exact (Tr.fail_some he).elim
  ·exact (Tr.fail_some he).elim
theorem stepT_sound {rd : Option Nat} (hC : CtxSound P C) {g : G} {st st' : St} {a : Act} {w : World} {ops : Array Oper} {o : Oper} {rest : List Oper} {fr : Nat} {Q : Exit → Act → World → Prop}
  (hs : SRep g st a w) (he : (stepT P C ro ops.toList o fr st).eval = some st') (hn : ∀ g' a' w', g.le g' → SRep g' st' a' w' → wpListIn (FW rd) 0 P ops Q rest a' w') : wpListIn (FW rd) 0 P ops Q (o :: rest) a w :=
 stepT_sound' hC hs he hn
theorem opsT_sound {rd : Option Nat} (hC : CtxSound P C) {ops : Array Oper} {Q : Exit → Act → World → Prop} : ∀ {l : List (Nat × Oper)} {g : G} {st st' : St} {a : Act} {w : World},
  SRep g st a w → (opsT P C ops.toList l st).eval = some st' → (∀ g' a' w', g.le g' → SRep g' st' a' w' → Q .normal a' w') → wpListIn (FW rd) 0 P ops Q (l.map (·.2)) a w
 | [], g, st, st', a, w, hs, he, hn => by
  have := Tr.ret_some he; subst this
  exact hn g a w (G.le.refl g) hs
 | (fr, o) :: l, g, st, st', a, w, hs, he, hn => by
  obtain ⟨st1, h1, h2⟩ := Tr.bind_some he
  exact stepT_sound hC hs h1 fun g' a' w' hle hs' => opsT_sound hC hs' h2 fun g'' a'' w'' hle' hs'' => hn g'' a'' w'' (hle.trans hle') hs''
theorem bases_map : ∀ (os : List Oper) (n : Nat), (bases C os n).map (·.2) = os
 | [], _ => rfl
 | o :: os, n => by simp [bases, bases_map os]
theorem widen_rep {g : G} {st : St} {a : Act} {w : World} (hs : SRep g st a w) (n : Nat) : SRep g (widen st n) a w := by
 cases n with
 | zero => exact hs
 | succ n => exact ⟨hs.env, hs.heap.widen (n + 1), hs.defers⟩
theorem region_sound {rd : Option Nat} (hC : CtxSound P C) {g : G} {st st' : St} {a : Act} {w : World} {ops : Array Oper} {id : Nat} {Q : Exit → Act → World → Prop} {n : Nat}
  (hs : SRep g st a w) (he : (opsT P C ops.toList (bases C ops.toList st.heap.length) (widen st n)).eval = some st')
  (hn : ∀ g' a' w', g.le g' → SRep g' st' a' w' → Q .normal a' w') : (Code.region id ops false).wpIn (FW rd) 0 P Q a w := by
 refine wpIn_region_list ?_
 have := opsT_sound (rd := rd) hC (widen_rep hs n) he hn
 rwa [bases_map] at this
end
end Vse
end
section
set_option linter.unusedVariables false
namespace Vse
open Go
structure CLocal (c : CSpec) : Prop where
 same : ∀ vs H H', (∀ i ∈ c.ids vs H, getE H' i = getE H i) → c.ids vs H' = c.ids vs H ∧ c.wr vs H' = c.wr vs H
 turns : ∀ vs H fr out, (c.core vs (ents H (c.ids vs H)) fr).eval = some out → ∀ x ∈ out.2, x.1 ∈ c.wr vs H ∨ (fr ≤ x.1 ∧ x.1 < fr + c.new)
def CtxLocal (C : Ctx) : Prop := ∀ k c, C k = some c → CLocal c
section
variable {z : Bool} {ro : Fl} {P : Program} {C : Ctx}
theorem getV_put (env : List AV) (d : Option Nat) (v : AV) {t : Nat} (h : d ≠ some t) : getV (putV env d v) t = getV env t := by
 cases d with
 | none => rfl
 | some d =>
  simp only [putV, getV_setV]
  rw [if_neg]
  rintro ⟨rfl, _⟩
  exact h rfl
theorem ev_put {env : List AV} {d : Option Nat} {v : AV} {o : Operand} (h : ∀ t ∈ opd o, d ≠ some t) : ev (putV env d v) o = ev env o := by
 cases o with
 | tmp t => exact getV_put env d v (h t (by simp [opd]))
 | _ => rfl
theorem evs_put {env : List AV} {d : Option Nat} {v : AV} : ∀ {os : List Operand}, (∀ t ∈ os.flatMap opd, d ≠ some t) → evs (putV env d v) os = evs env os
 | [], _ => rfl
 | o :: os, h => by
  simp only [evs]
  rw [ev_put (fun t ht => h t (by simp [ht])), evs_put (fun t ht => h t (by simp only [List.flatMap_cons, List.mem_append]; exact .inr ht))]
theorem callOf_put {env : List AV} {d : Option Nat} {v : AV} {ops : List Oper} {o : Oper} (h : ∀ t ∈ readsOf ops o, d ≠ some t) : callOf (putV env d v) o.op = callOf env o.op := by
 unfold callOf
 split
 ·rename_i f args ats hop
  have h' : ∀ t ∈ opd f ++ args.toList.flatMap opd, d ≠ some t := by
   intro t ht
   refine h t ?_
   unfold readsOf
   rw [hop]
   simp only [List.mem_append] at ht ⊢
   exact .inl ht
  rw [ev_put (fun t ht => h' t (by simp [ht])), evs_put (fun t ht => h' t (by simp only [List.mem_append]; exact .inr ht))]
 ·rfl
theorem args_put {env : List AV} {d : Option Nat} {v : AV} {ops : List Oper} {o : Oper} (hc : isCall o.op = false) (h : ∀ t ∈ readsOf ops o, d ≠ some t) : evs (putV env d v) (opArgs o.op) = evs env (opArgs o.op) := by
 refine evs_put fun t ht => h t ?_
 unfold readsOf
 simp only [List.mem_append]
 left
 split
 ·rename_i f args ats hop; rw [hop] at hc; simp [isCall] at hc
 ·exact ht
theorem getE_upd (H : Heap) : ∀ (u : List (Nat × Entry)) (i : Nat), (∀ x ∈ u, x.1 ≠ i) → getE (upd H u) i = getE H i := by
 intro u
 induction u generalizing H with
 | nil => intro i _; rfl
 | cons x u ih =>
  intro i h
  simp only [upd]
  rw [ih _ i (fun y hy => h y (by simp [hy])), getE_setE, if_neg]
  rintro ⟨rfl, _⟩
  exact h x (by simp) rfl
theorem ents_congr {H H' : Heap} : ∀ {l : List Nat}, (∀ i ∈ l, getE H' i = getE H i) → ents H' l = ents H l
 | [], _ => rfl
 | i :: l, h => by simp only [ents]; rw [h i (by simp), ents_congr (fun j hj => h j (by simp [hj]))]
theorem shs_congr {H H' : Heap} : ∀ {l : List Nat}, (∀ i ∈ l, shp (getE H' i) = shp (getE H i)) → shs H' l = shs H l
 | [], _ => rfl
 | i :: l, h => by simp only [shs]; rw [h i (by simp), shs_congr (fun j hj => h j (by simp [hj]))]
theorem isFree_congr : ∀ {H H' : Heap} {n : Nat}, H'.length = H.length → getE H' n = getE H n → isFree H' n = isFree H n
 | [], [], n, _, _ => rfl
 | [], _ :: _, n, h, _ => by simp at h
 | _ :: _, [], n, h, _ => by simp at h
 | e :: H, e' :: H', 0, h, he => by
  simp only [getE] at he; subst he; cases e' <;> rfl
 | e :: H, e' :: H', n + 1, h, he => by
  have := isFree_congr (H := H) (H' := H') (n := n) (by simpa using h) he
  cases e <;> cases e' <;> exact this
theorem freeAt_congr {H H' : Heap} (hl : H'.length = H.length) : ∀ {n fr : Nat}, (∀ i, fr ≤ i → i < fr + n → getE H' i = getE H i) → freeAt H' fr n = freeAt H fr n
 | 0, fr, _ => rfl
 | n + 1, fr, h => by
  simp only [freeAt]
  rw [isFree_congr hl (h fr (by omega) (by omega)), freeAt_congr hl (fun i h1 h2 => h i (by omega) (by omega))]
theorem setE_comm : ∀ (H : Heap) {i j : Nat} (a b : Entry), i ≠ j → setE (setE H i a) j b = setE (setE H j b) i a
 | [], i, j, a, b, h => rfl
 | e :: H, 0, 0, a, b, h => absurd rfl h
 | e :: H, 0, j + 1, a, b, h => rfl
 | e :: H, i + 1, 0, a, b, h => rfl
 | e :: H, i + 1, j + 1, a, b, h => by simp only [setE]; rw [setE_comm H a b (by omega)]
theorem upd_setE : ∀ (u : List (Nat × Entry)) (H : Heap) (j : Nat) (b : Entry), (∀ x ∈ u, x.1 ≠ j) → upd (setE H j b) u = setE (upd H u) j b
 | [], _, _, _, _ => rfl
 | x :: u, H, j, b, h => by
  simp only [upd]
  rw [setE_comm H b x.2 (fun e => h x (by simp) e.symm), upd_setE u _ j b (fun y hy => h y (by simp [hy]))]
theorem upd_comm : ∀ (v u : List (Nat × Entry)) (H : Heap), (∀ x ∈ u, ∀ y ∈ v, x.1 ≠ y.1) → upd (upd H u) v = upd (upd H v) u
 | [], u, H, _ => rfl
 | y :: v, u, H, h => by
  simp only [upd]
  rw [← upd_setE u H y.1 y.2 (fun x hx => h x hx y (by simp))]
  exact upd_comm v u _ (fun x hx z hz => h x hx z (by simp [hz]))
theorem setV_comm : ∀ (l : List AV) {i j : Nat} (a b : AV), i ≠ j → setV (setV l i a) j b = setV (setV l j b) i a
 | [], i, j, a, b, h => rfl
 | e :: l, 0, 0, a, b, h => absurd rfl h
 | e :: l, 0, j + 1, a, b, h => rfl
 | e :: l, i + 1, 0, a, b, h => rfl
 | e :: l, i + 1, j + 1, a, b, h => by simp only [setV]; rw [setV_comm l a b (by omega)]
theorem putV_comm (env : List AV) {d d' : Option Nat} (a b : AV) (h : d = none ∨ d' ≠ d) : putV (putV env d a) d' b = putV (putV env d' b) d a := by
 cases d with
 | none => rfl
 | some d =>
  cases d' with
  | none => rfl
  | some d' =>
   refine setV_comm env a b ?_
   rintro rfl
   rcases h with h | h
   ·cases h
   ·exact h rfl
theorem setV_get : ∀ (l : List AV) (i : Nat), setV l i (getV l i) = l
 | [], _ => rfl
 | e :: l, 0 => rfl
 | e :: l, i + 1 => by simp only [setV, getV]; rw [setV_get l i]
inductive Gd
 | go | skip | bad
def gd (ops : List Oper) (o : Oper) (env : List AV) : Gd :=
 match o.guard with
 | none => .go
 | some (j, want) => match dstOf ops j with
  | some d => match getV env d with
   | .v .bool b => if b = want then .go else .skip
   | .tup _ => .skip
   | _ => .bad
  | none => .bad
theorem stepT_eval (ops : List Oper) (o : Oper) (fr : Nat) (st : St) :
  (stepT P C ro ops o fr st).eval = match gd ops o st.env with
   | .go => (opT P C ro o fr st).eval
   | .skip => some ⟨putV st.env o.dst AV.none, st.heap⟩
   | .bad => none := by
 unfold stepT gd
 cases hg : o.guard with
 | none => rfl
 | some jw =>
  obtain ⟨j, want⟩ := jw
  simp only
  cases hd : dstOf ops j with
  | none => rfl
  | some d =>
   simp only
   cases hv : getV st.env d with
   | tup l => rfl
   | v T x =>
    cases T with
    | bool =>
     have e : setV st.env d (.v .bool x) = st.env := by rw [← hv]; exact setV_get _ _
     cases x <;> cases want <;> simp only [Tr.eval, e, if_true, if_false, Bool.false_eq_true, reduceCtorEq]
    | _ => rfl
theorem gd_put {env : List AV} {d : Option Nat} {v : AV} {ops : List Oper} {o : Oper} (h : ∀ t ∈ readsOf ops o, d ≠ some t) : gd ops o (putV env d v) = gd ops o env := by
 unfold gd
 split
 ·rfl
 ·rename_i j want hg
  split
  ·rename_i t ht
   rw [getV_put env d v (h t ?_)]
   unfold readsOf
   rw [hg]
   simp [ht]
  ·rfl
theorem ret_nil {a : AV} {out : Out} (h : (Tr.ret (a, ([] : List (Nat × Entry)))).eval = some out) : out.2 = [] := by
 have := Tr.ret_some h; subst this; rfl
theorem t_move {vs : List AV} {out : Out} (h : (c_move vs).eval = some out) : out.2 = [] := by
 unfold c_move at h; split at h
 ·exact ret_nil h
 ·exact (Tr.fail_some h).elim
theorem t_pick {vs : List AV} {out : Out} (h : (c_pick vs).eval = some out) : out.2 = [] := by
 unfold c_pick at h; split at h
 ·rcases Tr.ite_some h with ⟨_, h⟩ | ⟨_, h⟩ <;> exact ret_nil h
 ·exact (Tr.fail_some h).elim
theorem t_build {t : TypeId} {ns : List Nat} {vs : List AV} {out : Out} (h : (c_build P t ns vs).eval = some out) : out.2 = [] := by
 unfold c_build at h; split at h
 ·split at h
  ·exact ret_nil h
  ·exact (Tr.fail_some h).elim
 ·exact (Tr.fail_some h).elim
theorem t_loadT {t : TypeId} {r : Option TV} {out : Out} (h : (loadT P t r).eval = some out) : out.2 = [] := by
 unfold loadT at h; split at h
 ·split at h
  ·exact ret_nil h
  ·exact (Tr.fail_some h).elim
 ·exact (Tr.fail_some h).elim
theorem t_load {t : TypeId} {vs : List AV} {es : List Entry} {out : Out} (h : (c_load P t vs es).eval = some out) : out.2 = [] := by
 unfold c_load at h; split at h
 ·split at h
  ·exact t_loadT h
  ·exact (Tr.fail_some h).elim
 ·exact t_loadT h
 ·split at h
  ·split at h
   ·exact t_loadT h
   ·exact (Tr.fail_some h).elim
  ·exact (Tr.fail_some h).elim
 ·exact (Tr.fail_some h).elim
def Turns (z : Bool) (o : Op) (vs : List AV) (es : List Entry) (fr : Nat) (out : Out) : Prop :=
 out.2 = [] ∨ (∃ E, out.2 = [(fr, E)] ∧ newOf o = 1) ∨ (∃ e E, out.2 = [(e, E)] ∧ wrOf z o vs = [e] ∧ (wsOf z o vs = [e] ∨ (idsOf z o vs = [e] ∧ ∃ E0, es = [E0] ∧ shp E = shp E0))) ∨
  (∃ el E, out.2 = (el.map fun e => (e, Entry.dead)) ++ [(fr, E)] ∧ newOf o = 1 ∧ wrOf z o vs = el ∧ wsOf z o vs = el)
theorem setP_len {n : Nat} {b : Ty} {l m : List b.den} {p : List PS} {d : PD (.idx :: p)} {v : TV} (h : setP (.arr n b) l (.idx :: p) d v = some ⟨.arr n b, m⟩) : m.length = l.length := by
 simp only [setP, Option.bind_eq_some_iff] at h
 obtain ⟨r, _, z, _, h⟩ := h
 simp only [Option.some.injEq, TV.mk.injEq, true_and] at h
 have h := eq_of_heq h
 subst h
 simp
theorem t_store {t : TypeId} {o1 o2 : Operand} {vs : List AV} {es : List Entry} {fr : Nat} {out : Out} (h : (c_store P t vs es).eval = some out) : Turns z (.store t o1 o2) vs es fr out := by
 unfold c_store at h; split at h
 ·rename_i e p d a'
  split at h
  ·rename_i T x
   split at h
   ·rename_i y hy
    split at h
    ·rename_i r hr
     split at h
     ·have := Tr.ret_some h; subst this
      exact .inr (.inr (.inl ⟨e, _, rfl, rfl, .inr ⟨rfl, _, rfl, by simp only [shp, setP_sk hr]⟩⟩))
     ·exact (Tr.fail_some h).elim
    ·exact (Tr.fail_some h).elim
   ·exact (Tr.fail_some h).elim
  ·exact (Tr.fail_some h).elim
 ·rename_i e g p d a'
  split at h
  ·rename_i g' b l
   split at h
   ·rename_i hg
    subst hg
    split at h
    ·rename_i y hy
     split at h
     ·rename_i m hm
      split at h
      ·have := Tr.ret_some h; subst this
       refine .inr (.inr (.inl ⟨e, _, rfl, rfl, .inr ⟨rfl, _, rfl, ?_⟩⟩))
       have hl := setP_len (setI_setP hm)
       simp only [shp]
       rw [hl]
      ·exact (Tr.fail_some h).elim
     ·exact (Tr.fail_some h).elim
    ·exact (Tr.fail_some h).elim
   ·exact (Tr.fail_some h).elim
  ·exact (Tr.fail_some h).elim
 ·exact (Tr.fail_some h).elim
theorem t_nilCheck {vs : List AV} {out : Out} (h : (c_nilCheck vs).eval = some out) : out.2 = [] := by
 unfold c_nilCheck at h; split at h
 ·exact ret_nil h
 ·exact ret_nil h
 ·exact ret_nil h
 ·exact (Tr.fail_some h).elim
theorem t_bindv {t : Tr TV} {out : Out} (h : (t.bind fun r => .ret (val r)).eval = some out) : out.2 = [] := by
 obtain ⟨r, _, h⟩ := Tr.bind_some h
 have := Tr.ret_some h; subst this; rfl
theorem t_bin {op : BinOp} {t : TypeId} {vs : List AV} {out : Out} (h : (c_bin P op t vs).eval = some out) : out.2 = [] := by
 unfold c_bin at h; split at h
 ·split at h
  ·split at h
   ·exact ret_nil h
   ·exact (Tr.fail_some h).elim
  ·split at h
   ·split at h
    ·exact ret_nil h
    ·exact (Tr.fail_some h).elim
   ·split at h
    ·split at h
     ·exact t_bindv h
     ·exact (Tr.fail_some h).elim
    ·exact (Tr.fail_some h).elim
 ·exact (Tr.fail_some h).elim
theorem t_un {op : UnOp} {vs : List AV} {out : Out} (h : (c_un op vs).eval = some out) : out.2 = [] := by
 unfold c_un at h; split at h
 ·split at h
  ·exact t_bindv h
  ·exact (Tr.fail_some h).elim
 ·exact (Tr.fail_some h).elim
theorem t_convert {s d : TypeId} {vs : List AV} {es : List Entry} {ss : List ESh} {out : Out} (h : (c_convert P s d vs es ss).eval = some out) : out.2 = [] := by
 unfold c_convert c_convert0 at h
 repeat' (split at h)
 all_goals first
  | exact (Tr.fail_some h).elim
  | exact ret_nil h
  | (obtain ⟨_, h⟩ := Tr.chk_some h; exact ret_nil h)
theorem t_fieldAddr {t : TypeId} {f : Nat} {vs : List AV} {ss : List ESh} {out : Out} (h : (c_fieldAddr P t f vs ss).eval = some out) : out.2 = [] := by
 unfold c_fieldAddr at h; split at h
 ·split at h
  ·exact ret_nil h
  ·exact (Tr.fail_some h).elim
 ·split at h
  ·split at h
   ·exact ret_nil h
   ·exact (Tr.fail_some h).elim
  ·exact (Tr.fail_some h).elim
 ·split at h
  ·split at h
   ·exact ret_nil h
   ·exact (Tr.fail_some h).elim
  ·exact (Tr.fail_some h).elim
 ·exact (Tr.fail_some h).elim
theorem t_field {t : TypeId} {f : Nat} {vs : List AV} {out : Out} (h : (c_field P t f vs).eval = some out) : out.2 = [] := by
 unfold c_field at h; split at h
 ·split at h
  ·split at h
   ·split at h
    ·exact ret_nil h
    ·exact (Tr.fail_some h).elim
   ·exact (Tr.fail_some h).elim
  ·exact (Tr.fail_some h).elim
 ·exact (Tr.fail_some h).elim
theorem t_indexAddr {t : TypeId} {vs : List AV} {ss : List ESh} {out : Out} (h : (c_indexAddr P t vs ss).eval = some out) : out.2 = [] := by
 unfold c_indexAddr at h
 repeat' (split at h)
 all_goals first
  | exact (Tr.fail_some h).elim
  | exact ret_nil h
  | (obtain ⟨_, h⟩ := Tr.chk_some h; exact ret_nil h)
theorem t_index {t : TypeId} {vs : List AV} {out : Out} (h : (c_index P t vs).eval = some out) : out.2 = [] := by
 unfold c_index at h
 repeat' (split at h)
 all_goals first
  | exact (Tr.fail_some h).elim
  | exact ret_nil h
  | (obtain ⟨_, h⟩ := Tr.chk_some h; exact ret_nil h)
theorem t_extract {i : Nat} {vs : List AV} {out : Out} (h : (c_extract i vs).eval = some out) : out.2 = [] := by
 unfold c_extract at h; split at h
 ·split at h
  ·exact ret_nil h
  ·exact (Tr.fail_some h).elim
 ·exact (Tr.fail_some h).elim
theorem t_makeFunc {fn : Fn} {first : Array Operand} {vs : List AV} {out : Out} (h : (c_makeFunc fn first vs).eval = some out) : out.2 = [] := by
 unfold c_makeFunc at h
 repeat' (split at h)
 all_goals first
  | exact (Tr.fail_some h).elim
  | exact ret_nil h
theorem t_builtin {b : Builtin} {vs : List AV} {out : Out} (h : (c_builtin b vs).eval = some out) : out.2 = [] := by
 unfold c_builtin at h; split at h
 ·split at h
  ·cases b <;> first | exact ret_nil h | exact (Tr.fail_some h).elim
  ·exact (Tr.fail_some h).elim
 ·exact (Tr.fail_some h).elim
theorem t_alloc {t : TypeId} {vs : List AV} {es : List Entry} {fr : Nat} {out : Out} (h : (c_alloc P t fr).eval = some out) : Turns z (.alloc t) vs es fr out := by
 unfold c_alloc at h; split at h
 ·have := Tr.ret_some h; subst this; exact .inr (.inl ⟨_, rfl, rfl⟩)
 ·exact (Tr.fail_some h).elim
theorem t_box {t : TypeId} {x : Operand} {vs : List AV} {es : List Entry} {fr : Nat} {out : Out} (h : (c_box vs fr).eval = some out) : Turns z (.box t x) vs es fr out := by
 unfold c_box at h; split at h
 ·split at h
  ·have := Tr.ret_some h; subst this; exact .inr (.inl ⟨_, rfl, rfl⟩)
  ·exact (Tr.fail_some h).elim
 ·exact (Tr.fail_some h).elim
theorem t_buildS {t : TypeId} {n : Nat} {ns : List Nat} {vs : List AV} {fr : Nat} {out : Out} (h : (c_buildS P t n ns vs fr).eval = some out) : ∃ E, out.2 = [(fr, E)] := by
 unfold c_buildS at h
 repeat' (split at h)
 all_goals first
  | exact (Tr.fail_some h).elim
  | (have := Tr.ret_some h; subst this; exact ⟨_, rfl⟩)
theorem t_buildSlice {t : TypeId} {n : Nat} {ps : Array (Nat × Operand)} {ns : List Nat} {vs : List AV} {es : List Entry} {fr : Nat} {out : Out} (h : (c_buildSlice P z t n ns vs es fr).eval = some out) : Turns z (.buildSlice t n ps) vs es fr out := by
 unfold c_buildSlice at h
 split at h
 ·obtain ⟨E, hE⟩ := t_buildS h
  exact .inr (.inl ⟨E, hE, rfl⟩)
 rename_i hns
 have hids : bsIds z vs = ownIds vs := by
  unfold bsIds
  split
  ·exact (hns _ _ _ rfl rfl).elim
  ·rfl
 split at h
 ·split at h
  ·obtain ⟨r, h1, h2⟩ := Tr.bind_some h
   have := Tr.ret_some h2; subst this
   obtain ⟨E, hE⟩ := t_buildS h1
   exact .inr (.inr (.inr ⟨bsIds z vs, E, by simp only [hE, hids], rfl, rfl, rfl⟩))
  ·exact (Tr.fail_some h).elim
 ·exact (Tr.fail_some h).elim
theorem t_makeSlice {t : TypeId} {l c : Operand} {vs : List AV} {es : List Entry} {fr : Nat} {out : Out} (h : (c_makeSlice P t vs fr).eval = some out) : Turns z (.makeSlice t l c) vs es fr out := by
 unfold c_makeSlice at h
 repeat' (split at h)
 all_goals first
  | exact (Tr.fail_some h).elim
  | (obtain ⟨_, h⟩ := Tr.chk_some h; have := Tr.ret_some h; subst this; exact .inr (.inl ⟨_, rfl, rfl⟩))
theorem t_sliceA {t : TypeId} {lo hi mx : Option Int} {x : AV} {ss : List ESh} {out : Out} (h : (c_sliceA P t lo hi mx x ss).eval = some out) : out.2 = [] := by
 unfold c_sliceA at h
 repeat' (split at h)
 all_goals first
  | exact (Tr.fail_some h).elim
  | (obtain ⟨_, h⟩ := Tr.chk_some h; exact ret_nil h)
theorem zt_of {b z : Bool} (h : (b || !z) = false) : z = true := by
 cases z with
 | true => rfl
 | false => rw [show (!false) = true from rfl, Bool.or_true] at h; cases h
theorem t_slice {t : TypeId} {x : Operand} {lo hi mx : Option Operand} {q a b : Bool} {vs : List AV} {es : List Entry} {ss : List ESh} {fr : Nat} {out : Out} (h : (c_slice P (!z) t q a b mx.isSome vs es ss).eval = some out) : Turns z (.slice t x lo hi mx) vs es fr out := by
 unfold c_slice at h
 split at h
 ·split at h
  ·split at h
   ·split at h
    ·rename_i mxo hb
     split at h
     ·split at h
      ·rename_i m
       have hm : mx.isSome = true := by
        cases hms : mx.isSome with
        | true => rfl
        | false => rw [hms] at hb; simp [bnd] at hb
       unfold c_slice3 at h
       repeat' (split at h)
       all_goals first
        | exact (Tr.fail_some h).elim
        | (obtain ⟨_, h⟩ := Tr.chk_some h; have := Tr.ret_some h; subst this; first | exact .inl rfl | exact .inr (.inr (.inl ⟨_, _, rfl, by simp only [wrOf, hm, Bool.true_or, if_true, headIds], .inl (by simp only [wsOf, hm, Bool.true_or, if_true, headIds])⟩)))
      ·unfold c_slice2 at h
       repeat' (split at h)
       all_goals first
        | exact (Tr.fail_some h).elim
        | (rename_i hh _; have hz : z = true := zt_of hh; obtain ⟨_, h⟩ := Tr.chk_some h; have := Tr.ret_some h; subst this; exact .inr (.inr (.inl ⟨_, _, rfl, by simp only [wrOf, hz, Bool.or_true, if_true, headIds], .inl (by simp only [wsOf, hz, Bool.or_true, if_true, headIds])⟩)))
        | (obtain ⟨_, h⟩ := Tr.chk_some h; exact .inl (ret_nil h))
        | simp_all
     ·exact .inl (t_sliceA h)
    ·exact (Tr.fail_some h).elim
   ·exact (Tr.fail_some h).elim
  ·exact (Tr.fail_some h).elim
 ·exact (Tr.fail_some h).elim
theorem t_copy {t : TypeId} {args : Array Operand} {ats : Array TypeId} {vs : List AV} {es : List Entry} {fr : Nat} {out : Out} (h : (c_copy P t vs es).eval = some out) : Turns z (.call ⟨.builtin .copy, args, ats⟩) vs es fr out := by
 unfold c_copy at h
 repeat' (split at h)
 all_goals first
  | exact (Tr.fail_some h).elim
  | exact .inl (ret_nil h)
  | (have := Tr.ret_some h; subst this; exact .inr (.inr (.inl ⟨_, _, rfl, rfl, .inl rfl⟩)))
theorem t_s2ap {t : TypeId} {vs : List AV} {out : Out} (h : (c_s2ap P t vs).eval = some out) : out.2 = [] := by
 unfold c_s2ap at h
 repeat' (split at h)
 all_goals first
  | exact (Tr.fail_some h).elim
  | (obtain ⟨_, h⟩ := Tr.chk_some h; exact ret_nil h)
theorem t_len {t : TypeId} {vs : List AV} {es : List Entry} {out : Out} (h : (c_len P t vs es).eval = some out) : out.2 = [] := by
 unfold c_len at h
 repeat' (split at h)
 all_goals first
  | exact (Tr.fail_some h).elim
  | exact ret_nil h
theorem t_append {t t2 : TypeId} {args : Array Operand} {ats : Array TypeId} {vs : List AV} {es : List Entry} {fr : Nat} {out : Out} (h : (c_append P t t2 vs es fr).eval = some out) : Turns z (.call ⟨.builtin .append, args, ats⟩) vs es fr out := by
 unfold c_append c_appT c_appStr at h
 repeat' (split at h)
 all_goals first
  | exact (Tr.fail_some h).elim
  | exact .inl (ret_nil h)
  | (rcases Tr.ite_some h with ⟨_, h⟩ | ⟨_, h⟩ <;> first | exact .inl (ret_nil h) | (obtain ⟨_, h⟩ := Tr.chk_some h; have := Tr.ret_some h; subst this; exact .inr (.inl ⟨_, rfl, rfl⟩)))
  | (obtain ⟨_, h⟩ := Tr.chk_some h; have := Tr.ret_some h; subst this; first | exact .inr (.inl ⟨_, rfl, rfl⟩) | exact .inr (.inr (.inl ⟨_, _, rfl, rfl, .inl rfl⟩)))
theorem t_mapUpdate {o : Op} {t : TypeId} {vs : List AV} {es : List Entry} {fr : Nat} {out : Out} (hw : wrOf z o vs = mpIds vs) (hi : idsOf z o vs = mpIds vs) (h : (c_mapUpdate P t vs es).eval = some out) : Turns z o vs es fr out := by
 unfold c_mapUpdate at h
 repeat' (split at h)
 all_goals first
  | exact (Tr.fail_some h).elim
  | (have := Tr.ret_some h; subst this; exact .inr (.inr (.inl ⟨_, _, rfl, hw, .inr ⟨hi, _, rfl, rfl⟩⟩)))
theorem t_delete {t : TypeId} {args : Array Operand} {ats : Array TypeId} {vs : List AV} {es : List Entry} {fr : Nat} {out : Out} (h : (c_delete P t vs es).eval = some out) : Turns z (.call ⟨.builtin .delete, args, ats⟩) vs es fr out := by
 unfold c_delete at h
 repeat' (split at h)
 all_goals first
  | exact (Tr.fail_some h).elim
  | (have := Tr.ret_some h; subst this; exact .inr (.inr (.inl ⟨_, _, rfl, rfl, .inr ⟨rfl, _, rfl, rfl⟩⟩)))
theorem core_turns {o : Op} {vs : List AV} {es : List Entry} {ss : List ESh} {fr : Nat} {out : Out} (h : (core P (true, z) o vs es ss fr).eval = some out) : Turns z o vs es fr out := by
 cases o with
 | move x => exact .inl (t_move h)
 | assign x => exact .inl (t_move h)
 | pick a b c => exact .inl (t_pick h)
 | alloc t => exact t_alloc h
 | box t x => exact t_box h
 | build t ps => exact .inl (t_build h)
 | load t x => exact .inl (t_load h)
 | store t x y => exact t_store h
 | buildSlice t n ps => exact t_buildSlice h
 | makeSlice t l c => exact t_makeSlice h
 | slice t x lo hi mx => exact t_slice h
 | sliceToArrayPointer t x => exact .inl (t_s2ap h)
 | nilCheck x => exact .inl (t_nilCheck h)
 | binOp op t x y z => exact .inl (t_bin h)
 | unOp op t x => exact .inl (t_un h)
 | convert s d x =>
  simp only [core] at h
  split at h
  ·unfold c_convF at h
   split at h
   ·obtain ⟨r, q1, q2⟩ := Tr.bind_some h
    split at q2
    ·split at q2
     ·have := Tr.ret_some q2; subst this
      exact .inr (.inr (.inl ⟨_, _, rfl, rfl, .inl rfl⟩))
     ·exact (Tr.fail_some q2).elim
    ·exact (Tr.fail_some q2).elim
   ·exact .inl (t_convert h)
  ·exact .inl (t_convert h)
 | fieldAddr t x f => exact .inl (t_fieldAddr h)
 | field t x f => exact .inl (t_field h)
 | indexAddr t x y => exact .inl (t_indexAddr h)
 | index t x y => exact .inl (t_index h)
 | extract x i => exact .inl (t_extract h)
 | makeFunc fn first captured => exact .inl (t_makeFunc h)
 | call c =>
  obtain ⟨callee, args, ats⟩ := c
  cases callee with
  | builtin b =>
   by_cases hlen : b = .len
   ·subst hlen
    simp only [core] at h
    split at h
    ·exact .inl (t_len h)
    ·exact (Tr.fail_some h).elim
   by_cases happ : b = .append
   ·subst happ
    simp only [core] at h
    split at h
    ·exact t_append h
    ·exact (Tr.fail_some h).elim
   by_cases hcop : b = .copy
   ·subst hcop
    simp only [core] at h
    split at h
    ·exact t_copy h
    ·exact (Tr.fail_some h).elim
   by_cases hdel : b = .delete
   ·subst hdel
    simp only [core] at h
    split at h
    ·exact t_delete h
    ·exact (Tr.fail_some h).elim
   have h : (c_builtin b vs).eval = some out := by
    cases b <;> first | exact h | exact absurd rfl hlen | exact absurd rfl happ | exact absurd rfl hcop | exact absurd rfl hdel
   exact .inl (t_builtin h)
  | value f => exact (Tr.fail_some h).elim
  | invoke r m => exact (Tr.fail_some h).elim
 | makeMap t rv =>
  simp only [core] at h
  unfold c_makeMap at h
  repeat' (split at h)
  all_goals first
   | exact (Tr.fail_some h).elim
   | (have := Tr.ret_some h; subst this; exact .inr (.inl ⟨_, rfl, rfl⟩))
 | range t x =>
  simp only [core] at h
  unfold c_range at h
  repeat' (split at h)
  all_goals first
   | exact (Tr.fail_some h).elim
   | (have := Tr.ret_some h; subst this; exact .inr (.inl ⟨_, rfl, rfl⟩))
 | next x b =>
  simp only [core] at h
  unfold c_next at h
  split at h
  ·rcases Tr.ite_some h with ⟨_, h⟩ | ⟨_, h⟩
   ·obtain ⟨_, h⟩ := Tr.chk_some h
    have := Tr.ret_some h; subst this
    exact .inr (.inr (.inl ⟨_, _, rfl, rfl, .inr ⟨rfl, _, rfl, rfl⟩⟩))
   ·exact .inl (ret_nil h)
  ·exact (Tr.fail_some h).elim
 | lookup t x y ok =>
  simp only [core] at h
  unfold c_lookup at h
  repeat' (split at h)
  all_goals first
   | exact (Tr.fail_some h).elim
   | exact .inl (ret_nil h)
 | mapUpdate t m k x => exact t_mapUpdate rfl rfl h
 | insert t m k x => exact t_mapUpdate rfl rfl h
 | _ => exact (Tr.fail_some h).elim
end
end Vse
end
end

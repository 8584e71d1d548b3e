/- Each operation of the symbolic machine is one of the model's (2). Nothing here is about one program. -/
import Derived.Test.YtodjkocikflmnaaE6
set_option linter.unusedVariables false
namespace Vse
open Go

section
variable {P : Program} {g : G}

/-! zero values -/

theorem ofVal_one {c : Value} (h : (ofVal c).T ≠ .und) : Rep g (ofVal c).T (ofVal c).x [c] ∧ (ofVal c).T.sk = .leaf := by
  have h1 := (VRep_v h).1 (ofVal_spec g c)
  have h2 : (ofVal c).T.sk = .leaf := by
    unfold ofVal
    split <;> first | rfl | (split <;> rfl)
  refine ⟨?_, h2⟩
  unfold TRep at h1
  rw [if_neg (by unfold Ty.agg; rw [h2]; simp [Sk.agg])] at h1
  exact h1

theorem decFields_spec {rec : TypeId → List Value → Option (TV × List Value)}
    (hrec : ∀ t cs v r, rec t cs = some (v, r) → ∃ c1, cs = c1 ++ r ∧ Rep g v.T v.x c1) : ∀ {fs : List Field} {cs : List Value} {v : TV} {r : List Value},
    decFields rec fs cs = some (v, r) → ∃ c1, cs = c1 ++ r ∧ Rep g v.T v.x c1
  | [], cs, v, r, h => by
    simp only [decFields, Option.some.injEq, Prod.mk.injEq] at h
    obtain ⟨rfl, rfl⟩ := h
    exact ⟨[], rfl, rfl⟩
  | f :: fs, cs, v, r, h => by
    simp only [decFields] at h
    split at h
    · rename_i t r' h1
      split at h
      · rename_i u q h2
        simp only [Option.some.injEq, Prod.mk.injEq] at h
        obtain ⟨rfl, rfl⟩ := h
        obtain ⟨c1, e1, r1⟩ := hrec _ _ _ _ h1
        obtain ⟨c2, e2, r2⟩ := decFields_spec hrec h2
        exact ⟨c1 ++ c2, by rw [e1, e2, List.append_assoc], c1, c2, rfl, r1, r2⟩
      · cases h
    · cases h

theorem decMany_spec {rec : List Value → Option (TV × List Value)} {a : Ty}
    (hrec : ∀ cs v r, rec cs = some (v, r) → ∃ c1, cs = c1 ++ r ∧ Rep g v.T v.x c1) : ∀ {n : Nat} {cs : List Value} {l : List a.den} {r : List Value},
    decMany rec a n cs = some (l, r) → l.length = n ∧ ∃ c1, cs = c1 ++ r ∧ repL (Rep g a) l c1
  | 0, cs, l, r, h => by
    simp only [decMany, Option.some.injEq, Prod.mk.injEq] at h
    obtain ⟨rfl, rfl⟩ := h
    exact ⟨rfl, [], rfl, rfl⟩
  | n + 1, cs, l, r, h => by
    simp only [decMany] at h
    split at h
    · rename_i t r' h1
      split at h
      · rename_i x hx
        split at h
        · rename_i l' q h2
          simp only [Option.some.injEq, Prod.mk.injEq] at h
          obtain ⟨rfl, rfl⟩ := h
          obtain ⟨c1, e1, r1⟩ := hrec _ _ _ h1
          obtain ⟨hn, c2, e2, r2⟩ := decMany_spec hrec h2
          have := castT_spec hx
          subst this
          exact ⟨by simp [hn], c1 ++ c2, by rw [e1, e2, List.append_assoc], c1, c2, rfl, r1, r2⟩
        · cases h
      · cases h
    · cases h

theorem decZ_spec : ∀ {n : Nat} {t : TypeId} {cs : List Value} {v : TV} {r : List Value}, decZ P n t cs = some (v, r) → ∃ c1, cs = c1 ++ r ∧ Rep g v.T v.x c1
  | 0, _, _, _, _, h => by simp [decZ] at h
  | n + 1, t, cs, v, r, h => by
    unfold decZ at h
    split at h
    · exact decFields_spec (fun t cs v r h => decZ_spec h) h
    · split at h
      · rename_i u q h1
        split at h
        · rename_i l q' h2
          simp only [Option.some.injEq, Prod.mk.injEq] at h
          obtain ⟨rfl, rfl⟩ := h
          obtain ⟨hn, c1, e1, r1⟩ := decMany_spec (fun cs v r h => decZ_spec h) h2
          exact ⟨c1, e1, hn, r1⟩
        · cases h
      · cases h
    · split at h
      · rename_i c r'
        split at h
        · cases h
        · rename_i v' hv
          simp only [Option.some.injEq, Prod.mk.injEq] at h
          obtain ⟨rfl, rfl⟩ := h
          have : (ofVal c).T ≠ .und := by
            intro hu
            generalize ofVal c = t at *
            obtain ⟨T, x⟩ := t
            simp only at hu
            subst hu
            exact hv () rfl
          exact ⟨[c], rfl, (ofVal_one this).1⟩
      · cases h

theorem zeroT_spec {t : TypeId} {z : TV} (h : zeroT P t = some z) : sk? P t = some z.T.sk ∧ ∃ i zv, P.info? t = some i ∧ i.zero = some zv ∧ TRep g z.T z.x zv ∧ (∀ w, (zeroValue t).run P w = .ok zv w) := by
  unfold zeroT at h
  split at h
  · rename_i i hi
    split at h
    · rename_i zv hz
      split at h
      · rename_i s hs
        split at h
        · rename_i v hv
          split at h
          · rename_i hc
            simp only [Option.some.injEq] at h; subst h
            simp only [Bool.and_eq_true, decide_eq_true_eq] at hc
            obtain ⟨c1, c2⟩ := hc
            obtain ⟨cs, e1, r1⟩ := decZ_spec (g := g) hv
            simp only [List.append_nil] at e1
            refine ⟨by rw [c1]; exact hs, i, zv, hi, hz, ?_, fun w => ?_⟩
            · cases zv with
              | agg cells =>
                simp only [Value.cells] at e1
                exact TRep_of_agg (by unfold Ty.agg; rw [c1]; exact c2) (by rw [e1]; exact r1)
              | _ =>
                simp only [Value.cells] at e1
                refine TRep_of_leaf (by unfold Ty.agg; rw [c1]; simpa [aggOk] using c2) ?_
                simp only [← e1] at r1
                exact r1
            · simp [zeroValue, run_typeInfo w hi, hz]
          · cases h
        · cases h
      · cases h
    · cases h
  · cases h

/-! equality -/

theorem eqList_iff {α : Type} {f : α → α → Bool} : ∀ {l m : List α}, (∀ x ∈ l, ∀ y, f x y = true ↔ x = y) → (eqList f l m = true ↔ l = m)
  | [], [], _ => by simp [eqList]
  | [], _ :: _, _ => by simp [eqList]
  | _ :: _, [], _ => by simp [eqList]
  | x :: xs, y :: ys, h => by
    simp only [eqList, Bool.and_eq_true, List.cons.injEq]
    rw [h x (by simp) y, eqList_iff (fun z hz => h z (by simp [hz]))]

theorem repL_cons_inv {α : Type} {R : α → List Value → Prop} {x : α} {l : List α} {cs : List Value} {n : Nat} (hn : ∀ x cs, R x cs → cs.length = n) (h : repL R (x :: l) cs) :
    R x (cs.take n) ∧ repL R l (cs.drop n) := by
  obtain ⟨c1, c2, rfl, h1, h2⟩ := h
  have := hn _ _ h1
  rw [List.take_append_of_le_length (by omega), List.take_of_length_le (by omega), List.drop_append_of_le_length (by omega), List.drop_of_length_le (by omega)]
  exact ⟨h1, by simpa using h2⟩

/-- '==' at a type, the cells being given -/
def EqAtT (P : Program) (g : G) (n : Nat) (t : TypeId) (T : Ty) : Prop :=
  ∀ (x y : T.den) (xs ys : List Value) (va vb : Value) (d : Nat) (w : World), Rep g T x xs → Rep g T y ys →
    (if T.agg then va = .agg xs.toArray else xs = [va]) → (if T.agg then vb = .agg ys.toArray else ys = [vb]) →
    (Op.equalIn (n + d) t va vb).run P w = .ok (eqT T x y) w

theorem eqFields_run {n m : Nat} (ih : ∀ t T s, cmpTy P n t T = true → skOf P m t = some s → s = T.sk → EqAtT P g n t T) :
    ∀ (fs : List Field) (T : Ty) (s : Sk) (x y : T.den) (xs ys : List Value) (cx cy : Array Value) (off d : Nat) (w : World),
    cmpFields (cmpTy P n) fs T = true → skFields (skOf P m) fs off = some s → s = T.sk → Rep g T x xs → Rep g T y ys →
    (∃ p, cx.toList = p ++ xs ∧ p.length = off) → (∃ p, cy.toList = p ++ ys ∧ p.length = off) →
    (Op.eqFields (n + d) cx cy fs).run P w = .ok (eqT T x y) w := by
  intro fs
  induction fs with
  | nil =>
    intro T s x y xs ys cx cy off d w hc hs hT hx hy hpx hpy
    cases T <;> simp [cmpFields] at hc
    simp [Op.eqFields, eqT]
  | cons f fs ihf =>
    intro T s x y xs ys cx cy off d w hc hs hT hx hy hpx hpy
    cases T <;> simp only [cmpFields, Bool.false_eq_true] at hc
    rename_i a b
    simp only [Bool.and_eq_true] at hc
    obtain ⟨⟨hname, hca⟩, hcb⟩ := hc
    simp only [skFields] at hs
    split at hs
    · rename_i ho
      split at hs
      · rename_i sf hsf
        split at hs
        · rename_i sr hsr
          simp only [Option.some.injEq] at hs
          rw [← hs] at hT
          simp only [Ty.sk, Sk.prod.injEq] at hT
          obtain ⟨ha, hb⟩ := hT
          obtain ⟨x1, x2, rfl, hx1, hx2⟩ := hx
          obtain ⟨y1, y2, rfl, hy1, hy2⟩ := hy
          obtain ⟨px, ex, lx⟩ := hpx
          obtain ⟨py, ey, ly⟩ := hpy
          have l1 := Rep_length _ _ _ hx1
          have l2 := Rep_length _ _ _ hy1
          have hn : sf.nc = a.nc := by unfold Ty.nc; rw [ha]
          have sx : seg cx.toList f.offset sf.nc = x1 := by rw [ex, ho, ← lx, show px.length = px.length + 0 by omega, seg_append_right, seg_append_left (by omega), seg_all (by omega)]
          have sy : seg cy.toList f.offset sf.nc = y1 := by rw [ey, ho, ← ly, show py.length = py.length + 0 by omega, seg_append_right, seg_append_left (by omega), seg_all (by omega)]
          have zx : f.offset + sf.nc ≤ cx.size := by
            have := congrArg List.length ex
            simp only [Array.length_toList, List.length_append] at this
            omega
          have zy : f.offset + sf.nc ≤ cy.size := by
            have := congrArg List.length ey
            simp only [Array.length_toList, List.length_append] at this
            omega
          obtain ⟨va, ra, hva⟩ := run_part_sk hsf w cx f.offset zx
          obtain ⟨vb, rb, hvb⟩ := run_part_sk hsf w cy f.offset zy
          rw [sx] at hva
          rw [sy] at hvb
          have hag : a.agg = sf.agg := by unfold Ty.agg; rw [ha]
          have he := ih f.type a sf hca hsf ha x.1 y.1 x1 y1 va vb d w hx1 hy1 (by rw [hag]; exact hva) (by rw [hag]; exact hvb)
          have hne : f.name ≠ "_" := by simpa using hname
          simp only [Op.eqFields, if_pos hne, Sem.run_bind, ra, rb, Result.andThen_ok, he, eqT]
          cases eqT a x.1 y.1 with
          | false => simp
          | true =>
            simp only [Bool.not_true, Bool.false_eq_true, if_false, Bool.true_and]
            refine ihf b sr x.2 y.2 x2 y2 cx cy (off + sf.nc) d w hcb hsr hb hx2 hy2 ⟨px ++ x1, by rw [ex, List.append_assoc], by rw [List.length_append]; omega⟩ ⟨py ++ y1, by rw [ey, List.append_assoc], by rw [List.length_append]; omega⟩
        · cases hs
      · cases hs
    · cases hs

theorem eqItems_run {n m : Nat} {e : TypeId} {a : Ty} {s : Sk} (ih : EqAtT P g n e a) (hs : skOf P m e = some s) (hsa : s = a.sk) (d : Nat) (w : World) :
    ∀ (x y : List a.den) (xs ys : List Value) (cx cy : Array Value) (i : Nat), x.length = y.length → repL (Rep g a) x xs → repL (Rep g a) y ys →
    (∃ p, cx.toList = p ++ xs ∧ p.length = i * a.nc) → (∃ p, cy.toList = p ++ ys ∧ p.length = i * a.nc) →
    (Op.eqItems (n + d) e (P.cellsOf e) cx cy (List.range' i x.length)).run P w = .ok (eqList (eqT a) x y) w := by
  intro x
  induction x with
  | nil =>
    intro y xs ys cx cy i hl hx hy hpx hpy
    cases y with
    | nil => simp [Op.eqItems, eqList]
    | cons => simp at hl
  | cons x0 x ihx =>
    intro y xs ys cx cy i hl hx hy hpx hpy
    cases y with
    | nil => simp at hl
    | cons y0 y =>
      obtain ⟨x1, x2, rfl, hx1, hx2⟩ := hx
      obtain ⟨y1, y2, rfl, hy1, hy2⟩ := hy
      obtain ⟨px, ex, lx⟩ := hpx
      obtain ⟨py, ey, ly⟩ := hpy
      have l1 := Rep_length _ _ _ hx1
      have l2 := Rep_length _ _ _ hy1
      have hn : s.nc = a.nc := by unfold Ty.nc; rw [hsa]
      have hz : P.cellsOf e = a.nc := by rw [cellsOf_sk hs, hn]
      have sx : seg cx.toList (i * P.cellsOf e) s.nc = x1 := by rw [ex, hz, ← lx, show px.length = px.length + 0 by omega, seg_append_right, seg_append_left (by omega), seg_all (by omega)]
      have sy : seg cy.toList (i * P.cellsOf e) s.nc = y1 := by rw [ey, hz, ← ly, show py.length = py.length + 0 by omega, seg_append_right, seg_append_left (by omega), seg_all (by omega)]
      have zx : i * P.cellsOf e + s.nc ≤ cx.size := by
        have := congrArg List.length ex
        simp only [Array.length_toList, List.length_append] at this
        rw [hz]; omega
      have zy : i * P.cellsOf e + s.nc ≤ cy.size := by
        have := congrArg List.length ey
        simp only [Array.length_toList, List.length_append] at this
        rw [hz]; omega
      obtain ⟨va, ra, hva⟩ := run_part_sk hs w cx _ zx
      obtain ⟨vb, rb, hvb⟩ := run_part_sk hs w cy _ zy
      rw [sx] at hva
      rw [sy] at hvb
      have hag : a.agg = s.agg := by unfold Ty.agg; rw [hsa]
      have he := ih x0 y0 x1 y1 va vb d w hx1 hy1 (by rw [hag]; exact hva) (by rw [hag]; exact hvb)
      simp only [List.length_cons, List.range'_succ, Op.eqItems, Sem.run_bind, ra, rb, Result.andThen_ok, he, eqList]
      cases eqT a x0 y0 with
      | false => simp
      | true =>
        simp only [Bool.not_true, Bool.false_eq_true, if_false, Bool.true_and]
        refine ihx y x2 y2 cx cy (i + 1) (by simpa using hl) hx2 hy2 ⟨px ++ x1, by rw [ex, List.append_assoc], by rw [List.length_append, lx, l1, Nat.add_mul]; omega⟩ ⟨py ++ y1, by rw [ey, List.append_assoc], by rw [List.length_append, ly, l2, Nat.add_mul]; omega⟩

theorem equalIn_run : ∀ (n : Nat) (t : TypeId) (T : Ty) (m : Nat) (s : Sk), cmpTy P n t T = true → skOf P m t = some s → s = T.sk → EqAtT P g n t T
  | 0, t, T, m, s, h, _, _ => by simp [cmpTy] at h
  | n + 1, t, T, m, s, h, hs, hT => by
    intro x y xs ys va vb d w hx hy hva hvb
    rw [show n + 1 + d = (n + d) + 1 by omega]
    unfold cmpTy at h
    split at h
    · rename_i hu
      cases T <;> simp only [Bool.false_eq_true] at h
      simp only [Rep] at hx hy
      subst hx; subst hy
      simp [Ty.agg, Ty.sk, Sk.agg] at hva hvb
      subst hva; subst hvb
      exact run_equalIn_bool w _ t x y hu
    · rename_i k hu
      cases T <;> simp only [Bool.false_eq_true] at h
      simp only [Rep] at hx hy
      obtain ⟨hx, _⟩ := hx
      obtain ⟨hy, _⟩ := hy
      subst hx; subst hy
      simp [Ty.agg, Ty.sk, Sk.agg] at hva hvb
      subst hva; subst hvb
      rw [run_equalIn_int w _ t _ _ _ _ hu]
      simp only [eqT]
      congr 1
    · rename_i hu
      cases T <;> simp only [Bool.false_eq_true] at h
      simp only [Rep] at hx hy
      obtain ⟨hx, _⟩ := hx; obtain ⟨hy, _⟩ := hy; subst hx; subst hy
      simp [Ty.agg, Ty.sk, Sk.agg] at hva hvb
      subst hva; subst hvb
      rw [run_equalIn_string w _ t x y hu, eqT, beq_toListBytes]
    · rename_i fs hu
      simp only [Bool.and_eq_true, Bool.not_eq_true'] at h
      obtain ⟨i, hi, hz, d', hu', hd⟩ := skOf_spec hs
      rw [hu] at hu'
      simp only [Option.some.injEq] at hu'
      subst hu'
      rcases hd with ⟨_, h1, _⟩ | ⟨fs', m', hfs, rfl, hsf, hag⟩ | ⟨k, e, a, m', hk, _⟩
      · exact absurd rfl (h1 fs)
      · simp only [TypeDesc.struct.injEq] at hfs
        subst hfs
        have hfo : P.fieldsOf t = fs := by simp [Program.fieldsOf, hu]
        have hTa : T.agg = true := by unfold Ty.agg; rw [← hT]; exact hag
        rw [if_pos hTa] at hva hvb
        subst hva; subst hvb
        rw [run_equalIn_struct w _ t _ _ (by rw [hfo]; exact hu) h.1, hfo]
        exact eqFields_run (fun t T s hc hs hT => equalIn_run n t T m' s hc hs hT) fs.toList T s x y xs ys _ _ 0 d w h.2 hsf hT hx hy ⟨[], by simp, rfl⟩ ⟨[], by simp, rfl⟩
      · cases hk
    · rename_i k e hu
      cases T <;> simp only [Bool.false_eq_true] at h
      rename_i k' a
      simp only [Bool.and_eq_true, beq_iff_eq] at h
      obtain ⟨i, hi, hz, d', hu', hd⟩ := skOf_spec hs
      rw [hu] at hu'
      simp only [Option.some.injEq] at hu'
      subst hu'
      rcases hd with ⟨_, _, h2⟩ | ⟨fs', m', hfs, _⟩ | ⟨k2, e2, a2, m', hk, rfl, hsa, rfl⟩
      · exact absurd rfl (h2 k e)
      · cases hfs
      · simp only [TypeDesc.array.injEq] at hk
        obtain ⟨rfl, rfl⟩ := hk
        simp only [Ty.sk, Sk.arr.injEq] at hT
        have hTa : (Ty.arr k' a).agg = true := rfl
        rw [if_pos hTa] at hva hvb
        subst hva; subst hvb
        obtain ⟨lx, hx⟩ := hx
        obtain ⟨ly, hy⟩ := hy
        obtain ⟨ie, hie, _⟩ := skOf_spec hsa
        rw [run_equalIn_array w _ _ _ hu hie, List.range_eq_range', h.1, ← lx]
        exact eqItems_run (equalIn_run n e a m' a2 h.2 hsa hT.2) hsa hT.2 d w x y xs ys _ _ 0 (by rw [lx, ly]) hx hy ⟨[], by simp, by simp⟩ ⟨[], by simp, by simp⟩
    · cases h

end
end Vse

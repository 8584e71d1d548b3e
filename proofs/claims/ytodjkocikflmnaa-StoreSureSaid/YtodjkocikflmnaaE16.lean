/- Regions that draw their order: any order comes to the same. Nothing here is about one program. -/
import Derived.Test.YtodjkocikflmnaaE15
set_option linter.unusedVariables false
namespace Vse
open Go

theorem heap_ext : ∀ {H H' : Heap}, H.length = H'.length → (∀ i, getE H i = getE H' i) → H = H'
  | [], [], _, _ => rfl
  | [], _ :: _, h, _ => by simp at h
  | _ :: _, [], h, _ => by simp at h
  | a :: H, b :: H', h, e => by
    have h0 := e 0
    simp only [getE] at h0
    rw [h0, heap_ext (by simpa using h) (fun i => e (i + 1))]

theorem getE_upd_const (e : Entry) (i : Nat) : ∀ (u : List (Nat × Entry)) (H : Heap), (∀ x ∈ u, x.1 = i → x.2 = e) → (getE H i = e ∨ ∃ x ∈ u, x.1 = i ∧ i < H.length) → getE (upd H u) i = e
  | [], H, _, h => by
    rcases h with h | ⟨x, hx, _⟩
    · exact h
    · simp at hx
  | x :: u, H, hu, h => by
    simp only [upd]
    refine getE_upd_const e i u _ (fun y hy => hu y (by simp [hy])) ?_
    rw [getE_setE, setE_length]
    by_cases hi : x.1 = i
    · by_cases hl : i < H.length
      · left; rw [if_pos ⟨hi.symm, by rw [hi]; exact hl⟩]; exact hu x (by simp) hi
      · left
        rw [if_neg (by rw [hi]; exact fun h => hl h.2)]
        rcases h with h | ⟨y, _, _, hl'⟩
        · exact h
        · exact absurd hl' hl
    · rw [if_neg (fun h => hi h.1.symm)]
      rcases h with h | ⟨y, hy, hyi, hl⟩
      · exact .inl h
      · simp only [List.mem_cons] at hy
        rcases hy with rfl | hy
        · exact absurd hyi hi
        · exact .inr ⟨y, hy, hyi, hl⟩

theorem undo_ok (H : Heap) (u : List (Nat × Entry)) : upd (upd H u) (u.map fun x => (x.1, getE H x.1)) = H := by
  refine heap_ext (by rw [upd_length, upd_length]) fun i => ?_
  refine getE_upd_const (getE H i) i _ _ (fun x hx he => ?_) ?_
  · simp only [List.mem_map] at hx
    obtain ⟨y, _, rfl⟩ := hx
    simp only at he ⊢
    rw [he]
  · by_cases h : ∃ x ∈ u, x.1 = i
    · obtain ⟨x, hx, he⟩ := h
      by_cases hl : i < H.length
      · exact .inr ⟨(x.1, getE H x.1), List.mem_map.2 ⟨x, hx, rfl⟩, he, by rw [upd_length]; exact hl⟩
      · left; rw [getE_past _ (by rw [upd_length]; omega), getE_past _ (by omega)]
    · left
      exact getE_upd _ _ _ (fun x hx he => h ⟨x, hx, he⟩)

theorem setV_setV : ∀ (l : List AV) (i : Nat) (a b : AV), setV (setV l i a) i b = setV l i b
  | [], _, _, _ => rfl
  | _ :: _, 0, _, _ => rfl
  | e :: l, i + 1, a, b => by simp only [setV]; rw [setV_setV l i a b]

theorem putV_back (env : List AV) (d : Option Nat) (a : AV) : ∃ b, putV (putV env d a) d b = env := by
  cases d with
  | none => exact ⟨a, rfl⟩
  | some d => exact ⟨getV env d, by simp only [putV]; rw [setV_setV, setV_get]⟩

section
variable {P : Program} {C : Ctx}

theorem commute (hL : CtxLocal C) {ops : List Oper} {a b : Oper} {fa fb : Nat} {st st1 st2 : St}
    (h1 : (stepT P C ops a fa st).eval = some st1) (h2 : (stepT P C ops b fb st1).eval = some st2)
    (s1 : slotsApart ops a b = true) (s2 : slotsApart ops b a = true) (hi : (fpOf C a fa st).indep (fpOf C b fb st1) = true) :
    ∃ st1', (stepT P C ops b fb st).eval = some st1' ∧ (stepT P C ops a fa st1').eval = some st2 ∧ fpOf C b fb st = fpOf C b fb st1 ∧ fpOf C a fa st1' = fpOf C a fa st := by
  rw [step_eff] at h1 h2
  simp only [Option.map_eq_some_iff] at h1 h2
  obtain ⟨oa, ha, rfl⟩ := h1
  obtain ⟨ob, hb, rfl⟩ := h2
  obtain ⟨t1, t2⟩ := eff_turns hL ha
  obtain ⟨c1, c2⟩ := indep_clear hi
  obtain ⟨r1, r2⟩ := slots_spec s1
  -- b sees the same ahead of a
  obtain ⟨bv, hbv⟩ := putV_back st.env a.dst oa.1
  have hund := undo_ok st.heap oa.2
  have key := outT_same (P := P) hL (ops := ops) (o := b) (fr := fb) (st := ⟨putV st.env a.dst oa.1, upd st.heap oa.2⟩) (d := a.dst) (v := bv) (u := oa.2.map fun x => (x.1, getE st.heap x.1)) r1
    (fun i hi x hx he => by
      simp only [List.mem_map] at hx
      obtain ⟨y, hy, rfl⟩ := hx
      exact c1.rd y.1 (t1 y hy) (by simp only at he; rw [he]; exact hi))
    (fun i hi => by
      simp only
      rw [hund]
      obtain ⟨q1, q2⟩ := c1.sh i hi
      exact (getE_upd_sh st.heap oa.2 st.heap i (fun j => .inl rfl) (fun x hxm he => t2 x hxm (by rw [he]; exact q1) (by rw [he]; exact q2))).symm)
    (fun i g1 g2 x hx he => by
      simp only [List.mem_map] at hx
      obtain ⟨y, hy, rfl⟩ := hx
      exact c1.wr y.1 (t1 y hy) (by simp only at he; rw [he]; exact .inr ⟨g1, g2⟩))
  simp only [hbv, hund] at key
  have hgd : gd ops b (putV st.env a.dst oa.1) = gd ops b st.env := gd_put r1
  have hb' : eff P C ops b fb st.env st.heap = some ob := by
    rw [← hb]
    unfold eff
    simp only [hgd, key.1]
  have hfp : fpOf C b fb st = fpOf C b fb ⟨putV st.env a.dst oa.1, upd st.heap oa.2⟩ := key.2
  -- and a sees the same behind b
  have hs := eff_same hL hb' s2 (by rw [hfp]; exact c2)
  refine ⟨⟨putV st.env b.dst ob.1, upd st.heap ob.2⟩, by rw [step_eff, hb']; rfl, ?_, hfp, hs.2⟩
  rw [step_eff]
  simp only [hs.1, ha, Option.map_some, Option.some.injEq, St.mk.injEq]
  obtain ⟨t1b, _⟩ := eff_turns hL hb'
  refine ⟨?_, ?_⟩
  · rw [putV_comm st.env oa.1 ob.1 r2]
  · refine upd_comm _ _ _ (fun x hx y hy he => ?_)
    exact c1.wr y.1 (t1 y hy) (by rw [← hfp]; rw [← he]; exact t1b x hx)

/-! runs of indices -/

/-- operations done one behind the other, by their numbers, each looking at what is noted for it -/
inductive Run (P : Program) (C : Ctx) (ops : List Oper) (fr : Nat → Nat) (F : Nat → FP) : List Nat → St → St → Prop
  | nil (st : St) : Run P C ops fr F [] st st
  | cons {k : Nat} {o : Oper} {l : List Nat} {st st1 st2 : St} (ho : ops[k]? = some o) (h : (stepT P C ops o (fr k) st).eval = some st1) (hf : fpOf C o (fr k) st = F k) (hr : Run P C ops fr F l st1 st2) :
      Run P C ops fr F (k :: l) st st2

/-- may the two change places? -/
def Free (ops : List Oper) (F : Nat → FP) (i j : Nat) : Prop :=
  ∀ a b, ops[i]? = some a → ops[j]? = some b → slotsApart ops a b = true ∧ slotsApart ops b a = true ∧ (F i).indep (F j) = true

theorem Run.move (hL : CtxLocal C) {ops : List Oper} {fr : Nat → Nat} {F : Nat → FP} {x : Nat} {β : List Nat} : ∀ {α : List Nat} {st st' : St},
    Run P C ops fr F (α ++ x :: β) st st' → (∀ a ∈ α, Free ops F a x) → Run P C ops fr F (x :: (α ++ β)) st st'
  | [], st, st', h, _ => h
  | a :: α, st, st', h, hi => by
    cases h with
    | cons ho h hf hr =>
      have ih := Run.move hL hr (fun b hb => hi b (by simp [hb]))
      cases ih with
      | cons ho' h' hf' hr' =>
        obtain ⟨i1, i2, i3⟩ := hi a (by simp) _ _ ho ho'
        obtain ⟨st1', q1, q2, q3, q4⟩ := commute hL h h' i1 i2 (by rw [hf, hf']; exact i3)
        exact .cons ho' q1 (q3.trans hf') (.cons ho q2 (q4.trans hf) hr')

theorem Run.perm (hL : CtxLocal C) {ops : List Oper} {fr : Nat → Nat} {F : Nat → FP} {before : Nat → Nat → Prop} : ∀ {s τ : List Nat} {st st' : St},
    Run P C ops fr F τ st st' → τ.Perm s → s.Nodup → τ.Pairwise (fun a x => before a x ∨ Free ops F a x) → s.Pairwise (fun x a => ¬ before a x) → Run P C ops fr F s st st'
  | [], τ, st, st', h, hp, _, _, _ => by
    have : τ = [] := List.Perm.eq_nil hp
    subst this; exact h
  | x :: s, τ, st, st', h, hp, hn, hw, hs => by
    have hx : x ∈ τ := hp.symm.subset (by simp)
    obtain ⟨α, β, rfl⟩ := List.append_of_mem hx
    have hp' : (α ++ β).Perm s := by
      have h1 : (x :: (α ++ β)).Perm (α ++ x :: β) := List.perm_middle.symm
      exact List.Perm.cons_inv (h1.trans hp)
    have hm := Run.move hL h (fun a ha => by
      have hrel : before a x ∨ Free ops F a x := by
        rw [List.pairwise_append] at hw
        exact hw.2.2 a ha x (by simp)
      refine hrel.resolve_left ?_
      rw [List.pairwise_cons] at hs
      exact hs.1 a (hp'.subset (by simp [ha])))
    cases hm with
    | cons ho h1 hf hr =>
      refine .cons ho h1 hf (Run.perm hL hr hp' (List.nodup_cons.1 hn).2 ?_ (List.pairwise_cons.1 hs).2)
      exact hw.sublist (List.Sublist.append_left (List.sublist_cons_self x β) α)

end
end Vse

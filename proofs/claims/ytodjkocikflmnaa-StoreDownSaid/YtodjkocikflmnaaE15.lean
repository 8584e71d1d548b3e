/- Operations that touch nothing of one another's may change places (2): regions that draw their order. Nothing here is about one program. -/
import Derived.Test.YtodjkocikflmnaaE14
set_option linter.unusedVariables false
namespace Vse
open Go

section
variable {P : Program} {C : Ctx}

/-- the places that an operation may turn -/
def FP.out (f : FP) (i : Nat) : Prop := i ∈ f.wr ∨ (f.fr ≤ i ∧ i < f.fr + f.new)

theorem outT_turns (hL : CtxLocal C) {o : Oper} {fr : Nat} {st : St} {out : Out} (h : (outT P C o fr st.env st.heap).eval = some out) :
    (∀ x ∈ out.2, (fpOf C o fr st).out x.1) ∧ (∀ x ∈ out.2, x.1 ∉ (fpOf C o fr st).ws → ¬ ((fpOf C o fr st).fr ≤ x.1 ∧ x.1 < (fpOf C o fr st).fr + (fpOf C o fr st).new) → shp x.2 = shp (getE st.heap x.1)) := by
  unfold outT at h
  unfold fpOf
  split at h
  · rename_i hc
    simp only [if_pos hc]
    cases hco : callOf st.env o.op with
    | none => simp only [hco] at h; exact (Tr.fail_some h).elim
    | some kv =>
      obtain ⟨k, vs⟩ := kv
      simp only [hco] at h ⊢
      cases hC : C k with
      | none => simp only [hC] at h; exact (Tr.fail_some h).elim
      | some c =>
        simp only [hC] at h ⊢
        split at h
        · have := (hL k c hC).turns vs st.heap fr out h
          refine ⟨this, fun x hx h1 h2 => ?_⟩
          rcases this x hx with h3 | h3
          · exact absurd h3 h1
          · exact absurd h3 h2
        · exact (Tr.fail_some h).elim
  · rename_i hc
    simp only [if_neg hc]
    split at h
    · rcases core_turns h with h0 | ⟨E, h0, h1⟩ | ⟨e, E, h0, h1, h2⟩ | ⟨e, E, h0, hn1, h1, h2⟩
      · rw [h0]; exact ⟨by simp, by simp⟩
      · rw [h0]
        refine ⟨?_, ?_⟩
        · intro x hx
          simp only [List.mem_singleton] at hx; subst hx
          exact .inr ⟨Nat.le_refl _, by simp [h1]⟩
        · intro x hx _ hn
          simp only [List.mem_singleton] at hx; subst hx
          exact absurd ⟨Nat.le_refl _, by simp [h1]⟩ hn
      · rw [h0]
        refine ⟨?_, ?_⟩
        · intro y hy
          simp only [List.mem_singleton] at hy; subst hy
          exact .inl (by simp only; rw [h1]; simp)
        · intro y hy hws _
          simp only [List.mem_singleton] at hy; subst hy
          simp only
          rcases h2 with h2 | ⟨hid, E0, h2, h3⟩
          · exact absurd (by simp only; rw [h2]; simp) hws
          · rw [hid] at h2
            simp only [ents, List.cons.injEq, and_true] at h2
            rw [h2, h3]
      · rw [h0]
        refine ⟨?_, ?_⟩
        · intro y hy
          simp only [List.mem_cons, List.not_mem_nil, or_false] at hy
          rcases hy with rfl | rfl
          · exact .inl (by simp only; rw [h1]; simp)
          · exact .inr ⟨Nat.le_refl _, by simp [hn1]⟩
        · intro y hy hws hn
          simp only [List.mem_cons, List.not_mem_nil, or_false] at hy
          rcases hy with rfl | rfl
          · exact absurd (by simp only; rw [h2]; simp) hws
          · exact absurd ⟨Nat.le_refl _, by simp [hn1]⟩ hn
    · exact (Tr.fail_some h).elim

/-- an operation sees the same where nothing that it looks at has been turned -/
theorem outT_same (hL : CtxLocal C) {ops : List Oper} {o : Oper} {fr : Nat} {st : St} {d : Option Nat} {v : AV} {u : List (Nat × Entry)}
    (hslot : ∀ t ∈ readsOf ops o, d ≠ some t)
    (hrd : ∀ i ∈ (fpOf C o fr st).rd, ∀ x ∈ u, x.1 ≠ i)
    (hsh : ∀ i ∈ (fpOf C o fr st).sh, shp (getE (upd st.heap u) i) = shp (getE st.heap i))
    (hfr : ∀ i, (fpOf C o fr st).fr ≤ i → i < (fpOf C o fr st).fr + (fpOf C o fr st).new → ∀ x ∈ u, x.1 ≠ i) :
    outT P C o fr (putV st.env d v) (upd st.heap u) = outT P C o fr st.env st.heap ∧ fpOf C o fr ⟨putV st.env d v, upd st.heap u⟩ = fpOf C o fr st := by
  unfold fpOf at hrd hsh hfr ⊢
  unfold outT
  by_cases hc : isCall o.op = true
  · simp only [if_pos hc] at hrd hsh hfr ⊢
    rw [callOf_put hslot]
    cases hco : callOf st.env o.op with
    | none => exact ⟨rfl, rfl⟩
    | some kv =>
      obtain ⟨k, vs⟩ := kv
      simp only [hco] at hrd hsh hfr ⊢
      cases hC : C k with
      | none => exact ⟨rfl, rfl⟩
      | some c =>
        simp only [hC] at hrd hsh hfr ⊢
        have he : ∀ i ∈ c.ids vs st.heap, getE (upd st.heap u) i = getE st.heap i := fun i hi => getE_upd _ _ _ (hrd i hi)
        obtain ⟨h1, h2⟩ := (hL k c hC).same vs st.heap (upd st.heap u) he
        rw [freeAt_congr (upd_length _ _) (fun i hi hj => getE_upd _ _ _ (hfr i hi hj)), h1, h2, ents_congr he]
        exact ⟨rfl, rfl⟩
  · simp only [if_neg hc] at hrd hsh hfr ⊢
    have ha := args_put (env := st.env) (v := v) (by simpa using hc) hslot
    rw [ha, freeAt_congr (upd_length _ _) (fun i hi hj => getE_upd _ _ _ (hfr i hi hj)), ents_congr (fun i hi => getE_upd _ _ _ (hrd i hi)), shs_congr hsh]
    exact ⟨rfl, rfl⟩

theorem apart_spec {l m : List Nat} (h : apart l m = true) {x : Nat} (hl : x ∈ l) (hm : x ∈ m) : False := by
  simp only [apart, List.all_eq_true] at h
  have := h x hl
  simp [hm] at this

theorem within_spec {fr n : Nat} {l : List Nat} (h : (!within fr n l) = true) {x : Nat} (hl : x ∈ l) (h1 : fr ≤ x) (h2 : x < fr + n) : False := by
  simp only [within, Bool.not_eq_true', List.any_eq_false] at h
  have := h x hl
  simp [h1, h2] at this

structure Clear (a b : FP) : Prop where
  rd : ∀ i, a.out i → i ∉ b.rd
  wr : ∀ i, a.out i → ¬ b.out i
  sh : ∀ i ∈ b.sh, i ∉ a.ws ∧ ¬ (a.fr ≤ i ∧ i < a.fr + a.new)

theorem indep_clear {a b : FP} (h : a.indep b = true) : Clear a b ∧ Clear b a := by
  simp only [FP.indep, FP.clear, Bool.and_eq_true, Bool.or_eq_true, decide_eq_true_eq] at h
  obtain ⟨⟨⟨⟨⟨⟨⟨⟨a1, a2⟩, a3⟩, a4⟩, a5⟩, a6⟩, a7⟩, ⟨⟨⟨⟨⟨⟨b1, b2⟩, b3⟩, b4⟩, b5⟩, b6⟩, b7⟩⟩, hd⟩ := h
  constructor
  · refine ⟨?_, ?_, ?_⟩
    · rintro i (h | ⟨h1, h2⟩) hm
      · exact apart_spec a1 h hm
      · exact within_spec a4 hm h1 h2
    · rintro i (h | ⟨h1, h2⟩) (g | ⟨g1, g2⟩)
      · exact apart_spec a2 h g
      · exact within_spec a7 h g1 g2
      · exact within_spec a5 g h1 h2
      · omega
    · intro i hi
      exact ⟨fun h => apart_spec a3 h hi, fun h => within_spec a6 hi h.1 h.2⟩
  · refine ⟨?_, ?_, ?_⟩
    · rintro i (h | ⟨h1, h2⟩) hm
      · exact apart_spec b1 h hm
      · exact within_spec b4 hm h1 h2
    · rintro i (h | ⟨h1, h2⟩) (g | ⟨g1, g2⟩)
      · exact apart_spec b2 h g
      · exact within_spec b7 h g1 g2
      · exact within_spec b5 g h1 h2
      · omega
    · intro i hi
      exact ⟨fun h => apart_spec b3 h hi, fun h => within_spec b6 hi h.1 h.2⟩

theorem slots_spec {ops : List Oper} {a b : Oper} (h : slotsApart ops a b = true) : (∀ t ∈ readsOf ops b, a.dst ≠ some t) ∧ (a.dst = none ∨ b.dst ≠ a.dst) := by
  unfold slotsApart at h
  split at h
  · rename_i hd; rw [hd]; exact ⟨by simp, .inl rfl⟩
  · rename_i d hd
    simp only [Bool.and_eq_true, bne_iff_ne, ne_eq, Bool.not_eq_true'] at h
    rw [hd]
    refine ⟨?_, .inr h.1⟩
    rintro t ht he
    simp only [Option.some.injEq] at he
    subst he
    have := h.2
    simp [ht] at this

/-- a step's effect: a slot and some entries -/
def eff (P : Program) (C : Ctx) (ops : List Oper) (o : Oper) (fr : Nat) (env : List AV) (H : Heap) : Option Out :=
  match gd ops o env with
  | .go => (outT P C o fr env H).eval
  | .skip => some (AV.none, [])
  | .bad => none

theorem step_eff (ops : List Oper) (o : Oper) (fr : Nat) (st : St) : (stepT P C ops o fr st).eval = (eff P C ops o fr st.env st.heap).map fun r => ⟨putV st.env o.dst r.1, upd st.heap r.2⟩ := by
  rw [stepT_eval]
  unfold eff
  cases gd ops o st.env with
  | go =>
    simp only [opT, Tr.eval_bind]
    cases (outT P C o fr st.env st.heap).eval <;> rfl
  | skip => rfl
  | bad => rfl

theorem eff_turns (hL : CtxLocal C) {ops : List Oper} {o : Oper} {fr : Nat} {st : St} {out : Out} (h : eff P C ops o fr st.env st.heap = some out) :
    (∀ x ∈ out.2, (fpOf C o fr st).out x.1) ∧ (∀ x ∈ out.2, x.1 ∉ (fpOf C o fr st).ws → ¬ ((fpOf C o fr st).fr ≤ x.1 ∧ x.1 < (fpOf C o fr st).fr + (fpOf C o fr st).new) → shp x.2 = shp (getE st.heap x.1)) := by
  unfold eff at h
  split at h
  · exact outT_turns hL h
  · simp only [Option.some.injEq] at h; subst h; exact ⟨by simp, by simp⟩
  · cases h

theorem getE_upd_sh (H : Heap) : ∀ (u : List (Nat × Entry)) (H' : Heap) (i : Nat), (∀ j, shp (getE H' j) = shp (getE H j) ∨ j ≠ i) → (∀ x ∈ u, x.1 = i → shp x.2 = shp (getE H x.1)) → shp (getE (upd H' u) i) = shp (getE H i) := by
  intro u
  induction u with
  | nil => intro H' i h _; exact (h i).resolve_right (by simp)
  | cons x u ih =>
    intro H' i h hx
    simp only [upd]
    refine ih _ i (fun j => ?_) (fun y hy => hx y (by simp [hy]))
    by_cases hj : j = i
    · subst hj
      left
      rw [getE_setE]
      split
      · rename_i he
        rw [hx x (by simp) he.1.symm, he.1]
      · exact (h j).resolve_right (by simp)
    · exact .inr hj

theorem eff_same (hL : CtxLocal C) {ops : List Oper} {o o' : Oper} {fr fr' : Nat} {st : St} {out : Out} (hx : eff P C ops o' fr' st.env st.heap = some out)
    (hs : slotsApart ops o' o = true) (hcl : Clear (fpOf C o' fr' st) (fpOf C o fr st)) :
    eff P C ops o fr (putV st.env o'.dst out.1) (upd st.heap out.2) = eff P C ops o fr st.env st.heap ∧ fpOf C o fr ⟨putV st.env o'.dst out.1, upd st.heap out.2⟩ = fpOf C o fr st := by
  obtain ⟨t1, t2⟩ := eff_turns hL hx
  obtain ⟨s1, s2⟩ := slots_spec hs
  have key := outT_same (P := P) hL (ops := ops) (o := o) (fr := fr) (st := st) (d := o'.dst) (v := out.1) (u := out.2) s1
    (fun i hi x hxm he => hcl.rd x.1 (t1 x hxm) (he ▸ hi))
    (fun i hi => by
      obtain ⟨c1, c2⟩ := hcl.sh i hi
      refine getE_upd_sh st.heap out.2 st.heap i (fun j => .inl rfl) (fun x hxm he => ?_)
      exact t2 x hxm (by rw [he]; exact c1) (by rw [he]; exact c2))
    (fun i h1 h2 x hxm he => hcl.wr x.1 (t1 x hxm) (he ▸ .inr ⟨h1, h2⟩))
  refine ⟨?_, key.2⟩
  unfold eff
  rw [gd_put s1, key.1]

end
end Vse

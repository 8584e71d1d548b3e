/- The statements of layer 15 (book) hold: BookDoes. No conditions but the given ones. Part 3. -/
import Derived.Test.YtffdkniccaebmaaZD2
import Derived.ProofKit
import Derived.Carry
import Derived.OpenShut
import Derived.ChangeMaps5
import Derived.WideKeyArgs
import Derived.Deep.LoopGhost
set_option linter.unusedVariables false
set_option linter.unusedSimpArgs false
section
section
set_option linter.unusedVariables false
namespace Vse
open Go
section
variable {z : Bool} {P : Program} {C : Ctx}
def FP.out (f : FP) (i : Nat) : Prop := i ∈ f.wr ∨ (f.fr ≤ i ∧ i < f.fr + f.new)
theorem outT_turns (hL : CtxLocal C) {o : Oper} {fr : Nat} {st : St} {out : Out} (h : (outT P C (true, z) o fr st.env st.heap).eval = some out) :
  (∀ x ∈ out.2, (fpOf C z o fr st).out x.1) ∧ (∀ x ∈ out.2, x.1 ∉ (fpOf C z o fr st).ws → ¬ ((fpOf C z o fr st).fr ≤ x.1 ∧ x.1 < (fpOf C z o fr st).fr + (fpOf C z o fr st).new) → shp x.2 = shp (getE st.heap x.1)) := by
 unfold outT at h
 unfold fpOf
 split at h
 ·rename_i hc
  simp only [if_pos hc]
  cases hco : callOf st.env o.op with
  | none => simp only [hco] at h; exact (Tr.fail_some h).elim
  | some kv =>
   obtain ⟨k, vs⟩ := kv
   simp only [hco] at h ⊢
   cases hC : C k with
   | none => simp only [hC] at h; exact (Tr.fail_some h).elim
   | some c =>
    simp only [hC] at h ⊢
    split at h
    ·have := (hL k c hC).turns vs st.heap fr out h
     refine ⟨this, fun x hx h1 h2 => ?_⟩
     rcases this x hx with h3 | h3
     ·exact absurd h3 h1
     ·exact absurd h3 h2
    ·exact (Tr.fail_some h).elim
 ·rename_i hc
  simp only [if_neg hc]
  split at h
  ·rcases core_turns h with h0 | ⟨E, h0, h1⟩ | ⟨e, E, h0, h1, h2⟩ | ⟨el, E, h0, hn1, h1, h2⟩
   ·rw [h0]; exact ⟨by simp, by simp⟩
   ·rw [h0]
    refine ⟨?_, ?_⟩
    ·intro x hx
     simp only [List.mem_singleton] at hx; subst hx
     exact .inr ⟨Nat.le_refl _, by simp [h1]⟩
    ·intro x hx _ hn
     simp only [List.mem_singleton] at hx; subst hx
     exact absurd ⟨Nat.le_refl _, by simp [h1]⟩ hn
   ·rw [h0]
    refine ⟨?_, ?_⟩
    ·intro y hy
     simp only [List.mem_singleton] at hy; subst hy
     exact .inl (by simp only; rw [h1]; simp)
    ·intro y hy hws _
     simp only [List.mem_singleton] at hy; subst hy
     simp only
     rcases h2 with h2 | ⟨hid, E0, h2, h3⟩
     ·exact absurd (by simp only; rw [h2]; simp) hws
     ·rw [hid] at h2
      simp only [ents, List.cons.injEq, and_true] at h2
      rw [h2, h3]
   ·rw [h0]
    refine ⟨?_, ?_⟩
    ·intro y hy
     simp only [List.mem_append, List.mem_map, List.mem_singleton] at hy
     rcases hy with ⟨e, hm, rfl⟩ | rfl
     ·exact .inl (by simp only; rw [h1]; exact hm)
     ·exact .inr ⟨Nat.le_refl _, by simp [hn1]⟩
    ·intro y hy hws hn
     simp only [List.mem_append, List.mem_map, List.mem_singleton] at hy
     rcases hy with ⟨e, hm, rfl⟩ | rfl
     ·exact absurd (by simp only; rw [h2]; exact hm) hws
     ·exact absurd ⟨Nat.le_refl _, by simp [hn1]⟩ hn
  ·exact (Tr.fail_some h).elim
theorem outT_same (hL : CtxLocal C) {ops : List Oper} {o : Oper} {fr : Nat} {st : St} {d : Option Nat} {v : AV} {u : List (Nat × Entry)}
  (hslot : ∀ t ∈ readsOf ops o, d ≠ some t)
  (hrd : ∀ i ∈ (fpOf C z o fr st).rd, ∀ x ∈ u, x.1 ≠ i)
  (hsh : ∀ i ∈ (fpOf C z o fr st).sh, shp (getE (upd st.heap u) i) = shp (getE st.heap i))
  (hfr : ∀ i, (fpOf C z o fr st).fr ≤ i → i < (fpOf C z o fr st).fr + (fpOf C z o fr st).new → ∀ x ∈ u, x.1 ≠ i) :
  outT P C (true, z) o fr (putV st.env d v) (upd st.heap u) = outT P C (true, z) o fr st.env st.heap ∧ fpOf C z o fr ⟨putV st.env d v, upd st.heap u⟩ = fpOf C z o fr st := by
 unfold fpOf at hrd hsh hfr ⊢
 unfold outT
 by_cases hc : isCall o.op = true
 ·simp only [if_pos hc] at hrd hsh hfr ⊢
  rw [callOf_put hslot]
  cases hco : callOf st.env o.op with
  | none => exact ⟨rfl, rfl⟩
  | some kv =>
   obtain ⟨k, vs⟩ := kv
   simp only [hco] at hrd hsh hfr ⊢
   cases hC : C k with
   | none => exact ⟨rfl, rfl⟩
   | some c =>
    simp only [hC] at hrd hsh hfr ⊢
    have he : ∀ i ∈ c.ids vs st.heap, getE (upd st.heap u) i = getE st.heap i := fun i hi => getE_upd _ _ _ (hrd i hi)
    obtain ⟨h1, h2⟩ := (hL k c hC).same vs st.heap (upd st.heap u) he
    rw [freeAt_congr (upd_length _ _) (fun i hi hj => getE_upd _ _ _ (hfr i hi hj)), h1, h2, ents_congr he]
    exact ⟨rfl, rfl⟩
 ·simp only [if_neg hc] at hrd hsh hfr ⊢
  have ha := args_put (env := st.env) (v := v) (by simpa using hc) hslot
  rw [ha, freeAt_congr (upd_length _ _) (fun i hi hj => getE_upd _ _ _ (hfr i hi hj)), ents_congr (fun i hi => getE_upd _ _ _ (hrd i hi)), shs_congr hsh]
  exact ⟨rfl, rfl⟩
theorem apart_spec {l m : List Nat} (h : apart l m = true) {x : Nat} (hl : x ∈ l) (hm : x ∈ m) : False := by
 simp only [apart, List.all_eq_true] at h
 have := h x hl
 simp [hm] at this
theorem within_spec {fr n : Nat} {l : List Nat} (h : (!within fr n l) = true) {x : Nat} (hl : x ∈ l) (h1 : fr ≤ x) (h2 : x < fr + n) : False := by
 simp only [within, Bool.not_eq_true', List.any_eq_false] at h
 have := h x hl
 simp [h1, h2] at this
structure Clear (a b : FP) : Prop where
 rd : ∀ i, a.out i → i ∉ b.rd
 wr : ∀ i, a.out i → ¬ b.out i
 sh : ∀ i ∈ b.sh, i ∉ a.ws ∧ ¬ (a.fr ≤ i ∧ i < a.fr + a.new)
theorem indep_clear {a b : FP} (h : a.indep b = true) : Clear a b ∧ Clear b a := by
 simp only [FP.indep, FP.clear, Bool.and_eq_true, Bool.or_eq_true, decide_eq_true_eq] at h
 obtain ⟨⟨⟨⟨⟨⟨⟨⟨a1, a2⟩, a3⟩, a4⟩, a5⟩, a6⟩, a7⟩, ⟨⟨⟨⟨⟨⟨b1, b2⟩, b3⟩, b4⟩, b5⟩, b6⟩, b7⟩⟩, hd⟩ := h
 constructor
 ·refine ⟨?_, ?_, ?_⟩
  ·rintro i (h | ⟨h1, h2⟩) hm
   ·exact apart_spec a1 h hm
   ·exact within_spec a4 hm h1 h2
  ·rintro i (h | ⟨h1, h2⟩) (g | ⟨g1, g2⟩)
   ·exact apart_spec a2 h g
   ·exact within_spec a7 h g1 g2
   ·exact within_spec a5 g h1 h2
   ·omega
  ·intro i hi
   exact ⟨fun h => apart_spec a3 h hi, fun h => within_spec a6 hi h.1 h.2⟩
 ·refine ⟨?_, ?_, ?_⟩
  ·rintro i (h | ⟨h1, h2⟩) hm
   ·exact apart_spec b1 h hm
   ·exact within_spec b4 hm h1 h2
  ·rintro i (h | ⟨h1, h2⟩) (g | ⟨g1, g2⟩)
   ·exact apart_spec b2 h g
   ·exact within_spec b7 h g1 g2
   ·exact within_spec b5 g h1 h2
   ·omega
  ·intro i hi
   exact ⟨fun h => apart_spec b3 h hi, fun h => within_spec b6 hi h.1 h.2⟩
theorem slots_spec {ops : List Oper} {a b : Oper} (h : slotsApart ops a b = true) : (∀ t ∈ readsOf ops b, a.dst ≠ some t) ∧ (a.dst = none ∨ b.dst ≠ a.dst) := by
 unfold slotsApart at h
 split at h
 ·rename_i hd; rw [hd]; exact ⟨by simp, .inl rfl⟩
 ·rename_i d hd
  simp only [Bool.and_eq_true, bne_iff_ne, ne_eq, Bool.not_eq_true'] at h
  rw [hd]
  refine ⟨?_, .inr h.1⟩
  rintro t ht he
  simp only [Option.some.injEq] at he
  subst he
  have := h.2
  simp [ht] at this
def eff (P : Program) (C : Ctx) (z : Bool) (ops : List Oper) (o : Oper) (fr : Nat) (env : List AV) (H : Heap) : Option Out :=
 match gd ops o env with
 | .go => (outT P C (true, z) o fr env H).eval
 | .skip => some (AV.none, [])
 | .bad => none
theorem step_eff (ops : List Oper) (o : Oper) (fr : Nat) (st : St) : (stepT P C (true, z) ops o fr st).eval = (eff P C z ops o fr st.env st.heap).map fun r => ⟨putV st.env o.dst r.1, upd st.heap r.2⟩ := by
 rw [stepT_eval]
 unfold eff
 cases gd ops o st.env with
 | go =>
  simp only [opT, Tr.eval_bind]
  cases (outT P C (true, z) o fr st.env st.heap).eval <;> rfl
 | skip => rfl
 | bad => rfl
theorem eff_turns (hL : CtxLocal C) {ops : List Oper} {o : Oper} {fr : Nat} {st : St} {out : Out} (h : eff P C z ops o fr st.env st.heap = some out) :
  (∀ x ∈ out.2, (fpOf C z o fr st).out x.1) ∧ (∀ x ∈ out.2, x.1 ∉ (fpOf C z o fr st).ws → ¬ ((fpOf C z o fr st).fr ≤ x.1 ∧ x.1 < (fpOf C z o fr st).fr + (fpOf C z o fr st).new) → shp x.2 = shp (getE st.heap x.1)) := by
 unfold eff at h
 split at h
 ·exact outT_turns hL h
 ·simp only [Option.some.injEq] at h; subst h; exact ⟨by simp, by simp⟩
 ·cases h
theorem getE_upd_sh (H : Heap) : ∀ (u : List (Nat × Entry)) (H' : Heap) (i : Nat), (∀ j, shp (getE H' j) = shp (getE H j) ∨ j ≠ i) → (∀ x ∈ u, x.1 = i → shp x.2 = shp (getE H x.1)) → shp (getE (upd H' u) i) = shp (getE H i) := by
 intro u
 induction u with
 | nil => intro H' i h _; exact (h i).resolve_right (by simp)
 | cons x u ih =>
  intro H' i h hx
  simp only [upd]
  refine ih _ i (fun j => ?_) (fun y hy => hx y (by simp [hy]))
  by_cases hj : j = i
  ·subst hj
   left
   rw [getE_setE]
   split
   ·rename_i he
    rw [hx x (by simp) he.1.symm, he.1]
   ·exact (h j).resolve_right (by simp)
  ·exact .inr hj
theorem eff_same {z' : Bool} (hL : CtxLocal C) {ops : List Oper} {o o' : Oper} {fr fr' : Nat} {st : St} {out : Out} (hx : eff P C z' ops o' fr' st.env st.heap = some out)
  (hs : slotsApart ops o' o = true) (hcl : Clear (fpOf C z' o' fr' st) (fpOf C z o fr st)) :
  eff P C z ops o fr (putV st.env o'.dst out.1) (upd st.heap out.2) = eff P C z ops o fr st.env st.heap ∧ fpOf C z o fr ⟨putV st.env o'.dst out.1, upd st.heap out.2⟩ = fpOf C z o fr st := by
 obtain ⟨t1, t2⟩ := eff_turns hL hx
 obtain ⟨s1, s2⟩ := slots_spec hs
 have key := outT_same (P := P) hL (ops := ops) (o := o) (fr := fr) (st := st) (d := o'.dst) (v := out.1) (u := out.2) s1
  (fun i hi x hxm he => hcl.rd x.1 (t1 x hxm) (he ▸ hi))
  (fun i hi => by
   obtain ⟨c1, c2⟩ := hcl.sh i hi
   refine getE_upd_sh st.heap out.2 st.heap i (fun j => .inl rfl) (fun x hxm he => ?_)
   exact t2 x hxm (by rw [he]; exact c1) (by rw [he]; exact c2))
  (fun i h1 h2 x hxm he => hcl.wr x.1 (t1 x hxm) (he ▸ .inr ⟨h1, h2⟩))
 refine ⟨?_, key.2⟩
 unfold eff
 rw [gd_put s1, key.1]
end
end Vse
end
section
set_option linter.unusedVariables false
namespace Vse
open Go
theorem heap_ext : ∀ {H H' : Heap}, H.length = H'.length → (∀ i, getE H i = getE H' i) → H = H'
 | [], [], _, _ => rfl
 | [], _ :: _, h, _ => by simp at h
 | _ :: _, [], h, _ => by simp at h
 | a :: H, b :: H', h, e => by
  have h0 := e 0
  simp only [getE] at h0
  rw [h0, heap_ext (by simpa using h) (fun i => e (i + 1))]
theorem getE_upd_const (e : Entry) (i : Nat) : ∀ (u : List (Nat × Entry)) (H : Heap), (∀ x ∈ u, x.1 = i → x.2 = e) → (getE H i = e ∨ ∃ x ∈ u, x.1 = i ∧ i < H.length) → getE (upd H u) i = e
 | [], H, _, h => by
  rcases h with h | ⟨x, hx, _⟩
  ·exact h
  ·simp at hx
 | x :: u, H, hu, h => by
  simp only [upd]
  refine getE_upd_const e i u _ (fun y hy => hu y (by simp [hy])) ?_
  rw [getE_setE, setE_length]
  by_cases hi : x.1 = i
  ·by_cases hl : i < H.length
   ·left; rw [if_pos ⟨hi.symm, by rw [hi]; exact hl⟩]; exact hu x (by simp) hi
   ·left
    rw [if_neg (by rw [hi]; exact fun h => hl h.2)]
    rcases h with h | ⟨y, _, _, hl'⟩
    ·exact h
    ·exact absurd hl' hl
  ·rw [if_neg (fun h => hi h.1.symm)]
   rcases h with h | ⟨y, hy, hyi, hl⟩
   ·exact .inl h
   ·simp only [List.mem_cons] at hy
    rcases hy with rfl | hy
    ·exact absurd hyi hi
    ·exact .inr ⟨y, hy, hyi, hl⟩
theorem undo_ok (H : Heap) (u : List (Nat × Entry)) : upd (upd H u) (u.map fun x => (x.1, getE H x.1)) = H := by
 refine heap_ext (by rw [upd_length, upd_length]) fun i => ?_
 refine getE_upd_const (getE H i) i _ _ (fun x hx he => ?_) ?_
 ·simp only [List.mem_map] at hx
  obtain ⟨y, _, rfl⟩ := hx
  simp only at he ⊢
  rw [he]
 ·by_cases h : ∃ x ∈ u, x.1 = i
  ·obtain ⟨x, hx, he⟩ := h
   by_cases hl : i < H.length
   ·exact .inr ⟨(x.1, getE H x.1), List.mem_map.2 ⟨x, hx, rfl⟩, he, by rw [upd_length]; exact hl⟩
   ·left; rw [getE_past _ (by rw [upd_length]; omega), getE_past _ (by omega)]
  ·left
   exact getE_upd _ _ _ (fun x hx he => h ⟨x, hx, he⟩)
theorem setV_setV : ∀ (l : List AV) (i : Nat) (a b : AV), setV (setV l i a) i b = setV l i b
 | [], _, _, _ => rfl
 | _ :: _, 0, _, _ => rfl
 | e :: l, i + 1, a, b => by simp only [setV]; rw [setV_setV l i a b]
theorem putV_back (env : List AV) (d : Option Nat) (a : AV) : ∃ b, putV (putV env d a) d b = env := by
 cases d with
 | none => exact ⟨a, rfl⟩
 | some d => exact ⟨getV env d, by simp only [putV]; rw [setV_setV, setV_get]⟩
section
variable {P : Program} {C : Ctx}
theorem commute (hL : CtxLocal C) {ops : List Oper} {a b : Oper} {fa fb : Nat} {st st1 st2 : St}
  (h1 : (stepT P C (true, fzOf ops a) ops a fa st).eval = some st1) (h2 : (stepT P C (true, fzOf ops b) ops b fb st1).eval = some st2)
  (s1 : slotsApart ops a b = true) (s2 : slotsApart ops b a = true) (hi : (fpOf C (fzOf ops a) a fa st).indep (fpOf C (fzOf ops b) b fb st1) = true) :
  ∃ st1', (stepT P C (true, fzOf ops b) ops b fb st).eval = some st1' ∧ (stepT P C (true, fzOf ops a) ops a fa st1').eval = some st2 ∧ fpOf C (fzOf ops b) b fb st = fpOf C (fzOf ops b) b fb st1 ∧ fpOf C (fzOf ops a) a fa st1' = fpOf C (fzOf ops a) a fa st := by
 rw [step_eff] at h1 h2
 simp only [Option.map_eq_some_iff] at h1 h2
 obtain ⟨oa, ha, rfl⟩ := h1
 obtain ⟨ob, hb, rfl⟩ := h2
 obtain ⟨t1, t2⟩ := eff_turns hL ha
 obtain ⟨c1, c2⟩ := indep_clear hi
 obtain ⟨r1, r2⟩ := slots_spec s1
 obtain ⟨bv, hbv⟩ := putV_back st.env a.dst oa.1
 have hund := undo_ok st.heap oa.2
 have key := outT_same (P := P) hL (ops := ops) (o := b) (fr := fb) (st := ⟨putV st.env a.dst oa.1, upd st.heap oa.2⟩) (d := a.dst) (v := bv) (u := oa.2.map fun x => (x.1, getE st.heap x.1)) r1
  (fun i hi x hx he => by
   simp only [List.mem_map] at hx
   obtain ⟨y, hy, rfl⟩ := hx
   exact c1.rd y.1 (t1 y hy) (by simp only at he; rw [he]; exact hi))
  (fun i hi => by
   simp only
   rw [hund]
   obtain ⟨q1, q2⟩ := c1.sh i hi
   exact (getE_upd_sh st.heap oa.2 st.heap i (fun j => .inl rfl) (fun x hxm he => t2 x hxm (by rw [he]; exact q1) (by rw [he]; exact q2))).symm)
  (fun i g1 g2 x hx he => by
   simp only [List.mem_map] at hx
   obtain ⟨y, hy, rfl⟩ := hx
   exact c1.wr y.1 (t1 y hy) (by simp only at he; rw [he]; exact .inr ⟨g1, g2⟩))
 simp only [hbv, hund] at key
 have hgd : gd ops b (putV st.env a.dst oa.1) = gd ops b st.env := gd_put r1
 have hb' : eff P C (fzOf ops b) ops b fb st.env st.heap = some ob := by
  rw [← hb]
  unfold eff
  simp only [hgd, key.1]
 have hfp : fpOf C (fzOf ops b) b fb st = fpOf C (fzOf ops b) b fb ⟨putV st.env a.dst oa.1, upd st.heap oa.2⟩ := key.2
 have hs := eff_same hL hb' s2 (by rw [hfp]; exact c2)
 refine ⟨⟨putV st.env b.dst ob.1, upd st.heap ob.2⟩, by rw [step_eff, hb']; rfl, ?_, hfp, hs.2⟩
 rw [step_eff]
 simp only [hs.1, ha, Option.map_some, Option.some.injEq, St.mk.injEq]
 obtain ⟨t1b, _⟩ := eff_turns hL hb'
 refine ⟨?_, ?_⟩
 ·rw [putV_comm st.env oa.1 ob.1 r2]
 ·refine upd_comm _ _ _ (fun x hx y hy he => ?_)
  exact c1.wr y.1 (t1 y hy) (by rw [← hfp]; rw [← he]; exact t1b x hx)
inductive Run (P : Program) (C : Ctx) (ops : List Oper) (fr : Nat → Nat) (F : Nat → FP) : List Nat → St → St → Prop
 | nil (st : St) : Run P C ops fr F [] st st
 | cons {k : Nat} {o : Oper} {l : List Nat} {st st1 st2 : St} (ho : ops[k]? = some o) (h : (stepT P C (true, fzOf ops o) ops o (fr k) st).eval = some st1) (hf : fpOf C (fzOf ops o) o (fr k) st = F k) (hr : Run P C ops fr F l st1 st2) :
   Run P C ops fr F (k :: l) st st2
def Free (ops : List Oper) (F : Nat → FP) (i j : Nat) : Prop :=
 ∀ a b, ops[i]? = some a → ops[j]? = some b → slotsApart ops a b = true ∧ slotsApart ops b a = true ∧ (F i).indep (F j) = true
theorem Run.move (hL : CtxLocal C) {ops : List Oper} {fr : Nat → Nat} {F : Nat → FP} {x : Nat} {β : List Nat} : ∀ {α : List Nat} {st st' : St},
  Run P C ops fr F (α ++ x :: β) st st' → (∀ a ∈ α, Free ops F a x) → Run P C ops fr F (x :: (α ++ β)) st st'
 | [], st, st', h, _ => h
 | a :: α, st, st', h, hi => by
  cases h with
  | cons ho h hf hr =>
   have ih := Run.move hL hr (fun b hb => hi b (by simp [hb]))
   cases ih with
   | cons ho' h' hf' hr' =>
    obtain ⟨i1, i2, i3⟩ := hi a (by simp) _ _ ho ho'
    obtain ⟨st1', q1, q2, q3, q4⟩ := commute hL h h' i1 i2 (by rw [hf, hf']; exact i3)
    exact .cons ho' q1 (q3.trans hf') (.cons ho q2 (q4.trans hf) hr')
theorem Run.perm (hL : CtxLocal C) {ops : List Oper} {fr : Nat → Nat} {F : Nat → FP} {before : Nat → Nat → Prop} : ∀ {s τ : List Nat} {st st' : St},
  Run P C ops fr F τ st st' → τ.Perm s → s.Nodup → τ.Pairwise (fun a x => before a x ∨ Free ops F a x) → s.Pairwise (fun x a => ¬ before a x) → Run P C ops fr F s st st'
 | [], τ, st, st', h, hp, _, _, _ => by
  have : τ = [] := List.Perm.eq_nil hp
  subst this; exact h
 | x :: s, τ, st, st', h, hp, hn, hw, hs => by
  have hx : x ∈ τ := hp.symm.subset (by simp)
  obtain ⟨α, β, rfl⟩ := List.append_of_mem hx
  have hp' : (α ++ β).Perm s := by
   have h1 : (x :: (α ++ β)).Perm (α ++ x :: β) := List.perm_middle.symm
   exact List.Perm.cons_inv (h1.trans hp)
  have hm := Run.move hL h (fun a ha => by
   have hrel : before a x ∨ Free ops F a x := by
    rw [List.pairwise_append] at hw
    exact hw.2.2 a ha x (by simp)
   refine hrel.resolve_left ?_
   rw [List.pairwise_cons] at hs
   exact hs.1 a (hp'.subset (by simp [ha])))
  cases hm with
  | cons ho h1 hf hr =>
   refine .cons ho h1 hf (Run.perm hL hr hp' (List.nodup_cons.1 hn).2 ?_ (List.pairwise_cons.1 hs).2)
   exact hw.sublist (List.Sublist.append_left (List.sublist_cons_self x β) α)
end
end Vse
end
section
set_option linter.unusedVariables false
namespace Vse
open Go
inductive Anc (ops : List Oper) : Nat → Nat → Prop
 | edge {i x : Nat} {o : Oper} {e : Edge} (h : ops[x]? = some o) (he : e ∈ o.after.toList) (hb : Region.binds .any e = true) (hi : e.on = i) : Anc ops i x
 | step {i x : Nat} {o : Oper} {e : Edge} (h : ops[x]? = some o) (he : e ∈ o.after.toList) (hb : Region.binds .any e = true) (hi : Anc ops i e.on) : Anc ops i x
theorem maskOf_spec {acc : List Nat} {i : Nat} : ∀ {es : List Edge}, (maskOf acc es).testBit i = true → ∃ e ∈ es, Region.binds .any e = true ∧ (e.on = i ∨ (acc.getD e.on 0).testBit i = true)
 | [], h => by simp [maskOf] at h
 | e :: es, h => by
  simp only [maskOf] at h
  split at h
  ·rename_i hb
   rw [Nat.testBit_or, Nat.testBit_or] at h
   simp only [Bool.or_eq_true] at h
   rcases h with (h | h) | h
   ·rw [Nat.testBit_two_pow] at h
    exact ⟨e, by simp, hb, .inl (by simpa using h)⟩
   ·exact ⟨e, by simp, hb, .inr h⟩
   ·obtain ⟨e', h1, h2⟩ := maskOf_spec h
    exact ⟨e', by simp [h1], h2⟩
  ·obtain ⟨e', h1, h2⟩ := maskOf_spec h
   exact ⟨e', by simp [h1], h2⟩
theorem masks_spec {ops : List Oper} : ∀ {os : List Oper} {acc : List Nat}, ops.drop acc.length = os → (∀ x i, x < acc.length → (acc.getD x 0).testBit i = true → Anc ops i x) →
  ∀ x i, ((masks os acc).getD x 0).testBit i = true → Anc ops i x
 | [], acc, hd, h, x, i, hb => by
  simp only [masks] at hb
  by_cases hx : x < acc.length
  ·exact h x i hx hb
  ·rw [List.getD_eq_getElem?_getD, List.getElem?_eq_none (by omega)] at hb; simp at hb
 | o :: os, acc, hd, h, x, i, hb => by
  simp only [masks] at hb
  have hlt : acc.length < ops.length := by
   rcases Nat.lt_or_ge acc.length ops.length with h' | h'
   ·exact h'
   ·rw [List.drop_of_length_le h'] at hd; cases hd
  have ho : ops[acc.length]? = some o := by
   rw [List.drop_eq_getElem_cons hlt] at hd
   simp only [List.cons.injEq] at hd
   rw [List.getElem?_eq_getElem hlt, hd.1]
  refine masks_spec (acc := acc ++ [maskOf acc o.after.toList]) ?_ ?_ x i hb
  ·rw [List.length_append, List.length_singleton]
   rw [List.drop_eq_getElem_cons hlt] at hd
   simp only [List.cons.injEq] at hd
   exact hd.2
  ·intro y j hy hj
   rw [List.length_append, List.length_singleton] at hy
   by_cases hyl : y < acc.length
   ·rw [List.getD_eq_getElem?_getD, List.getElem?_append_left hyl, ← List.getD_eq_getElem?_getD] at hj
    exact h y j hyl hj
   ·have : y = acc.length := by omega
    subst this
    rw [List.getD_eq_getElem?_getD, List.getElem?_append_right (by omega)] at hj
    simp only [Nat.sub_self, List.getElem?_cons_zero, Option.getD_some] at hj
    obtain ⟨e, h1, h2, h3⟩ := maskOf_spec hj
    rcases h3 with h3 | h3
    ·exact .edge ho h1 h2 h3
    ·refine .step ho h1 h2 ?_
     by_cases he : e.on < acc.length
     ·exact h _ _ he h3
     ·rw [List.getD_eq_getElem?_getD, List.getElem?_eq_none (by omega)] at h3; simp at h3
def before (ops : List Oper) (a x : Nat) : Prop := ((masks ops []).getD x 0).testBit a = true
theorem before_anc {ops : List Oper} {a x : Nat} (h : before ops a x) : Anc ops a x :=
 masks_spec (ops := ops) (os := ops) (acc := []) rfl (fun x i hx => by simp at hx) x a h
def Shut (ops : List Oper) (acc : List Nat) : Prop := ∀ x ∈ acc, ∀ o, ops[x]? = some o → ∀ e ∈ o.after.toList, Region.binds .any e = true → e.on ∈ acc
theorem Shut.anc {ops : List Oper} {acc : List Nat} (h : Shut ops acc) {a x : Nat} (ha : Anc ops a x) : x ∈ acc → a ∈ acc := by
 induction ha with
 | edge ho he hb hi => intro hx; rw [← hi]; exact h _ hx _ ho _ he hb
 | step ho he hb _ ih => intro hx; exact ih (h _ hx _ ho _ he hb)
theorem edgesOk_spec {ops : List Oper} : ∀ {os : List Oper} {n : Nat}, edgesOk os n = true → ∀ k o, os[k]? = some o → ∀ e ∈ o.after.toList, Region.binds .any e = true → e.on < n + k
 | [], n, _, k, o, h => by simp at h
 | o' :: os, n, h, 0, o, ho => by
  simp only [List.getElem?_cons_zero, Option.some.injEq] at ho
  subst ho
  simp only [edgesOk, Bool.and_eq_true, List.all_eq_true] at h
  intro e he hb
  have := h.1 e he
  simpa [hb] using this
 | o' :: os, n, h, k + 1, o, ho => by
  simp only [List.getElem?_cons_succ] at ho
  simp only [edgesOk, Bool.and_eq_true] at h
  intro e he hb
  have := edgesOk_spec (ops := ops) h.2 k o ho e he hb
  omega
theorem nodup_rev {l : List Nat} (h : l.Nodup) : l.reverse.Nodup := List.pairwise_reverse.2 (h.imp fun hab => hab.symm)
structure Lin (ops : List Oper) (listed : Array Bool) (acc : List Nat) : Prop where
 size : listed.size = ops.length
 mem : ∀ i, i < ops.length → listed.getD i true = decide (i ∈ acc)
 memF : ∀ i, i < ops.length → listed.getD i false = decide (i ∈ acc)
 nodup : acc.Nodup
 lt : ∀ i ∈ acc, i < ops.length
 shut : Shut ops acc
 pw : acc.reverse.Pairwise (fun x a => ¬ before ops a x)
theorem least {p : Nat → Prop} : ∀ n, (∀ j < n, p j) ∨ ∃ i < n, ¬ p i ∧ ∀ j < i, p j
 | 0 => .inl (by simp)
 | n + 1 => by
  rcases least (p := p) n with h | ⟨i, h1, h2, h3⟩
  ·by_cases hn : p n
   ·exact .inl fun j hj => by
     rcases Nat.lt_or_ge j n with hj' | hj'
     ·exact h j hj'
     ·rw [show j = n by omega]; exact hn
   ·exact .inr ⟨n, by omega, hn, h⟩
  ·exact .inr ⟨i, by omega, h2, h3⟩
theorem lin_go {ops : Array Oper} (hE : edgesOk ops.toList 0 = true) : ∀ (fuel t : Nat) (listed : Array Bool) (acc : List Nat), Lin ops.toList listed acc → acc.length + fuel = ops.size →
  let s := Region.linearise.go .any ops fuel t listed acc
  s.Nodup ∧ (List.range ops.size).Perm s ∧ s.Pairwise (fun x a => ¬ before ops.toList a x)
 | 0, t, listed, acc, h, hl => by
  simp only [Region.linearise.go]
  refine ⟨nodup_rev h.nodup, ?_, h.pw⟩
  have hn : acc.length = ops.size := by omega
  rw [List.perm_ext_iff_of_nodup List.nodup_range (nodup_rev h.nodup)]
  intro a
  simp only [List.mem_range, List.mem_reverse]
  refine ⟨fun ha => ?_, fun ha => by simpa using h.lt a ha⟩
  rcases Classical.em (a ∈ acc) with h' | h'
  ·exact h'
  ·exfalso
   have : (a :: acc).Nodup := List.nodup_cons.2 ⟨h', h.nodup⟩
   have hsub : (a :: acc) ⊆ List.range ops.size := by
    intro b hb
    simp only [List.mem_cons] at hb
    rcases hb with rfl | hb
    ·simpa using ha
    ·simpa using h.lt b hb
   have := List.Nodup.length_le_of_subset this hsub
   simp at this
   omega
 | fuel + 1, t, listed, acc, h, hl => by
  simp only [Region.linearise.go]
  generalize hrs : (List.range ops.size).filter (fun i => !listed.getD i true && ((ops[i]?).map (·.after.all fun e => !Region.binds .any e || listed.getD e.on false)).getD false) = rs
  have hne : rs ≠ [] := by
   rcases least (p := fun i => i ∈ acc) ops.size with hall | ⟨i, hi, hni, hlow⟩
   ·exfalso
    have hsub : List.range ops.size ⊆ acc := fun b hb => hall b (by simpa using hb)
    have := List.Nodup.length_le_of_subset List.nodup_range hsub
    simp at this
    omega
   ·have hmem : i ∈ rs := by
     rw [← hrs]
     simp only [List.mem_filter, List.mem_range]
     refine ⟨hi, ?_⟩
     have h1 := h.mem i (by simpa using hi)
     rw [h1]
     simp only [hni, decide_false, Bool.not_false, Bool.true_and]
     rw [Array.getElem?_eq_getElem hi]
     simp only [Option.map_some, Option.getD_some, Array.all_eq_true, Bool.or_eq_true, Bool.not_eq_true']
     intro k hk
     by_cases hb : Region.binds .any (ops[i].after[k]) = true
     ·right
      have hlt : (ops[i].after[k]).on < 0 + i := edgesOk_spec (ops := ops.toList) hE i ops[i] (by simp [hi]) _ (by simp) hb
      have := h.memF _ (show (ops[i].after[k]).on < ops.toList.length by simp; omega)
      rw [this]
      simpa using hlow _ (by omega)
     ·left; simpa using hb
    intro hrs'; rw [hrs'] at hmem; simp at hmem
  have hlen : 0 < rs.length := List.length_pos_iff.2 hne
  have hlt : t % rs.length < rs.length := Nat.mod_lt _ hlen
  rw [List.getElem?_eq_getElem hlt]
  simp only
  have hi : rs[t % rs.length] ∈ rs := List.getElem_mem hlt
  generalize rs[t % rs.length] = i at hi
  rw [← hrs] at hi
  simp only [List.mem_filter, List.mem_range, Bool.and_eq_true, Bool.not_eq_true'] at hi
  obtain ⟨hin, hiu, hip⟩ := hi
  have hni : i ∉ acc := by
   have := h.mem i (by simpa using hin)
   rw [hiu] at this
   simpa using this.symm
  have hpre : ∀ e ∈ ops[i].after.toList, Region.binds .any e = true → e.on ∈ acc := by
   intro e he hb
   rw [Array.getElem?_eq_getElem hin] at hip
   simp only [Option.map_some, Option.getD_some, Array.all_eq_true, Bool.or_eq_true, Bool.not_eq_true'] at hip
   obtain ⟨k, hk, rfl⟩ := List.getElem_of_mem he
   have := hip k (by simpa using hk)
   simp only [Array.getElem_toList] at hb
   rcases this with h' | h'
   ·rw [hb] at h'; cases h'
   ·simp only [Array.getElem_toList]
    by_cases hlt' : (ops[i].after[k]'(by simpa using hk)).on < ops.toList.length
    ·have h2 := h.memF _ hlt'
     rw [h'] at h2
     simpa using h2.symm
    ·rw [Array.getD_eq_getD_getElem?, Array.getElem?_eq_none (by rw [h.size]; omega)] at h'
     simp at h'
  refine lin_go hE fuel _ _ _ ?_ (by simp; omega)
  refine ⟨by simp [h.size], ?_, ?_, List.nodup_cons.2 ⟨hni, h.nodup⟩, ?_, ?_, ?_⟩
  ·intro j hj
   have hj' := h.mem j hj
   rw [Array.getD_eq_getD_getElem?] at hj' ⊢
   rw [Array.getElem?_setIfInBounds]
   by_cases hij : i = j
   ·subst hij
    have hls : i < listed.size := by rw [h.size]; exact hj
    rw [if_pos rfl, if_pos hls]; simp
   ·rw [if_neg hij]
    rw [hj']
    have : j ≠ i := fun h => hij h.symm
    simp [this]
  ·intro j hj
   have hj' := h.memF j hj
   rw [Array.getD_eq_getD_getElem?] at hj' ⊢
   rw [Array.getElem?_setIfInBounds]
   by_cases hij : i = j
   ·subst hij
    have hls : i < listed.size := by rw [h.size]; exact hj
    rw [if_pos rfl, if_pos hls]; simp
   ·rw [if_neg hij]
    rw [hj']
    have : j ≠ i := fun h => hij h.symm
    simp [this]
  ·intro j hj
   simp only [List.mem_cons] at hj
   rcases hj with rfl | hj
   ·simpa using hin
   ·exact h.lt j hj
  ·intro x hx o ho e he hb
   simp only [List.mem_cons] at hx ⊢
   rcases hx with rfl | hx
   ·right
    have : ops.toList[x]? = some ops[x] := by simp [hin]
    rw [this] at ho
    simp only [Option.some.injEq] at ho
    subst ho
    exact hpre e he hb
   ·exact .inr (h.shut x hx o ho e he hb)
  ·simp only [List.reverse_cons]
   rw [List.pairwise_append]
   refine ⟨h.pw, by simp, ?_⟩
   intro x hx a ha
   simp only [List.mem_singleton] at ha
   subst ha
   intro hb
   exact hni (h.shut.anc (before_anc hb) (by simpa using hx))
theorem lin_spec {ops : Array Oper} (hE : edgesOk ops.toList 0 = true) (t : Nat) :
  (Region.linearise .any ops t).Nodup ∧ (List.range ops.size).Perm (Region.linearise .any ops t) ∧ (Region.linearise .any ops t).Pairwise (fun x a => ¬ before ops.toList a x) := by
 refine lin_go hE ops.size t (Array.replicate ops.size false) [] ?_ (by simp)
 refine ⟨by simp, ?_, ?_, List.nodup_nil, by simp, fun x hx => by simp at hx, by simp⟩
 ·intro i hi
  have : i < ops.size := by simpa using hi
  simp [Array.getD_eq_getD_getElem?, this]
 ·intro i hi
  have : i < ops.size := by simpa using hi
  simp [Array.getD_eq_getD_getElem?, this]
end Vse
end
section
set_option linter.unusedVariables false
namespace Vse
open Go
section
variable {P : Program} {C : Ctx}
def frOf (C : Ctx) (ops : List Oper) (n k : Nat) : Nat := (((bases C ops n)[k]?).map (·.1)).getD 0
theorem opsF_run {ops : List Oper} {F : Nat → FP} {fr : Nat → Nat} : ∀ {l : List (Nat × Oper)} {k : Nat} {st st' : St} {fs fs' : List FP},
  (opsF P C ops l st fs).eval = some (st', fs') → fs.length = k → (∀ i x, l[i]? = some x → ops[k + i]? = some x.2 ∧ fr (k + i) = x.1) →
  (∃ gs, fs' = fs ++ gs ∧ gs.length = l.length ∧ ((∀ i x, gs[i]? = some x → F (k + i) = x) → Run P C ops fr F (List.range' k l.length) st st'))
 | [], k, st, st', fs, fs', h, hk, hl => by
  have := Tr.ret_some h
  simp only [Prod.mk.injEq] at this
  obtain ⟨rfl, rfl⟩ := this
  exact ⟨[], by simp, rfl, fun _ => .nil _⟩
 | (f, o) :: l, k, st, st', fs, fs', h, hk, hl => by
  obtain ⟨st1, h1, h2⟩ := Tr.bind_some h
  obtain ⟨gs, e1, e2, e3⟩ := opsF_run (F := F) (fr := fr) (k := k + 1) h2 (by simp [hk]) (fun i x hx => by
   have := hl (i + 1) x (by simpa using hx)
   rwa [show k + (i + 1) = k + 1 + i by omega] at this)
  refine ⟨fpOf C (fzOf ops o) o f st :: gs, by rw [e1, List.append_assoc]; rfl, by simp [e2], fun hF => ?_⟩
  have h0 := hl 0 (f, o) rfl
  simp only [Nat.add_zero] at h0
  rw [List.length_cons, List.range'_succ]
  refine .cons h0.1 (by rw [h0.2]; exact h1) ?_ (e3 fun i x hx => ?_)
  ·rw [h0.2]
   have := hF 0 _ rfl
   simpa using this.symm
  ·have := hF (i + 1) x (by simpa using hx)
   rwa [show k + (i + 1) = k + 1 + i by omega] at this
theorem bases_get : ∀ (os : List Oper) (n i : Nat) (x : Nat × Oper), (bases C os n)[i]? = some x → os[i]? = some x.2
 | [], n, i, x, h => by simp [bases] at h
 | o :: os, n, 0, x, h => by
  simp only [bases, List.getElem?_cons_zero, Option.some.injEq] at h
  subst h; rfl
 | o :: os, n, i + 1, x, h => by
  simp only [bases, List.getElem?_cons_succ] at h ⊢
  exact bases_get os _ i x h
theorem bases_length (os : List Oper) : ∀ n, (bases C os n).length = os.length := by
 induction os with
 | nil => intro n; rfl
 | cons o os ih => intro n; simp [bases, ih]
theorem run_sound {rd : Option Nat} (hC : CtxSound P C) {ops : Array Oper} {fr : Nat → Nat} {F : Nat → FP} {Q : Exit → Act → World → Prop} {s : List Nat} {st st' : St} (hr : Run P C ops.toList fr F s st st') :
  ∀ {g : G} {a : Act} {w : World}, SRep g st a w → (∀ g' a' w', g.le g' → SRep g' st' a' w' → Q .normal a' w') → wpOpsIn (FW rd) 0 P ops Q s a w := by
 induction hr with
 | nil st => intro g a w hs hn; exact hn g a w (G.le.refl g) hs
 | cons ho h hf hr' ih =>
  rename_i k o l st st1 st2
  intro g a w hs hn
  have ho' : ops[k]? = some o := by simpa using ho
  have key : ∀ (K : Act → World → Prop), (∀ g' a' w', g.le g' → SRep g' st1 a' w' → K a' w') →
    (if Region.wanted o (yielded ops a.tmps) then o.wpIn (FW rd) 0 P a w K Q else (∀ f, o.about P w a.eval = some f → (FW rd).fn f) ∧ K (a.put o.dst undef) w) := by
   intro K hK
   exact stepT_sound' hC hs h hK
  simp only [wpOpsIn, ho']
  exact key _ fun g' a' w' hle hs' => ih hs' fun g'' a'' w'' hle' hs'' => hn g'' a'' w'' (hle.trans hle') hs''
theorem SRep.drew {g : G} {st : St} {a : Act} {w : World} (h : SRep g st a w) : SRep g st a { w with drawn := w.drawn + 1 } :=
 ⟨h.env, ⟨h.heap.sh, h.heap.fr, h.heap.gr, fun e => ERep_world (fun b _ o ho => ho) (h.heap.ent e), h.heap.own, h.heap.sep, h.heap.dis, h.heap.ext.goes ⟨rfl, Nat.le_succ _⟩⟩, h.defers⟩
theorem drawOk_spec {ops : List Oper} {fs : List FP} (h : drawOk ops fs = true) : edgesOk ops 0 = true ∧
  ∀ i j, i < j → j < ops.length → before ops i j ∨ ∃ a b f g, ops[i]? = some a ∧ ops[j]? = some b ∧ fs[i]? = some f ∧ fs[j]? = some g ∧ slotsApart ops a b = true ∧ slotsApart ops b a = true ∧ f.indep g = true := by
 simp only [drawOk, Bool.and_eq_true, List.all_eq_true, List.mem_range] at h
 refine ⟨h.1, fun i j hij hj => ?_⟩
 have := h.2 j hj i hij
 simp only [pairOk, Bool.or_eq_true] at this
 rcases this with h' | h'
 ·exact .inl h'
 ·split at h'
  ·rename_i a b f g h1 h2 h3 h4
   simp only [Bool.and_eq_true] at h'
   exact .inr ⟨a, b, f, g, h1, h2, h3, h4, h'.1.1, h'.1.2, h'.2⟩
  ·cases h'
theorem draw_sound {rd : Option Nat} (hC : CtxSound P C) (hL : CtxLocal C) {g : G} {st st' : St} {a : Act} {w : World} {ops : Array Oper} {id : Nat} {Q : Exit → Act → World → Prop} {n : Nat} {fs : List FP}
  (hs : SRep g st a w) (he : (opsF P C ops.toList (bases C ops.toList st.heap.length) (widen st n) []).eval = some (st', fs))
  (hfo : P.follows .mixedOrders = true) (hok : drawOk ops.toList fs = true)
  (hn : ∀ g' a' w', g.le g' → SRep g' st' a' w' → Q .normal a' w') : (Code.region id ops true).wpIn (FW rd) 0 P Q a w := by
 obtain ⟨hE, hpairs⟩ := drawOk_spec hok
 let F : Nat → FP := fun k => fs.getD k ⟨[], [], [], [], 0, 0⟩
 let fr : Nat → Nat := frOf C ops.toList st.heap.length
 obtain ⟨gs, e1, e2, e3⟩ := opsF_run (F := F) (fr := fr) (k := 0) he rfl (fun i x hx => by
  rw [Nat.zero_add]
  refine ⟨bases_get _ _ _ _ hx, ?_⟩
  simp [fr, frOf, hx])
 simp only [List.nil_append] at e1
 subst e1
 have hrun := e3 fun i x hx => by simp [F, List.getD_eq_getElem?_getD, hx]
 rw [bases_length, ← List.range_eq_range', Array.length_toList] at hrun
 refine wpIn_region_draw fun t => ?_
 have hsch : Region.schedule (P.follows .mixedOrders) ops t = Region.linearise .any ops t := by
  simp [Region.schedule, hfo]
 rw [hsch]
 obtain ⟨l1, l2, l3⟩ := lin_spec hE t
 have hpw : (List.range ops.size).Pairwise (fun a x => before ops.toList a x ∨ Free ops.toList F a x) := by
  rw [List.pairwise_iff_getElem]
  intro i j hi hj hij
  simp only [List.length_range] at hi hj
  simp only [List.getElem_range]
  rcases hpairs i j hij (by simpa using hj) with h | ⟨a, b, f, g, h1, h2, h3, h4, h5, h6, h7⟩
  ·exact .inl h
  ·right
   intro a' b' ha' hb'
   rw [h1] at ha'; rw [h2] at hb'
   simp only [Option.some.injEq] at ha' hb'
   subst ha'; subst hb'
   refine ⟨h5, h6, ?_⟩
   simp only [F, List.getD_eq_getElem?_getD, h3, h4, Option.getD_some]
   exact h7
 have := Run.perm hL hrun l2 l1 hpw l3
 exact run_sound hC this (widen_rep hs.drew n) hn
end
end Vse
end
section
set_option linter.unusedVariables false
namespace Vse
open Go
def Ex.out : Ex → Exit
 | .normal => .normal
 | .exit i => .exit i
 | .ret => .ret
section
variable {P : Program} {C : Ctx} {L : Loops}
def LoopOK (P : Program) (L : Loops) (c : Code) : Prop :=
 ∀ i, firstReg c = some i → ∀ rd g st a w x st' Q, SRep g st a w → (L i st).eval = some (x, st') → (∀ g' a' w', g.le g' → SRep g' st' a' w' → Q x.out a' w') → (Code.loop c).wpIn (FW rd) 0 P Q a w
def LoopsOK (P : Program) (L : Loops) : Code → Prop
 | .seq a b => LoopsOK P L a ∧ LoopsOK P L b
 | .cond _ a b => LoopsOK P L a ∧ LoopsOK P L b
 | .block _ c => LoopsOK P L c
 | .loop c => LoopOK P L c
 | _ => True
theorem code_sound {rd : Option Nat} (hC : CtxSound P C) (hL : CtxLocal C) : ∀ (c : Code), LoopsOK P L c → ∀ {g : G} {st st' : St} {a : Act} {w : World} {x : Ex} {Q : Exit → Act → World → Prop},
  SRep g st a w → (run P C L c st).eval = some (x, st') → (∀ g' a' w', g.le g' → SRep g' st' a' w' → Q x.out a' w') → c.wpIn (FW rd) 0 P Q a w := by
 intro c
 induction c with
 | skip =>
  intro _ g st st' a w x Q hs he hn
  have := Tr.ret_some he
  simp only [Prod.mk.injEq] at this
  obtain ⟨rfl, rfl⟩ := this
  exact wpIn_skip (hn g a w (G.le.refl g) hs)
 | label l =>
  intro _ g st st' a w x Q hs he hn
  have := Tr.ret_some he
  simp only [Prod.mk.injEq] at this
  obtain ⟨rfl, rfl⟩ := this
  exact wpIn_label (hn g a w (G.le.refl g) hs)
 | exit id =>
  intro _ g st st' a w x Q hs he hn
  have := Tr.ret_some he
  simp only [Prod.mk.injEq] at this
  obtain ⟨rfl, rfl⟩ := this
  exact wpIn_exit (hn g a w (G.le.refl g) hs)
 | ret =>
  intro _ g st st' a w x Q hs he hn
  have := Tr.ret_some he
  simp only [Prod.mk.injEq] at this
  obtain ⟨rfl, rfl⟩ := this
  exact wpIn_ret (hn g a w (G.le.refl g) hs)
 | region id ops draw =>
  intro _ g st st' a w x Q hs he hn
  cases draw with
  | false =>
   simp only [run] at he
   obtain ⟨s, h1, h2⟩ := Tr.bind_some he
   have := Tr.ret_some h2
   simp only [Prod.mk.injEq] at this
   obtain ⟨rfl, rfl⟩ := this
   exact region_sound hC hs h1 hn
  | true =>
   simp only [run] at he
   obtain ⟨s, h1, h2⟩ := Tr.bind_some he
   split at h2
   ·rename_i hc
    simp only [Bool.and_eq_true] at hc
    have := Tr.ret_some h2
    simp only [Prod.mk.injEq] at this
    obtain ⟨rfl, rfl⟩ := this
    exact draw_sound hC hL hs h1 hc.1 hc.2 hn
   ·exact (Tr.fail_some h2).elim
 | seq p q ihp ihq =>
  intro hl g st st' a w x Q hs he hn
  obtain ⟨r, h1, h2⟩ := Tr.bind_some (show ((run P C L p st).bind fun r => match r with | (.normal, s) => run P C L q s | r => .ret r).eval = _ from he)
  obtain ⟨y, s⟩ := r
  refine wpIn_seq (ihp hl.1 hs h1 fun g' a' w' hle hs' => ?_)
  cases y with
  | normal =>
   simp only [Ex.out, Exit.then]
   exact ihq hl.2 hs' h2 fun g'' a'' w'' hle' hs'' => hn g'' a'' w'' (hle.trans hle') hs''
  | exit i =>
   have := Tr.ret_some h2
   simp only [Prod.mk.injEq] at this
   obtain ⟨rfl, rfl⟩ := this
   exact hn g' a' w' hle hs'
  | ret =>
   have := Tr.ret_some h2
   simp only [Prod.mk.injEq] at this
   obtain ⟨rfl, rfl⟩ := this
   exact hn g' a' w' hle hs'
 | cond o p q ihp ihq =>
  intro hl g st st' a w x Q hs he hn
  simp only [run] at he
  split at he
  ·rename_i t ht
   have hv := ev_rep hs.env o
   rw [ht] at hv
   have hv := (VRep_v (by simp)).1 hv
   rw [TRep_bool] at hv
   rcases Tr.ite_some he with ⟨rfl, he⟩ | ⟨rfl, he⟩
   ·exact wpIn_cond_true hv (ihp hl.1 hs he hn)
   ·exact wpIn_cond_false hv (ihq hl.2 hs he hn)
  ·exact (Tr.fail_some he).elim
 | block id p ihp =>
  intro hl g st st' a w x Q hs he hn
  obtain ⟨r, h1, h2⟩ := Tr.bind_some (show ((run P C L p st).bind fun r => match r with | (.exit i, s) => if i = id then .ret (.normal, s) else .ret (.exit i, s) | r => .ret r).eval = _ from he)
  obtain ⟨y, s⟩ := r
  refine wpIn_block (ihp hl hs h1 fun g' a' w' hle hs' => ?_)
  cases y with
  | normal =>
   have := Tr.ret_some h2
   simp only [Prod.mk.injEq] at this
   obtain ⟨rfl, rfl⟩ := this
   exact hn g' a' w' hle hs'
  | exit i =>
   simp only [Ex.out, Exit.inBlock]
   simp only at h2
   split at h2
   ·rename_i hi
    have := Tr.ret_some h2
    simp only [Prod.mk.injEq] at this
    obtain ⟨rfl, rfl⟩ := this
    rw [if_pos hi]
    exact hn g' a' w' hle hs'
   ·rename_i hi
    have := Tr.ret_some h2
    simp only [Prod.mk.injEq] at this
    obtain ⟨rfl, rfl⟩ := this
    rw [if_neg hi]
    exact hn g' a' w' hle hs'
  | ret =>
   have := Tr.ret_some h2
   simp only [Prod.mk.injEq] at this
   obtain ⟨rfl, rfl⟩ := this
   exact hn g' a' w' hle hs'
 | loop p _ =>
  intro hl g st st' a w x Q hs he hn
  simp only [run] at he
  split at he
  ·rename_i i hi
   exact hl i hi rd g st a w x st' Q hs he hn
  ·exact (Tr.fail_some he).elim
 | _ => intro _ g st st' a w x Q hs he hn; exact (Tr.fail_some he).elim
theorem results_rep {g : G} {st : St} {a : Act} {w : World} (hs : SRep g st a w) : ∀ {rs : List ResultVar} {avs : List AV}, resAVs P st rs = some avs →
  ∃ vs : List Value, (rs.mapM fun (r : ResultVar) => match r with | .tmp t => pure (a.tmps.getD t undef) | .cell c t => do loadVar t (← asAddr (a.tmps.getD c undef))).run P w = .ok vs w ∧ argsRep g avs vs
 | [], avs, h => by
  simp only [resAVs, Option.some.injEq] at h
  subst h
  exact ⟨[], rfl, rfl⟩
 | r :: rs, avs, h => by
  simp only [resAVs] at h
  split at h
  ·rename_i av hav
   split at h
   ·rename_i l hl
    simp only [Option.some.injEq] at h
    subst h
    obtain ⟨vs, h1, h2⟩ := results_rep hs hl
    have one : ∃ v, (match r with | .tmp t => pure (a.tmps.getD t undef) | .cell c t => do loadVar t (← asAddr (a.tmps.getD c undef)) : Sem Value).run P w = .ok v w ∧ VRep g av v := by
     cases r with
     | tmp t =>
      simp only [resAV, Option.some.injEq] at hav
      subst hav
      exact ⟨_, rfl, hs.env.2 t⟩
     | cell c t =>
      simp only [resAV] at hav
      split at hav
      ·rename_i e d hc
       split at hav
       ·rename_i T x hE
        split at hav
        ·rename_i hsk
         simp only [Option.some.injEq] at hav
         subst hav
         have hv := hs.env.2 c
         rw [hc] at hv
         obtain ⟨b, off, s, cs, tt, fz, q1, q2, q3, q4, q5, q6⟩ := ptr_spec hs.heap hv hE
         rw [poff_nil] at q2
         simp only [Option.some.injEq, Prod.mk.injEq] at q2
         obtain ⟨rfl, rfl⟩ := q2
         obtain ⟨v, h1, h2⟩ := run_loadVar_cells hsk w b 0 cs.toList (Rep_length _ _ _ q6) (fun i v hi => by
          simp only [World.cell?, q4, Option.isSome_none, Bool.false_eq_true, if_false, Nat.zero_add]
          simpa using hi)
         refine ⟨v, ?_, (VRep_v (Rep_ne q6)).2 (TRep_of_load q6 h2)⟩
         simp only [q3, asAddr, pure_bind, h1]
        ·cases hav
       ·cases hav
      ·cases hav
    obtain ⟨v, h3, h4⟩ := one
    refine ⟨v :: vs, ?_, ⟨v, vs, rfl, h4, h2⟩⟩
    simp only [List.mapM_cons, Sem.run_bind, h3, h1, Result.andThen_ok, Sem.run_pure]
   ·cases h
  ·cases h
theorem resT_rep {g : G} {st : St} {a : Act} {w : World} {fn : Func} {av : AV} (hs : SRep g st a w) (h : resT P fn st = some av) :
  ∃ v, (results fn a.tmps).run P w = .ok v w ∧ VRep g av v := by
 unfold resT at h
 have hres : ∀ {avs}, resAVs P st fn.results.toList = some avs → ∃ vs : List Value, (results fn a.tmps).run P w = .ok (if h : vs.length = 1 then vs[0] else .tuple vs.toArray) w ∧ argsRep g avs vs := by
  intro avs hav
  obtain ⟨vs, h1, h2⟩ := results_rep hs hav
  refine ⟨vs, ?_, h2⟩
  unfold results
  simp only [Sem.run_bind, Array.mapM_eq_mapM_toList, Sem.run_map, Sem.run_pure]
  refine (congrArg (fun r : Result (List Value) => (r.andThen fun a w' => Result.ok a.toArray w').andThen fun a w' => Result.ok (if h : a.size = 1 then a[0] else Value.tuple a) w') h1).trans ?_
  simp [Result.andThen_ok]
 split at h
 ·rename_i x hx
  simp only [Option.some.injEq] at h
  subst h
  obtain ⟨vs, h1, h2⟩ := hres hx
  obtain ⟨v, r, rfl, h3, h4⟩ := h2
  simp only [argsRep] at h4
  subst h4
  exact ⟨v, by simpa using h1, h3⟩
 ·rename_i l hne hl
  split at h
  ·rename_i ts hts
   simp only [Option.some.injEq] at h
   subst h
   obtain ⟨vs, h1, h2⟩ := hres hl
   obtain ⟨h3, h4⟩ := tvsOf_rep hts h2
   have hlen : vs.length ≠ 1 := by
    intro h1
    obtain ⟨v, rfl⟩ := List.length_eq_one_iff.1 h1
    cases l with
    | nil => cases h2
    | cons x l =>
     obtain ⟨v', r, e1, _, e3⟩ := h2
     simp only [List.cons.injEq] at e1
     obtain ⟨rfl, rfl⟩ := e1
     cases l with
     | nil => exact hne x rfl
     | cons y l => obtain ⟨_, _, e, _⟩ := e3; cases e
   rw [dif_neg hlen] at h1
   exact ⟨_, h1, vs.toArray, rfl, by simpa using h3⟩
  ·cases h
 ·cases h
theorem argsRep_length {g : G} : ∀ {vs : List AV} {rs : List Value}, argsRep g vs rs → vs.length = rs.length
 | [], rs, h => by simp only [argsRep] at h; subst h; rfl
 | a :: vs, rs, ⟨v, r, h1, h2, h3⟩ => by subst h1; simp [argsRep_length h3]
theorem argsRep_get {g : G} : ∀ {vs : List AV} {rs : List Value}, argsRep g vs rs → ∀ i, VRep g (getV vs i) (rs.getD i undef)
 | [], rs, h, i => by simp only [argsRep] at h; subst h; exact ⟨#[], rfl, rfl⟩
 | a :: vs, rs, ⟨v, r, h1, h2, h3⟩, 0 => by subst h1; exact h2
 | a :: vs, rs, ⟨v, r, h1, h2, h3⟩, i + 1 => by subst h1; simpa [getV] using argsRep_get h3 i
theorem argsRep_none (g : G) : ∀ n, argsRep g (List.replicate n AV.none) (List.replicate n undef)
 | 0 => rfl
 | n + 1 => ⟨undef, List.replicate n undef, rfl, ⟨#[], rfl, rfl⟩, argsRep_none g n⟩
theorem argsRep_monoC {g g' : G} (hle : g.leC g') : ∀ {vs : List AV} {rs : List Value}, argsRep g vs rs → argsRep g' vs rs
 | [], _, h => h
 | v :: vs, rs, ⟨r, rs', h1, h2, h3⟩ => ⟨r, rs', h1, VRep_monoC hle h2, argsRep_monoC hle h3⟩
def isDef : Option Obj → Bool
 | some (.deferred _) => true
 | _ => false
def G.hide (g : G) : G := { g with
 fr := fun b => if isDef (g.fr b) then none else g.fr b
 gr := fun b => if isDef (g.fr b) then g.fr b else g.gr b
 ext := (g.ext.1, []) }
structure G.leD (g g' : G) : Prop where
 fr : ∀ b o, g.fr b = some o → g'.fr b = some o
 gr : g'.gr = g.gr
 ext : g'.ext.1 = g.ext.1
 ent : ∀ e, Turn g g' e
theorem G.le.d {g g' : G} (h : g.le g') : g.leD g' := ⟨h.fr, h.gr, congrArg Prod.fst h.ext, h.ent⟩
theorem HInv.hide_c {g : G} {H : Heap} {w : World} (h : HInv g H w) : g.leC g.hide := by
 refine ⟨fun b cs t fz hb => ?_, fun b cs t fz hb => ?_, fun e => .same rfl rfl rfl⟩
 ·simp [G.hide, hb, isDef]
 ·simp only [G.hide]
  cases hf : g.fr b with
  | none => simpa [isDef] using hb
  | some o => exact (h.sep b _ _ hf hb).elim
theorem HInv.hide {g : G} {H : Heap} {w : World} (h : HInv g H w) : HInv g.hide H w := by
 refine ⟨h.sh, fun b o hb => ?_, fun b o hb => ?_, fun e => ERep_monoC h.hide_c rfl rfl (h.ent e), fun e b hl hb => ?_, fun b o o' hb hb' => ?_, h.dis, h.ext⟩
 ·simp only [G.hide] at hb
  split at hb
  ·cases hb
  ·exact h.fr b o hb
 ·simp only [G.hide] at hb
  split at hb
  ·exact h.fr b o hb
  ·exact h.gr b o hb
 ·obtain ⟨h1, h2⟩ := h.own e b hl hb
  simp [G.hide, h1, h2, isDef]
 ·simp only [G.hide] at hb hb'
  split at hb
  ·cases hb
  ·rename_i hn
   rw [if_neg hn] at hb'
   exact h.sep b o o' hb hb'
def takeAll (rs : List Nat) (w : World) : World := rs.foldl (fun w r => w.putObj r (.deferred none)) w
theorem takeAll_other : ∀ (rs : List Nat) (w : World) (b : Nat), b ∉ rs → (takeAll rs w).heap[b]? = w.heap[b]?
 | [], _, _, _ => rfl
 | r :: rs, w, b, h => by
  simp only [List.mem_cons, not_or] at h
  exact (takeAll_other rs _ b h.2).trans (World.putObj_heap_other h.1)
theorem takeAll_ext : ∀ (rs : List Nat) (w : World), Goes w (takeAll rs w)
 | [], w => Goes.refl w
 | r :: rs, w => ⟨(takeAll_ext rs (w.putObj r (.deferred none))).1.trans rfl, (takeAll_ext rs (w.putObj r (.deferred none))).2⟩
theorem leaves_marks {F : Fence} {n : Nat} {P : Program} {fn : Func} {tmps : Array Value} {R : Ending → World → Prop} : ∀ (rs : List Nat) (w : World), rs.Nodup → (∀ r ∈ rs, w.heap[r]? = some (.deferred (some []))) →
  LeavesIn F n P fn tmps R [] .returning (takeAll rs w) → LeavesInM F n P fn tmps R (rs.map mkD) .returning w
 | [], w, _, _, h => h
 | r :: rs, w, hn, hh, h => by
  obtain ⟨h1, h2⟩ := List.nodup_cons.1 hn
  refine ⟨by simp, .inl ⟨r, _, rfl, run_takeDeferred (hh r (by simp)), leaves_marks rs _ h2 (fun r' hr' => ?_) h⟩⟩
  rw [World.putObj_heap_other (fun hrr : r' = r => h1 (by rw [← hrr]; exact hr'))]
  exact hh r' (by simp [hr'])
def G.back (g g' : G) : G := { g' with
 fr := fun b => if isDef (g.fr b) then g.fr b else if isDef (g'.fr b) then none else g'.fr b
 gr := g.gr
 ext := g.ext }
theorem HInv.back {g g' : G} {H H' : Heap} {w w' : World} (h : HInv g H w) (hle : g.hide.leD g') (h' : HInv g' H' w') {rs : List Nat} (hrs : ∀ r ∈ rs, g'.fr r = some (.deferred (some []))) :
  g.le (g.back g') ∧ g'.leC (g.back g') ∧ HInv (g.back g') H' (takeAll rs w') := by
 have hgr : ∀ b, g'.gr b = if isDef (g.fr b) then g.fr b else g.gr b := fun b => by rw [hle.gr]; rfl
 have hlent : ∀ b, isDef (g.fr b) = true → ∃ o, g.fr b = some o ∧ g'.gr b = some o := fun b hb => by
  cases hf : g.fr b with
  | none => rw [hf] at hb; cases hb
  | some o => exact ⟨o, rfl, by rw [hgr, if_pos hb, hf]⟩
 have hc : g'.leC (g.back g') := by
  refine ⟨fun b cs t fz hb => ?_, fun b cs t fz hb => ?_, fun e => .same rfl rfl rfl⟩
  ·have hn : ¬ isDef (g.fr b) = true := fun hd => by
    obtain ⟨o, _, h2⟩ := hlent b hd
    exact h'.sep b _ _ hb h2
   simp only [G.back]
   rw [if_neg hn, hb]
   simp [isDef]
  ·rw [hgr] at hb
   split at hb
   ·rename_i hd; rw [hb] at hd; cases hd
   ·exact hb
 have hnot : ∀ b, b ∈ rs → ∀ o, g'.gr b = some o → False := fun b hb o ho => h'.sep b _ _ (hrs b hb) ho
 have hsame : ∀ b, b ∉ rs → (takeAll rs w').heap[b]? = w'.heap[b]? := fun b hb => takeAll_other rs w' b hb
 refine ⟨⟨fun b o hb => ?_, rfl, rfl, fun e => ?_⟩, hc, ⟨h'.sh, fun b o hb => ?_, fun b o hb => ?_, fun e => ?_, fun e b hl hb => ?_, fun b o o' hb hb' => ?_, h'.dis, by have hx := h'.ext.goes (takeAll_ext rs w'); rw [hle.ext] at hx; exact hx⟩⟩
 ·simp only [G.back]
  by_cases hd : isDef (g.fr b) = true
  ·rw [if_pos hd]; exact hb
  ·rw [if_neg hd]
   have hb2 : g'.fr b = some o := hle.fr b o (by simp only [G.hide]; rw [if_neg hd]; exact hb)
   rw [hb2, ← hb, if_neg hd]
 ·cases hle.ent e with
  | same a b c => exact .same a b c
  | dead a => exact .dead a
  | grew a b c => exact .grew a b c
  | new a => exact .new a
 ·simp only [G.back] at hb
  split at hb
  ·rename_i hd
   obtain ⟨o', h1, h2⟩ := hlent b hd
   rw [h1] at hb
   cases hb
   rw [hsame b fun hm => hnot b hm _ h2]
   exact h'.gr b _ h2
  ·split at hb
   ·cases hb
   ·rename_i hd
    rw [hsame b fun hm => hd (by rw [hrs b hm]; rfl)]
    exact h'.fr b o hb
 ·have hb : g.gr b = some o := hb
  have hd : ¬ isDef (g.fr b) = true := fun hd => by
   obtain ⟨o', h1, _⟩ := hlent b hd
   exact h.sep b _ _ h1 hb
  have h2 : g'.gr b = some o := by rw [hgr, if_neg hd]; exact hb
  rw [hsame b fun hm => hnot b hm _ h2]
  exact h'.gr b _ h2
 ·have := ERep_monoC hc (e := e) rfl rfl (h'.ent e)
  cases hl : (getE H' e).live with
  | false => cases hE : getE H' e <;> simp only [hE] at hl ⊢ <;> first | trivial | cases hl
  | true =>
   refine ERep_world (fun b hb o ho => ?_) this
   have hf := (h'.own e b hl hb).1
   rw [hsame b fun hm => by rw [hrs b hm] at hf; cases hf]
   exact ho
 ·obtain ⟨h1, h2⟩ := h'.own e b hl hb
  rw [hgr] at h2
  have hd : ¬ isDef (g.fr b) = true := fun hd => by
   rw [if_pos hd] at h2
   rw [h2] at hd; cases hd
  rw [if_neg hd] at h2
  simp only [G.back]
  rw [if_neg hd, h1]
  exact ⟨by simp [isDef], h2⟩
 ·have hb' : g.gr b = some o' := hb'
  have hd : ¬ isDef (g.fr b) = true := fun hd => by
   obtain ⟨o'', h1, _⟩ := hlent b hd
   exact h.sep b _ _ h1 hb'
  simp only [G.back] at hb
  rw [if_neg hd] at hb
  split at hb
  ·cases hb
  ·exact h'.sep b o o' hb (by rw [hgr, if_neg hd]; exact hb')
def RunOK (P : Program) (rn : St → Tr (Ex × St)) (c : Code) : Prop :=
 ∀ {g : G} {st st' : St} {a : Act} {w : World} {x : Ex} {Q : Exit → Act → World → Prop}, SRep g st a w → Marks g g.ext.2 → (rn st).eval = some (x, st') → (∀ g' a' w', g.leD g' → SRep g' st' a' w' → Marks g' g'.ext.2 → Q x.out a' w') → c.wpIn (FW none) 0 P Q a w
def fnTX (P : Program) (rn : St → Tr (Ex × St)) (fn : Func) (args : List AV) (H : Heap) : Tr (AV × Heap) :=
 (rn (begin_ fn args H)).bind fun r => match r with
  | (.exit _, _) => .fail
  | (_, s) => match resT P fn s with
   | some v => .ret (v, s.heap)
   | none => .fail
theorem fn_soundX {rn : St → Tr (Ex × St)} {k : Nat} {fn : Func} (hf : P.funcs[k]? = some fn) {c : Code} (hb : fn.body = some c) (hrn : RunOK P rn c)
  {g : G} {H H' : Heap} {w : World} {vs : List AV} {rvs : List Value} {v : AV} (hI : HInv g H w) (hargs : argsRep g vs rvs)
  (he : (fnTX P rn fn vs H).eval = some (v, H')) :
  Calls P k rvs.toArray w fun e w' => ∃ rv g', e = .returned rv ∧ g.le g' ∧ HInv g' H' w' ∧ VRep g' v rv := by
 refine callsIn_FW.1 (callsIn_of_wp_marks (F := FW none) (n := 0) hf hb trivial ?_)
 unfold fnTX at he
 obtain ⟨r, h1, h2⟩ := Tr.bind_some he
 obtain ⟨x, s⟩ := r
 have hlen := argsRep_length hargs
 have hs : SRep g.hide (begin_ fn vs H) { tmps := rvs.toArray ++ Array.replicate (fn.ntmps - rvs.toArray.size) undef, defers := [] } w := by
  have hargs : argsRep g.hide vs rvs := argsRep_monoC hI.hide_c hargs
  refine ⟨?_, hI.hide, rfl⟩
  have hall := argsRep_append hargs (argsRep_none g.hide (fn.ntmps - vs.length))
  refine ⟨by simp [begin_, hlen], fun i => ?_⟩
  have := argsRep_get hall i
  simp only [begin_]
  have e : (rvs.toArray ++ Array.replicate (fn.ntmps - rvs.toArray.size) undef).getD i undef = (rvs ++ List.replicate (fn.ntmps - vs.length) undef).getD i undef := by
   rw [Array.getD_eq_getD_getElem?, List.getD_eq_getElem?_getD, hlen]
   congr 1
   rw [← Array.getElem?_toList]
   simp
  rw [e]
  exact this
 have post : ∀ y : Ex, y = .normal ∨ y = .ret → ∀ s v' H'', ((match resT P fn s with | some v => .ret (v, s.heap) | none => .fail : Tr (AV × Heap))).eval = some (v', H'') → ∀ g' a' w', g.hide.leD g' → SRep g' s a' w' → Marks g' g'.ext.2 →
   bodyPostM (FW none) 0 P fn (fun e w' => ∃ rv g', e = .returned rv ∧ g.le g' ∧ HInv g' H'' w' ∧ VRep g' v' rv) y.out a' w' := by
  rintro y hy s v' H'' he g' a' w' hle hs' hmk
  split at he
  ·rename_i av hav
   have := Tr.ret_some he
   simp only [Prod.mk.injEq] at this
   obtain ⟨rfl, rfl⟩ := this
   obtain ⟨rs, d1, d2, d3⟩ := hmk
   have d1 := hs'.defers.trans d1
   obtain ⟨p1, p2, p3⟩ := hI.back hle hs'.heap d3
   have hs2 : SRep (g.back g') s { a' with defers := g.ext.2 } (takeAll rs w') := ⟨⟨hs'.env.1, fun i => VRep_monoC p2 (hs'.env.2 i)⟩, p3, rfl⟩
   obtain ⟨rv, q1, q2⟩ := resT_rep hs2 hav
   have fin : LeavesInM (FW none) 0 P fn a'.tmps (fun e w' => ∃ rv g', e = .returned rv ∧ g.le g' ∧ HInv g' s.heap w' ∧ VRep g' av rv) a'.defers .returning w' := by
    rw [d1]
    exact leaves_marks rs w' d2 (fun r hr => hs'.heap.fr _ _ (d3 r hr)) ⟨rv, q1, rv, g.back g', rfl, p1, p3, q2⟩
   rcases hy with rfl | rfl <;> exact fin
  ·exact (Tr.fail_some he).elim
 refine hrn hs (Marks.nil _) h1 ?_
 cases x with
 | normal => exact post .normal (.inl rfl) s v H' h2
 | ret => exact post .ret (.inr rfl) s v H' h2
 | exit i => exact (Tr.fail_some h2).elim
theorem fn_sound (hC : CtxSound P C) (hLc : CtxLocal C) {k : Nat} {fn : Func} (hf : P.funcs[k]? = some fn) {c : Code} (hb : fn.body = some c) (hl : LoopsOK P L c)
  {g : G} {H H' : Heap} {w : World} {vs : List AV} {rvs : List Value} {v : AV} (hI : HInv g H w) (hargs : argsRep g vs rvs)
  (he : (fnT P C L fn vs H).eval = some (v, H')) :
  Calls P k rvs.toArray w fun e w' => ∃ rv g', e = .returned rv ∧ g.le g' ∧ HInv g' H' w' ∧ VRep g' v rv := by
 unfold fnT at he
 rw [hb] at he
 exact fn_soundX hf hb (rn := run P C L c) (fun hs hm h1 hn => code_sound hC hLc c hl hs h1 fun g' a' w' hle hs' => hn g' a' w' hle.d hs' (by rw [hle.ext]; exact hm.mono hle)) hI hargs he
end
end Vse
end
section
set_option linter.unusedVariables false
namespace Vse
open Go
def Ty.still (p : Bool) : Ty → Bool
 | .bool | .int _ | .str | .unit | .nils | .nilp | .nilm | .nilf | .nili => true
 | .prod a b => a.still p && b.still p
 | .arr _ a => a.still p
 | .imm q _ a => (q || !p) && a.still p
 | .tg q a => (q || !p) && a.still p
 | .ip q a => (q || !p) && a.still p
 | .fn _ c => c.still p
 | _ => false
structure G.covers (p : Bool) (g g' : G) : Prop where
 fr : ∀ b o, g.fr b = some o → g'.fr b = some o
 gr : p = false → ∀ b o, g.gr b = some o → g'.gr b = some o
theorem still_Rep {p : Bool} {g g' : G} (h : g.covers p g') : ∀ (T : Ty) (x : T.den) (cs : List Value), T.still p = true → (Rep g T x cs → Rep g' T x cs) ∧ (Rep.RepC g T x cs → Rep.RepC g' T x cs) := by
 intro T
 induction T with
 | bool | int | str | nils | nilp | nilm | nilf | nili => intro x cs _; exact ⟨fun hr => hr, fun hr => by simp [Rep.RepC] at hr⟩
 | unit => intro x cs _; exact ⟨fun hr => hr, fun hr => hr⟩
 | prod a b iha ihb =>
  intro x cs hs
  simp only [Ty.still, Bool.and_eq_true] at hs
  constructor
  ·rintro ⟨c1, c2, rfl, h1, h2⟩
   exact ⟨c1, c2, rfl, (iha _ _ hs.1).1 h1, (ihb _ _ hs.2).1 h2⟩
  ·rintro ⟨v, r, rfl, h1, h2⟩
   refine ⟨v, r, rfl, ?_, (ihb _ _ hs.2).2 h2⟩
   split at h1
   ·obtain ⟨cs, hv, hr⟩ := h1; rw [if_pos (by assumption)]; exact ⟨cs, hv, (iha _ _ hs.1).1 hr⟩
   ·rw [if_neg (by assumption)]; exact (iha _ _ hs.1).1 h1
 | arr n a iha =>
  intro x cs hs
  exact ⟨fun hr => ⟨hr.1, repL_mono (fun y _ cs => (iha y cs hs).1) hr.2⟩, fun hr => by simp [Rep.RepC] at hr⟩
 | imm q f a iha =>
  intro x cs hs
  simp only [Ty.still, Bool.and_eq_true] at hs
  refine ⟨?_, fun hr => by simp [Rep.RepC] at hr⟩
  rintro ⟨pv, cap, h1, h2, h3, h4⟩
  refine ⟨pv, cap, h1, h2, h3, fun hne => ?_⟩
  obtain ⟨ad, vs, a1, a2, a3⟩ := h4 hne
  refine ⟨ad, vs, a1, repL_mono (fun y _ cs => (iha y cs hs.2).1) a2, ?_⟩
  rcases a3 with a3 | ⟨a3, a4⟩
  ·exact .inl (reads_mono h.fr a3)
  ·refine .inr ⟨a3, reads_mono (h.gr ?_) a4⟩
   have := hs.1
   subst a3
   simpa using this
 | tg q a iha =>
  intro x cs hs
  simp only [Ty.still, Bool.and_eq_true] at hs
  refine ⟨?_, fun hr => by simp [Rep.RepC] at hr⟩
  rintro ⟨pv, h1, h2, h4⟩
  refine ⟨pv, h1, h2, fun hne => ?_⟩
  obtain ⟨ad, vs, a1, a2, a3⟩ := h4 hne
  refine ⟨ad, vs, a1, repL_mono (fun y _ cs => (iha y cs hs.2).1) a2, ?_⟩
  rcases a3 with a3 | ⟨a3, a4⟩
  ·exact .inl (reads_mono h.fr a3)
  ·refine .inr ⟨a3, reads_mono (h.gr ?_) a4⟩
   have := hs.1
   subst a3
   simpa using this
 | ip q a iha =>
  intro x cs hs
  simp only [Ty.still, Bool.and_eq_true] at hs
  refine ⟨?_, fun hr => by simp [Rep.RepC] at hr⟩
  rintro ⟨ad, vs, h1, h2, h3⟩
  refine ⟨ad, vs, h1, (iha _ _ hs.2).1 h2, ?_⟩
  rcases h3 with a3 | ⟨a3, a4⟩
  ·exact .inl (reads_mono h.fr a3)
  ·refine .inr ⟨a3, reads_mono (h.gr ?_) a4⟩
   have := hs.1
   subst a3
   simpa using this
 | fn f c ihc =>
  intro x cs hs
  refine ⟨?_, fun hr => by simp [Rep.RepC] at hr⟩
  rintro ⟨vs, h1, h2⟩
  exact ⟨vs, h1, (ihc _ _ hs).2 h2⟩
 | _ => intro x cs hs; simp [Ty.still] at hs
theorem still_TRep {p : Bool} {g g' : G} (h : g.covers p g') {T : Ty} {x : T.den} {v : Value} (hs : T.still p = true) (hr : TRep g T x v) : TRep g' T x v := by
 unfold TRep at hr ⊢
 split
 ·rw [if_pos (by assumption)] at hr; obtain ⟨cs, h1, h2⟩ := hr; exact ⟨cs, h1, (still_Rep h _ _ _ hs).1 h2⟩
 ·rw [if_neg (by assumption)] at hr; exact (still_Rep h _ _ _ hs).1 hr
theorem still_tup {p : Bool} {g g' : G} (h : g.covers p g') : ∀ {l : List TV} {vs : List Value}, (l.all fun t => t.T.still p) = true → tupRep g l vs → tupRep g' l vs
 | [], _, _, hr => hr
 | t :: ts, _, hs, ⟨v, r, h1, h2, h3⟩ => by
  simp only [List.all_cons, Bool.and_eq_true] at hs
  exact ⟨v, r, h1, still_TRep h hs.1 h2, still_tup h hs.2 h3⟩
def AV.still (p : Bool) : AV → Bool
 | .v T _ => T.still p
 | .tup l => l.all fun t => t.T.still p
theorem still_VRep {p : Bool} {g g' : G} (h : g.covers p g') {a : AV} {v : Value} (hs : a.still p = true) (hr : VRep g a v) : VRep g' a v := by
 cases a with
 | v T x =>
  cases T <;> first | trivial | exact still_TRep h hs hr
 | tup l => obtain ⟨vs, h1, h2⟩ := hr; exact ⟨vs, h1, still_tup h hs h2⟩
theorem still_args {p : Bool} {g g' : G} (h : g.covers p g') : ∀ {l : List AV} {vs : List Value}, (l.all fun t => t.still p) = true → argsRep g l vs → argsRep g' l vs
 | [], _, _, hr => hr
 | t :: ts, _, hs, ⟨v, r, h1, h2, h3⟩ => by
  simp only [List.all_cons, Bool.and_eq_true] at hs
  exact ⟨v, r, h1, still_VRep h hs.1 h2, still_args h hs.2 h3⟩
noncomputable def G.lend (g : G) (H : Heap) (w : World) : G where
 fr := g.fr
 gr := fun b => open Classical in if (g.gr b).isSome then g.gr b else if ∃ e, (getE H e).live = true ∧ g.bl e = some b then w.heap[b]? else none
 bl := fun _ => none
 sz := fun _ => 0
 sh := fun _ => .free
 ext := g.ext
theorem getE_nil (e : Nat) : getE [] e = .free := rfl
theorem lend_inv {g : G} {H : Heap} {w : World} (hI : HInv g H w) : HInv (g.lend H w) [] w where
 sh _ := rfl
 fr := hI.fr
 gr b o h := by
  simp only [G.lend] at h
  split at h
  ·exact hI.gr _ _ h
  ·split at h
   ·exact h
   ·cases h
 ent _ := trivial
 own e b h := by simp [getE_nil, Entry.live] at h
 sep b o o' h h' := by
  simp only [G.lend] at h h'
  split at h'
  ·exact hI.sep _ _ _ h h'
  ·split at h'
   ·rename_i he
    obtain ⟨e, h1, h2⟩ := he
    rw [(hI.own _ _ h1 h2).1] at h
    cases h
   ·cases h'
 dis e e' b h := by simp [getE_nil, Entry.live] at h
 ext := hI.ext
theorem lend_covers (g : G) (H : Heap) (w : World) : g.covers false (g.lend H w) where
 fr _ _ h := h
 gr _ b o h := by simp [G.lend, h]
theorem lend_back {g g' : G} {H H' : Heap} {w w' : World} (hI : HInv g H w) (hle : (g.lend H w).le g') (hI' : HInv g' H' w') : ∃ g'', g.le g'' ∧ HInv g'' H w' ∧ g'.covers true g'' := by
 have keep : ∀ e b, (getE H e).live = true → g.bl e = some b → w'.heap[b]? = w.heap[b]? ∧ g'.fr b = none := by
  intro e b h1 h2
  have hg : (g.lend H w).gr b = w.heap[b]? := by
   simp only [G.lend]
   rw [(hI.own _ _ h1 h2).2]
   simp only [Option.isSome_none, Bool.false_eq_true, if_false]
   rw [if_pos ⟨e, h1, h2⟩]
  have hg' : g'.gr b = w.heap[b]? := by rw [hle.gr]; exact hg
  cases hw : w.heap[b]? with
  | none =>
   exfalso
   have := hI.ent e
   cases hE : getE H e with
   | free => rw [hE] at h1; cases h1
   | dead => rw [hE] at h1; cases h1
   | box T x => rw [hE] at this; obtain ⟨b', cs, t, fz, q1, q2, _⟩ := this; rw [h2] at q1; cases q1; rw [hw] at q2; cases q2
   | map K V l => rw [hE] at this; obtain ⟨b', es, clock, q1, q2, _⟩ := this; rw [h2] at q1; cases q1; rw [hw] at q2; cases q2
   | itr s p => rw [hE] at this; obtain ⟨_, b', q1, q2⟩ := this; rw [h2] at q1; cases q1; rw [hw] at q2; cases q2
   | vec k a l =>
    rw [hE] at this
    rcases this with ⟨q1, _⟩ | ⟨b', cs, t, fz, vs, r, q1, q2, _⟩
    ·rw [h2] at q1; cases q1
    ·rw [h2] at q1; cases q1; rw [hw] at q2; cases q2
  | some o =>
   rw [hw] at hg'
   refine ⟨hI'.gr _ _ hg', ?_⟩
   cases hf : g'.fr b with
   | none => rfl
   | some o' => exact (hI'.sep _ _ _ hf hg').elim
 refine ⟨{ g with fr := g'.fr }, ⟨hle.fr, rfl, rfl, fun e => .same rfl rfl rfl⟩, ?_, ⟨fun _ _ h => h, fun h => by cases h⟩⟩
 have hle2 : g.le { g with fr := g'.fr } := ⟨hle.fr, rfl, rfl, fun e => .same rfl rfl rfl⟩
 refine ⟨hI.sh, hI'.fr, ?_, ?_, ?_, ?_, hI.dis, by have := hI'.ext; rw [hle.ext] at this; exact this⟩
 ·intro b o h
  refine hI'.gr b o ?_
  rw [hle.gr]
  exact (lend_covers g H w).gr rfl b o h
 ·intro e
  have he := hI.ent e
  cases hE : getE H e with
  | free => trivial
  | dead => trivial
  | box T x =>
   rw [hE] at he
   obtain ⟨b, cs, t, fz, q1, q2, q3, q4⟩ := he
   exact ⟨b, cs, t, fz, q1, by rw [(keep e b (by rw [hE]; rfl) q1).1]; exact q2, q3, (Rep_mono hle2 _ _ _).1 q4⟩
  | map K V l =>
   rw [hE] at he
   obtain ⟨b, es, clock, q1, q2, q3⟩ := he
   exact ⟨b, es, clock, q1, by rw [(keep e b (by rw [hE]; rfl) q1).1]; exact q2, mapRep_mono (fun _ _ => TRep_mono hle2) (fun _ _ => TRep_mono hle2) q3⟩
  | itr s p =>
   rw [hE] at he
   obtain ⟨q0, b, q1, q2⟩ := he
   exact ⟨q0, b, q1, by rw [(keep e b (by rw [hE]; rfl) q1).1]; exact q2⟩
  | vec k a l =>
   rw [hE] at he
   rcases he with he | ⟨b, cs, t, fz, vs, r, q1, q2, q3, q4, q5, q6, q7⟩
   ·exact .inl he
   ·exact .inr ⟨b, cs, t, fz, vs, r, q1, by rw [(keep e b (by rw [hE]; rfl) q1).1]; exact q2, q3, q4, q5, repL_mono (fun y _ cs => (Rep_mono hle2 _ y cs).1) q6, q7⟩
 ·intro e b h1 h2
  exact ⟨(keep e b h1 h2).2, (hI.own e b h1 h2).2⟩
 ·intro b o o' h h'
  refine hI'.sep b o o' h ?_
  rw [hle.gr]
  exact (lend_covers g H w).gr rfl b o' h'
@[reducible] def HL : List Ty → Type
 | [] => Unit
 | A :: As => A.den × HL As
def mkArgs : (As : List Ty) → HL As → List AV
 | [], _ => []
 | A :: As, xs => .v A xs.1 :: mkArgs As xs.2
def takeArgs : (As : List Ty) → List AV → Option (HL As)
 | [], [] => some ()
 | A :: As, .v T x :: vs => if h : T = A then match takeArgs As vs with | some r => some (h ▸ x, r) | none => none else none
 | _, _ => none
theorem takeArgs_some : ∀ {As : List Ty} {vs : List AV} {xs : HL As}, takeArgs As vs = some xs → vs = mkArgs As xs
 | [], [], xs, h => rfl
 | [], _ :: _, xs, h => by simp [takeArgs] at h
 | A :: As, [], xs, h => by simp [takeArgs] at h
 | A :: As, .tup _ :: vs, xs, h => by simp [takeArgs] at h
 | A :: As, .v T x :: vs, xs, h => by
  simp only [takeArgs] at h
  split at h
  ·rename_i hT
   subst hT
   split at h
   ·rename_i r hr
    simp only [Option.some.injEq] at h
    subst h
    simp only [mkArgs, takeArgs_some hr]
   ·cases h
  ·cases h
theorem mkArgs_still : ∀ {As : List Ty} {xs : HL As}, (As.all fun A => A.still false) = true → ((mkArgs As xs).all fun t => t.still false) = true
 | [], _, _ => rfl
 | A :: As, xs, h => by
  simp only [List.all_cons, Bool.and_eq_true] at h
  simp only [mkArgs, List.all_cons, Bool.and_eq_true, AV.still]
  exact ⟨h.1, mkArgs_still h.2⟩
def Ty.ok : (T : Ty) → T.den → Prop
 | .int k, n => inK k n = true
 | .prod a b, x => a.ok x.1 ∧ b.ok x.2
 | .arr n a, l => l.length = n ∧ ∀ x ∈ l, a.ok x
 | .imm _ _ a, l => l.length ≤ 9223372036854775807 ∧ ∀ x ∈ l, a.ok x
 | .tg _ a, l => l.length ≤ 9223372036854775807 ∧ ∀ x ∈ l, a.ok x
 | .str, s => s.size ≤ 9223372036854775807
 | .ip _ a, x => a.ok x
 | _, _ => True
theorem repL_all {α : Type} {R : α → List Value → Prop} {p : α → Prop} (h : ∀ x cs, R x cs → p x) : ∀ {l : List α} {cs : List Value}, repL R l cs → ∀ x ∈ l, p x
 | [], _, _ => by simp
 | y :: l, _, ⟨c1, c2, _, h1, h2⟩ => by
  intro x hx
  rcases List.mem_cons.1 hx with rfl | hx
  ·exact h _ _ h1
  ·exact repL_all h h2 x hx
theorem Rep_ok {g : G} : ∀ (T : Ty) (x : T.den) (cs : List Value), Rep g T x cs → T.ok x := by
 intro T
 induction T with
 | int k => intro x cs h; exact h.2
 | prod a b iha ihb => rintro x cs ⟨c1, c2, _, h1, h2⟩; exact ⟨iha _ _ h1, ihb _ _ h2⟩
 | arr n a ih => rintro x cs ⟨h1, h2⟩; exact ⟨h1, repL_all ih h2⟩
 | imm q f a ih =>
  rintro x cs ⟨pv, cap, _, h2, _, h4⟩
  refine ⟨Nat.le_trans h2.1 h2.2, ?_⟩
  by_cases hx : x = []
  ·subst hx; intro y hy; cases hy
  ·obtain ⟨ad, vs, _, h5, _⟩ := h4 hx; exact repL_all ih h5
 | tg q a ih =>
  rintro x cs ⟨pv, _, h2, h4⟩
  refine ⟨h2, ?_⟩
  by_cases hx : x = []
  ·subst hx; intro y hy; cases hy
  ·obtain ⟨ad, vs, _, h5, _⟩ := h4 hx; exact repL_all ih h5
 | str => rintro x cs ⟨_, h⟩; exact h
 | ip q a ih => rintro x cs ⟨ad, vs, _, h2, _⟩; exact ih _ _ h2
 | _ => intro x cs _; trivial
theorem TRep_ok {g : G} {T : Ty} {x : T.den} {v : Value} (h : TRep g T x v) : T.ok x := by
 unfold TRep at h
 split at h
 ·obtain ⟨cs, _, h⟩ := h; exact Rep_ok _ _ _ h
 ·exact Rep_ok _ _ _ h
def HL.ok : (As : List Ty) → HL As → Prop
 | [], _ => True
 | A :: As, xs => A.ok xs.1 ∧ HL.ok As xs.2
theorem args_ok {g : G} : ∀ {As : List Ty} {xs : HL As} {rvs : List Value}, argsRep g (mkArgs As xs) rvs → HL.ok As xs
 | [], _, _, _ => trivial
 | A :: As, xs, rvs, ⟨v, r, _, h2, h3⟩ => by
  refine ⟨?_, args_ok h3⟩
  by_cases hA : A = .und
  ·subst hA; trivial
  ·exact TRep_ok ((VRep_v hA).1 h2)
def CSpec.plain (As : List Ty) (pre : HL As → Bool) (f : HL As → AV) : CSpec :=
 CSpec.pure fun vs => match takeArgs As vs with | some xs => .chk (pre xs) (.ret (f xs)) | none => .fail
def nrm (x : Tr (AV × Heap)) : Option AV := (x.bind fun r => .ret r.1).eval
theorem nrm_some {x : Tr (AV × Heap)} {v : AV} (h : nrm x = some v) : ∃ H, x.eval = some (v, H) := by
 obtain ⟨r, h1, h2⟩ := Tr.bind_some h
 have := Tr.ret_some h2
 exact ⟨r.2, by rw [h1, ← this]⟩
theorem pure_local (f : List AV → Tr AV) : CLocal (CSpec.pure f) where
 same _ _ _ _ := ⟨rfl, rfl⟩
 turns vs H fr out h x hx := by
  obtain ⟨v, h1, h2⟩ := Tr.bind_some h
  have := Tr.ret_some h2
  subst this
  simp at hx
theorem callFunc_enter {P : Program} {f : FuncId} {fn : Func} {c : Code} (hf : P.funcs[f]? = some fn) (hname : (fn.name == "runtime.NumGoroutine") = false) (hb : fn.body = some c) (args : Array Value) (w : World) :
  (callFunc f args).run P w = .ok (.enter f args) w := by
 have h1 : fn.name ≠ "runtime.NumGoroutine" := by simpa using hname
 simp [callFunc, go_sem, hf, hb, h1]
theorem plain_sound {P : Program} {C : Ctx} {L : Loops} (hC : CtxSound P C) (hLc : CtxLocal C) {k : Nat} {fn : Func} (hf : P.funcs[k]? = some fn) {c : Code} (hname : (fn.name == "runtime.NumGoroutine") = false) (hb : fn.body = some c) (hl : LoopsOK P L c)
  {As : List Ty} {pre : HL As → Bool} {f : HL As → AV} (hA : (As.all fun A => A.still false) = true) (hR : ∀ xs, (f xs).still true = true)
  (key : ∀ xs, HL.ok As xs → pre xs = true → nrm (fnT P C L fn (mkArgs As xs) []) = some (f xs)) : CSound P k (CSpec.plain As pre f) where
 enter args w := callFunc_enter hf hname hb args w
 calls g H w vs rvs fr out hI hargs _ he := by
  obtain ⟨v, h1, h2⟩ := Tr.bind_some he
  have := Tr.ret_some h2
  subst this
  simp only at h1
  split at h1
  ·rename_i xs hxs
   obtain ⟨h3, h4⟩ := Tr.chk_some h1
   have := Tr.ret_some h4
   subst this
   have := takeArgs_some hxs
   subst this
   obtain ⟨H', h5⟩ := nrm_some (key xs (args_ok hargs) h3)
   refine (fn_sound hC hLc hf hb hl (lend_inv hI) (still_args (lend_covers g H w) (mkArgs_still hA) hargs) h5).mono ?_
   rintro e w' ⟨rv, g', rfl, hle, hI', hv⟩
   obtain ⟨g'', q1, q2, q3⟩ := lend_back hI hle hI'
   exact ⟨rv, g'', rfl, q1, q2, still_VRep q3 (hR xs) hv⟩
  ·exact (Tr.fail_some h1).elim
def ctx : List (Nat × CSpec) → Ctx
 | [], _ => none
 | (k, c) :: l, j => if j = k then some c else ctx l j
def AllSound (P : Program) : List (Nat × CSpec) → Prop
 | [] => True
 | (k, c) :: l => (CSound P k c ∧ CLocal c) ∧ AllSound P l
theorem ctx_sound {P : Program} : ∀ {l : List (Nat × CSpec)}, AllSound P l → CtxSound P (ctx l) ∧ CtxLocal (ctx l)
 | [], _ => ⟨fun k c h => (by cases h), fun k c h => (by cases h)⟩
 | (k, c) :: l, ⟨⟨h1, h2⟩, h3⟩ => by
  obtain ⟨i1, i2⟩ := ctx_sound h3
  constructor
  ·intro j c' h
   simp only [ctx] at h
   split at h
   ·rename_i hj; simp only [Option.some.injEq] at h; subst h; subst hj; exact h1
   ·exact i1 _ _ h
  ·intro j c' h
   simp only [ctx] at h
   split at h
   ·simp only [Option.some.injEq] at h; subst h; exact h2
   ·exact i2 _ _ h
end Vse
end
section
set_option linter.unusedVariables false
namespace Vse
open Go Go.ChangeShapes Go.WideShapes Go.ChangeAt Go.RowKit
def argFs (rec : TypeId → Option Ty) (P : Program) : List Field → Nat → Option Ty
 | [], _ => some .unit
 | f :: fs, off => match rec f.type with
  | some A => if f.offset = off ∧ P.cellsOf f.type = A.nc then match argFs rec P fs (off + A.nc) with
   | some B => some (.prod A B)
   | none => none else none
  | none => none
def argTy (P : Program) : Nat → TypeId → Option Ty
 | 0, _ => none
 | n + 1, t => match P.underlying t with
  | some .bool => some .bool
  | some (.int k) => some (.int k)
  | some .string => some .str
  | some (.array m e) => match argTy P n e with
   | some A => if P.cellsOf e = A.nc ∧ P.cellsOf t = m * A.nc then some (.arr m A) else none
   | none => none
  | some (.struct fs) => match argFs (argTy P n) P fs.toList 0 with
   | some A => if P.cellsOf t = A.nc then some A else none
   | none => none
  | some (.slice e) => match argTy P n e with
   | some A => if P.cellsOf e = A.nc ∧ A.nc ≠ 0 ∧ P.bytesOf e ≠ 0 then some (.imm true false A) else none
   | none => none
  | _ => none
def Ty.sz : (T : Ty) → T.den → Prop
 | .imm _ _ a, l => l.length ≤ reachBytes ∧ ∀ x ∈ l, a.sz x
 | .prod a b, x => a.sz x.1 ∧ b.sz x.2
 | .arr _ a, l => ∀ x ∈ l, a.sz x
 | .str, s => s.size ≤ reachBytes
 | _, _ => True
def Ty.wf : (T : Ty) → T.den → Prop
 | .int k, n => (Lit.int k n).wf = true
 | .str, s => s.size ≤ maxLen
 | .prod a b, x => a.wf x.1 ∧ b.wf x.2
 | .arr n a, l => l.length = n ∧ ∀ x ∈ l, a.wf x
 | .imm _ _ a, l => l.length ≤ 9223372036854775807 ∧ ∀ x ∈ l, a.wf x
 | _, _ => True
section
variable {H : Type} {enc : TypeId × Value → H} {P : Program} {w : World} {base : Nat} {spare : Nat → Bool} {held : Bool}
theorem fs_rep {g : G} {rec : TypeId → Option Ty} {m : Nat} {cs : List Value} {Z : Prop}
  (ih : ∀ {t : TypeId} {T : Ty} {c : List Value} {y : DataW H × List MemPlace}, rec t = some T → DataW.trod enc P w base spare held m t c = some y → ∃ x, Rep g T x c ∧ T.wf x ∧ ((∀ n ∈ y.1.weights P t, n ≤ reachBytes) → T.sz x)) :
  ∀ {fs : List Field} {off : Nat} {T : Ty}, argFs rec P fs off = some T → (∀ f ∈ fs, ∃ y, DataW.trod enc P w base spare held m f.type ((cs.drop f.offset).take (P.cellsOf f.type)) = some y ∧ (Z → ∀ n ∈ y.1.weights P f.type, n ≤ reachBytes)) →
   ∃ x, Rep g T x ((cs.drop off).take T.nc) ∧ T.wf x ∧ (Z → T.sz x)
 | [], off, T, h, _ => by
  simp only [argFs, Option.some.injEq] at h
  subst h
  exact ⟨(), by simp [Ty.nc, Ty.sk, Sk.nc, Rep], trivial, fun _ => trivial⟩
 | f :: fs, off, T, h, hf => by
  simp only [argFs] at h
  split at h
  ·rename_i A hA
   split at h
   ·rename_i hc
    split at h
    ·rename_i B hB
     simp only [Option.some.injEq] at h
     subst h
     obtain ⟨y, hy, hyz⟩ := hf f (by simp)
     obtain ⟨x1, h1, h2, h2z⟩ := ih hA hy
     obtain ⟨x2, h3, h4, h4z⟩ := fs_rep ih hB (fun f' hf' => hf f' (by simp [hf']))
     refine ⟨(x1, x2), ⟨_, _, ?_, h1, h3⟩, ⟨h2, h4⟩, fun hZ => ⟨h2z (hyz hZ), h4z hZ⟩⟩
     rw [hc.1, hc.2]
     show (cs.drop off).take (A.nc + B.nc) = _
     rw [List.take_add, List.drop_drop]
    ·cases h
   ·cases h
  ·cases h
theorem arr_rep {g : G} {A : Ty} {m : Nat} {e : TypeId} {Z : Prop} (cs : List Value)
  (ih : ∀ {c : List Value} {y : DataW H × List MemPlace}, DataW.trod enc P w base spare held m e c = some y → ∃ x, Rep g A x c ∧ A.wf x ∧ ((∀ n ∈ y.1.weights P e, n ≤ reachBytes) → A.sz x)) :
  ∀ (n off : Nat), (∀ i, off ≤ i → i < off + n → ∃ y, DataW.trod enc P w base spare held m e ((cs.drop (i * A.nc)).take A.nc) = some y ∧ (Z → ∀ n ∈ y.1.weights P e, n ≤ reachBytes)) →
   ∃ l : List A.den, l.length = n ∧ repL (Rep g A) l ((cs.drop (off * A.nc)).take (n * A.nc)) ∧ (∀ x ∈ l, A.wf x) ∧ (Z → ∀ x ∈ l, A.sz x)
 | 0, off, _ => ⟨[], rfl, by simp [repL], by simp, by simp⟩
 | n + 1, off, h => by
  obtain ⟨y, hy, hyz⟩ := h off (Nat.le_refl _) (by omega)
  obtain ⟨x, h1, h2, h2z⟩ := ih hy
  obtain ⟨l, h3, h4, h5, h5z⟩ := arr_rep cs ih n (off + 1) (fun i hi hi' => h i (by omega) (by omega))
  refine ⟨x :: l, by simp [h3], ⟨_, _, ?_, h1, h4⟩, ?_, ?_⟩
  ·rw [show (n + 1) * A.nc = A.nc + n * A.nc by rw [Nat.add_mul]; omega, List.take_add, List.drop_drop]
   rw [show off * A.nc + A.nc = (off + 1) * A.nc by rw [Nat.add_mul]; omega]
  ·intro z hz
   rcases List.mem_cons.1 hz with rfl | hz
   ·exact h2
   ·exact h5 z hz
  ·intro hZ z hz
   rcases List.mem_cons.1 hz with rfl | hz
   ·exact h2z (hyz hZ)
   ·exact h5z hZ z hz
theorem weightsAll_mem {e : TypeId} : ∀ {ds : List (DataW H)} {i : Nat} {d : DataW H}, ds[i]? = some d → ∀ n ∈ d.weights P e, n ∈ DataW.weightsAll P e ds
 | [], i, d, h, _, _ => by simp at h
 | d0 :: ds, 0, d, h, n, hn => by
  simp only [List.getElem?_cons_zero, Option.some.injEq] at h
  subst h
  simp only [DataW.weightsAll, List.mem_append]
  exact .inl hn
 | d0 :: ds, i + 1, d, h, n, hn => by
  simp only [DataW.weightsAll, List.mem_append]
  exact .inr (weightsAll_mem (by simpa using h) n hn)
theorem weightsEach_mem : ∀ {ts : List TypeId} {ds : List (DataW H)} {i : Nat} {t : TypeId} {d : DataW H}, ts[i]? = some t → ds[i]? = some d → ∀ n ∈ d.weights P t, n ∈ DataW.weightsEach P ts ds
 | [], _, i, t, d, h, _, _, _ => by simp at h
 | _ :: _, [], i, t, d, _, h, _, _ => by simp at h
 | t0 :: ts, d0 :: ds, 0, t, d, h, h', n, hn => by
  simp only [List.getElem?_cons_zero, Option.some.injEq] at h h'
  subst h
  subst h'
  simp only [DataW.weightsEach, List.mem_append]
  exact .inl hn
 | t0 :: ts, d0 :: ds, i + 1, t, d, h, h', n, hn => by
  simp only [DataW.weightsEach, List.mem_append]
  exact .inr (weightsEach_mem (by simpa using h) (by simpa using h') n hn)
theorem sl_rep {g : G} {A : Ty} {m : Nat} {e : TypeId} {b o : Nat} {Z : Prop}
  (ih : ∀ {c : List Value} {y : DataW H × List MemPlace}, DataW.trod enc P w base spare held m e c = some y → ∃ x, Rep g A x c ∧ A.wf x ∧ ((∀ n ∈ y.1.weights P e, n ≤ reachBytes) → A.sz x)) :
  ∀ (n off : Nat), (∀ i, off ≤ i → i < off + n → ∃ y, (w.cells? base ((⟨b, o, none⟩ : Addr).add (i * A.nc)) A.nc).bind (DataW.trod enc P w base spare held m e) = some y ∧ (Z → ∀ n ∈ y.1.weights P e, n ≤ reachBytes)) →
   ∃ (l : List A.den) (vs : List Value), l.length = n ∧ repL (Rep g A) l vs ∧ ((∀ x ∈ l, A.wf x) ∧ (Z → ∀ x ∈ l, A.sz x)) ∧ ∀ j v, vs[j]? = some v → w.cell? ⟨b, o + (off * A.nc + j), none⟩ = some v
 | 0, off, _ => ⟨[], [], rfl, rfl, by simp, by simp⟩
 | n + 1, off, h => by
  obtain ⟨y, hy, hyz⟩ := h off (Nat.le_refl _) (by omega)
  obtain ⟨c, hc, hy⟩ := Option.bind_eq_some_iff.1 hy
  obtain ⟨_, hlen, hcell⟩ := World.cells?_some hc
  obtain ⟨x, h1, h2, h2z⟩ := ih hy
  obtain ⟨l, vs, h3, h4, ⟨h5, h5z⟩, h6⟩ := sl_rep ih n (off + 1) (fun i hi hi' => h i (by omega) (by omega))
  refine ⟨x :: l, c ++ vs, by simp [h3], ⟨c, vs, rfl, h1, h4⟩, ⟨?_, ?_⟩, ?_⟩
  ·intro z hz
   rcases List.mem_cons.1 hz with rfl | hz
   ·exact h2
   ·exact h5 z hz
  ·intro hZ z hz
   rcases List.mem_cons.1 hz with rfl | hz
   ·exact h2z (hyz hZ)
   ·exact h5z hZ z hz
  ·intro j v hj
   by_cases hlt : j < c.length
   ·rw [List.getElem?_append_left hlt] at hj
    have := hcell j (by omega)
    rw [hj, addr_add, addr_add, Nat.add_assoc] at this
    exact this
   ·rw [List.getElem?_append_right (by omega)] at hj
    have := h6 _ _ hj
    rw [hlen] at this hlt
    rw [← this]
    congr 2
    rw [Nat.add_mul]
    omega
theorem arg_rep {g : G} (hg : ∀ b o, w.heap[b]? = some o → g.fr b = some o) : ∀ (n : Nat) {m : Nat} {t : TypeId} {T : Ty} {cs : List Value} {y : DataW H × List MemPlace},
  argTy P n t = some T → DataW.trod enc P w base spare held m t cs = some y → ∃ x, Rep g T x cs ∧ T.wf x ∧ ((∀ n ∈ y.1.weights P t, n ≤ reachBytes) → T.sz x)
 | 0, m, t, T, cs, y, h, _ => by simp [argTy] at h
 | n + 1, m, t, T, cs, y, h, hd => by
  have ihz := fun {m : Nat} {t : TypeId} {T : Ty} {cs : List Value} {y : DataW H × List MemPlace} => @arg_rep g hg n m t T cs y
  have ih : ∀ {m : Nat} {t : TypeId} {T : Ty} {cs : List Value} {y : DataW H × List MemPlace}, argTy P n t = some T → DataW.trod enc P w base spare held m t cs = some y → ∃ x, Rep g T x cs ∧ T.wf x := fun h1 h2 => (ihz h1 h2).imp fun x h => ⟨h.1, h.2.1⟩
  simp only [argTy] at h
  split at h
  ·rename_i hu
   cases h
   obtain ⟨b, rfl, _⟩ := DataW.trod_bool hu hd
   exact ⟨b, by simp [Rep], trivial, fun _ => trivial⟩
  ·rename_i k hu
   cases h
   obtain ⟨z, rfl, _, hw⟩ := DataW.trod_int hu hd
   exact ⟨z, ⟨rfl, hw⟩, hw, fun _ => trivial⟩
  ·rename_i hu
   cases h
   obtain ⟨z, rfl, hy0, hw⟩ := DataW.trod_string hu hd
   refine ⟨z, ⟨rfl, by simpa [maxLen] using hw⟩, hw, fun hZ => ?_⟩
   rw [hy0] at hZ
   have := hZ z.data.toList.length (by simp [DataW.weights])
   rw [Array.length_toList] at this
   exact this
  ·rename_i k e hu
   split at h
   ·rename_i A hA
    split at h
    ·rename_i hc
     cases h
     obtain ⟨xs, m', rfl, hy0, hl, hn, hx⟩ := DataW.trod_array hu hd
     obtain ⟨l, h1, h2, h3, h3z⟩ := arr_rep (g := g) (A := A) (Z := ∀ n ∈ DataW.weights P t (.agg (xs.map (·.1))), n ≤ reachBytes) cs (fun hy => ihz hA hy) k 0 (fun i _ hi => ⟨xs[i]'(by omega), by rw [← hc.1, hx i (by omega), List.getElem?_eq_getElem], fun hZ j hj => hZ j (by
      simp only [DataW.weights, hu]
      exact weightsAll_mem (i := i) (by rw [List.getElem?_map, List.getElem?_eq_getElem (by omega)]; rfl) j hj)⟩)
     refine ⟨l, ⟨h1, ?_⟩, ⟨h1, h3⟩, by rw [hy0]; exact h3z⟩
     simp only [Nat.zero_mul, List.drop_zero] at h2
     rw [List.take_of_length_le (by rw [hl, hc.2]; exact Nat.le_refl _)] at h2
     exact h2
    ·cases h
   ·cases h
  ·rename_i fs hu
   split at h
   ·rename_i A hA
    split at h
    ·rename_i hc
     cases h
     obtain ⟨xs, m', rfl, hy0, hl, hn, hx⟩ := DataW.trod_struct hu hd
     obtain ⟨x, h1, h2, h2z⟩ := fs_rep (g := g) (cs := cs) (Z := ∀ n ∈ DataW.weights P t (.agg (xs.map (·.1))), n ≤ reachBytes) (fun hT hy => ihz hT hy) hA (fun f hf => by
      obtain ⟨i, hi, rfl⟩ := List.getElem_of_mem hf
      have hi' : i < fs.size := by simpa using hi
      refine ⟨xs[i]'(by omega), (hx i _ (by simp [hi'])).trans (List.getElem?_eq_getElem _), fun hZ k hk => hZ k ?_⟩
      simp only [DataW.weights, hu]
      exact weightsEach_mem (i := i) (by simp [hi']) (by rw [List.getElem?_map, List.getElem?_eq_getElem (by omega)]; rfl) k hk)
     refine ⟨x, ?_, h2, by rw [hy0]; exact h2z⟩
     rw [List.drop_zero, List.take_of_length_le (by rw [hl, hc]; exact Nat.le_refl _)] at h1
     exact h1
    ·cases h
   ·cases h
  ·rename_i e hu
   split at h
   ·rename_i A hA
    split at h
    ·rename_i hc
     cases h
     rcases DataW.trod_slice hu hd with ⟨rfl, _⟩ | ⟨a, len, cap, elems, rest, n', rfl, rfl, rfl, _, hl, hm, hlen, hel, _, _⟩
     ·exact ⟨[], ⟨none, 0, rfl, by simp, by simp, by simp⟩, by simp [Ty.wf], fun _ => by simp [Ty.sz]⟩
     ·by_cases h0 : len = 0
      ·subst h0
       exact ⟨[], ⟨some a, cap, rfl, ⟨by simp, by simpa [maxLen] using hm⟩, by simp, by simp⟩, by simp [Ty.wf], fun _ => by simp [Ty.sz]⟩
      have hsp : ∃ cs tt fz, a.spot = none ∧ w.heap[a.block]? = some (.cells cs tt fz) := by
       have := hel 0 (by omega)
       rw [List.getElem?_eq_getElem (by omega)] at this
       obtain ⟨c, hc1, _⟩ := Option.bind_eq_some_iff.1 this
       obtain ⟨_, hcl, hcc⟩ := World.cells?_some hc1
       have hz := hcc 0 (by rw [hc.1]; omega)
       rw [List.getElem?_eq_getElem (by rw [hcl, hc.1]; omega)] at hz
       simp only [Nat.zero_mul, Addr.add, if_true, World.cell?] at hz
       split at hz
       ·rename_i cs tt fz hb
        split at hz
        ·cases hz
        ·rename_i hsp
         exact ⟨cs, tt, fz, by simpa using hsp, hb⟩
       ·cases hz
      obtain ⟨cs, tt, fz, hsp, hb⟩ := hsp
      obtain ⟨b, o, sp⟩ := a
      simp only at hsp hb
      subst hsp
      obtain ⟨l, vs, h1, h2, ⟨h3, h3z⟩, h4⟩ := sl_rep (g := g) (A := A) (b := b) (o := o) (Z := ∀ n ∈ DataW.weights P t (.slice (elems.map (·.1)) (rest.map (·.1))), n ≤ reachBytes) (fun hy => ihz hA hy) len 0 (fun i _ hi => ⟨elems[i]'(by omega), by
       have := hel i (by omega)
       rw [hc.1] at this
       rw [this, List.getElem?_eq_getElem], fun hZ k hk => hZ k (by
        simp only [DataW.weights, hu, List.mem_cons, List.mem_append]
        exact .inr (.inl (weightsAll_mem (i := i) (by rw [List.getElem?_map, List.getElem?_eq_getElem (by omega)]; rfl) k hk)))⟩)
      refine ⟨l, ⟨some ⟨b, o, none⟩, cap, by rw [h1], ⟨by omega, by simpa [maxLen] using hm⟩, by simp, fun hne => ⟨_, vs, rfl, h2, .inl ⟨rfl, cs, tt, fz, hg _ _ hb, fun j v hj => ?_⟩⟩⟩, ⟨by rw [h1]; simp only [maxLen] at hm; omega, h3⟩, fun hZ => ⟨?_, h3z hZ⟩⟩
      ·have := h4 j v hj
       simp only [World.cell?, hb, Option.isSome_none, Bool.false_eq_true, if_false, Nat.zero_mul, Nat.zero_add] at this
       exact this
      ·have := hZ _ (by simp only [DataW.weights, hu]; exact List.mem_cons_self ..)
       rw [h1]
       simp only [List.length_map] at this
       have h5 : len * 1 ≤ (elems.length + rest.length) * P.bytesOf e := Nat.mul_le_mul (by omega) (by have := hc.2.2; omega)
       omega
    ·cases h
   ·cases h
  ·cases h
theorem argFs_agg {rec : TypeId → Option Ty} : ∀ {fs : List Field} {off : Nat} {T : Ty}, argFs rec P fs off = some T → T.agg = true
 | [], off, T, h => by simp only [argFs, Option.some.injEq] at h; subst h; rfl
 | f :: fs, off, T, h => by
  simp only [argFs] at h
  split at h
  ·split at h
   ·split at h
    ·simp only [Option.some.injEq] at h; subst h; rfl
    ·cases h
   ·cases h
  ·cases h
theorem arg_form {r : Reach} {b0 n : Nat} {t : TypeId} {T : Ty} {v : Value} (h : argTy P n t = some T) (hv : Value.okWide P w r b0 t v) : if T.agg then ∃ cs : Array Value, v = .agg cs else v.cells = #[v] := by
 cases n with
 | zero => simp [argTy] at h
 | succ n =>
  simp only [argTy] at h
  split at h
  ·rename_i hu
   cases h
   obtain ⟨b, rfl⟩ := okWide_bool hu hv
   rfl
  ·rename_i k hu
   cases h
   obtain ⟨b, rfl⟩ := okWide_int hu hv
   rfl
  ·rename_i hu
   cases h
   obtain ⟨b, rfl⟩ := okWide_string hu hv
   rfl
  ·rename_i k e hu
   unfold Value.okWide at hv
   rw [hu] at hv
   obtain ⟨cs, rfl, _⟩ := hv
   split at h
   ·split at h
    ·cases h; exact ⟨cs, rfl⟩
    ·cases h
   ·cases h
  ·rename_i fs hu
   unfold Value.okWide at hv
   rw [hu] at hv
   obtain ⟨cs, rfl, _⟩ := hv
   split at h
   ·rename_i A hA
    split at h
    ·cases h; rw [if_pos (argFs_agg hA)]; exact ⟨cs, rfl⟩
    ·cases h
   ·cases h
  ·rename_i e hu
   split at h
   ·split at h
    ·cases h
     have hns : ∀ cs, v ≠ .agg cs := by
      rintro cs rfl
      unfold Value.okWide Cell.okWide Cell.ok at hv
      rw [hu] at hv
      exact hv
     cases v <;> first | rfl | (exact absurd rfl (hns _))
    ·cases h
   ·cases h
  ·cases h
theorem arg_open {g : G} (hg : ∀ b o, w.heap[b]? = some o → g.fr b = some o) {r : Reach} {b0 n : Nat} {t : TypeId} {T : Ty} {v : Value} {d : DataW H} {p : List MemPlace} (h : argTy P n t = some T) (hv : Value.okWide P w r b0 t v)
  (hd : DataW.Trod enc P w base spare held t v d p) : ∃ x, VRep g (.v T x) v ∧ T.wf x ∧ ((∀ n ∈ d.weights P t, n ≤ reachBytes) → T.sz x) := by
 obtain ⟨m, hd⟩ := hd
 obtain ⟨x, h1, h2⟩ := arg_rep (g := g) hg n h hd
 refine ⟨x, (VRep_v (Rep_ne h1)).2 ?_, h2⟩
 have hf := arg_form h hv
 unfold TRep
 split at hf
 ·obtain ⟨cs, rfl⟩ := hf
  rw [if_pos (by assumption)]
  exact ⟨cs, rfl, h1⟩
 ·rw [if_neg (by assumption)]
  rw [hf] at h1
  exact h1
def HL.sz : (As : List Ty) → HL As → Prop
 | [], _ => True
 | A :: As, xs => A.sz xs.1 ∧ HL.sz As xs.2
def HL.wf : (As : List Ty) → HL As → Prop
 | [], _ => True
 | A :: As, xs => A.wf xs.1 ∧ HL.wf As xs.2
def argTys (P : Program) (n : Nat) : List TypeId → Option (List Ty)
 | [] => some []
 | t :: ts => match argTy P n t with
  | some T => match argTys P n ts with
   | some Ts => some (T :: Ts)
   | none => none
  | none => none
theorem args_open {g : G} (hg : ∀ b o, w.heap[b]? = some o → g.fr b = some o) {r : Reach} {b0 n : Nat} : ∀ {ts : List TypeId} {As : List Ty} {vs : List Value} {ds : List (DataW H)} {ps : List MemPlace}, argTys P n ts = some As →
  (∀ (j : Nat) (t : TypeId) (v : Value), ts[j]? = some t → vs[j]? = some v → Value.okWide P w r b0 t v) → DataW.TrodAll enc P w base spare held ts vs ds ps → ∃ xs : HL As, argsRep g (mkArgs As xs) vs ∧ HL.wf As xs ∧ ((∀ n ∈ DataW.weightsEach P ts ds, n ≤ reachBytes) → HL.sz As xs)
 | [], As, vs, ds, ps, h, hv, hd => by
  simp only [argTys, Option.some.injEq] at h
  subst h
  obtain ⟨rfl, _, _⟩ := trodAll_nil hd
  exact ⟨(), rfl, trivial, fun _ => trivial⟩
 | t :: ts, As, vs, ds, ps, h, hv, hd => by
  simp only [argTys] at h
  split at h
  ·rename_i T hT
   split at h
   ·rename_i Ts hTs
    simp only [Option.some.injEq] at h
    subst h
    obtain ⟨v, vs', d, ds', p, q, rfl, rfl, rfl, h1, h2⟩ := trodAll_cons hd
    obtain ⟨x, h3, h4, h4z⟩ := arg_open (g := g) hg hT (hv 0 t v rfl rfl) h1
    obtain ⟨xs, h5, h6, h6z⟩ := args_open (g := g) hg hTs (fun j t v h h' => hv (j + 1) t v (by simpa using h) (by simpa using h')) h2
    exact ⟨(x, xs), ⟨v, vs', rfl, h3, h5⟩, ⟨h4, h6⟩, fun hZ => ⟨h4z fun n hn => hZ n (by simp only [DataW.weightsEach, List.mem_append]; exact .inl hn), h6z fun n hn => hZ n (by simp only [DataW.weightsEach, List.mem_append]; exact .inr hn)⟩⟩
   ·cases h
  ·cases h
def G.start (w : World) : G := ⟨fun b => w.heap[b]?, fun _ => none, fun _ => none, fun _ => 0, fun _ => .free, (((w.os, w.output, w.tape), w.drawn), [])⟩
theorem start_inv (w : World) : HInv (G.start w) [] w where
 sh _ := rfl
 fr _ _ h := h
 gr _ _ h := by cases h
 ent _ := trivial
 own e b h := by simp [getE_nil, Entry.live] at h
 sep _ _ _ _ h := by cases h
 dis e e' b h := by simp [getE_nil, Entry.live] at h
 ext := Goes.refl w
theorem start_below {w w' : World} {g : G} {H : Heap} (hle : (G.start w).le g) (hI : HInv g H w') : Below w.heap.size w w' := by
 have he := hI.ext
 rw [hle.ext] at he
 have he := he.1
 simp only [G.start, Prod.mk.injEq] at he
 have hb : ∀ k, k < w.heap.size → w'.heap[k]? = w.heap[k]? := by
  intro k hk
  have : w.heap[k]? = some (w.heap[k]'hk) := Array.getElem?_eq_getElem hk
  rw [this]
  exact hI.fr _ _ (hle.fr _ _ this)
 refine ⟨he.1, he.2.2, he.2.1, ?_, hb⟩
 rcases Nat.lt_or_ge w'.heap.size w.heap.size with hlt | hge
 ·have := hb w'.heap.size hlt
  rw [Array.getElem?_eq_none (Nat.le_refl _), Array.getElem?_eq_getElem hlt] at this
  cases this
 ·exact hge
theorem post_of_below {f : Func} {s : ChangeSpec} {apart fresh handsOn again : Bool} {W W' : World} {args : Array Value} {v : Value} {ds gs : List (DataW H)} {before pa : List MemPlace}
  (hW : DataW.Whole enc P f.params.toList s.vars apart W args.toList ds gs before)
  (hres : ∀ (b : Nat) (sp : Nat → Bool) (hd : Bool), DataW.TrodAll enc P W' b sp hd f.resultTypes.toList (v.resultList f.resultTypes.size) (s.fn H (ds ++ gs)).results [])
  (hargs : ∀ sp : Nat → Bool, (∀ p ∈ before, sp p.block = true) → DataW.TrodAll enc P W' 0 sp true f.params.toList args.toList (s.fn H (ds ++ gs)).args pa)
  (hvars : s.vars = [] ∧ (s.fn H (ds ++ gs)).vars = [])
  (hps : before = pa) (hb : Below W.heap.size W W')
  (hok : ∀ (j : Nat) (t : TypeId) (r : Value), f.resultTypes[j]? = some t → (v.resultList f.resultTypes.size)[j]? = some r → Value.okWide P W' .any 0 t r) :
  s.post enc P f apart fresh handsOn again W args v W' := by
 have hold : ∀ p ∈ before, (fun b => decide (b < W.heap.size)) p.block = true := fun p hp => by simpa using hW.lt p hp
 have hv : ∀ sp : Nat → Bool, DataW.TrodVars enc P W' sp s.vars (s.fn H (ds ++ gs)).vars [] := fun sp => by rw [hvars.1, hvars.2]; rfl
 refine ⟨ds, gs, before, [], pa, [], hW, hres _ _ _, hargs _ hold, hv _, World.keptBut_mono (fun p hp => ⟨hp, ?_⟩) (hb.frame (· ∈ before)), fun _ => ?_⟩
 ·rw [hps] at hp
  exact Or.inr (Or.inl hp)
 ·obtain ⟨_, _, _, _, _, hz, hn⟩ := id hW
  refine ⟨hok, _, _, ([] ++ pa) ++ [], ⟨[] ++ pa, [], trodAll_append (hargs _ (fun _ _ => rfl)) (hres _ _ _), hv _, rfl, ?_, ?_⟩, ?_⟩
  ·intro b off hp
   have hp' : MemPlace.cell b off ∈ before := by rw [hps]; simpa using hp
   rw [hb.frozen (p := ⟨b, off, none⟩) (hW.lt _ hp')]
   exact hz b off hp'
  ·intro ha
   have := hn ha
   rw [hps] at this
   simpa using this
  ·intro p hp _
   rw [hps]
   simpa using hp
end
end Vse
end
section
set_option linter.unusedVariables false
namespace Vse
open Go Go.ChangeShapes Go.WideShapes Go.ChangeAt Go.RowKit
section
variable {H : Type} {enc : TypeId × Value → H} {P : Program}
theorem args_stay (hl : laidOutB P = true) {W W' : World} {sp : Nat → Bool} (hb : Below W.heap.size W W') : ∀ {ts : List TypeId} {vs : List Value} {ds : List (DataW H)} {ps : List MemPlace},
  (ts.all fun t => P.readableRec t && decide (t < P.types.size)) = true → DataW.TrodAll enc P W 0 (fun _ => true) true ts vs ds ps → (∀ p ∈ ps, p.block < W.heap.size) → (∀ p ∈ ps, sp p.block = true) →
  DataW.TrodAll enc P W' 0 sp true ts vs ds ps
 | [], vs, ds, ps, _, h, _, _ => by
  obtain ⟨rfl, rfl, rfl⟩ := trodAll_nil h
  rfl
 | t :: ts, vs, ds, ps, ht, h, hlt, hsp => by
  simp only [List.all_cons, Bool.and_eq_true, decide_eq_true_eq] at ht
  obtain ⟨v, vs', d, ds', p, q, rfl, rfl, rfl, h1, h2⟩ := trodAll_cons h
  exact ⟨p, q, WideElems.Trod_stays hl ht.1.1 ht.1.2 h1 (fun x hx => hb.same (hlt x (List.mem_append_left _ hx))) (fun x hx => hsp x (List.mem_append_left _ hx)),
   args_stay hl hb (by simpa using ht.2) h2 (fun x hx => hlt x (List.mem_append_right _ hx)) (fun x hx => hsp x (List.mem_append_right _ hx)), rfl⟩
theorem trodAll_length {w : World} {base : Nat} {sp : Nat → Bool} {held : Bool} : ∀ {ts : List TypeId} {vs : List Value} {ds : List (DataW H)} {ps : List MemPlace}, DataW.TrodAll enc P w base sp held ts vs ds ps → ds.length = ts.length
 | [], vs, ds, ps, h => by obtain ⟨_, rfl, _⟩ := trodAll_nil h; rfl
 | t :: ts, vs, ds, ps, h => by
  obtain ⟨v, vs', d, ds', p, q, rfl, rfl, rfl, h1, h2⟩ := trodAll_cons h
  simp [trodAll_length h2]
theorem weights_left {ts us : List TypeId} {ds gs : List (DataW H)} : ds.length = ts.length → ∀ {n : Nat}, n ∈ DataW.weightsEach P ts ds → n ∈ DataW.weightsEach P (ts ++ us) (ds ++ gs) := by
 induction ts generalizing ds with
 | nil => intro h n hn; cases ds <;> simp [DataW.weightsEach] at hn
 | cons t ts ih =>
  intro h n hn
  cases ds with
  | nil => simp at h
  | cons d ds =>
   simp only [List.cons_append, DataW.weightsEach, List.mem_append] at hn ⊢
   rcases hn with hn | hn
   ·exact .inl hn
   ·exact .inr (ih (by simpa using h) hn)
theorem law_callsZ {C : Ctx} {L : Loops} (hC : CtxSound P C ∧ CtxLocal C) (hlaid : laidOutB P = true) {k : Nat} {fn : Func} {c : Code} (hf : P.funcs[k]? = some fn) (hb : fn.body = some c) (hl : LoopsOK P L c)
  {n : Nat} {As : List Ty} (hAs : argTys P n fn.params.toList = some As) (hts : (fn.params.toList.all fun t => P.readableRec t && decide (t < P.types.size)) = true)
  {tb : TypeId} (hres : fn.resultTypes = #[tb]) (hbool : P.underlying tb = some .bool)
  {s : ChangeSpec} (hs : s.vars = [] ∧ ∀ ds : List (DataW H), ds.length = fn.params.toList.length → s.fn H ds = { results := [.lit (.bool true)], args := ds })
  (key : ∀ xs : HL As, HL.wf As xs → HL.sz As xs → nrm (fnT P C L fn (mkArgs As xs) []) = some (.v .bool true))
  {W : World} {base : Nat} {args : Array Value} {ds gs : List (DataW H)} {before : List MemPlace} {apart fresh handsOn again : Bool}
  (hval : ∀ (j : Nat) (t : TypeId) (v : Value), fn.params[j]? = some t → args[j]? = some v → Value.okWide P W .any base t v)
  (hW : DataW.Whole enc P fn.params.toList s.vars apart W args.toList ds gs before)
  (hz : (DataW.weightsEach P (fn.params.toList ++ s.plain.varTypes P) (ds ++ gs)).all (· ≤ reachBytes) = true) :
  Calls P k args W fun e W' => ∃ v, e = .returned v ∧ s.post enc P fn apart fresh handsOn again W args v W' := by
 obtain ⟨p, q, hA, hV, hpq, _, _⟩ := id hW
 rw [hs.1] at hV
 obtain ⟨rfl, rfl⟩ := trodVars_none hV
 simp only [List.append_nil] at hpq
 subst hpq
 obtain ⟨xs, h1, h2, h2z⟩ := args_open (g := G.start W) (fun _ _ h => h) hAs (fun j t v ht hv => hval j t v (by simpa using ht) (by simpa using hv)) hA
 obtain ⟨H', h3⟩ := nrm_some (key xs h2 (h2z fun n hn => by
  have := List.all_eq_true.1 hz n (weights_left (trodAll_length hA) hn)
  simpa using this))
 have hcalls := fn_sound hC.1 hC.2 hf hb hl (start_inv W) h1 h3
 have harr : args.toList.toArray = args := by simp
 rw [harr] at hcalls
 refine hcalls.mono ?_
 rintro e W' ⟨rv, g', rfl, hle, hI, hv⟩
 have hbel := start_below hle hI
 have hv' := (VRep_v (by simp)).1 hv
 rw [TRep_bool] at hv'
 subst hv'
 have hfn : s.fn H (ds ++ []) = { results := [.lit (.bool true)], args := ds } := by
  rw [List.append_nil]
  exact hs.2 ds (trodAll_length hA)
 refine ⟨_, rfl, post_of_below (pa := before) hW ?_ ?_ ⟨hs.1, by rw [hfn]⟩ rfl hbel ?_⟩
 ·intro b sp hd
  rw [hfn, hres]
  exact ⟨[], [], shut_bool hbool true, rfl, rfl⟩
 ·intro sp hsp
  rw [hfn]
  exact args_stay hlaid hbel hts hA (fun p hp => hW.lt p hp) hsp
 ·exact ok_one hres rfl (okWide_bool_mk hbool true)
end
end Vse
end
section
set_option linter.unusedVariables false
namespace Vse
open Go Go.ChangeShapes
def dfl : (T : Ty) → T.den
 | .bool => false
 | .int _ => (0 : Int)
 | .str => ByteArray.empty
 | .prod a b => (dfl a, dfl b)
 | .arr n a => List.replicate n (dfl a)
 | .imm _ _ _ => []
 | .tg _ _ => []
 | .sv _ _ => ⟨(), 0, 0, false⟩
 | .vp _ _ p => pd p
 | .sub _ p => ⟨pd p, 0, 0, false⟩
 | .ptr _ p => pd p
 | .ip _ a => dfl a
 | .fn _ c => dfl c
 | .unit | .und | .nils | .vc _ _ | .nilp | .nilm | .mp _ | .nilf | .nili | .it _ | .ch _ => ()
where
 pd : (p : List PS) → PD p
  | [] => ()
  | .fld _ :: p => pd p
  | .idx :: p => (0, pd p)
def dflL : (Rs : List Ty) → HL Rs
 | [] => ()
 | R :: Rs => (dfl R, dflL Rs)
def tvs : (Rs : List Ty) → HL Rs → List TV
 | [], _ => []
 | R :: Rs, x => ⟨R, x.1⟩ :: tvs Rs x.2
def ofHL : (Rs : List Ty) → HL Rs → AV
 | [R], x => .v R x.1
 | Rs, x => .tup (tvs Rs x)
def toTvs : (Rs : List Ty) → List TV → Option (HL Rs)
 | [], [] => some ()
 | R :: Rs, t :: ts => if h : t.T = R then match toTvs Rs ts with | some r => some (h ▸ t.x, r) | none => none else none
 | _, _ => none
def toHL : (Rs : List Ty) → AV → Option (HL Rs)
 | [R], .v T x => if h : T = R then some (h ▸ x, ()) else none
 | [_], .tup _ => none
 | Rs, .tup l => toTvs Rs l
 | _, _ => none
theorem toTvs_some : ∀ {Rs : List Ty} {l : List TV} {x : HL Rs}, toTvs Rs l = some x → l = tvs Rs x
 | [], [], x, h => rfl
 | [], _ :: _, x, h => by simp [toTvs] at h
 | R :: Rs, [], x, h => by simp [toTvs] at h
 | R :: Rs, t :: ts, x, h => by
  obtain ⟨T, y⟩ := t
  simp only [toTvs] at h
  split at h
  ·rename_i hT
   subst hT
   split at h
   ·rename_i r hr
    simp only [Option.some.injEq] at h
    subst h
    simp only [tvs, ← toTvs_some hr]
   ·cases h
  ·cases h
theorem toHL_some {Rs : List Ty} {v : AV} {x : HL Rs} (h : toHL Rs v = some x) : v = ofHL Rs x := by
 unfold toHL at h
 split at h
 ·split at h
  ·rename_i hT
   subst hT
   simp only [Option.some.injEq] at h
   subst h
   rfl
  ·cases h
 ·cases h
 ·rename_i Rs' l hne
  have := toTvs_some h
  subst this
  cases Rs with
  | nil => rfl
  | cons R Rs =>
   cases Rs with
   | nil => exact (hne R rfl).elim
   | cons _ _ => rfl
 ·cases h
namespace Tr
def isFail {α : Type} : Tr α → Bool
 | .fail => true
 | _ => false
theorem isFail_eq {α : Type} {t : Tr α} (h : t.isFail = true) : t = .fail := by cases t <;> simp_all [isFail]
def choose {α : Type} (b t e : Bool) (x y : α) : α := match e with
 | true => x
 | false => match t with
  | true => y
  | false => match b with | true => x | false => y
def fold (Rs : List Ty) : Tr (AV × Heap) → HL Rs
 | .ret r => match toHL Rs r.1 with | some x => x | none => dflL Rs
 | .fail => dflL Rs
 | .ite b t e => choose b t.isFail e.isFail (t.fold Rs) (e.fold Rs)
 | .opt o n s => match o with | none => n.fold Rs | some x => (s x).fold Rs
def fine (Rs : List Ty) : Tr (AV × Heap) → Bool
 | .ret r => (toHL Rs r.1).isSome
 | .fail => false
 | .ite b t e => (t.fine Rs || !b) && (e.fine Rs || b)
 | .opt o n s => match o with | none => n.fine Rs | some x => (s x).fine Rs
theorem nrm_of_fine {Rs : List Ty} : ∀ {t : Tr (AV × Heap)}, t.fine Rs = true → nrm t = some (ofHL Rs (t.fold Rs))
 | .ret r, h => by
  simp only [fine, Option.isSome_iff_exists] at h
  obtain ⟨x, hx⟩ := h
  simp only [fold, hx]
  show some r.1 = _
  rw [toHL_some hx]
 | .fail, h => by simp [fine] at h
 | .ite b t e, h => by
  simp only [fine, Bool.and_eq_true, Bool.or_eq_true] at h
  cases b
  ·have he : e.fine Rs = true := by simpa using h.2
   have hf : e.isFail = false := by
    rw [Bool.eq_false_iff]; intro hf; rw [isFail_eq hf] at he; cases he
   have : (Tr.ite false t e).fold Rs = e.fold Rs := by
    simp only [fold, choose, hf]; cases t.isFail <;> rfl
   rw [this]
   exact nrm_of_fine (t := e) he
  ·have ht : t.fine Rs = true := by simpa using h.1
   have hf : t.isFail = false := by
    rw [Bool.eq_false_iff]; intro hf; rw [isFail_eq hf] at ht; cases ht
   have : (Tr.ite true t e).fold Rs = t.fold Rs := by
    simp only [fold, choose, hf]; cases e.isFail <;> rfl
   rw [this]
   exact nrm_of_fine (t := t) ht
 | .opt o n s, h => by
  cases o with
  | none => exact nrm_of_fine (t := n) h
  | some x => exact nrm_of_fine (t := s x) h
def fold1 (R : Ty) : Tr (AV × Heap) → R.den
 | .ret r => match toHL [R] r.1 with | some x => x.1 | none => dfl R
 | .fail => dfl R
 | .ite b t e => choose b t.isFail e.isFail (t.fold1 R) (e.fold1 R)
 | .opt o n s => match o with | none => n.fold1 R | some x => (s x).fold1 R
theorem fold_one {R : Ty} : ∀ {t : Tr (AV × Heap)}, t.fold [R] = (t.fold1 R, ())
 | .ret r => by
  simp only [fold, fold1]
  cases toHL [R] r.1 with
  | none => rfl
  | some x => rfl
 | .fail => rfl
 | .ite b t e => by
  have h1 := fold_one (t := e) (R := R)
  have h2 := fold_one (t := t) (R := R)
  simp only [fold, fold1, choose, h1, h2]
  cases e.isFail <;> cases t.isFail <;> cases b <;> rfl
 | .opt o n s => by
  cases o with
  | none => exact fold_one (t := n)
  | some x => exact fold_one (t := s x)
end Tr
def stillL (Rs : List Ty) : Bool := Rs.all fun R => R.still true
theorem ofHL_still {Rs : List Ty} (h : stillL Rs = true) (x : HL Rs) : (ofHL Rs x).still true = true := by
 have ht : ∀ {Rs : List Ty} (x : HL Rs), (Rs.all fun R => R.still true) = true → ((tvs Rs x).all fun t => t.T.still true) = true := by
  intro Rs
  induction Rs with
  | nil => intro x _; rfl
  | cons R Rs ih =>
   intro x h
   simp only [List.all_cons, Bool.and_eq_true] at h
   simp only [tvs, List.all_cons, Bool.and_eq_true]
   exact ⟨h.1, ih _ h.2⟩
 unfold ofHL
 split
 ·simp only [stillL, List.all_cons, Bool.and_eq_true] at h
  exact h.1
 ·exact ht _ h
def CSpec.fn (As Rs : List Ty) (f : HL As → HL Rs) : CSpec := CSpec.plain As (fun _ => true) fun xs => ofHL Rs (f xs)
def noLoops : Code → Bool
 | .seq a b => noLoops a && noLoops b
 | .cond _ a b => noLoops a && noLoops b
 | .block _ c => noLoops c
 | .loop _ => false
 | _ => true
def noLoopsF (fn : Func) : Bool := match fn.body with | some c => noLoops c | none => false
theorem loopsOK_of {P : Program} {L : Loops} : ∀ {c : Code}, noLoops c = true → LoopsOK P L c := by
 intro c
 induction c with
 | seq a b iha ihb => intro h; simp only [noLoops, Bool.and_eq_true] at h; exact ⟨iha h.1, ihb h.2⟩
 | cond o a b iha ihb => intro h; simp only [noLoops, Bool.and_eq_true] at h; exact ⟨iha h.1, ihb h.2⟩
 | block i a iha => intro h; exact iha h
 | loop a _ => intro h; cases h
 | _ => intro _; trivial
theorem noLoopsF_some {P : Program} {L : Loops} {fn : Func} (h : noLoopsF fn = true) : ∃ c, fn.body = some c ∧ LoopsOK P L c := by
 unfold noLoopsF at h
 split at h
 ·exact ⟨_, by assumption, loopsOK_of h⟩
 ·cases h
def L0 : Loops := fun _ _ => .fail
end Vse
end
section
set_option linter.unusedVariables false
namespace Vse
open Go
abbrev Ks := List (Nat × Bool)
def look : Ks → Nat → Option Bool
 | [], _ => none
 | (d, b) :: l, t => if t = d then some b else look l t
def Ks.less : Ks → Nat → Ks
 | [], _ => []
 | (d, b) :: l, t => if d = t then Ks.less l t else (d, b) :: Ks.less l t
def litOf (ks : Ks) : Operand → Option Bool
 | .tmp t => look ks t
 | .const (.bool b) => some b
 | _ => none
def lit (ks : Ks) : Op → Option Bool
 | .move x | .assign x => litOf ks x
 | _ => none
def inR : List AV → Nat → Bool
 | [], _ => false
 | _ :: _, 0 => true
 | _ :: l, n + 1 => inR l n
def Ks.put (ks : Ks) (env : List AV) (dst : Option Nat) (l : Option Bool) : Ks :=
 match dst with
 | none => ks
 | some d => match l with
  | some b => if inR env d then (d, b) :: ks.less d else ks.less d
  | none => ks.less d
def opK (P : Program) (C : Ctx) (ro : Fl) (ks : Ks) (o : Oper) (fr : Nat) (st : St) : Tr (St × Ks) :=
 match o.op with
 | .pick (.tmp c) a b => match look ks c with
  | some true => .ret (⟨putV st.env o.dst (ev st.env a), st.heap⟩, ks.put st.env o.dst (litOf ks a))
  | some false => .ret (⟨putV st.env o.dst (ev st.env b), st.heap⟩, ks.put st.env o.dst (litOf ks b))
  | none => (opT P C ro o fr st).bind fun s => .ret (s, ks.put st.env o.dst none)
 | _ => (opT P C ro o fr st).bind fun s => .ret (s, ks.put st.env o.dst (lit ks o.op))
def stepK (P : Program) (C : Ctx) (ro : Fl) (ops : List Oper) (o : Oper) (fr : Nat) (ks : Ks) (st : St) : Tr (St × Ks) :=
 match o.guard with
 | none => opK P C ro ks o fr st
 | some (j, want) =>
  match dstOf ops j with
  | some d => match look ks d with
   | some b => match b, want with
    | true, true => opK P C ro ks o fr st
    | false, false => opK P C ro ks o fr st
    | _, _ => .ret (⟨putV st.env o.dst AV.none, st.heap⟩, ks.put st.env o.dst none)
   | none => match getV st.env d with
    | .v .bool b => .ite b
      (match want with
       | true => opK P C ro ((d, true) :: ks.less d) o fr ⟨setV st.env d (.v .bool true), st.heap⟩
       | false => .ret (⟨putV (setV st.env d (.v .bool true)) o.dst AV.none, st.heap⟩, Ks.put ((d, true) :: ks.less d) st.env o.dst none))
      (match want with
       | false => opK P C ro ((d, false) :: ks.less d) o fr ⟨setV st.env d (.v .bool false), st.heap⟩
       | true => .ret (⟨putV (setV st.env d (.v .bool false)) o.dst AV.none, st.heap⟩, Ks.put ((d, false) :: ks.less d) st.env o.dst none))
    | .tup _ => .ret (⟨putV st.env o.dst AV.none, st.heap⟩, ks.put st.env o.dst none)
    | _ => .fail
  | none => .fail
def opsK (P : Program) (C : Ctx) (ops : List Oper) : List (Nat × Oper) → Ks → St → Tr (St × Ks)
 | [], ks, st => .ret (st, ks)
 | o :: os, ks, st => (stepK P C (false, fzOf ops o.2) ops o.2 o.1 ks st).bind fun r => opsK P C ops os r.2 r.1
def opsFK (P : Program) (C : Ctx) (ops : List Oper) : List (Nat × Oper) → Ks → St → List FP → Tr ((St × List FP) × Ks)
 | [], ks, st, fs => .ret ((st, fs), ks)
 | o :: os, ks, st, fs => (stepK P C (true, fzOf ops o.2) ops o.2 o.1 ks st).bind fun r => opsFK P C ops os r.2 r.1 (fs ++ [fpOf C (fzOf ops o.2) o.2 o.1 st])
def runK (P : Program) (C : Ctx) (L : Loops) : Code → Ks → St → Tr ((Ex × St) × Ks)
 | .skip, ks, st => .ret ((.normal, st), ks)
 | .label _, ks, st => .ret ((.normal, st), ks)
 | .region _ ops draw, ks, st =>
  match draw with
  | false => (opsK P C ops.toList (bases C ops.toList st.heap.length) ks (widen st (newAll C ops.toList))).bind fun s => .ret ((.normal, s.1), s.2)
  | true => (opsFK P C ops.toList (bases C ops.toList st.heap.length) ks (widen st (newAll C ops.toList)) []).bind fun s => if P.follows .mixedOrders && drawOk ops.toList s.1.2 then .ret ((.normal, s.1.1), s.2) else .fail
 | .seq a b, ks, st => (runK P C L a ks st).bind fun r => match r with
  | ((.normal, s), k) => runK P C L b k s
  | r => .ret r
 | .cond c a b, ks, st => match litOf ks c with
  | some true => runK P C L a ks st
  | some false => runK P C L b ks st
  | none => match ev st.env c with
   | .v .bool t => .ite t (runK P C L a ks st) (runK P C L b ks st)
   | _ => .fail
 | .block id c, ks, st => (runK P C L c ks st).bind fun r => match r with
  | ((.exit i, s), k) => if i = id then .ret ((.normal, s), k) else .ret ((.exit i, s), k)
  | r => .ret r
 | .loop c, ks, st => match firstReg c with
  | some i => (L i st).bind fun r => .ret (r, [])
  | none => .fail
 | .exit id, ks, st => .ret ((.exit id, st), ks)
 | .ret, ks, st => .ret ((.ret, st), ks)
 | _, _, _ => .fail
def fnK (P : Program) (C : Ctx) (L : Loops) (fn : Func) (args : List AV) (H : Heap) : Tr (AV × Heap) :=
 match fn.body with
 | some c => (runK P C L c [] (begin_ fn args H)).bind fun r => match r with
  | ((.exit _, _), _) => .fail
  | ((_, s), _) => match resT P fn s with
   | some v => .ret (v, s.heap)
   | none => .fail
 | none => .fail
def KOK (ks : Ks) (env : List AV) : Prop := ∀ t b, look ks t = some b → getV env t = .v .bool b
theorem look_less : ∀ (ks : Ks) (d t : Nat), look (ks.less d) t = if t = d then none else look ks t
 | [], d, t => by simp [Ks.less, look]
 | (e, b) :: l, d, t => by
  simp only [Ks.less]
  by_cases h : e = d
  ·subst h
   simp only [if_true, look_less l, look]
   by_cases h2 : t = e <;> simp [h2]
  ·simp only [if_neg h, look, look_less l]
   by_cases h2 : t = e
   ·subst h2; simp [h]
   ·simp [h2]
theorem inR_lt : ∀ {env : List AV} {d : Nat}, inR env d = true → d < env.length
 | [], d, h => by simp [inR] at h
 | _ :: _, 0, _ => by simp
 | _ :: l, d + 1, h => by have := inR_lt (env := l) (d := d) h; simp; omega
theorem lt_of_getV : ∀ {env : List AV} {d : Nat} {T : Ty} {x : T.den}, getV env d = .v T x → d < env.length
 | [], d, T, x, h => by cases h
 | _ :: _, 0, _, _, _ => by simp
 | _ :: l, d + 1, _, _, h => by have := lt_of_getV (env := l) (d := d) h; simp; omega
theorem KOK.put {ks : Ks} {env : List AV} (h : KOK ks env) (dst : Option Nat) {l : Option Bool} {v : AV} (hv : ∀ b, l = some b → v = .v .bool b) : KOK (ks.put env dst l) (putV env dst v) := by
 cases dst with
 | none => exact h
 | some d =>
  have hless : KOK (ks.less d) (setV env d v) := by
   intro t b ht
   rw [look_less] at ht
   split at ht
   ·cases ht
   ·rename_i hne
    rw [getV_setV, if_neg (fun hh => hne hh.1)]
    exact h t b ht
  cases l with
  | none => exact hless
  | some b =>
   simp only [Ks.put]
   split
   ·rename_i hr
    intro t b' ht
    simp only [look] at ht
    split at ht
    ·rename_i hte
     simp only [Option.some.injEq] at ht
     subst ht; subst hte
     simp only [putV]
     rw [getV_setV, if_pos ⟨rfl, inR_lt hr⟩]
     exact hv _ rfl
    ·exact hless t b' ht
   ·exact hless
theorem KOK.putN {ks : Ks} {env : List AV} (h : KOK ks env) (dst : Option Nat) (v : AV) : KOK (ks.put env dst none) (putV env dst v) := h.put dst (fun b hb => by cases hb)
theorem litOf_ev {ks : Ks} {env : List AV} (h : KOK ks env) {x : Operand} {b : Bool} (hl : litOf ks x = some b) : ev env x = .v .bool b := by
 unfold litOf at hl
 split at hl
 ·exact h _ _ hl
 ·simp only [Option.some.injEq] at hl; subst hl; rfl
 ·cases hl
section
variable {ro : Fl} {P : Program} {C : Ctx} {L : Loops}
theorem opT_pick {o : Oper} {fr : Nat} {st : St} {c a b : Operand} {t : Bool} (ho : o.op = .pick c a b) (hc : ev st.env c = .v .bool t) :
  (opT P C ro o fr st).eval = some ⟨putV st.env o.dst (ev st.env (if t then a else b)), st.heap⟩ := by
 unfold opT outT
 simp only [ho, isCall, Bool.false_eq_true, if_false, newOf, freeAt, if_true, opArgs, evs, core, hc, c_pick]
 cases t <;> rfl
theorem opT_lit {ks : Ks} {o : Oper} {fr : Nat} {st st' : St} (h : KOK ks st.env) (he : (opT P C ro o fr st).eval = some st') : ∃ v, st'.env = putV st.env o.dst v ∧ ∀ b, lit ks o.op = some b → v = .v .bool b := by
 unfold opT at he
 obtain ⟨r, h1, h2⟩ := Tr.bind_some he
 have := Tr.ret_some h2
 refine ⟨r.1, by rw [← this], fun b hb => ?_⟩
 unfold lit at hb
 split at hb
 ·rename_i x hop
  unfold outT at h1
  simp only [hop, isCall, Bool.false_eq_true, if_false, newOf, freeAt, if_true, opArgs, evs, core, c_move] at h1
  have := Tr.ret_some h1
  rw [← this]
  exact litOf_ev h hb
 ·rename_i x hop
  unfold outT at h1
  simp only [hop, isCall, Bool.false_eq_true, if_false, newOf, freeAt, if_true, opArgs, evs, core, c_move] at h1
  have := Tr.ret_some h1
  rw [← this]
  exact litOf_ev h hb
 ·cases hb
theorem opK_ok {ks : Ks} {o : Oper} {fr : Nat} {st : St} {r : St × Ks} (h : KOK ks st.env) (he : (opK P C ro ks o fr st).eval = some r) : (opT P C ro o fr st).eval = some r.1 ∧ KOK r.2 r.1.env := by
 unfold opK at he
 split at he
 ·rename_i c a b hop
  split at he
  ·rename_i hl
   have := Tr.ret_some he
   subst this
   refine ⟨?_, h.put _ fun b hb => litOf_ev h hb⟩
   rw [opT_pick hop (show ev st.env (.tmp c) = .v .bool true from h _ _ hl)]
   rfl
  ·rename_i hl
   have := Tr.ret_some he
   subst this
   refine ⟨?_, h.put _ fun b hb => litOf_ev h hb⟩
   rw [opT_pick hop (show ev st.env (.tmp c) = .v .bool false from h _ _ hl)]
   rfl
  ·obtain ⟨s, h1, h2⟩ := Tr.bind_some he
   have := Tr.ret_some h2
   subst this
   obtain ⟨v, e1, e2⟩ := opT_lit h h1
   exact ⟨h1, by show KOK (ks.put st.env o.dst none) s.env; rw [e1]; exact h.putN _ _⟩
 ·obtain ⟨s, h1, h2⟩ := Tr.bind_some he
  have := Tr.ret_some h2
  subst this
  obtain ⟨v, e1, e2⟩ := opT_lit h h1
  exact ⟨h1, by rw [e1]; exact h.put _ e2⟩
theorem setV_same : ∀ (env : List AV) (d : Nat) (v : AV), getV env d = v → d < env.length → setV env d v = env
 | [], d, v, _, h => by simp at h
 | a :: l, 0, v, h, _ => by simp only [getV] at h; subst h; rfl
 | a :: l, d + 1, v, h, hl => by simp only [setV]; rw [setV_same l d v h (by simpa using hl)]
theorem KOK.set {ks : Ks} {env : List AV} (h : KOK ks env) {d : Nat} (hd : d < env.length) (b : Bool) : KOK ((d, b) :: ks.less d) (setV env d (.v .bool b)) := by
 intro t b' ht
 simp only [look] at ht
 split at ht
 ·rename_i hte
  simp only [Option.some.injEq] at ht
  subst ht; subst hte
  rw [getV_setV, if_pos ⟨rfl, hd⟩]
 ·rename_i hne
  rw [look_less, if_neg hne] at ht
  rw [getV_setV, if_neg (fun hh => hne hh.1)]
  exact h t b' ht
theorem put_none (ks : Ks) (env env' : List AV) (dst : Option Nat) : Ks.put ks env dst none = Ks.put ks env' dst none := by cases dst <;> rfl
theorem stepK_ok {ops : List Oper} {ks : Ks} {o : Oper} {fr : Nat} {st : St} {r : St × Ks} (h : KOK ks st.env) (he : (stepK P C ro ops o fr ks st).eval = some r) :
  (stepT P C ro ops o fr st).eval = some r.1 ∧ KOK r.2 r.1.env := by
 unfold stepK at he
 unfold stepT
 cases hg : o.guard with
 | none =>
  rw [hg] at he
  exact opK_ok h he
 | some jw =>
  obtain ⟨j, want⟩ := jw
  rw [hg] at he
  simp only at he ⊢
  split at he
  ·rename_i d hd
   simp only [hd]
   split at he
   ·rename_i b hb
    have hv := h _ _ hb
    have hlt := lt_of_getV hv
    simp only [hv]
    have hskip : ∀ {r : St × Ks}, (Tr.ret (⟨putV st.env o.dst AV.none, st.heap⟩, ks.put st.env o.dst none) : Tr (St × Ks)).eval = some r → some (⟨putV st.env o.dst AV.none, st.heap⟩ : St) = some r.1 ∧ KOK r.2 r.1.env := by
     intro r he
     have := Tr.ret_some he
     subst this
     exact ⟨rfl, h.putN _ _⟩
    cases b <;> cases want
    ·rw [setV_same _ _ _ hv hlt]; exact opK_ok h he
    ·rw [setV_same _ _ _ hv hlt]; exact hskip he
    ·rw [setV_same _ _ _ hv hlt]; exact hskip he
    ·rw [setV_same _ _ _ hv hlt]; exact opK_ok h he
   ·split at he
    ·rename_i b hv
     have hlt := lt_of_getV hv
     simp only [hv]
     rcases Tr.ite_some he with ⟨rfl, he⟩ | ⟨rfl, he⟩
     ·cases want with
      | true => exact opK_ok (h.set hlt true) he
      | false =>
       have := Tr.ret_some he
       subst this
       refine ⟨rfl, ?_⟩
       simp only
       rw [put_none _ st.env (setV st.env d (.v .bool true))]
       exact (h.set hlt true).putN _ _
     ·cases want with
      | false => exact opK_ok (h.set hlt false) he
      | true =>
       have := Tr.ret_some he
       subst this
       refine ⟨rfl, ?_⟩
       simp only
       rw [put_none _ st.env (setV st.env d (.v .bool false))]
       exact (h.set hlt false).putN _ _
    ·rename_i l hv
     have := Tr.ret_some he
     subst this
     simp only [hv]
     exact ⟨rfl, h.putN _ _⟩
    ·exact (Tr.fail_some he).elim
  ·exact (Tr.fail_some he).elim
theorem eval_bind_of {α β : Type} {t : Tr α} {f : α → Tr β} {a : α} {b : β} (h : t.eval = some a) (h' : (f a).eval = some b) : (t.bind f).eval = some b := by
 rw [Tr.eval_bind, h]; exact h'
theorem opsK_ok {ops : List Oper} : ∀ {os : List (Nat × Oper)} {ks : Ks} {st : St} {r : St × Ks}, KOK ks st.env → (opsK P C ops os ks st).eval = some r → (opsT P C ops os st).eval = some r.1 ∧ KOK r.2 r.1.env
 | [], ks, st, r, h, he => by
  have := Tr.ret_some he
  subst this
  exact ⟨rfl, h⟩
 | o :: os, ks, st, r, h, he => by
  obtain ⟨s, h1, h2⟩ := Tr.bind_some he
  obtain ⟨e1, e2⟩ := stepK_ok h h1
  obtain ⟨e3, e4⟩ := opsK_ok e2 h2
  exact ⟨eval_bind_of e1 e3, e4⟩
theorem opsFK_ok {ops : List Oper} : ∀ {os : List (Nat × Oper)} {ks : Ks} {st : St} {fs : List FP} {r : (St × List FP) × Ks}, KOK ks st.env → (opsFK P C ops os ks st fs).eval = some r → (opsF P C ops os st fs).eval = some r.1 ∧ KOK r.2 r.1.1.env
 | [], ks, st, fs, r, h, he => by
  have := Tr.ret_some he
  subst this
  exact ⟨rfl, h⟩
 | o :: os, ks, st, fs, r, h, he => by
  obtain ⟨s, h1, h2⟩ := Tr.bind_some he
  obtain ⟨e1, e2⟩ := stepK_ok h h1
  obtain ⟨e3, e4⟩ := opsFK_ok e2 h2
  exact ⟨eval_bind_of e1 e3, e4⟩
theorem KOK.nil (env : List AV) : KOK [] env := fun t b h => by cases h
theorem widen_env (st : St) (n : Nat) : (widen st n).env = st.env := by cases n <;> rfl
theorem runK_ok : ∀ (c : Code) {ks : Ks} {st : St} {r : (Ex × St) × Ks}, KOK ks st.env → (runK P C L c ks st).eval = some r → (run P C L c st).eval = some r.1 ∧ KOK r.2 r.1.2.env := by
 intro c
 induction c with
 | skip | label | exit | ret => intro ks st r h he; have := Tr.ret_some he; subst this; exact ⟨rfl, h⟩
 | region id ops draw =>
  intro ks st r h he
  have hw : KOK ks (widen st (newAll C ops.toList)).env := by rw [widen_env]; exact h
  cases draw with
  | false =>
   simp only [runK] at he
   simp only [run]
   obtain ⟨s, h1, h2⟩ := Tr.bind_some he
   have := Tr.ret_some h2
   subst this
   obtain ⟨e1, e2⟩ := opsK_ok hw h1
   exact ⟨eval_bind_of e1 rfl, e2⟩
  | true =>
   simp only [runK] at he
   simp only [run]
   obtain ⟨s, h1, h2⟩ := Tr.bind_some he
   obtain ⟨e1, e2⟩ := opsFK_ok hw h1
   split at h2
   ·rename_i hc
    have := Tr.ret_some h2
    subst this
    exact ⟨eval_bind_of e1 (by rw [if_pos hc]; rfl), e2⟩
   ·exact (Tr.fail_some h2).elim
 | seq p q ihp ihq =>
  intro ks st r h he
  simp only [runK] at he
  simp only [run]
  obtain ⟨s, h1, h2⟩ := Tr.bind_some he
  obtain ⟨⟨x, s⟩, k⟩ := s
  obtain ⟨e1, e2⟩ := ihp h h1
  cases x with
  | normal =>
   obtain ⟨e3, e4⟩ := ihq e2 h2
   exact ⟨eval_bind_of e1 e3, e4⟩
  | exit i => have := Tr.ret_some h2; subst this; exact ⟨eval_bind_of e1 rfl, e2⟩
  | ret => have := Tr.ret_some h2; subst this; exact ⟨eval_bind_of e1 rfl, e2⟩
 | cond o p q ihp ihq =>
  intro ks st r h he
  simp only [runK] at he
  simp only [run]
  split at he
  ·rename_i hl
   rw [litOf_ev h hl]
   exact ihp h he
  ·rename_i hl
   rw [litOf_ev h hl]
   exact ihq h he
  ·split at he
   ·rename_i t ht
    rcases Tr.ite_some he with ⟨rfl, he⟩ | ⟨rfl, he⟩
    ·rw [ht]; exact ihp h he
    ·rw [ht]; exact ihq h he
   ·exact (Tr.fail_some he).elim
 | block id p ihp =>
  intro ks st r h he
  simp only [runK] at he
  simp only [run]
  obtain ⟨s, h1, h2⟩ := Tr.bind_some he
  obtain ⟨⟨x, s⟩, k⟩ := s
  obtain ⟨e1, e2⟩ := ihp h h1
  cases x with
  | normal => have := Tr.ret_some h2; subst this; exact ⟨eval_bind_of e1 rfl, e2⟩
  | exit i =>
   simp only at h2
   split at h2
   ·rename_i hi
    have := Tr.ret_some h2; subst this
    exact ⟨eval_bind_of e1 (by simp only [if_pos hi]; rfl), e2⟩
   ·rename_i hi
    have := Tr.ret_some h2; subst this
    exact ⟨eval_bind_of e1 (by simp only [if_neg hi]; rfl), e2⟩
  | ret => have := Tr.ret_some h2; subst this; exact ⟨eval_bind_of e1 rfl, e2⟩
 | loop p _ =>
  intro ks st r h he
  simp only [runK] at he
  simp only [run]
  split at he
  ·rename_i i hi
   obtain ⟨s, h1, h2⟩ := Tr.bind_some he
   have := Tr.ret_some h2; subst this
   exact ⟨by rw [hi]; exact h1, KOK.nil _⟩
  ·exact (Tr.fail_some he).elim
 | _ => intro ks st r h he; exact (Tr.fail_some he).elim
theorem fnK_ok {fn : Func} {args : List AV} {H : Heap} {r : AV × Heap} (he : (fnK P C L fn args H).eval = some r) : (fnT P C L fn args H).eval = some r := by
 unfold fnK at he
 unfold fnT
 split at he
 ·rename_i c hc
  rw [hc]
  obtain ⟨⟨⟨x, s⟩, k⟩, h1, h2⟩ := Tr.bind_some he
  obtain ⟨e1, e2⟩ := runK_ok c (KOK.nil _) h1
  refine eval_bind_of e1 ?_
  cases x with
  | exit i => exact (Tr.fail_some h2).elim
  | normal => exact h2
  | ret => exact h2
 ·exact (Tr.fail_some he).elim
theorem nrmK {fn : Func} {args : List AV} {H : Heap} {v : AV} (h : nrm (fnK P C L fn args H) = some v) : nrm (fnT P C L fn args H) = some v := by
 obtain ⟨H', h1⟩ := nrm_some h
 unfold nrm
 rw [Tr.eval_bind, fnK_ok h1]
 rfl
end
end Vse
end
section
set_option linter.unusedVariables false
namespace Vse
open Go Go.ChangeShapes
theorem fn_ok {P : Program} {C : Ctx} {L : Loops} (hC : CtxSound P C ∧ CtxLocal C) {k : Nat} {fn : Func} {c : Code} (hf : P.funcs[k]? = some fn) (hname : (fn.name == "runtime.NumGoroutine") = false) (hb : fn.body = some c) (hl : LoopsOK P L c)
  {As Rs : List Ty} {f : HL As → HL Rs} (hA : (As.all fun A => A.still false) = true) (hR : stillL Rs = true)
  (h1 : ∀ xs, HL.ok As xs → (fnK P C L fn (mkArgs As xs) []).fine Rs = true) (h2 : ∀ xs, HL.ok As xs → (fnK P C L fn (mkArgs As xs) []).fold Rs = f xs) : CSound P k (CSpec.fn As Rs f) ∧ CLocal (CSpec.fn As Rs f) :=
 ⟨plain_sound hC.1 hC.2 hf hname hb hl hA (fun xs => ofHL_still hR _) (fun xs hx _ => by rw [nrmK (Tr.nrm_of_fine (h1 xs hx)), h2 xs hx]), pure_local _⟩
theorem fn_ok0 {P : Program} {C : Ctx} (hC : CtxSound P C ∧ CtxLocal C) {k : Nat} {fn : Func} (hf : P.funcs[k]? = some fn) {As Rs : List Ty} {f : HL As → HL Rs}
  (hside : ((fn.name == "runtime.NumGoroutine") == false && noLoopsF fn && (As.all fun A => A.still false) && stillL Rs) = true)
  (h1 : ∀ xs, HL.ok As xs → (fnK P C L0 fn (mkArgs As xs) []).fine Rs = true) (h2 : ∀ xs, HL.ok As xs → (fnK P C L0 fn (mkArgs As xs) []).fold Rs = f xs) : CSound P k (CSpec.fn As Rs f) ∧ CLocal (CSpec.fn As Rs f) := by
 simp only [Bool.and_eq_true, beq_iff_eq] at hside
 obtain ⟨⟨⟨a, b⟩, c⟩, d⟩ := hside
 obtain ⟨body, hb, hl⟩ := noLoopsF_some (P := P) (L := L0) b
 exact fn_ok hC hf a hb hl c d h1 h2
def CSpec.fn1 (As : List Ty) (R : Ty) (f : HL As → R.den) : CSpec := CSpec.fn As [R] fun xs => (f xs, ())
theorem fn_ok1 {P : Program} {C : Ctx} (hC : CtxSound P C ∧ CtxLocal C) {k : Nat} {fn : Func} (hf : P.funcs[k]? = some fn) {As : List Ty} {R : Ty} {f : HL As → R.den}
  (hside : ((fn.name == "runtime.NumGoroutine") == false && noLoopsF fn && (As.all fun A => A.still false) && stillL [R]) = true)
  (h1 : ∀ xs, HL.ok As xs → (fnK P C L0 fn (mkArgs As xs) []).fine [R] = true) (h2 : ∀ xs, HL.ok As xs → (fnK P C L0 fn (mkArgs As xs) []).fold1 R = f xs) : CSound P k (CSpec.fn1 As R f) ∧ CLocal (CSpec.fn1 As R f) :=
 fn_ok0 hC hf hside h1 fun xs hx => by rw [Tr.fold_one, h2 xs hx]
end Vse
end
section
set_option linter.unusedVariables false
namespace Vse
open Go
def Ty.under (n : Nat) : Ty → Bool
 | .prod a b => a.under n && b.under n
 | .arr _ a => a.under n
 | .imm _ _ a => a.under n
 | .tg _ a => a.under n
 | .ip _ a => a.under n
 | .fn _ c => c.under n
 | .vc e _ | .sv e _ | .vp e _ _ | .sub e _ | .ptr e _ | .mp e | .it e | .ch e => decide (e < n)
 | _ => true
structure G.upto (n : Nat) (g g' : G) : Prop where
 fr : g'.fr = g.fr
 gr : g'.gr = g.gr
 ext : g'.ext = g.ext
 bl : ∀ e, e < n → g'.bl e = g.bl e
 sz : ∀ e, e < n → g'.sz e = g.sz e
 sh : ∀ e, e < n → g'.sh e = g.sh e
theorem below_Rep {n : Nat} {g g' : G} (h : g.upto n g') : ∀ (T : Ty) (x : T.den) (cs : List Value), T.under n = true → (Rep g T x cs → Rep g' T x cs) ∧ (Rep.RepC g T x cs → Rep.RepC g' T x cs) := by
 intro T
 induction T with
 | bool | int | str | und | nils | nilp | nilm | nilf | nili | it => intro x cs _; exact ⟨fun hr => hr, fun hr => by simp [Rep.RepC] at hr⟩
 | mp e | ch e =>
  intro x cs hs
  simp only [Ty.under, decide_eq_true_eq] at hs
  exact ⟨fun hr => by simpa only [Rep, G.mpr, h.sh e hs, h.bl e hs] using hr, fun hr => by simp [Rep.RepC] at hr⟩
 | unit => intro x cs _; exact ⟨fun hr => hr, fun hr => hr⟩
 | prod a b iha ihb =>
  intro x cs hs
  simp only [Ty.under, Bool.and_eq_true] at hs
  constructor
  ·rintro ⟨c1, c2, rfl, h1, h2⟩
   exact ⟨c1, c2, rfl, (iha _ _ hs.1).1 h1, (ihb _ _ hs.2).1 h2⟩
  ·rintro ⟨v, r, rfl, h1, h2⟩
   refine ⟨v, r, rfl, ?_, (ihb _ _ hs.2).2 h2⟩
   split at h1
   ·obtain ⟨cs, hv, hr⟩ := h1; rw [if_pos (by assumption)]; exact ⟨cs, hv, (iha _ _ hs.1).1 hr⟩
   ·rw [if_neg (by assumption)]; exact (iha _ _ hs.1).1 h1
 | arr k a iha =>
  intro x cs hs
  exact ⟨fun hr => ⟨hr.1, repL_mono (fun y _ cs => (iha y cs hs).1) hr.2⟩, fun hr => by simp [Rep.RepC] at hr⟩
 | imm q f a iha =>
  intro x cs hs
  refine ⟨?_, fun hr => by simp [Rep.RepC] at hr⟩
  rintro ⟨pv, cap, h1, h2, h3, h4⟩
  refine ⟨pv, cap, h1, h2, h3, fun hne => ?_⟩
  obtain ⟨ad, vs, a1, a2, a3⟩ := h4 hne
  refine ⟨ad, vs, a1, repL_mono (fun y _ cs => (iha y cs hs).1) a2, ?_⟩
  rw [h.fr, h.gr]; exact a3
 | tg q a iha =>
  intro x cs hs
  refine ⟨?_, fun hr => by simp [Rep.RepC] at hr⟩
  rintro ⟨pv, h1, h2, h4⟩
  refine ⟨pv, h1, h2, fun hne => ?_⟩
  obtain ⟨ad, vs, a1, a2, a3⟩ := h4 hne
  refine ⟨ad, vs, a1, repL_mono (fun y _ cs => (iha y cs hs).1) a2, ?_⟩
  rw [h.fr, h.gr]; exact a3
 | ip q a iha =>
  intro x cs hs
  refine ⟨?_, fun hr => by simp [Rep.RepC] at hr⟩
  rintro ⟨ad, vs, h1, h2, h3⟩
  refine ⟨ad, vs, h1, (iha _ _ hs).1 h2, ?_⟩
  rw [h.fr, h.gr]; exact h3
 | vc e gn =>
  intro x cs hs
  simp only [Ty.under, decide_eq_true_eq] at hs
  exact ⟨fun hr => by simpa only [Rep, G.vcr, h.sh e hs, h.bl e hs, h.sz e hs] using hr, fun hr => by simp [Rep.RepC] at hr⟩
 | sv e gn =>
  intro x cs hs
  simp only [Ty.under, decide_eq_true_eq] at hs
  exact ⟨fun hr => by simpa only [Rep, G.vcr, h.sh e hs, h.bl e hs, h.sz e hs] using hr, fun hr => by simp [Rep.RepC] at hr⟩
 | vp e gn p =>
  intro x cs hs
  simp only [Ty.under, decide_eq_true_eq] at hs
  exact ⟨fun hr => by simpa only [Rep, G.vcr, h.sh e hs, h.bl e hs, h.sz e hs] using hr, fun hr => by simp [Rep.RepC] at hr⟩
 | sub e p =>
  intro x cs hs
  simp only [Ty.under, decide_eq_true_eq] at hs
  exact ⟨fun hr => by simpa only [Rep, G.bxr, h.sh e hs, h.bl e hs, h.sz e hs] using hr, fun hr => by simp [Rep.RepC] at hr⟩
 | ptr e p =>
  intro x cs hs
  simp only [Ty.under, decide_eq_true_eq] at hs
  exact ⟨fun hr => by simpa only [Rep, G.bxr, h.sh e hs, h.bl e hs, h.sz e hs] using hr, fun hr => by simp [Rep.RepC] at hr⟩
 | fn f c ihc =>
  intro x cs hs
  refine ⟨?_, fun hr => by simp [Rep.RepC] at hr⟩
  rintro ⟨vs, h1, h2⟩
  exact ⟨vs, h1, (ihc _ _ hs).2 h2⟩
theorem below_TRep {n : Nat} {g g' : G} (h : g.upto n g') {T : Ty} {x : T.den} {v : Value} (hs : T.under n = true) (hr : TRep g T x v) : TRep g' T x v := by
 unfold TRep at hr ⊢
 split
 ·rw [if_pos (by assumption)] at hr; obtain ⟨cs, h1, h2⟩ := hr; exact ⟨cs, h1, (below_Rep h _ _ _ hs).1 h2⟩
 ·rw [if_neg (by assumption)] at hr; exact (below_Rep h _ _ _ hs).1 hr
theorem below_tup {n : Nat} {g g' : G} (h : g.upto n g') : ∀ {l : List TV} {vs : List Value}, (l.all fun t => t.T.under n) = true → tupRep g l vs → tupRep g' l vs
 | [], _, _, hr => hr
 | t :: ts, _, hs, ⟨v, r, h1, h2, h3⟩ => by
  simp only [List.all_cons, Bool.and_eq_true] at hs
  exact ⟨v, r, h1, below_TRep h hs.1 h2, below_tup h hs.2 h3⟩
def AV.under (n : Nat) : AV → Bool
 | .v T _ => T.under n
 | .tup l => l.all fun t => t.T.under n
theorem below_VRep {n : Nat} {g g' : G} (h : g.upto n g') {a : AV} {v : Value} (hs : a.under n = true) (hr : VRep g a v) : VRep g' a v := by
 cases a with
 | v T x =>
  cases T <;> first | trivial | exact below_TRep h hs hr
 | tup l => obtain ⟨vs, h1, h2⟩ := hr; exact ⟨vs, h1, below_tup h hs h2⟩
def Entry.under (n : Nat) : Entry → Bool
 | .box T _ => T.under n
 | .vec _ a _ => a.under n
 | .map K V _ => K.under n && V.under n
 | _ => true
def keep (live : List Nat) : Nat → List AV → List AV
 | _, [] => []
 | i, a :: l => (if live.contains i then a else AV.und) :: keep live (i + 1) l
theorem keep_length (live : List Nat) : ∀ (env : List AV) (i : Nat), (keep live i env).length = env.length
 | [], _ => rfl
 | a :: l, i => by simp [keep, keep_length live l]
theorem keep_get (live : List Nat) : ∀ (env : List AV) (i j : Nat), getV (keep live i env) j = getV env j ∨ getV (keep live i env) j = AV.und
 | [], _, _ => .inl rfl
 | a :: l, i, 0 => by
  simp only [keep, getV]
  split
  ·exact .inl rfl
  ·exact .inr rfl
 | a :: l, i, j + 1 => by simpa only [keep, getV] using keep_get live l (i + 1) j
theorem keep_rep {g : G} {env : List AV} {a : Act} (h : EnvRep g env a) (live : List Nat) : EnvRep g (keep live 0 env) a := by
 refine ⟨by rw [keep_length]; exact h.1, fun i => ?_⟩
 rcases keep_get live env 0 i with e | e
 ·rw [e]; exact h.2 i
 ·rw [e]; trivial
def cutSt (live : List Nat) (n : Nat) (st : St) : St := ⟨keep live 0 st.env, st.heap.take n⟩
def cutOk (n : Nat) (st : St) : Bool := (st.env.all fun a => a.under n) && (st.heap.all fun e => e.under n)
theorem getE_take : ∀ (H : Heap) (n e : Nat), getE (H.take n) e = if e < n then getE H e else .free
 | [], n, e => by simp [getE]
 | x :: H, 0, e => by simp [getE]
 | x :: H, n + 1, 0 => by simp [getE]
 | x :: H, n + 1, e + 1 => by simp [getE, getE_take H n e]
theorem getV_all {p : AV → Bool} (hp : p AV.none = true) : ∀ {env : List AV}, env.all p = true → ∀ i, p (getV env i) = true
 | [], _, _ => hp
 | a :: l, h, 0 => by simp only [List.all_cons, Bool.and_eq_true] at h; exact h.1
 | a :: l, h, i + 1 => by simp only [List.all_cons, Bool.and_eq_true] at h; exact getV_all hp h.2 i
theorem getE_all {p : Entry → Bool} (hp : p .free = true) : ∀ {H : Heap}, H.all p = true → ∀ i, p (getE H i) = true
 | [], _, _ => hp
 | a :: l, h, 0 => by simp only [List.all_cons, Bool.and_eq_true] at h; exact h.1
 | a :: l, h, i + 1 => by simp only [List.all_cons, Bool.and_eq_true] at h; exact getE_all hp h.2 i
theorem cut_rep {g g2 : G} {n : Nat} {st : St} {a : Act} {w : World} (live : List Nat) (hfree : ∀ e, n ≤ e → g.sh e = .free) (hle : g.le g2) (h : SRep g2 st a w) (hc : cutOk n (cutSt live n st) = true) :
  ∃ g3, g.le g3 ∧ SRep g3 (cutSt live n st) a w := by
 let g3 : G := { g2 with sh := fun e => if e < n then g2.sh e else .free, bl := fun e => if e < n then g2.bl e else none }
 have hu : g2.upto n g3 := ⟨rfl, rfl, rfl, fun e he => by simp [g3, he], fun e he => rfl, fun e he => by simp [g3, he]⟩
 simp only [cutOk, Bool.and_eq_true] at hc
 have hl : g.le g3 := by
  refine ⟨hle.fr, hle.gr, hle.ext, fun e => ?_⟩
  by_cases he : e < n
  ·have h3 : g3.sh e = g2.sh e := by simp [g3, he]
   have h4 : g3.bl e = g2.bl e := by simp [g3, he]
   cases hle.ent e with
   | same a b c => exact .same (h3.trans a) (h4.trans b) c
   | dead a => exact .dead (h3.trans a)
   | grew a b c => exact .grew a (h3.trans b) c
   | new a => exact .new a
  ·exact .new (hfree e (by omega))
 refine ⟨g3, hl, ⟨?_, ?_, h.defers⟩⟩
 ·have hk := keep_rep h.env live
  refine ⟨hk.1, fun i => ?_⟩
  exact below_VRep hu (getV_all (p := fun a => a.under n) rfl hc.1 i) (hk.2 i)
 ·have hI := h.heap
  refine ⟨?_, hI.fr, hI.gr, ?_, ?_, hI.sep, ?_, hI.ext⟩
  ·intro e
   simp only [cutSt, getE_take]
   by_cases he : e < n
   ·simp only [g3, if_pos he]; exact hI.sh e
   ·simp only [g3, if_neg he]; rfl
  ·intro e
   have hb := getE_all (p := fun x => x.under n) rfl hc.2 e
   simp only [cutSt, getE_take] at hb ⊢
   by_cases he : e < n
   ·simp only [if_pos he] at hb ⊢
    have hent := hI.ent e
    cases hE : getE st.heap e with
    | free => trivial
    | dead => trivial
    | box T x =>
     rw [hE] at hent hb
     obtain ⟨b, cs, t, fz, q1, q2, q3, q4⟩ := hent
     exact ⟨b, cs, t, fz, (hu.bl e he).trans q1, q2, q3, (below_Rep hu _ _ _ hb).1 q4⟩
    | map K V l =>
     rw [hE] at hent hb
     simp only [Entry.under, Bool.and_eq_true] at hb
     obtain ⟨b, es, clock, q1, q2, q3⟩ := hent
     exact ⟨b, es, clock, (hu.bl e he).trans q1, q2, mapRep_mono (fun _ _ => below_TRep hu hb.1) (fun _ _ => below_TRep hu hb.2) q3⟩
    | itr s p =>
     rw [hE] at hent
     obtain ⟨q0, b, q1, q2⟩ := hent
     exact ⟨q0, b, (hu.bl e he).trans q1, q2⟩
    | vec k a l =>
     rw [hE] at hent hb
     rcases hent with ⟨q1, q2⟩ | ⟨b, cs, t, fz, vs, r, q1, q2, q3, q4, q5, q6, q7⟩
     ·exact .inl ⟨(hu.bl e he).trans q1, q2⟩
     ·exact .inr ⟨b, cs, t, fz, vs, r, (hu.bl e he).trans q1, q2, q3, (hu.sz e he).trans q4, q5, repL_mono (fun y _ cs => (below_Rep hu a y cs hb).1) q6, q7⟩
   ·simp only [if_neg he]; trivial
  ·intro e b h1 h2
   simp only [cutSt, getE_take] at h1
   by_cases he : e < n
   ·rw [if_pos he] at h1
    exact hI.own e b h1 ((hu.bl e he).symm.trans h2)
   ·rw [if_neg he] at h1; cases h1
  ·intro e e' b h1 h1' h2 h2'
   simp only [cutSt, getE_take] at h1 h1'
   by_cases he : e < n
   ·by_cases he' : e' < n
    ·rw [if_pos he] at h1
     rw [if_pos he'] at h1'
     exact hI.dis e e' b h1 h1' ((hu.bl e he).symm.trans h2) ((hu.bl e' he').symm.trans h2')
    ·rw [if_neg he'] at h1'; cases h1'
   ·rw [if_neg he] at h1; cases h1
section
variable {P : Program} {C : Ctx} {L : Loops}
theorem free_past {g : G} {st : St} {a : Act} {w : World} (h : SRep g st a w) {n : Nat} (hn : st.heap.length ≤ n) : ∀ e, n ≤ e → g.sh e = .free := by
 intro e he
 rw [h.heap.sh, getE_past _ (by omega)]; rfl
end
end Vse
end
section
set_option linter.unusedVariables false
namespace Vse
open Go
inductive ETy
 | free | dead
 | box (T : Ty)
 | vec (g : Nat) (a : Ty)
 | map (K V : Ty)
 deriving DecidableEq
@[reducible] def HD : List ETy → Type
 | [] => Unit
 | .free :: l => HD l
 | .dead :: l => HD l
 | .box T :: l => T.den × HD l
 | .vec _ a :: l => List a.den × HD l
 | .map K V :: l => List (K.den × V.den) × HD l
def castM {K V : Ty} (l : List (K.den × V.den)) (K' V' : Ty) : Option (List (K'.den × V'.den)) := if h : K = K' ∧ V = V' then some (h.1 ▸ h.2 ▸ l) else none
theorem castM_some {K V K' V' : Ty} {l : List (K.den × V.den)} {m : List (K'.den × V'.den)} (h : castM l K' V' = some m) : (⟨K, V, l⟩ : (K : Ty) × (V : Ty) × List (K.den × V.den)) = ⟨K', V', m⟩ := by
 unfold castM at h
 split at h
 ·rename_i e
  obtain ⟨rfl, rfl⟩ := e
  cases h
  rfl
 ·cases h
def encH : (Es : List ETy) → HD Es → Heap
 | [], _ => []
 | .free :: l, x => .free :: encH l x
 | .dead :: l, x => .dead :: encH l x
 | .box T :: l, x => .box T x.1 :: encH l x.2
 | .vec g a :: l, x => .vec g a x.1 :: encH l x.2
 | .map K V :: l, x => .map K V x.1 :: encH l x.2
def decH : (Es : List ETy) → Heap → Option (HD Es)
 | [], [] => some ()
 | .free :: l, .free :: h => decH l h
 | .dead :: l, .dead :: h => decH l h
 | .box T :: l, .box U x :: h => if e : U = T then match decH l h with | some r => some (e ▸ x, r) | none => none else none
 | .vec g a :: l, .vec k b x :: h => if e : b = a then if g = k then match decH l h with | some r => some (e ▸ x, r) | none => none else none else none
 | .map K V :: l, .map _ _ x :: h => match castM x K V with | some y => (match decH l h with | some r => some (y, r) | none => none) | none => none
 | _, _ => none
theorem decH_some : ∀ {Es : List ETy} {H : Heap} {x : HD Es}, decH Es H = some x → H = encH Es x := by
 intro Es
 induction Es with
 | nil =>
  intro H x h
  cases H with
  | nil => rfl
  | cons => simp [decH] at h
 | cons E l ih =>
  intro H x h
  cases E with
  | free =>
   cases H with
   | nil => simp [decH] at h
   | cons e H =>
    cases e <;> simp only [decH] at h <;> first | (cases h; done) | (simp only [encH]; rw [ih h])
  | dead =>
   cases H with
   | nil => simp [decH] at h
   | cons e H =>
    cases e <;> simp only [decH] at h <;> first | (cases h; done) | (simp only [encH]; rw [ih h])
  | box T =>
   cases H with
   | nil => simp [decH] at h
   | cons e H =>
    cases e with
    | box U y =>
     simp only [decH] at h
     split at h
     ·rename_i e
      subst e
      split at h
      ·rename_i r hr
       simp only [Option.some.injEq] at h
       subst h
       simp only [encH]
       rw [ih hr]
      ·cases h
     ·cases h
    | _ => simp [decH] at h
  | vec g a =>
   cases H with
   | nil => simp [decH] at h
   | cons e H =>
    cases e with
    | vec k b y =>
     simp only [decH] at h
     split at h
     ·rename_i e
      subst e
      split at h
      ·rename_i hg
       subst hg
       split at h
       ·rename_i r hr
        simp only [Option.some.injEq] at h
        subst h
        simp only [encH]
        rw [ih hr]
       ·cases h
      ·cases h
     ·cases h
    | _ => simp [decH] at h
  | map K V =>
   cases H with
   | nil => simp [decH] at h
   | cons e H =>
    cases e with
    | map K' V' y =>
     simp only [decH] at h
     split at h
     ·rename_i z hz
      split at h
      ·rename_i r hr
       simp only [Option.some.injEq] at h
       subst h
       have := castM_some hz
       simp only [Sigma.mk.injEq] at this
       obtain ⟨rfl, this⟩ := this
       have := eq_of_heq this
       simp only [Sigma.mk.injEq] at this
       obtain ⟨rfl, this⟩ := this
       have := eq_of_heq this
       subst this
       simp only [encH]
       rw [ih hr]
      ·cases h
     ·cases h
    | _ => simp [decH] at h
def encE : (live : List Nat) → (Ts : List Ty) → HL Ts → (i n : Nat) → List AV
 | _, _, _, _, 0 => []
 | k :: live, T :: Ts, xs, i, n + 1 => if i = k then .v T xs.1 :: encE live Ts xs.2 (i + 1) n else AV.und :: encE (k :: live) (T :: Ts) xs (i + 1) n
 | live, Ts, xs, i, n + 1 => AV.und :: encE live Ts xs (i + 1) n
def decE : (live : List Nat) → (Ts : List Ty) → (i : Nat) → List AV → Option (HL Ts)
 | [], [], _, [] => some ()
 | k :: live, T :: Ts, i, a :: l => if i = k then match a with
   | .v U x => if e : U = T then match decE live Ts (i + 1) l with | some r => some (e ▸ x, r) | none => none else none
   | _ => none
  else decE (k :: live) (T :: Ts) (i + 1) l
 | [], [], i, _ :: l => decE [] [] (i + 1) l
 | _, _, _, _ => none
def keepE : List Nat → Nat → List AV → List AV
 | _, _, [] => []
 | k :: live, i, a :: l => if i = k then a :: keepE live (i + 1) l else AV.und :: keepE (k :: live) (i + 1) l
 | [], i, _ :: l => AV.und :: keepE [] (i + 1) l
theorem keepE_length : ∀ (live : List Nat) (i : Nat) (env : List AV), (keepE live i env).length = env.length := by
 intro live i env
 induction env generalizing live i with
 | nil => cases live <;> rfl
 | cons a l ih =>
  cases live with
  | nil => simp [keepE, ih]
  | cons k live => simp only [keepE]; split <;> simp [ih]
theorem keepE_get : ∀ (live : List Nat) (i : Nat) (env : List AV) (j : Nat), getV (keepE live i env) j = getV env j ∨ getV (keepE live i env) j = AV.und := by
 intro live i env
 induction env generalizing live i with
 | nil => intro j; cases live <;> exact .inl rfl
 | cons a l ih =>
  intro j
  cases live with
  | nil =>
   cases j with
   | zero => exact .inr rfl
   | succ j => exact ih [] (i + 1) j
  | cons k live =>
   simp only [keepE]
   split
   ·cases j with
    | zero => exact .inl rfl
    | succ j => exact ih _ (i + 1) j
   ·cases j with
    | zero => exact .inr rfl
    | succ j => exact ih _ (i + 1) j
theorem keepE_rep {g : G} {env : List AV} {a : Act} (h : EnvRep g env a) (live : List Nat) : EnvRep g (keepE live 0 env) a := by
 refine ⟨by rw [keepE_length]; exact h.1, fun i => ?_⟩
 rcases keepE_get live 0 env i with e | e
 ·rw [e]; exact h.2 i
 ·rw [e]; trivial
theorem decE_some : ∀ {live : List Nat} {Ts : List Ty} {i : Nat} {env : List AV} {xs : HL Ts}, decE live Ts i env = some xs → keepE live i env = encE live Ts xs i env.length := by
 intro live Ts i env
 induction env generalizing live Ts i with
 | nil =>
  intro xs h
  cases live <;> cases Ts <;> first | rfl | (simp [decE] at h)
 | cons a l ih =>
  intro xs h
  cases live with
  | nil =>
   cases Ts with
   | nil =>
    simp only [decE] at h
    simp only [keepE, List.length_cons, encE]
    rw [ih h]
   | cons T Ts => simp [decE] at h
  | cons k live =>
   cases Ts with
   | nil => simp [decE] at h
   | cons T Ts =>
    simp only [decE] at h
    simp only [keepE, List.length_cons, encE]
    split at h
    ·rename_i hi
     rw [if_pos hi, if_pos hi]
     split at h
     ·rename_i U x
      split at h
      ·rename_i e
       subst e
       split at h
       ·rename_i r hr
        simp only [Option.some.injEq] at h
        subst h
        rw [ih hr]
       ·cases h
      ·cases h
     ·cases h
    ·rename_i hi
     rw [if_neg hi, if_neg hi, ih h]
def encS (live : List Nat) (Ts : List Ty) (Es : List ETy) (nt : Nat) (xs : HL Ts) (hs : HD Es) : St := ⟨encE live Ts xs 0 nt, encH Es hs⟩
def keepS (live : List Nat) (st : St) : St := ⟨keepE live 0 st.env, st.heap⟩
theorem keepS_rep {g : G} {st : St} {a : Act} {w : World} (h : SRep g st a w) (live : List Nat) : SRep g (keepS live st) a w := ⟨keepE_rep h.env live, h.heap, h.defers⟩
def decS (live : List Nat) (Ts : List Ty) (Es : List ETy) (nt : Nat) (st : St) : Option (HL Ts × HD Es) :=
 if st.env.length = nt then match decE live Ts 0 st.env, decH Es st.heap with
  | some xs, some hs => some (xs, hs)
  | _, _ => none
 else none
theorem decS_some {live : List Nat} {Ts : List Ty} {Es : List ETy} {nt : Nat} {st : St} {d : HL Ts × HD Es} (h : decS live Ts Es nt st = some d) : keepS live st = encS live Ts Es nt d.1 d.2 := by
 unfold decS at h
 split at h
 ·rename_i hn
  split at h
  ·rename_i xs hs h1 h2
   simp only [Option.some.injEq] at h
   subst h
   simp only [keepS, encS, decE_some h1, hn, decH_some h2]
  ·cases h
 ·cases h
def trim (n : Nat) (st : St) : St := ⟨st.env, st.heap.take n⟩
structure LSpec where
 live : List Nat
 out : List Nat
 nt : Nat
 Ts : List Ty
 Es : List ETy
def LSpec.enc (S : LSpec) (xs : HL S.Ts) (hs : HD S.Es) : St := encS S.live S.Ts S.Es S.nt xs hs
def okAt (n : Nat) (Ts : List Ty) (Es : List ETy) : Bool :=
 (Ts.all fun T => T.under n) && (Es.all fun E => match E with | .box T => T.under n | .vec _ a => a.under n | .map K V => K.under n && V.under n | _ => true)
abbrev LSpec.End (S : LSpec) := (HL S.Ts × HD S.Es) ⊕ (Ex × St)
def LSpec.round (S : LSpec) (body : St → Tr (Ex × St)) (xs : HL S.Ts) (hs : HD S.Es) : Tr S.End :=
 (body (S.enc xs hs)).bind fun r => match r.1 with
  | .normal => match decS S.live S.Ts S.Es S.nt (trim S.Es.length r.2) with
   | some d => .ret (.inl d)
   | none => .fail
  | x => .ret (.inr (x, keepS S.out r.2))
def LSpec.many (S : LSpec) (body : St → Tr (Ex × St)) : Nat → HL S.Ts → HD S.Es → Option (Ex × St)
 | 0, _, _ => none
 | n + 1, xs, hs => match (S.round body xs hs).eval with
  | some (.inl d) => S.many body n d.1 d.2
  | some (.inr r) => some r
  | none => none
def LSpec.fn (S : LSpec) (F : HL S.Ts → HD S.Es → Tr (Ex × St)) (st : St) : Tr (Ex × St) :=
 match decS S.live S.Ts S.Es S.nt st with
 | some d => F d.1 d.2
 | none => .fail
def bodyK (P : Program) (C : Ctx) (L : Loops) (c : Code) (st : St) : Tr (Ex × St) := (runK P C L c [] st).bind fun r => .ret r.1
section
variable {P : Program} {C : Ctx} {L : Loops}
theorem bodyK_ok {c : Code} {st : St} {r : Ex × St} (h : (bodyK P C L c st).eval = some r) : (run P C L c st).eval = some r := by
 obtain ⟨s, h1, h2⟩ := Tr.bind_some h
 have := Tr.ret_some h2
 subst this
 exact (runK_ok c (KOK.nil _) h1).1
theorem encE_all (n : Nat) : ∀ (live : List Nat) (Ts : List Ty) (xs : HL Ts) (i m : Nat), (Ts.all fun T => T.under n) = true → ((encE live Ts xs i m).all fun a => a.under n) = true := by
 intro live Ts xs i m
 induction m generalizing live Ts i with
 | zero => intro _; cases live <;> cases Ts <;> rfl
 | succ m ih =>
  intro h
  cases live with
  | nil => simp only [encE, List.all_cons, ih _ _ _ _ h, Bool.and_true]; rfl
  | cons k live =>
   cases Ts with
   | nil => simp only [encE, List.all_cons, ih _ _ _ _ h, Bool.and_true]; rfl
   | cons T Ts =>
    simp only [encE]
    split
    ·simp only [List.all_cons, Bool.and_eq_true] at h ⊢
     exact ⟨h.1, ih _ _ _ _ h.2⟩
    ·simp only [List.all_cons, ih _ _ _ _ h, Bool.and_true]; rfl
theorem encH_all (n : Nat) : ∀ (Es : List ETy) (hs : HD Es), (Es.all fun E => match E with | .box T => T.under n | .vec _ a => a.under n | .map K V => K.under n && V.under n | _ => true) = true → ((encH Es hs).all fun e => e.under n) = true := by
 intro Es
 induction Es with
 | nil => intro _ _; rfl
 | cons E l ih =>
  intro hs h
  simp only [List.all_cons, Bool.and_eq_true] at h
  cases E with
  | free => simp only [encH, List.all_cons, Bool.and_eq_true]; exact ⟨rfl, ih _ h.2⟩
  | dead => simp only [encH, List.all_cons, Bool.and_eq_true]; exact ⟨rfl, ih _ h.2⟩
  | box T => simp only [encH, List.all_cons, Bool.and_eq_true]; exact ⟨h.1, ih _ h.2⟩
  | vec g a => simp only [encH, List.all_cons, Bool.and_eq_true]; exact ⟨h.1, ih _ h.2⟩
  | map K V =>
   simp only [encH, List.all_cons, Bool.and_eq_true]
   simp only [Bool.and_eq_true] at h
   exact ⟨by simp only [Entry.under, Bool.and_eq_true]; exact h.1, ih _ h.2⟩
theorem encH_length : ∀ (Es : List ETy) (hs : HD Es), (encH Es hs).length = Es.length := by
 intro Es
 induction Es with
 | nil => intro _; rfl
 | cons E l ih => intro hs; cases E <;> simp [encH, ih]
theorem cut_repE {g g2 : G} {n : Nat} {st : St} {a : Act} {w : World} (live : List Nat) (hfree : ∀ e, n ≤ e → g.sh e = .free) (hle : g.le g2) (h : SRep g2 st a w) (hc : cutOk n (keepS live (trim n st)) = true) :
  ∃ g3, g.le g3 ∧ SRep g3 (keepS live (trim n st)) a w := by
 have hall : ∀ env : List AV, keep (List.range env.length) 0 env = env := by
  have gen : ∀ (env : List AV) (i m : Nat), i + env.length ≤ m → keep (List.range m) i env = env := by
   intro env
   induction env with
   | nil => intro i m _; rfl
   | cons a l ih =>
    intro i m h
    simp only [List.length_cons] at h
    simp only [keep]
    rw [ih (i + 1) m (by omega), if_pos (by simp; omega)]
  intro env
  exact gen env 0 _ (by simp)
 have h' : SRep g2 (keepS live st) a w := keepS_rep h live
 have e1 : cutSt (List.range (keepS live st).env.length) n (keepS live st) = keepS live (trim n st) := by
  unfold cutSt
  rw [hall]
  rfl
 have := cut_rep (List.range (keepS live st).env.length) hfree hle h' (by rw [e1]; exact hc)
 rw [e1] at this
 exact this
theorem many_sound {rd : Option Nat} (hC : CtxSound P C) (hLc : CtxLocal C) {c : Code} (hl : LoopsOK P L c) (S : LSpec) (hok : okAt S.Es.length S.Ts S.Es = true) {n : Nat} {g : G} {xs : HL S.Ts} {hs : HD S.Es} {st' : St} {a : Act} {w : World} {x : Ex}
  {Q : Exit → Act → World → Prop} (hr : SRep g (S.enc xs hs) a w) (he : S.many (bodyK P C L c) n xs hs = some (x, st')) (hn : ∀ g' a' w', g.le g' → SRep g' st' a' w' → Q x.out a' w') : (Code.loop c).wpIn (FW rd) 0 P Q a w := by
 have hfree : ∀ e, S.Es.length ≤ e → g.sh e = .free := free_past hr (by simp [LSpec.enc, encS, encH_length])
 simp only [okAt, Bool.and_eq_true] at hok
 refine wpIn_loop_ghost (fun m a w => ∃ g1 xs hs, g.le g1 ∧ SRep g1 (S.enc xs hs) a w ∧ S.many (bodyK P C L c) m xs hs = some (x, st')) n ⟨g, xs, hs, G.le.refl g, hr, he⟩ ?_
 rintro m a w ⟨g1, xs, hs, hle, hs1, he1⟩
 cases m with
 | zero => cases he1
 | succ m =>
  simp only [LSpec.many] at he1
  have key : ∀ r, (S.round (bodyK P C L c) xs hs).eval = some r → ∃ y s2, (bodyK P C L c (S.enc xs hs)).eval = some (y, s2) ∧ (match y with
    | .normal => match decS S.live S.Ts S.Es S.nt (trim S.Es.length s2) with
     | some d => (Tr.ret (.inl d) : Tr S.End)
     | none => .fail
    | x => .ret (.inr (x, keepS S.out s2))).eval = some r := by
   intro r hr
   obtain ⟨⟨y, s2⟩, h1, h2⟩ := Tr.bind_some hr
   exact ⟨y, s2, h1, h2⟩
  split at he1
  ·rename_i d hd
   obtain ⟨y, s2, h1, h2⟩ := key _ hd
   refine code_sound hC hLc c hl hs1 (bodyK_ok h1) ?_
   intro g2 a' w' hle2 hs2
   cases y with
   | normal =>
    simp only at h2
    split at h2
    ·rename_i d' hd'
     have := Tr.ret_some h2
     simp only [Sum.inl.injEq] at this
     subst this
     have e1 := decS_some hd'
     have hc : cutOk S.Es.length (keepS S.live (trim S.Es.length s2)) = true := by
      rw [e1]
      simp only [cutOk, encS, Bool.and_eq_true]
      exact ⟨encE_all _ _ _ _ _ _ hok.1, encH_all _ _ _ hok.2⟩
     obtain ⟨g3, q1, q2⟩ := cut_repE S.live hfree (hle.trans hle2) hs2 hc
     rw [e1] at q2
     exact ⟨m, Nat.lt_succ_self m, g3, _, _, q1, q2, he1⟩
    ·exact (Tr.fail_some h2).elim
   | exit i => have := Tr.ret_some h2; cases this
   | ret => have := Tr.ret_some h2; cases this
  ·rename_i r hd
   simp only [Option.some.injEq] at he1
   subst he1
   obtain ⟨y, s2, h1, h2⟩ := key _ hd
   refine code_sound hC hLc c hl hs1 (bodyK_ok h1) ?_
   intro g2 a' w' hle2 hs2
   cases y with
   | normal =>
    simp only at h2
    split at h2
    ·have := Tr.ret_some h2; cases this
    ·exact (Tr.fail_some h2).elim
   | exit i =>
    have := Tr.ret_some h2
    simp only [Sum.inr.injEq, Prod.mk.injEq] at this
    obtain ⟨rfl, rfl⟩ := this
    exact hn _ _ _ (hle.trans hle2) (keepS_rep hs2 S.out)
   | ret =>
    have := Tr.ret_some h2
    simp only [Sum.inr.injEq, Prod.mk.injEq] at this
    obtain ⟨rfl, rfl⟩ := this
    exact hn _ _ _ (hle.trans hle2) (keepS_rep hs2 S.out)
  ·cases he1
theorem loop_ok {L' : Loops} (hC : CtxSound P C ∧ CtxLocal C) {c : Code} (hl : LoopsOK P L' c) (S : LSpec) (hok : okAt S.Es.length S.Ts S.Es = true) {F : HL S.Ts → HD S.Es → Tr (Ex × St)} {i : Nat}
  (hi : firstReg c = some i) (hL : ∀ st, L i st = S.fn F st) (key : ∀ xs hs r, (F xs hs).eval = some r → ∃ n, S.many (bodyK P C L' c) n xs hs = some r) : LoopOK P L c := by
 intro j hj rd g st a w x st' Q hs he hn
 rw [hi] at hj
 cases hj
 rw [hL] at he
 unfold LSpec.fn at he
 split at he
 ·rename_i d hd
  obtain ⟨n, hm⟩ := key _ _ _ he
  have hr := keepS_rep hs S.live
  rw [decS_some hd] at hr
  exact many_sound hC.1 hC.2 hl S hok hr hm hn
 ·exact (Tr.fail_some he).elim
end
end Vse
end
end
section
section
set_option linter.unusedVariables false
namespace Vse
open Go Go.ChangeShapes
theorem many_inl {S : LSpec} {body : St → Tr (Ex × St)} {xs : HL S.Ts} {hs : HD S.Es} {d : HL S.Ts × HD S.Es} (h : (S.round body xs hs).eval = some (.inl d)) (n : Nat) : S.many body (n + 1) xs hs = S.many body n d.1 d.2 := by
 simp only [LSpec.many, h]
theorem many_inr {S : LSpec} {body : St → Tr (Ex × St)} {xs : HL S.Ts} {hs : HD S.Es} {r : Ex × St} (h : (S.round body xs hs).eval = some (.inr r)) (n : Nat) : S.many body (n + 1) xs hs = some r := by
 simp only [LSpec.many, h]
def loopsOf : Code → List Code
 | .seq a b => loopsOf a ++ loopsOf b
 | .cond _ a b => loopsOf a ++ loopsOf b
 | .block _ c => loopsOf c
 | .loop c => [c]
 | _ => []
theorem loopsOK_all {P : Program} {L : Loops} : ∀ {c : Code}, (∀ b ∈ loopsOf c, LoopOK P L b) → LoopsOK P L c := by
 intro c
 induction c with
 | seq a b iha ihb => intro h; exact ⟨iha fun x hx => h x (by simp [loopsOf, hx]), ihb fun x hx => h x (by simp [loopsOf, hx])⟩
 | cond o a b iha ihb => intro h; exact ⟨iha fun x hx => h x (by simp [loopsOf, hx]), ihb fun x hx => h x (by simp [loopsOf, hx])⟩
 | block i a iha => intro h; exact iha h
 | loop a _ => intro h; exact h a (by simp [loopsOf])
 | _ => intro _; trivial
def bodyOf (fn : Func) : Code := match fn.body with | some c => c | none => .skip
def loopAt (fn : Func) (i : Nat) : Code := ((loopsOf (bodyOf fn))[i]?).getD .skip
end Vse
end
section
set_option linter.unusedVariables false
namespace Vse
open Go
def cutA (n : Nat) (st : St) : St := ⟨st.env.map fun a => if a.under n then a else AV.und, st.heap.take n⟩
def heapUnder (n : Nat) (H : Heap) : Bool := H.all fun e => e.under n
theorem getV_cut (n : Nat) : ∀ (env : List AV) (i : Nat), getV (env.map fun a => if a.under n then a else AV.und) i = getV env i ∨ getV (env.map fun a => if a.under n then a else AV.und) i = AV.und
 | [], _ => .inl rfl
 | a :: l, 0 => by
  simp only [List.map_cons, getV]
  split
  ·exact .inl rfl
  ·exact .inr rfl
 | a :: l, i + 1 => by simpa only [List.map_cons, getV] using getV_cut n l i
theorem cutA_env {g : G} {env : List AV} {a : Act} (h : EnvRep g env a) (n : Nat) : EnvRep g (env.map fun a => if a.under n then a else AV.und) a := by
 refine ⟨by rw [List.length_map]; exact h.1, fun i => ?_⟩
 rcases getV_cut n env i with e | e
 ·rw [e]; exact h.2 i
 ·rw [e]; trivial
theorem cutA_all (n : Nat) (env : List AV) : ((env.map fun a => if a.under n then a else AV.und).all fun a => a.under n) = true := by
 rw [List.all_map, List.all_eq_true]
 intro a _
 show (if a.under n = true then a else AV.und).under n = true
 split
 ·assumption
 ·rfl
theorem keep_all : ∀ (env : List AV) (i : Nat) (live : List Nat), (∀ j, j < env.length → live.contains (i + j) = true) → keep live i env = env
 | [], _, _, _ => rfl
 | a :: l, i, live, h => by
  have h0 := h 0 (by simp)
  simp only [Nat.add_zero] at h0
  simp only [keep, h0, if_true]
  rw [keep_all l (i + 1) live fun j hj => by
   have := h (j + 1) (by simpa using hj)
   rwa [show i + 1 + j = i + (j + 1) by omega]]
theorem cutA_rep {g g2 : G} {n : Nat} {st : St} {a : Act} {w : World} (hfree : ∀ e, n ≤ e → g.sh e = .free) (hle : g.le g2) (h : SRep g2 st a w) (hc : heapUnder n (st.heap.take n) = true) :
  ∃ g3, g.le g3 ∧ SRep g3 (cutA n st) a w := by
 let st1 : St := ⟨st.env.map fun a => if a.under n then a else AV.und, st.heap⟩
 have h1 : SRep g2 st1 a w := ⟨cutA_env h.env n, h.heap, h.defers⟩
 have hk : keep (List.range st1.env.length) 0 st1.env = st1.env := keep_all _ _ _ fun j hj => by simpa using hj
 have e : cutSt (List.range st1.env.length) n st1 = cutA n st := by
  unfold cutSt
  rw [hk]
  rfl
 obtain ⟨g3, q1, q2⟩ := cut_rep (List.range st1.env.length) hfree hle h1 (by
  rw [e]
  simp only [cutOk, Bool.and_eq_true]
  exact ⟨cutA_all n _, hc⟩)
 rw [e] at q2
 exact ⟨g3, q1, q2⟩
section
variable {P : Program} {C : Ctx} {L : Loops}
end
end Vse
end
section
set_option linter.unusedVariables false
namespace Vse
open Go Go.ChangeShapes
section
variable {P : Program} {C : Ctx} {L : Loops} {g : G} {H : Heap} {w : World}
def seal1 (R : Ty) (t : TV) (H : Heap) : TV × Heap :=
 match R with
 | .imm true false a => match t with
  | ⟨.nils, _⟩ => (⟨.imm true false a, []⟩, H)
  | ⟨.vc e g, x⟩ => match getE H e with
   | .vec g' a' l => if g = g' then (⟨.imm true false a', l⟩, setE H e .dead) else (⟨.vc e g, x⟩, H)
   | _ => (⟨.vc e g, x⟩, H)
  | ⟨.imm true _ a', l⟩ => (⟨.imm true false a', l⟩, H)
  | t => (t, H)
 | _ => (t, H)
def sealL : List Ty → List TV → Heap → List TV × Heap
 | R :: Rs, t :: ts, H => ((seal1 R t H).1 :: (sealL Rs ts (seal1 R t H).2).1, (sealL Rs ts (seal1 R t H).2).2)
 | _, ts, H => (ts, H)
def sealR (Rs : List Ty) (r : AV × Heap) : AV × Heap :=
 match Rs, r.1 with
 | [R], .v T x => (.v (seal1 R ⟨T, x⟩ r.2).1.T (seal1 R ⟨T, x⟩ r.2).1.x, (seal1 R ⟨T, x⟩ r.2).2)
 | Rs, .tup l => (.tup (sealL Rs l r.2).1, (sealL Rs l r.2).2)
 | _, v => (v, r.2)
theorem seal1_rep' (hI : HInv g H w) (R : Ty) (t : TV) {v : Value} {r : TV × Heap} (hr : seal1 R t H = r) (hv : VRep g (.v t.T t.x) v) :
  ∃ g', g.le g' ∧ HInv g' r.2 w ∧ VRep g' (.v r.1.T r.1.x) v ∧ (t.T ≠ .und → r.1.T ≠ .und) := by
 have same : (t, H) = r → ∃ g', g.le g' ∧ HInv g' r.2 w ∧ VRep g' (.v r.1.T r.1.x) v ∧ (t.T ≠ .und → r.1.T ≠ .und) := by
  rintro rfl
  exact ⟨g, G.le.refl g, hI, hv, fun h => h⟩
 unfold seal1 at hr
 split at hr
 ·split at hr
  ·subst hr
   refine ⟨g, G.le.refl g, hI, (VRep_v (by simp)).2 ?_, by simp⟩
   have hv := (VRep_v (by simp)).1 hv
   simp only [TRep, Ty.agg, Ty.sk, Sk.agg, Bool.false_eq_true, if_false, Rep] at hv ⊢
   exact ⟨none, 0, hv, by simp, by simp, by simp⟩
  ·rename_i e k x
   split at hr
   ·rename_i k' a' l hE
    split at hr
    ·rename_i hk
     subst hk
     subst hr
     obtain ⟨g', h1, h2, h3⟩ := hI.freeze hE
     exact ⟨g', h1, h2, h3 v hv, by simp⟩
    ·exact same hr
   ·exact same hr
  ·subst hr
   refine ⟨g, G.le.refl g, hI, (VRep_v (by simp)).2 ?_, by simp⟩
   have hv := (VRep_v (by simp)).1 hv
   simp only [TRep, Ty.agg, Ty.sk, Sk.agg, Bool.false_eq_true, if_false, Rep] at hv ⊢
   obtain ⟨pv, cap, h1, h2, _, h4⟩ := hv
   exact ⟨pv, cap, h1, h2, by simp, h4⟩
  ·exact same hr
 ·exact same hr
theorem seal1_rep (hI : HInv g H w) (R : Ty) (t : TV) {v : Value} (hv : VRep g (.v t.T t.x) v) :
  ∃ g', g.le g' ∧ HInv g' (seal1 R t H).2 w ∧ VRep g' (.v (seal1 R t H).1.T (seal1 R t H).1.x) v := by
 obtain ⟨g', h1, h2, h3, _⟩ := seal1_rep' hI R t rfl hv
 exact ⟨g', h1, h2, h3⟩
theorem seal1_T (hI : HInv g H w) (R : Ty) (t : TV) {v : Value} (hv : TRep g t.T t.x v) :
  ∃ g', g.le g' ∧ HInv g' (seal1 R t H).2 w ∧ TRep g' (seal1 R t H).1.T (seal1 R t H).1.x v := by
 have hne := TRep_ne hv
 obtain ⟨g', h1, h2, h3, h4⟩ := seal1_rep' hI R t rfl ((VRep_v hne).2 hv)
 exact ⟨g', h1, h2, (VRep_v (h4 hne)).1 h3⟩
theorem sealL_rep : ∀ (Rs : List Ty) (l : List TV) {g : G} {H : Heap} {vs : List Value}, HInv g H w → tupRep g l vs → ∃ g', g.le g' ∧ HInv g' (sealL Rs l H).2 w ∧ tupRep g' (sealL Rs l H).1 vs
 | [], l, g, H, vs, hI, h => by cases l <;> exact ⟨g, G.le.refl g, hI, h⟩
 | R :: Rs, [], g, H, vs, hI, h => ⟨g, G.le.refl g, hI, h⟩
 | R :: Rs, t :: ts, g, H, vs, hI, ⟨v, r, h1, h2, h3⟩ => by
  obtain ⟨g1, q1, q2, q3⟩ := seal1_T hI R t h2
  obtain ⟨g2, w1, w2, w3⟩ := sealL_rep Rs ts q2 (tupRep_mono q1 h3)
  exact ⟨g2, q1.trans w1, w2, v, r, h1, TRep_mono w1 q3, w3⟩
theorem sealR_rep (Rs : List Ty) {r : AV × Heap} (hI : HInv g r.2 w) {v : Value} (hv : VRep g r.1 v) : ∃ g', g.le g' ∧ HInv g' (sealR Rs r).2 w ∧ VRep g' (sealR Rs r).1 v := by
 obtain ⟨a, H⟩ := r
 unfold sealR
 split
 ·rename_i R T x heq
  simp only at heq hI hv
  subst heq
  exact seal1_rep hI R ⟨T, x⟩ hv
 ·rename_i heq
  simp only at heq hI hv
  subst heq
  obtain ⟨vs, rfl, h⟩ := hv
  obtain ⟨g', h1, h2, h3⟩ := sealL_rep _ _ hI h
  exact ⟨g', h1, h2, vs, rfl, h3⟩
 ·exact ⟨g, G.le.refl g, hI, hv⟩
def fnS (P : Program) (C : Ctx) (L : Loops) (Rs : List Ty) (fn : Func) (args : List AV) : Tr (AV × Heap) := (fnK P C L fn args []).bind fun r => .ret (sealR Rs r)
def takeA (A : Ty) (v : AV) (es : List Entry) : Option A.den :=
 match A with
 | .imm false false a => match isNils v with
  | true => some []
  | false => match seen v es with
   | some y => castL y a
   | none => none
 | A => match v with
  | .v T x => castT ⟨T, x⟩ A
  | .tup _ => none
def takeAs : (As : List Ty) → List AV → Heap → Option (HL As)
 | [], [], _ => some ()
 | A :: As, v :: vs, H => match takeA A v (ents H (vcOf v)) with
  | some x => match takeAs As vs H with
   | some r => some (x, r)
   | none => none
  | none => none
 | _, _, _ => none
def keepOk (p : Bool) : AV → Bool
 | .v (.imm q _ _) _ => q || !p
 | .v (.tg q _) _ => q || !p
 | _ => true
theorem seen_view (hI : HInv g H w) {a : AV} {v : Value} {T : Ty} {l : List T.den} (ha : VRep g a v) (hs : seen a (ents H (vcOf a)) = some ⟨T, l⟩) {g' : G} {p : Bool} (hp : keepOk p a = true)
  (hfr : ∀ b o, g.fr b = some o → g'.fr b = some o) (hgr : ∀ b o, g.gr b = some o → g'.gr b = some o)
  (hblk : ∀ e b o, vcOf a = [e] → (getE H e).live = true → g.bl e = some b → w.heap[b]? = some o → g'.fr b = some o ∨ (p = false ∧ g'.gr b = some o))
  (hel : ∀ x cs, Rep g T x cs → Rep g' T x cs) : VRep g' (.v (.imm p false T) l) v := by
 refine (VRep_v (by simp)).2 ?_
 simp only [TRep, Ty.agg, Ty.sk, Sk.agg, Bool.false_eq_true, if_false]
 unfold seen at hs
 split at hs
 ·rename_i q f a' l'
  simp only [Option.some.injEq, Sigma.mk.injEq] at hs
  obtain ⟨rfl, hl⟩ := hs
  have hl := eq_of_heq hl
  subst hl
  have hv := (VRep_v (by simp)).1 ha
  simp only [TRep, Ty.agg, Ty.sk, Sk.agg, Bool.false_eq_true, if_false, Rep] at hv ⊢
  obtain ⟨pv, cap, h1, h2, _, h4⟩ := hv
  refine ⟨pv, cap, h1, h2, by simp, fun hne => ?_⟩
  obtain ⟨ad, vs, q1, q2, q3⟩ := h4 hne
  refine ⟨ad, vs, q1, repL_mono (fun y _ cs => hel y cs) q2, ?_⟩
  rcases q3 with q3 | ⟨hq, q3⟩
  ·exact .inl (reads_mono hfr q3)
  ·refine .inr ⟨?_, reads_mono hgr q3⟩
   simp only [keepOk, hq, Bool.false_or, Bool.not_eq_true'] at hp
   exact hp
 ·rename_i q a' l'
  simp only [Option.some.injEq, Sigma.mk.injEq] at hs
  obtain ⟨rfl, hl⟩ := hs
  have hl := eq_of_heq hl
  subst hl
  have hv := (VRep_v (by simp)).1 ha
  simp only [TRep, Ty.agg, Ty.sk, Sk.agg, Bool.false_eq_true, if_false, Rep] at hv ⊢
  obtain ⟨pv, h1, h2, h4⟩ := hv
  refine ⟨pv, _, h1, ⟨Nat.le_refl _, h2⟩, by simp, fun hne => ?_⟩
  obtain ⟨ad, vs, q1, q2, q3⟩ := h4 hne
  refine ⟨ad, vs, q1, repL_mono (fun y _ cs => hel y cs) q2, ?_⟩
  rcases q3 with q3 | ⟨hq, q3⟩
  ·exact .inl (reads_mono hfr q3)
  ·refine .inr ⟨?_, reads_mono hgr q3⟩
   simp only [keepOk, hq, Bool.false_or, Bool.not_eq_true'] at hp
   exact hp
 ·rename_i e pp d
  simp only [vcOf, ents] at hs
  split at hs
  ·rename_i T' x hE
   simp only [List.cons.injEq, and_true] at hE
   split at hs
   ·rename_i m a' l' hg
    simp only [Option.some.injEq, Sigma.mk.injEq] at hs
    obtain ⟨rfl, hl⟩ := hs
    have hl := eq_of_heq hl
    subst hl
    obtain ⟨pv, cap, b, off, n, s, h1, h2, rfl, h3, _, h5, h6⟩ := sub_sh hI ha (s := T'.sk) (by rw [hE]; rfl)
    obtain ⟨cs, tt, fz, us, q1, _, _, rfl, rfl, q4, q5, q6, q7, q8⟩ := arr_cells hI hE hg h1 h2
    have hlen : ((l'.drop d.start).take d.len).length = d.len := by rw [List.length_take, List.length_drop]; omega
    have hrep := repL_take' (fun x cs => Rep_length a' x cs) d.len (repL_drop' (fun x cs => Rep_length a' x cs) d.start q5)
    simp only [Rep]
    refine ⟨pv, cap, by rw [hlen], by rw [hlen]; exact h3, by simp, fun hne => ?_⟩
    have h0 : d.len ≠ 0 := fun h => hne (List.eq_nil_of_length_eq_zero (by rw [hlen, h]))
    refine ⟨_, _, h6 h0, repL_mono (fun y _ cs => hel y cs) hrep, ?_⟩
    have hrd : ∀ F : Nat → Option Obj, F b = some (.cells cs tt fz) → reads F ⟨b, off + d.start * a'.sk.nc, none⟩ ((us.drop (d.start * a'.nc)).take (d.len * a'.nc)) := by
     intro F hF
     refine ⟨rfl, cs, tt, fz, hF, fun j v hv => ?_⟩
     have hnc : a'.nc = a'.sk.nc := rfl
     rw [q7, hnc] at hv
     have hj : j < d.len * a'.sk.nc := by
      have := (List.getElem?_eq_some_iff.1 hv).1
      rw [List.length_take] at this
      omega
     rw [List.getElem?_take_of_lt hj, List.getElem?_drop] at hv
     unfold seg at hv
     have hm : d.start * a'.sk.nc + j < m * a'.sk.nc := by
      have : (d.start + d.len) * a'.sk.nc ≤ m * a'.sk.nc := Nat.mul_le_mul_right _ h5
      rw [Nat.add_mul] at this
      omega
     rw [List.getElem?_take_of_lt hm, List.getElem?_drop] at hv
     rw [show off + d.start * a'.sk.nc + j = off + (d.start * a'.sk.nc + j) by omega]
     simpa using hv
    rcases hblk e b _ rfl (by rw [hE]; rfl) h1 q1 with hb | ⟨hb, hb'⟩
    ·exact .inl (hrd _ hb)
    ·exact .inr ⟨hb, hrd _ hb'⟩
   ·cases hs
  ·cases hs
 ·rename_i e k _
  simp only [vcOf, ents] at hs
  split at hs
  ·rename_i k' a' l' hE
   simp only [List.cons.injEq, and_true] at hE
   split at hs
   ·rename_i hk
    subst hk
    simp only [Option.some.injEq, Sigma.mk.injEq] at hs
    obtain ⟨rfl, hl⟩ := hs
    have hl := eq_of_heq hl
    subst hl
    have hlive : (getE H e).live = true := by rw [hE]; rfl
    have hv := (VRep_v (by simp)).1 ha
    simp only [TRep, Ty.agg, Ty.sk, Sk.agg, Bool.false_eq_true, if_false, Rep, G.vcr, hI.sh, hE, shp] at hv ⊢
    obtain ⟨_, _, hv⟩ := hv
    have he := hI.ent e
    rw [hE] at he
    rcases hv trivial with ⟨_, h0, pv0, hh⟩ | ⟨b, cap, hb, hh, hcap, _⟩
    ·have hl0 : l' = [] := List.eq_nil_of_length_eq_zero h0
     subst hl0
     exact ⟨pv0, 0, hh, by simp, by simp, by simp⟩
    ·rcases he with ⟨q1, _⟩ | ⟨b', cs, t, fz, vs, r, q1, q2, q3, q4, q5, q6, q7⟩
     ·rw [hb] at q1; cases q1
     rw [hb] at q1
     cases q1
     have hrd : ∀ F : Nat → Option Obj, F b = some (.cells cs t fz) → reads F ⟨b, 0, none⟩ vs := by
      intro F hF
      refine ⟨rfl, cs, t, fz, hF, fun i v hi => ?_⟩
      have hj : i < vs.length := (List.getElem?_eq_some_iff.1 hi).1
      have : cs.toList[i]? = some v := by rw [q5, List.getElem?_append_left hj]; exact hi
      simpa using this
     refine ⟨_, cap, hh, hcap, by simp, fun _ => ⟨_, vs, rfl, repL_mono (fun y _ cs => hel y cs) q6, ?_⟩⟩
     rcases hblk e b _ rfl hlive hb q2 with hb | ⟨hb, hb'⟩
     ·exact .inl (hrd _ hb)
     ·exact .inr ⟨hb, hrd _ hb'⟩
   ·cases hs
  ·cases hs
 ·rename_i e k d
  simp only [vcOf, ents] at hs
  split at hs
  ·rename_i k' a' l' hE
   simp only [List.cons.injEq, and_true] at hE
   split at hs
   ·rename_i hk
    subst hk
    simp only [Option.some.injEq, Sigma.mk.injEq] at hs
    obtain ⟨rfl, hl⟩ := hs
    have hl := eq_of_heq hl
    subst hl
    have hlive : (getE H e).live = true := by rw [hE]; rfl
    have hv := (VRep_v (by simp)).1 ha
    simp only [TRep, Ty.agg, Ty.sk, Sk.agg, Bool.false_eq_true, if_false, Rep, G.vcr, hI.sh, hE, shp] at hv ⊢
    obtain ⟨_, _, hv⟩ := hv
    obtain ⟨pv, cap, h1, h2, _, h4, h5⟩ := hv trivial
    have hlen : ((l'.drop d.start).take d.len).length = d.len := by rw [List.length_take, List.length_drop]; omega
    refine ⟨pv, cap, by rw [hlen]; exact h1, by rw [hlen]; exact h2, by simp, fun hne => ?_⟩
    have h0 : d.len ≠ 0 := fun h => hne (List.eq_nil_of_length_eq_zero (by rw [hlen, h]))
    obtain ⟨b, hb, hpv⟩ := h5 h0
    have he := hI.ent e
    rw [hE] at he
    rcases he with ⟨q1, _⟩ | ⟨b', cs, t, fz, vs, r, q1, q2, q3, q4, q5, q6, q7⟩
    ·rw [hb] at q1; cases q1
    rw [hb] at q1
    cases q1
    have hrep := repL_take' (fun x cs => Rep_length a' x cs) d.len (repL_drop' (fun x cs => Rep_length a' x cs) d.start q6)
    have hrd : ∀ F : Nat → Option Obj, F b = some (.cells cs t fz) → reads F ⟨b, d.start * a'.sk.nc, none⟩ ((vs.drop (d.start * a'.nc)).take (d.len * a'.nc)) := by
     intro F hF
     refine ⟨rfl, cs, t, fz, hF, fun j v hv => ?_⟩
     have hnc : a'.nc = a'.sk.nc := rfl
     rw [hnc] at hv
     have hj : j < d.len * a'.sk.nc := by
      have := (List.getElem?_eq_some_iff.1 hv).1
      rw [List.length_take] at this
      omega
     rw [List.getElem?_take_of_lt hj, List.getElem?_drop] at hv
     have hjv : d.start * a'.sk.nc + j < vs.length := (List.getElem?_eq_some_iff.1 hv).1
     have : cs.toList[d.start * a'.sk.nc + j]? = some v := by rw [q5, List.getElem?_append_left hjv]; exact hv
     simpa using this
    refine ⟨_, _, hpv, repL_mono (fun y _ cs => hel y cs) hrep, ?_⟩
    rcases hblk e b _ rfl hlive hb q2 with hb | ⟨hb, hb'⟩
    ·exact .inl (hrd _ hb)
    ·exact .inr ⟨hb, hrd _ hb'⟩
   ·cases hs
  ·cases hs
 ·cases hs
theorem takeA_rep (hI : HInv g H w) {A : Ty} (hA : A.still false = true) {v : AV} {rv : Value} {x : A.den} (hv : VRep g v rv) (h : takeA A v (ents H (vcOf v)) = some x) : VRep (g.lend H w) (.v A x) rv := by
 have plain : ∀ {T : Ty} {y : T.den}, v = .v T y → castT ⟨T, y⟩ A = some x → VRep (g.lend H w) (.v A x) rv := by
  rintro T y rfl hc
  have := castT_spec hc
  simp only [TV.mk.injEq] at this
  obtain ⟨rfl, h2⟩ := this
  have h2 := eq_of_heq h2
  subst h2
  exact still_VRep (lend_covers g H w) hA hv
 unfold takeA at h
 split at h
 ·rename_i a
  have hst : a.still false = true := by simpa [Ty.still] using hA
  split at h
  ·rename_i hn
   refine (VRep_v (by simp)).2 ?_
   simp only [Option.some.injEq] at h
   subst h
   unfold isNils at hn
   split at hn
   ·have hv := (VRep_v (by simp)).1 hv
    simp only [TRep, Ty.agg, Ty.sk, Sk.agg, Bool.false_eq_true, if_false, Rep] at hv ⊢
    exact ⟨none, 0, hv, by simp, by simp, by simp⟩
   ·cases hn
  ·split at h
   ·rename_i y hy
    obtain ⟨a2, l⟩ := y
    unfold castL at h
    simp only at h
    split at h
    ·rename_i heq
     subst heq
     simp only [Option.some.injEq] at h
     subst h
     refine seen_view hI hv hy (p := false) (by unfold keepOk; split <;> simp) (lend_covers g H w).fr ((lend_covers g H w).gr rfl) (fun e b o hvc hlive hb ho => .inr ⟨rfl, ?_⟩) fun x cs => (still_Rep (lend_covers g H w) a2 x cs hst).1
     simp only [G.lend]
     rw [(hI.own _ _ hlive hb).2]
     simp only [Option.isSome_none, Bool.false_eq_true, if_false]
     rw [if_pos ⟨e, hlive, hb⟩]
     exact ho
    ·cases h
   ·cases h
 ·split at h
  ·exact plain rfl h
  ·cases h
theorem takeAs_rep (hI : HInv g H w) : ∀ {As : List Ty} {vs : List AV} {rvs : List Value} {xs : HL As}, (As.all fun A => A.still false) = true → argsRep g vs rvs → takeAs As vs H = some xs → argsRep (g.lend H w) (mkArgs As xs) rvs
 | [], [], rvs, xs, _, h, _ => h
 | [], _ :: _, rvs, xs, _, _, h => by simp [takeAs] at h
 | A :: As, [], rvs, xs, _, _, h => by simp [takeAs] at h
 | A :: As, v :: vs, rvs, xs, hA, ⟨r, rs, h1, h2, h3⟩, h => by
  simp only [List.all_cons, Bool.and_eq_true] at hA
  simp only [takeAs] at h
  split at h
  ·rename_i x hx
   split at h
   ·rename_i y hy
    simp only [Option.some.injEq] at h
    subst h
    exact ⟨r, rs, h1, takeA_rep hI hA.1 h2 hx, takeAs_rep hI hA.2 h3 hy⟩
   ·cases h
  ·cases h
def vcsOf (vs : List AV) : List Nat := vs.flatMap vcOf
def takeE : (As : List Ty) → List AV → List Entry → Option (HL As)
 | [], [], _ => some ()
 | A :: As, v :: vs, es => match takeA A v (es.take (vcOf v).length) with
  | some x => match takeE As vs (es.drop (vcOf v).length) with
   | some r => some (x, r)
   | none => none
  | none => none
 | _, _, _ => none
theorem ents_append (H : Heap) : ∀ (l m : List Nat), ents H (l ++ m) = ents H l ++ ents H m
 | [], m => rfl
 | i :: l, m => by simp only [List.cons_append, ents]; rw [ents_append H l m]
theorem ents_length (H : Heap) : ∀ (l : List Nat), (ents H l).length = l.length
 | [] => rfl
 | i :: l => by simp [ents, ents_length H l]
theorem takeE_takeAs (H : Heap) : ∀ {As : List Ty} {vs : List AV}, takeE As vs (ents H (vcsOf vs)) = takeAs As vs H
 | [], [] => rfl
 | [], _ :: _ => rfl
 | A :: As, [] => rfl
 | A :: As, v :: vs => by
  have e1 : (ents H (vcsOf (v :: vs))).take (vcOf v).length = ents H (vcOf v) := by
   show (ents H (vcOf v ++ vcsOf vs)).take _ = _
   rw [ents_append, ← ents_length H (vcOf v), List.take_left]
  have e2 : (ents H (vcsOf (v :: vs))).drop (vcOf v).length = ents H (vcsOf vs) := by
   show (ents H (vcOf v ++ vcsOf vs)).drop _ = _
   rw [ents_append, ← ents_length H (vcOf v), List.drop_left]
  simp only [takeE, takeAs, e1, e2, takeE_takeAs H (As := As) (vs := vs)]
def CSpec.sl (As Rs : List Ty) (f : HL As → HL Rs) : CSpec :=
 ⟨0, fun vs _ => vcsOf vs, fun _ _ => [], fun vs es _ => match takeE As vs es with | some xs => .ret (ofHL Rs (f xs), []) | none => .fail⟩
theorem sl_local (As Rs : List Ty) (f : HL As → HL Rs) : CLocal (CSpec.sl As Rs f) where
 same _ _ _ _ := ⟨rfl, rfl⟩
 turns vs H fr out h x hx := by
  simp only [CSpec.sl] at h
  split at h
  ·have := Tr.ret_some h
   subst this
   simp at hx
  ·exact (Tr.fail_some h).elim
theorem sl_sound (hC : CtxSound P C ∧ CtxLocal C) {k : Nat} {fn : Func} (hf : P.funcs[k]? = some fn) {c : Code} (hname : (fn.name == "runtime.NumGoroutine") = false) (hb : fn.body = some c) (hl : LoopsOK P L c)
  {As Rs : List Ty} {f : HL As → HL Rs} (hA : (As.all fun A => A.still false) = true) (hR : stillL Rs = true)
  (h1 : ∀ xs, HL.ok As xs → (fnS P C L Rs fn (mkArgs As xs)).fine Rs = true) (h2 : ∀ xs, HL.ok As xs → (fnS P C L Rs fn (mkArgs As xs)).fold Rs = f xs) : CSound P k (CSpec.sl As Rs f) ∧ CLocal (CSpec.sl As Rs f) := by
 refine ⟨⟨fun args w => callFunc_enter hf hname hb args w, ?_⟩, sl_local As Rs f⟩
 intro g H w vs rvs fr out hI hargs _ he
 simp only [CSpec.sl] at he
 rw [takeE_takeAs] at he
 split at he
 ·rename_i xs hxs
  have := Tr.ret_some he
  subst this
  have hargs' := takeAs_rep hI hA hargs hxs
  have hx := args_ok hargs'
  obtain ⟨H', h5⟩ := nrm_some (Tr.nrm_of_fine (h1 xs hx))
  obtain ⟨r, h6, h7⟩ := Tr.bind_some h5
  have h7 := Tr.ret_some h7
  rw [h2 xs hx] at h7
  refine (fn_sound hC.1 hC.2 hf hb hl (lend_inv hI) hargs' (fnK_ok h6)).mono ?_
  rintro e w' ⟨rv, g', rfl, hle, hI', hv⟩
  obtain ⟨g1, s1, s2, s3⟩ := sealR_rep Rs (r := r) hI' hv
  rw [h7] at s2 s3
  obtain ⟨g'', q1, q2, q3⟩ := lend_back hI (hle.trans s1) s2
  exact ⟨rv, g'', rfl, q1, q2, still_VRep q3 (ofHL_still hR _) s3⟩
 ·exact (Tr.fail_some he).elim
def CSpec.sl1 (As : List Ty) (R : Ty) (f : HL As → R.den) : CSpec := CSpec.sl As [R] fun xs => (f xs, ())
theorem sl_ok (hC : CtxSound P C ∧ CtxLocal C) {k : Nat} {fn : Func} (hf : P.funcs[k]? = some fn) {As Rs : List Ty} {f : HL As → HL Rs}
  (hside : ((fn.name == "runtime.NumGoroutine") == false && fn.body.isSome && (As.all fun A => A.still false) && stillL Rs) = true)
  (hl : ∀ b ∈ loopsOf (bodyOf fn), LoopOK P L b)
  (h1 : ∀ xs, HL.ok As xs → (fnS P C L Rs fn (mkArgs As xs)).fine Rs = true) (h2 : ∀ xs, HL.ok As xs → (fnS P C L Rs fn (mkArgs As xs)).fold Rs = f xs) : CSound P k (CSpec.sl As Rs f) ∧ CLocal (CSpec.sl As Rs f) := by
 simp only [Bool.and_eq_true, beq_iff_eq] at hside
 obtain ⟨⟨⟨a, b⟩, c⟩, d⟩ := hside
 obtain ⟨body, hb⟩ := Option.isSome_iff_exists.1 b
 refine sl_sound hC hf a hb (loopsOK_all ?_) c d h1 h2
 unfold bodyOf at hl
 rw [hb] at hl
 exact hl
theorem sl_ok1 (hC : CtxSound P C ∧ CtxLocal C) {k : Nat} {fn : Func} (hf : P.funcs[k]? = some fn) {As : List Ty} {R : Ty} {f : HL As → R.den}
  (hside : ((fn.name == "runtime.NumGoroutine") == false && fn.body.isSome && (As.all fun A => A.still false) && stillL [R]) = true)
  (hl : ∀ b ∈ loopsOf (bodyOf fn), LoopOK P L b)
  (h1 : ∀ xs, HL.ok As xs → (fnS P C L [R] fn (mkArgs As xs)).fine [R] = true) (h2 : ∀ xs, HL.ok As xs → (fnS P C L [R] fn (mkArgs As xs)).fold1 R = f xs) : CSound P k (CSpec.sl1 As R f) ∧ CLocal (CSpec.sl1 As R f) :=
 sl_ok hC hf hside hl h1 fun xs hx => by rw [Tr.fold_one, h2 xs hx]
def CSpec.slp (As : List Ty) (pre : HL As → Bool) (Rs : List Ty) (f : HL As → HL Rs) : CSpec :=
 ⟨0, fun vs _ => vcsOf vs, fun _ _ => [], fun vs es _ => match takeE As vs es with | some xs => .chk (pre xs) (.ret (ofHL Rs (f xs), [])) | none => .fail⟩
theorem slp_local (As : List Ty) (pre : HL As → Bool) (Rs : List Ty) (f : HL As → HL Rs) : CLocal (CSpec.slp As pre Rs f) where
 same _ _ _ _ := ⟨rfl, rfl⟩
 turns vs H fr out h x hx := by
  simp only [CSpec.slp] at h
  split at h
  ·obtain ⟨_, h⟩ := Tr.chk_some h
   have := Tr.ret_some h
   subst this
   simp at hx
  ·exact (Tr.fail_some h).elim
theorem slp_sound (hC : CtxSound P C ∧ CtxLocal C) {k : Nat} {fn : Func} (hf : P.funcs[k]? = some fn) {As Rs : List Ty} {pre : HL As → Bool} {f : HL As → HL Rs}
  (hside : ((fn.name == "runtime.NumGoroutine") == false && fn.body.isSome && (As.all fun A => A.still false) && stillL Rs) = true)
  (hl : ∀ b ∈ loopsOf (bodyOf fn), LoopOK P L b)
  (h1 : ∀ xs, HL.ok As xs → pre xs = true → (fnS P C L Rs fn (mkArgs As xs)).fine Rs = true) (h2 : ∀ xs, HL.ok As xs → pre xs = true → (fnS P C L Rs fn (mkArgs As xs)).fold Rs = f xs) :
  CSound P k (CSpec.slp As pre Rs f) ∧ CLocal (CSpec.slp As pre Rs f) := by
 simp only [Bool.and_eq_true, beq_iff_eq] at hside
 obtain ⟨⟨⟨hname, hb⟩, hA⟩, hR⟩ := hside
 obtain ⟨body, hb⟩ := Option.isSome_iff_exists.1 hb
 have hl : LoopsOK P L body := by
  refine loopsOK_all ?_
  unfold bodyOf at hl
  rw [hb] at hl
  exact hl
 refine ⟨⟨fun args w => callFunc_enter hf hname hb args w, ?_⟩, slp_local As pre Rs f⟩
 intro g H w vs rvs fr out hI hargs _ he
 simp only [CSpec.slp] at he
 rw [takeE_takeAs] at he
 split at he
 ·rename_i xs hxs
  obtain ⟨hp, he⟩ := Tr.chk_some he
  have := Tr.ret_some he
  subst this
  have hargs' := takeAs_rep hI hA hargs hxs
  have hx := args_ok hargs'
  obtain ⟨H', h5⟩ := nrm_some (Tr.nrm_of_fine (h1 xs hx hp))
  obtain ⟨r, h6, h7⟩ := Tr.bind_some h5
  have h7 := Tr.ret_some h7
  rw [h2 xs hx hp] at h7
  refine (fn_sound hC.1 hC.2 hf hb hl (lend_inv hI) hargs' (fnK_ok h6)).mono ?_
  rintro e w' ⟨rv, g', rfl, hle, hI', hv⟩
  obtain ⟨g1, s1, s2, s3⟩ := sealR_rep Rs (r := r) hI' hv
  rw [h7] at s2 s3
  obtain ⟨g'', q1, q2, q3⟩ := lend_back hI (hle.trans s1) s2
  exact ⟨rv, g'', rfl, q1, q2, still_VRep q3 (ofHL_still hR _) s3⟩
 ·exact (Tr.fail_some he).elim
def CSpec.slp1 (As : List Ty) (pre : HL As → Bool) (R : Ty) (f : HL As → R.den) : CSpec := CSpec.slp As pre [R] fun xs => (f xs, ())
theorem slp_ok1 (hC : CtxSound P C ∧ CtxLocal C) {k : Nat} {fn : Func} (hf : P.funcs[k]? = some fn) {As : List Ty} {R : Ty} {pre : HL As → Bool} {f : HL As → R.den}
  (hside : ((fn.name == "runtime.NumGoroutine") == false && fn.body.isSome && (As.all fun A => A.still false) && stillL [R]) = true)
  (hl : ∀ b ∈ loopsOf (bodyOf fn), LoopOK P L b)
  (h1 : ∀ xs, HL.ok As xs → pre xs = true → (fnS P C L [R] fn (mkArgs As xs)).fine [R] = true) (h2 : ∀ xs, HL.ok As xs → pre xs = true → (fnS P C L [R] fn (mkArgs As xs)).fold1 R = f xs) :
  CSound P k (CSpec.slp1 As pre R f) ∧ CLocal (CSpec.slp1 As pre R f) :=
 slp_sound hC hf hside hl h1 fun xs hx hp => by rw [Tr.fold_one, h2 xs hx hp]
end
end Vse
end
section
set_option linter.unusedVariables false
namespace Vse
open Go
def Ty.off (e : Nat) : Ty → Bool
 | .prod a b => a.off e && b.off e
 | .arr _ a => a.off e
 | .imm _ _ a => a.off e
 | .tg _ a => a.off e
 | .ip _ a => a.off e
 | .fn _ c => c.off e
 | .vc i _ | .sv i _ | .vp i _ _ | .sub i _ | .ptr i _ | .mp i | .ch i => decide (i ≠ e)
 | _ => true
structure G.bar (e : Nat) (g g' : G) : Prop where
 fr : g'.fr = g.fr
 gr : g'.gr = g.gr
 ext : g'.ext = g.ext
 bl : g'.bl = g.bl
 sz : g'.sz = g.sz
 sh : ∀ i, i ≠ e → g'.sh i = g.sh i
theorem off_Rep {e : Nat} {g g' : G} (h : g.bar e g') : ∀ (T : Ty) (x : T.den) (cs : List Value), T.off e = true → (Rep g T x cs → Rep g' T x cs) ∧ (Rep.RepC g T x cs → Rep.RepC g' T x cs) := by
 intro T
 induction T with
 | bool | int | str | und | nils | nilp | nilm | nilf | nili | it => intro x cs _; exact ⟨fun hr => hr, fun hr => by simp [Rep.RepC] at hr⟩
 | mp i | ch i =>
  intro x cs hs
  simp only [Ty.off, decide_eq_true_eq] at hs
  exact ⟨fun hr => by simpa only [Rep, G.mpr, h.sh i hs, h.bl] using hr, fun hr => by simp [Rep.RepC] at hr⟩
 | unit => intro x cs _; exact ⟨fun hr => hr, fun hr => hr⟩
 | prod a b iha ihb =>
  intro x cs hs
  simp only [Ty.off, Bool.and_eq_true] at hs
  constructor
  ·rintro ⟨c1, c2, rfl, h1, h2⟩
   exact ⟨c1, c2, rfl, (iha _ _ hs.1).1 h1, (ihb _ _ hs.2).1 h2⟩
  ·rintro ⟨v, r, rfl, h1, h2⟩
   refine ⟨v, r, rfl, ?_, (ihb _ _ hs.2).2 h2⟩
   split at h1
   ·obtain ⟨cs, hv, hr⟩ := h1; rw [if_pos (by assumption)]; exact ⟨cs, hv, (iha _ _ hs.1).1 hr⟩
   ·rw [if_neg (by assumption)]; exact (iha _ _ hs.1).1 h1
 | arr k a iha =>
  intro x cs hs
  exact ⟨fun hr => ⟨hr.1, repL_mono (fun y _ cs => (iha y cs hs).1) hr.2⟩, fun hr => by simp [Rep.RepC] at hr⟩
 | imm q f a iha =>
  intro x cs hs
  refine ⟨?_, fun hr => by simp [Rep.RepC] at hr⟩
  rintro ⟨pv, cap, h1, h2, h3, h4⟩
  refine ⟨pv, cap, h1, h2, h3, fun hne => ?_⟩
  obtain ⟨ad, vs, a1, a2, a3⟩ := h4 hne
  refine ⟨ad, vs, a1, repL_mono (fun y _ cs => (iha y cs hs).1) a2, ?_⟩
  rw [h.fr, h.gr]; exact a3
 | tg q a iha =>
  intro x cs hs
  refine ⟨?_, fun hr => by simp [Rep.RepC] at hr⟩
  rintro ⟨pv, h1, h2, h4⟩
  refine ⟨pv, h1, h2, fun hne => ?_⟩
  obtain ⟨ad, vs, a1, a2, a3⟩ := h4 hne
  refine ⟨ad, vs, a1, repL_mono (fun y _ cs => (iha y cs hs).1) a2, ?_⟩
  rw [h.fr, h.gr]; exact a3
 | ip q a iha =>
  intro x cs hs
  refine ⟨?_, fun hr => by simp [Rep.RepC] at hr⟩
  rintro ⟨ad, vs, h1, h2, h3⟩
  refine ⟨ad, vs, h1, (iha _ _ hs).1 h2, ?_⟩
  rw [h.fr, h.gr]; exact h3
 | vc i gn =>
  intro x cs hs
  simp only [Ty.off, decide_eq_true_eq] at hs
  exact ⟨fun hr => by simpa only [Rep, G.vcr, h.sh i hs, h.bl, h.sz] using hr, fun hr => by simp [Rep.RepC] at hr⟩
 | sv i gn =>
  intro x cs hs
  simp only [Ty.off, decide_eq_true_eq] at hs
  exact ⟨fun hr => by simpa only [Rep, G.vcr, h.sh i hs, h.bl, h.sz] using hr, fun hr => by simp [Rep.RepC] at hr⟩
 | vp i gn p =>
  intro x cs hs
  simp only [Ty.off, decide_eq_true_eq] at hs
  exact ⟨fun hr => by simpa only [Rep, G.vcr, h.sh i hs, h.bl, h.sz] using hr, fun hr => by simp [Rep.RepC] at hr⟩
 | sub i p =>
  intro x cs hs
  simp only [Ty.off, decide_eq_true_eq] at hs
  exact ⟨fun hr => by simpa only [Rep, G.bxr, h.sh i hs, h.bl, h.sz] using hr, fun hr => by simp [Rep.RepC] at hr⟩
 | ptr i p =>
  intro x cs hs
  simp only [Ty.off, decide_eq_true_eq] at hs
  exact ⟨fun hr => by simpa only [Rep, G.bxr, h.sh i hs, h.bl, h.sz] using hr, fun hr => by simp [Rep.RepC] at hr⟩
 | fn f c ihc =>
  intro x cs hs
  refine ⟨?_, fun hr => by simp [Rep.RepC] at hr⟩
  rintro ⟨vs, h1, h2⟩
  exact ⟨vs, h1, (ihc _ _ hs).2 h2⟩
theorem off_TRep {e : Nat} {g g' : G} (h : g.bar e g') {T : Ty} {x : T.den} {v : Value} (hs : T.off e = true) (hr : TRep g T x v) : TRep g' T x v := by
 unfold TRep at hr ⊢
 split
 ·rw [if_pos (by assumption)] at hr; obtain ⟨cs, h1, h2⟩ := hr; exact ⟨cs, h1, (off_Rep h _ _ _ hs).1 h2⟩
 ·rw [if_neg (by assumption)] at hr; exact (off_Rep h _ _ _ hs).1 hr
theorem off_tup {e : Nat} {g g' : G} (h : g.bar e g') : ∀ {l : List TV} {vs : List Value}, (l.all fun t => t.T.off e) = true → tupRep g l vs → tupRep g' l vs
 | [], _, _, hr => hr
 | t :: ts, _, hs, ⟨v, r, h1, h2, h3⟩ => by
  simp only [List.all_cons, Bool.and_eq_true] at hs
  exact ⟨v, r, h1, off_TRep h hs.1 h2, off_tup h hs.2 h3⟩
def relAV (e k K : Nat) : AV → AV
 | .v (.vc i j) x => if i = e then (if j = k then .v (.vc e K) () else AV.und) else .v (.vc i j) x
 | .v T x => if T.off e then .v T x else AV.und
 | .tup l => if l.all fun t => t.T.off e then .tup l else AV.und
def offE (e : Nat) : Entry → Bool
 | .box T _ => T.off e
 | .vec _ a _ => a.off e
 | .map K V _ => K.off e && V.off e
 | _ => true
def relSt (e K : Nat) (st : St) : Option St :=
 match getE st.heap e with
 | .vec k a l => if st.heap.all (offE e) then some ⟨st.env.map (relAV e k K), setE st.heap e (.vec K a l)⟩ else none
 | _ => none
def relAll : List ETy → Nat → St → Option St
 | [], _, st => some st
 | .vec K _ :: Es, i, st => match relSt i K st with
  | some st' => relAll Es (i + 1) st'
  | none => none
 | _ :: Es, i, st => relAll Es (i + 1) st
theorem getV_map (f : AV → AV) (hf : f AV.none = AV.none) : ∀ (env : List AV) (i : Nat), getV (env.map f) i = f (getV env i)
 | [], _ => hf.symm
 | a :: l, 0 => rfl
 | a :: l, i + 1 => by simpa only [List.map_cons, getV] using getV_map f hf l i
theorem relSt_rep {g g2 : G} {st st' : St} {a : Act} {w : World} {e K : Nat} (hle : g.le g2) (h : SRep g2 st a w) (hs : relSt e K st = some st') (hK : g.sh e = .free ∨ ∃ k0 s n, g.sh e = .vec k0 s n ∧ k0 < K) :
  (∃ g3, g.le g3 ∧ SRep g3 st' a w) ∧ st'.heap.length = st.heap.length := by
 unfold relSt at hs
 split at hs
 ·rename_i k b l hE
  split at hs
  ·rename_i hoff
   simp only [Option.some.injEq] at hs
   subst hs
   refine ⟨?_, setE_length _ _ _⟩
   have hlive : (getE st.heap e).live = true := by rw [hE]; rfl
   have hlt := lt_of_live hlive
   have hsh : g2.sh e = .vec k b.sk l.length := by rw [h.heap.sh, hE]; rfl
   let g3 : G := { g2 with sh := fun i => if i = e then .vec K b.sk l.length else g2.sh i }
   have hbar : g2.bar e g3 := ⟨rfl, rfl, rfl, rfl, rfl, fun i hi => by simp [g3, hi]⟩
   have h3e : g3.sh e = .vec K b.sk l.length := by simp [g3]
   have hle3 : g.le g3 := by
    refine ⟨hle.fr, hle.gr, hle.ext, fun i => ?_⟩
    by_cases hi : i = e
    ·subst hi
     rcases hK with hK | ⟨k0, s, n, hK, hlt⟩
     ·exact .new hK
     ·exact .grew hK h3e hlt
    ·have e1 : g3.sh i = g2.sh i := by simp [g3, hi]
     cases hle.ent i with
     | same a b c => exact .same (e1.trans a) b c
     | dead a => exact .dead (e1.trans a)
     | grew a b c => exact .grew a (e1.trans b) c
     | new a => exact .new a
   have hoffE : ∀ i, offE e (getE st.heap i) = true := getE_all (p := offE e) rfl hoff
   refine ⟨g3, hle3, ⟨?_, ?_, h.defers⟩⟩
   ·have henv := h.env
    refine ⟨by rw [List.length_map]; exact henv.1, fun i => ?_⟩
    have hv := henv.2 i
    simp only
    rw [getV_map _ (by simp [relAV, AV.none])]
    generalize getV st.env i = v at hv ⊢
    unfold relAV
    split
    ·rename_i i' j x
     split
     ·rename_i hi
      subst hi
      split
      ·rename_i hj
       subst hj
       have hv := (VRep_v (by simp)).1 hv
       refine (VRep_v (by simp)).2 ?_
       simp only [TRep, Ty.agg, Ty.sk, Sk.agg, Bool.false_eq_true, if_false, Rep, G.vcr, hsh, h3e] at hv ⊢
       obtain ⟨h1, _, h2⟩ := hv
       refine ⟨h1, Nat.le_refl _, fun _ => ?_⟩
       exact h2 trivial
      ·trivial
     ·rename_i hi
      have hv := (VRep_v (by simp)).1 hv
      refine (VRep_v (by simp)).2 (off_TRep hbar ?_ hv)
      simpa [Ty.off] using hi
    ·rename_i T x _
     split
     ·rename_i ho
      by_cases hT : T = .und
      ·subst hT; trivial
      ·exact (VRep_v hT).2 (off_TRep hbar ho ((VRep_v hT).1 hv))
     ·trivial
    ·rename_i l'
     split
     ·rename_i ho
      obtain ⟨vs, h1, h2⟩ := hv
      exact ⟨vs, h1, off_tup hbar ho h2⟩
     ·trivial
   ·have hI := h.heap
    have hget : ∀ i, getE (setE st.heap e (.vec K b l)) i = if i = e then .vec K b l else getE st.heap i := by
     intro i; rw [getE_setE]; by_cases hi : i = e <;> simp [hi, hlt]
    have hlv : ∀ i, (getE (setE st.heap e (.vec K b l)) i).live = (getE st.heap i).live := by
     intro i; rw [hget]; by_cases hi : i = e
     ·rw [if_pos hi, hi, hlive]; rfl
     ·rw [if_neg hi]
    refine ⟨?_, hI.fr, hI.gr, ?_, ?_, hI.sep, ?_, hI.ext⟩
    ·intro i; simp only; rw [hget]; by_cases hi : i = e
     ·subst hi; rw [if_pos rfl, h3e]; rfl
     ·rw [if_neg hi, hbar.sh i hi]; exact hI.sh i
    ·intro i
     simp only
     rw [hget]
     have ho := hoffE i
     by_cases hi : i = e
     ·subst hi
      rw [if_pos rfl]
      rw [hE] at ho
      have he := hI.ent i
      rw [hE] at he
      rcases he with he | ⟨b', cs, t, fz, vs, r, q1, q2, q3, q4, q5, q6, q7⟩
      ·exact .inl he
      ·exact .inr ⟨b', cs, t, fz, vs, r, q1, q2, q3, q4, q5, repL_mono (fun y _ cs => (off_Rep hbar b y cs ho).1) q6, q7⟩
     ·rw [if_neg hi]
      have he := hI.ent i
      cases hEi : getE st.heap i with
      | free => trivial
      | dead => trivial
      | box T x =>
       rw [hEi] at he ho
       obtain ⟨b', cs, t, fz, q1, q2, q3, q4⟩ := he
       exact ⟨b', cs, t, fz, q1, q2, q3, (off_Rep hbar _ _ _ ho).1 q4⟩
      | map K2 V2 l2 =>
       rw [hEi] at he ho
       simp only [offE, Bool.and_eq_true] at ho
       obtain ⟨b', es, clock, q1, q2, q3⟩ := he
       exact ⟨b', es, clock, q1, q2, mapRep_mono (fun _ _ => off_TRep hbar ho.1) (fun _ _ => off_TRep hbar ho.2) q3⟩
      | itr s2 p2 =>
       rw [hEi] at he
       obtain ⟨q0, b', q1, q2⟩ := he
       exact ⟨q0, b', q1, q2⟩
      | vec k2 a2 l2 =>
       rw [hEi] at he ho
       rcases he with he | ⟨b', cs, t, fz, vs, r, q1, q2, q3, q4, q5, q6, q7⟩
       ·exact .inl he
       ·exact .inr ⟨b', cs, t, fz, vs, r, q1, q2, q3, q4, q5, repL_mono (fun y _ cs => (off_Rep hbar a2 y cs ho).1) q6, q7⟩
    ·intro i b' hl hb
     simp only at hl
     rw [hlv] at hl
     exact hI.own i b' hl hb
    ·intro i j b' hl hl' hb hb'
     simp only at hl hl'
     rw [hlv] at hl hl'
     exact hI.dis i j b' hl hl' hb hb'
  ·cases hs
 ·cases hs
def Lower (g : G) (Es : List ETy) (i : Nat) : Prop := ∀ j K a, Es[j]? = some (.vec K a) → g.sh (i + j) = .free ∨ ∃ k0 s n, g.sh (i + j) = .vec k0 s n ∧ k0 < K
theorem relAll_rep {g : G} {a : Act} {w : World} : ∀ {Es : List ETy} {i : Nat} {g2 : G} {st st' : St}, g.le g2 → SRep g2 st a w → relAll Es i st = some st' → Lower g Es i → ∃ g3, g.le g3 ∧ SRep g3 st' a w
 | [], i, g2, st, st', hle, h, hs, hK => by
  simp only [relAll, Option.some.injEq] at hs
  subst hs
  exact ⟨g2, hle, h⟩
 | E :: Es, i, g2, st, st', hle, h, hs, hK => by
  have hK' : Lower g Es (i + 1) := fun j K a hj => by
   have := hK (j + 1) K a (by simpa using hj)
   rwa [show i + (j + 1) = i + 1 + j by omega] at this
  cases E with
  | vec K b =>
   simp only [relAll] at hs
   split at hs
   ·rename_i st1 h1
    obtain ⟨⟨g3, q1, q2⟩, _⟩ := relSt_rep hle h h1 (by simpa using hK 0 K b (by simp))
    exact relAll_rep q1 q2 hs hK'
   ·cases hs
  | _ => simp only [relAll] at hs; exact relAll_rep hle h hs hK'
def addIni : List Nat → List ETy → St → Option St
 | [], [], st => some st
 | s :: ss, .vec K a :: Es, st => if isNils (getV st.env s) then addIni ss Es ⟨setV st.env s (.v (.vc st.heap.length K) ()), st.heap ++ [.vec K a []]⟩ else none
 | _, _, _ => none
theorem setE_append_one (H : Heap) (E : Entry) : setE (H ++ frees 1) H.length E = H ++ [E] := by
 induction H with
 | nil => rfl
 | cons x H ih => simp only [List.cons_append, List.length_cons, setE]; rw [ih]
theorem getE_append_one (H : Heap) : getE (H ++ frees 1) H.length = .free := by
 rw [getE_append_frees]
 exact getE_past _ (Nat.le_refl _)
theorem addIni_rep {a : Act} {w : World} : ∀ {ss : List Nat} {Es : List ETy} {g : G} {st st' : St}, SRep g st a w → addIni ss Es st = some st' → ∃ g', g.le g' ∧ SRep g' st' a w
 | [], [], g, st, st', h, hs => by
  simp only [addIni, Option.some.injEq] at hs
  subst hs
  exact ⟨g, G.le.refl g, h⟩
 | [], _ :: _, g, st, st', h, hs => by simp [addIni] at hs
 | s :: ss, [], g, st, st', h, hs => by simp [addIni] at hs
 | s :: ss, E :: Es, g, st, st', h, hs => by
  cases E with
  | vec K b =>
   simp only [addIni] at hs
   split at hs
   ·rename_i hn
    have hw : HInv g (st.heap ++ frees 1) w := h.heap.widen 1
    obtain ⟨g1, q1, q2, q3, q4⟩ := hw.nilVec (e := st.heap.length) (k := K) (a := b) (by simp [frees]) (.inl (getE_append_one _))
    rw [setE_append_one] at q2
    have henv : EnvRep g1 (setV st.env s (.v (.vc st.heap.length K) ())) a := by
     have h0 := h.env.mono q1
     refine ⟨by rw [setV_length]; exact h0.1, fun i => ?_⟩
     rw [getV_setV]
     by_cases hi : i = s ∧ s < st.env.length
     ·rw [if_pos hi]
      have hv := h.env.2 i
      rw [hi.1] at hv ⊢
      unfold isNils at hn
      split at hn
      ·rename_i u hu
       rw [hu] at hv
       have hv := (VRep_v (by simp)).1 hv
       simp only [TRep, Ty.agg, Ty.sk, Sk.agg, Bool.false_eq_true, if_false, Rep, List.cons.injEq, and_true] at hv
       rw [hv]
       exact vc_rep_nil q3 q4
      ·cases hn
     ·rw [if_neg hi]; exact h0.2 i
    obtain ⟨g2, w1, w2⟩ := addIni_rep (ss := ss) (Es := Es) (g := g1) (st := ⟨_, _⟩) ⟨henv, q2, h.defers.trans (congrArg Prod.snd q1.ext).symm⟩ hs
    exact ⟨g2, q1.trans w1, w2⟩
   ·cases hs
  | _ => simp [addIni] at hs
structure VSpec extends LSpec where
 ini : List Nat
def gensOk : List ETy → Nat → Heap → Bool
 | [], _, _ => true
 | .vec K _ :: Es, i, H => (match getE H i with
  | .vec k _ _ => decide (k < K)
  | .free => decide (H.length ≤ i)
  | _ => false) && gensOk Es (i + 1) H
 | _ :: Es, i, H => gensOk Es (i + 1) H
theorem gensOk_lower {g : G} {H : Heap} (hsh : ∀ e, g.sh e = shp (getE H e)) : ∀ {Es : List ETy} {i : Nat}, gensOk Es i H = true → Lower g Es i
 | [], i, _ => fun j K a hj => by simp at hj
 | E :: Es, i, h => by
  have tl : ∀ h', gensOk Es (i + 1) H = h' → h' = true → ∀ j K a, (E :: Es)[j + 1]? = some (.vec K a) → g.sh (i + (j + 1)) = .free ∨ ∃ k0 s n, g.sh (i + (j + 1)) = .vec k0 s n ∧ k0 < K := by
   rintro h' rfl h2 j K a hj
   have := gensOk_lower hsh h2 j K a (by simpa using hj)
   rwa [show i + (j + 1) = i + 1 + j by omega]
  cases E with
  | vec K0 b =>
   simp only [gensOk, Bool.and_eq_true] at h
   intro j K a hj
   cases j with
   | zero =>
    simp only [List.getElem?_cons_zero, Option.some.injEq, ETy.vec.injEq] at hj
    obtain ⟨rfl, _⟩ := hj
    have h1 := h.1
    rw [Nat.add_zero, hsh i]
    split at h1
    ·rename_i k a' l hE
     rw [hE]
     exact .inr ⟨k, _, _, rfl, by simpa using h1⟩
    ·rename_i hE; rw [hE]; exact .inl rfl
    ·cases h1
   | succ j => exact tl _ rfl h.2 j K a hj
  | _ =>
   simp only [gensOk] at h
   intro j K a hj
   cases j with
   | zero => simp at hj
   | succ j => exact tl _ rfl h j K a hj
def weak1 (T : Ty) (v : AV) : AV :=
 match T with
 | .imm q g a => match v with
  | .v (.imm p f b) x => if (q && !p) || (g && !f) then .v (.imm p f b) x else .v (.imm q g b) x
  | .v .nils u => if g then .v .nils u else .v (.imm q g a) []
  | v => v
 | _ => v
def weakE : List Nat → List Ty → Nat → List AV → List AV
 | k :: ks, T :: Ts, i, a :: l => if k = i then weak1 T a :: weakE ks Ts (i + 1) l else a :: weakE (k :: ks) (T :: Ts) (i + 1) l
 | _, _, _, l => l
theorem weak1_rep {g : G} {T : Ty} {v : AV} {rv : Value} (h : VRep g v rv) : VRep g (weak1 T v) rv := by
 unfold weak1
 split
 ·rename_i q gg a
  split
  ·rename_i p f b x
   split
   ·exact h
   ·rename_i hc
    have h := (VRep_v (by simp)).1 h
    refine (VRep_v (by simp)).2 ?_
    simp only [TRep, Ty.agg, Ty.sk, Sk.agg, Bool.false_eq_true, if_false, Rep] at h ⊢
    obtain ⟨pv, cap, h1, h2, h3, h4⟩ := h
    simp only [Bool.or_eq_true, Bool.and_eq_true, Bool.not_eq_true', not_or, not_and, Bool.not_eq_false] at hc
    refine ⟨pv, cap, h1, h2, fun hg => h3 (hc.2 hg), fun hne => ?_⟩
    obtain ⟨ad, vs, q1, q2, q3⟩ := h4 hne
    refine ⟨ad, vs, q1, q2, ?_⟩
    rcases q3 with q3 | ⟨hp, q3⟩
    ·exact .inl q3
    ·refine .inr ⟨?_, q3⟩
     cases q with
     | false => rfl
     | true => have := hc.1 rfl; rw [hp] at this; cases this
  ·split
   ·exact h
   ·rename_i hg
    have h := (VRep_v (by simp)).1 h
    refine (VRep_v (by simp)).2 ?_
    simp only [TRep, Ty.agg, Ty.sk, Sk.agg, Bool.false_eq_true, if_false, Rep] at h ⊢
    exact ⟨none, 0, h, by simp, fun hg' => absurd hg' hg, by simp⟩
  ·exact h
 ·exact h
theorem weakE_length : ∀ (ks : List Nat) (Ts : List Ty) (i : Nat) (l : List AV), (weakE ks Ts i l).length = l.length := by
 intro ks Ts i l
 induction l generalizing ks Ts i with
 | nil => cases ks <;> cases Ts <;> rfl
 | cons a l ih =>
  cases ks with
  | nil => cases Ts <;> rfl
  | cons k ks =>
   cases Ts with
   | nil => rfl
   | cons T Ts =>
    simp only [weakE]
    split <;> simp [ih]
theorem weakE_get {g : G} : ∀ (ks : List Nat) (Ts : List Ty) (i : Nat) (l : List AV) (j : Nat) (rv : Value), VRep g (getV l j) rv → VRep g (getV (weakE ks Ts i l) j) rv := by
 intro ks Ts i l
 induction l generalizing ks Ts i with
 | nil => intro j rv h; cases ks <;> cases Ts <;> exact h
 | cons a l ih =>
  intro j rv h
  cases ks with
  | nil => cases Ts <;> exact h
  | cons k ks =>
   cases Ts with
   | nil => exact h
   | cons T Ts =>
    simp only [weakE]
    split
    ·cases j with
     | zero => exact weak1_rep h
     | succ j => exact ih ks Ts (i + 1) j rv h
    ·cases j with
     | zero => exact h
     | succ j => exact ih (k :: ks) (T :: Ts) (i + 1) j rv h
def weakSt (live : List Nat) (Ts : List Ty) (st : St) : St := ⟨weakE live Ts 0 st.env, st.heap⟩
theorem weakSt_rep {g : G} {st : St} {a : Act} {w : World} (h : SRep g st a w) (live : List Nat) (Ts : List Ty) : SRep g (weakSt live Ts st) a w :=
 ⟨⟨by simp only [weakSt]; rw [weakE_length]; exact h.env.1, fun i => weakE_get live Ts 0 st.env i _ (h.env.2 i)⟩, h.heap, h.defers⟩
def VSpec.norm (S : VSpec) (st : St) : Option (HL S.Ts × HD S.Es) :=
 if heapUnder S.Es.length (st.heap.take S.Es.length) then
  match relAll S.Es 0 (cutA S.Es.length st) with
  | some st' => decS S.live S.Ts S.Es S.nt (weakSt S.live S.Ts st')
  | none => none
 else none
def VSpec.enter (S : VSpec) (st : St) : Option (HL S.Ts × HD S.Es) :=
 if gensOk S.Es 0 st.heap && decide (st.heap.length + S.ini.length = S.Es.length) then
  match addIni S.ini (S.Es.drop st.heap.length) st with
  | some st1 => match relAll (S.Es.take st.heap.length) 0 st1 with
   | some st2 => decS S.live S.Ts S.Es S.nt (weakSt S.live S.Ts st2)
   | none => none
  | none => none
 else none
def VSpec.round (S : VSpec) (body : St → Tr (Ex × St)) (xs : HL S.Ts) (hs : HD S.Es) : Tr S.toLSpec.End :=
 (body (S.enc xs hs)).bind fun r => match r.1 with
  | .normal => match S.norm r.2 with
   | some d => .ret (.inl d)
   | none => .fail
  | x => .ret (.inr (x, keepS S.out r.2))
def VSpec.many (S : VSpec) (body : St → Tr (Ex × St)) : Nat → HL S.Ts → HD S.Es → Option (Ex × St)
 | 0, _, _ => none
 | n + 1, xs, hs => match (S.round body xs hs).eval with
  | some (.inl d) => S.many body n d.1 d.2
  | some (.inr r) => some r
  | none => none
def VSpec.fn (S : VSpec) (F : HL S.Ts → HD S.Es → Tr (Ex × St)) (st : St) : Tr (Ex × St) :=
 match S.enter st with
 | some d => F d.1 d.2
 | none => .fail
section
variable {P : Program} {C : Ctx} {L : Loops}
theorem norm_rep {S : VSpec} {g g2 : G} {st : St} {a : Act} {w : World} {d : HL S.Ts × HD S.Es} (hfree : ∀ e, S.Es.length ≤ e → g.sh e = .free) (hlow : Lower g S.Es 0) (hle : g.le g2) (h : SRep g2 st a w) (hn : S.norm st = some d) :
  ∃ g3, g.le g3 ∧ SRep g3 (S.enc d.1 d.2) a w := by
 unfold VSpec.norm at hn
 split at hn
 ·rename_i hc
  obtain ⟨g3, q1, q2⟩ := cutA_rep hfree hle h hc
  split at hn
  ·rename_i st' hst
   obtain ⟨g4, w1, w2⟩ := relAll_rep q1 q2 hst hlow
   have hr := keepS_rep (weakSt_rep w2 S.live S.Ts) S.live
   rw [decS_some hn] at hr
   exact ⟨g4, w1, hr⟩
  ·cases hn
 ·cases hn
theorem enter_rep {S : VSpec} {g : G} {st : St} {a : Act} {w : World} {d : HL S.Ts × HD S.Es} (h : SRep g st a w) (hn : S.enter st = some d) :
  (∃ g3, g.le g3 ∧ SRep g3 (S.enc d.1 d.2) a w) ∧ (∀ e, S.Es.length ≤ e → g.sh e = .free) ∧ Lower g S.Es 0 := by
 unfold VSpec.enter at hn
 split at hn
 ·rename_i hc
  simp only [Bool.and_eq_true, decide_eq_true_eq] at hc
  obtain ⟨hc1, hc2⟩ := hc
  have hlow := gensOk_lower h.heap.sh hc1
  refine ⟨?_, free_past h (by omega), hlow⟩
  split at hn
  ·rename_i st1 h1
   obtain ⟨g1, q1, q2⟩ := addIni_rep h h1
   split at hn
   ·rename_i st2 h2
    have hlow' : Lower g (S.Es.take st.heap.length) 0 := by
     intro j K a hj
     rw [List.getElem?_take] at hj
     split at hj
     ·exact hlow j K a hj
     ·cases hj
    obtain ⟨g2, w1, w2⟩ := relAll_rep q1 q2 h2 hlow'
    have hr := keepS_rep (weakSt_rep w2 S.live S.Ts) S.live
    rw [decS_some hn] at hr
    exact ⟨g2, w1, hr⟩
   ·cases hn
  ·cases hn
 ·cases hn
theorem vmany_sound {rd : Option Nat} (hC : CtxSound P C ∧ CtxLocal C) {c : Code} (hl : LoopsOK P L c) (S : VSpec) {n : Nat} {g g0 : G} {xs : HL S.Ts} {hs : HD S.Es} {st' : St} {a : Act} {w : World} {x : Ex}
  {Q : Exit → Act → World → Prop} (hfree : ∀ e, S.Es.length ≤ e → g.sh e = .free) (hlow : Lower g S.Es 0) (hle0 : g.le g0) (hr : SRep g0 (S.enc xs hs) a w) (he : S.many (bodyK P C L c) n xs hs = some (x, st'))
  (hn : ∀ g' a' w', g.le g' → SRep g' st' a' w' → Q x.out a' w') : (Code.loop c).wpIn (FW rd) 0 P Q a w := by
 refine wpIn_loop_ghost (fun m a w => ∃ g1 xs hs, g.le g1 ∧ SRep g1 (S.enc xs hs) a w ∧ S.many (bodyK P C L c) m xs hs = some (x, st')) n ⟨g0, xs, hs, hle0, hr, he⟩ ?_
 rintro m a w ⟨g1, xs, hs, hle, hs1, he1⟩
 cases m with
 | zero => cases he1
 | succ m =>
  simp only [VSpec.many] at he1
  have key : ∀ r, (S.round (bodyK P C L c) xs hs).eval = some r → ∃ y s2, (bodyK P C L c (S.enc xs hs)).eval = some (y, s2) ∧ (match y with
    | .normal => match S.norm s2 with
     | some d => (Tr.ret (.inl d) : Tr S.toLSpec.End)
     | none => .fail
    | x => .ret (.inr (x, keepS S.out s2))).eval = some r := by
   intro r hr
   obtain ⟨⟨y, s2⟩, h1, h2⟩ := Tr.bind_some hr
   exact ⟨y, s2, h1, h2⟩
  split at he1
  ·rename_i d hd
   obtain ⟨y, s2, h1, h2⟩ := key _ hd
   refine code_sound hC.1 hC.2 c hl hs1 (bodyK_ok h1) ?_
   intro g2 a' w' hle2 hs2
   cases y with
   | normal =>
    simp only at h2
    split at h2
    ·rename_i d' hd'
     have := Tr.ret_some h2
     simp only [Sum.inl.injEq] at this
     subst this
     obtain ⟨g3, q1, q2⟩ := norm_rep hfree hlow (hle.trans hle2) hs2 hd'
     exact ⟨m, Nat.lt_succ_self m, g3, _, _, q1, q2, he1⟩
    ·exact (Tr.fail_some h2).elim
   | exit i => have := Tr.ret_some h2; cases this
   | ret => have := Tr.ret_some h2; cases this
  ·rename_i r hd
   simp only [Option.some.injEq] at he1
   subst he1
   obtain ⟨y, s2, h1, h2⟩ := key _ hd
   refine code_sound hC.1 hC.2 c hl hs1 (bodyK_ok h1) ?_
   intro g2 a' w' hle2 hs2
   cases y with
   | normal =>
    simp only at h2
    split at h2
    ·have := Tr.ret_some h2; cases this
    ·exact (Tr.fail_some h2).elim
   | exit i =>
    have := Tr.ret_some h2
    simp only [Sum.inr.injEq, Prod.mk.injEq] at this
    obtain ⟨rfl, rfl⟩ := this
    exact hn _ _ _ (hle.trans hle2) (keepS_rep hs2 S.out)
   | ret =>
    have := Tr.ret_some h2
    simp only [Sum.inr.injEq, Prod.mk.injEq] at this
    obtain ⟨rfl, rfl⟩ := this
    exact hn _ _ _ (hle.trans hle2) (keepS_rep hs2 S.out)
  ·cases he1
theorem vloop_ok {L' : Loops} (hC : CtxSound P C ∧ CtxLocal C) {c : Code} (hl : LoopsOK P L' c) (S : VSpec) {F : HL S.Ts → HD S.Es → Tr (Ex × St)} {i : Nat}
  (hi : firstReg c = some i) (hL : ∀ st, L i st = S.fn F st) (key : ∀ xs hs r, (F xs hs).eval = some r → ∃ n, S.many (bodyK P C L' c) n xs hs = some r) : LoopOK P L c := by
 intro j hj rd g st a w x st' Q hs he hn
 rw [hi] at hj
 cases hj
 rw [hL] at he
 unfold VSpec.fn at he
 split at he
 ·rename_i d hd
  obtain ⟨n, hm⟩ := key _ _ _ he
  obtain ⟨⟨g3, q1, q2⟩, q3, q4⟩ := enter_rep hs hd
  exact vmany_sound hC hl S q3 q4 q1 q2 hm hn
 ·exact (Tr.fail_some he).elim
theorem vmany_inl {S : VSpec} {body : St → Tr (Ex × St)} {xs : HL S.Ts} {hs : HD S.Es} {d : HL S.Ts × HD S.Es} (h : (S.round body xs hs).eval = some (.inl d)) (n : Nat) : S.many body (n + 1) xs hs = S.many body n d.1 d.2 := by
 simp only [VSpec.many, h]
theorem vmany_inr {S : VSpec} {body : St → Tr (Ex × St)} {xs : HL S.Ts} {hs : HD S.Es} {r : Ex × St} (h : (S.round body xs hs).eval = some (.inr r)) (n : Nat) : S.many body (n + 1) xs hs = some r := by
 simp only [VSpec.many, h]
end
end Vse
end
section
set_option linter.unusedVariables false
namespace Vse
open Go Go.ChangeShapes
def Ty.inn (p : Nat → Bool) (st : Bool) : Ty → Bool
 | .prod a b => a.inn p st && b.inn p st
 | .arr _ a => a.inn p st
 | .imm q _ a => (q || !st) && a.inn p st
 | .tg q a => (q || !st) && a.inn p st
 | .ip q a => (q || !st) && a.inn p st
 | .fn _ c => c.inn p st
 | .vc e _ | .sv e _ | .vp e _ _ | .sub e _ | .ptr e _ | .mp e | .ch e => p e
 | _ => true
structure G.agree (p : Nat → Bool) (st : Bool) (g g' : G) : Prop where
 fr : ∀ b o, g.fr b = some o → g'.fr b = some o
 gr : st = false → ∀ b o, g.gr b = some o → g'.gr b = some o
 at_ : ∀ e, p e = true → g'.sh e = g.sh e ∧ g'.bl e = g.bl e ∧ g'.sz e = g.sz e
theorem inn_Rep {p : Nat → Bool} {st : Bool} {g g' : G} (h : g.agree p st g') : ∀ (T : Ty) (x : T.den) (cs : List Value), T.inn p st = true → (Rep g T x cs → Rep g' T x cs) ∧ (Rep.RepC g T x cs → Rep.RepC g' T x cs) := by
 intro T
 induction T with
 | bool | int | str | und | nils | nilp | nilm | nilf | nili | it => intro x cs _; exact ⟨fun hr => hr, fun hr => by simp [Rep.RepC] at hr⟩
 | mp e | ch e =>
  intro x cs hs
  obtain ⟨h1, h2, h3⟩ := h.at_ e hs
  exact ⟨fun hr => by simpa only [Rep, G.mpr, h1, h2] using hr, fun hr => by simp [Rep.RepC] at hr⟩
 | unit => intro x cs _; exact ⟨fun hr => hr, fun hr => hr⟩
 | prod a b iha ihb =>
  intro x cs hs
  simp only [Ty.inn, Bool.and_eq_true] at hs
  constructor
  ·rintro ⟨c1, c2, rfl, h1, h2⟩
   exact ⟨c1, c2, rfl, (iha _ _ hs.1).1 h1, (ihb _ _ hs.2).1 h2⟩
  ·rintro ⟨v, r, rfl, h1, h2⟩
   refine ⟨v, r, rfl, ?_, (ihb _ _ hs.2).2 h2⟩
   split at h1
   ·obtain ⟨cs, hv, hr⟩ := h1; rw [if_pos (by assumption)]; exact ⟨cs, hv, (iha _ _ hs.1).1 hr⟩
   ·rw [if_neg (by assumption)]; exact (iha _ _ hs.1).1 h1
 | arr k a iha =>
  intro x cs hs
  exact ⟨fun hr => ⟨hr.1, repL_mono (fun y _ cs => (iha y cs hs).1) hr.2⟩, fun hr => by simp [Rep.RepC] at hr⟩
 | imm q f a iha =>
  intro x cs hs
  simp only [Ty.inn, Bool.and_eq_true] at hs
  refine ⟨?_, fun hr => by simp [Rep.RepC] at hr⟩
  rintro ⟨pv, cap, h1, h2, h3, h4⟩
  refine ⟨pv, cap, h1, h2, h3, fun hne => ?_⟩
  obtain ⟨ad, vs, a1, a2, a3⟩ := h4 hne
  refine ⟨ad, vs, a1, repL_mono (fun y _ cs => (iha y cs hs.2).1) a2, ?_⟩
  rcases a3 with a3 | ⟨a3, a4⟩
  ·exact .inl (reads_mono h.fr a3)
  ·refine .inr ⟨a3, reads_mono (h.gr ?_) a4⟩
   have := hs.1
   subst a3
   simpa using this
 | tg q a iha =>
  intro x cs hs
  simp only [Ty.inn, Bool.and_eq_true] at hs
  refine ⟨?_, fun hr => by simp [Rep.RepC] at hr⟩
  rintro ⟨pv, h1, h2, h4⟩
  refine ⟨pv, h1, h2, fun hne => ?_⟩
  obtain ⟨ad, vs, a1, a2, a3⟩ := h4 hne
  refine ⟨ad, vs, a1, repL_mono (fun y _ cs => (iha y cs hs.2).1) a2, ?_⟩
  rcases a3 with a3 | ⟨a3, a4⟩
  ·exact .inl (reads_mono h.fr a3)
  ·refine .inr ⟨a3, reads_mono (h.gr ?_) a4⟩
   have := hs.1
   subst a3
   simpa using this
 | ip q a iha =>
  intro x cs hs
  simp only [Ty.inn, Bool.and_eq_true] at hs
  refine ⟨?_, fun hr => by simp [Rep.RepC] at hr⟩
  rintro ⟨ad, vs, h1, h2, h3⟩
  refine ⟨ad, vs, h1, (iha _ _ hs.2).1 h2, ?_⟩
  rcases h3 with a3 | ⟨a3, a4⟩
  ·exact .inl (reads_mono h.fr a3)
  ·refine .inr ⟨a3, reads_mono (h.gr ?_) a4⟩
   have := hs.1
   subst a3
   simpa using this
 | vc i gn =>
  intro x cs hs
  obtain ⟨h1, h2, h3⟩ := h.at_ i hs
  exact ⟨fun hr => by simpa only [Rep, G.vcr, h1, h2, h3] using hr, fun hr => by simp [Rep.RepC] at hr⟩
 | sv i gn =>
  intro x cs hs
  obtain ⟨h1, h2, h3⟩ := h.at_ i hs
  exact ⟨fun hr => by simpa only [Rep, G.vcr, h1, h2, h3] using hr, fun hr => by simp [Rep.RepC] at hr⟩
 | vp i gn p =>
  intro x cs hs
  obtain ⟨h1, h2, h3⟩ := h.at_ i hs
  exact ⟨fun hr => by simpa only [Rep, G.vcr, h1, h2, h3] using hr, fun hr => by simp [Rep.RepC] at hr⟩
 | sub i p =>
  intro x cs hs
  obtain ⟨h1, h2, h3⟩ := h.at_ i hs
  exact ⟨fun hr => by simpa only [Rep, G.bxr, h1, h2, h3] using hr, fun hr => by simp [Rep.RepC] at hr⟩
 | ptr i p =>
  intro x cs hs
  obtain ⟨h1, h2, h3⟩ := h.at_ i hs
  exact ⟨fun hr => by simpa only [Rep, G.bxr, h1, h2, h3] using hr, fun hr => by simp [Rep.RepC] at hr⟩
 | fn f c ihc =>
  intro x cs hs
  refine ⟨?_, fun hr => by simp [Rep.RepC] at hr⟩
  rintro ⟨vs, h1, h2⟩
  exact ⟨vs, h1, (ihc _ _ hs).2 h2⟩
theorem inn_TRep {p : Nat → Bool} {st : Bool} {g g' : G} (h : g.agree p st g') {T : Ty} {x : T.den} {v : Value} (hs : T.inn p st = true) (hr : TRep g T x v) : TRep g' T x v := by
 unfold TRep at hr ⊢
 split
 ·rw [if_pos (by assumption)] at hr; obtain ⟨cs, h1, h2⟩ := hr; exact ⟨cs, h1, (inn_Rep h _ _ _ hs).1 h2⟩
 ·rw [if_neg (by assumption)] at hr; exact (inn_Rep h _ _ _ hs).1 hr
theorem inn_tup {p : Nat → Bool} {st : Bool} {g g' : G} (h : g.agree p st g') : ∀ {l : List TV} {vs : List Value}, (l.all fun t => t.T.inn p st) = true → tupRep g l vs → tupRep g' l vs
 | [], _, _, hr => hr
 | t :: ts, _, hs, ⟨v, r, h1, h2, h3⟩ => by
  simp only [List.all_cons, Bool.and_eq_true] at hs
  exact ⟨v, r, h1, inn_TRep h hs.1 h2, inn_tup h hs.2 h3⟩
def AV.inn (p : Nat → Bool) (st : Bool) : AV → Bool
 | .v T _ => T.inn p st
 | .tup l => l.all fun t => t.T.inn p st
theorem inn_VRep {p : Nat → Bool} {st : Bool} {g g' : G} (h : g.agree p st g') {a : AV} {v : Value} (hs : a.inn p st = true) (hr : VRep g a v) : VRep g' a v := by
 cases a with
 | v T x =>
  cases T <;> first | trivial | exact inn_TRep h hs hr
 | tup l => obtain ⟨vs, h1, h2⟩ := hr; exact ⟨vs, h1, inn_tup h hs h2⟩
theorem inn_args {p : Nat → Bool} {st : Bool} {g g' : G} (h : g.agree p st g') : ∀ {l : List AV} {vs : List Value}, (l.all fun a => a.inn p st) = true → argsRep g l vs → argsRep g' l vs
 | [], _, _, hr => hr
 | t :: ts, _, hs, ⟨v, r, h1, h2, h3⟩ => by
  simp only [List.all_cons, Bool.and_eq_true] at hs
  exact ⟨v, r, h1, inn_VRep h hs.1 h2, inn_args h hs.2 h3⟩
def Entry.inn (p : Nat → Bool) (st : Bool) : Entry → Bool
 | .box T _ => T.inn p st
 | .vec _ a _ => a.inn p st
 | .map K V _ => K.inn p st && V.inn p st
 | _ => true
theorem inn_ERep {p : Nat → Bool} {st : Bool} {g g' : G} (h : g.agree p st g') {e : Nat} {w : World} {E : Entry} (hp : p e = true) (hs : E.inn p st = true) (hr : ERep g e w E) : ERep g' e w E := by
 obtain ⟨_, hb, hz⟩ := h.at_ e hp
 cases E with
 | free => trivial
 | dead => trivial
 | box T x =>
  obtain ⟨b, cs, t, fz, q1, q2, q3, q4⟩ := hr
  exact ⟨b, cs, t, fz, hb.trans q1, q2, q3, (inn_Rep h _ _ _ hs).1 q4⟩
 | map K V l =>
  simp only [Entry.inn, Bool.and_eq_true] at hs
  obtain ⟨b, es, clock, q1, q2, q3⟩ := hr
  exact ⟨b, es, clock, hb.trans q1, q2, mapRep_mono (fun _ _ => inn_TRep h hs.1) (fun _ _ => inn_TRep h hs.2) q3⟩
 | itr s p =>
  obtain ⟨q0, b, q1, q2⟩ := hr
  exact ⟨q0, b, hb.trans q1, q2⟩
 | vec k a l =>
  rcases hr with ⟨q1, q2⟩ | ⟨b, cs, t, fz, vs, r, q1, q2, q3, q4, q5, q6, q7⟩
  ·exact .inl ⟨hb.trans q1, q2⟩
  ·exact .inr ⟨b, cs, t, fz, vs, r, hb.trans q1, q2, q3, hz.trans q4, q5, repL_mono (fun y _ cs => (inn_Rep h a y cs hs).1) q6, q7⟩
def mem (ids : List Nat) (e : Nat) : Bool := ids.contains e
def partH (ids : List Nat) (H : Heap) (n : Nat) : Heap := (List.range n).map fun e => if mem ids e then getE H e else .dead
theorem getE_map {f : Nat → Entry} : ∀ (n k e : Nat), getE ((List.range' k n).map f) e = if e < n then f (k + e) else .free
 | 0, k, e => by simp [getE]
 | n + 1, k, 0 => by simp [List.range'_succ, getE]
 | n + 1, k, e + 1 => by
  rw [List.range'_succ, List.map_cons]
  simp only [getE]
  rw [getE_map n (k + 1) e]
  simp only [Nat.add_lt_add_iff_right, show k + 1 + e = k + (e + 1) by omega]
theorem getE_partH (ids : List Nat) (H : Heap) (n e : Nat) : getE (partH ids H n) e = if e < n then (if mem ids e then getE H e else .dead) else .free := by
 unfold partH
 rw [List.range_eq_range', getE_map]
 simp
noncomputable def G.part (g : G) (H : Heap) (w : World) (ids : List Nat) (n : Nat) : G where
 fr := g.fr
 gr := fun b => open Classical in if (g.gr b).isSome then g.gr b else if ∃ e, mem ids e = false ∧ (getE H e).live = true ∧ g.bl e = some b then w.heap[b]? else none
 bl := g.bl
 sz := g.sz
 sh := fun e => if e < n then (if mem ids e then g.sh e else .dead) else .free
 ext := g.ext
variable {g : G} {H : Heap} {w : World} {ids : List Nat} {n : Nat}
theorem part_gr_mono {b : Nat} {o : Obj} (h : g.gr b = some o) : (g.part H w ids n).gr b = some o := by simp [G.part, h]
theorem part_gr_lent (hI : HInv g H w) {e b : Nat} (hm : mem ids e = false) (hl : (getE H e).live = true) (hb : g.bl e = some b) : (g.part H w ids n).gr b = w.heap[b]? := by
 simp only [G.part]
 rw [(hI.own _ _ hl hb).2]
 simp only [Option.isSome_none, Bool.false_eq_true, if_false]
 rw [if_pos ⟨e, hm, hl, hb⟩]
theorem part_agree (hids : ∀ e, mem ids e = true → e < n) : g.agree (mem ids) false (g.part H w ids n) where
 fr _ _ h := h
 gr _ _ _ h := part_gr_mono h
 at_ e he := by simp [G.part, he, hids e he]
theorem part_inv (hI : HInv g H w) (hids : ∀ e, mem ids e = true → e < n) (hcl : ∀ e, mem ids e = true → (getE H e).inn (mem ids) false = true) : HInv (g.part H w ids n) (partH ids H n) w := by
 have hlive : ∀ e, (getE (partH ids H n) e).live = true → mem ids e = true ∧ (getE H e).live = true := by
  intro e h
  rw [getE_partH] at h
  split at h
  ·split at h
   ·exact ⟨by assumption, h⟩
   ·cases h
  ·cases h
 refine ⟨?_, hI.fr, ?_, ?_, ?_, ?_, ?_, hI.ext⟩
 ·intro e
  rw [getE_partH]
  simp only [G.part]
  split
  ·split
   ·exact hI.sh e
   ·rfl
  ·rfl
 ·intro b o h
  simp only [G.part] at h
  split at h
  ·exact hI.gr _ _ h
  ·split at h
   ·exact h
   ·cases h
 ·intro e
  rw [getE_partH]
  split
  ·split
   ·rename_i hm
    exact inn_ERep (part_agree hids) hm (hcl e hm) (hI.ent e)
   ·trivial
  ·trivial
 ·intro e b hl hb
  obtain ⟨hm, hl⟩ := hlive e hl
  have hb : g.bl e = some b := hb
  refine ⟨(hI.own e b hl hb).1, ?_⟩
  simp only [G.part]
  rw [(hI.own e b hl hb).2]
  simp only [Option.isSome_none, Bool.false_eq_true, if_false]
  rw [if_neg]
  rintro ⟨e', hm', hl', hb'⟩
  have := hI.dis e e' b hl hl' hb hb'
  subst this
  rw [hm] at hm'; cases hm'
 ·intro b o o' h h'
  simp only [G.part] at h h'
  split at h'
  ·exact hI.sep _ _ _ h h'
  ·split at h'
   ·rename_i he
    obtain ⟨e', hm', hl', hb'⟩ := he
    rw [(hI.own _ _ hl' hb').1] at h; cases h
   ·cases h'
 ·intro e e' b hl hl' hb hb'
  exact hI.dis e e' b (hlive e hl).2 (hlive e' hl').2 hb hb'
def turned (ids : List Nat) (n N : Nat) (e : Nat) : Bool := mem ids e || (decide (n ≤ e) && decide (e < n + N))
def G.join (g g1 : G) (ids : List Nat) (n N : Nat) : G where
 fr := g1.fr
 gr := g.gr
 ext := g.ext
 sh := fun e => if turned ids n N e then g1.sh e else g.sh e
 bl := fun e => if turned ids n N e then g1.bl e else g.bl e
 sz := fun e => if turned ids n N e then g1.sz e else g.sz e
theorem join_inv {g1 : G} {H1 H2 : Heap} {w1 : World} {N : Nat} (hI : HInv g H w) (hids : ∀ e, mem ids e = true → e < n) (hfree : ∀ e, n ≤ e → e < n + N → g.sh e = .free) (hle : (g.part H w ids n).le g1) (hI1 : HInv g1 H1 w1)
  (hinn : ∀ e, turned ids n N e = true → (getE H1 e).inn (turned ids n N) true = true) (h2 : ∀ e, getE H2 e = if turned ids n N e then getE H1 e else getE H e) :
  g.le (g.join g1 ids n N) ∧ HInv (g.join g1 ids n N) H2 w1 ∧ g1.agree (turned ids n N) true (g.join g1 ids n N) := by
 have hag : g1.agree (turned ids n N) true (g.join g1 ids n N) := ⟨fun _ _ h => h, (fun h => by cases h), fun e he => by simp [G.join, he]⟩
 have hgr : g1.gr = (g.part H w ids n).gr := hle.gr
 have hle2 : g.le (g.join g1 ids n N) := by
  refine ⟨hle.fr, rfl, rfl, fun e => ?_⟩
  by_cases ht : turned ids n N e = true
  ·have hj : (g.join g1 ids n N).sh e = g1.sh e ∧ (g.join g1 ids n N).bl e = g1.bl e ∧ (g.join g1 ids n N).sz e = g1.sz e := by simp [G.join, ht]
   by_cases hm : mem ids e = true
   ·have hp : (g.part H w ids n).sh e = g.sh e := by simp [G.part, hids e hm, hm]
    cases hle.ent e with
    | same a b c => exact .same (hj.1.trans (a.trans hp)) (hj.2.1.trans b) (hj.2.2.trans c)
    | dead a => exact .dead (hj.1.trans a)
    | grew a b c => exact .grew (hp ▸ a) (hj.1.trans b) c
    | new a => exact .new (hp ▸ a)
   ·have : n ≤ e ∧ e < n + N := by simpa [turned, hm] using ht
    exact .new (hfree e this.1 this.2)
  ·exact .same (by simp [G.join, ht]) (by simp [G.join, ht]) (by simp [G.join, ht])
 have hmem : ∀ {e}, turned ids n N e = false → mem ids e = false := by
  intro e h
  simp only [turned, Bool.or_eq_false_iff] at h
  exact h.1
 have lent : ∀ {e b}, turned ids n N e = false → (getE H e).live = true → g.bl e = some b → ∃ o, w.heap[b]? = some o ∧ g1.gr b = some o := by
  intro e b ht hl hb
  obtain ⟨o0, hx⟩ := hI.there hl hb
  exact ⟨_, hx, by rw [hgr, part_gr_lent hI (hmem ht) hl hb, hx]⟩
 refine ⟨hle2, ⟨?_, hI1.fr, ?_, ?_, ?_, ?_, ?_, ?_⟩, hag⟩
 ·intro e
  rw [h2]
  simp only [G.join]
  split
  ·exact hI1.sh e
  ·exact hI.sh e
 ·intro b o h
  have h : g.gr b = some o := h
  refine hI1.gr b o ?_
  rw [hgr]
  exact part_gr_mono h
 ·intro e
  rw [h2]
  split
  ·rename_i ht
   exact inn_ERep hag ht (hinn e ht) (hI1.ent e)
  ·rename_i ht
   have ht : turned ids n N e = false := by simpa using ht
   by_cases hl : (getE H e).live = true
   ·refine ERep_mono hle2 (by simp [G.join, ht]) (by simp [G.join, ht]) (ERep_world (fun b hb o ho => ?_) (hI.ent e))
    obtain ⟨o', q1, q2⟩ := lent ht hl hb
    rw [q1] at ho; cases ho
    exact hI1.gr b _ q2
   ·cases hE : getE H e with
    | free => trivial
    | dead => trivial
    | box _ _ => rw [hE] at hl; exact absurd rfl hl
    | vec _ _ _ => rw [hE] at hl; exact absurd rfl hl
    | map _ _ _ => rw [hE] at hl; exact absurd rfl hl
    | itr _ _ => rw [hE] at hl; exact absurd rfl hl
 ·intro e b hl hb
  rw [h2] at hl
  cases ht : turned ids n N e with
  | true =>
   rw [ht] at hl
   simp only [if_true] at hl
   have hb : g1.bl e = some b := by simpa [G.join, ht] using hb
   obtain ⟨q1, q2⟩ := hI1.own e b hl hb
   refine ⟨q1, ?_⟩
   refine Option.eq_none_iff_forall_ne_some.2 fun o hc => ?_
   have hc : g.gr b = some o := hc
   rw [hgr, part_gr_mono hc] at q2; cases q2
  | false =>
   rw [ht] at hl
   simp only [Bool.false_eq_true, if_false] at hl
   have hb : g.bl e = some b := by simpa [G.join, ht] using hb
   refine ⟨?_, (hI.own e b hl hb).2⟩
   obtain ⟨o, q1, q2⟩ := lent ht hl hb
   refine Option.eq_none_iff_forall_ne_some.2 fun o' hc => ?_
   exact hI1.sep b o' o hc q2
 ·intro b o o' h h'
  have h' : g.gr b = some o' := h'
  exact hI1.sep b o o' h (by rw [hgr]; exact part_gr_mono h')
 ·intro e e' b hl hl' hb hb'
  rw [h2] at hl hl'
  cases ht : turned ids n N e with
  | true =>
   rw [ht] at hl
   simp only [if_true] at hl
   have hb : g1.bl e = some b := by simpa [G.join, ht] using hb
   cases ht' : turned ids n N e' with
   | true =>
    rw [ht'] at hl'
    simp only [if_true] at hl'
    have hb' : g1.bl e' = some b := by simpa [G.join, ht'] using hb'
    exact hI1.dis e e' b hl hl' hb hb'
   | false =>
    rw [ht'] at hl'
    simp only [Bool.false_eq_true, if_false] at hl'
    have hb' : g.bl e' = some b := by simpa [G.join, ht'] using hb'
    obtain ⟨o, q1, q2⟩ := lent ht' hl' hb'
    have := (hI1.own e b hl hb).2
    rw [this] at q2; cases q2
  | false =>
   rw [ht] at hl
   simp only [Bool.false_eq_true, if_false] at hl
   have hb : g.bl e = some b := by simpa [G.join, ht] using hb
   cases ht' : turned ids n N e' with
   | true =>
    rw [ht'] at hl'
    simp only [if_true] at hl'
    have hb' : g1.bl e' = some b := by simpa [G.join, ht'] using hb'
    obtain ⟨o, q1, q2⟩ := lent ht hl hb
    have := (hI1.own e' b hl' hb').2
    rw [this] at q2; cases q2
   | false =>
    rw [ht'] at hl'
    simp only [Bool.false_eq_true, if_false] at hl'
    have hb' : g.bl e' = some b := by simpa [G.join, ht'] using hb'
    exact hI.dis e e' b hl hl' hb hb'
 ·exact (by have := hI1.ext; rw [hle.ext] at this; exact this)
def Ty.ents : Ty → List Nat
 | .prod a b => a.ents ++ b.ents
 | .arr _ a => a.ents
 | .imm _ _ a => a.ents
 | .tg _ a => a.ents
 | .ip _ a => a.ents
 | .fn _ c => c.ents
 | .vc e _ | .sv e _ | .vp e _ _ | .sub e _ | .ptr e _ | .mp e | .ch e => [e]
 | _ => []
def AV.ents : AV → List Nat
 | .v T _ => T.ents
 | .tup l => l.flatMap fun t => t.T.ents
def Entry.ents : Entry → List Nat
 | .box T _ => T.ents
 | .vec _ a _ => a.ents
 | .map K V _ => K.ents ++ V.ents
 | _ => []
def reach : Nat → Heap → List Nat → List Nat
 | 0, _, l => l
 | k + 1, H, l => reach k H (l ++ (ents H l).flatMap Entry.ents)
def reachE : Nat → List Entry → List Nat → List Nat
 | 0, _, l => l
 | k + 1, es, l => reachE k es (l ++ (es.take l.length).flatMap Entry.ents)
theorem reach_prefix : ∀ (k : Nat) (H : Heap) (l : List Nat), ∃ m, reach k H l = l ++ m
 | 0, _, l => ⟨[], by simp [reach]⟩
 | k + 1, H, l => by
  obtain ⟨m, hm⟩ := reach_prefix k H (l ++ (ents H l).flatMap Entry.ents)
  exact ⟨(ents H l).flatMap Entry.ents ++ m, by simp only [reach, hm, List.append_assoc]⟩
theorem reach_reachE (H : Heap) : ∀ (k : Nat) (l : List Nat), reachE k (ents H (reach k H l)) l = reach k H l
 | 0, l => rfl
 | k + 1, l => by
  simp only [reach, reachE]
  obtain ⟨m, hm⟩ := reach_prefix k H (l ++ (ents H l).flatMap Entry.ents)
  have : (ents H (reach k H (l ++ (ents H l).flatMap Entry.ents))).take l.length = ents H l := by
   rw [hm, List.append_assoc, ents_append, ← ents_length H l, List.take_left]
  rw [this]
  exact reach_reachE H k _
theorem reach_same {H H' : Heap} : ∀ (k : Nat) (l : List Nat), (∀ i ∈ reach k H l, getE H' i = getE H i) → reach k H' l = reach k H l
 | 0, l, _ => rfl
 | k + 1, l, h => by
  simp only [reach] at h ⊢
  obtain ⟨m, hm⟩ := reach_prefix k H (l ++ (ents H l).flatMap Entry.ents)
  have hl : ents H' l = ents H l := ents_congr fun i hi => h i (by rw [hm]; simp [hi])
  rw [hl]
  exact reach_same k _ h
def putE (ids : List Nat) (es : List Entry) (e : Nat) : Entry :=
 match ids, es with
 | i :: ids, x :: es => if i = e then x else putE ids es e
 | _, _ => .dead
theorem putE_ents (H : Heap) : ∀ (ids : List Nat) (e : Nat), putE ids (ents H ids) e = if mem ids e then getE H e else .dead
 | [], e => by simp [putE, ents, mem]
 | i :: ids, e => by
  simp only [ents, putE]
  by_cases h : i = e
  ·subst h; simp [mem]
  ·have h' : ¬ e = i := fun x => h x.symm
   rw [if_neg h, putE_ents H ids e]
   simp [mem, h']
def news (ids : List Nat) (n N : Nat) (H1 : Heap) : List (Nat × Entry) := (ids ++ List.range' n N).map fun e => (e, getE H1 e)
theorem getE_upd_map (H1 : Heap) : ∀ (l : List Nat) (H : Heap) (e : Nat), (∀ i ∈ l, i < H.length) → getE (upd H (l.map fun i => (i, getE H1 i))) e = if l.contains e then getE H1 e else getE H e
 | [], H, e, _ => by simp [upd]
 | i :: l, H, e, h => by
  simp only [List.map_cons, upd]
  rw [getE_upd_map H1 l (setE H i (getE H1 i)) e (fun j hj => by rw [setE_length]; exact h j (by simp [hj]))]
  by_cases hc : l.contains e = true
  ·rw [if_pos hc, if_pos (by simp only [List.contains_cons, hc, Bool.or_true])]
  ·rw [if_neg hc, getE_setE]
   by_cases he : e = i
   ·subst he
    rw [if_pos ⟨rfl, h e (by simp)⟩, if_pos (by simp)]
   ·rw [if_neg (fun x => he x.1), if_neg]
    simp only [List.contains_cons, Bool.or_eq_true, beq_iff_eq, not_or]
    exact ⟨he, by simpa using hc⟩
theorem mem_turned (ids : List Nat) (n N e : Nat) : (ids ++ List.range' n N).contains e = turned ids n N e := by
 rw [Bool.eq_iff_iff]
 simp [turned, mem]
def CSpec.ent (P : Program) (C : Ctx) (L : Loops) (k N : Nat) (fn : Func) : CSpec :=
 ⟨N, fun vs H => reach k H (vs.flatMap AV.ents), fun vs H => reach k H (vs.flatMap AV.ents), fun vs es fr =>
  let ids := reachE k es (vs.flatMap AV.ents)
  if (ids.all fun e => decide (e < fr)) && (es.all fun E => E.inn (mem ids) false) && (vs.all fun v => v.inn (mem ids) false) then
   (fnK P C L fn vs ((List.range fr).map (putE ids es))).bind fun r =>
    if decide (r.2.length ≤ fr + N) && ((ids ++ List.range' fr N).all fun e => (getE r.2 e).inn (turned ids fr N) true) && r.1.inn (turned ids fr N) true then
     .ret (r.1, news ids fr N r.2) else .fail
  else .fail⟩
theorem ent_local (P : Program) (C : Ctx) (L : Loops) (k N : Nat) (fn : Func) : CLocal (CSpec.ent P C L k N fn) where
 same vs H H' h := ⟨reach_same k _ h, reach_same k _ h⟩
 turns vs H fr out h x hx := by
  simp only [CSpec.ent] at h
  rw [reach_reachE] at h
  split at h
  ·obtain ⟨r, h1, h2⟩ := Tr.bind_some h
   split at h2
   ·have := Tr.ret_some h2
    subst this
    simp only [news, List.mem_map, List.mem_append, List.mem_range'] at hx
    obtain ⟨e, he, rfl⟩ := hx
    rcases he with he | ⟨i, hi, rfl⟩
    ·exact .inl he
    ·refine .inr ⟨by simp only; omega, ?_⟩
     show fr + 1 * i < fr + N
     omega
   ·exact (Tr.fail_some h2).elim
  ·exact (Tr.fail_some h).elim
theorem freeAt_lt {H : Heap} : ∀ {N fr : Nat}, freeAt H fr N = true → N = 0 ∨ fr + N ≤ H.length
 | 0, _, _ => .inl rfl
 | N + 1, fr, h => by
  simp only [freeAt, Bool.and_eq_true] at h
  have h1 := (isFree_spec h.1).2
  rcases freeAt_lt h.2 with h2 | h2
  ·exact .inr (by omega)
  ·exact .inr (by omega)
theorem freeAt_get {H : Heap} : ∀ {N fr : Nat}, freeAt H fr N = true → ∀ e, fr ≤ e → e < fr + N → getE H e = .free
 | 0, fr, _, e, h1, h2 => by omega
 | N + 1, fr, h, e, h1, h2 => by
  simp only [freeAt, Bool.and_eq_true] at h
  by_cases he : e = fr
  ·subst he; exact (isFree_spec h.1).1
  ·exact freeAt_get h.2 e (by omega) (by omega)
theorem ents_all {H : Heap} {p : Entry → Bool} : ∀ {ids : List Nat}, (ents H ids).all p = true → ∀ e, mem ids e = true → p (getE H e) = true
 | [], _, e, h => by simp [mem] at h
 | i :: ids, h, e, he => by
  simp only [ents, List.all_cons, Bool.and_eq_true] at h
  simp only [mem, List.contains_cons, Bool.or_eq_true, beq_iff_eq] at he
  rcases he with rfl | he
  ·exact h.1
  ·exact ents_all h.2 e he
theorem ent_sound {P : Program} {C : Ctx} {L : Loops} (hC : CtxSound P C ∧ CtxLocal C) {f : Nat} {fn : Func} (hf : P.funcs[f]? = some fn) (hside : ((fn.name == "runtime.NumGoroutine") == false && fn.body.isSome) = true)
  (hl : ∀ b ∈ loopsOf (bodyOf fn), LoopOK P L b) (k N : Nat) (hN : 0 < N) : CSound P f (CSpec.ent P C L k N fn) ∧ CLocal (CSpec.ent P C L k N fn) := by
 simp only [Bool.and_eq_true, beq_iff_eq] at hside
 obtain ⟨hname, hb⟩ := hside
 obtain ⟨body, hb⟩ := Option.isSome_iff_exists.1 hb
 have hl : LoopsOK P L body := by
  refine loopsOK_all ?_
  unfold bodyOf at hl
  rw [hb] at hl
  exact hl
 refine ⟨⟨fun args w => callFunc_enter hf hname hb args w, ?_⟩, ent_local P C L k N fn⟩
 intro g H w vs rvs fr out hI hargs hfree he
 simp only [CSpec.ent] at he hfree
 rw [reach_reachE] at he
 split at he
 ·rename_i hc
  simp only [Bool.and_eq_true] at hc
  obtain ⟨⟨c1, c2⟩, c3⟩ := hc
  have hids : ∀ e, mem (reach k H (vs.flatMap AV.ents)) e = true → e < fr := fun e he => by
   have := List.all_eq_true.1 c1 e (by simpa [mem] using he)
   simpa using this
  have hcl := ents_all c2
  obtain ⟨r, h1, h2⟩ := Tr.bind_some he
  split at h2
  ·rename_i hd
   have := Tr.ret_some h2
   subst this
   simp only [Bool.and_eq_true, decide_eq_true_eq] at hd
   obtain ⟨⟨d1, d2⟩, d3⟩ := hd
   have hH : (List.range fr).map (putE (reach k H (vs.flatMap AV.ents)) (ents H (reach k H (vs.flatMap AV.ents)))) = partH (reach k H (vs.flatMap AV.ents)) H fr := by
    unfold partH
    exact List.map_congr_left fun e _ => putE_ents H _ e
   rw [hH] at h1
   refine (fn_sound hC.1 hC.2 hf hb hl (part_inv hI hids hcl) (inn_args (part_agree hids) c3 hargs) (fnK_ok h1)).mono ?_
   rintro e w' ⟨rv, g1, rfl, hle, hI1, hv⟩
   have hlen := (freeAt_lt hfree).resolve_left (by omega)
   have hin : ∀ i ∈ (reach k H (vs.flatMap AV.ents)) ++ List.range' fr N, i < H.length := by
    intro i hi
    simp only [List.mem_append, List.mem_range'] at hi
    rcases hi with hi | ⟨j, hj, rfl⟩
    ·have := hids i (by simpa [mem] using hi); omega
    ·omega
   obtain ⟨q1, q2, q3⟩ := join_inv (H2 := upd H (news (reach k H (vs.flatMap AV.ents)) fr N r.2)) hI hids (fun e h1 h2 => by rw [hI.sh, freeAt_get hfree e h1 h2]; rfl) hle hI1
    (fun e he => by
     have := List.all_eq_true.1 d2 e (by rw [← mem_turned] at he; simpa using he)
     exact this)
    (fun e => by
     unfold news
     rw [getE_upd_map _ _ _ _ hin, mem_turned])
   exact ⟨rv, _, rfl, q1, q2, inn_VRep q3 d3 hv⟩
  ·exact (Tr.fail_some h2).elim
 ·exact (Tr.fail_some he).elim
end Vse
end
section
set_option linter.unusedVariables false
namespace Vse
open Go
def nei (f t : Nat) (e : Nat) : Bool := decide (e ≠ f) && decide (e ≠ t)
def Ty.okM (f k t : Nat) : Ty → Bool
 | .vc i j => (decide (i = f) && decide (j = k)) || nei f t i
 | .prod a b => a.okM f k t && b.okM f k t
 | T => T.inn (nei f t) false
def Ty.mv (f t K : Nat) : Ty → Ty
 | .vc i j => .vc (if i = f then t else i) (if i = f then K else j)
 | .prod a b => .prod (a.mv f t K) (b.mv f t K)
 | T => T
def mvD (f t K : Nat) : (T : Ty) → T.den → (T.mv f t K).den
 | .prod a b, x => (mvD f t K a x.1, mvD f t K b x.2)
 | .vc _ _, _ => ()
 | .bool, x => x
 | .int _, x => x
 | .str, x => x
 | .unit, x => x
 | .und, x => x
 | .arr _ _, x => x
 | .imm _ _ _, x => x
 | .tg _ _, x => x
 | .nils, x => x
 | .sv _ _, x => x
 | .vp _ _ _, x => x
 | .sub _ _, x => x
 | .nilp, x => x
 | .ptr _ _, x => x
 | .ip _ _, x => x
 | .nilm, x => x
 | .mp _, x => x
 | .nilf, x => x
 | .fn _ _, x => x
 | .nili, x => x
 | .it _, x => x
 | .ch _, x => x
structure G.moved (f k t K : Nat) (g g' : G) : Prop where
 ag : g.agree (nei f t) false g'
 vec : ∃ s n, g.sh f = .vec k s n ∧ g'.sh t = .vec K s n
 bl : g'.bl t = g.bl f
 sz : g'.sz t = g.sz f
def AV.mv (f k t K : Nat) : AV → AV
 | .v T x => if T.okM f k t then .v (T.mv f t K) (mvD f t K T x) else AV.und
 | .tup l => if l.all fun v => v.T.inn (nei f t) false then .tup l else AV.und
def Entry.mv (f t K : Nat) : Entry → Entry
 | .box T x => .box (T.mv f t K) (mvD f t K T x)
 | e => e
def Entry.okM (f k t : Nat) : Entry → Bool
 | .box T _ => T.okM f k t
 | .vec _ a _ => a.inn (nei f t) false
 | .map K V _ => K.inn (nei f t) false && V.inn (nei f t) false
 | _ => true
def movSt (f t K : Nat) (st : St) : Option St :=
 match getE st.heap f with
 | .vec k a l => if decide (t < st.heap.length) && st.heap.all (Entry.okM f k t) then
   some ⟨st.env.map (AV.mv f k t K), setE (setE (st.heap.map (Entry.mv f t K)) f .dead) t (.vec K a l)⟩ else none
 | _ => none
end Vse
end
section
set_option linter.unusedVariables false
namespace Vse
open Go
def unifT : Ty → Ty → List (Nat × Nat × Nat)
 | .vc i _, .vc e K => [(i, e, K)]
 | .prod a b, .prod c d => unifT a c ++ unifT b d
 | _, _ => []
def unifV (v : AV) (T : Ty) : List (Nat × Nat × Nat) :=
 match v with
 | .v U _ => unifT U T
 | .tup _ => []
def unifE : List Nat → List Ty → List AV → List (Nat × Nat × Nat)
 | k :: ks, T :: Ts, env => unifV (getV env k) T ++ unifE ks Ts env
 | _, _, _ => []
def unifH : List ETy → Heap → List (Nat × Nat × Nat)
 | .box T :: Es, .box U _ :: H => unifT U T ++ unifH Es H
 | _ :: Es, _ :: H => unifH Es H
 | _, _ => []
def dedup : List (Nat × Nat × Nat) → List (Nat × Nat × Nat)
 | [] => []
 | x :: l => x :: (dedup l).filter (fun y => !(y == x))
def movAll : List (Nat × Nat × Nat) → St → Option St
 | [], st => some st
 | (f, t, K) :: l, st => match movSt f t K st with
  | some st' => movAll l st'
  | none => none
def movOk (n : Nat) (Es : List ETy) (m : Nat × Nat × Nat) : Bool :=
 (decide (m.1 = m.2.1) || decide (n ≤ m.1)) && (match Es[m.2.1]? with
  | some (.vec K _) => decide (K = m.2.2)
  | _ => false)
def addIniB (b m K : Nat) (a : Ty) (st : St) : Option St :=
 match getE st.heap b with
 | .box T x => match getP T x [.fld m] () with
  | some t => if t.T = .nils then (match setP T x [.fld m] () ⟨.vc st.heap.length K, ()⟩ with
   | some r => if (poff T.sk [.fld m] ()).isSome then some ⟨st.env, setE st.heap b (.box r.T r.x) ++ [.vec K a []]⟩ else none
   | none => none) else none
  | none => none
 | _ => none
theorem splice_same {cs : List Value} {off n : Nat} (h : off + n ≤ cs.length) : splice cs off (seg cs off n) = cs := by
 unfold splice seg
 have : ((cs.drop off).take n).length = n := by rw [List.length_take, List.length_drop]; omega
 rw [this, List.append_assoc, ← List.drop_drop, List.take_append_drop, List.take_append_drop]
theorem setE_append (H : Heap) (b : Nat) (E : Entry) (l : Heap) (h : b < H.length) : setE (H ++ l) b E = setE H b E ++ l := by
 induction H generalizing b with
 | nil => simp at h
 | cons x H ih =>
  cases b with
  | zero => rfl
  | succ b => simp only [List.cons_append, setE]; rw [ih b (by simpa using h)]
theorem addIniB_rep {g : G} {st st' : St} {a : Act} {w : World} {b m K : Nat} {A : Ty} (h : SRep g st a w) (hs : addIniB b m K A st = some st') : ∃ g', g.le g' ∧ SRep g' st' a w := by
 unfold addIniB at hs
 split at hs
 ·rename_i T x hE
  split at hs
  ·rename_i t ht
   split at hs
   ·rename_i hn
    split at hs
    ·rename_i r hr
     split at hs
     ·rename_i hp
      simp only [Option.some.injEq] at hs
      subst hs
      obtain ⟨⟨off, s⟩, hpo⟩ := Option.isSome_iff_exists.1 hp
      have hlive : (getE st.heap b).live = true := by rw [hE]; rfl
      have hlt := lt_of_live hlive
      have hw : HInv g (st.heap ++ frees 1) w := h.heap.widen 1
      obtain ⟨g1, q1, q2, q3, q4⟩ := hw.nilVec (e := st.heap.length) (k := K) (a := A) (by simp [frees]) (.inl (getE_append_one _))
      rw [setE_append_one] at q2
      have hE1 : getE (st.heap ++ [.vec K A []]) b = .box T x := by
       have : getE (setE (st.heap ++ frees 1) st.heap.length (.vec K A [])) b = .box T x := by
        rw [getE_setE, if_neg (fun h => by omega), getE_append_frees, hE]
       rwa [setE_append_one] at this
      have hent := q2.ent b
      rw [hE1] at hent
      obtain ⟨bb, cs, tt, fz, w1, w2, w3, w4⟩ := hent
      obtain ⟨p1, p2, p3⟩ := getP_rep T x [.fld m] () cs.toList t off s w4 ht hpo
      obtain ⟨T', y⟩ := t
      simp only at hn
      subst hn
      simp only [Rep] at p1
      have hnew : Rep g1 (.vc st.heap.length K) () [.slice none 0 0] := by
       simp only [Rep, G.vcr, q3]
       exact ⟨⟨_, rfl, rfl⟩, Nat.le_refl _, fun _ => .inl ⟨q4, trivial, none, rfl⟩⟩
      obtain ⟨s1, s2, s3, s4⟩ := setP_rep T x [.fld m] () cs.toList [.slice none 0 0] ⟨.vc st.heap.length K, ()⟩ r off s w4 hr hpo hnew
      have hsame : splice cs.toList off [.slice none 0 0] = cs.toList := by
       rw [← p1]
       exact splice_same p3
      rw [hsame] at s3
      have hI2 := q2.setBox hE1 w1 w2 w3 s2 s3
      rw [setRow_self w bb cs tt fz w2, setE_append _ _ _ _ hlt] at hI2
      exact ⟨g1, q1, h.env.mono q1, hI2, h.defers.trans (congrArg Prod.snd q1.ext).symm⟩
     ·cases hs
    ·cases hs
   ·cases hs
  ·cases hs
 ·cases hs
inductive Ini
 | slot (s : Nat)
 | fld (b m : Nat)
def addInis : List Ini → List ETy → St → Option St
 | [], [], st => some st
 | .slot s :: ss, .vec K a :: Es, st => match addIni [s] [.vec K a] st with
  | some st' => addInis ss Es st'
  | none => none
 | .fld b m :: ss, .vec K a :: Es, st => match addIniB b m K a st with
  | some st' => addInis ss Es st'
  | none => none
 | _, _, _ => none
structure WSpec extends LSpec where
 inis : List Ini
def WSpec.moves (S : WSpec) (st : St) : List (Nat × Nat × Nat) := dedup (unifE S.live S.Ts st.env ++ unifH S.Es st.heap)
def WSpec.norm (S : WSpec) (st : St) : Option (HL S.Ts × HD S.Es) :=
 if (S.moves st).all (movOk S.Es.length S.Es) then
  match movAll (S.moves st) st with
  | some st1 => if heapUnder S.Es.length (st1.heap.take S.Es.length) then decS S.live S.Ts S.Es S.nt (weakSt S.live S.Ts (cutA S.Es.length st1)) else none
  | none => none
 else none
def WSpec.enter (S : WSpec) (st : St) : Option (HL S.Ts × HD S.Es) :=
 if gensOk S.Es 0 st.heap && decide (st.heap.length + S.inis.length = S.Es.length) then
  match addInis S.inis (S.Es.drop st.heap.length) st with
  | some st1 => if (S.moves st1).all (movOk S.Es.length S.Es) then
    match movAll (S.moves st1) st1 with
    | some st2 => decS S.live S.Ts S.Es S.nt (weakSt S.live S.Ts st2)
    | none => none
   else none
  | none => none
 else none
def WSpec.round (S : WSpec) (body : St → Tr (Ex × St)) (xs : HL S.Ts) (hs : HD S.Es) : Tr S.toLSpec.End :=
 (body (S.enc xs hs)).bind fun r => match r.1 with
  | .normal => match S.norm r.2 with
   | some d => .ret (.inl d)
   | none => .fail
  | x => .ret (.inr (x, keepS S.out r.2))
def WSpec.many (S : WSpec) (body : St → Tr (Ex × St)) : Nat → HL S.Ts → HD S.Es → Option (Ex × St)
 | 0, _, _ => none
 | n + 1, xs, hs => match (S.round body xs hs).eval with
  | some (.inl d) => S.many body n d.1 d.2
  | some (.inr r) => some r
  | none => none
def WSpec.fn (S : WSpec) (F : HL S.Ts → HD S.Es → Tr (Ex × St)) (st : St) : Tr (Ex × St) :=
 match S.enter st with
 | some d => F d.1 d.2
 | none => .fail
section
variable {P : Program} {C : Ctx} {L : Loops}
end
end Vse
end
section
set_option linter.unusedVariables false
namespace Vse
open Go Go.ChangeShapes
namespace Tr
end Tr
structure MSpec where
 As : List Ty
 Rs : List Ty
 Es : List ETy
 Fs : List ETy
abbrev MSpec.Out (S : MSpec) := HL S.Rs × HD S.Fs
def idle (H : Heap) (m : Nat × Nat × Nat) : Bool := match getE H m.1 with
 | .vec k _ _ => decide (m.1 = m.2.1) && decide (k = m.2.2)
 | _ => false
def movOkL (n : Nat) (H0 : Heap) (m : Nat × Nat × Nat) : Bool :=
 (decide (m.1 = m.2.1) || decide (n ≤ m.1)) && (match getE H0 m.2.1 with
  | .free => true
  | .vec k _ _ => decide (k < m.2.2)
  | _ => false)
def MSpec.moves (S : MSpec) (H : Heap) : List (Nat × Nat × Nat) := (dedup (unifH S.Fs H)).filter fun m => !idle H m
def MSpec.norm (S : MSpec) (H0 : Heap) (r0 : AV × Heap) : Option S.Out :=
 let r := sealR S.Rs r0
 if decide (S.Fs.length = S.Es.length) && (S.moves r.2).all (movOkL S.Es.length H0) then
  match movAll (S.moves r.2) ⟨[r.1], r.2⟩ with
  | some st1 => if heapUnder S.Es.length (st1.heap.take S.Es.length) then
    match cutA S.Es.length st1 with
    | ⟨[a], H⟩ => match toHL S.Rs a with
     | some x => match decH S.Fs H with
      | some y => some (x, y)
      | none => none
     | none => none
    | _ => none
   else none
  | none => none
 else none
end Vse
end
end

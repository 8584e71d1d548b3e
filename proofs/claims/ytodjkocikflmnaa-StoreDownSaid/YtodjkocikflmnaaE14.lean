/- Operations that touch nothing of one another's may change places. Nothing here is about one program. -/
import Derived.Test.YtodjkocikflmnaaE13
set_option linter.unusedVariables false
namespace Vse
open Go

/-- a summary looks only where it says, and turns only what it says -/
structure CLocal (c : CSpec) : Prop where
  same : ∀ vs H H', (∀ i ∈ c.ids vs H, getE H' i = getE H i) → c.ids vs H' = c.ids vs H ∧ c.wr vs H' = c.wr vs H
  turns : ∀ vs H fr out, (c.core vs (ents H (c.ids vs H)) fr).eval = some out → ∀ x ∈ out.2, x.1 ∈ c.wr vs H ∨ (fr ≤ x.1 ∧ x.1 < fr + c.new)

def CtxLocal (C : Ctx) : Prop := ∀ k c, C k = some c → CLocal c

section
variable {P : Program} {C : Ctx}

/-! locality -/

theorem getV_put (env : List AV) (d : Option Nat) (v : AV) {t : Nat} (h : d ≠ some t) : getV (putV env d v) t = getV env t := by
  cases d with
  | none => rfl
  | some d =>
    simp only [putV, getV_setV]
    rw [if_neg]
    rintro ⟨rfl, _⟩
    exact h rfl

theorem ev_put {env : List AV} {d : Option Nat} {v : AV} {o : Operand} (h : ∀ t ∈ opd o, d ≠ some t) : ev (putV env d v) o = ev env o := by
  cases o with
  | tmp t => exact getV_put env d v (h t (by simp [opd]))
  | _ => rfl

theorem evs_put {env : List AV} {d : Option Nat} {v : AV} : ∀ {os : List Operand}, (∀ t ∈ os.flatMap opd, d ≠ some t) → evs (putV env d v) os = evs env os
  | [], _ => rfl
  | o :: os, h => by
    simp only [evs]
    rw [ev_put (fun t ht => h t (by simp [ht])), evs_put (fun t ht => h t (by simp only [List.flatMap_cons, List.mem_append]; exact .inr ht))]

theorem callOf_put {env : List AV} {d : Option Nat} {v : AV} {ops : List Oper} {o : Oper} (h : ∀ t ∈ readsOf ops o, d ≠ some t) : callOf (putV env d v) o.op = callOf env o.op := by
  unfold callOf
  split
  · rename_i f args ats hop
    have h' : ∀ t ∈ opd f ++ args.toList.flatMap opd, d ≠ some t := by
      intro t ht
      refine h t ?_
      unfold readsOf
      rw [hop]
      simp only [List.mem_append] at ht ⊢
      exact .inl ht
    rw [ev_put (fun t ht => h' t (by simp [ht])), evs_put (fun t ht => h' t (by simp only [List.mem_append]; exact .inr ht))]
  · rfl

theorem args_put {env : List AV} {d : Option Nat} {v : AV} {ops : List Oper} {o : Oper} (hc : isCall o.op = false) (h : ∀ t ∈ readsOf ops o, d ≠ some t) : evs (putV env d v) (opArgs o.op) = evs env (opArgs o.op) := by
  refine evs_put fun t ht => h t ?_
  unfold readsOf
  simp only [List.mem_append]
  left
  split
  · rename_i f args ats hop; rw [hop] at hc; simp [isCall] at hc
  · exact ht

theorem getE_upd (H : Heap) : ∀ (u : List (Nat × Entry)) (i : Nat), (∀ x ∈ u, x.1 ≠ i) → getE (upd H u) i = getE H i := by
  intro u
  induction u generalizing H with
  | nil => intro i _; rfl
  | cons x u ih =>
    intro i h
    simp only [upd]
    rw [ih _ i (fun y hy => h y (by simp [hy])), getE_setE, if_neg]
    rintro ⟨rfl, _⟩
    exact h x (by simp) rfl

theorem ents_congr {H H' : Heap} : ∀ {l : List Nat}, (∀ i ∈ l, getE H' i = getE H i) → ents H' l = ents H l
  | [], _ => rfl
  | i :: l, h => by simp only [ents]; rw [h i (by simp), ents_congr (fun j hj => h j (by simp [hj]))]

theorem shs_congr {H H' : Heap} : ∀ {l : List Nat}, (∀ i ∈ l, shp (getE H' i) = shp (getE H i)) → shs H' l = shs H l
  | [], _ => rfl
  | i :: l, h => by simp only [shs]; rw [h i (by simp), shs_congr (fun j hj => h j (by simp [hj]))]

theorem isFree_congr : ∀ {H H' : Heap} {n : Nat}, H'.length = H.length → getE H' n = getE H n → isFree H' n = isFree H n
  | [], [], n, _, _ => rfl
  | [], _ :: _, n, h, _ => by simp at h
  | _ :: _, [], n, h, _ => by simp at h
  | e :: H, e' :: H', 0, h, he => by
    simp only [getE] at he; subst he; cases e' <;> rfl
  | e :: H, e' :: H', n + 1, h, he => by
    have := isFree_congr (H := H) (H' := H') (n := n) (by simpa using h) he
    cases e <;> cases e' <;> exact this

theorem freeAt_congr {H H' : Heap} (hl : H'.length = H.length) : ∀ {n fr : Nat}, (∀ i, fr ≤ i → i < fr + n → getE H' i = getE H i) → freeAt H' fr n = freeAt H fr n
  | 0, fr, _ => rfl
  | n + 1, fr, h => by
    simp only [freeAt]
    rw [isFree_congr hl (h fr (by omega) (by omega)), freeAt_congr hl (fun i h1 h2 => h i (by omega) (by omega))]

theorem setE_comm : ∀ (H : Heap) {i j : Nat} (a b : Entry), i ≠ j → setE (setE H i a) j b = setE (setE H j b) i a
  | [], i, j, a, b, h => rfl
  | e :: H, 0, 0, a, b, h => absurd rfl h
  | e :: H, 0, j + 1, a, b, h => rfl
  | e :: H, i + 1, 0, a, b, h => rfl
  | e :: H, i + 1, j + 1, a, b, h => by simp only [setE]; rw [setE_comm H a b (by omega)]

theorem upd_setE : ∀ (u : List (Nat × Entry)) (H : Heap) (j : Nat) (b : Entry), (∀ x ∈ u, x.1 ≠ j) → upd (setE H j b) u = setE (upd H u) j b
  | [], _, _, _, _ => rfl
  | x :: u, H, j, b, h => by
    simp only [upd]
    rw [setE_comm H b x.2 (fun e => h x (by simp) e.symm), upd_setE u _ j b (fun y hy => h y (by simp [hy]))]

theorem upd_comm : ∀ (v u : List (Nat × Entry)) (H : Heap), (∀ x ∈ u, ∀ y ∈ v, x.1 ≠ y.1) → upd (upd H u) v = upd (upd H v) u
  | [], u, H, _ => rfl
  | y :: v, u, H, h => by
    simp only [upd]
    rw [← upd_setE u H y.1 y.2 (fun x hx => h x hx y (by simp))]
    exact upd_comm v u _ (fun x hx z hz => h x hx z (by simp [hz]))

theorem setV_comm : ∀ (l : List AV) {i j : Nat} (a b : AV), i ≠ j → setV (setV l i a) j b = setV (setV l j b) i a
  | [], i, j, a, b, h => rfl
  | e :: l, 0, 0, a, b, h => absurd rfl h
  | e :: l, 0, j + 1, a, b, h => rfl
  | e :: l, i + 1, 0, a, b, h => rfl
  | e :: l, i + 1, j + 1, a, b, h => by simp only [setV]; rw [setV_comm l a b (by omega)]

theorem putV_comm (env : List AV) {d d' : Option Nat} (a b : AV) (h : d = none ∨ d' ≠ d) : putV (putV env d a) d' b = putV (putV env d' b) d a := by
  cases d with
  | none => rfl
  | some d =>
    cases d' with
    | none => rfl
    | some d' =>
      refine setV_comm env a b ?_
      rintro rfl
      rcases h with h | h
      · cases h
      · exact h rfl

theorem setV_get : ∀ (l : List AV) (i : Nat), setV l i (getV l i) = l
  | [], _ => rfl
  | e :: l, 0 => rfl
  | e :: l, i + 1 => by simp only [setV, getV]; rw [setV_get l i]

/-! what a guard says -/

inductive Gd
  | go | skip | bad

def gd (ops : List Oper) (o : Oper) (env : List AV) : Gd :=
  match o.guard with
  | none => .go
  | some (j, want) => match dstOf ops j with
    | some d => match getV env d with
      | .v .bool b => if b = want then .go else .skip
      | .tup _ => .skip
      | _ => .bad
    | none => .bad

theorem stepT_eval (ops : List Oper) (o : Oper) (fr : Nat) (st : St) :
    (stepT P C ops o fr st).eval = match gd ops o st.env with
      | .go => (opT P C o fr st).eval
      | .skip => some ⟨putV st.env o.dst AV.none, st.heap⟩
      | .bad => none := by
  unfold stepT gd
  cases hg : o.guard with
  | none => rfl
  | some jw =>
    obtain ⟨j, want⟩ := jw
    simp only
    cases hd : dstOf ops j with
    | none => rfl
    | some d =>
      simp only
      cases hv : getV st.env d with
      | tup l => rfl
      | v T x =>
        cases T with
        | bool =>
          have e : setV st.env d (.v .bool x) = st.env := by rw [← hv]; exact setV_get _ _
          cases x <;> cases want <;> simp only [Tr.eval, e, if_true, if_false, Bool.false_eq_true, reduceCtorEq]
        | _ => rfl

theorem gd_put {env : List AV} {d : Option Nat} {v : AV} {ops : List Oper} {o : Oper} (h : ∀ t ∈ readsOf ops o, d ≠ some t) : gd ops o (putV env d v) = gd ops o env := by
  unfold gd
  split
  · rfl
  · rename_i j want hg
    split
    · rename_i t ht
      rw [getV_put env d v (h t ?_)]
      unfold readsOf
      rw [hg]
      simp [ht]
    · rfl

/-! what is turned -/

theorem ret_nil {a : AV} {out : Out} (h : (Tr.ret (a, ([] : List (Nat × Entry)))).eval = some out) : out.2 = [] := by
  have := Tr.ret_some h; subst this; rfl

theorem t_move {vs : List AV} {out : Out} (h : (c_move vs).eval = some out) : out.2 = [] := by
  unfold c_move at h; split at h
  · exact ret_nil h
  · exact (Tr.fail_some h).elim
theorem t_pick {vs : List AV} {out : Out} (h : (c_pick vs).eval = some out) : out.2 = [] := by
  unfold c_pick at h; split at h
  · rcases Tr.ite_some h with ⟨_, h⟩ | ⟨_, h⟩ <;> exact ret_nil h
  · exact (Tr.fail_some h).elim
theorem t_build {t : TypeId} {ns : List Nat} {vs : List AV} {out : Out} (h : (c_build P t ns vs).eval = some out) : out.2 = [] := by
  unfold c_build at h; split at h
  · split at h
    · exact ret_nil h
    · exact (Tr.fail_some h).elim
  · exact (Tr.fail_some h).elim
theorem t_loadT {t : TypeId} {r : Option TV} {out : Out} (h : (loadT P t r).eval = some out) : out.2 = [] := by
  unfold loadT at h; split at h
  · split at h
    · exact ret_nil h
    · exact (Tr.fail_some h).elim
  · exact (Tr.fail_some h).elim
theorem t_load {t : TypeId} {vs : List AV} {es : List Entry} {out : Out} (h : (c_load P t vs es).eval = some out) : out.2 = [] := by
  unfold c_load at h; split at h
  · split at h
    · exact t_loadT h
    · exact (Tr.fail_some h).elim
  · exact t_loadT h
  · split at h
    · split at h
      · exact t_loadT h
      · exact (Tr.fail_some h).elim
    · exact (Tr.fail_some h).elim
  · exact (Tr.fail_some h).elim
/-- what an operation turns: nothing, its own place, or one entry that it says (whose shape it keeps, or says so) -/
def Turns (o : Op) (vs : List AV) (es : List Entry) (fr : Nat) (out : Out) : Prop :=
  out.2 = [] ∨ (∃ E, out.2 = [(fr, E)] ∧ newOf o = 1) ∨ (∃ e E, out.2 = [(e, E)] ∧ wrOf o vs = [e] ∧ (wsOf o vs = [e] ∨ (idsOf o vs = [e] ∧ ∃ E0, es = [E0] ∧ shp E = shp E0))) ∨
    (∃ e E, out.2 = [(e, .dead), (fr, E)] ∧ newOf o = 1 ∧ wrOf o vs = [e] ∧ wsOf o vs = [e])

theorem setP_len {n : Nat} {b : Ty} {l m : List b.den} {p : List PS} {d : PD (.idx :: p)} {v : TV} (h : setP (.arr n b) l (.idx :: p) d v = some ⟨.arr n b, m⟩) : m.length = l.length := by
  simp only [setP, Option.bind_eq_some_iff] at h
  obtain ⟨r, _, z, _, h⟩ := h
  simp only [Option.some.injEq, TV.mk.injEq, true_and] at h
  have h := eq_of_heq h
  subst h
  simp

theorem t_store {t : TypeId} {o1 o2 : Operand} {vs : List AV} {es : List Entry} {fr : Nat} {out : Out} (h : (c_store P t vs es).eval = some out) : Turns (.store t o1 o2) vs es fr out := by
  unfold c_store at h; split at h
  · rename_i e p d a'
    split at h
    · rename_i T x
      split at h
      · rename_i y hy
        split at h
        · rename_i r hr
          split at h
          · have := Tr.ret_some h; subst this
            exact .inr (.inr (.inl ⟨e, _, rfl, rfl, .inr ⟨rfl, _, rfl, by simp only [shp, setP_sk hr]⟩⟩))
          · exact (Tr.fail_some h).elim
        · exact (Tr.fail_some h).elim
      · exact (Tr.fail_some h).elim
    · exact (Tr.fail_some h).elim
  · rename_i e g p d a'
    split at h
    · rename_i g' b l
      split at h
      · rename_i hg
        subst hg
        split at h
        · rename_i y hy
          split at h
          · rename_i m hm
            split at h
            · have := Tr.ret_some h; subst this
              refine .inr (.inr (.inl ⟨e, _, rfl, rfl, .inr ⟨rfl, _, rfl, ?_⟩⟩))
              have hl := setP_len (setI_setP hm)
              simp only [shp]
              rw [hl]
            · exact (Tr.fail_some h).elim
          · exact (Tr.fail_some h).elim
        · exact (Tr.fail_some h).elim
      · exact (Tr.fail_some h).elim
    · exact (Tr.fail_some h).elim
  · exact (Tr.fail_some h).elim
theorem t_nilCheck {vs : List AV} {out : Out} (h : (c_nilCheck vs).eval = some out) : out.2 = [] := by
  unfold c_nilCheck at h; split at h
  · exact ret_nil h
  · exact ret_nil h
  · exact ret_nil h
  · exact (Tr.fail_some h).elim
theorem t_bindv {t : Tr TV} {out : Out} (h : (t.bind fun r => .ret (val r)).eval = some out) : out.2 = [] := by
  obtain ⟨r, _, h⟩ := Tr.bind_some h
  have := Tr.ret_some h; subst this; rfl
theorem t_bin {op : BinOp} {t : TypeId} {vs : List AV} {out : Out} (h : (c_bin P op t vs).eval = some out) : out.2 = [] := by
  unfold c_bin at h; split at h
  · split at h
    · split at h
      · exact ret_nil h
      · exact (Tr.fail_some h).elim
    · split at h
      · split at h
        · exact ret_nil h
        · exact (Tr.fail_some h).elim
      · split at h
        · split at h
          · exact t_bindv h
          · exact (Tr.fail_some h).elim
        · exact (Tr.fail_some h).elim
  · exact (Tr.fail_some h).elim
theorem t_un {op : UnOp} {vs : List AV} {out : Out} (h : (c_un op vs).eval = some out) : out.2 = [] := by
  unfold c_un at h; split at h
  · split at h
    · exact t_bindv h
    · exact (Tr.fail_some h).elim
  · exact (Tr.fail_some h).elim
theorem t_convert {s d : TypeId} {vs : List AV} {ss : List ESh} {out : Out} (h : (c_convert P s d vs ss).eval = some out) : out.2 = [] := by
  unfold c_convert at h
  repeat' (split at h)
  all_goals first
    | exact (Tr.fail_some h).elim
    | exact ret_nil h
    | (obtain ⟨_, h⟩ := Tr.chk_some h; exact ret_nil h)
theorem t_fieldAddr {t : TypeId} {f : Nat} {vs : List AV} {ss : List ESh} {out : Out} (h : (c_fieldAddr P t f vs ss).eval = some out) : out.2 = [] := by
  unfold c_fieldAddr at h; split at h
  · split at h
    · exact ret_nil h
    · exact (Tr.fail_some h).elim
  · split at h
    · split at h
      · exact ret_nil h
      · exact (Tr.fail_some h).elim
    · exact (Tr.fail_some h).elim
  · exact (Tr.fail_some h).elim
theorem t_field {t : TypeId} {f : Nat} {vs : List AV} {out : Out} (h : (c_field P t f vs).eval = some out) : out.2 = [] := by
  unfold c_field at h; split at h
  · split at h
    · split at h
      · split at h
        · exact ret_nil h
        · exact (Tr.fail_some h).elim
      · exact (Tr.fail_some h).elim
    · exact (Tr.fail_some h).elim
  · exact (Tr.fail_some h).elim
theorem t_indexAddr {t : TypeId} {vs : List AV} {ss : List ESh} {out : Out} (h : (c_indexAddr P t vs ss).eval = some out) : out.2 = [] := by
  unfold c_indexAddr at h
  repeat' (split at h)
  all_goals first
    | exact (Tr.fail_some h).elim
    | exact ret_nil h
    | (obtain ⟨_, h⟩ := Tr.chk_some h; exact ret_nil h)
theorem t_index {t : TypeId} {vs : List AV} {out : Out} (h : (c_index P t vs).eval = some out) : out.2 = [] := by
  unfold c_index at h
  repeat' (split at h)
  all_goals first
    | exact (Tr.fail_some h).elim
    | exact ret_nil h
    | (obtain ⟨_, h⟩ := Tr.chk_some h; exact ret_nil h)
theorem t_extract {i : Nat} {vs : List AV} {out : Out} (h : (c_extract i vs).eval = some out) : out.2 = [] := by
  unfold c_extract at h; split at h
  · split at h
    · exact ret_nil h
    · exact (Tr.fail_some h).elim
  · exact (Tr.fail_some h).elim
theorem t_builtin {b : Builtin} {vs : List AV} {out : Out} (h : (c_builtin b vs).eval = some out) : out.2 = [] := by
  unfold c_builtin at h; split at h
  · split at h
    · cases b <;> first | exact ret_nil h | exact (Tr.fail_some h).elim
    · exact (Tr.fail_some h).elim
  · exact (Tr.fail_some h).elim

theorem t_alloc {t : TypeId} {vs : List AV} {es : List Entry} {fr : Nat} {out : Out} (h : (c_alloc P t fr).eval = some out) : Turns (.alloc t) vs es fr out := by
  unfold c_alloc at h; split at h
  · have := Tr.ret_some h; subst this; exact .inr (.inl ⟨_, rfl, rfl⟩)
  · exact (Tr.fail_some h).elim
theorem t_box {t : TypeId} {x : Operand} {vs : List AV} {es : List Entry} {fr : Nat} {out : Out} (h : (c_box vs fr).eval = some out) : Turns (.box t x) vs es fr out := by
  unfold c_box at h; split at h
  · split at h
    · have := Tr.ret_some h; subst this; exact .inr (.inl ⟨_, rfl, rfl⟩)
    · exact (Tr.fail_some h).elim
  · exact (Tr.fail_some h).elim

theorem t_buildS {t : TypeId} {n : Nat} {ns : List Nat} {vs : List AV} {fr : Nat} {out : Out} (h : (c_buildS P t n ns vs fr).eval = some out) : ∃ E, out.2 = [(fr, E)] := by
  unfold c_buildS at h
  repeat' (split at h)
  all_goals first
    | exact (Tr.fail_some h).elim
    | (have := Tr.ret_some h; subst this; exact ⟨_, rfl⟩)

theorem t_buildSlice {t : TypeId} {n : Nat} {ps : Array (Nat × Operand)} {ns : List Nat} {vs : List AV} {es : List Entry} {fr : Nat} {out : Out} (h : (c_buildSlice P t n ns vs es fr).eval = some out) : Turns (.buildSlice t n ps) vs es fr out := by
  unfold c_buildSlice at h
  split at h
  · rename_i e _ _ _ _ _ _
    split at h
    · rename_i hk
      have hk := Bool.and_eq_true_iff.1 hk
      obtain ⟨r, h1, h2⟩ := Tr.bind_some h
      have := Tr.ret_some h2; subst this
      obtain ⟨E, hE⟩ := t_buildS h1
      exact .inr (.inr (.inr ⟨e, E, by simp only [hE], rfl, by simp only [wrOf, bsIds, hk.2, if_true, vcOf], by simp only [wsOf, bsIds, hk.2, if_true, vcOf]⟩))
    · exact (Tr.fail_some h).elim
  · obtain ⟨E, hE⟩ := t_buildS h
    exact .inr (.inl ⟨E, hE, rfl⟩)

theorem t_makeSlice {t : TypeId} {l c : Operand} {vs : List AV} {es : List Entry} {fr : Nat} {out : Out} (h : (c_makeSlice P t vs fr).eval = some out) : Turns (.makeSlice t l c) vs es fr out := by
  unfold c_makeSlice at h
  repeat' (split at h)
  all_goals first
    | exact (Tr.fail_some h).elim
    | (obtain ⟨_, h⟩ := Tr.chk_some h; have := Tr.ret_some h; subst this; exact .inr (.inl ⟨_, rfl, rfl⟩))

theorem t_slice {t : TypeId} {x : Operand} {lo hi mx : Option Operand} {q a b c : Bool} {vs : List AV} {es : List Entry} {fr : Nat} {out : Out} (h : (c_slice P t q a b c vs es).eval = some out) : Turns (.slice t x lo hi mx) vs es fr out := by
  unfold c_slice at h
  repeat' (split at h)
  all_goals first
    | exact (Tr.fail_some h).elim
    | (obtain ⟨_, h⟩ := Tr.chk_some h; have := Tr.ret_some h; subst this; first | exact .inl rfl | exact .inr (.inr (.inl ⟨_, _, rfl, rfl, .inl rfl⟩)))

theorem t_copy {t : TypeId} {args : Array Operand} {ats : Array TypeId} {vs : List AV} {es : List Entry} {fr : Nat} {out : Out} (h : (c_copy P t vs es).eval = some out) : Turns (.call ⟨.builtin .copy, args, ats⟩) vs es fr out := by
  unfold c_copy at h
  repeat' (split at h)
  all_goals first
    | exact (Tr.fail_some h).elim
    | exact .inl (ret_nil h)
    | (have := Tr.ret_some h; subst this; exact .inr (.inr (.inl ⟨_, _, rfl, rfl, .inl rfl⟩)))

theorem t_s2ap {t : TypeId} {vs : List AV} {out : Out} (h : (c_s2ap P t vs).eval = some out) : out.2 = [] := by
  unfold c_s2ap at h
  repeat' (split at h)
  all_goals first
    | exact (Tr.fail_some h).elim
    | (obtain ⟨_, h⟩ := Tr.chk_some h; exact ret_nil h)

theorem t_len {t : TypeId} {vs : List AV} {es : List Entry} {out : Out} (h : (c_len P t vs es).eval = some out) : out.2 = [] := by
  unfold c_len at h
  repeat' (split at h)
  all_goals first
    | exact (Tr.fail_some h).elim
    | exact ret_nil h

theorem t_append {t t2 : TypeId} {args : Array Operand} {ats : Array TypeId} {vs : List AV} {es : List Entry} {fr : Nat} {out : Out} (h : (c_append P t t2 vs es fr).eval = some out) : Turns (.call ⟨.builtin .append, args, ats⟩) vs es fr out := by
  unfold c_append at h
  repeat' (split at h)
  all_goals first
    | exact (Tr.fail_some h).elim
    | exact .inl (ret_nil h)
    | (obtain ⟨_, h⟩ := Tr.chk_some h; have := Tr.ret_some h; subst this; first | exact .inr (.inl ⟨_, rfl, rfl⟩) | exact .inr (.inr (.inl ⟨_, _, rfl, rfl, .inl rfl⟩)))

theorem core_turns {o : Op} {vs : List AV} {es : List Entry} {ss : List ESh} {fr : Nat} {out : Out} (h : (core P o vs es ss fr).eval = some out) : Turns o vs es fr out := by
  cases o with
  | move x => exact .inl (t_move h)
  | assign x => exact .inl (t_move h)
  | pick a b c => exact .inl (t_pick h)
  | alloc t => exact t_alloc h
  | box t x => exact t_box h
  | build t ps => exact .inl (t_build h)
  | load t x => exact .inl (t_load h)
  | store t x y => exact t_store h
  | buildSlice t n ps => exact t_buildSlice h
  | makeSlice t l c => exact t_makeSlice h
  | slice t x lo hi mx => exact t_slice h
  | sliceToArrayPointer t x => exact .inl (t_s2ap h)
  | nilCheck x => exact .inl (t_nilCheck h)
  | binOp op t x y z => exact .inl (t_bin h)
  | unOp op t x => exact .inl (t_un h)
  | convert s d x => exact .inl (t_convert h)
  | fieldAddr t x f => exact .inl (t_fieldAddr h)
  | field t x f => exact .inl (t_field h)
  | indexAddr t x y => exact .inl (t_indexAddr h)
  | index t x y => exact .inl (t_index h)
  | extract x i => exact .inl (t_extract h)
  | call c =>
    obtain ⟨callee, args, ats⟩ := c
    cases callee with
    | builtin b =>
      by_cases hlen : b = .len
      · subst hlen
        simp only [core] at h
        split at h
        · exact .inl (t_len h)
        · exact (Tr.fail_some h).elim
      by_cases happ : b = .append
      · subst happ
        simp only [core] at h
        split at h
        · exact t_append h
        · exact (Tr.fail_some h).elim
      by_cases hcop : b = .copy
      · subst hcop
        simp only [core] at h
        split at h
        · exact t_copy h
        · exact (Tr.fail_some h).elim
      have h : (c_builtin b vs).eval = some out := by
        cases b <;> first | exact h | exact absurd rfl hlen | exact absurd rfl happ | exact absurd rfl hcop
      exact .inl (t_builtin h)
    | value f => exact (Tr.fail_some h).elim
    | invoke r m => exact (Tr.fail_some h).elim
  | _ => exact (Tr.fail_some h).elim

end
end Vse

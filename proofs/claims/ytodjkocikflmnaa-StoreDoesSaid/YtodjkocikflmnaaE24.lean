/- The symbolic machine once more, with what is known of truth values kept beside: a way that cannot be gone is not gone. Nothing here is about one program. -/
import Derived.Test.YtodjkocikflmnaaE23
set_option linter.unusedVariables false
namespace Vse
open Go

/-- slots whose truth value is known -/
abbrev Ks := List (Nat × Bool)

def look : Ks → Nat → Option Bool
  | [], _ => none
  | (d, b) :: l, t => if t = d then some b else look l t

def Ks.less : Ks → Nat → Ks
  | [], _ => []
  | (d, b) :: l, t => if d = t then Ks.less l t else (d, b) :: Ks.less l t

def litOf (ks : Ks) : Operand → Option Bool
  | .tmp t => look ks t
  | .const (.bool b) => some b
  | _ => none

def lit (ks : Ks) : Op → Option Bool
  | .move x | .assign x => litOf ks x
  | _ => none

def inR : List AV → Nat → Bool
  | [], _ => false
  | _ :: _, 0 => true
  | _ :: l, n + 1 => inR l n

def Ks.put (ks : Ks) (env : List AV) (dst : Option Nat) (l : Option Bool) : Ks :=
  match dst with
  | none => ks
  | some d => match l with
    | some b => if inR env d then (d, b) :: ks.less d else ks.less d
    | none => ks.less d

def opK (P : Program) (C : Ctx) (ks : Ks) (o : Oper) (fr : Nat) (st : St) : Tr (St × Ks) :=
  match o.op with
  | .pick (.tmp c) a b => match look ks c with
    | some true => .ret (⟨putV st.env o.dst (ev st.env a), st.heap⟩, ks.put st.env o.dst (litOf ks a))
    | some false => .ret (⟨putV st.env o.dst (ev st.env b), st.heap⟩, ks.put st.env o.dst (litOf ks b))
    | none => (opT P C o fr st).bind fun s => .ret (s, ks.put st.env o.dst none)
  | _ => (opT P C o fr st).bind fun s => .ret (s, ks.put st.env o.dst (lit ks o.op))

def stepK (P : Program) (C : Ctx) (ops : List Oper) (o : Oper) (fr : Nat) (ks : Ks) (st : St) : Tr (St × Ks) :=
  match o.guard with
  | none => opK P C ks o fr st
  | some (j, want) =>
    match dstOf ops j with
    | some d => match look ks d with
      | some b => match b, want with
        | true, true => opK P C ks o fr st
        | false, false => opK P C ks o fr st
        | _, _ => .ret (⟨putV st.env o.dst AV.none, st.heap⟩, ks.put st.env o.dst none)
      | none => match getV st.env d with
        | .v .bool b => .ite b
            (match want with
              | true => opK P C ((d, true) :: ks.less d) o fr ⟨setV st.env d (.v .bool true), st.heap⟩
              | false => .ret (⟨putV (setV st.env d (.v .bool true)) o.dst AV.none, st.heap⟩, Ks.put ((d, true) :: ks.less d) st.env o.dst none))
            (match want with
              | false => opK P C ((d, false) :: ks.less d) o fr ⟨setV st.env d (.v .bool false), st.heap⟩
              | true => .ret (⟨putV (setV st.env d (.v .bool false)) o.dst AV.none, st.heap⟩, Ks.put ((d, false) :: ks.less d) st.env o.dst none))
        | .tup _ => .ret (⟨putV st.env o.dst AV.none, st.heap⟩, ks.put st.env o.dst none)
        | _ => .fail
    | none => .fail

def opsK (P : Program) (C : Ctx) (ops : List Oper) : List (Nat × Oper) → Ks → St → Tr (St × Ks)
  | [], ks, st => .ret (st, ks)
  | o :: os, ks, st => (stepK P C ops o.2 o.1 ks st).bind fun r => opsK P C ops os r.2 r.1

def opsFK (P : Program) (C : Ctx) (ops : List Oper) : List (Nat × Oper) → Ks → St → List FP → Tr ((St × List FP) × Ks)
  | [], ks, st, fs => .ret ((st, fs), ks)
  | o :: os, ks, st, fs => (stepK P C ops o.2 o.1 ks st).bind fun r => opsFK P C ops os r.2 r.1 (fs ++ [fpOf C o.2 o.1 st])

def runK (P : Program) (C : Ctx) (L : Loops) : Code → Ks → St → Tr ((Ex × St) × Ks)
  | .skip, ks, st => .ret ((.normal, st), ks)
  | .label _, ks, st => .ret ((.normal, st), ks)
  | .region _ ops draw, ks, st =>
    match draw with
    | false => (opsK P C ops.toList (bases C ops.toList st.heap.length) ks (widen st (newAll C ops.toList))).bind fun s => .ret ((.normal, s.1), s.2)
    | true => (opsFK P C ops.toList (bases C ops.toList st.heap.length) ks (widen st (newAll C ops.toList)) []).bind fun s => if P.follows .mixedOrders && drawOk ops.toList s.1.2 then .ret ((.normal, s.1.1), s.2) else .fail
  | .seq a b, ks, st => (runK P C L a ks st).bind fun r => match r with
    | ((.normal, s), k) => runK P C L b k s
    | r => .ret r
  | .cond c a b, ks, st => match litOf ks c with
    | some true => runK P C L a ks st
    | some false => runK P C L b ks st
    | none => match ev st.env c with
      | .v .bool t => .ite t (runK P C L a ks st) (runK P C L b ks st)
      | _ => .fail
  | .block id c, ks, st => (runK P C L c ks st).bind fun r => match r with
    | ((.exit i, s), k) => if i = id then .ret ((.normal, s), k) else .ret ((.exit i, s), k)
    | r => .ret r
  | .loop c, ks, st => match firstReg c with
    | some i => (L i st).bind fun r => .ret (r, [])
    | none => .fail
  | .exit id, ks, st => .ret ((.exit id, st), ks)
  | .ret, ks, st => .ret ((.ret, st), ks)
  | _, _, _ => .fail

def fnK (P : Program) (C : Ctx) (L : Loops) (fn : Func) (args : List AV) (H : Heap) : Tr (AV × Heap) :=
  match fn.body with
  | some c => (runK P C L c [] (begin_ fn args H)).bind fun r => match r with
    | ((.exit _, _), _) => .fail
    | ((_, s), _) => match resT P fn s with
      | some v => .ret (v, s.heap)
      | none => .fail
  | none => .fail

/-! it gives what the plain one gives -/

def KOK (ks : Ks) (env : List AV) : Prop := ∀ t b, look ks t = some b → getV env t = .v .bool b

theorem look_less : ∀ (ks : Ks) (d t : Nat), look (ks.less d) t = if t = d then none else look ks t
  | [], d, t => by simp [Ks.less, look]
  | (e, b) :: l, d, t => by
    simp only [Ks.less]
    by_cases h : e = d
    · subst h
      simp only [if_true, look_less l, look]
      by_cases h2 : t = e <;> simp [h2]
    · simp only [if_neg h, look, look_less l]
      by_cases h2 : t = e
      · subst h2; simp [h]
      · simp [h2]

theorem inR_lt : ∀ {env : List AV} {d : Nat}, inR env d = true → d < env.length
  | [], d, h => by simp [inR] at h
  | _ :: _, 0, _ => by simp
  | _ :: l, d + 1, h => by have := inR_lt (env := l) (d := d) h; simp; omega

theorem lt_of_getV : ∀ {env : List AV} {d : Nat} {T : Ty} {x : T.den}, getV env d = .v T x → d < env.length
  | [], d, T, x, h => by cases h
  | _ :: _, 0, _, _, _ => by simp
  | _ :: l, d + 1, _, _, h => by have := lt_of_getV (env := l) (d := d) h; simp; omega

theorem KOK.put {ks : Ks} {env : List AV} (h : KOK ks env) (dst : Option Nat) {l : Option Bool} {v : AV} (hv : ∀ b, l = some b → v = .v .bool b) : KOK (ks.put env dst l) (putV env dst v) := by
  cases dst with
  | none => exact h
  | some d =>
    have hless : KOK (ks.less d) (setV env d v) := by
      intro t b ht
      rw [look_less] at ht
      split at ht
      · cases ht
      · rename_i hne
        rw [getV_setV, if_neg (fun hh => hne hh.1)]
        exact h t b ht
    cases l with
    | none => exact hless
    | some b =>
      simp only [Ks.put]
      split
      · rename_i hr
        intro t b' ht
        simp only [look] at ht
        split at ht
        · rename_i hte
          simp only [Option.some.injEq] at ht
          subst ht; subst hte
          simp only [putV]
          rw [getV_setV, if_pos ⟨rfl, inR_lt hr⟩]
          exact hv _ rfl
        · exact hless t b' ht
      · exact hless

theorem KOK.putN {ks : Ks} {env : List AV} (h : KOK ks env) (dst : Option Nat) (v : AV) : KOK (ks.put env dst none) (putV env dst v) := h.put dst (fun b hb => by cases hb)

theorem litOf_ev {ks : Ks} {env : List AV} (h : KOK ks env) {x : Operand} {b : Bool} (hl : litOf ks x = some b) : ev env x = .v .bool b := by
  unfold litOf at hl
  split at hl
  · exact h _ _ hl
  · simp only [Option.some.injEq] at hl; subst hl; rfl
  · cases hl

section
variable {P : Program} {C : Ctx} {L : Loops}

theorem upd_nil (H : Heap) : upd H [] = H := rfl

theorem opT_pick {o : Oper} {fr : Nat} {st : St} {c a b : Operand} {t : Bool} (ho : o.op = .pick c a b) (hc : ev st.env c = .v .bool t) :
    (opT P C o fr st).eval = some ⟨putV st.env o.dst (ev st.env (if t then a else b)), st.heap⟩ := by
  unfold opT outT
  simp only [ho, isCall, Bool.false_eq_true, if_false, newOf, freeAt, if_true, opArgs, evs, core, hc, c_pick]
  cases t <;> rfl

theorem opT_lit {ks : Ks} {o : Oper} {fr : Nat} {st st' : St} (h : KOK ks st.env) (he : (opT P C o fr st).eval = some st') : ∃ v, st'.env = putV st.env o.dst v ∧ ∀ b, lit ks o.op = some b → v = .v .bool b := by
  unfold opT at he
  obtain ⟨r, h1, h2⟩ := Tr.bind_some he
  have := Tr.ret_some h2
  refine ⟨r.1, by rw [← this], fun b hb => ?_⟩
  unfold lit at hb
  split at hb
  · rename_i x hop
    unfold outT at h1
    simp only [hop, isCall, Bool.false_eq_true, if_false, newOf, freeAt, if_true, opArgs, evs, core, c_move] at h1
    have := Tr.ret_some h1
    rw [← this]
    exact litOf_ev h hb
  · rename_i x hop
    unfold outT at h1
    simp only [hop, isCall, Bool.false_eq_true, if_false, newOf, freeAt, if_true, opArgs, evs, core, c_move] at h1
    have := Tr.ret_some h1
    rw [← this]
    exact litOf_ev h hb
  · cases hb

theorem opK_ok {ks : Ks} {o : Oper} {fr : Nat} {st : St} {r : St × Ks} (h : KOK ks st.env) (he : (opK P C ks o fr st).eval = some r) : (opT P C o fr st).eval = some r.1 ∧ KOK r.2 r.1.env := by
  unfold opK at he
  split at he
  · rename_i c a b hop
    split at he
    · rename_i hl
      have := Tr.ret_some he
      subst this
      refine ⟨?_, h.put _ fun b hb => litOf_ev h hb⟩
      rw [opT_pick hop (show ev st.env (.tmp c) = .v .bool true from h _ _ hl)]
      rfl
    · rename_i hl
      have := Tr.ret_some he
      subst this
      refine ⟨?_, h.put _ fun b hb => litOf_ev h hb⟩
      rw [opT_pick hop (show ev st.env (.tmp c) = .v .bool false from h _ _ hl)]
      rfl
    · obtain ⟨s, h1, h2⟩ := Tr.bind_some he
      have := Tr.ret_some h2
      subst this
      obtain ⟨v, e1, e2⟩ := opT_lit h h1
      exact ⟨h1, by show KOK (ks.put st.env o.dst none) s.env; rw [e1]; exact h.putN _ _⟩
  · obtain ⟨s, h1, h2⟩ := Tr.bind_some he
    have := Tr.ret_some h2
    subst this
    obtain ⟨v, e1, e2⟩ := opT_lit h h1
    exact ⟨h1, by rw [e1]; exact h.put _ e2⟩

theorem setV_same : ∀ (env : List AV) (d : Nat) (v : AV), getV env d = v → d < env.length → setV env d v = env
  | [], d, v, _, h => by simp at h
  | a :: l, 0, v, h, _ => by simp only [getV] at h; subst h; rfl
  | a :: l, d + 1, v, h, hl => by simp only [setV]; rw [setV_same l d v h (by simpa using hl)]

theorem KOK.set {ks : Ks} {env : List AV} (h : KOK ks env) {d : Nat} (hd : d < env.length) (b : Bool) : KOK ((d, b) :: ks.less d) (setV env d (.v .bool b)) := by
  intro t b' ht
  simp only [look] at ht
  split at ht
  · rename_i hte
    simp only [Option.some.injEq] at ht
    subst ht; subst hte
    rw [getV_setV, if_pos ⟨rfl, hd⟩]
  · rename_i hne
    rw [look_less, if_neg hne] at ht
    rw [getV_setV, if_neg (fun hh => hne hh.1)]
    exact h t b' ht

theorem inR_setV : ∀ (env : List AV) (d e : Nat) (v : AV), inR (setV env d v) e = inR env e
  | [], _, _, _ => rfl
  | _ :: _, 0, 0, _ => rfl
  | _ :: _, 0, _ + 1, _ => rfl
  | _ :: _, _ + 1, 0, _ => rfl
  | _ :: l, d + 1, e + 1, v => inR_setV l d e v

theorem put_none (ks : Ks) (env env' : List AV) (dst : Option Nat) : Ks.put ks env dst none = Ks.put ks env' dst none := by cases dst <;> rfl

theorem stepK_ok {ops : List Oper} {ks : Ks} {o : Oper} {fr : Nat} {st : St} {r : St × Ks} (h : KOK ks st.env) (he : (stepK P C ops o fr ks st).eval = some r) :
    (stepT P C ops o fr st).eval = some r.1 ∧ KOK r.2 r.1.env := by
  unfold stepK at he
  unfold stepT
  cases hg : o.guard with
  | none =>
    rw [hg] at he
    exact opK_ok h he
  | some jw =>
    obtain ⟨j, want⟩ := jw
    rw [hg] at he
    simp only at he ⊢
    split at he
    · rename_i d hd
      simp only [hd]
      split at he
      · rename_i b hb
        have hv := h _ _ hb
        have hlt := lt_of_getV hv
        simp only [hv]
        have hskip : ∀ {r : St × Ks}, (Tr.ret (⟨putV st.env o.dst AV.none, st.heap⟩, ks.put st.env o.dst none) : Tr (St × Ks)).eval = some r → some (⟨putV st.env o.dst AV.none, st.heap⟩ : St) = some r.1 ∧ KOK r.2 r.1.env := by
          intro r he
          have := Tr.ret_some he
          subst this
          exact ⟨rfl, h.putN _ _⟩
        cases b <;> cases want
        · rw [setV_same _ _ _ hv hlt]; exact opK_ok h he
        · rw [setV_same _ _ _ hv hlt]; exact hskip he
        · rw [setV_same _ _ _ hv hlt]; exact hskip he
        · rw [setV_same _ _ _ hv hlt]; exact opK_ok h he
      · split at he
        · rename_i b hv
          have hlt := lt_of_getV hv
          simp only [hv]
          rcases Tr.ite_some he with ⟨rfl, he⟩ | ⟨rfl, he⟩
          · cases want with
            | true => exact opK_ok (h.set hlt true) he
            | false =>
              have := Tr.ret_some he
              subst this
              refine ⟨rfl, ?_⟩
              simp only
              rw [put_none _ st.env (setV st.env d (.v .bool true))]
              exact (h.set hlt true).putN _ _
          · cases want with
            | false => exact opK_ok (h.set hlt false) he
            | true =>
              have := Tr.ret_some he
              subst this
              refine ⟨rfl, ?_⟩
              simp only
              rw [put_none _ st.env (setV st.env d (.v .bool false))]
              exact (h.set hlt false).putN _ _
        · rename_i l hv
          have := Tr.ret_some he
          subst this
          simp only [hv]
          exact ⟨rfl, h.putN _ _⟩
        · exact (Tr.fail_some he).elim
    · exact (Tr.fail_some he).elim

theorem eval_bind_of {α β : Type} {t : Tr α} {f : α → Tr β} {a : α} {b : β} (h : t.eval = some a) (h' : (f a).eval = some b) : (t.bind f).eval = some b := by
  rw [Tr.eval_bind, h]; exact h'

theorem opsK_ok {ops : List Oper} : ∀ {os : List (Nat × Oper)} {ks : Ks} {st : St} {r : St × Ks}, KOK ks st.env → (opsK P C ops os ks st).eval = some r → (opsT P C ops os st).eval = some r.1 ∧ KOK r.2 r.1.env
  | [], ks, st, r, h, he => by
    have := Tr.ret_some he
    subst this
    exact ⟨rfl, h⟩
  | o :: os, ks, st, r, h, he => by
    obtain ⟨s, h1, h2⟩ := Tr.bind_some he
    obtain ⟨e1, e2⟩ := stepK_ok h h1
    obtain ⟨e3, e4⟩ := opsK_ok e2 h2
    exact ⟨eval_bind_of e1 e3, e4⟩

theorem opsFK_ok {ops : List Oper} : ∀ {os : List (Nat × Oper)} {ks : Ks} {st : St} {fs : List FP} {r : (St × List FP) × Ks}, KOK ks st.env → (opsFK P C ops os ks st fs).eval = some r → (opsF P C ops os st fs).eval = some r.1 ∧ KOK r.2 r.1.1.env
  | [], ks, st, fs, r, h, he => by
    have := Tr.ret_some he
    subst this
    exact ⟨rfl, h⟩
  | o :: os, ks, st, fs, r, h, he => by
    obtain ⟨s, h1, h2⟩ := Tr.bind_some he
    obtain ⟨e1, e2⟩ := stepK_ok h h1
    obtain ⟨e3, e4⟩ := opsFK_ok e2 h2
    exact ⟨eval_bind_of e1 e3, e4⟩

theorem KOK.nil (env : List AV) : KOK [] env := fun t b h => by cases h

theorem widen_env (st : St) (n : Nat) : (widen st n).env = st.env := by cases n <;> rfl

theorem runK_ok : ∀ (c : Code) {ks : Ks} {st : St} {r : (Ex × St) × Ks}, KOK ks st.env → (runK P C L c ks st).eval = some r → (run P C L c st).eval = some r.1 ∧ KOK r.2 r.1.2.env := by
  intro c
  induction c with
  | skip | label | exit | ret => intro ks st r h he; have := Tr.ret_some he; subst this; exact ⟨rfl, h⟩
  | region id ops draw =>
    intro ks st r h he
    have hw : KOK ks (widen st (newAll C ops.toList)).env := by rw [widen_env]; exact h
    cases draw with
    | false =>
      simp only [runK] at he
      simp only [run]
      obtain ⟨s, h1, h2⟩ := Tr.bind_some he
      have := Tr.ret_some h2
      subst this
      obtain ⟨e1, e2⟩ := opsK_ok hw h1
      exact ⟨eval_bind_of e1 rfl, e2⟩
    | true =>
      simp only [runK] at he
      simp only [run]
      obtain ⟨s, h1, h2⟩ := Tr.bind_some he
      obtain ⟨e1, e2⟩ := opsFK_ok hw h1
      split at h2
      · rename_i hc
        have := Tr.ret_some h2
        subst this
        exact ⟨eval_bind_of e1 (by rw [if_pos hc]; rfl), e2⟩
      · exact (Tr.fail_some h2).elim
  | seq p q ihp ihq =>
    intro ks st r h he
    simp only [runK] at he
    simp only [run]
    obtain ⟨s, h1, h2⟩ := Tr.bind_some he
    obtain ⟨⟨x, s⟩, k⟩ := s
    obtain ⟨e1, e2⟩ := ihp h h1
    cases x with
    | normal =>
      obtain ⟨e3, e4⟩ := ihq e2 h2
      exact ⟨eval_bind_of e1 e3, e4⟩
    | exit i => have := Tr.ret_some h2; subst this; exact ⟨eval_bind_of e1 rfl, e2⟩
    | ret => have := Tr.ret_some h2; subst this; exact ⟨eval_bind_of e1 rfl, e2⟩
  | cond o p q ihp ihq =>
    intro ks st r h he
    simp only [runK] at he
    simp only [run]
    split at he
    · rename_i hl
      rw [litOf_ev h hl]
      exact ihp h he
    · rename_i hl
      rw [litOf_ev h hl]
      exact ihq h he
    · split at he
      · rename_i t ht
        rcases Tr.ite_some he with ⟨rfl, he⟩ | ⟨rfl, he⟩
        · rw [ht]; exact ihp h he
        · rw [ht]; exact ihq h he
      · exact (Tr.fail_some he).elim
  | block id p ihp =>
    intro ks st r h he
    simp only [runK] at he
    simp only [run]
    obtain ⟨s, h1, h2⟩ := Tr.bind_some he
    obtain ⟨⟨x, s⟩, k⟩ := s
    obtain ⟨e1, e2⟩ := ihp h h1
    cases x with
    | normal => have := Tr.ret_some h2; subst this; exact ⟨eval_bind_of e1 rfl, e2⟩
    | exit i =>
      simp only at h2
      split at h2
      · rename_i hi
        have := Tr.ret_some h2; subst this
        exact ⟨eval_bind_of e1 (by simp only [if_pos hi]; rfl), e2⟩
      · rename_i hi
        have := Tr.ret_some h2; subst this
        exact ⟨eval_bind_of e1 (by simp only [if_neg hi]; rfl), e2⟩
    | ret => have := Tr.ret_some h2; subst this; exact ⟨eval_bind_of e1 rfl, e2⟩
  | loop p _ =>
    intro ks st r h he
    simp only [runK] at he
    simp only [run]
    split at he
    · rename_i i hi
      obtain ⟨s, h1, h2⟩ := Tr.bind_some he
      have := Tr.ret_some h2; subst this
      exact ⟨by rw [hi]; exact h1, KOK.nil _⟩
    · exact (Tr.fail_some he).elim
  | _ => intro ks st r h he; exact (Tr.fail_some he).elim

theorem fnK_ok {fn : Func} {args : List AV} {H : Heap} {r : AV × Heap} (he : (fnK P C L fn args H).eval = some r) : (fnT P C L fn args H).eval = some r := by
  unfold fnK at he
  unfold fnT
  split at he
  · rename_i c hc
    rw [hc]
    obtain ⟨⟨⟨x, s⟩, k⟩, h1, h2⟩ := Tr.bind_some he
    obtain ⟨e1, e2⟩ := runK_ok c (KOK.nil _) h1
    refine eval_bind_of e1 ?_
    cases x with
    | exit i => exact (Tr.fail_some h2).elim
    | normal => exact h2
    | ret => exact h2
  · exact (Tr.fail_some he).elim

theorem nrmK {fn : Func} {args : List AV} {H : Heap} {v : AV} (h : nrm (fnK P C L fn args H) = some v) : nrm (fnT P C L fn args H) = some v := by
  obtain ⟨H', h1⟩ := nrm_some h
  unfold nrm
  rw [Tr.eval_bind, fnK_ok h1]
  rfl

end
end Vse

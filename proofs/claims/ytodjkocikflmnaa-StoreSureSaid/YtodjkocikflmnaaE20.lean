/- What a function of plain values does, as a summary for its callers. Nothing here is about one program. -/
import Derived.Test.YtodjkocikflmnaaE19
set_option linter.unusedVariables false
namespace Vse
open Go

/-- a value that looks into no entry; 'p': nor into what is only lent -/
def Ty.still (p : Bool) : Ty → Bool
  | .bool | .int _ | .str | .unit | .nils | .nilp | .nilm | .nilf | .nili => true
  | .prod a b => a.still p && b.still p
  | .arr _ a => a.still p
  | .imm q _ a => (q || !p) && a.still p
  | .ip q a => (q || !p) && a.still p
  | .fn _ c => c.still p
  | _ => false

/-- memory that is as good, for what looks into no entry -/
structure G.covers (p : Bool) (g g' : G) : Prop where
  fr : ∀ b o, g.fr b = some o → g'.fr b = some o
  gr : p = false → ∀ b o, g.gr b = some o → g'.gr b = some o

theorem still_Rep {p : Bool} {g g' : G} (h : g.covers p g') : ∀ (T : Ty) (x : T.den) (cs : List Value), T.still p = true → (Rep g T x cs → Rep g' T x cs) ∧ (Rep.RepC g T x cs → Rep.RepC g' T x cs) := by
  intro T
  induction T with
  | bool | int | str | nils | nilp | nilm | nilf | nili => intro x cs _; exact ⟨fun hr => hr, fun hr => by simp [Rep.RepC] at hr⟩
  | unit => intro x cs _; exact ⟨fun hr => hr, fun hr => hr⟩
  | prod a b iha ihb =>
    intro x cs hs
    simp only [Ty.still, Bool.and_eq_true] at hs
    constructor
    · rintro ⟨c1, c2, rfl, h1, h2⟩
      exact ⟨c1, c2, rfl, (iha _ _ hs.1).1 h1, (ihb _ _ hs.2).1 h2⟩
    · rintro ⟨v, r, rfl, h1, h2⟩
      refine ⟨v, r, rfl, ?_, (ihb _ _ hs.2).2 h2⟩
      split at h1
      · obtain ⟨cs, hv, hr⟩ := h1; rw [if_pos (by assumption)]; exact ⟨cs, hv, (iha _ _ hs.1).1 hr⟩
      · rw [if_neg (by assumption)]; exact (iha _ _ hs.1).1 h1
  | arr n a iha =>
    intro x cs hs
    exact ⟨fun hr => ⟨hr.1, repL_mono (fun y _ cs => (iha y cs hs).1) hr.2⟩, fun hr => by simp [Rep.RepC] at hr⟩
  | imm q f a iha =>
    intro x cs hs
    simp only [Ty.still, Bool.and_eq_true] at hs
    refine ⟨?_, fun hr => by simp [Rep.RepC] at hr⟩
    rintro ⟨pv, cap, h1, h2, h3, h4⟩
    refine ⟨pv, cap, h1, h2, h3, fun hne => ?_⟩
    obtain ⟨ad, vs, a1, a2, a3⟩ := h4 hne
    refine ⟨ad, vs, a1, repL_mono (fun y _ cs => (iha y cs hs.2).1) a2, ?_⟩
    rcases a3 with a3 | ⟨a3, a4⟩
    · exact .inl (reads_mono h.fr a3)
    · refine .inr ⟨a3, reads_mono (h.gr ?_) a4⟩
      have := hs.1
      subst a3
      simpa using this
  | ip q a iha =>
    intro x cs hs
    simp only [Ty.still, Bool.and_eq_true] at hs
    refine ⟨?_, fun hr => by simp [Rep.RepC] at hr⟩
    rintro ⟨ad, vs, h1, h2, h3⟩
    refine ⟨ad, vs, h1, (iha _ _ hs.2).1 h2, ?_⟩
    rcases h3 with a3 | ⟨a3, a4⟩
    · exact .inl (reads_mono h.fr a3)
    · refine .inr ⟨a3, reads_mono (h.gr ?_) a4⟩
      have := hs.1
      subst a3
      simpa using this
  | fn f c ihc =>
    intro x cs hs
    refine ⟨?_, fun hr => by simp [Rep.RepC] at hr⟩
    rintro ⟨vs, h1, h2⟩
    exact ⟨vs, h1, (ihc _ _ hs).2 h2⟩
  | _ => intro x cs hs; simp [Ty.still] at hs

theorem still_TRep {p : Bool} {g g' : G} (h : g.covers p g') {T : Ty} {x : T.den} {v : Value} (hs : T.still p = true) (hr : TRep g T x v) : TRep g' T x v := by
  unfold TRep at hr ⊢
  split
  · rw [if_pos (by assumption)] at hr; obtain ⟨cs, h1, h2⟩ := hr; exact ⟨cs, h1, (still_Rep h _ _ _ hs).1 h2⟩
  · rw [if_neg (by assumption)] at hr; exact (still_Rep h _ _ _ hs).1 hr

theorem still_tup {p : Bool} {g g' : G} (h : g.covers p g') : ∀ {l : List TV} {vs : List Value}, (l.all fun t => t.T.still p) = true → tupRep g l vs → tupRep g' l vs
  | [], _, _, hr => hr
  | t :: ts, _, hs, ⟨v, r, h1, h2, h3⟩ => by
    simp only [List.all_cons, Bool.and_eq_true] at hs
    exact ⟨v, r, h1, still_TRep h hs.1 h2, still_tup h hs.2 h3⟩

def AV.still (p : Bool) : AV → Bool
  | .v T _ => T.still p
  | .tup l => l.all fun t => t.T.still p

theorem still_VRep {p : Bool} {g g' : G} (h : g.covers p g') {a : AV} {v : Value} (hs : a.still p = true) (hr : VRep g a v) : VRep g' a v := by
  cases a with
  | v T x =>
    cases T <;> first | trivial | exact still_TRep h hs hr
  | tup l => obtain ⟨vs, h1, h2⟩ := hr; exact ⟨vs, h1, still_tup h hs h2⟩

theorem still_args {p : Bool} {g g' : G} (h : g.covers p g') : ∀ {l : List AV} {vs : List Value}, (l.all fun t => t.still p) = true → argsRep g l vs → argsRep g' l vs
  | [], _, _, hr => hr
  | t :: ts, _, hs, ⟨v, r, h1, h2, h3⟩ => by
    simp only [List.all_cons, Bool.and_eq_true] at hs
    exact ⟨v, r, h1, still_VRep h hs.1 h2, still_args h hs.2 h3⟩

/-- memory as a called function finds it that is given no entry: what is the caller's own is lent to it -/
noncomputable def G.lend (g : G) (H : Heap) (w : World) : G where
  fr := g.fr
  gr := fun b => open Classical in if (g.gr b).isSome then g.gr b else if ∃ e, (getE H e).live = true ∧ g.bl e = some b then w.heap[b]? else none
  bl := fun _ => none
  sz := fun _ => 0
  sh := fun _ => .free
  ext := g.ext

theorem getE_nil (e : Nat) : getE [] e = .free := rfl

theorem lend_inv {g : G} {H : Heap} {w : World} (hI : HInv g H w) : HInv (g.lend H w) [] w where
  sh _ := rfl
  fr := hI.fr
  gr b o h := by
    simp only [G.lend] at h
    split at h
    · exact hI.gr _ _ h
    · split at h
      · exact h
      · cases h
  ent _ := trivial
  own e b h := by simp [getE_nil, Entry.live] at h
  sep b o o' h h' := by
    simp only [G.lend] at h h'
    split at h'
    · exact hI.sep _ _ _ h h'
    · split at h'
      · rename_i he
        obtain ⟨e, h1, h2⟩ := he
        rw [(hI.own _ _ h1 h2).1] at h
        cases h
      · cases h'
  dis e e' b h := by simp [getE_nil, Entry.live] at h
  ext := hI.ext

theorem lend_covers (g : G) (H : Heap) (w : World) : g.covers false (g.lend H w) where
  fr _ _ h := h
  gr _ b o h := by simp [G.lend, h]

/-- back from the call -/
theorem lend_back {g g' : G} {H H' : Heap} {w w' : World} (hI : HInv g H w) (hle : (g.lend H w).le g') (hI' : HInv g' H' w') : ∃ g'', g.le g'' ∧ HInv g'' H w' ∧ g'.covers true g'' := by
  have keep : ∀ e b, (getE H e).live = true → g.bl e = some b → w'.heap[b]? = w.heap[b]? ∧ g'.fr b = none := by
    intro e b h1 h2
    have hg : (g.lend H w).gr b = w.heap[b]? := by
      simp only [G.lend]
      rw [(hI.own _ _ h1 h2).2]
      simp only [Option.isSome_none, Bool.false_eq_true, if_false]
      rw [if_pos ⟨e, h1, h2⟩]
    have hg' : g'.gr b = w.heap[b]? := by rw [hle.gr]; exact hg
    cases hw : w.heap[b]? with
    | none =>
      exfalso
      have := hI.ent e
      cases hE : getE H e with
      | free => rw [hE] at h1; cases h1
      | dead => rw [hE] at h1; cases h1
      | box T x => rw [hE] at this; obtain ⟨b', cs, t, fz, q1, q2, _⟩ := this; rw [h2] at q1; cases q1; rw [hw] at q2; cases q2
      | vec k a l =>
        rw [hE] at this
        rcases this with ⟨q1, _⟩ | ⟨b', cs, t, fz, vs, r, q1, q2, _⟩
        · rw [h2] at q1; cases q1
        · rw [h2] at q1; cases q1; rw [hw] at q2; cases q2
    | some o =>
      rw [hw] at hg'
      refine ⟨hI'.gr _ _ hg', ?_⟩
      cases hf : g'.fr b with
      | none => rfl
      | some o' => exact (hI'.sep _ _ _ hf hg').elim
  refine ⟨{ g with fr := g'.fr }, ⟨hle.fr, rfl, rfl, fun e => .same rfl rfl rfl⟩, ?_, ⟨fun _ _ h => h, fun h => by cases h⟩⟩
  have hle2 : g.le { g with fr := g'.fr } := ⟨hle.fr, rfl, rfl, fun e => .same rfl rfl rfl⟩
  refine ⟨hI.sh, hI'.fr, ?_, ?_, ?_, ?_, hI.dis, hI'.ext.trans hle.ext⟩
  · intro b o h
    refine hI'.gr b o ?_
    rw [hle.gr]
    exact (lend_covers g H w).gr rfl b o h
  · intro e
    have he := hI.ent e
    cases hE : getE H e with
    | free => trivial
    | dead => trivial
    | box T x =>
      rw [hE] at he
      obtain ⟨b, cs, t, fz, q1, q2, q3, q4⟩ := he
      exact ⟨b, cs, t, fz, q1, by rw [(keep e b (by rw [hE]; rfl) q1).1]; exact q2, q3, (Rep_mono hle2 _ _ _).1 q4⟩
    | vec k a l =>
      rw [hE] at he
      rcases he with he | ⟨b, cs, t, fz, vs, r, q1, q2, q3, q4, q5, q6, q7⟩
      · exact .inl he
      · exact .inr ⟨b, cs, t, fz, vs, r, q1, by rw [(keep e b (by rw [hE]; rfl) q1).1]; exact q2, q3, q4, q5, repL_mono (fun y _ cs => (Rep_mono hle2 _ y cs).1) q6, q7⟩
  · intro e b h1 h2
    exact ⟨(keep e b h1 h2).2, (hI.own e b h1 h2).2⟩
  · intro b o o' h h'
    refine hI'.sep b o o' h ?_
    rw [hle.gr]
    exact (lend_covers g H w).gr rfl b o' h'

/-! summaries of functions of plain values -/

@[reducible] def HL : List Ty → Type
  | [] => Unit
  | A :: As => A.den × HL As

def mkArgs : (As : List Ty) → HL As → List AV
  | [], _ => []
  | A :: As, xs => .v A xs.1 :: mkArgs As xs.2

def takeArgs : (As : List Ty) → List AV → Option (HL As)
  | [], [] => some ()
  | A :: As, .v T x :: vs => if h : T = A then match takeArgs As vs with | some r => some (h ▸ x, r) | none => none else none
  | _, _ => none

theorem takeArgs_some : ∀ {As : List Ty} {vs : List AV} {xs : HL As}, takeArgs As vs = some xs → vs = mkArgs As xs
  | [], [], xs, h => rfl
  | [], _ :: _, xs, h => by simp [takeArgs] at h
  | A :: As, [], xs, h => by simp [takeArgs] at h
  | A :: As, .tup _ :: vs, xs, h => by simp [takeArgs] at h
  | A :: As, .v T x :: vs, xs, h => by
    simp only [takeArgs] at h
    split at h
    · rename_i hT
      subst hT
      split at h
      · rename_i r hr
        simp only [Option.some.injEq] at h
        subst h
        simp only [mkArgs, takeArgs_some hr]
      · cases h
    · cases h

theorem mkArgs_still : ∀ {As : List Ty} {xs : HL As}, (As.all fun A => A.still false) = true → ((mkArgs As xs).all fun t => t.still false) = true
  | [], _, _ => rfl
  | A :: As, xs, h => by
    simp only [List.all_cons, Bool.and_eq_true] at h
    simp only [mkArgs, List.all_cons, Bool.and_eq_true, AV.still]
    exact ⟨h.1, mkArgs_still h.2⟩

/-- what is known of any value of a type: its numbers are in range, its arrays as long as they must be -/
def Ty.ok : (T : Ty) → T.den → Prop
  | .int k, n => inK k n = true
  | .prod a b, x => a.ok x.1 ∧ b.ok x.2
  | .arr n a, l => l.length = n ∧ ∀ x ∈ l, a.ok x
  | .imm _ _ a, l => l.length ≤ 9223372036854775807 ∧ ∀ x ∈ l, a.ok x
  | .str, s => s.size ≤ 9223372036854775807
  | .ip _ a, x => a.ok x
  | _, _ => True

theorem repL_all {α : Type} {R : α → List Value → Prop} {p : α → Prop} (h : ∀ x cs, R x cs → p x) : ∀ {l : List α} {cs : List Value}, repL R l cs → ∀ x ∈ l, p x
  | [], _, _ => by simp
  | y :: l, _, ⟨c1, c2, _, h1, h2⟩ => by
    intro x hx
    rcases List.mem_cons.1 hx with rfl | hx
    · exact h _ _ h1
    · exact repL_all h h2 x hx

theorem Rep_ok {g : G} : ∀ (T : Ty) (x : T.den) (cs : List Value), Rep g T x cs → T.ok x := by
  intro T
  induction T with
  | int k => intro x cs h; exact h.2
  | prod a b iha ihb => rintro x cs ⟨c1, c2, _, h1, h2⟩; exact ⟨iha _ _ h1, ihb _ _ h2⟩
  | arr n a ih => rintro x cs ⟨h1, h2⟩; exact ⟨h1, repL_all ih h2⟩
  | imm q f a ih =>
    rintro x cs ⟨pv, cap, _, h2, _, h4⟩
    refine ⟨Nat.le_trans h2.1 h2.2, ?_⟩
    by_cases hx : x = []
    · subst hx; intro y hy; cases hy
    · obtain ⟨ad, vs, _, h5, _⟩ := h4 hx; exact repL_all ih h5
  | str => rintro x cs ⟨_, h⟩; exact h
  | ip q a ih => rintro x cs ⟨ad, vs, _, h2, _⟩; exact ih _ _ h2
  | _ => intro x cs _; trivial

theorem TRep_ok {g : G} {T : Ty} {x : T.den} {v : Value} (h : TRep g T x v) : T.ok x := by
  unfold TRep at h
  split at h
  · obtain ⟨cs, _, h⟩ := h; exact Rep_ok _ _ _ h
  · exact Rep_ok _ _ _ h

def HL.ok : (As : List Ty) → HL As → Prop
  | [], _ => True
  | A :: As, xs => A.ok xs.1 ∧ HL.ok As xs.2

theorem args_ok {g : G} : ∀ {As : List Ty} {xs : HL As} {rvs : List Value}, argsRep g (mkArgs As xs) rvs → HL.ok As xs
  | [], _, _, _ => trivial
  | A :: As, xs, rvs, ⟨v, r, _, h2, h3⟩ => by
    refine ⟨?_, args_ok h3⟩
    by_cases hA : A = .und
    · subst hA; trivial
    · exact TRep_ok ((VRep_v hA).1 h2)

/-- a function of plain values: what it asks of them, and what it gives -/
def CSpec.plain (As : List Ty) (pre : HL As → Bool) (f : HL As → AV) : CSpec :=
  CSpec.pure fun vs => match takeArgs As vs with | some xs => .chk (pre xs) (.ret (f xs)) | none => .fail

def nrm (x : Tr (AV × Heap)) : Option AV := (x.bind fun r => .ret r.1).eval

theorem nrm_some {x : Tr (AV × Heap)} {v : AV} (h : nrm x = some v) : ∃ H, x.eval = some (v, H) := by
  obtain ⟨r, h1, h2⟩ := Tr.bind_some h
  have := Tr.ret_some h2
  exact ⟨r.2, by rw [h1, ← this]⟩

theorem pure_local (f : List AV → Tr AV) : CLocal (CSpec.pure f) where
  same _ _ _ _ := ⟨rfl, rfl⟩
  turns vs H fr out h x hx := by
    obtain ⟨v, h1, h2⟩ := Tr.bind_some h
    have := Tr.ret_some h2
    subst this
    simp at hx

theorem callFunc_enter {P : Program} {f : FuncId} {fn : Func} {c : Code} (hf : P.funcs[f]? = some fn) (hname : (fn.name == "runtime.NumGoroutine") = false) (hb : fn.body = some c) (args : Array Value) (w : World) :
    (callFunc f args).run P w = .ok (.enter f args) w := by
  have h1 : fn.name ≠ "runtime.NumGoroutine" := by simpa using hname
  simp [callFunc, go_sem, hf, hb, h1]

theorem plain_sound {P : Program} {C : Ctx} {L : Loops} (hC : CtxSound P C) (hLc : CtxLocal C) {k : Nat} {fn : Func} (hf : P.funcs[k]? = some fn) {c : Code} (hname : (fn.name == "runtime.NumGoroutine") = false) (hb : fn.body = some c) (hl : LoopsOK P L c)
    {As : List Ty} {pre : HL As → Bool} {f : HL As → AV} (hA : (As.all fun A => A.still false) = true) (hR : ∀ xs, (f xs).still true = true)
    (key : ∀ xs, HL.ok As xs → pre xs = true → nrm (fnT P C L fn (mkArgs As xs) []) = some (f xs)) : CSound P k (CSpec.plain As pre f) where
  enter args w := callFunc_enter hf hname hb args w
  calls g H w vs rvs fr out hI hargs _ he := by
    obtain ⟨v, h1, h2⟩ := Tr.bind_some he
    have := Tr.ret_some h2
    subst this
    simp only at h1
    split at h1
    · rename_i xs hxs
      obtain ⟨h3, h4⟩ := Tr.chk_some h1
      have := Tr.ret_some h4
      subst this
      have := takeArgs_some hxs
      subst this
      obtain ⟨H', h5⟩ := nrm_some (key xs (args_ok hargs) h3)
      refine (fn_sound hC hLc hf hb hl (lend_inv hI) (still_args (lend_covers g H w) (mkArgs_still hA) hargs) h5).mono ?_
      rintro e w' ⟨rv, g', rfl, hle, hI', hv⟩
      obtain ⟨g'', q1, q2, q3⟩ := lend_back hI hle hI'
      exact ⟨rv, g'', rfl, q1, q2, still_VRep q3 (hR xs) hv⟩
    · exact (Tr.fail_some h1).elim

/-! contexts -/

def ctx : List (Nat × CSpec) → Ctx
  | [], _ => none
  | (k, c) :: l, j => if j = k then some c else ctx l j

def AllSound (P : Program) : List (Nat × CSpec) → Prop
  | [] => True
  | (k, c) :: l => (CSound P k c ∧ CLocal c) ∧ AllSound P l

theorem ctx_sound {P : Program} : ∀ {l : List (Nat × CSpec)}, AllSound P l → CtxSound P (ctx l) ∧ CtxLocal (ctx l)
  | [], _ => ⟨fun k c h => (by cases h), fun k c h => (by cases h)⟩
  | (k, c) :: l, ⟨⟨h1, h2⟩, h3⟩ => by
    obtain ⟨i1, i2⟩ := ctx_sound h3
    constructor
    · intro j c' h
      simp only [ctx] at h
      split at h
      · rename_i hj; simp only [Option.some.injEq] at h; subst h; subst hj; exact h1
      · exact i1 _ _ h
    · intro j c' h
      simp only [ctx] at h
      split at h
      · simp only [Option.some.injEq] at h; subst h; exact h2
      · exact i2 _ _ h

end Vse

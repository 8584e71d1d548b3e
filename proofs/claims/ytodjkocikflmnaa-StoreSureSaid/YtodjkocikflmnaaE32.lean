/- Calls of functions that are given pointers: they are run on the entries that can be reached; all others are lent. Nothing here is about one program. -/
import Derived.Test.YtodjkocikflmnaaE31
set_option linter.unusedVariables false
namespace Vse
open Go Go.ChangeShapes

/-- a type that looks into some entries alone; 'st': and into nothing that is only lent -/
def Ty.inn (p : Nat → Bool) (st : Bool) : Ty → Bool
  | .prod a b => a.inn p st && b.inn p st
  | .arr _ a => a.inn p st
  | .imm q _ a => (q || !st) && a.inn p st
  | .ip q a => (q || !st) && a.inn p st
  | .fn _ c => c.inn p st
  | .vc e _ | .sv e _ | .vp e _ _ | .sub e _ | .ptr e _ => p e
  | _ => true

structure G.agree (p : Nat → Bool) (st : Bool) (g g' : G) : Prop where
  fr : ∀ b o, g.fr b = some o → g'.fr b = some o
  gr : st = false → ∀ b o, g.gr b = some o → g'.gr b = some o
  at_ : ∀ e, p e = true → g'.sh e = g.sh e ∧ g'.bl e = g.bl e ∧ g'.sz e = g.sz e

theorem inn_Rep {p : Nat → Bool} {st : Bool} {g g' : G} (h : g.agree p st g') : ∀ (T : Ty) (x : T.den) (cs : List Value), T.inn p st = true → (Rep g T x cs → Rep g' T x cs) ∧ (Rep.RepC g T x cs → Rep.RepC g' T x cs) := by
  intro T
  induction T with
  | bool | int | str | und | nils | nilp | nilm | nilf | nili | mp | it | ch => intro x cs _; exact ⟨fun hr => hr, fun hr => by simp [Rep.RepC] at hr⟩
  | unit => intro x cs _; exact ⟨fun hr => hr, fun hr => hr⟩
  | prod a b iha ihb =>
    intro x cs hs
    simp only [Ty.inn, Bool.and_eq_true] at hs
    constructor
    · rintro ⟨c1, c2, rfl, h1, h2⟩
      exact ⟨c1, c2, rfl, (iha _ _ hs.1).1 h1, (ihb _ _ hs.2).1 h2⟩
    · rintro ⟨v, r, rfl, h1, h2⟩
      refine ⟨v, r, rfl, ?_, (ihb _ _ hs.2).2 h2⟩
      split at h1
      · obtain ⟨cs, hv, hr⟩ := h1; rw [if_pos (by assumption)]; exact ⟨cs, hv, (iha _ _ hs.1).1 hr⟩
      · rw [if_neg (by assumption)]; exact (iha _ _ hs.1).1 h1
  | arr k a iha =>
    intro x cs hs
    exact ⟨fun hr => ⟨hr.1, repL_mono (fun y _ cs => (iha y cs hs).1) hr.2⟩, fun hr => by simp [Rep.RepC] at hr⟩
  | imm q f a iha =>
    intro x cs hs
    simp only [Ty.inn, Bool.and_eq_true] at hs
    refine ⟨?_, fun hr => by simp [Rep.RepC] at hr⟩
    rintro ⟨pv, cap, h1, h2, h3, h4⟩
    refine ⟨pv, cap, h1, h2, h3, fun hne => ?_⟩
    obtain ⟨ad, vs, a1, a2, a3⟩ := h4 hne
    refine ⟨ad, vs, a1, repL_mono (fun y _ cs => (iha y cs hs.2).1) a2, ?_⟩
    rcases a3 with a3 | ⟨a3, a4⟩
    · exact .inl (reads_mono h.fr a3)
    · refine .inr ⟨a3, reads_mono (h.gr ?_) a4⟩
      have := hs.1
      subst a3
      simpa using this
  | ip q a iha =>
    intro x cs hs
    simp only [Ty.inn, Bool.and_eq_true] at hs
    refine ⟨?_, fun hr => by simp [Rep.RepC] at hr⟩
    rintro ⟨ad, vs, h1, h2, h3⟩
    refine ⟨ad, vs, h1, (iha _ _ hs.2).1 h2, ?_⟩
    rcases h3 with a3 | ⟨a3, a4⟩
    · exact .inl (reads_mono h.fr a3)
    · refine .inr ⟨a3, reads_mono (h.gr ?_) a4⟩
      have := hs.1
      subst a3
      simpa using this
  | vc i gn =>
    intro x cs hs
    obtain ⟨h1, h2, h3⟩ := h.at_ i hs
    exact ⟨fun hr => by simpa only [Rep, G.vcr, h1, h2, h3] using hr, fun hr => by simp [Rep.RepC] at hr⟩
  | sv i gn =>
    intro x cs hs
    obtain ⟨h1, h2, h3⟩ := h.at_ i hs
    exact ⟨fun hr => by simpa only [Rep, G.vcr, h1, h2, h3] using hr, fun hr => by simp [Rep.RepC] at hr⟩
  | vp i gn p =>
    intro x cs hs
    obtain ⟨h1, h2, h3⟩ := h.at_ i hs
    exact ⟨fun hr => by simpa only [Rep, G.vcr, h1, h2, h3] using hr, fun hr => by simp [Rep.RepC] at hr⟩
  | sub i p =>
    intro x cs hs
    obtain ⟨h1, h2, h3⟩ := h.at_ i hs
    exact ⟨fun hr => by simpa only [Rep, G.bxr, h1, h2, h3] using hr, fun hr => by simp [Rep.RepC] at hr⟩
  | ptr i p =>
    intro x cs hs
    obtain ⟨h1, h2, h3⟩ := h.at_ i hs
    exact ⟨fun hr => by simpa only [Rep, G.bxr, h1, h2, h3] using hr, fun hr => by simp [Rep.RepC] at hr⟩
  | fn f c ihc =>
    intro x cs hs
    refine ⟨?_, fun hr => by simp [Rep.RepC] at hr⟩
    rintro ⟨vs, h1, h2⟩
    exact ⟨vs, h1, (ihc _ _ hs).2 h2⟩

theorem inn_TRep {p : Nat → Bool} {st : Bool} {g g' : G} (h : g.agree p st g') {T : Ty} {x : T.den} {v : Value} (hs : T.inn p st = true) (hr : TRep g T x v) : TRep g' T x v := by
  unfold TRep at hr ⊢
  split
  · rw [if_pos (by assumption)] at hr; obtain ⟨cs, h1, h2⟩ := hr; exact ⟨cs, h1, (inn_Rep h _ _ _ hs).1 h2⟩
  · rw [if_neg (by assumption)] at hr; exact (inn_Rep h _ _ _ hs).1 hr

theorem inn_tup {p : Nat → Bool} {st : Bool} {g g' : G} (h : g.agree p st g') : ∀ {l : List TV} {vs : List Value}, (l.all fun t => t.T.inn p st) = true → tupRep g l vs → tupRep g' l vs
  | [], _, _, hr => hr
  | t :: ts, _, hs, ⟨v, r, h1, h2, h3⟩ => by
    simp only [List.all_cons, Bool.and_eq_true] at hs
    exact ⟨v, r, h1, inn_TRep h hs.1 h2, inn_tup h hs.2 h3⟩

def AV.inn (p : Nat → Bool) (st : Bool) : AV → Bool
  | .v T _ => T.inn p st
  | .tup l => l.all fun t => t.T.inn p st

theorem inn_VRep {p : Nat → Bool} {st : Bool} {g g' : G} (h : g.agree p st g') {a : AV} {v : Value} (hs : a.inn p st = true) (hr : VRep g a v) : VRep g' a v := by
  cases a with
  | v T x =>
    cases T <;> first | trivial | exact inn_TRep h hs hr
  | tup l => obtain ⟨vs, h1, h2⟩ := hr; exact ⟨vs, h1, inn_tup h hs h2⟩

theorem inn_args {p : Nat → Bool} {st : Bool} {g g' : G} (h : g.agree p st g') : ∀ {l : List AV} {vs : List Value}, (l.all fun a => a.inn p st) = true → argsRep g l vs → argsRep g' l vs
  | [], _, _, hr => hr
  | t :: ts, _, hs, ⟨v, r, h1, h2, h3⟩ => by
    simp only [List.all_cons, Bool.and_eq_true] at hs
    exact ⟨v, r, h1, inn_VRep h hs.1 h2, inn_args h hs.2 h3⟩

def Entry.inn (p : Nat → Bool) (st : Bool) : Entry → Bool
  | .box T _ => T.inn p st
  | .vec _ a _ => a.inn p st
  | _ => true

theorem inn_ERep {p : Nat → Bool} {st : Bool} {g g' : G} (h : g.agree p st g') {e : Nat} {w : World} {E : Entry} (hp : p e = true) (hs : E.inn p st = true) (hr : ERep g e w E) : ERep g' e w E := by
  obtain ⟨_, hb, hz⟩ := h.at_ e hp
  cases E with
  | free => trivial
  | dead => trivial
  | box T x =>
    obtain ⟨b, cs, t, fz, q1, q2, q3, q4⟩ := hr
    exact ⟨b, cs, t, fz, hb.trans q1, q2, q3, (inn_Rep h _ _ _ hs).1 q4⟩
  | vec k a l =>
    rcases hr with ⟨q1, q2⟩ | ⟨b, cs, t, fz, vs, r, q1, q2, q3, q4, q5, q6, q7⟩
    · exact .inl ⟨hb.trans q1, q2⟩
    · exact .inr ⟨b, cs, t, fz, vs, r, hb.trans q1, q2, q3, hz.trans q4, q5, repL_mono (fun y _ cs => (inn_Rep h a y cs hs).1) q6, q7⟩

/-! memory as such a function finds it -/

def mem (ids : List Nat) (e : Nat) : Bool := ids.contains e

/-- the entries that can be reached, each in its place -/
def partH (ids : List Nat) (H : Heap) (n : Nat) : Heap := (List.range n).map fun e => if mem ids e then getE H e else .dead

theorem getE_map {f : Nat → Entry} : ∀ (n k e : Nat), getE ((List.range' k n).map f) e = if e < n then f (k + e) else .free
  | 0, k, e => by simp [getE]
  | n + 1, k, 0 => by simp [List.range'_succ, getE]
  | n + 1, k, e + 1 => by
    rw [List.range'_succ, List.map_cons]
    simp only [getE]
    rw [getE_map n (k + 1) e]
    simp only [Nat.add_lt_add_iff_right, show k + 1 + e = k + (e + 1) by omega]

theorem getE_partH (ids : List Nat) (H : Heap) (n e : Nat) : getE (partH ids H n) e = if e < n then (if mem ids e then getE H e else .dead) else .free := by
  unfold partH
  rw [List.range_eq_range', getE_map]
  simp

noncomputable def G.part (g : G) (H : Heap) (w : World) (ids : List Nat) (n : Nat) : G where
  fr := g.fr
  gr := fun b => open Classical in if (g.gr b).isSome then g.gr b else if ∃ e, mem ids e = false ∧ (getE H e).live = true ∧ g.bl e = some b then w.heap[b]? else none
  bl := g.bl
  sz := g.sz
  sh := fun e => if e < n then (if mem ids e then g.sh e else .dead) else .free
  ext := g.ext

variable {g : G} {H : Heap} {w : World} {ids : List Nat} {n : Nat}

theorem part_gr_mono {b : Nat} {o : Obj} (h : g.gr b = some o) : (g.part H w ids n).gr b = some o := by simp [G.part, h]

theorem part_gr_lent (hI : HInv g H w) {e b : Nat} (hm : mem ids e = false) (hl : (getE H e).live = true) (hb : g.bl e = some b) : (g.part H w ids n).gr b = w.heap[b]? := by
  simp only [G.part]
  rw [(hI.own _ _ hl hb).2]
  simp only [Option.isSome_none, Bool.false_eq_true, if_false]
  rw [if_pos ⟨e, hm, hl, hb⟩]

theorem part_agree (hids : ∀ e, mem ids e = true → e < n) : g.agree (mem ids) false (g.part H w ids n) where
  fr _ _ h := h
  gr _ _ _ h := part_gr_mono h
  at_ e he := by simp [G.part, he, hids e he]

theorem part_inv (hI : HInv g H w) (hids : ∀ e, mem ids e = true → e < n) (hcl : ∀ e, mem ids e = true → (getE H e).inn (mem ids) false = true) : HInv (g.part H w ids n) (partH ids H n) w := by
  have hlive : ∀ e, (getE (partH ids H n) e).live = true → mem ids e = true ∧ (getE H e).live = true := by
    intro e h
    rw [getE_partH] at h
    split at h
    · split at h
      · exact ⟨by assumption, h⟩
      · cases h
    · cases h
  refine ⟨?_, hI.fr, ?_, ?_, ?_, ?_, ?_, hI.ext⟩
  · intro e
    rw [getE_partH]
    simp only [G.part]
    split
    · split
      · exact hI.sh e
      · rfl
    · rfl
  · intro b o h
    simp only [G.part] at h
    split at h
    · exact hI.gr _ _ h
    · split at h
      · exact h
      · cases h
  · intro e
    rw [getE_partH]
    split
    · split
      · rename_i hm
        exact inn_ERep (part_agree hids) hm (hcl e hm) (hI.ent e)
      · trivial
    · trivial
  · intro e b hl hb
    obtain ⟨hm, hl⟩ := hlive e hl
    have hb : g.bl e = some b := hb
    refine ⟨(hI.own e b hl hb).1, ?_⟩
    simp only [G.part]
    rw [(hI.own e b hl hb).2]
    simp only [Option.isSome_none, Bool.false_eq_true, if_false]
    rw [if_neg]
    rintro ⟨e', hm', hl', hb'⟩
    have := hI.dis e e' b hl hl' hb hb'
    subst this
    rw [hm] at hm'; cases hm'
  · intro b o o' h h'
    simp only [G.part] at h h'
    split at h'
    · exact hI.sep _ _ _ h h'
    · split at h'
      · rename_i he
        obtain ⟨e', hm', hl', hb'⟩ := he
        rw [(hI.own _ _ hl' hb').1] at h; cases h
      · cases h'
  · intro e e' b hl hl' hb hb'
    exact hI.dis e e' b (hlive e hl).2 (hlive e' hl').2 hb hb'

/-! ..and back -/

/-- what may have been turned -/
def turned (ids : List Nat) (n N : Nat) (e : Nat) : Bool := mem ids e || (decide (n ≤ e) && decide (e < n + N))

def G.join (g g1 : G) (ids : List Nat) (n N : Nat) : G where
  fr := g1.fr
  gr := g.gr
  ext := g.ext
  sh := fun e => if turned ids n N e then g1.sh e else g.sh e
  bl := fun e => if turned ids n N e then g1.bl e else g.bl e
  sz := fun e => if turned ids n N e then g1.sz e else g.sz e

theorem join_inv {g1 : G} {H1 H2 : Heap} {w1 : World} {N : Nat} (hI : HInv g H w) (hids : ∀ e, mem ids e = true → e < n) (hfree : ∀ e, n ≤ e → e < n + N → g.sh e = .free) (hle : (g.part H w ids n).le g1) (hI1 : HInv g1 H1 w1)
    (hinn : ∀ e, turned ids n N e = true → (getE H1 e).inn (turned ids n N) true = true) (h2 : ∀ e, getE H2 e = if turned ids n N e then getE H1 e else getE H e) :
    g.le (g.join g1 ids n N) ∧ HInv (g.join g1 ids n N) H2 w1 ∧ g1.agree (turned ids n N) true (g.join g1 ids n N) := by
  have hag : g1.agree (turned ids n N) true (g.join g1 ids n N) := ⟨fun _ _ h => h, (fun h => by cases h), fun e he => by simp [G.join, he]⟩
  have hgr : g1.gr = (g.part H w ids n).gr := hle.gr
  have hle2 : g.le (g.join g1 ids n N) := by
    refine ⟨hle.fr, rfl, rfl, fun e => ?_⟩
    by_cases ht : turned ids n N e = true
    · have hj : (g.join g1 ids n N).sh e = g1.sh e ∧ (g.join g1 ids n N).bl e = g1.bl e ∧ (g.join g1 ids n N).sz e = g1.sz e := by simp [G.join, ht]
      by_cases hm : mem ids e = true
      · have hp : (g.part H w ids n).sh e = g.sh e := by simp [G.part, hids e hm, hm]
        cases hle.ent e with
        | same a b c => exact .same (hj.1.trans (a.trans hp)) (hj.2.1.trans b) (hj.2.2.trans c)
        | dead a => exact .dead (hj.1.trans a)
        | grew a b c => exact .grew (hp ▸ a) (hj.1.trans b) c
        | new a => exact .new (hp ▸ a)
      · have : n ≤ e ∧ e < n + N := by simpa [turned, hm] using ht
        exact .new (hfree e this.1 this.2)
    · exact .same (by simp [G.join, ht]) (by simp [G.join, ht]) (by simp [G.join, ht])
  have hmem : ∀ {e}, turned ids n N e = false → mem ids e = false := by
    intro e h
    simp only [turned, Bool.or_eq_false_iff] at h
    exact h.1
  have lent : ∀ {e b}, turned ids n N e = false → (getE H e).live = true → g.bl e = some b → ∃ o, w.heap[b]? = some o ∧ g1.gr b = some o := by
    intro e b ht hl hb
    obtain ⟨cs, t, fz, hx⟩ := hI.there hl hb
    exact ⟨_, hx, by rw [hgr, part_gr_lent hI (hmem ht) hl hb, hx]⟩
  refine ⟨hle2, ⟨?_, hI1.fr, ?_, ?_, ?_, ?_, ?_, ?_⟩, hag⟩
  · intro e
    rw [h2]
    simp only [G.join]
    split
    · exact hI1.sh e
    · exact hI.sh e
  · intro b o h
    have h : g.gr b = some o := h
    refine hI1.gr b o ?_
    rw [hgr]
    exact part_gr_mono h
  · intro e
    rw [h2]
    split
    · rename_i ht
      exact inn_ERep hag ht (hinn e ht) (hI1.ent e)
    · rename_i ht
      have ht : turned ids n N e = false := by simpa using ht
      by_cases hl : (getE H e).live = true
      · refine ERep_mono hle2 (by simp [G.join, ht]) (by simp [G.join, ht]) (ERep_world (fun b hb o ho => ?_) (hI.ent e))
        obtain ⟨o', q1, q2⟩ := lent ht hl hb
        rw [q1] at ho; cases ho
        exact hI1.gr b _ q2
      · cases hE : getE H e with
        | free => trivial
        | dead => trivial
        | box _ _ => rw [hE] at hl; exact absurd rfl hl
        | vec _ _ _ => rw [hE] at hl; exact absurd rfl hl
  · intro e b hl hb
    rw [h2] at hl
    cases ht : turned ids n N e with
    | true =>
      rw [ht] at hl
      simp only [if_true] at hl
      have hb : g1.bl e = some b := by simpa [G.join, ht] using hb
      obtain ⟨q1, q2⟩ := hI1.own e b hl hb
      refine ⟨q1, ?_⟩
      refine Option.eq_none_iff_forall_ne_some.2 fun o hc => ?_
      have hc : g.gr b = some o := hc
      rw [hgr, part_gr_mono hc] at q2; cases q2
    | false =>
      rw [ht] at hl
      simp only [Bool.false_eq_true, if_false] at hl
      have hb : g.bl e = some b := by simpa [G.join, ht] using hb
      refine ⟨?_, (hI.own e b hl hb).2⟩
      obtain ⟨o, q1, q2⟩ := lent ht hl hb
      refine Option.eq_none_iff_forall_ne_some.2 fun o' hc => ?_
      exact hI1.sep b o' o hc q2
  · intro b o o' h h'
    have h' : g.gr b = some o' := h'
    exact hI1.sep b o o' h (by rw [hgr]; exact part_gr_mono h')
  · intro e e' b hl hl' hb hb'
    rw [h2] at hl hl'
    cases ht : turned ids n N e with
    | true =>
      rw [ht] at hl
      simp only [if_true] at hl
      have hb : g1.bl e = some b := by simpa [G.join, ht] using hb
      cases ht' : turned ids n N e' with
      | true =>
        rw [ht'] at hl'
        simp only [if_true] at hl'
        have hb' : g1.bl e' = some b := by simpa [G.join, ht'] using hb'
        exact hI1.dis e e' b hl hl' hb hb'
      | false =>
        rw [ht'] at hl'
        simp only [Bool.false_eq_true, if_false] at hl'
        have hb' : g.bl e' = some b := by simpa [G.join, ht'] using hb'
        obtain ⟨o, q1, q2⟩ := lent ht' hl' hb'
        have := (hI1.own e b hl hb).2
        rw [this] at q2; cases q2
    | false =>
      rw [ht] at hl
      simp only [Bool.false_eq_true, if_false] at hl
      have hb : g.bl e = some b := by simpa [G.join, ht] using hb
      cases ht' : turned ids n N e' with
      | true =>
        rw [ht'] at hl'
        simp only [if_true] at hl'
        have hb' : g1.bl e' = some b := by simpa [G.join, ht'] using hb'
        obtain ⟨o, q1, q2⟩ := lent ht hl hb
        have := (hI1.own e' b hl' hb').2
        rw [this] at q2; cases q2
      | false =>
        rw [ht'] at hl'
        simp only [Bool.false_eq_true, if_false] at hl'
        have hb' : g.bl e' = some b := by simpa [G.join, ht'] using hb'
        exact hI.dis e e' b hl hl' hb hb'
  · exact hI1.ext.trans hle.ext

/-! which entries can be reached -/

def Ty.ents : Ty → List Nat
  | .prod a b => a.ents ++ b.ents
  | .arr _ a => a.ents
  | .imm _ _ a => a.ents
  | .ip _ a => a.ents
  | .fn _ c => c.ents
  | .vc e _ | .sv e _ | .vp e _ _ | .sub e _ | .ptr e _ => [e]
  | _ => []

def AV.ents : AV → List Nat
  | .v T _ => T.ents
  | .tup l => l.flatMap fun t => t.T.ents

def Entry.ents : Entry → List Nat
  | .box T _ => T.ents
  | .vec _ a _ => a.ents
  | _ => []

/-- those of a list, and behind them what they look into, some rounds long -/
def reach : Nat → Heap → List Nat → List Nat
  | 0, _, l => l
  | k + 1, H, l => reach k H (l ++ (ents H l).flatMap Entry.ents)

/-- ..told by the entries themselves -/
def reachE : Nat → List Entry → List Nat → List Nat
  | 0, _, l => l
  | k + 1, es, l => reachE k es (l ++ (es.take l.length).flatMap Entry.ents)

theorem reach_prefix : ∀ (k : Nat) (H : Heap) (l : List Nat), ∃ m, reach k H l = l ++ m
  | 0, _, l => ⟨[], by simp [reach]⟩
  | k + 1, H, l => by
    obtain ⟨m, hm⟩ := reach_prefix k H (l ++ (ents H l).flatMap Entry.ents)
    exact ⟨(ents H l).flatMap Entry.ents ++ m, by simp only [reach, hm, List.append_assoc]⟩

theorem reach_reachE (H : Heap) : ∀ (k : Nat) (l : List Nat), reachE k (ents H (reach k H l)) l = reach k H l
  | 0, l => rfl
  | k + 1, l => by
    simp only [reach, reachE]
    obtain ⟨m, hm⟩ := reach_prefix k H (l ++ (ents H l).flatMap Entry.ents)
    have : (ents H (reach k H (l ++ (ents H l).flatMap Entry.ents))).take l.length = ents H l := by
      rw [hm, List.append_assoc, ents_append, ← ents_length H l, List.take_left]
    rw [this]
    exact reach_reachE H k _

theorem reach_same {H H' : Heap} : ∀ (k : Nat) (l : List Nat), (∀ i ∈ reach k H l, getE H' i = getE H i) → reach k H' l = reach k H l
  | 0, l, _ => rfl
  | k + 1, l, h => by
    simp only [reach] at h ⊢
    obtain ⟨m, hm⟩ := reach_prefix k H (l ++ (ents H l).flatMap Entry.ents)
    have hl : ents H' l = ents H l := ents_congr fun i hi => h i (by rw [hm]; simp [hi])
    rw [hl]
    exact reach_same k _ h

/-- a list's places, each entry of some put in -/
def putE (ids : List Nat) (es : List Entry) (e : Nat) : Entry :=
  match ids, es with
  | i :: ids, x :: es => if i = e then x else putE ids es e
  | _, _ => .dead

theorem putE_ents (H : Heap) : ∀ (ids : List Nat) (e : Nat), putE ids (ents H ids) e = if mem ids e then getE H e else .dead
  | [], e => by simp [putE, ents, mem]
  | i :: ids, e => by
    simp only [ents, putE]
    by_cases h : i = e
    · subst h; simp [mem]
    · have h' : ¬ e = i := fun x => h x.symm
      rw [if_neg h, putE_ents H ids e]
      simp [mem, h']

/-- what has been turned: those that could be reached, and the new ones -/
def news (ids : List Nat) (n N : Nat) (H1 : Heap) : List (Nat × Entry) := (ids ++ List.range' n N).map fun e => (e, getE H1 e)

theorem getE_upd_map (H1 : Heap) : ∀ (l : List Nat) (H : Heap) (e : Nat), (∀ i ∈ l, i < H.length) → getE (upd H (l.map fun i => (i, getE H1 i))) e = if l.contains e then getE H1 e else getE H e
  | [], H, e, _ => by simp [upd]
  | i :: l, H, e, h => by
    simp only [List.map_cons, upd]
    rw [getE_upd_map H1 l (setE H i (getE H1 i)) e (fun j hj => by rw [setE_length]; exact h j (by simp [hj]))]
    by_cases hc : l.contains e = true
    · rw [if_pos hc, if_pos (by simp only [List.contains_cons, hc, Bool.or_true])]
    · rw [if_neg hc, getE_setE]
      by_cases he : e = i
      · subst he
        rw [if_pos ⟨rfl, h e (by simp)⟩, if_pos (by simp)]
      · rw [if_neg (fun x => he x.1), if_neg]
        simp only [List.contains_cons, Bool.or_eq_true, beq_iff_eq, not_or]
        exact ⟨he, by simpa using hc⟩

theorem mem_turned (ids : List Nat) (n N e : Nat) : (ids ++ List.range' n N).contains e = turned ids n N e := by
  rw [Bool.eq_iff_iff]
  simp [turned, mem]

/-- a function that is given pointers: k: how far they are followed, N: how many new entries may be left -/
def CSpec.ent (P : Program) (C : Ctx) (L : Loops) (k N : Nat) (fn : Func) : CSpec :=
  ⟨N, fun vs H => reach k H (vs.flatMap AV.ents), fun vs H => reach k H (vs.flatMap AV.ents), fun vs es fr =>
    let ids := reachE k es (vs.flatMap AV.ents)
    if (ids.all fun e => decide (e < fr)) && (es.all fun E => E.inn (mem ids) false) && (vs.all fun v => v.inn (mem ids) false) then
      (fnK P C L fn vs ((List.range fr).map (putE ids es))).bind fun r =>
        if decide (r.2.length ≤ fr + N) && ((ids ++ List.range' fr N).all fun e => (getE r.2 e).inn (turned ids fr N) true) && r.1.inn (turned ids fr N) true then
          .ret (r.1, news ids fr N r.2) else .fail
    else .fail⟩

theorem ent_local (P : Program) (C : Ctx) (L : Loops) (k N : Nat) (fn : Func) : CLocal (CSpec.ent P C L k N fn) where
  same vs H H' h := ⟨reach_same k _ h, reach_same k _ h⟩
  turns vs H fr out h x hx := by
    simp only [CSpec.ent] at h
    rw [reach_reachE] at h
    split at h
    · obtain ⟨r, h1, h2⟩ := Tr.bind_some h
      split at h2
      · have := Tr.ret_some h2
        subst this
        simp only [news, List.mem_map, List.mem_append, List.mem_range'] at hx
        obtain ⟨e, he, rfl⟩ := hx
        rcases he with he | ⟨i, hi, rfl⟩
        · exact .inl he
        · refine .inr ⟨by simp only; omega, ?_⟩
          show fr + 1 * i < fr + N
          omega
      · exact (Tr.fail_some h2).elim
    · exact (Tr.fail_some h).elim

theorem freeAt_lt {H : Heap} : ∀ {N fr : Nat}, freeAt H fr N = true → N = 0 ∨ fr + N ≤ H.length
  | 0, _, _ => .inl rfl
  | N + 1, fr, h => by
    simp only [freeAt, Bool.and_eq_true] at h
    have h1 := (isFree_spec h.1).2
    rcases freeAt_lt h.2 with h2 | h2
    · exact .inr (by omega)
    · exact .inr (by omega)

theorem freeAt_get {H : Heap} : ∀ {N fr : Nat}, freeAt H fr N = true → ∀ e, fr ≤ e → e < fr + N → getE H e = .free
  | 0, fr, _, e, h1, h2 => by omega
  | N + 1, fr, h, e, h1, h2 => by
    simp only [freeAt, Bool.and_eq_true] at h
    by_cases he : e = fr
    · subst he; exact (isFree_spec h.1).1
    · exact freeAt_get h.2 e (by omega) (by omega)

theorem ents_all {H : Heap} {p : Entry → Bool} : ∀ {ids : List Nat}, (ents H ids).all p = true → ∀ e, mem ids e = true → p (getE H e) = true
  | [], _, e, h => by simp [mem] at h
  | i :: ids, h, e, he => by
    simp only [ents, List.all_cons, Bool.and_eq_true] at h
    simp only [mem, List.contains_cons, Bool.or_eq_true, beq_iff_eq] at he
    rcases he with rfl | he
    · exact h.1
    · exact ents_all h.2 e he

theorem ent_sound {P : Program} {C : Ctx} {L : Loops} (hC : CtxSound P C ∧ CtxLocal C) {f : Nat} {fn : Func} (hf : P.funcs[f]? = some fn) (hside : ((fn.name == "runtime.NumGoroutine") == false && fn.body.isSome) = true)
    (hl : ∀ b ∈ loopsOf (bodyOf fn), LoopOK P L b) (k N : Nat) (hN : 0 < N) : CSound P f (CSpec.ent P C L k N fn) ∧ CLocal (CSpec.ent P C L k N fn) := by
  simp only [Bool.and_eq_true, beq_iff_eq] at hside
  obtain ⟨hname, hb⟩ := hside
  obtain ⟨body, hb⟩ := Option.isSome_iff_exists.1 hb
  have hl : LoopsOK P L body := by
    refine loopsOK_all ?_
    unfold bodyOf at hl
    rw [hb] at hl
    exact hl
  refine ⟨⟨fun args w => callFunc_enter hf hname hb args w, ?_⟩, ent_local P C L k N fn⟩
  intro g H w vs rvs fr out hI hargs hfree he
  simp only [CSpec.ent] at he hfree
  rw [reach_reachE] at he
  split at he
  · rename_i hc
    simp only [Bool.and_eq_true] at hc
    obtain ⟨⟨c1, c2⟩, c3⟩ := hc
    have hids : ∀ e, mem (reach k H (vs.flatMap AV.ents)) e = true → e < fr := fun e he => by
      have := List.all_eq_true.1 c1 e (by simpa [mem] using he)
      simpa using this
    have hcl := ents_all c2
    obtain ⟨r, h1, h2⟩ := Tr.bind_some he
    split at h2
    · rename_i hd
      have := Tr.ret_some h2
      subst this
      simp only [Bool.and_eq_true, decide_eq_true_eq] at hd
      obtain ⟨⟨d1, d2⟩, d3⟩ := hd
      have hH : (List.range fr).map (putE (reach k H (vs.flatMap AV.ents)) (ents H (reach k H (vs.flatMap AV.ents)))) = partH (reach k H (vs.flatMap AV.ents)) H fr := by
        unfold partH
        exact List.map_congr_left fun e _ => putE_ents H _ e
      rw [hH] at h1
      refine (fn_sound hC.1 hC.2 hf hb hl (part_inv hI hids hcl) (inn_args (part_agree hids) c3 hargs) (fnK_ok h1)).mono ?_
      rintro e w' ⟨rv, g1, rfl, hle, hI1, hv⟩
      have hlen := (freeAt_lt hfree).resolve_left (by omega)
      have hin : ∀ i ∈ (reach k H (vs.flatMap AV.ents)) ++ List.range' fr N, i < H.length := by
        intro i hi
        simp only [List.mem_append, List.mem_range'] at hi
        rcases hi with hi | ⟨j, hj, rfl⟩
        · have := hids i (by simpa [mem] using hi); omega
        · omega
      obtain ⟨q1, q2, q3⟩ := join_inv (H2 := upd H (news (reach k H (vs.flatMap AV.ents)) fr N r.2)) hI hids (fun e h1 h2 => by rw [hI.sh, freeAt_get hfree e h1 h2]; rfl) hle hI1
        (fun e he => by
          have := List.all_eq_true.1 d2 e (by rw [← mem_turned] at he; simpa using he)
          exact this)
        (fun e => by
          unfold news
          rw [getE_upd_map _ _ _ _ hin, mem_turned])
      exact ⟨rv, _, rfl, q1, q2, inn_VRep q3 d3 hv⟩
    · exact (Tr.fail_some h2).elim
  · exact (Tr.fail_some he).elim

end Vse

/- What the symbolic machine's values stand for in the model's memory. Nothing here is about one program. -/
import Derived.Test.YtodjkocikflmnaaE3
set_option linter.unusedVariables false
namespace Vse
open Go

structure G where
  fr : Nat → Option Obj
  gr : Nat → Option Obj
  bl : Nat → Option Nat
  sz : Nat → Nat
  sh : Nat → ESh
  ext : Os × Array (Nat × ByteArray) × (Nat → Question → Nat)

def reads (F : Nat → Option Obj) (a : Addr) (vs : List Value) : Prop :=
  a.spot = none ∧ ∃ cs t fz, F a.block = some (.cells cs t fz) ∧ ∀ i v, vs[i]? = some v → cs[a.off + i]? = some v

def repL {α : Type} (R : α → List Value → Prop) : List α → List Value → Prop
  | [], cs => cs = []
  | x :: l, cs => ∃ c1 c2, cs = c1 ++ c2 ∧ R x c1 ∧ repL R l c2

def one (cs : List Value) : Prop := ∃ v, cs = [v] ∧ v.oneCell' = true

def ptd (cs : List Value) : Prop := ∃ a, cs = [.pointer (some a)]

def G.vcr (g : G) (e gn : Nat) (Q : Nat → Sk → Nat → Prop) : Prop :=
  match g.sh e with
  | .vec g' s n => gn ≤ g' ∧ (gn = g' → Q g' s n)
  | .dead => True
  | _ => False

def G.bxr (g : G) (e : Nat) (Q : Sk → Prop) : Prop :=
  match g.sh e with
  | .box s => Q s
  | .dead => True
  | _ => False

def vpoff : Sk → Nat → (p : List PS) → PD p → Option (Nat × Sk)
  | s, n, .idx :: p, d => if d.1 < n then (poff s p d.2).map fun r => (d.1 * s.nc + r.1, r.2) else none
  | _, _, _, _ => none

/-- what a value stands for in cells -/
def Rep (g : G) : (T : Ty) → T.den → List Value → Prop
  | .bool, b, cs => cs = [.bool b]
  | .int k, n, cs => cs = [.int k n] ∧ inK k n = true
  | .str, s, cs => cs = [.string s] ∧ s.size ≤ 9223372036854775807
  | .unit, _, cs => cs = []
  | .und, _, _ => False
  | .prod a b, x, cs => ∃ c1 c2, cs = c1 ++ c2 ∧ Rep g a x.1 c1 ∧ Rep g b x.2 c2
  | .arr n a, l, cs => l.length = n ∧ repL (Rep g a) l cs
  | .imm p f a, l, cs => ∃ pv cap, cs = [.slice pv l.length cap] ∧ (l.length ≤ cap ∧ cap ≤ 9223372036854775807) ∧ (f = true → pv ≠ none) ∧
      (l ≠ [] → ∃ ad vs, pv = some ad ∧ repL (Rep g a) l vs ∧ (reads g.fr ad vs ∨ (p = false ∧ reads g.gr ad vs)))
  | .nils, _, cs => cs = [.slice none 0 0]
  | .vc e gn, _, cs => one cs ∧ g.vcr e gn fun _ s n =>
      (g.bl e = none ∧ n = 0 ∧ cs = [.slice none 0 0]) ∨ ∃ b cap, g.bl e = some b ∧ cs = [.slice (some ⟨b, 0, none⟩) n cap] ∧ (n ≤ cap ∧ cap ≤ 9223372036854775807) ∧ cap * s.nc ≤ g.sz e
  | .sv e gn, d, cs => one cs ∧ g.vcr e gn fun _ s n => ∃ pv cap, cs = [.slice pv d.len cap] ∧ d.len ≤ cap ∧ d.start + d.len ≤ n ∧
      (d.len ≠ 0 → ∃ b, g.bl e = some b ∧ pv = some ⟨b, d.start * s.nc, none⟩)
  | .vp e gn p, d, cs => ptd cs ∧ g.vcr e gn fun _ s n => ∃ b off s', g.bl e = some b ∧ vpoff s n p d = some (off, s') ∧ cs = [.pointer (some ⟨b, off, none⟩)]
  | .sub e p, d, cs => one cs ∧ g.bxr e fun s => ∃ pv cap b off n a, g.bl e = some b ∧ poff s p d.at_ = some (off, .arr n a) ∧ cs = [.slice pv d.len cap] ∧
      d.len ≤ cap ∧ cap = d.cap ∧ d.start + d.len ≤ n ∧ (d.len ≠ 0 → pv = some ⟨b, off + d.start * a.nc, none⟩)
  | .nilp, _, cs => cs = [.pointer none]
  | .ptr e p, d, cs => ptd cs ∧ g.bxr e fun s => ∃ b off s', g.bl e = some b ∧ poff s p d = some (off, s') ∧ cs = [.pointer (some ⟨b, off, none⟩)]
  | .ip p a, x, cs => ∃ ad vs, cs = [.pointer (some ad)] ∧ Rep g a x vs ∧ (reads g.fr ad vs ∨ (p = false ∧ reads g.gr ad vs))
  | .nilm, _, cs => cs = [.map none]
  | .nilf, _, cs => cs = [.nilFunc]
  | .nili, _, cs => cs = [.nilIface]
  | .fn f c, x, cs => ∃ vs : Array Value, cs = [.func (.func f) #[] vs] ∧ RepC g c x vs.toList
  | .mp _, _, _ => False
  | .it _, _, _ => False
  | .ch _, _, _ => False
where
  /-- captured values: one behind the other -/
  RepC (g : G) : (T : Ty) → T.den → List Value → Prop
  | .unit, _, vs => vs = []
  | .prod a b, x, vs => ∃ v r, vs = v :: r ∧ (if a.agg then ∃ cs : Array Value, v = .agg cs ∧ Rep g a x.1 cs.toList else Rep g a x.1 [v]) ∧ RepC g b x.2 r
  | _, _, _ => False

/-- what a value stands for, alone -/
def TRep (g : G) (T : Ty) (x : T.den) (v : Value) : Prop :=
  if T.agg then ∃ cs : Array Value, v = .agg cs ∧ Rep g T x cs.toList else Rep g T x [v]

def tupRep (g : G) : List TV → List Value → Prop
  | [], vs => vs = []
  | t :: ts, vs => ∃ v r, vs = v :: r ∧ TRep g t.T t.x v ∧ tupRep g ts r

def VRep (g : G) : AV → Value → Prop
  | .v .und _, _ => True
  | .v T x, v => TRep g T x v
  | .tup l, v => ∃ vs : Array Value, v = .tuple vs ∧ tupRep g l vs.toList

def Entry.live : Entry → Bool
  | .box _ _ => true
  | .vec _ _ _ => true
  | _ => false

/-- no cell of a row is one that a string shares -/
def thawed (cs : Array Value) (fz : Nat × Nat) : Prop := fz.1 = fz.2 ∨ cs.size ≤ fz.1

def ERep (g : G) (e : Nat) (w : World) : Entry → Prop
  | .box T x => ∃ b cs t fz, g.bl e = some b ∧ w.heap[b]? = some (.cells cs t fz) ∧ thawed cs fz ∧ Rep g T x cs.toList
  | .vec _ a l => (g.bl e = none ∧ l = []) ∨ ∃ b cs t fz vs r, g.bl e = some b ∧ w.heap[b]? = some (.cells cs t fz) ∧ thawed cs fz ∧
      g.sz e = cs.size ∧ cs.toList = vs ++ r ∧ repL (Rep g a) l vs ∧ ∀ v ∈ r, v.oneCell' = true
  | _ => True

structure HInv (g : G) (H : Heap) (w : World) : Prop where
  sh : ∀ e, g.sh e = shp (getE H e)
  fr : ∀ b o, g.fr b = some o → w.heap[b]? = some o
  gr : ∀ b o, g.gr b = some o → w.heap[b]? = some o
  ent : ∀ e, ERep g e w (getE H e)
  own : ∀ e b, (getE H e).live = true → g.bl e = some b → g.fr b = none ∧ g.gr b = none
  sep : ∀ b o o', g.fr b = some o → g.gr b = some o' → False
  dis : ∀ e e' b, (getE H e).live = true → (getE H e').live = true → g.bl e = some b → g.bl e' = some b → e = e'
  ext : (w.os, w.output, w.tape) = g.ext

/-- how an entry may turn -/
inductive Turn (g g' : G) (e : Nat) : Prop
  | same (h1 : g'.sh e = g.sh e) (h2 : g'.bl e = g.bl e) (h3 : g'.sz e = g.sz e)
  | dead (h1 : g'.sh e = .dead)
  | grew {k s n k' s' n'} (h1 : g.sh e = .vec k s n) (h2 : g'.sh e = .vec k' s' n') (h3 : k < k')
  | new (h1 : g.sh e = .free)

structure G.le (g g' : G) : Prop where
  fr : ∀ b o, g.fr b = some o → g'.fr b = some o
  gr : g'.gr = g.gr
  ext : g'.ext = g.ext
  ent : ∀ e, Turn g g' e

theorem G.le.refl (g : G) : g.le g := ⟨fun _ _ h => h, rfl, rfl, fun _ => .same rfl rfl rfl⟩

theorem Turn.trans {g g' g'' : G} {e : Nat} (h : Turn g g' e) (h' : Turn g' g'' e) : Turn g g'' e := by
  cases h with
  | same a b c =>
    cases h' with
    | same a' b' c' => exact .same (a'.trans a) (b'.trans b) (c'.trans c)
    | dead a' => exact .dead a'
    | grew a' b' c' => exact .grew (a ▸ a') b' c'
    | new a' => exact .new (a ▸ a')
  | dead a =>
    cases h' with
    | same a' b' c' => exact .dead (a'.trans a)
    | dead a' => exact .dead a'
    | grew a' b' c' => rw [a] at a'; cases a'
    | new a' => rw [a] at a'; cases a'
  | grew a b c =>
    cases h' with
    | same a' b' c' => exact .grew a (a'.trans b) c
    | dead a' => exact .dead a'
    | grew a' b' c' =>
      rw [b] at a'; cases a'
      exact .grew a b' (Nat.lt_trans c c')
    | new a' => rw [b] at a'; cases a'
  | new a => exact .new a

theorem G.le.trans {g g' g'' : G} (h : g.le g') (h' : g'.le g'') : g.le g'' :=
  ⟨fun b o x => h'.fr b o (h.fr b o x), h'.gr.trans h.gr, h'.ext.trans h.ext, fun e => (h.ent e).trans (h'.ent e)⟩

theorem repL_mono {α : Type} {R R' : α → List Value → Prop} {l : List α} : (∀ x, x ∈ l → ∀ cs, R x cs → R' x cs) → ∀ {cs}, repL R l cs → repL R' l cs := by
  induction l with
  | nil => intro _ cs h; exact h
  | cons x l ih =>
    rintro h cs ⟨c1, c2, rfl, h1, h2⟩
    exact ⟨c1, c2, rfl, h x (by simp) _ h1, ih (fun y hy => h y (by simp [hy])) h2⟩

theorem reads_mono {F F' : Nat → Option Obj} (h : ∀ b o, F b = some o → F' b = some o) {a : Addr} {vs : List Value} (hr : reads F a vs) : reads F' a vs := by
  obtain ⟨h0, cs, t, fz, h1, h2⟩ := hr
  exact ⟨h0, cs, t, fz, h _ _ h1, h2⟩

theorem vcr_mono {g g' : G} (h : g.le g') {e gn : Nat} {Q Q' : Nat → Sk → Nat → Prop}
    (hq : g'.bl e = g.bl e → g'.sz e = g.sz e → ∀ k s n, Q k s n → Q' k s n) (hr : g.vcr e gn Q) : g'.vcr e gn Q' := by
  unfold G.vcr at hr ⊢
  cases h.ent e with
  | same a b c =>
    rw [a]
    cases hs : g.sh e <;> simp only [hs] at hr ⊢
    exact ⟨hr.1, fun hx => hq b c _ _ _ (hr.2 hx)⟩
  | dead a => rw [a]; trivial
  | grew a b c => rw [a] at hr; rw [b]; exact ⟨Nat.le_trans hr.1 (Nat.le_of_lt c), fun hx => by have := hr.1; omega⟩
  | new a => rw [a] at hr; exact hr.elim

theorem bxr_mono {g g' : G} (h : g.le g') {e : Nat} {Q Q' : Sk → Prop}
    (hq : g'.bl e = g.bl e → ∀ s, Q s → Q' s) (hr : g.bxr e Q) : g'.bxr e Q' := by
  unfold G.bxr at hr ⊢
  cases h.ent e with
  | same a b c =>
    rw [a]
    cases hs : g.sh e <;> simp only [hs] at hr ⊢
    exact hq b _ hr
  | dead a => rw [a]; trivial
  | grew a b c => rw [a] at hr; exact hr.elim
  | new a => rw [a] at hr; exact hr.elim

theorem Rep_mono {g g' : G} (h : g.le g') : ∀ (T : Ty) (x : T.den) (cs : List Value), (Rep g T x cs → Rep g' T x cs) ∧ (Rep.RepC g T x cs → Rep.RepC g' T x cs) := by
  intro T
  induction T with
  | bool | int | str | und | nils | nilp | nilm | nilf | nili | mp | it | ch => intro x cs; exact ⟨fun hr => hr, fun hr => by simp [Rep.RepC] at hr⟩
  | unit => intro x cs; exact ⟨fun hr => hr, fun hr => hr⟩
  | prod a b iha ihb =>
    intro x cs
    constructor
    · rintro ⟨c1, c2, rfl, h1, h2⟩
      exact ⟨c1, c2, rfl, (iha _ _).1 h1, (ihb _ _).1 h2⟩
    · rintro ⟨v, r, rfl, h1, h2⟩
      refine ⟨v, r, rfl, ?_, (ihb _ _).2 h2⟩
      split at h1
      · obtain ⟨cs, hv, hr⟩ := h1; rw [if_pos (by assumption)]; exact ⟨cs, hv, (iha _ _).1 hr⟩
      · rw [if_neg (by assumption)]; exact (iha _ _).1 h1
  | arr n a iha =>
    intro x cs
    exact ⟨fun hr => ⟨hr.1, repL_mono (fun y _ cs => (iha y cs).1) hr.2⟩, fun hr => by simp [Rep.RepC] at hr⟩
  | imm p f a iha =>
    intro x cs
    refine ⟨?_, fun hr => by simp [Rep.RepC] at hr⟩
    rintro ⟨pv, cap, h1, h2, h3, h4⟩
    refine ⟨pv, cap, h1, h2, h3, fun hne => ?_⟩
    obtain ⟨ad, vs, a1, a2, a3⟩ := h4 hne
    refine ⟨ad, vs, a1, repL_mono (fun y _ cs => (iha y cs).1) a2, ?_⟩
    rcases a3 with a3 | ⟨a3, a4⟩
    · exact .inl (reads_mono h.fr a3)
    · exact .inr ⟨a3, by rw [h.gr]; exact a4⟩
  | vc e gn =>
    intro x cs
    refine ⟨fun hr => ⟨hr.1, vcr_mono h (fun hb hz k s n hq => ?_) hr.2⟩, fun hr => by simp [Rep.RepC] at hr⟩
    rw [hb, hz]; exact hq
  | sv e gn =>
    intro x cs
    refine ⟨fun hr => ⟨hr.1, vcr_mono h (fun hb hz k s n hq => ?_) hr.2⟩, fun hr => by simp [Rep.RepC] at hr⟩
    rw [hb]; exact hq
  | vp e gn p =>
    intro x cs
    refine ⟨fun hr => ⟨hr.1, vcr_mono h (fun hb hz k s n hq => ?_) hr.2⟩, fun hr => by simp [Rep.RepC] at hr⟩
    rw [hb]; exact hq
  | sub e p =>
    intro x cs
    refine ⟨fun hr => ⟨hr.1, bxr_mono h (fun hb s hq => ?_) hr.2⟩, fun hr => by simp [Rep.RepC] at hr⟩
    rw [hb]; exact hq
  | ptr e p =>
    intro x cs
    refine ⟨fun hr => ⟨hr.1, bxr_mono h (fun hb s hq => ?_) hr.2⟩, fun hr => by simp [Rep.RepC] at hr⟩
    rw [hb]; exact hq
  | ip p a iha =>
    intro x cs
    refine ⟨?_, fun hr => by simp [Rep.RepC] at hr⟩
    rintro ⟨ad, vs, h1, h2, h3⟩
    refine ⟨ad, vs, h1, (iha _ _).1 h2, ?_⟩
    rcases h3 with a3 | ⟨a3, a4⟩
    · exact .inl (reads_mono h.fr a3)
    · exact .inr ⟨a3, by rw [h.gr]; exact a4⟩
  | fn f c ihc =>
    intro x cs
    refine ⟨?_, fun hr => by simp [Rep.RepC] at hr⟩
    rintro ⟨vs, h1, h2⟩
    exact ⟨vs, h1, (ihc _ _).2 h2⟩

theorem TRep_mono {g g' : G} (h : g.le g') {T : Ty} {x : T.den} {v : Value} (hr : TRep g T x v) : TRep g' T x v := by
  unfold TRep at hr ⊢
  split
  · rw [if_pos (by assumption)] at hr; obtain ⟨cs, h1, h2⟩ := hr; exact ⟨cs, h1, (Rep_mono h _ _ _).1 h2⟩
  · rw [if_neg (by assumption)] at hr; exact (Rep_mono h _ _ _).1 hr

theorem tupRep_mono {g g' : G} (h : g.le g') : ∀ {l : List TV} {vs : List Value}, tupRep g l vs → tupRep g' l vs
  | [], _, hr => hr
  | t :: ts, _, ⟨v, r, h1, h2, h3⟩ => ⟨v, r, h1, TRep_mono h h2, tupRep_mono h h3⟩

theorem VRep_mono {g g' : G} (h : g.le g') {a : AV} {v : Value} (hr : VRep g a v) : VRep g' a v := by
  cases a with
  | v T x =>
    cases T <;> first | trivial | exact TRep_mono h hr
  | tup l => obtain ⟨vs, h1, h2⟩ := hr; exact ⟨vs, h1, tupRep_mono h h2⟩

theorem VRep_v {g : G} {T : Ty} {x : T.den} {v : Value} (hT : T ≠ .und) : VRep g (.v T x) v ↔ TRep g T x v := by
  cases T <;> first | rfl | exact absurd rfl hT

/-! cells of what is represented -/

theorem repL_length {α : Type} {R : α → List Value → Prop} {n : Nat} (h : ∀ x cs, R x cs → cs.length = n) : ∀ {l : List α} {cs}, repL R l cs → cs.length = l.length * n
  | [], _, hr => by rw [hr]; simp
  | x :: l, _, ⟨c1, c2, h1, h2, h3⟩ => by
    rw [h1, List.length_append, h x c1 h2, repL_length h h3]; simp [Nat.add_mul, Nat.add_comm]

theorem Rep_length {g : G} : ∀ (T : Ty) (x : T.den) (cs : List Value), Rep g T x cs → cs.length = T.nc := by
  intro T
  induction T with
  | bool | nils | nilp | nilm | nilf | nili => intro x cs h; simp only [Rep] at h; rw [h]; rfl
  | int | str => intro x cs h; rw [h.1]; rfl
  | unit => intro x cs h; simp only [Rep] at h; rw [h]; rfl
  | und | mp | it | ch => intro x cs h; exact h.elim
  | prod a b iha ihb =>
    rintro x cs ⟨c1, c2, rfl, h1, h2⟩
    rw [List.length_append, iha _ _ h1, ihb _ _ h2]; rfl
  | arr n a iha =>
    rintro x cs ⟨h1, h2⟩
    rw [repL_length iha h2, h1]; rfl
  | imm p f a iha => rintro x cs ⟨pv, cap, h1, _⟩; rw [h1]; rfl
  | vc | sv | sub => rintro x cs ⟨⟨v, hv, _⟩, _⟩; rw [hv]; rfl
  | vp | ptr => rintro x cs ⟨⟨v, hv⟩, _⟩; rw [hv]; rfl
  | ip p a iha => rintro x cs ⟨ad, vs, h1, _⟩; rw [h1]; rfl
  | fn f c ih => rintro x cs ⟨vs, h1, _⟩; rw [h1]; rfl

theorem repL_cells {α : Type} {R : α → List Value → Prop} (h : ∀ x cs, R x cs → ∀ v ∈ cs, v.oneCell' = true) : ∀ {l : List α} {cs}, repL R l cs → ∀ v ∈ cs, v.oneCell' = true
  | [], _, hr => by rw [hr]; simp
  | x :: l, _, ⟨c1, c2, h1, h2, h3⟩ => by
    intro v hv
    rw [h1, List.mem_append] at hv
    rcases hv with hv | hv
    · exact h x c1 h2 v hv
    · exact repL_cells h h3 v hv

theorem Rep_cells {g : G} : ∀ (T : Ty) (x : T.den) (cs : List Value), Rep g T x cs → ∀ v ∈ cs, v.oneCell' = true := by
  intro T
  induction T with
  | bool | nils | nilp | nilm | nilf | nili => intro x cs h v hv; simp only [Rep] at h; rw [h] at hv; simp only [List.mem_singleton] at hv; rw [hv]; rfl
  | int | str => intro x cs h v hv; rw [h.1] at hv; simp only [List.mem_singleton] at hv; rw [hv]; rfl
  | unit => intro x cs h; simp only [Rep] at h; rw [h]; simp
  | und | mp | it | ch => intro x cs h; exact h.elim
  | prod a b iha ihb =>
    rintro x cs ⟨c1, c2, rfl, h1, h2⟩ v hv
    rw [List.mem_append] at hv
    rcases hv with hv | hv
    · exact iha _ _ h1 v hv
    · exact ihb _ _ h2 v hv
  | arr n a iha =>
    rintro x cs ⟨h1, h2⟩
    exact repL_cells iha h2
  | imm p f a iha => rintro x cs ⟨pv, cap, h1, _⟩ v hv; rw [h1] at hv; simp only [List.mem_singleton] at hv; rw [hv]; rfl
  | vc | sv | sub => rintro x cs ⟨⟨v, hv, ho⟩, _⟩ u hu; rw [hv] at hu; simp only [List.mem_singleton] at hu; rw [hu]; exact ho
  | vp | ptr => rintro x cs ⟨⟨v, hv⟩, _⟩ u hu; rw [hv] at hu; simp only [List.mem_singleton] at hu; rw [hu]; rfl
  | ip p a iha => rintro x cs ⟨ad, vs, h1, _⟩ v hv; rw [h1] at hv; simp only [List.mem_singleton] at hv; rw [hv]; rfl
  | fn f c ih => rintro x cs ⟨vs, h1, _⟩ v hv; rw [h1] at hv; simp only [List.mem_singleton] at hv; rw [hv]; rfl

theorem sk_agg (T : Ty) : T.sk.agg = T.agg := rfl

theorem leaf_nc {T : Ty} (h : T.agg = false) : T.nc = 1 := by
  unfold Ty.agg at h
  unfold Ty.nc
  cases hs : T.sk <;> rw [hs] at h <;> first | rfl | (cases h)

/-- a value's cells -/
theorem TRep_cells {g : G} {T : Ty} {x : T.den} {v : Value} (h : TRep g T x v) : Rep g T x v.cells.toList := by
  unfold TRep at h
  split at h
  · obtain ⟨cs, rfl, hr⟩ := h; exact hr
  · have hc := Rep_cells _ _ _ h v (by simp)
    have : v.cells = #[v] := by cases v <;> first | rfl | (simp [Value.oneCell'] at hc)
    rw [this]; exact h

/-- ..and back -/
theorem TRep_of_agg {g : G} {T : Ty} {x : T.den} {cs : Array Value} (hT : T.agg = true) (h : Rep g T x cs.toList) : TRep g T x (.agg cs) := by
  unfold TRep; rw [if_pos hT]; exact ⟨cs, rfl, h⟩

theorem TRep_of_leaf {g : G} {T : Ty} {x : T.den} {v : Value} (hT : T.agg = false) (h : Rep g T x [v]) : TRep g T x v := by
  unfold TRep; rw [if_neg (by simp [hT])]; exact h

end Vse

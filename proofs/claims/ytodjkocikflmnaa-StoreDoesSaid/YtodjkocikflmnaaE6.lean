/- Each operation of the symbolic machine is one of the model's. Nothing here is about one program. -/
import Derived.Test.YtodjkocikflmnaaE5
set_option linter.unusedVariables false
namespace Vse
open Go

/-! heaps -/

theorem getE_setE (H : Heap) : ∀ (e e' : Nat) (E : Entry), getE (setE H e E) e' = if e' = e ∧ e < H.length then E else getE H e' := by
  induction H with
  | nil => intro e e' E; simp [setE]
  | cons x H ih =>
    intro e e' E
    cases e with
    | zero => cases e' <;> simp [setE, getE]
    | succ e =>
      cases e' with
      | zero => simp [setE, getE]
      | succ e' => simp [setE, getE, ih]

theorem setE_length (H : Heap) : ∀ (e : Nat) (E : Entry), (setE H e E).length = H.length := by
  induction H with
  | nil => intro e E; rfl
  | cons x H ih => intro e E; cases e <;> simp [setE, ih]

theorem upd_length : ∀ (l : List (Nat × Entry)) (H : Heap), (upd H l).length = H.length
  | [], _ => rfl
  | (i, e) :: l, H => by simp only [upd]; rw [upd_length l, setE_length]

theorem getE_past (H : Heap) : ∀ {e : Nat}, H.length ≤ e → getE H e = .free := by
  induction H with
  | nil => intro e _; rfl
  | cons x H ih =>
    intro e h
    cases e with
    | zero => simp at h
    | succ e => exact ih (by simpa using h)

theorem lt_of_live {H : Heap} {e : Nat} (h : (getE H e).live = true) : e < H.length := by
  rcases Nat.lt_or_ge e H.length with h' | h'
  · exact h'
  · rw [getE_past H h'] at h; cases h

theorem getE_append_frees (H : Heap) (n e : Nat) : getE (H ++ frees n) e = getE H e := by
  induction H generalizing e with
  | nil =>
    induction n generalizing e with
    | zero => rfl
    | succ n ih => cases e <;> simp_all [frees, getE]
  | cons x H ih => cases e <;> simp [getE, ih]

theorem HInv.widen {g : G} {H : Heap} {w : World} (h : HInv g H w) (n : Nat) : HInv g (H ++ frees n) w := by
  have e : ∀ i, getE (H ++ frees n) i = getE H i := fun i => getE_append_frees H n i
  exact ⟨fun i => by rw [e]; exact h.sh i, h.fr, h.gr, fun i => by rw [e]; exact h.ent i, fun i b => by rw [e]; exact h.own i b, h.sep, fun i j b => by rw [e, e]; exact h.dis i j b, h.ext⟩

theorem ERep_mono {g g' : G} (h : g.le g') {e : Nat} {w : World} {E : Entry} (hb : g'.bl e = g.bl e) (hz : g'.sz e = g.sz e) (hr : ERep g e w E) : ERep g' e w E := by
  cases E with
  | box T x =>
    obtain ⟨b, cs, t, fz, h1, h2, h3, h4⟩ := hr
    exact ⟨b, cs, t, fz, hb.trans h1, h2, h3, (Rep_mono h _ _ _).1 h4⟩
  | vec k a l =>
    rcases hr with ⟨h1, h2⟩ | ⟨b, cs, t, fz, vs, r, h1, h2, h3, h4, h5, h6, h7⟩
    · exact .inl ⟨hb.trans h1, h2⟩
    · exact .inr ⟨b, cs, t, fz, vs, r, hb.trans h1, h2, h3, hz.trans h4, h5, repL_mono (fun x _ cs => (Rep_mono h a x cs).1) h6, h7⟩
  | free => trivial
  | dead => trivial

theorem ERep_world {g : G} {e : Nat} {w w' : World} {E : Entry} (h : ∀ b, g.bl e = some b → ∀ o, w.heap[b]? = some o → w'.heap[b]? = some o) (hr : ERep g e w E) : ERep g e w' E := by
  cases E with
  | box T x =>
    obtain ⟨b, cs, t, fz, h1, h2, h3, h4⟩ := hr
    exact ⟨b, cs, t, fz, h1, h b h1 _ h2, h3, h4⟩
  | vec k a l =>
    rcases hr with ⟨h1, h2⟩ | ⟨b, cs, t, fz, vs, r, h1, h2, h3, h4, h5, h6, h7⟩
    · exact .inl ⟨h1, h2⟩
    · exact .inr ⟨b, cs, t, fz, vs, r, h1, h b h1 _ h2, h3, h4, h5, h6, h7⟩
  | free => trivial
  | dead => trivial

/-- the block of what lives is there -/
theorem HInv.there {g : G} {H : Heap} {w : World} (h : HInv g H w) {e b : Nat} (hl : (getE H e).live = true) (hb : g.bl e = some b) : ∃ cs t fz, w.heap[b]? = some (.cells cs t fz) := by
  have := h.ent e
  cases hE : getE H e with
  | box T x =>
    rw [hE] at this
    obtain ⟨b', cs, t, fz, h1, h2, _⟩ := this
    rw [hb] at h1; cases h1
    exact ⟨cs, t, fz, h2⟩
  | vec k a l =>
    rw [hE] at this
    rcases this with ⟨h1, _⟩ | ⟨b', cs, t, fz, vs, r, h1, h2, _⟩
    · rw [hb] at h1; cases h1
    · rw [hb] at h1; cases h1
      exact ⟨cs, t, fz, h2⟩
  | free => rw [hE] at hl; cases hl
  | dead => rw [hE] at hl; cases hl

def World.mk' (w : World) (o : Obj) : World := { w with heap := w.heap.push o }

theorem push_old {w : World} {o o' : Obj} {b : Nat} (h : w.heap[b]? = some o') : (World.mk' w o).heap[b]? = some o' := by
  have hb : b < w.heap.size := (Array.getElem?_eq_some_iff.1 h).1
  simp only [World.mk', Array.getElem?_push]
  rw [if_neg (by omega)]
  exact h

/-- a new variable -/
theorem HInv.newBox {g : G} {H : Heap} {w : World} (h : HInv g H w) {fr : Nat} (hf : getE H fr = .free) (hlt : fr < H.length) {T : Ty} {x : T.den} {cs : Array Value}
    (hr : Rep g T x cs.toList) (t : TypeId) :
    ∃ g', g.le g' ∧ HInv g' (setE H fr (.box T x)) (World.mk' w (.cells cs t)) ∧ g'.sh fr = .box T.sk ∧ g'.bl fr = some w.heap.size := by
  let g' : G := { g with bl := fun e => if e = fr then some w.heap.size else g.bl e, sh := fun e => if e = fr then .box T.sk else g.sh e }
  have hfree : g.sh fr = .free := by rw [h.sh, hf]; rfl
  have hle : g.le g' := by
    refine ⟨fun _ _ h => h, rfl, rfl, fun e => ?_⟩
    by_cases he : e = fr
    · subst he; exact .new hfree
    · exact .same (by simp [g', he]) (by simp [g', he]) rfl
  have hget : ∀ e, getE (setE H fr (.box T x)) e = if e = fr then .box T x else getE H e := by
    intro e; rw [getE_setE]; by_cases he : e = fr <;> simp [he, hlt]
  have hnone : ∀ o, g.fr w.heap.size ≠ some o ∧ g.gr w.heap.size ≠ some o := by
    intro o
    constructor
    · intro hc; have := h.fr _ _ hc; simp at this
    · intro hc; have := h.gr _ _ hc; simp at this
  have hold : ∀ e b, e ≠ fr → (getE H e).live = true → g.bl e = some b → b < w.heap.size := by
    intro e b _ hl hb
    obtain ⟨cs, t, fz, hx⟩ := h.there hl hb
    exact (Array.getElem?_eq_some_iff.1 hx).1
  refine ⟨g', hle, ⟨?_, ?_, ?_, ?_, ?_, h.sep, ?_, h.ext⟩, by simp [g'], by simp [g']⟩
  · intro e; rw [hget]; by_cases he : e = fr
    · simp [g', he, shp]
    · simp only [g', if_neg he]; exact h.sh e
  · intro b o hb; exact push_old (h.fr b o hb)
  · intro b o hb; exact push_old (h.gr b o hb)
  · intro e
    rw [hget]
    by_cases he : e = fr
    · subst he
      simp only [if_true]
      exact ⟨w.heap.size, cs, t, (0, 0), by simp [g'], (by show (w.heap.push (.cells cs t))[w.heap.size]? = _; rw [Array.getElem?_push_size]), .inl (by simp), (Rep_mono hle _ _ _).1 hr⟩
    · simp only [if_neg he]
      refine ERep_mono hle (by simp [g', he]) rfl (ERep_world (fun b _ o ho => push_old ho) (h.ent e))
  · intro e b hl hb
    rw [hget] at hl
    by_cases he : e = fr
    · subst he
      simp only [g', if_true, Option.some.injEq] at hb
      subst hb
      exact ⟨Option.eq_none_iff_forall_ne_some.2 fun o => (hnone o).1, Option.eq_none_iff_forall_ne_some.2 fun o => (hnone o).2⟩
    · simp only [if_neg he] at hl
      simp only [g', if_neg he] at hb
      exact h.own e b hl hb
  · intro e e' b hl hl' hb hb'
    rw [hget] at hl hl'
    by_cases he : e = fr
    · by_cases he' : e' = fr
      · rw [he, he']
      · exfalso
        simp only [if_neg he'] at hl'
        simp only [g', if_neg he'] at hb'
        simp only [g', if_pos he, Option.some.injEq] at hb
        have := hold e' b he' hl' hb'
        omega
    · by_cases he' : e' = fr
      · exfalso
        simp only [if_neg he] at hl
        simp only [g', if_neg he] at hb
        simp only [g', if_pos he', Option.some.injEq] at hb'
        have := hold e b he hl hb
        omega
      · simp only [if_neg he] at hl
        simp only [if_neg he'] at hl'
        simp only [g', if_neg he] at hb
        simp only [g', if_neg he'] at hb'
        exact h.dis e e' b hl hl' hb hb'

/-- a variable is written -/
theorem HInv.setBox {g : G} {H : Heap} {w : World} (h : HInv g H w) {e b : Nat} {T T' : Ty} {x : T.den} {x' : T'.den} {cs cs' : Array Value} {t : TypeId} {fz : Nat × Nat}
    (hE : getE H e = .box T x) (hb : g.bl e = some b) (hc : w.heap[b]? = some (.cells cs t fz)) (hth : thawed cs' fz) (hsk : T'.sk = T.sk) (hr : Rep g T' x' cs'.toList) :
    HInv g (setE H e (.box T' x')) (w.setRow b cs') := by
  have hlive : (getE H e).live = true := by rw [hE]; rfl
  have hlt := lt_of_live hlive
  have hget : ∀ i, getE (setE H e (.box T' x')) i = if i = e then .box T' x' else getE H i := by
    intro i; rw [getE_setE]; by_cases hi : i = e <;> simp [hi, hlt]
  have hlv : ∀ i, (getE (setE H e (.box T' x')) i).live = (getE H i).live := by
    intro i; rw [hget]; by_cases hi : i = e
    · subst hi; rw [hlive]; simp [Entry.live]
    · simp [hi]
  have hkeep : ∀ b' o, b' ≠ b → w.heap[b']? = some o → (w.setRow b cs').heap[b']? = some o := by
    intro b' o hne ho; rw [setRow_other w b b' cs' hne]; exact ho
  refine ⟨?_, ?_, ?_, ?_, ?_, h.sep, ?_, by rw [setRow_os, setRow_output, setRow_tape]; exact h.ext⟩
  · intro i; rw [hget]; by_cases hi : i = e
    · subst hi; simp only [if_true, shp]; rw [h.sh, hE, hsk]; rfl
    · simp only [if_neg hi]; exact h.sh i
  · intro b' o hf
    have hne : b' ≠ b := by
      rintro rfl
      have := (h.own e b' hlive hb).1
      rw [hf] at this; cases this
    exact hkeep _ _ hne (h.fr _ _ hf)
  · intro b' o hf
    have hne : b' ≠ b := by
      rintro rfl
      have := (h.own e b' hlive hb).2
      rw [hf] at this; cases this
    exact hkeep _ _ hne (h.gr _ _ hf)
  · intro i
    rw [hget]
    by_cases hi : i = e
    · subst hi
      simp only [if_true]
      exact ⟨b, cs', t, fz, hb, setRow_heap w b cs cs' t fz hc, hth, hr⟩
    · simp only [if_neg hi]
      have hE' := h.ent i
      cases hEi : getE H i with
      | free => trivial
      | dead => trivial
      | box U y =>
        rw [hEi] at hE'
        refine ERep_world (fun b' hb' o ho => hkeep _ _ ?_ ho) hE'
        rintro rfl
        exact hi (h.dis i e b' (by rw [hEi]; rfl) hlive hb' hb)
      | vec k a l =>
        rw [hEi] at hE'
        refine ERep_world (fun b' hb' o ho => hkeep _ _ ?_ ho) hE'
        rintro rfl
        exact hi (h.dis i e b' (by rw [hEi]; rfl) hlive hb' hb)
  · intro i b' hl hb'; rw [hlv] at hl; exact h.own i b' hl hb'
  · intro i j b' hl hl' hb1 hb2; rw [hlv] at hl hl'; exact h.dis i j b' hl hl' hb1 hb2

/-- memory with one entry seen otherwise -/
def G.put (g : G) (e : Nat) (s : ESh) (b : Option Nat) (z : Nat) : G :=
  { g with sh := fun i => if i = e then s else g.sh i, bl := fun i => if i = e then b else g.bl i, sz := fun i => if i = e then z else g.sz i }

theorem G.put_le {g : G} {e : Nat} {s : ESh} {b : Option Nat} {z : Nat} (h : Turn g (g.put e s b z) e) : g.le (g.put e s b z) := by
  refine ⟨fun _ _ h => h, rfl, rfl, fun i => ?_⟩
  by_cases hi : i = e
  · subst hi; exact h
  · exact .same (by simp [G.put, hi]) (by simp [G.put, hi]) (by simp [G.put, hi])

/-- one entry is turned, and at most its own block (or one that nobody had) -/
theorem HInv.turn {g : G} {H : Heap} {w w' : World} (h : HInv g H w) {e : Nat} (hlt : e < H.length) {E : Entry} {b : Option Nat} {z : Nat} (hle : g.le (g.put e (shp E) b z))
    (hkeep : ∀ b' o, (∀ b0, (getE H e).live = true → g.bl e = some b0 → b' ≠ b0) → w.heap[b']? = some o → w'.heap[b']? = some o)
    (hrep : ERep (g.put e (shp E) b z) e w' E) (hown : ∀ b', b = some b' → g.fr b' = none ∧ g.gr b' = none)
    (hdis : ∀ i b', i ≠ e → (getE H i).live = true → g.bl i = some b' → b ≠ some b') (hext : (w'.os, w'.output, w'.tape) = g.ext) : HInv (g.put e (shp E) b z) (setE H e E) w' := by
  have hget : ∀ i, getE (setE H e E) i = if i = e then E else getE H i := by
    intro i; rw [getE_setE]; by_cases hi : i = e <;> simp [hi, hlt]
  have hf : ∀ F : Nat → Option Obj, (∀ b o, F b = some o → w.heap[b]? = some o) → (∀ b0, (getE H e).live = true → g.bl e = some b0 → F b0 = none) → ∀ b o, F b = some o → w'.heap[b]? = some o := by
    intro F hF hn b' o hb
    refine hkeep b' o (fun b0 hl h0 => ?_) (hF b' o hb)
    rintro rfl
    rw [hn b' hl h0] at hb; cases hb
  refine ⟨?_, hf g.fr h.fr fun b0 hl h0 => (h.own e b0 hl h0).1, hf g.gr h.gr fun b0 hl h0 => (h.own e b0 hl h0).2, ?_, ?_, h.sep, ?_, hext⟩
  · intro i; rw [hget]; by_cases hi : i = e
    · subst hi; simp [G.put]
    · simp only [G.put, if_neg hi]; exact h.sh i
  · intro i
    rw [hget]
    by_cases hi : i = e
    · subst hi; simp only [if_true]; exact hrep
    · simp only [if_neg hi]
      by_cases hl : (getE H i).live = true
      · refine ERep_mono hle (by simp [G.put, hi]) (by simp [G.put, hi]) (ERep_world (fun b' hb' o ho => hkeep b' o (fun b0 hl0 h0 => ?_) ho) (h.ent i))
        rintro rfl
        exact hi (h.dis i e b' hl hl0 hb' h0)
      · cases hE : getE H i with
        | free => trivial
        | dead => trivial
        | box _ _ => rw [hE] at hl; exact absurd rfl hl
        | vec _ _ _ => rw [hE] at hl; exact absurd rfl hl
  · intro i b' hl hb
    rw [hget] at hl
    by_cases hi : i = e
    · subst hi
      simp only [G.put, if_true] at hb
      exact hown b' hb
    · simp only [if_neg hi] at hl
      simp only [G.put, if_neg hi] at hb
      exact h.own i b' hl hb
  · intro i j b' hl hl' hb hb'
    rw [hget] at hl hl'
    by_cases hi : i = e
    · by_cases hj : j = e
      · rw [hi, hj]
      · exfalso
        simp only [if_neg hj] at hl'
        simp only [G.put, if_neg hj] at hb'
        simp only [G.put, if_pos hi] at hb
        exact hdis j b' hj hl' hb' hb
    · by_cases hj : j = e
      · exfalso
        simp only [if_neg hi] at hl
        simp only [G.put, if_neg hi] at hb
        simp only [G.put, if_pos hj] at hb'
        exact hdis i b' hi hl hb hb'
      · simp only [if_neg hi] at hl
        simp only [if_neg hj] at hl'
        simp only [G.put, if_neg hi] at hb
        simp only [G.put, if_neg hj] at hb'
        exact h.dis i j b' hl hl' hb hb'

/-- a slice of one's own is made in a free place -/
theorem HInv.newVec {g : G} {H : Heap} {w w1 : World} (h : HInv g H w) {fr : Nat} (hf : getE H fr = .free) (hlt : fr < H.length) (k : Nat) {a : Ty} {l : List a.den} {cs : Array Value} {vs r : List Value} (t : TypeId)
    (hh : w1.heap = w.heap) (hx : (w1.os, w1.output, w1.tape) = (w.os, w.output, w.tape)) (hcs : cs.toList = vs ++ r) (hl : repL (Rep g a) l vs) (hr : ∀ v ∈ r, v.oneCell' = true) :
    ∃ g', g.le g' ∧ HInv g' (setE H fr (.vec k a l)) (World.mk' w1 (.cells cs t)) ∧ g'.sh fr = .vec k a.sk l.length ∧ g'.bl fr = some w.heap.size ∧ g'.sz fr = cs.size := by
  have hfree : g.sh fr = .free := by rw [h.sh, hf]; rfl
  have hle : g.le (g.put fr (shp (.vec k a l)) (some w.heap.size) cs.size) := G.put_le (.new hfree)
  have hnl : (getE H fr).live = false := by rw [hf]; rfl
  refine ⟨_, hle, h.turn hlt hle ?_ ?_ ?_ ?_ ?_, by simp [G.put, shp], by simp [G.put], by simp [G.put]⟩
  · intro b' o _ ho
    exact push_old (w := w1) (by rw [hh]; exact ho)
  · refine .inr ⟨w.heap.size, cs, t, (0, 0), vs, r, by simp [G.put], ?_, .inl (by simp), by simp [G.put], hcs, repL_mono (fun y _ cs => (Rep_mono hle a y cs).1) hl, hr⟩
    show (w1.heap.push (.cells cs t))[w.heap.size]? = _
    rw [hh, Array.getElem?_push_size]
  · intro b' hb
    cases hb
    constructor
    · refine Option.eq_none_iff_forall_ne_some.2 fun o hc => ?_
      have := h.fr _ _ hc; simp at this
    · refine Option.eq_none_iff_forall_ne_some.2 fun o hc => ?_
      have := h.gr _ _ hc; simp at this
  · intro i b' _ hl hb hc
    cases hc
    obtain ⟨cs, t, fz, hx⟩ := h.there hl hb
    have := (Array.getElem?_eq_some_iff.1 hx).1
    omega
  · exact (show ((World.mk' w1 (.cells cs t)).os, _, _) = (w1.os, w1.output, w1.tape) from rfl).trans (hx.trans h.ext)

/-- a slice of one's own is put into a new block -/
theorem HInv.growVec {g : G} {H : Heap} {w w1 : World} (h : HInv g H w) {e k k' : Nat} {a : Ty} {l l' : List a.den} (hE : getE H e = .vec k a l) (hk : k < k') {cs : Array Value} {vs r : List Value} (t : TypeId)
    (hh : w1.heap = w.heap) (hx : (w1.os, w1.output, w1.tape) = (w.os, w.output, w.tape)) (hcs : cs.toList = vs ++ r) (hl : repL (Rep g a) l' vs) (hr : ∀ v ∈ r, v.oneCell' = true) :
    ∃ g', g.le g' ∧ HInv g' (setE H e (.vec k' a l')) (World.mk' w1 (.cells cs t)) ∧ g'.sh e = .vec k' a.sk l'.length ∧ g'.bl e = some w.heap.size ∧ g'.sz e = cs.size := by
  have hlive : (getE H e).live = true := by rw [hE]; rfl
  have hlt := lt_of_live hlive
  have hsh : g.sh e = .vec k a.sk l.length := by rw [h.sh, hE]; rfl
  have hle : g.le (g.put e (shp (.vec k' a l')) (some w.heap.size) cs.size) := G.put_le (.grew (s' := a.sk) (n' := l'.length) hsh (by simp [G.put, shp]) hk)
  refine ⟨_, hle, h.turn hlt hle ?_ ?_ ?_ ?_ ?_, by simp [G.put, shp], by simp [G.put], by simp [G.put]⟩
  · intro b' o _ ho
    exact push_old (w := w1) (by rw [hh]; exact ho)
  · refine .inr ⟨w.heap.size, cs, t, (0, 0), vs, r, by simp [G.put], ?_, .inl (by simp), by simp [G.put], hcs, repL_mono (fun y _ cs => (Rep_mono hle a y cs).1) hl, hr⟩
    show (w1.heap.push (.cells cs t))[w.heap.size]? = _
    rw [hh, Array.getElem?_push_size]
  · intro b' hb
    cases hb
    constructor
    · refine Option.eq_none_iff_forall_ne_some.2 fun o hc => ?_
      have := h.fr _ _ hc; simp at this
    · refine Option.eq_none_iff_forall_ne_some.2 fun o hc => ?_
      have := h.gr _ _ hc; simp at this
  · intro i b' _ hl hb hc
    cases hc
    obtain ⟨cs, t, fz, hx⟩ := h.there hl hb
    have := (Array.getElem?_eq_some_iff.1 hx).1
    omega
  · exact (show ((World.mk' w1 (.cells cs t)).os, _, _) = (w1.os, w1.output, w1.tape) from rfl).trans (hx.trans h.ext)

/-- a slice of one's own is turned where it stands -/
theorem HInv.setVec {g : G} {H : Heap} {w : World} (h : HInv g H w) {e b k k' : Nat} {a : Ty} {l l' : List a.den} {cs cs' : Array Value} {t : TypeId} {fz : Nat × Nat} {vs r : List Value}
    (hE : getE H e = .vec k a l) (hb : g.bl e = some b) (hc : w.heap[b]? = some (.cells cs t fz)) (hz : g.sz e = cs'.size) (hth : thawed cs' fz) (hk : k < k' ∨ (k = k' ∧ l'.length = l.length))
    (hcs : cs'.toList = vs ++ r) (hl : repL (Rep g a) l' vs) (hr : ∀ v ∈ r, v.oneCell' = true) :
    ∃ g', g.le g' ∧ HInv g' (setE H e (.vec k' a l')) (w.setRow b cs') ∧ g'.sh e = .vec k' a.sk l'.length ∧ g'.bl e = some b ∧ g'.sz e = g.sz e := by
  have hlive : (getE H e).live = true := by rw [hE]; rfl
  have hlt := lt_of_live hlive
  have hsh : g.sh e = .vec k a.sk l.length := by rw [h.sh, hE]; rfl
  have hle : g.le (g.put e (shp (.vec k' a l')) (some b) (g.sz e)) := by
    refine G.put_le ?_
    rcases hk with hk | ⟨rfl, hk⟩
    · exact .grew (s' := a.sk) (n' := l'.length) hsh (by simp [G.put, shp]) hk
    · exact .same (by simp [G.put, shp, hsh, hk]) (by simp [G.put, hb]) (by simp [G.put])
  refine ⟨_, hle, h.turn hlt hle ?_ ?_ ?_ ?_ ?_, by simp [G.put, shp], by simp [G.put], by simp [G.put]⟩
  · intro b' o hne ho
    rw [setRow_other w b b' cs' (hne b hlive hb)]; exact ho
  · exact .inr ⟨b, cs', t, fz, vs, r, by simp [G.put], setRow_heap w b cs cs' t fz hc, hth, by simp [G.put, hz], hcs, repL_mono (fun y _ cs => (Rep_mono hle a y cs).1) hl, hr⟩
  · intro b' hb'
    cases hb'
    exact h.own e b hlive hb
  · intro i b' hi hl hb' hc'
    cases hc'
    exact hi (h.dis i e b hl hlive hb' hb)
  · rw [setRow_os, setRow_output, setRow_tape]; exact h.ext

/-! small readings -/

def argsRep (g : G) : List AV → List Value → Prop
  | [], vs => vs = []
  | a :: l, vs => ∃ v r, vs = v :: r ∧ VRep g a v ∧ argsRep g l r

theorem tvOf_spec {g : G} {a : AV} {t : TV} {v : Value} (h : tvOf a = some t) (hr : VRep g a v) : TRep g t.T t.x v := by
  cases a with
  | v T x =>
    cases T <;> simp only [tvOf, Option.some.injEq] at h <;> first | (cases h; done) | (subst h; exact hr)
  | tup l => simp [tvOf] at h

theorem tvOf_ne {a : AV} {t : TV} (h : tvOf a = some t) : t.T ≠ .und := by
  cases a with
  | v T x =>
    cases T <;> simp only [tvOf, Option.some.injEq] at h <;> first | (cases h; done) | (subst h; simp)
  | tup l => simp [tvOf] at h

theorem TRep_ne {g : G} {T : Ty} {x : T.den} {v : Value} (h : TRep g T x v) : T ≠ .und := by
  rintro rfl
  simp [TRep, Ty.agg, Ty.sk, Sk.agg, Rep] at h

theorem Rep_ne {g : G} {T : Ty} {x : T.den} {cs : List Value} (h : Rep g T x cs) : T ≠ .und := by
  rintro rfl; exact h

theorem VRep_val {g : G} {t : TV} {v : Value} (h : TRep g t.T t.x v) : VRep g (val t).1 v := (VRep_v (TRep_ne h)).2 h

theorem TRep_bool {g : G} {b : Bool} {v : Value} : TRep g .bool b v ↔ v = .bool b := by simp [TRep, Ty.agg, Ty.sk, Sk.agg, Rep]
theorem TRep_int {g : G} {k : IntKind} {n : Int} {v : Value} : TRep g (.int k) n v ↔ v = .int k n ∧ inK k n = true := by simp [TRep, Ty.agg, Ty.sk, Sk.agg, Rep]

theorem inK_wrap (k : IntKind) (e : Int) : inK k (k.wrap e) = true := by
  cases k <;> simp [inK, IntKind.wrap, IntKind.min, IntKind.max, IntKind.signed, IntKind.bits] <;> (try split) <;> omega

theorem inK_zero (k : IntKind) : inK k 0 = true := by cases k <;> decide

/-- an int that is wrapped -/
theorem TRep_wrap {g : G} {k : IntKind} {e : Int} : TRep g (.int k) (k.wrap e) (.int k (k.wrap e)) := TRep_int.2 ⟨rfl, inK_wrap k e⟩
theorem TRep_str {g : G} {s : ByteArray} {v : Value} : TRep g .str s v ↔ v = .string s ∧ s.size ≤ 9223372036854775807 := by simp [TRep, Ty.agg, Ty.sk, Sk.agg, Rep]
theorem TRep_nilp {g : G} {x : Unit} {v : Value} : TRep g .nilp x v ↔ v = .pointer none := by simp [TRep, Ty.agg, Ty.sk, Sk.agg, Rep]

theorem ofVal_spec (g : G) (v : Value) : VRep g (.v (ofVal v).T (ofVal v).x) v := by
  have key : ∀ v, (ofVal v).T ≠ .und → TRep g (ofVal v).T (ofVal v).x v := by
    intro v h
    have hint : ∀ k n, (ofVal (.int k n)).T ≠ .und → TRep g (ofVal (.int k n)).T (ofVal (.int k n)).x (.int k n) := by
      intro k n h
      by_cases hk : inK k n = true
      · have e : ofVal (.int k n) = ⟨.int k, n⟩ := by simp only [ofVal, if_pos hk]
        rw [e]; exact TRep_int.2 ⟨rfl, hk⟩
      · have e : ofVal (.int k n) = ⟨.und, ()⟩ := by simp only [ofVal, if_neg hk]
        rw [e] at h; exact (h rfl).elim
    have hstr : ∀ s, (ofVal (.string s)).T ≠ .und → TRep g (ofVal (.string s)).T (ofVal (.string s)).x (.string s) := by
      intro s h
      by_cases hk : s.size ≤ 9223372036854775807
      · have e : ofVal (.string s) = ⟨.str, s⟩ := by simp only [ofVal, decide_eq_true hk, if_true]
        rw [e]; exact TRep_str.2 ⟨rfl, hk⟩
      · have e : ofVal (.string s) = ⟨.und, ()⟩ := by simp only [ofVal, decide_eq_false hk]; rfl
        rw [e] at h; exact (h rfl).elim
    by_cases hi : ∃ k n, v = .int k n
    · obtain ⟨k, n, rfl⟩ := hi; exact hint k n h
    by_cases hs : ∃ s, v = .string s
    · obtain ⟨s, rfl⟩ := hs; exact hstr s h
    unfold ofVal at h ⊢
    split <;> first | (exact (hi ⟨_, _, rfl⟩).elim) | (exact (hs ⟨_, rfl⟩).elim) | (simp [TRep, Ty.agg, Ty.sk, Sk.agg, Rep]; done) | (simp at h; done) | (show TRep g .nils () _; simp [TRep, Ty.agg, Ty.sk, Sk.agg, Rep])
  by_cases h : (ofVal v).T = .und
  · generalize ofVal v = t at *
    obtain ⟨T, x⟩ := t
    simp only at h
    subst h
    trivial
  · exact (VRep_v h).2 (key v h)

end Vse

/- Each operation of the symbolic machine is one of the model's (4). Nothing here is about one program. -/
import Derived.Test.YtodjkocikflmnaaE8
import Derived.Laws.Tables
set_option linter.unusedVariables false
namespace Vse
open Go

section
variable {P : Program} {g : G}

/-! parts put into a struct's or an array's cells -/

theorem fold_splice : ∀ (vs : List Value) (j : Nat) (cells : Array Value) (off : Nat), off + j + vs.length ≤ cells.size →
    ((vs.zipIdx j).foldl (fun (cs : Array Value) (x : Value × Nat) => cs.setIfInBounds (off + x.2) x.1) cells).toList = splice cells.toList (off + j) vs
  | [], j, cells, off, h => by simp [splice]
  | v :: vs, j, cells, off, h => by
    simp only [List.zipIdx_cons, List.foldl_cons]
    rw [fold_splice vs (j + 1) _ off (by simp at h ⊢; omega)]
    simp only [Array.toList_setIfInBounds]
    have e := list_seg_step cells.toList (off + j) v vs (by simp at h ⊢; omega)
    unfold splice
    rw [show off + (j + 1) = off + j + 1 by omega]
    simpa using e

theorem fill_one (cells : Array Value) (v : Value) (off : Nat) (h : off + v.cells.size ≤ cells.size) :
    (v.cells.zipIdx.foldl (fun (cs : Array Value) (x : Value × Nat) => cs.setIfInBounds (off + x.2) x.1) cells) = (splice cells.toList off v.cells.toList).toArray := by
  apply Array.ext'
  rw [← Array.foldl_toList, Array.toList_zipIdx, fold_splice _ 0 _ _ (by simpa using h)]
  simp

theorem pend_of_poff : ∀ {s : Sk} {p : List PS} {d : PD p} {o : Nat} {r : Sk}, poff s p d = some (o, r) → pend s p = some r := by
  intro s
  induction s with
  | prod a b iha ihb =>
    intro p d o r h
    cases p with
    | nil => simp only [poff, Option.some.injEq, Prod.mk.injEq] at h; simp [pend, h.2]
    | cons q p =>
      cases q with
      | idx => simp [poff] at h
      | fld m =>
        cases m with
        | zero => simp only [poff] at h; simp only [pend]; exact iha h
        | succ m =>
          simp only [poff, Option.map_eq_some_iff, Prod.mk.injEq, Prod.exists] at h
          obtain ⟨o', r', h, rfl, rfl⟩ := h
          simp only [pend]; exact ihb h
  | arr n a iha =>
    intro p d o r h
    cases p with
    | nil => simp only [poff, Option.some.injEq, Prod.mk.injEq] at h; simp [pend, h.2]
    | cons q p =>
      cases q with
      | fld m => simp [poff] at h
      | idx =>
        simp only [poff] at h
        split at h
        · simp only [Option.map_eq_some_iff, Prod.mk.injEq, Prod.exists] at h
          obtain ⟨o', r', h, rfl, rfl⟩ := h
          simp only [pend]; exact iha h
        · cases h
  | _ =>
    intro p d o r h
    cases p with
    | nil => simp only [poff, Option.some.injEq, Prod.mk.injEq] at h; simp [pend, h.2]
    | cons q p => cases q <;> simp [poff] at h

theorem setP_sk : ∀ {T : Ty} {x : T.den} {p : List PS} {d : PD p} {y r : TV}, setP T x p d y = some r → r.T.sk = T.sk := by
  intro T
  induction T with
  | prod a b iha ihb =>
    intro x p d y r h
    cases p with
    | nil => simp only [setP] at h; split at h; rename_i he; simp only [Option.some.injEq] at h; subst h; exact he.symm; cases h
    | cons q p =>
      cases q with
      | idx => simp [setP] at h
      | fld m =>
        cases m with
        | zero =>
          simp only [setP, Option.bind_eq_some_iff, Option.some.injEq] at h
          obtain ⟨q, hq, rfl⟩ := h
          simp only [Ty.sk, iha hq]
        | succ m =>
          simp only [setP, Option.bind_eq_some_iff, Option.some.injEq] at h
          obtain ⟨q, hq, rfl⟩ := h
          simp only [Ty.sk, ihb hq]
  | arr n a iha =>
    intro x p d y r h
    cases p with
    | nil => simp only [setP] at h; split at h; rename_i he; simp only [Option.some.injEq] at h; subst h; exact he.symm; cases h
    | cons q p =>
      cases q with
      | fld m => simp [setP] at h
      | idx =>
        simp only [setP, Option.bind_eq_some_iff, Option.some.injEq] at h
        obtain ⟨q, hq, z, hz, rfl⟩ := h
        rfl
  | _ =>
    intro x p d y r h
    cases p with
    | nil => simp only [setP] at h; split at h; rename_i he; simp only [Option.some.injEq] at h; subst h; exact he.symm; cases h
    | cons q p => cases q <;> simp [setP] at h

/-- one step more of a path -/
theorem poff_snoc : ∀ {s : Sk} {p : List PS} {d : PD p} {q : PS} {d' : PD [q]} {o : Nat} {r : Sk}, poff s p d = some (o, r) →
    poff s (p ++ [q]) (pdSnoc p d q d') = (poff r [q] d').map fun x => (o + x.1, x.2) := by
  intro s
  induction s with
  | prod a b iha ihb =>
    intro p d q d' o r h
    cases p with
    | nil =>
      simp only [poff, Option.some.injEq, Prod.mk.injEq] at h
      obtain ⟨rfl, rfl⟩ := h
      simp [pdSnoc]
    | cons q0 p =>
      cases q0 with
      | idx => simp [poff] at h
      | fld m =>
        cases m with
        | zero => simp only [poff] at h; simp only [List.cons_append, pdSnoc, poff]; exact iha h
        | succ m =>
          simp only [poff, Option.map_eq_some_iff, Prod.mk.injEq, Prod.exists] at h
          obtain ⟨o', r', h, rfl, rfl⟩ := h
          have := ihb (q := q) (d' := d') h
          simp only [pdSnoc, List.cons_append] at this
          simp only [List.cons_append, pdSnoc, poff, this, Option.map_map]
          congr 1
          funext x; simp [Nat.add_assoc]
  | arr n a iha =>
    intro p d q d' o r h
    cases p with
    | nil =>
      simp only [poff, Option.some.injEq, Prod.mk.injEq] at h
      obtain ⟨rfl, rfl⟩ := h
      simp [pdSnoc]
    | cons q0 p =>
      cases q0 with
      | fld m => simp [poff] at h
      | idx =>
        simp only [poff] at h
        split at h
        · rename_i hi
          simp only [Option.map_eq_some_iff, Prod.mk.injEq, Prod.exists] at h
          obtain ⟨o', r', h, rfl, rfl⟩ := h
          have := iha (q := q) (d' := d') h
          simp only [List.cons_append, pdSnoc, poff, if_pos hi, this, Option.map_map]
          congr 1
          funext x; simp [Nat.add_assoc]
        · cases h
  | _ =>
    intro p d q d' o r h
    cases p with
    | nil =>
      simp only [poff, Option.some.injEq, Prod.mk.injEq] at h
      obtain ⟨rfl, rfl⟩ := h
      simp [pdSnoc]
    | cons q0 p => cases q0 <;> simp [poff] at h

/-- a field's place, the type being the program's -/
theorem field_place {n : Nat} {t : TypeId} {s : Sk} {fs : Array Field} (hs : skOf P n t = some s) (hu : P.underlying t = some (.struct fs)) {m : Nat} (hm : m < fs.size) :
    ∃ f sf k, fs[m]? = some f ∧ skOf P k f.type = some sf ∧ poff s [.fld m] () = some (f.offset, sf) := by
  obtain ⟨i, hi, hz, d, hu', hd⟩ := skOf_spec hs
  rw [hu] at hu'
  simp only [Option.some.injEq] at hu'
  subst hu'
  rcases hd with ⟨_, h1, _⟩ | ⟨fs', k, hfs, rfl, hsf, hag⟩ | ⟨k, e, a, m', hk, _⟩
  · exact absurd rfl (h1 fs)
  · simp only [TypeDesc.struct.injEq] at hfs
    subst hfs
    obtain ⟨_, h2⟩ := skFields_spec hsf
    obtain ⟨sf, o, a1, a2, a3⟩ := h2 m fs[m] (by simp [hm])
    refine ⟨fs[m], sf, k, by simp [hm], a1, ?_⟩
    rw [a3, a2]; simp
  · cases hk

theorem arr_sk {n : Nat} {t e : TypeId} {s : Sk} {k : Nat} (hs : skOf P n t = some s) (hu : P.underlying t = some (.array k e)) : ∃ a m, s = .arr k a ∧ skOf P m e = some a := by
  obtain ⟨i, hi, hz, d, hu', hd⟩ := skOf_spec hs
  rw [hu] at hu'
  simp only [Option.some.injEq] at hu'
  subst hu'
  rcases hd with ⟨_, _, h2⟩ | ⟨fs', k, hfs, _⟩ | ⟨k', e', a, m', hk, _, ha, rfl⟩
  · exact absurd rfl (h2 k e)
  · cases hfs
  · simp only [TypeDesc.array.injEq] at hk
    obtain ⟨rfl, rfl⟩ := hk
    exact ⟨a, m', rfl, ha⟩

/-- real values of some parts -/
def partsRep (g : G) : List TV → List Value → Prop := tupRep g

theorem fill_struct {n : Nat} {t : TypeId} {fs : Array Field} (hu : P.underlying t = some (.struct fs)) :
    ∀ (ns : List Nat) (ts : List TV) (vs : List Value) (z r : TV) (cells : Array Value), tupRep g ts vs → ts.length = ns.length → skOf P n t = some z.T.sk → Rep g z.T z.x cells.toList →
    (∀ i ∈ ns, i < fs.size) → putParts z (zipN ns ts) = some r →
    ∃ cells', Instr.fill (fun i => (fs[i]?).map fun f => (f.offset, P.cellsOf f.type)) cells (ns.zip vs) = some cells' ∧ Rep g r.T r.x cells'.toList ∧ r.T.sk = z.T.sk
  | [], ts, vs, z, r, cells, hv, hl, hs, hz, hn, h => by
    cases ts with
    | cons => simp at hl
    | nil =>
      simp only [zipN, putParts, Option.some.injEq] at h
      subst h
      exact ⟨cells, by simp [Instr.fill], hz, rfl⟩
  | i :: ns, [], vs, z, r, cells, hv, hl, hs, hz, hn, h => by simp at hl
  | i :: ns, t0 :: ts, vs, z, r, cells, hv, hl, hs, hz, hn, h => by
    obtain ⟨v, vs', rfl, hv1, hv2⟩ := hv
    simp only [zipN, putParts] at h
    split at h
    · rename_i z' hz'
      obtain ⟨f, sf, k, hf, hsf, hp⟩ := field_place hs hu (hn i (by simp))
      have hc := TRep_cells hv1
      obtain ⟨q1, q2, q3, q4⟩ := setP_rep z.T z.x [.fld i] () _ _ _ _ _ _ hz hz' hp hc
      have hsz : v.cells.size = P.cellsOf f.type := by
        rw [cellsOf_sk hsf, ← q1]
        have := Rep_length _ _ _ hc
        show v.cells.size = t0.T.nc
        simpa using this
      have hfit : f.offset + v.cells.size ≤ cells.size := by simpa using q4
      obtain ⟨cells', e1, e2, e3⟩ := fill_struct hu ns ts vs' z' r (splice cells.toList f.offset v.cells.toList).toArray hv2 (by simpa using hl) (by rw [q2]; exact hs) (by simpa using q3) (fun j hj => hn j (by simp [hj])) h
      refine ⟨cells', ?_, e2, e3.trans q2⟩
      simp only [List.zip_cons_cons, Instr.fill, hf, Option.map_some]
      rw [if_neg (by intro hcn; simp only [Bool.or_eq_true, decide_eq_true_eq] at hcn; omega)]
      have := fill_one cells v f.offset hfit
      rw [← e1, ← this]
    · cases h

theorem fill_array {n : Nat} {t e : TypeId} {k : Nat} (hu : P.underlying t = some (.array k e)) :
    ∀ (ns : List Nat) (ts : List TV) (vs : List Value) (z r : TV) (cells : Array Value), tupRep g ts vs → ts.length = ns.length → skOf P n t = some z.T.sk → Rep g z.T z.x cells.toList →
    (∀ i ∈ ns, i < k) → putElems z (zipN ns ts) = some r →
    ∃ cells', Instr.fill (fun i => some (i * P.cellsOf e, P.cellsOf e)) cells (ns.zip vs) = some cells' ∧ Rep g r.T r.x cells'.toList ∧ r.T.sk = z.T.sk
  | [], ts, vs, z, r, cells, hv, hl, hs, hz, hn, h => by
    cases ts with
    | cons => simp at hl
    | nil =>
      simp only [zipN, putElems, Option.some.injEq] at h
      subst h
      exact ⟨cells, by simp [Instr.fill], hz, rfl⟩
  | i :: ns, [], vs, z, r, cells, hv, hl, hs, hz, hn, h => by simp at hl
  | i :: ns, t0 :: ts, vs, z, r, cells, hv, hl, hs, hz, hn, h => by
    obtain ⟨v, vs', rfl, hv1, hv2⟩ := hv
    simp only [zipN, putElems] at h
    split at h
    · rename_i z' hz'
      obtain ⟨a, m, hza, hsa⟩ := arr_sk hs hu
      have hp : poff z.T.sk [.idx] (i, ()) = some (i * a.nc, a) := by
        rw [hza]; simp [poff, hn i (by simp)]
      have hc := TRep_cells hv1
      obtain ⟨q1, q2, q3, q4⟩ := setP_rep z.T z.x [.idx] (i, ()) _ _ _ _ _ _ hz hz' hp hc
      have hce : P.cellsOf e = a.nc := cellsOf_sk hsa
      have hsz : v.cells.size = P.cellsOf e := by
        rw [hce, ← q1]
        have := Rep_length _ _ _ hc
        show v.cells.size = t0.T.nc
        simpa using this
      have hfit : i * P.cellsOf e + v.cells.size ≤ cells.size := by rw [hce]; simpa using q4
      obtain ⟨cells', e1, e2, e3⟩ := fill_array hu ns ts vs' z' r (splice cells.toList (i * a.nc) v.cells.toList).toArray hv2 (by simpa using hl) (by rw [q2]; exact hs) (by simpa using q3) (fun j hj => hn j (by simp [hj])) h
      refine ⟨cells', ?_, e2, e3.trans q2⟩
      simp only [List.zip_cons_cons, Instr.fill]
      rw [if_neg (by intro hcn; simp only [Bool.or_eq_true, decide_eq_true_eq] at hcn; omega)]
      have := fill_one cells v (i * P.cellsOf e) hfit
      rw [← e1, ← hce, ← this]
    · cases h

theorem tvsOf_rep : ∀ {vs : List AV} {ts : List TV} {rs : List Value}, tvsOf vs = some ts → argsRep g vs rs → tupRep g ts rs ∧ ts.length = rs.length
  | [], ts, rs, h, hr => by
    simp only [tvsOf, Option.some.injEq] at h
    subst h
    simp only [argsRep] at hr
    subst hr
    exact ⟨rfl, rfl⟩
  | a :: vs, ts, rs, h, hr => by
    obtain ⟨v, r, rfl, h1, h2⟩ := hr
    simp only [tvsOf] at h
    split at h
    · rename_i t ht
      split at h
      · rename_i l hl
        simp only [Option.some.injEq] at h
        subst h
        obtain ⟨q1, q2⟩ := tvsOf_rep hl h2
        exact ⟨⟨v, r, rfl, tvOf_spec ht h1, q1⟩, by simp [q2]⟩
      · cases h
    · cases h

theorem places_ok {n : Nat} {t : TypeId} {s : Sk} {fs : Array Field} (hs : skOf P n t = some s) (hu : P.underlying t = some (.struct fs)) :
    fs.toList.mapM (fun f => (P.info? f.type).map fun i => (f.offset, i.size)) = some (fs.toList.map fun f => (f.offset, P.cellsOf f.type)) := by
  have key : ∀ l : List Field, (∀ f ∈ l, ∃ i, P.info? f.type = some i) → l.mapM (fun f => (P.info? f.type).map fun i => (f.offset, i.size)) = some (l.map fun f => (f.offset, P.cellsOf f.type)) := by
    intro l
    induction l with
    | nil => intro _; rfl
    | cons f l ih =>
      intro h
      obtain ⟨i, hi⟩ := h f (by simp)
      rw [List.mapM_cons, ih (fun f hf => h f (by simp [hf]))]
      simp [hi, Program.cellsOf]
  refine key _ fun f hf => ?_
  obtain ⟨m, hm, rfl⟩ := List.getElem_of_mem hf
  obtain ⟨f', sf, k, h1, h2, _⟩ := field_place hs hu (m := m) (by simpa using hm)
  have : f' = fs.toList[m] := by
    have e : fs[m]? = some fs.toList[m] := by simp
    rw [e] at h1; exact (Option.some.inj h1).symm
  subst this
  obtain ⟨i, hi, _⟩ := skOf_spec h2
  exact ⟨i, hi⟩

theorem build_run {t : TypeId} {ns : List Nat} {vs : List AV} {ts : List TV} {rs : List Value} {v : TV} (h1 : tvsOf vs = some ts) (h2 : buildT P t ns ts = some v) (hr : argsRep g vs rs) (hl : ns.length = rs.length) (w : World) :
    ∃ rv, (Instr.build t (ns.zip rs).toArray).run P w = .ok rv w ∧ TRep g v.T v.x rv := by
  obtain ⟨ht, htl⟩ := tvsOf_rep h1 hr
  unfold buildT at h2
  split at h2
  · rename_i fs z hu hz
    split at h2
    · rename_i hns
      obtain ⟨hs, i, zv, hi, hiz, hzr, hzrun⟩ := zeroT_spec (g := g) hz
      have hc := TRep_cells hzr
      obtain ⟨cells', e1, e2, e3⟩ := fill_struct hu ns ts rs z v zv.cells ht (by omega) hs hc (by simpa [List.all_eq_true] using hns) h2
      refine ⟨.agg cells', run_build w t _ cells' ?_, ?_⟩
      · have : (fun (i : Nat) => ((fs.toList.map fun f => (f.offset, P.cellsOf f.type)).toArray)[i]?) = (fun (i : Nat) => (fs[i]?).map fun (f : Field) => (f.offset, P.cellsOf f.type)) := by
          funext i; simp
        simp only [Program.built, hi, hu, hiz, places_ok hs hu, this]
        exact e1
      · have hag : v.T.agg = true := by
          unfold Ty.agg; rw [e3]
          obtain ⟨i, _, _, d, hu', hd⟩ := skOf_spec hs
          rw [hu] at hu'
          simp only [Option.some.injEq] at hu'
          subst hu'
          rcases hd with ⟨_, h1, _⟩ | ⟨_, _, _, _, _, ha⟩ | ⟨k, e, a, m', hk, _⟩
          · exact absurd rfl (h1 fs)
          · exact ha
          · cases hk
        exact TRep_of_agg hag e2
    · cases h2
  · rename_i k e z hu hz
    split at h2
    · rename_i hns
      obtain ⟨hs, i, zv, hi, hiz, hzr, hzrun⟩ := zeroT_spec (g := g) hz
      have hc := TRep_cells hzr
      obtain ⟨cells', e1, e2, e3⟩ := fill_array hu ns ts rs z v zv.cells ht (by omega) hs hc (by simpa [List.all_eq_true] using hns) h2
      obtain ⟨a, m, hza, hsa⟩ := arr_sk hs hu
      refine ⟨.agg cells', ?_, ?_⟩
      · simp only [Instr.build, Sem.run_bind, hzrun w, Result.andThen_ok, run_underlying hu, run_sizeOf_sk hsa]
        rw [cellsOf_sk hsa] at e1
        rw [e1]
        rfl
      · exact TRep_of_agg (by unfold Ty.agg; rw [e3, hza]; rfl) e2
    · cases h2
  · cases h2

end
end Vse

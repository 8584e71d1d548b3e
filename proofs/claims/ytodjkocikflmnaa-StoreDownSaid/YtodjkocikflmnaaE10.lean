/- Each operation of the symbolic machine is one of the model's (5): all of them. Nothing here is about one program. -/
import Derived.Test.YtodjkocikflmnaaE9
set_option linter.unusedVariables false
namespace Vse
open Go

/-- what an operation's run hands on -/
def Gives (nx : Next) (v : Value) : Prop := nx = .value v ∨ (nx = .skip ∧ v = undef)

/-- an operation done: the world behind it -/
def Done (P : Program) (g : G) (H : Heap) (w : World) (s : Sem Next) (out : Out) : Prop :=
  ∃ nx rv w' g', s.run P w = .ok nx w' ∧ Gives nx rv ∧ g.le g' ∧ HInv g' (upd H out.2) w' ∧ VRep g' out.1 rv

section
variable {P : Program} {g : G} {H : Heap} {w : World}

theorem done_val (hI : HInv g H w) {s : Sem Value} {v : Value} {a : AV} (h : s.run P w = .ok v w) (hv : VRep g a v) : Done P g H w (do pure (.value (← s))) (a, []) :=
  ⟨.value v, v, w, g, by simp [h], .inl rfl, G.le.refl g, hI, hv⟩

theorem argsRep0 {vs : List AV} (h : argsRep g vs []) : vs = [] := by
  cases vs with
  | nil => rfl
  | cons a l => obtain ⟨_, _, h, _⟩ := h; cases h

theorem argsRep1 {vs : List AV} {r : Value} (h : argsRep g vs [r]) : ∃ a, vs = [a] ∧ VRep g a r := by
  cases vs with
  | nil => cases h
  | cons a l =>
    obtain ⟨v, q, h1, h2, h3⟩ := h
    simp only [List.cons.injEq] at h1
    obtain ⟨rfl, rfl⟩ := h1
    rw [argsRep0 h3]
    exact ⟨a, rfl, h2⟩

theorem argsRep2 {vs : List AV} {r s : Value} (h : argsRep g vs [r, s]) : ∃ a b, vs = [a, b] ∧ VRep g a r ∧ VRep g b s := by
  cases vs with
  | nil => cases h
  | cons a l =>
    obtain ⟨v, q, h1, h2, h3⟩ := h
    simp only [List.cons.injEq] at h1
    obtain ⟨rfl, rfl⟩ := h1
    obtain ⟨b, rfl, hb⟩ := argsRep1 h3
    exact ⟨a, b, rfl, h2, hb⟩

theorem argsRep3 {vs : List AV} {r s t : Value} (h : argsRep g vs [r, s, t]) : ∃ a b c, vs = [a, b, c] ∧ VRep g a r ∧ VRep g b s ∧ VRep g c t := by
  cases vs with
  | nil => cases h
  | cons a l =>
    obtain ⟨v, q, h1, h2, h3⟩ := h
    simp only [List.cons.injEq] at h1
    obtain ⟨rfl, rfl⟩ := h1
    obtain ⟨b, c, rfl, hb, hc⟩ := argsRep2 h3
    exact ⟨a, b, c, rfl, h2, hb, hc⟩

/-- a pointer into a box, its entry being seen -/
theorem ptr_spec (hI : HInv g H w) {e : Nat} {p : List PS} {d : PD p} {rv : Value} {T : Ty} {x : T.den} (hp : VRep g (.v (.ptr e p) d) rv) (hE : getE H e = .box T x) :
    ∃ b off s cs t fz, g.bl e = some b ∧ poff T.sk p d = some (off, s) ∧ rv = .pointer (some ⟨b, off, none⟩) ∧ w.heap[b]? = some (.cells cs t fz) ∧ thawed cs fz ∧ Rep g T x cs.toList := by
  have hr := (VRep_v (by simp)).1 hp
  simp only [TRep, Ty.agg, Ty.sk, Sk.agg, Bool.false_eq_true, if_false, Rep] at hr
  obtain ⟨_, hr⟩ := hr
  unfold G.bxr at hr
  rw [hI.sh, hE] at hr
  obtain ⟨b, off, s', h1, h2, h3⟩ := hr
  have he := hI.ent e
  rw [hE] at he
  obtain ⟨b', cs, t, fz, q1, q2, q3, q4⟩ := he
  rw [h1] at q1
  cases q1
  simp only [List.cons.injEq, and_true] at h3
  exact ⟨b, off, s', cs, t, fz, h1, h2, h3, q2, q3, q4⟩

theorem cells_at {b off : Nat} {cs : Array Value} {t : TypeId} {fz : Nat × Nat} (hc : w.heap[b]? = some (.cells cs t fz)) {n : Nat} :
    ∀ i v, (seg cs.toList off n)[i]? = some v → w.cell? ⟨b, off + i, none⟩ = some v := by
  intro i v h
  unfold seg at h
  rw [List.getElem?_take] at h
  split at h
  · rw [List.getElem?_drop] at h
    simp only [World.cell?, hc, Option.isSome_none, Bool.false_eq_true, if_false]
    simpa using h
  · cases h

/-- a pointer into an own slice, its entry being seen -/
theorem vp_spec (hI : HInv g H w) {e k : Nat} {p : List PS} {d : PD p} {rv : Value} {a : Ty} {l : List a.den} (hp : VRep g (.v (.vp e k p) d) rv) (hE : getE H e = .vec k a l) :
    ∃ b off s cs t fz vs r, g.bl e = some b ∧ poff (Sk.arr l.length a.sk) p d = some (off, s) ∧ rv = .pointer (some ⟨b, off, none⟩) ∧ w.heap[b]? = some (.cells cs t fz) ∧ thawed cs fz ∧ g.sz e = cs.size ∧
      cs.toList = vs ++ r ∧ Rep g (.arr l.length a) l vs ∧ (∀ v ∈ r, v.oneCell' = true) := by
  have hr := (VRep_v (by simp)).1 hp
  simp only [TRep, Ty.agg, Ty.sk, Sk.agg, Bool.false_eq_true, if_false, Rep] at hr
  obtain ⟨_, hr⟩ := hr
  unfold G.vcr at hr
  rw [hI.sh, hE] at hr
  simp only [shp] at hr
  obtain ⟨b, off, s', h1, h2, h3⟩ := hr.2 trivial
  have hpo : poff (Sk.arr l.length a.sk) p d = some (off, s') := by
    cases p with
    | nil => simp [vpoff] at h2
    | cons q p =>
      cases q with
      | fld m => simp [vpoff] at h2
      | idx => simpa only [vpoff, poff] using h2
  have he := hI.ent e
  rw [hE] at he
  rcases he with ⟨q1, _⟩ | ⟨b', cs, t, fz, vs, r, q1, q2, q3, q4, q5, q6, q7⟩
  · rw [h1] at q1; cases q1
  rw [h1] at q1
  cases q1
  simp only [List.cons.injEq, and_true] at h3
  exact ⟨b, off, s', cs, t, fz, vs, r, h1, hpo, h3, q2, q3, q4, q5, ⟨rfl, q6⟩, q7⟩

theorem do_load (hI : HInv g H w) {t : TypeId} {vs : List AV} {r : Value} (ha : argsRep g vs [r]) {out : Out} {o : Operand}
    (he : (c_load P t vs (ents H (idsOf (.load t o) vs))).eval = some out) : Done P g H w (do pure (.value (← Instr.loadAt t r))) out := by
  obtain ⟨a, rfl, hr⟩ := argsRep1 ha
  unfold c_load at he
  split at he
  · rename_i e p d heq
    simp only [List.cons.injEq, and_true] at heq
    subst heq
    simp only [idsOf, ents] at he
    split at he
    · rename_i T x hx
      simp only [List.cons.injEq, and_true] at hx
      obtain ⟨b, off, s, cs, tt, fz, h1, h2, rfl, h4, h5, h6⟩ := ptr_spec hI hr hx
      unfold loadT at he
      split at he
      · rename_i y hy
        split at he
        · rename_i hs
          have := Tr.ret_some he; subst this
          obtain ⟨q1, q2, q3⟩ := getP_rep T x p d cs.toList y off s h6 hy h2
          obtain ⟨v, hv, hv'⟩ := run_loadVar_cells hs w b off (seg cs.toList off y.T.nc) (Rep_length _ _ _ q1) (cells_at h4)
          refine done_val hI (v := v) ?_ (VRep_val (TRep_of_load q1 hv'))
          simp [Instr.loadAt, Instr.sureAddr, hv]
        · exact (Tr.fail_some he).elim
      · exact (Tr.fail_some he).elim
    · exact (Tr.fail_some he).elim
  · rename_i q T x heq
    simp only [List.cons.injEq, and_true] at heq
    subst heq
    unfold loadT at he
    simp only at he
    split at he
    · rename_i hs
      have := Tr.ret_some he; subst this
      have hr := (VRep_v (by simp)).1 hr
      simp only [TRep, Ty.agg, Ty.sk, Sk.agg, Bool.false_eq_true, if_false, Rep] at hr
      obtain ⟨ad, vs, h1, h2, h3⟩ := hr
      simp only [List.cons.injEq, and_true] at h1
      subst h1
      have hrd : ∃ F, (∀ b o, F b = some o → w.heap[b]? = some o) ∧ reads F ad vs := by
        rcases h3 with h3 | ⟨_, h3⟩
        · exact ⟨g.fr, hI.fr, h3⟩
        · exact ⟨g.gr, hI.gr, h3⟩
      obtain ⟨F, hF, hsp, cs, tt, fz, hc, hcs⟩ := hrd
      obtain ⟨b, off, sp⟩ := ad
      simp only at hsp hc hcs
      subst hsp
      have hw := hF _ _ hc
      obtain ⟨v, hv, hv'⟩ := run_loadVar_cells hs w b off vs (Rep_length _ _ _ h2) (fun i v hi => by
        simp only [World.cell?, hw, Option.isSome_none, Bool.false_eq_true, if_false]; exact hcs i v hi)
      refine done_val hI (v := v) ?_ (VRep_val (TRep_of_load h2 hv'))
      simp [Instr.loadAt, Instr.sureAddr, hv]
    · exact (Tr.fail_some he).elim
  · rename_i e k p d heq
    simp only [List.cons.injEq, and_true] at heq
    subst heq
    simp only [idsOf, ents] at he
    split at he
    · rename_i k' a l hx
      simp only [List.cons.injEq, and_true] at hx
      split at he
      · rename_i hk
        subst hk
        obtain ⟨b, off, s, cs, tt, fz, us, rr, h1, h2, rfl, h4, h5, hz, hcs, h6, _⟩ := vp_spec hI hr hx
        unfold loadT at he
        split at he
        · rename_i y hy
          split at he
          · rename_i hs
            have := Tr.ret_some he; subst this
            obtain ⟨q1, q2, q3⟩ := getP_rep (.arr l.length a) l p d us y off s h6 hy h2
            obtain ⟨v, hv, hv'⟩ := run_loadVar_cells hs w b off (seg us off y.T.nc) (Rep_length _ _ _ q1) (fun i v hi => cells_at (off := off) (n := y.T.nc) h4 i v (by
              rw [hcs, seg_append_left q3]; exact hi))
            refine done_val hI (v := v) ?_ (VRep_val (TRep_of_load q1 hv'))
            simp [Instr.loadAt, Instr.sureAddr, hv]
          · exact (Tr.fail_some he).elim
        · exact (Tr.fail_some he).elim
      · exact (Tr.fail_some he).elim
    · exact (Tr.fail_some he).elim
  · exact (Tr.fail_some he).elim

theorem do_store (hI : HInv g H w) {t : TypeId} {vs : List AV} {r r2 : Value} (ha : argsRep g vs [r, r2]) {out : Out} {o o2 : Operand}
    (he : (c_store P t vs (ents H (idsOf (.store t o o2) vs))).eval = some out) : Done P g H w (do Instr.storeAt t r r2; pure .skip) out := by
  obtain ⟨a, a2, rfl, hr, hr2⟩ := argsRep2 ha
  unfold c_store at he
  split at he
  · rename_i e p d a' heq
    simp only [List.cons.injEq, and_true] at heq
    obtain ⟨rfl, rfl⟩ := heq
    simp only [idsOf, ents] at he
    split at he
    · rename_i T x hx
      simp only [List.cons.injEq, and_true] at hx
      obtain ⟨b, off, s, cs, tt, fz, h1, h2, rfl, h4, h5, h6⟩ := ptr_spec hI hr hx
      split at he
      · rename_i v hv
        split at he
        · rename_i y hy
          split at he
          · rename_i hs
            have := Tr.ret_some he; subst this
            have hvr := tvOf_spec hv hr2
            have hvc := TRep_cells hvr
            obtain ⟨q1, q2, q3, q4⟩ := setP_rep T x p d cs.toList _ v y off s h6 hy h2 hvc
            have hlen := Rep_length _ _ _ hvc
            have hsz : r2.cells.size = v.T.sk.nc := by have : v.T.nc = v.T.sk.nc := rfl; rw [← this, ← hlen]; simp
            have hst := run_storeCells_thaw (P := P) b off tt fz r2.cells.toList 0 cs w h4 h5 (by simpa using q4) (Rep_cells _ _ _ hvc)
            refine ⟨.skip, undef, w.setRow b (splice cs.toList off r2.cells.toList).toArray, g, ?_, .inr ⟨rfl, rfl⟩, G.le.refl g, ?_, trivial⟩
            · simp only [Instr.storeAt, Instr.sureAddr, storeVar, Sem.run_bind, Sem.run_pure, Result.andThen_ok, run_sizeOf_sk hs]
              rw [if_neg (by simp [hsz])]
              simp only [hst, Result.andThen_ok]
              simp
            · simp only [upd]
              refine hI.setBox hx h1 h4 ?_ q2 (by simpa using q3)
              have hl : (splice cs.toList off r2.cells.toList).length = cs.size := by
                unfold splice; simp at q4 ⊢; omega
              unfold thawed at h5 ⊢
              simpa [hl] using h5
          · exact (Tr.fail_some he).elim
        · exact (Tr.fail_some he).elim
      · exact (Tr.fail_some he).elim
    · exact (Tr.fail_some he).elim
  · rename_i e k p d a' heq
    simp only [List.cons.injEq, and_true] at heq
    obtain ⟨rfl, rfl⟩ := heq
    simp only [idsOf, ents] at he
    split at he
    · rename_i k' a l hx
      simp only [List.cons.injEq, and_true] at hx
      split at he
      · rename_i hk
        subst hk
        obtain ⟨b, off, s, cs, tt, fz, us, rr, h1, h2, rfl, h4, h5, hz, hcs, h6, h7⟩ := vp_spec hI hr hx
        split at he
        · rename_i v hv
          split at he
          · rename_i m hm
            · have hy := setI_setP hm
              split at he
              · rename_i hs
                have := Tr.ret_some he; subst this
                have hvr := tvOf_spec hv hr2
                have hvc := TRep_cells hvr
                obtain ⟨q1, q2, q3, q4⟩ := setP_rep (.arr l.length a) l (.idx :: p) d us _ v _ off s h6 hy h2 hvc
                have hlen := Rep_length _ _ _ hvc
                have hsz : r2.cells.size = v.T.sk.nc := by have : v.T.nc = v.T.sk.nc := rfl; rw [← this, ← hlen]; simp
                have hbig : off + 0 + r2.cells.toList.length ≤ cs.size := by
                  have : cs.size = us.length + rr.length := by rw [← Array.length_toList, hcs, List.length_append]
                  simp at q4 ⊢; omega
                have hst := run_storeCells_thaw (P := P) b off tt fz r2.cells.toList 0 cs w h4 h5 hbig (Rep_cells _ _ _ hvc)
                have hsp : splice cs.toList off r2.cells.toList = splice us off r2.cells.toList ++ rr := by rw [hcs, splice_append_left q4]
                have hl : (splice cs.toList off r2.cells.toList).length = cs.size := by
                  unfold splice; simp at hbig ⊢; omega
                simp only [Nat.add_zero] at hst
                have hml : List.length (α := a.den) m = l.length := q3.1
                obtain ⟨g', w1, w2, _⟩ := hI.setVec (cs' := (splice cs.toList off r2.cells.toList).toArray) (k' := k) hx h1 h4 (by simpa [hl] using hz) (by unfold thawed at h5 ⊢; simpa [hl] using h5) (.inr ⟨rfl, hml⟩)
                  (vs := splice us off r2.cells.toList) (r := rr) (by simpa using hsp) q3.2 h7
                refine ⟨.skip, undef, w.setRow b (splice cs.toList off r2.cells.toList).toArray, g', ?_, .inr ⟨rfl, rfl⟩, w1, w2, trivial⟩
                simp only [Instr.storeAt, Instr.sureAddr, storeVar, Sem.run_bind, Sem.run_pure, Result.andThen_ok, run_sizeOf_sk hs]
                rw [if_neg (by simp [hsz])]
                simp only [hst, Result.andThen_ok]
              · exact (Tr.fail_some he).elim
          · exact (Tr.fail_some he).elim
        · exact (Tr.fail_some he).elim
      · exact (Tr.fail_some he).elim
    · exact (Tr.fail_some he).elim
  · exact (Tr.fail_some he).elim

theorem poff_nil (s : Sk) (d : PD []) : poff s [] d = some (0, s) := by cases s <;> rfl

theorem do_new (hI : HInv g H w) {fr : Nat} (hf : getE H fr = .free) (hlt : fr < H.length) {z : TV} {v : Value} (hv : TRep g z.T z.x v) (t : TypeId) :
    Done P g H w (do pure (.value (← (do pure (.pointer (some (← newVar t v))) : Sem Value)))) (.v (.ptr fr []) (), [(fr, .box z.T z.x)]) := by
  obtain ⟨g', hle, hI', hsh, hbl⟩ := hI.newBox hf hlt (TRep_cells hv) t
  refine ⟨.value (.pointer (some ⟨w.heap.size, 0, none⟩)), _, World.mk' w (.cells v.cells t), g', ?_, .inl rfl, hle, hI', ?_⟩
  · simp only [newVar, newRow, Sem.run_bind, Sem.run_pure, run_newObj, Result.andThen_ok, World.mk']
  · refine (VRep_v (by simp)).2 ?_
    simp only [TRep, Ty.agg, Ty.sk, Sk.agg, Bool.false_eq_true, if_false, Rep]
    refine ⟨⟨_, rfl⟩, ?_⟩
    unfold G.bxr
    rw [hsh]
    exact ⟨w.heap.size, 0, z.T.sk, hbl, poff_nil _ _, rfl⟩

theorem isStruct_spec {t : TypeId} {f : Nat} (h : isStruct P t f = true) : ∃ fs, P.underlying t = some (.struct fs) ∧ f < fs.size := by
  unfold isStruct at h
  split at h
  · rename_i fs hu; exact ⟨fs, hu, by simpa using h⟩
  · cases h

theorem arrLen_spec {t : TypeId} {n : Nat} (h : arrLen P t = some n) : ∃ e, P.underlying t = some (.array n e) := by
  unfold arrLen at h
  split at h
  · rename_i n' e hu; simp only [Option.some.injEq] at h; subst h; exact ⟨e, hu⟩
  · cases h

theorem inArrK_spec {k : IntKind} {i : Int} {n : Nat} (h : inArrK k i n = true) (hk : inK k i = true) : 0 ≤ i ∧ i < (n : Int) := by
  unfold inArrK at h
  split at h
  · rename_i hc
    simp only [Bool.and_eq_true, decide_eq_true_eq] at hc
    have := inK_iff.1 hk
    omega
  · simpa [inArr] using h

theorem inArr_spec {i : Int} {n : Nat} (h : inArr i n = true) : 0 ≤ i ∧ i < (n : Int) := by
  simpa [inArr] using h

theorem ptr_sh (hI : HInv g H w) {e : Nat} {p : List PS} {d : PD p} {rv : Value} {s : Sk} (hp : VRep g (.v (.ptr e p) d) rv) (hE : shp (getE H e) = .box s) :
    ∃ b off s', g.bl e = some b ∧ poff s p d = some (off, s') ∧ rv = .pointer (some ⟨b, off, none⟩) ∧ pend s p = some s' := by
  have hr := (VRep_v (by simp)).1 hp
  simp only [TRep, Ty.agg, Ty.sk, Sk.agg, Bool.false_eq_true, if_false, Rep] at hr
  obtain ⟨_, hr⟩ := hr
  unfold G.bxr at hr
  rw [hI.sh, hE] at hr
  obtain ⟨b, off, s', h1, h2, h3⟩ := hr
  simp only [List.cons.injEq, and_true] at h3
  exact ⟨b, off, s', h1, h2, h3, pend_of_poff h2⟩

theorem ptr_mk (hI : HInv g H w) {e : Nat} {p : List PS} {d : PD p} {s s' : Sk} {b off : Nat} (hE : shp (getE H e) = .box s) (hb : g.bl e = some b) (hp : poff s p d = some (off, s')) :
    VRep g (.v (.ptr e p) d) (.pointer (some ⟨b, off, none⟩)) := by
  refine (VRep_v (by simp)).2 ?_
  simp only [TRep, Ty.agg, Ty.sk, Sk.agg, Bool.false_eq_true, if_false, Rep]
  refine ⟨⟨_, rfl⟩, ?_⟩
  unfold G.bxr
  rw [hI.sh, hE]
  exact ⟨b, off, s', hb, hp, rfl⟩

theorem shAt_spec {s0 : ESh} {p : List PS} {s' : Sk} (h : shAt [s0] p = some s') : ∃ s, s0 = .box s ∧ pend s p = some s' := by
  cases s0 with
  | box s => exact ⟨s, rfl, h⟩
  | _ => cases h

theorem big_spec {o : Option Sk} (h : big o = true) : ∃ s, o = some s ∧ s.nc ≠ 0 := by
  cases o with
  | none => cases h
  | some s => exact ⟨s, rfl, by simpa [big] using h⟩

theorem pend_snoc_of {s : Sk} {p : List PS} {d : PD p} {q : PS} {d' : PD [q]} {o : Nat} {r : Sk} (h : poff s p d = some (o, r)) {o' : Nat} {r' : Sk} (h' : poff r [q] d' = some (o', r')) :
    pend s (p ++ [q]) = some r' := by
  have := poff_snoc (d' := d') h
  rw [h'] at this
  exact pend_of_poff this

theorem run_fieldPlace (b off : Nat) {f : Field} {k : Nat} {sf : Sk} (hs : skOf P k f.type = some sf) (hz : sf.nc ≠ 0) (w : World) : (fieldPlace ⟨b, off, none⟩ f).run P w = .ok ⟨b, off + f.offset, none⟩ w := by
  simp only [fieldPlace, Sem.run_bind, run_sizeOf_sk hs, Result.andThen_ok, hz, if_false, Sem.run_pure, addr_add]

theorem do_fieldAddr (hI : HInv g H w) {t : TypeId} {f : Nat} {vs : List AV} {r : Value} (ha : argsRep g vs [r]) {out : Out} {o : Operand}
    (he : (c_fieldAddr P t f vs (shs H (shsOf (.fieldAddr t o f) vs))).eval = some out) : Done P g H w (do pure (.value (← Instr.fieldAt t r f))) out := by
  obtain ⟨a, rfl, hr⟩ := argsRep1 ha
  unfold c_fieldAddr at he
  split at he
  · rename_i e p d heq
    simp only [List.cons.injEq, and_true] at heq
    subst heq
    simp only [shsOf, shs] at he
    split at he
    · rename_i hc
      have := Tr.ret_some he; subst this
      simp only [Bool.and_eq_true, beq_iff_eq] at hc
      obtain ⟨⟨⟨c1, c2⟩, c3⟩, c4⟩ := hc
      obtain ⟨fs, hu, hf⟩ := isStruct_spec c1
      obtain ⟨st, hst⟩ := Option.isSome_iff_exists.1 c2
      rw [hst] at c3
      obtain ⟨s, hs, hpe⟩ := shAt_spec c3
      obtain ⟨b, off, s', h1, h2, rfl, h4⟩ := ptr_sh hI hr hs
      rw [hpe] at h4
      simp only [Option.some.injEq] at h4
      subst h4
      obtain ⟨fl, sf, k, q1, q2, q3⟩ := field_place hst hu hf
      obtain ⟨sx, e1, e2⟩ := big_spec c4
      rw [hs] at e1
      have e3 := pend_snoc_of h2 q3
      simp only [shAt] at e1
      rw [e3] at e1
      simp only [Option.some.injEq] at e1
      subst e1
      refine done_val hI (v := .pointer (some ⟨b, off + fl.offset, none⟩)) ?_ ?_
      · simp only [Instr.fieldAt, Sem.run_bind, run_underlying hu, Result.andThen_ok, q1, Instr.sureAddr, Sem.run_pure, run_fieldPlace b off q2 e2]
      · refine ptr_mk hI hs h1 ?_ (s' := sf)
        rw [poff_snoc h2, q3]
        rfl
    · exact (Tr.fail_some he).elim
  · rename_i q T x heq
    simp only [List.cons.injEq, and_true] at heq
    subst heq
    split at he
    · rename_i hc
      split at he
      · rename_i y hy
        have := Tr.ret_some he; subst this
        simp only [Bool.and_eq_true, beq_iff_eq] at hc
        obtain ⟨⟨c1, c2⟩, c4⟩ := hc
        obtain ⟨fs, hu, hf⟩ := isStruct_spec c1
        obtain ⟨fl, sf, k, q1, q2, q3⟩ := field_place c2 hu hf
        obtain ⟨sx, e1, e2⟩ := big_spec c4
        rw [pend_of_poff q3] at e1
        simp only [Option.some.injEq] at e1
        subst e1
        have hr := (VRep_v (by simp)).1 hr
        simp only [TRep, Ty.agg, Ty.sk, Sk.agg, Bool.false_eq_true, if_false, Rep] at hr
        obtain ⟨ad, cs, h1, h2, h3⟩ := hr
        simp only [List.cons.injEq, and_true] at h1
        subst h1
        have hsp : ad.spot = none := by rcases h3 with h3 | ⟨_, h3⟩ <;> exact h3.1
        obtain ⟨b, off, sp⟩ := ad
        simp only at hsp
        subst hsp
        obtain ⟨r1, r2, r3⟩ := getP_rep T x [.fld f] () cs y fl.offset sf h2 hy q3
        refine done_val hI (v := .pointer (some ⟨b, off + fl.offset, none⟩)) ?_ ?_
        · simp only [Instr.fieldAt, Sem.run_bind, run_underlying hu, Result.andThen_ok, q1, Instr.sureAddr, Sem.run_pure, run_fieldPlace b off q2 e2]
        · refine (VRep_v (by simp)).2 ?_
          simp only [TRep, Ty.agg, Ty.sk, Sk.agg, Bool.false_eq_true, if_false, Rep]
          have sub : ∀ F, reads F ⟨b, off, none⟩ cs → reads F ⟨b, off + fl.offset, none⟩ (seg cs fl.offset y.T.nc) := by
            rintro F ⟨_, cc, tt, fz, w1, w2⟩
            refine ⟨rfl, cc, tt, fz, w1, fun i v hi => ?_⟩
            unfold seg at hi
            rw [List.getElem?_take] at hi
            split at hi
            · rw [List.getElem?_drop] at hi
              have := w2 _ _ hi
              simp only at this ⊢
              rw [← this]; congr 1; omega
            · cases hi
          refine ⟨_, _, rfl, r1, ?_⟩
          rcases h3 with h3 | ⟨h0, h3⟩
          · exact .inl (sub _ h3)
          · exact .inr ⟨h0, sub _ h3⟩
      · exact (Tr.fail_some he).elim
    · exact (Tr.fail_some he).elim
  · exact (Tr.fail_some he).elim

theorem do_field (hI : HInv g H w) {t : TypeId} {f : Nat} {vs : List AV} {r : Value} (ha : argsRep g vs [r]) {out : Out}
    (he : (c_field P t f vs).eval = some out) : Done P g H w (do pure (.value (← Instr.field t r f))) out := by
  obtain ⟨a, rfl, hr⟩ := argsRep1 ha
  simp only [c_field] at he
  · split at he
    · rename_i v hv
      split at he
      · rename_i hc
        split at he
        · rename_i y hy
          have := Tr.ret_some he; subst this
          simp only [Bool.and_eq_true, beq_iff_eq] at hc
          obtain ⟨c1, c2⟩ := hc
          obtain ⟨fs, hu, hf⟩ := isStruct_spec c1
          obtain ⟨fl, sf, k, q1, q2, q3⟩ := field_place c2 hu hf
          have hvr := tvOf_spec hv hr
          have hag : v.T.agg = true := by
            obtain ⟨i, _, _, d, hu', hd⟩ := skOf_spec c2
            rw [hu] at hu'
            simp only [Option.some.injEq] at hu'
            subst hu'
            rcases hd with ⟨_, h1, _⟩ | ⟨_, _, _, _, _, ha⟩ | ⟨k, e, a, m', hk, _⟩
            · exact absurd rfl (h1 fs)
            · exact ha
            · cases hk
          unfold TRep at hvr
          rw [if_pos hag] at hvr
          obtain ⟨cs, rfl, hrep⟩ := hvr
          obtain ⟨r1, r2, r3⟩ := getP_rep v.T v.x [.fld f] () cs.toList y fl.offset sf hrep hy q3
          have hz : fl.offset + sf.nc ≤ cs.size := by have : y.T.nc = sf.nc := by unfold Ty.nc; rw [r2]
                                                      rw [← this]; simpa using r3
          obtain ⟨rv, hv1, hv2⟩ := run_part_sk q2 w cs fl.offset hz
          refine done_val hI (v := rv) ?_ (VRep_val ?_)
          · simp only [Instr.field, Sem.run_bind, run_underlying hu, Result.andThen_ok, q1, asAgg, Sem.run_pure, hv1]
          · refine TRep_of_load r1 ?_
            rw [r2]
            have : y.T.nc = sf.nc := by unfold Ty.nc; rw [r2]
            rw [this]
            exact hv2
        · exact (Tr.fail_some he).elim
      · exact (Tr.fail_some he).elim
    · exact (Tr.fail_some he).elim

end
end Vse

import Derived.Test.YtffdkniccaebmaaM5
import Derived.Sort.Row

section
/- Functions with a loop over a function: summaries of slices and plain values. Nothing here is about one program. -/
set_option linter.unusedVariables false
namespace Vse
open Go Go.ChangeShapes

/-- the loops over functions in a code -/
def rngsOf : Code → List (Operand × Array Tmp × Code × Code)
  | .seq a b => rngsOf a ++ rngsOf b
  | .block _ c => rngsOf c
  | .rangeFunc g ps x y => [(g, ps, x, y)]
  | _ => []

theorem rngsOK_all {P : Program} {R : Loops} : ∀ {c : Code}, (∀ t ∈ rngsOf c, ∀ i, firstReg t.2.2.1 = some i → RunOK P (R i) (.rangeFunc t.1 t.2.1 t.2.2.1 t.2.2.2)) → RngsOK P R c := by
  intro c
  induction c with
  | seq a b iha ihb => intro h; exact ⟨iha fun t ht => h t (List.mem_append_left _ ht), ihb fun t ht => h t (List.mem_append_right _ ht)⟩
  | block id c ih => intro h; exact ih h
  | rangeFunc g ps x y => intro h; exact fun i hi => h (g, ps, x, y) (List.mem_singleton.2 rfl) i hi
  | _ => intro _; trivial

def fnSX (P : Program) (rn : St → Tr (Ex × St)) (Rs : List Ty) (fn : Func) (args : List AV) : Tr (AV × Heap) := (fnTX P rn fn args []).bind fun r => .ret (sealR Rs r)

/-- a function of slices, its body gone through in some way -/
theorem slpX {P : Program} {k : Nat} {fn : Func} (hf : P.funcs[k]? = some fn) {rn : St → Tr (Ex × St)} (hrn : RunOK P rn (bodyOf fn)) {As Rs : List Ty} {pre : HL As → Bool} {f : HL As → HL Rs}
    (hside : ((fn.name == "runtime.NumGoroutine") == false && fn.body.isSome && (As.all fun A => A.still false) && stillL Rs) = true)
    (h1 : ∀ xs, HL.ok As xs → pre xs = true → nrm (fnSX P rn Rs fn (mkArgs As xs)) = some (ofHL Rs (f xs))) :
    CSound P k (CSpec.slp As pre Rs f) ∧ CLocal (CSpec.slp As pre Rs f) := by
  simp only [Bool.and_eq_true, beq_iff_eq] at hside
  obtain ⟨⟨⟨hname, hb⟩, hA⟩, hR⟩ := hside
  obtain ⟨body, hb⟩ := Option.isSome_iff_exists.1 hb
  have hrn : RunOK P rn body := by
    unfold bodyOf at hrn
    rw [hb] at hrn
    exact hrn
  refine ⟨⟨fun args w => callFunc_enter hf hname hb args w, ?_⟩, slp_local As pre Rs f⟩
  intro g H w vs rvs fr out hI hargs _ he
  simp only [CSpec.slp] at he
  rw [takeE_takeAs] at he
  split at he
  · rename_i xs hxs
    obtain ⟨hp, he⟩ := Tr.chk_some he
    have := Tr.ret_some he
    subst this
    have hargs' := takeAs_rep hI hA hargs hxs
    have hx := args_ok hargs'
    obtain ⟨H', h5⟩ := nrm_some (h1 xs hx hp)
    obtain ⟨r, h6, h7⟩ := Tr.bind_some h5
    have h7 := Tr.ret_some h7
    refine (fn_soundX hf hb hrn (lend_inv hI) hargs' h6).mono ?_
    rintro e w' ⟨rv, g', rfl, hle, hI', hv⟩
    obtain ⟨g1, s1, s2, s3⟩ := sealR_rep Rs (r := r) hI' hv
    rw [h7] at s2 s3
    obtain ⟨g'', q1, q2, q3⟩ := lend_back hI (hle.trans s1) s2
    exact ⟨rv, g'', rfl, q1, q2, still_VRep q3 (ofHL_still hR _) s3⟩
  · exact (Tr.fail_some he).elim

theorem slpX1 {P : Program} {k : Nat} {fn : Func} (hf : P.funcs[k]? = some fn) {rn : St → Tr (Ex × St)} (hrn : RunOK P rn (bodyOf fn)) {As : List Ty} {R : Ty} {pre : HL As → Bool} {f : HL As → R.den}
    (hside : ((fn.name == "runtime.NumGoroutine") == false && fn.body.isSome && (As.all fun A => A.still false) && stillL [R]) = true)
    (h1 : ∀ xs, HL.ok As xs → pre xs = true → nrm (fnSX P rn [R] fn (mkArgs As xs)) = some (.v R (f xs))) :
    CSound P k (CSpec.slp1 As pre R f) ∧ CLocal (CSpec.slp1 As pre R f) := slpX hf hrn hside h1

end Vse

end
section
/- Functions of a slice of slices: what it holds may be own slices, lent. Nothing here is about one program. -/
set_option linter.unusedVariables false
namespace Vse
open Go Go.ChangeShapes

section
variable {P : Program} {C : Ctx} {L : Loops} {g : G} {H : Heap} {w : World}

/-- the entries of a slice of slices: its own one, and that of what it holds -/
def idsQ (H : Heap) (v : AV) : List Nat :=
  match v with
  | .v (.vc e g) u => match getE H e with
    | .vec _ (.vc e' _) _ => [e, e']
    | .vec _ (.sub e' _) _ => [e, e']
    | _ => [e]
  | v => vcOf v

def allTake (b a : Ty) (E : Entry) : List a.den → Option (List (List b.den))
  | [] => some []
  | x :: l => match takeA (.imm false false b) (.v a x) [E] with
    | some y => match allTake b a E l with
      | some r => some (y :: r)
      | none => none
    | none => none

/-- a slice of slices, as a called function sees it -/
def takeN (b : Ty) (v : AV) (es : List Entry) : Option (List (List b.den)) :=
  match v with
  | .v (.vc e g) u => match es with
    | [.vec g' a l, E] => if g = g' then allTake b a E l else none
    | es => takeA (.imm false false (.imm false false b)) (.v (.vc e g) u) es
  | v => takeA (.imm false false (.imm false false b)) v es

theorem allTake_rep (hI : HInv g H w) {b a : Ty} (hb : b.still false = true) {e : Nat} (ha : (∃ k, a = .vc e k) ∨ ∃ p, a = .sub e p) : ∀ {l : List a.den} {L : List (List b.den)} {vs : List Value}, allTake b a (getE H e) l = some L → repL (Rep g a) l vs →
    repL (Rep (g.lend H w) (.imm false false b)) L vs ∧ L.length = l.length
  | [], L, vs, h, hr => by
    simp only [allTake, Option.some.injEq] at h
    subst h
    exact ⟨hr, rfl⟩
  | x :: l, L, vs, h, hr => by
    simp only [allTake] at h
    split at h
    · rename_i y hy
      split at h
      · rename_i r hrr
        simp only [Option.some.injEq] at h
        subst h
        obtain ⟨c1, c2, rfl, h1, h2⟩ := hr
        obtain ⟨q1, q2⟩ := allTake_rep hI hb ha hrr h2
        have hone : ∃ v1, c1 = [v1] := by
          rcases ha with ⟨k, rfl⟩ | ⟨p, rfl⟩
          · obtain ⟨⟨v1, h0, _⟩, _⟩ := h1
            exact ⟨v1, h0⟩
          · obtain ⟨⟨v1, h0, _⟩, _⟩ := h1
            exact ⟨v1, h0⟩
        obtain ⟨v1, rfl⟩ := hone
        have hv : VRep g (.v a x) v1 := by
          rcases ha with ⟨k, rfl⟩ | ⟨p, rfl⟩
          · refine (VRep_v (by simp)).2 ?_
            simpa only [TRep, Ty.agg, Ty.sk, Sk.agg, Bool.false_eq_true, if_false] using h1
          · refine (VRep_v (by simp)).2 ?_
            simpa only [TRep, Ty.agg, Ty.sk, Sk.agg, Bool.false_eq_true, if_false] using h1
        have hvc : ents H (vcOf (.v a x)) = [getE H e] := by
          rcases ha with ⟨k, rfl⟩ | ⟨p, rfl⟩ <;> rfl
        have := takeA_rep (A := .imm false false b) hI (by simpa [Ty.still] using hb) hv (by rw [hvc]; exact hy)
        have := (VRep_v (by simp)).1 this
        simp only [TRep, Ty.agg, Ty.sk, Sk.agg, Bool.false_eq_true, if_false] at this
        exact ⟨⟨[v1], c2, rfl, this, q1⟩, by simp only [List.length_cons, q2]⟩
      · cases h
    · cases h

theorem takeN_rep (hI : HInv g H w) {b : Ty} (hb : b.still false = true) {v : AV} {rv : Value} {L : List (List b.den)} (hv : VRep g v rv) (h : takeN b v (ents H (idsQ H v)) = some L) : VRep (g.lend H w) (.v (.imm false false (.imm false false b)) L) rv := by
  have hb2 : (Ty.imm false false (Ty.imm false false b)).still false = true := by simpa [Ty.still] using hb
  have old : ents H (idsQ H v) = ents H (vcOf v) → takeA (.imm false false (.imm false false b)) v (ents H (vcOf v)) = some L → VRep (g.lend H w) (.v (.imm false false (.imm false false b)) L) rv := fun _ h => takeA_rep hI hb2 hv h
  have nest : ∀ {e k e' : Nat} {u : Unit} {k' : Nat} {a : Ty} {l : List a.den}, v = .v (.vc e k) u → getE H e = .vec k' a l → ((∃ j, a = .vc e' j) ∨ ∃ p, a = .sub e' p) → k = k' → allTake b a (getE H e') l = some L → VRep (g.lend H w) (.v (.imm false false (.imm false false b)) L) rv := by
    rintro e k e' u k' a l rfl hE ha rfl hL
    have he := hI.ent e
    rw [hE] at he
    have hlive : (getE H e).live = true := by rw [hE]; rfl
    have hv := (VRep_v (by simp)).1 hv
    simp only [TRep, Ty.agg, Ty.sk, Sk.agg, Bool.false_eq_true, if_false, Rep, G.vcr, hI.sh, hE, shp] at hv
    obtain ⟨_, _, hv⟩ := hv
    refine (VRep_v (by simp)).2 ?_
    simp only [TRep, Ty.agg, Ty.sk, Sk.agg, Bool.false_eq_true, if_false]
    unfold Rep
    rcases hv trivial with ⟨hb0, h0, pv0, hh⟩ | ⟨bl, cap, hbl, hh, hcap, _⟩
    · have hl0 : l = [] := List.eq_nil_of_length_eq_zero h0
      subst hl0
      simp only [allTake, Option.some.injEq] at hL
      subst hL
      exact ⟨pv0, 0, hh, by simp, by simp, by simp⟩
    · rcases he with ⟨q1, _⟩ | ⟨b', cs, t, fz, vs, r, q1, q2, q3, q4, q5, q6, q7⟩
      · rw [hbl] at q1; cases q1
      rw [hbl] at q1
      cases q1
      obtain ⟨p1, p2⟩ := allTake_rep hI hb ha hL q6
      have hgr : (g.lend H w).gr bl = some (.cells cs t fz) := by
        simp only [G.lend]
        rw [(hI.own _ _ hlive hbl).2]
        simp only [Option.isSome_none, Bool.false_eq_true, if_false]
        rw [if_pos ⟨e, hlive, hbl⟩]
        exact q2
      have hrd : reads (g.lend H w).gr ⟨bl, 0, none⟩ vs := by
        refine ⟨rfl, cs, t, fz, hgr, fun i v hi => ?_⟩
        have hj : i < vs.length := (List.getElem?_eq_some_iff.1 hi).1
        have : cs.toList[i]? = some v := by rw [q5, List.getElem?_append_left hj]; exact hi
        simpa using this
      exact ⟨_, cap, by rw [p2]; exact hh, by rw [p2]; exact hcap, by simp, fun _ => ⟨_, vs, rfl, p1, .inr ⟨rfl, hrd⟩⟩⟩
  unfold takeN at h
  split at h
  · rename_i e k u
    cases hE : getE H e with
    | vec k' a l =>
      have hcase : ((∃ e', (∃ j, a = .vc e' j) ∨ ∃ p, a = .sub e' p) ∧ ∃ e', idsQ H (.v (.vc e k) u) = [e, e'] ∧ ((∃ j, a = .vc e' j) ∨ ∃ p, a = .sub e' p)) ∨ idsQ H (.v (.vc e k) u) = [e] := by
        unfold idsQ
        simp only [hE]
        split
        · rename_i e' j l' heq
          simp only [Entry.vec.injEq] at heq
          exact .inl ⟨⟨e', .inl ⟨j, heq.2.1⟩⟩, e', rfl, .inl ⟨j, heq.2.1⟩⟩
        · rename_i e' p l' heq
          simp only [Entry.vec.injEq] at heq
          exact .inl ⟨⟨e', .inr ⟨p, heq.2.1⟩⟩, e', rfl, .inr ⟨p, heq.2.1⟩⟩
        · exact .inr rfl
      rcases hcase with ⟨_, e', hids, ha⟩ | hids
      · rw [hids] at h
        simp only [ents, hE] at h
        split at h
        · rename_i hk
          exact nest rfl hE ha hk h
        · cases h
      · rw [hids] at h
        simp only [ents] at h
        exact takeA_rep hI hb2 hv (by simpa [vcOf, ents] using h)
    | _ =>
      have hids : idsQ H (.v (.vc e k) u) = [e] := by unfold idsQ; simp only [hE]
      rw [hids] at h
      simp only [ents, hE] at h
      exact takeA_rep hI hb2 hv (by simpa [vcOf, ents, hE] using h)
  · rename_i hnv
    have hids : idsQ H v = vcOf v := by
      unfold idsQ
      split
      · rename_i e k u; exact (hnv e k u rfl).elim
      · rfl
    rw [hids] at h
    exact takeA_rep hI hb2 hv h

/-- a function of a slice, and of a slice of slices -/
def CSpec.slq (A b : Ty) (pre : A.den → List (List b.den) → Bool) (R : Ty) (f : A.den → List (List b.den) → R.den) : CSpec :=
  ⟨0, fun vs H => match vs with | [v1, v2] => vcOf v1 ++ idsQ H v2 | _ => [], fun _ _ => [],
   fun vs es _ => match vs with
    | [v1, v2] => match takeA A v1 (es.take (vcOf v1).length) with
      | some x => match takeN b v2 (es.drop (vcOf v1).length) with
        | some y => .chk (pre x y) (.ret (.v R (f x y), []))
        | none => .fail
      | none => .fail
    | _ => .fail⟩

theorem idsQ_same {H H' : Heap} {v : AV} (h : ∀ i ∈ idsQ H v, getE H' i = getE H i) : idsQ H' v = idsQ H v := by
  unfold idsQ at h ⊢
  split
  · rename_i e k u
    have he : getE H' e = getE H e := by
      refine h e ?_
      simp only
      split <;> simp
    simp only [he]
  · rfl

theorem slq_local (A b : Ty) (pre : A.den → List (List b.den) → Bool) (R : Ty) (f : A.den → List (List b.den) → R.den) : CLocal (CSpec.slq A b pre R f) where
  same vs H H' h := by
    refine ⟨?_, rfl⟩
    simp only [CSpec.slq] at h ⊢
    split
    · rename_i v1 v2
      rw [idsQ_same fun i hi => h i (List.mem_append_right _ hi)]
    · rfl
  turns vs H fr out h x hx := by
    simp only [CSpec.slq] at h
    split at h
    · split at h
      · split at h
        · obtain ⟨_, h⟩ := Tr.chk_some h
          have := Tr.ret_some h
          subst this
          simp at hx
        · exact (Tr.fail_some h).elim
      · exact (Tr.fail_some h).elim
    · exact (Tr.fail_some h).elim

theorem slqE1 (hC : CtxSound P C ∧ CtxLocal C) {k : Nat} {fn : Func} (hf : P.funcs[k]? = some fn) {A b R : Ty} {pre : A.den → List (List b.den) → Bool} {f : A.den → List (List b.den) → R.den}
    (hside : ((fn.name == "runtime.NumGoroutine") == false && fn.body.isSome && (A.still false && b.still false) && stillL [R]) = true)
    (hl : ∀ b ∈ loopsOf (bodyOf fn), LoopOK P L b)
    (h1 : ∀ x y, A.ok x → pre x y = true → nrm (fnS P C L [R] fn (mkArgs [A, .imm false false (.imm false false b)] (x, y, ()))) = some (.v R (f x y))) :
    CSound P k (CSpec.slq A b pre R f) ∧ CLocal (CSpec.slq A b pre R f) := by
  simp only [Bool.and_eq_true, beq_iff_eq] at hside
  obtain ⟨⟨⟨hname, hb⟩, hA, hbb⟩, hR⟩ := hside
  obtain ⟨body, hb⟩ := Option.isSome_iff_exists.1 hb
  have hl : LoopsOK P L body := by
    refine loopsOK_all ?_
    unfold bodyOf at hl
    rw [hb] at hl
    exact hl
  refine ⟨⟨fun args w => callFunc_enter hf hname hb args w, ?_⟩, slq_local A b pre R f⟩
  intro g H w vs rvs fr out hI hargs _ he
  simp only [CSpec.slq] at he
  split at he
  · rename_i v1 v2
    obtain ⟨r1, rs, rfl, hv1, r2, rs2, rfl, hv2, hr3⟩ := hargs
    have hr3 : rs2 = [] := hr3
    subst hr3
    have e1 : (ents H (vcOf v1 ++ idsQ H v2)).take (vcOf v1).length = ents H (vcOf v1) := by rw [ents_append, ← ents_length H (vcOf v1), List.take_left]
    have e2 : (ents H (vcOf v1 ++ idsQ H v2)).drop (vcOf v1).length = ents H (idsQ H v2) := by rw [ents_append, ← ents_length H (vcOf v1), List.drop_left]
    rw [e1, e2] at he
    split at he
    · rename_i x hx
      split at he
      · rename_i y hy
        obtain ⟨hp, he⟩ := Tr.chk_some he
        have := Tr.ret_some he
        subst this
        have a1 := takeA_rep hI hA hv1 hx
        have a2 := takeN_rep hI hbb hv2 hy
        have hargs' : argsRep (g.lend H w) (mkArgs [A, .imm false false (.imm false false b)] (x, y, ())) [r1, r2] := ⟨r1, [r2], rfl, a1, r2, [], rfl, a2, rfl⟩
        have hx := args_ok hargs'
        obtain ⟨H', h5⟩ := nrm_some (h1 x y hx.1 hp)
        obtain ⟨r, h6, h7⟩ := Tr.bind_some h5
        have h7 := Tr.ret_some h7
        refine (fn_sound hC.1 hC.2 hf hb hl (lend_inv hI) hargs' (fnK_ok h6)).mono ?_
        rintro e w' ⟨rv, g', rfl, hle, hI', hv⟩
        obtain ⟨g1, s1, s2, s3⟩ := sealR_rep [R] (r := r) hI' hv
        rw [h7] at s2 s3
        obtain ⟨g'', q1, q2, q3⟩ := lend_back hI (hle.trans s1) s2
        exact ⟨rv, g'', rfl, q1, q2, still_VRep q3 (ofHL_still hR (f x y, ())) s3⟩
      · exact (Tr.fail_some he).elim
    · exact (Tr.fail_some he).elim
  · exact (Tr.fail_some he).elim

end
end Vse

end
section
/- Worlds behind one another; rows put anew. Nothing here is about one program. -/
set_option linter.unusedVariables false
namespace Vse
open Go Go.Sort

section
variable {P : Program} {g : G} {H : Heap} {w : World}

theorem HInv.later (h : HInv g H w) {w' : World} (hh : ∀ (b : Nat) (o : Obj), w.heap[b]? = some o → w'.heap[b]? = some o) (hx : Goes w w') : HInv g H w' :=
  ⟨h.sh, fun b o x => hh b o (h.fr b o x), fun b o x => hh b o (h.gr b o x), fun e => ERep_world (fun b _ o ho => hh b o ho) (h.ent e), h.own, h.sep, h.dis, h.ext.goes hx⟩

theorem setRow_put {w : World} {b : Nat} {cs : Array Value} {t : TypeId} {fz : Nat × Nat} (h : w.heap[b]? = some (.cells cs t fz)) (F : Array Value) : putRow id w b 0 F = w.setRow b (putCells id 0 F cs) := by
  unfold putRow mapBlock World.setRow
  congr 1
  apply Array.ext_getElem?
  intro k
  simp only [Array.getElem?_modify]
  by_cases hk : b = k
  · subst hk
    simp only [if_true, h]
    rfl
  · simp only [if_neg hk]

theorem putCells_list {cs F : Array Value} {vs r : List Value} (hcs : cs.toList = vs ++ r) (hF : F.size = vs.length) : (putCells id 0 F cs).toList = F.toList ++ r := by
  have hsz : cs.size = vs.length + r.length := by rw [← Array.length_toList, hcs, List.length_append]
  apply List.ext_getElem
  · simp [putCells, hsz, hF]
  · intro i h1 h2
    have h1' : i < cs.size := by simpa [putCells] using h1
    have e1 : (putCells id 0 F cs).toList[i] = if 0 ≤ i ∧ i < 0 + F.size then F[i]! else cs[i] := by
      simp [putCells]
    rw [e1]
    by_cases hi : i < F.size
    · rw [if_pos ⟨Nat.zero_le _, by omega⟩, List.getElem_append_left (by simpa using hi), getElem!_pos F i hi, Array.getElem_toList]
    · rw [if_neg (by omega), List.getElem_append_right (by simpa using Nat.not_lt.1 hi)]
      have : cs[i] = cs.toList[i]'(by simpa using h1') := (Array.getElem_toList (h := h1')).symm
      rw [this]
      simp only [hcs]
      rw [List.getElem_append_right (by omega)]
      congr 1
      have : F.toList.length = vs.length := by rw [Array.length_toList, hF]
      omega

end
end Vse

end

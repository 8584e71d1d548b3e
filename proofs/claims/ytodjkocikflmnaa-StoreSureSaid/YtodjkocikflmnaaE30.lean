/- Functions of slices: what they are given is lent to them, what they give is never written again. Nothing here is about one program. -/
import Derived.Test.YtodjkocikflmnaaE29
set_option linter.unusedVariables false
namespace Vse
open Go Go.ChangeShapes

section
variable {P : Program} {C : Ctx} {L : Loops} {g : G} {H : Heap} {w : World}

/-! results -/

def seal1 (R : Ty) (t : TV) (H : Heap) : TV × Heap :=
  match R with
  | .imm true false a => match t with
    | ⟨.nils, _⟩ => (⟨.imm true false a, []⟩, H)
    | ⟨.vc e g, x⟩ => match getE H e with
      | .vec g' a' l => if g = g' then (⟨.imm true false a', l⟩, setE H e .dead) else (⟨.vc e g, x⟩, H)
      | _ => (⟨.vc e g, x⟩, H)
    | ⟨.imm true _ a', l⟩ => (⟨.imm true false a', l⟩, H)
    | t => (t, H)
  | _ => (t, H)

def sealL : List Ty → List TV → Heap → List TV × Heap
  | R :: Rs, t :: ts, H => ((seal1 R t H).1 :: (sealL Rs ts (seal1 R t H).2).1, (sealL Rs ts (seal1 R t H).2).2)
  | _, ts, H => (ts, H)

def sealR (Rs : List Ty) (r : AV × Heap) : AV × Heap :=
  match Rs, r.1 with
  | [R], .v T x => (.v (seal1 R ⟨T, x⟩ r.2).1.T (seal1 R ⟨T, x⟩ r.2).1.x, (seal1 R ⟨T, x⟩ r.2).2)
  | Rs, .tup l => (.tup (sealL Rs l r.2).1, (sealL Rs l r.2).2)
  | _, v => (v, r.2)

theorem seal1_rep' (hI : HInv g H w) (R : Ty) (t : TV) {v : Value} {r : TV × Heap} (hr : seal1 R t H = r) (hv : VRep g (.v t.T t.x) v) :
    ∃ g', g.le g' ∧ HInv g' r.2 w ∧ VRep g' (.v r.1.T r.1.x) v ∧ (t.T ≠ .und → r.1.T ≠ .und) := by
  have same : (t, H) = r → ∃ g', g.le g' ∧ HInv g' r.2 w ∧ VRep g' (.v r.1.T r.1.x) v ∧ (t.T ≠ .und → r.1.T ≠ .und) := by
    rintro rfl
    exact ⟨g, G.le.refl g, hI, hv, fun h => h⟩
  unfold seal1 at hr
  split at hr
  · split at hr
    · subst hr
      refine ⟨g, G.le.refl g, hI, (VRep_v (by simp)).2 ?_, by simp⟩
      have hv := (VRep_v (by simp)).1 hv
      simp only [TRep, Ty.agg, Ty.sk, Sk.agg, Bool.false_eq_true, if_false, Rep] at hv ⊢
      exact ⟨none, 0, hv, by simp, by simp, by simp⟩
    · rename_i e k x
      split at hr
      · rename_i k' a' l hE
        split at hr
        · rename_i hk
          subst hk
          subst hr
          obtain ⟨g', h1, h2, h3⟩ := hI.freeze hE
          exact ⟨g', h1, h2, h3 v hv, by simp⟩
        · exact same hr
      · exact same hr
    · subst hr
      refine ⟨g, G.le.refl g, hI, (VRep_v (by simp)).2 ?_, by simp⟩
      have hv := (VRep_v (by simp)).1 hv
      simp only [TRep, Ty.agg, Ty.sk, Sk.agg, Bool.false_eq_true, if_false, Rep] at hv ⊢
      obtain ⟨pv, cap, h1, h2, _, h4⟩ := hv
      exact ⟨pv, cap, h1, h2, by simp, h4⟩
    · exact same hr
  · exact same hr

theorem seal1_rep (hI : HInv g H w) (R : Ty) (t : TV) {v : Value} (hv : VRep g (.v t.T t.x) v) :
    ∃ g', g.le g' ∧ HInv g' (seal1 R t H).2 w ∧ VRep g' (.v (seal1 R t H).1.T (seal1 R t H).1.x) v := by
  obtain ⟨g', h1, h2, h3, _⟩ := seal1_rep' hI R t rfl hv
  exact ⟨g', h1, h2, h3⟩

theorem TRep_und {x : Unit} {v : Value} : ¬ TRep g .und x v := by
  intro h
  simp [TRep, Ty.agg, Ty.sk, Sk.agg, Rep] at h

theorem seal1_T (hI : HInv g H w) (R : Ty) (t : TV) {v : Value} (hv : TRep g t.T t.x v) :
    ∃ g', g.le g' ∧ HInv g' (seal1 R t H).2 w ∧ TRep g' (seal1 R t H).1.T (seal1 R t H).1.x v := by
  have hne := TRep_ne hv
  obtain ⟨g', h1, h2, h3, h4⟩ := seal1_rep' hI R t rfl ((VRep_v hne).2 hv)
  exact ⟨g', h1, h2, (VRep_v (h4 hne)).1 h3⟩

theorem sealL_rep : ∀ (Rs : List Ty) (l : List TV) {g : G} {H : Heap} {vs : List Value}, HInv g H w → tupRep g l vs → ∃ g', g.le g' ∧ HInv g' (sealL Rs l H).2 w ∧ tupRep g' (sealL Rs l H).1 vs
  | [], l, g, H, vs, hI, h => by cases l <;> exact ⟨g, G.le.refl g, hI, h⟩
  | R :: Rs, [], g, H, vs, hI, h => ⟨g, G.le.refl g, hI, h⟩
  | R :: Rs, t :: ts, g, H, vs, hI, ⟨v, r, h1, h2, h3⟩ => by
    obtain ⟨g1, q1, q2, q3⟩ := seal1_T hI R t h2
    obtain ⟨g2, w1, w2, w3⟩ := sealL_rep Rs ts q2 (tupRep_mono q1 h3)
    exact ⟨g2, q1.trans w1, w2, v, r, h1, TRep_mono w1 q3, w3⟩

theorem sealR_rep (Rs : List Ty) {r : AV × Heap} (hI : HInv g r.2 w) {v : Value} (hv : VRep g r.1 v) : ∃ g', g.le g' ∧ HInv g' (sealR Rs r).2 w ∧ VRep g' (sealR Rs r).1 v := by
  obtain ⟨a, H⟩ := r
  unfold sealR
  split
  · rename_i R T x heq
    simp only at heq hI hv
    subst heq
    exact seal1_rep hI R ⟨T, x⟩ hv
  · rename_i heq
    simp only at heq hI hv
    subst heq
    obtain ⟨vs, rfl, h⟩ := hv
    obtain ⟨g', h1, h2, h3⟩ := sealL_rep _ _ hI h
    exact ⟨g', h1, h2, vs, rfl, h3⟩
  · exact ⟨g, G.le.refl g, hI, hv⟩

/-- a function, gone through, its results given up -/
def fnS (P : Program) (C : Ctx) (L : Loops) (Rs : List Ty) (fn : Func) (args : List AV) : Tr (AV × Heap) := (fnK P C L fn args []).bind fun r => .ret (sealR Rs r)

/-! arguments -/

/-- an argument, as a called function sees it -/
def takeA (A : Ty) (v : AV) (es : List Entry) : Option A.den :=
  match A with
  | .imm false false a => match isNils v with
    | true => some []
    | false => match seen v es with
      | some y => castL y a
      | none => none
  | A => match v with
    | .v T x => castT ⟨T, x⟩ A
    | .tup _ => none

def takeAs : (As : List Ty) → List AV → Heap → Option (HL As)
  | [], [], _ => some ()
  | A :: As, v :: vs, H => match takeA A v (ents H (vcOf v)) with
    | some x => match takeAs As vs H with
      | some r => some (x, r)
      | none => none
    | none => none
  | _, _, _ => none

theorem takeA_rep (hI : HInv g H w) {A : Ty} (hA : A.still false = true) {v : AV} {rv : Value} {x : A.den} (hv : VRep g v rv) (h : takeA A v (ents H (vcOf v)) = some x) : VRep (g.lend H w) (.v A x) rv := by
  have plain : ∀ {T : Ty} {y : T.den}, v = .v T y → castT ⟨T, y⟩ A = some x → VRep (g.lend H w) (.v A x) rv := by
    rintro T y rfl hc
    have := castT_spec hc
    simp only [TV.mk.injEq] at this
    obtain ⟨rfl, h2⟩ := this
    have h2 := eq_of_heq h2
    subst h2
    exact still_VRep (lend_covers g H w) hA hv
  unfold takeA at h
  split at h
  · rename_i a
    refine (VRep_v (by simp)).2 ?_
    have hst : a.still false = true := by simpa [Ty.still] using hA
    split at h
    · rename_i hn
      simp only [Option.some.injEq] at h
      subst h
      unfold isNils at hn
      split at hn
      · have hv := (VRep_v (by simp)).1 hv
        simp only [TRep, Ty.agg, Ty.sk, Sk.agg, Bool.false_eq_true, if_false, Rep] at hv ⊢
        exact ⟨none, 0, hv, by simp, by simp, by simp⟩
      · cases hn
    · split at h
      · rename_i y hy
        obtain ⟨a2, l⟩ := y
        unfold castL at h
        simp only at h
        split at h
        · rename_i heq
          subst heq
          simp only [Option.some.injEq] at h
          subst h
          simp only [TRep, Ty.agg, Ty.sk, Sk.agg, Bool.false_eq_true, if_false]
          unfold seen at hy
          split at hy
          · rename_i q f a' l' _
            simp only [Option.some.injEq, Sigma.mk.injEq] at hy
            obtain ⟨rfl, hl⟩ := hy
            have hl := eq_of_heq hl
            subst hl
            have hv := (VRep_v (by simp)).1 hv
            simp only [TRep, Ty.agg, Ty.sk, Sk.agg, Bool.false_eq_true, if_false, Rep] at hv ⊢
            obtain ⟨pv, cap, h1, h2, _, h4⟩ := hv
            refine ⟨pv, cap, h1, h2, by simp, fun hne => ?_⟩
            obtain ⟨ad, vs, q1, q2, q3⟩ := h4 hne
            refine ⟨ad, vs, q1, repL_mono (fun y _ cs => (still_Rep (lend_covers g H w) a' y cs hst).1) q2, ?_⟩
            rcases q3 with q3 | ⟨_, q3⟩
            · exact .inl q3
            · exact .inr ⟨by simp, reads_mono ((lend_covers g H w).gr rfl) q3⟩
          · rename_i e k _ _
            simp only [vcOf, ents] at hy
            split at hy
            · rename_i k' a' l' hE
              simp only [List.cons.injEq, and_true] at hE
              split at hy
              · rename_i hk
                subst hk
                simp only [Option.some.injEq, Sigma.mk.injEq] at hy
                obtain ⟨rfl, hl⟩ := hy
                have hl := eq_of_heq hl
                subst hl
                have hlive : (getE H e).live = true := by rw [hE]; rfl
                have hv := (VRep_v (by simp)).1 hv
                simp only [TRep, Ty.agg, Ty.sk, Sk.agg, Bool.false_eq_true, if_false, Rep, G.vcr, hI.sh, hE, shp] at hv ⊢
                obtain ⟨_, _, hv⟩ := hv
                have he := hI.ent e
                rw [hE] at he
                rcases hv trivial with ⟨_, h0, hh⟩ | ⟨b, cap, hb, hh, hcap, _⟩
                · have hl0 : l' = [] := List.eq_nil_of_length_eq_zero h0
                  subst hl0
                  exact ⟨none, 0, hh, by simp, by simp, by simp⟩
                · rcases he with ⟨q1, _⟩ | ⟨b', cs, t, fz, vs, r, q1, q2, q3, q4, q5, q6, q7⟩
                  · rw [hb] at q1; cases q1
                  rw [hb] at q1
                  cases q1
                  have hgr : (g.lend H w).gr b = some (.cells cs t fz) := by
                    simp only [G.lend]
                    rw [(hI.own _ _ hlive hb).2]
                    simp only [Option.isSome_none, Bool.false_eq_true, if_false]
                    rw [if_pos ⟨e, hlive, hb⟩]
                    exact q2
                  refine ⟨_, cap, hh, hcap, by simp, fun _ => ⟨_, vs, rfl, repL_mono (fun y _ cs => (still_Rep (lend_covers g H w) a' y cs hst).1) q6, .inr ⟨by simp, rfl, cs, t, fz, hgr, fun i v hi => ?_⟩⟩⟩
                  have hj : i < vs.length := (List.getElem?_eq_some_iff.1 hi).1
                  have : cs.toList[i]? = some v := by rw [q5, List.getElem?_append_left hj]; exact hi
                  simpa using this
              · cases hy
            · cases hy
          · cases hy
        · cases h
      · cases h
  · split at h
    · exact plain rfl h
    · cases h

theorem takeAs_rep (hI : HInv g H w) : ∀ {As : List Ty} {vs : List AV} {rvs : List Value} {xs : HL As}, (As.all fun A => A.still false) = true → argsRep g vs rvs → takeAs As vs H = some xs → argsRep (g.lend H w) (mkArgs As xs) rvs
  | [], [], rvs, xs, _, h, _ => h
  | [], _ :: _, rvs, xs, _, _, h => by simp [takeAs] at h
  | A :: As, [], rvs, xs, _, _, h => by simp [takeAs] at h
  | A :: As, v :: vs, rvs, xs, hA, ⟨r, rs, h1, h2, h3⟩, h => by
    simp only [List.all_cons, Bool.and_eq_true] at hA
    simp only [takeAs] at h
    split at h
    · rename_i x hx
      split at h
      · rename_i y hy
        simp only [Option.some.injEq] at h
        subst h
        exact ⟨r, rs, h1, takeA_rep hI hA.1 h2 hx, takeAs_rep hI hA.2 h3 hy⟩
      · cases h
    · cases h

/-- the entries of own slices among arguments -/
def vcsOf (vs : List AV) : List Nat := vs.flatMap vcOf

/-- arguments with their entries beside them -/
def takeE : (As : List Ty) → List AV → List Entry → Option (HL As)
  | [], [], _ => some ()
  | A :: As, v :: vs, es => match takeA A v (es.take (vcOf v).length) with
    | some x => match takeE As vs (es.drop (vcOf v).length) with
      | some r => some (x, r)
      | none => none
    | none => none
  | _, _, _ => none

theorem ents_append (H : Heap) : ∀ (l m : List Nat), ents H (l ++ m) = ents H l ++ ents H m
  | [], m => rfl
  | i :: l, m => by simp only [List.cons_append, ents]; rw [ents_append H l m]

theorem ents_length (H : Heap) : ∀ (l : List Nat), (ents H l).length = l.length
  | [] => rfl
  | i :: l => by simp [ents, ents_length H l]

theorem takeE_takeAs (H : Heap) : ∀ {As : List Ty} {vs : List AV}, takeE As vs (ents H (vcsOf vs)) = takeAs As vs H
  | [], [] => rfl
  | [], _ :: _ => rfl
  | A :: As, [] => rfl
  | A :: As, v :: vs => by
    have e1 : (ents H (vcsOf (v :: vs))).take (vcOf v).length = ents H (vcOf v) := by
      show (ents H (vcOf v ++ vcsOf vs)).take _ = _
      rw [ents_append, ← ents_length H (vcOf v), List.take_left]
    have e2 : (ents H (vcsOf (v :: vs))).drop (vcOf v).length = ents H (vcsOf vs) := by
      show (ents H (vcOf v ++ vcsOf vs)).drop _ = _
      rw [ents_append, ← ents_length H (vcOf v), List.drop_left]
    simp only [takeE, takeAs, e1, e2, takeE_takeAs H (As := As) (vs := vs)]

/-- a function of plain values and slices -/
def CSpec.sl (As Rs : List Ty) (f : HL As → HL Rs) : CSpec :=
  ⟨0, fun vs _ => vcsOf vs, fun _ _ => [], fun vs es _ => match takeE As vs es with | some xs => .ret (ofHL Rs (f xs), []) | none => .fail⟩

theorem sl_local (As Rs : List Ty) (f : HL As → HL Rs) : CLocal (CSpec.sl As Rs f) where
  same _ _ _ _ := ⟨rfl, rfl⟩
  turns vs H fr out h x hx := by
    simp only [CSpec.sl] at h
    split at h
    · have := Tr.ret_some h
      subst this
      simp at hx
    · exact (Tr.fail_some h).elim

theorem sl_sound (hC : CtxSound P C ∧ CtxLocal C) {k : Nat} {fn : Func} (hf : P.funcs[k]? = some fn) {c : Code} (hname : (fn.name == "runtime.NumGoroutine") = false) (hb : fn.body = some c) (hl : LoopsOK P L c)
    {As Rs : List Ty} {f : HL As → HL Rs} (hA : (As.all fun A => A.still false) = true) (hR : stillL Rs = true)
    (h1 : ∀ xs, HL.ok As xs → (fnS P C L Rs fn (mkArgs As xs)).fine Rs = true) (h2 : ∀ xs, HL.ok As xs → (fnS P C L Rs fn (mkArgs As xs)).fold Rs = f xs) : CSound P k (CSpec.sl As Rs f) ∧ CLocal (CSpec.sl As Rs f) := by
  refine ⟨⟨fun args w => callFunc_enter hf hname hb args w, ?_⟩, sl_local As Rs f⟩
  intro g H w vs rvs fr out hI hargs _ he
  simp only [CSpec.sl] at he
  rw [takeE_takeAs] at he
  split at he
  · rename_i xs hxs
    have := Tr.ret_some he
    subst this
    have hargs' := takeAs_rep hI hA hargs hxs
    have hx := args_ok hargs'
    obtain ⟨H', h5⟩ := nrm_some (Tr.nrm_of_fine (h1 xs hx))
    obtain ⟨r, h6, h7⟩ := Tr.bind_some h5
    have h7 := Tr.ret_some h7
    rw [h2 xs hx] at h7
    refine (fn_sound hC.1 hC.2 hf hb hl (lend_inv hI) hargs' (fnK_ok h6)).mono ?_
    rintro e w' ⟨rv, g', rfl, hle, hI', hv⟩
    obtain ⟨g1, s1, s2, s3⟩ := sealR_rep Rs (r := r) hI' hv
    rw [h7] at s2 s3
    obtain ⟨g'', q1, q2, q3⟩ := lend_back hI (hle.trans s1) s2
    exact ⟨rv, g'', rfl, q1, q2, still_VRep q3 (ofHL_still hR _) s3⟩
  · exact (Tr.fail_some he).elim

def CSpec.sl1 (As : List Ty) (R : Ty) (f : HL As → R.den) : CSpec := CSpec.sl As [R] fun xs => (f xs, ())

/-- a function of slices: several results -/
theorem sl_ok (hC : CtxSound P C ∧ CtxLocal C) {k : Nat} {fn : Func} (hf : P.funcs[k]? = some fn) {As Rs : List Ty} {f : HL As → HL Rs}
    (hside : ((fn.name == "runtime.NumGoroutine") == false && fn.body.isSome && (As.all fun A => A.still false) && stillL Rs) = true)
    (hl : ∀ b ∈ loopsOf (bodyOf fn), LoopOK P L b)
    (h1 : ∀ xs, HL.ok As xs → (fnS P C L Rs fn (mkArgs As xs)).fine Rs = true) (h2 : ∀ xs, HL.ok As xs → (fnS P C L Rs fn (mkArgs As xs)).fold Rs = f xs) : CSound P k (CSpec.sl As Rs f) ∧ CLocal (CSpec.sl As Rs f) := by
  simp only [Bool.and_eq_true, beq_iff_eq] at hside
  obtain ⟨⟨⟨a, b⟩, c⟩, d⟩ := hside
  obtain ⟨body, hb⟩ := Option.isSome_iff_exists.1 b
  refine sl_sound hC hf a hb (loopsOK_all ?_) c d h1 h2
  unfold bodyOf at hl
  rw [hb] at hl
  exact hl

/-- ..one result -/
theorem sl_ok1 (hC : CtxSound P C ∧ CtxLocal C) {k : Nat} {fn : Func} (hf : P.funcs[k]? = some fn) {As : List Ty} {R : Ty} {f : HL As → R.den}
    (hside : ((fn.name == "runtime.NumGoroutine") == false && fn.body.isSome && (As.all fun A => A.still false) && stillL [R]) = true)
    (hl : ∀ b ∈ loopsOf (bodyOf fn), LoopOK P L b)
    (h1 : ∀ xs, HL.ok As xs → (fnS P C L [R] fn (mkArgs As xs)).fine [R] = true) (h2 : ∀ xs, HL.ok As xs → (fnS P C L [R] fn (mkArgs As xs)).fold1 R = f xs) : CSound P k (CSpec.sl1 As R f) ∧ CLocal (CSpec.sl1 As R f) :=
  sl_ok hC hf hside hl h1 fun xs hx => by rw [Tr.fold_one, h2 xs hx]

/-- ..that asks something of its arguments -/
def CSpec.slp (As : List Ty) (pre : HL As → Bool) (Rs : List Ty) (f : HL As → HL Rs) : CSpec :=
  ⟨0, fun vs _ => vcsOf vs, fun _ _ => [], fun vs es _ => match takeE As vs es with | some xs => .chk (pre xs) (.ret (ofHL Rs (f xs), [])) | none => .fail⟩

theorem slp_local (As : List Ty) (pre : HL As → Bool) (Rs : List Ty) (f : HL As → HL Rs) : CLocal (CSpec.slp As pre Rs f) where
  same _ _ _ _ := ⟨rfl, rfl⟩
  turns vs H fr out h x hx := by
    simp only [CSpec.slp] at h
    split at h
    · obtain ⟨_, h⟩ := Tr.chk_some h
      have := Tr.ret_some h
      subst this
      simp at hx
    · exact (Tr.fail_some h).elim

theorem slp_sound (hC : CtxSound P C ∧ CtxLocal C) {k : Nat} {fn : Func} (hf : P.funcs[k]? = some fn) {As Rs : List Ty} {pre : HL As → Bool} {f : HL As → HL Rs}
    (hside : ((fn.name == "runtime.NumGoroutine") == false && fn.body.isSome && (As.all fun A => A.still false) && stillL Rs) = true)
    (hl : ∀ b ∈ loopsOf (bodyOf fn), LoopOK P L b)
    (h1 : ∀ xs, HL.ok As xs → pre xs = true → (fnS P C L Rs fn (mkArgs As xs)).fine Rs = true) (h2 : ∀ xs, HL.ok As xs → pre xs = true → (fnS P C L Rs fn (mkArgs As xs)).fold Rs = f xs) :
    CSound P k (CSpec.slp As pre Rs f) ∧ CLocal (CSpec.slp As pre Rs f) := by
  simp only [Bool.and_eq_true, beq_iff_eq] at hside
  obtain ⟨⟨⟨hname, hb⟩, hA⟩, hR⟩ := hside
  obtain ⟨body, hb⟩ := Option.isSome_iff_exists.1 hb
  have hl : LoopsOK P L body := by
    refine loopsOK_all ?_
    unfold bodyOf at hl
    rw [hb] at hl
    exact hl
  refine ⟨⟨fun args w => callFunc_enter hf hname hb args w, ?_⟩, slp_local As pre Rs f⟩
  intro g H w vs rvs fr out hI hargs _ he
  simp only [CSpec.slp] at he
  rw [takeE_takeAs] at he
  split at he
  · rename_i xs hxs
    obtain ⟨hp, he⟩ := Tr.chk_some he
    have := Tr.ret_some he
    subst this
    have hargs' := takeAs_rep hI hA hargs hxs
    have hx := args_ok hargs'
    obtain ⟨H', h5⟩ := nrm_some (Tr.nrm_of_fine (h1 xs hx hp))
    obtain ⟨r, h6, h7⟩ := Tr.bind_some h5
    have h7 := Tr.ret_some h7
    rw [h2 xs hx hp] at h7
    refine (fn_sound hC.1 hC.2 hf hb hl (lend_inv hI) hargs' (fnK_ok h6)).mono ?_
    rintro e w' ⟨rv, g', rfl, hle, hI', hv⟩
    obtain ⟨g1, s1, s2, s3⟩ := sealR_rep Rs (r := r) hI' hv
    rw [h7] at s2 s3
    obtain ⟨g'', q1, q2, q3⟩ := lend_back hI (hle.trans s1) s2
    exact ⟨rv, g'', rfl, q1, q2, still_VRep q3 (ofHL_still hR _) s3⟩
  · exact (Tr.fail_some he).elim

def CSpec.slp1 (As : List Ty) (pre : HL As → Bool) (R : Ty) (f : HL As → R.den) : CSpec := CSpec.slp As pre [R] fun xs => (f xs, ())

theorem slp_ok1 (hC : CtxSound P C ∧ CtxLocal C) {k : Nat} {fn : Func} (hf : P.funcs[k]? = some fn) {As : List Ty} {R : Ty} {pre : HL As → Bool} {f : HL As → R.den}
    (hside : ((fn.name == "runtime.NumGoroutine") == false && fn.body.isSome && (As.all fun A => A.still false) && stillL [R]) = true)
    (hl : ∀ b ∈ loopsOf (bodyOf fn), LoopOK P L b)
    (h1 : ∀ xs, HL.ok As xs → pre xs = true → (fnS P C L [R] fn (mkArgs As xs)).fine [R] = true) (h2 : ∀ xs, HL.ok As xs → pre xs = true → (fnS P C L [R] fn (mkArgs As xs)).fold1 R = f xs) :
    CSound P k (CSpec.slp1 As pre R f) ∧ CLocal (CSpec.slp1 As pre R f) :=
  slp_sound hC hf hside hl h1 fun xs hx hp => by rw [Tr.fold_one, h2 xs hx hp]

end
end Vse

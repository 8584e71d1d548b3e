/- Calls of functions on entries, wherever these stand. Nothing here is about one program. -/
import Derived.Test.YtodjkocikflmnaaE37
set_option linter.unusedVariables false
namespace Vse
open Go Go.ChangeShapes

/-! arguments -/

/-- own slices that are lent -/
def lendT : Ty → Ty → List Nat
  | .imm false false _, .vc e _ => [e]
  | .prod a b, .prod c d => lendT a c ++ lendT b d
  | _, _ => []

/-- ..and what else an argument looks into -/
def rootT : Ty → Ty → List Nat
  | .imm false false _, .vc _ _ => []
  | .prod a b, .prod c d => rootT a c ++ rootT b d
  | _, T => T.ents

def lendVs : List Ty → List AV → List Nat
  | A :: As, .v T _ :: vs => lendT A T ++ lendVs As vs
  | _, _ => []

def rootVs : List Ty → List AV → List Nat
  | A :: As, .v T _ :: vs => rootT A T ++ rootVs As vs
  | _, _ => []

def convArgs (R : Rn) : (As : List Ty) → List AV → Option (HL As)
  | [], [] => some ()
  | A :: As, .v T x :: vs => match conv R A T x with
    | some y => match convArgs R As vs with
      | some r => some (y, r)
      | none => none
    | none => none
  | _, _ => none

theorem convArgs_rep {R : Rn} {g g' : G} (hc : CRel R g g') : ∀ {As : List Ty} {vs : List AV} {xs : HL As} {rvs : List Value}, convArgs R As vs = some xs → argsRep g vs rvs → argsRep g' (mkArgs As xs) rvs
  | [], [], xs, rvs, _, h => h
  | [], _ :: _, xs, rvs, h, _ => by simp [convArgs] at h
  | A :: As, [], xs, rvs, h, _ => by simp [convArgs] at h
  | A :: As, .tup _ :: vs, xs, rvs, h, _ => by simp [convArgs] at h
  | A :: As, .v T x :: vs, xs, rvs, h, ⟨r, rs, h1, h2, h3⟩ => by
    simp only [convArgs] at h
    split at h
    · rename_i y hy
      split at h
      · rename_i q hq
        simp only [Option.some.injEq] at h
        subst h
        exact ⟨r, rs, h1, conv_VRep hc hy h2, convArgs_rep hc hq h3⟩
      · cases h
    · cases h

/-- a lent slice, as the called function sees it -/
theorem lent_Rep {g g' : G} {H : Heap} {w : World} {ids : List Nat} {n : Nat} (hI : HInv g H w) {e k : Nat} {a : Ty} {l : List a.den} (hE : getE H e = .vec k a l) (hm : mem ids e = false) (hin : a.inn noE false = true)
    (hfr : ∀ b o, g.fr b = some o → g'.fr b = some o) (hgr0 : ∀ b o, (g.part H w ids n).gr b = some o → g'.gr b = some o) {cs : List Value} (hv : Rep g (.vc e k) () cs) : Rep g' (.imm false false a) l cs := by
  have hgr : ∀ b o, g.gr b = some o → g'.gr b = some o := fun b o h => hgr0 b o (part_gr_mono h)
  have hag : g.agree noE false g' := ⟨hfr, fun _ => hgr, fun e he => by cases he⟩
  have hlive : (getE H e).live = true := by rw [hE]; rfl
  simp only [Rep, G.vcr, hI.sh, hE, shp] at hv ⊢
  obtain ⟨_, _, hv⟩ := hv
  have he := hI.ent e
  rw [hE] at he
  rcases hv trivial with ⟨_, h0, hh⟩ | ⟨b, cap, hb, hh, hcap, _⟩
  · have hl0 : l = [] := List.eq_nil_of_length_eq_zero h0
    subst hl0
    exact ⟨none, 0, hh, by simp, by simp, by simp⟩
  · rcases he with ⟨q1, _⟩ | ⟨b', cs', t, fz, vs, r, q1, q2, q3, q4, q5, q6, q7⟩
    · rw [hb] at q1; cases q1
    rw [hb] at q1
    cases q1
    have hg : g'.gr b = some (.cells cs' t fz) := hgr0 b _ (by rw [part_gr_lent hI hm hlive hb]; exact q2)
    refine ⟨_, cap, hh, hcap, by simp, fun _ => ⟨_, vs, rfl, repL_mono (fun y _ cs => (inn_Rep hag a y cs hin).1) q6, .inr ⟨by simp, rfl, cs', t, fz, hg, fun i v hi => ?_⟩⟩⟩
    have hj : i < vs.length := (List.getElem?_eq_some_iff.1 hi).1
    have : cs'.toList[i]? = some v := by rw [q5, List.getElem?_append_left hj]; exact hi
    simpa using this

/-! results -/

def Ty.rnT (B : Rn) : Ty → Ty
  | .vc i _ => .vc (B.to i) (B.gT (B.to i))
  | .ptr i p => .ptr (B.to i) p
  | .prod a b => .prod (a.rnT B) (b.rnT B)
  | .fn k c => .fn k (c.rnT B)
  | T => T

def backE (B : Rn) (K : Nat) : Entry → Option Entry
  | .box T x => match conv B (T.rnT B) T x with
    | some y => some (.box (T.rnT B) y)
    | none => none
  | .vec _ a l => if a.inn noE false then some (.vec K a l) else none
  | .dead => some .dead
  | .free => none

def backL (B : Rn) : List TV → Option (List TV)
  | [] => some []
  | t :: ts => match conv B (t.T.rnT B) t.T t.x with
    | some y => match backL B ts with
      | some r => some (⟨t.T.rnT B, y⟩ :: r)
      | none => none
    | none => none

def backV (B : Rn) : AV → Option AV
  | .v T x => match conv B (T.rnT B) T x with
    | some y => some (.v (T.rnT B) y)
    | none => none
  | .tup l => match backL B l with
    | some r => some (.tup r)
    | none => none

theorem backL_rep {R : Rn} {g g' : G} (hc : CRel R g g') : ∀ {l r : List TV} {vs : List Value}, backL R l = some r → tupRep g l vs → tupRep g' r vs
  | [], r, vs, h, hr => by simp only [backL, Option.some.injEq] at h; subst h; exact hr
  | t :: ts, r, vs, h, ⟨v, q, h1, h2, h3⟩ => by
    simp only [backL] at h
    split at h
    · rename_i y hy
      split at h
      · rename_i r' hr'
        simp only [Option.some.injEq] at h
        subst h
        exact ⟨v, q, h1, conv_TRep hc hy h2, backL_rep hc hr' h3⟩
      · cases h
    · cases h

theorem backV_rep {R : Rn} {g g' : G} (hc : CRel R g g') {a b : AV} {v : Value} (h : backV R a = some b) (hr : VRep g a v) : VRep g' b v := by
  cases a with
  | v T x =>
    simp only [backV] at h
    split at h
    · rename_i y hy
      simp only [Option.some.injEq] at h
      subst h
      exact conv_VRep hc hy hr
    · cases h
  | tup l =>
    simp only [backV] at h
    split at h
    · rename_i r hr'
      simp only [Option.some.injEq] at h
      subst h
      obtain ⟨vs, rfl, hr⟩ := hr
      exact ⟨vs, rfl, backL_rep hc hr' hr⟩
    · cases h

/-! the call -/

def rnIn (S : PSpec) (ids : List Nat) (get lentE : Nat → Entry) : Rn where
  p e := mem ids e
  cur e := genE (get e)
  to e := idxOf ids e
  gT t := genY S.Es[t]?
  lent := lentE

def rnOut (S : PSpec) (ids all : List Nat) (get : Nat → Entry) : Rn where
  p i := liveY S.Fs[i]? && decide (i < all.length)
  cur i := genY S.Fs[i]?
  to i := all.getD i 0
  gT e := if mem ids e then genE (get e) + (genY S.Fs[idxOf all e]? - genY S.Es[idxOf all e]?) else genY S.Fs[idxOf all e]?
  lent _ := .dead

def nodupI (l : List Nat) : Bool := (List.range l.length).all fun t => decide (idxOf l (l.getD t 0) = t)

def posOut (S : PSpec) (ids ids0 all : List Nat) (get : Nat → Entry) (fr : Nat) (r : S.Out) : Tr Out :=
  match backV (rnOut S ids all get) (ofHL S.Rs r.1) with
  | some v => if nodupI all && decide (all.length = S.Fs.length) && (all.all fun e => match backE (rnOut S ids all get) ((rnOut S ids all get).gT e) (getE (encH S.Fs r.2) (idxOf all e)) with
        | some E => E.inn (turned ids0 fr S.news) true
        | none => false) && v.inn (turned ids0 fr S.news) true then
      .ret (v, all.map fun e => (e, (backE (rnOut S ids all get) ((rnOut S ids all get).gT e) (getE (encH S.Fs r.2) (idxOf all e))).getD .dead)) else .fail
  | none => .fail

def posCore (S : PSpec) (pre : HL S.As → HD S.Es → Bool) (f : HL S.As → HD S.Es → S.Out) (le ids0 : List Nat) (el er : List Entry) (vs : List AV) (fr : Nat) : Tr Out :=
  if (le.all fun e => !mem ids0 e) && (ids0.all fun e => decide (e < fr)) && (er.all fun E => E.inn (mem ids0) false) && nodupI (dedupN ids0) && (S.Es.all fun E => liveY (some E)) then
    match convArgs (rnIn S (dedupN ids0) (putE ids0 er) (putE le el)) S.As vs with
    | some xs => match decC (rnIn S (dedupN ids0) (putE ids0 er) fun _ => .dead) S.Es ((dedupN ids0).map (putE ids0 er)) with
      | some hs => .chk (pre xs hs) (posOut S (dedupN ids0) ids0 (dedupN ids0 ++ List.range' fr S.news) (putE ids0 er) fr (f xs hs))
      | none => .fail
    | none => .fail
  else .fail

/-- a function on entries: told once -/
def CSpec.pos (S : PSpec) (pre : HL S.As → HD S.Es → Bool) (f : HL S.As → HD S.Es → S.Out) : CSpec :=
  ⟨S.news, fun vs H => lendVs S.As vs ++ reach 5 H (rootVs S.As vs), fun vs H => reach 5 H (rootVs S.As vs), fun vs es fr =>
    posCore S pre f (lendVs S.As vs) (reachE 5 (es.drop (lendVs S.As vs).length) (rootVs S.As vs)) (es.take (lendVs S.As vs).length) (es.drop (lendVs S.As vs).length) vs fr⟩

theorem dedupN_mem : ∀ (l : List Nat) (e : Nat), mem (dedupN l) e = mem l e
  | [], e => rfl
  | x :: l, e => by
    have ih := dedupN_mem l e
    rw [Bool.eq_iff_iff] at ih ⊢
    simp only [mem, List.contains_iff_mem] at ih ⊢
    simp only [dedupN, List.mem_cons, List.mem_filter, Bool.not_eq_true', beq_eq_false_iff_ne, ne_eq]
    constructor
    · rintro (h | ⟨h, _⟩)
      · exact .inl h
      · exact .inr (ih.1 h)
    · rintro (h | h)
      · exact .inl h
      · by_cases hx : e = x
        · exact .inl hx
        · exact .inr ⟨ih.2 h, hx⟩

theorem idxOf_mem : ∀ {l : List Nat} {e : Nat}, mem l e = true → idxOf l e < l.length ∧ l.getD (idxOf l e) 0 = e
  | [], e, h => by simp [mem] at h
  | x :: l, e, h => by
    simp only [idxOf]
    by_cases hx : x = e
    · rw [if_pos hx]; exact ⟨by simp, by simpa using hx⟩
    · rw [if_neg hx]
      have hx' : ¬ e = x := fun y => hx y.symm
      have : mem l e = true := by simpa [mem, hx'] using h
      obtain ⟨h1, h2⟩ := idxOf_mem this
      exact ⟨by simpa using h1, by simpa using h2⟩

theorem getD_mem {l : List Nat} {t : Nat} (h : t < l.length) : mem l (l.getD t 0) = true := by
  simp only [mem, List.contains_iff_mem]
  rw [List.getD_eq_getElem?_getD, List.getElem?_eq_getElem h]
  exact List.getElem_mem h

theorem nodupI_spec {l : List Nat} (h : nodupI l = true) {t : Nat} (ht : t < l.length) : idxOf l (l.getD t 0) = t := by
  have := List.all_eq_true.1 h t (List.mem_range.2 ht)
  simpa using this

theorem idxOf_append : ∀ {l m : List Nat} {e : Nat}, mem l e = true → idxOf (l ++ m) e = idxOf l e
  | [], m, e, h => by simp [mem] at h
  | x :: l, m, e, h => by
    simp only [List.cons_append, idxOf]
    by_cases hx : x = e
    · rw [if_pos hx, if_pos hx]
    · rw [if_neg hx, if_neg hx]
      have hx' : ¬ e = x := fun y => hx y.symm
      rw [idxOf_append (by simpa [mem, hx'] using h)]

theorem es_split (H : Heap) (le l2 : List Nat) : (ents H (le ++ l2)).take le.length = ents H le ∧ (ents H (le ++ l2)).drop le.length = ents H l2 := by
  rw [ents_append]
  constructor
  · rw [← ents_length H le, List.take_left]
  · rw [← ents_length H le, List.drop_left]

theorem pos_local (S : PSpec) (pre : HL S.As → HD S.Es → Bool) (f : HL S.As → HD S.Es → S.Out) : CLocal (CSpec.pos S pre f) where
  same vs H H' h := by
    have hr := reach_same 5 (rootVs S.As vs) (fun i hi => h i (by simp only [CSpec.pos, List.mem_append]; exact .inr hi))
    exact ⟨by simp only [CSpec.pos, hr], hr⟩
  turns vs H fr out h x hx := by
    simp only [CSpec.pos] at h
    rw [(es_split H _ _).1, (es_split H _ _).2, reach_reachE] at h
    unfold posCore at h
    split at h
    · split at h
      · split at h
        · obtain ⟨_, h⟩ := Tr.chk_some h
          unfold posOut at h
          split at h
          · split at h
            · have := Tr.ret_some h
              subst this
              simp only [List.mem_map, List.mem_append, List.mem_range'] at hx
              obtain ⟨e, he, rfl⟩ := hx
              rcases he with he | ⟨i, hi, rfl⟩
              · refine .inl ?_
                have := dedupN_mem (reach 5 H (rootVs S.As vs)) e
                rw [Bool.eq_iff_iff] at this
                simp only [mem, List.contains_iff_mem] at this
                exact this.1 he
              · refine .inr ⟨by simp only; omega, ?_⟩
                show fr + 1 * i < fr + S.news
                omega
            · exact (Tr.fail_some h).elim
          · exact (Tr.fail_some h).elim
        · exact (Tr.fail_some h).elim
      · exact (Tr.fail_some h).elim
    · exact (Tr.fail_some h).elim

def HD.ok : (Es : List ETy) → HD Es → Prop
  | [], _ => True
  | .free :: l, x => HD.ok l x
  | .dead :: l, x => HD.ok l x
  | .box T :: l, x => T.ok x.1 ∧ HD.ok l x.2
  | .vec _ a :: l, x => (∀ y ∈ x.1, a.ok y) ∧ HD.ok l x.2

theorem HD_ok_of {g : G} {w : World} : ∀ {Es : List ETy} {hs : HD Es} (k : Nat), (∀ t, ERep g (k + t) w (getE (encH Es hs) t)) → (∀ t, t < Es.length → liveY Es[t]? = true) → HD.ok Es hs
  | [], _, _, _, _ => trivial
  | .free :: l, hs, k, h, hl => by have := hl 0 (by simp); simp [liveY] at this
  | .dead :: l, hs, k, h, hl => by have := hl 0 (by simp); simp [liveY] at this
  | .box T :: l, hs, k, h, hl => by
    refine ⟨?_, HD_ok_of (k + 1) (fun t => by have := h (t + 1); rwa [show k + (t + 1) = k + 1 + t by omega] at this) fun t ht => by simpa using hl (t + 1) (by simpa using ht)⟩
    obtain ⟨b, cs, tt, fz, w1, w2, w3, w4⟩ := h 0
    exact Rep_ok _ _ _ w4
  | .vec K a :: l, hs, k, h, hl => by
    refine ⟨?_, HD_ok_of (k + 1) (fun t => by have := h (t + 1); rwa [show k + (t + 1) = k + 1 + t by omega] at this) fun t ht => by simpa using hl (t + 1) (by simpa using ht)⟩
    rcases h 0 with ⟨_, q⟩ | ⟨b', cs, tt, fz, vs, r, q1, q2, q3, q4, q5, q6, q7⟩
    · intro y hy; rw [q] at hy; cases hy
    · exact repL_all (fun x cs hx => Rep_ok _ _ _ hx) q6

/-- back from the call -/
theorem pos_back {S : PSpec} {g g' g3 : G} {H : Heap} {w w' : World} {ids0 ids : List Nat} {fr : Nat} {get : Nat → Entry} {hs : HD S.Es} {y : HD S.Fs} (hI : HInv g H w) (hids : ∀ e, mem ids0 e = true → e < fr)
    (hdm : ∀ e, mem ids e = mem ids0 e) (hget : ∀ e, get e = if mem ids0 e then getE H e else .dead) (hlen : ids.length = S.Es.length)
    (k1 : HInv g' (encH S.Es hs) w) (k2 : CRel (rnIn S ids get fun _ => .dead) (g.part H w ids0 fr) g') (hbl : ∀ e, mem ids e = true → g'.bl (idxOf ids e) = g.bl e ∧ g'.sz (idxOf ids e) = g.sz e) (hgr : g'.gr = (g.part H w ids0 fr).gr) (hfr : ∀ b o, g.fr b = some o → g'.fr b = some o) (hext : g'.ext = g.ext)
    (hle : g'.le g3) (hI3 : HInv g3 (encH S.Fs y) w')
    (d1 : nodupI (ids ++ List.range' fr S.news) = true) (d2 : (ids ++ List.range' fr S.news).length = S.Fs.length)
    (d3 : ∀ e, mem (ids ++ List.range' fr S.news) e = true → ∃ E, backE (rnOut S ids (ids ++ List.range' fr S.news) get) ((rnOut S ids (ids ++ List.range' fr S.news) get).gT e) (getE (encH S.Fs y) (idxOf (ids ++ List.range' fr S.news) e)) = some E ∧ E.inn (turned ids0 fr S.news) true = true)
    (hfree : ∀ e, fr ≤ e → e < fr + S.news → g.sh e = .free) (hin : ∀ e, mem (ids ++ List.range' fr S.news) e = true → e < H.length) :
    ∃ g4 g5, g.le g5 ∧ HInv g5 (upd H ((ids ++ List.range' fr S.news).map fun e => (e, (backE (rnOut S ids (ids ++ List.range' fr S.news) get) ((rnOut S ids (ids ++ List.range' fr S.news) get).gT e) (getE (encH S.Fs y) (idxOf (ids ++ List.range' fr S.news) e))).getD .dead))) w' ∧
      CRel (rnOut S ids (ids ++ List.range' fr S.news) get) g3 g4 ∧ g4.agree (turned ids0 fr S.news) true g5 := by
  have hallt : ∀ e, mem (ids ++ List.range' fr S.news) e = turned ids0 fr S.news e := by
    intro e
    show (ids ++ List.range' fr S.news).contains e = _
    rw [mem_turned]
    simp only [turned, hdm]
  generalize hall : ids ++ List.range' fr S.news = all at *
  generalize hB : rnOut S ids all get = B at *
  let H1 : Heap := (List.range (fr + S.news)).map fun e => if mem all e then (backE B (B.gT e) (getE (encH S.Fs y) (idxOf all e))).getD .dead else .dead
  have hget1 : ∀ e, getE H1 e = if e < fr + S.news then (if mem all e then (backE B (B.gT e) (getE (encH S.Fs y) (idxOf all e))).getD .dead else .dead) else .free := by
    intro e
    show getE ((List.range (fr + S.news)).map _) e = _
    rw [List.range_eq_range', getE_map]
    simp
  have hlt : ∀ e, mem all e = true → e < fr + S.news := by
    intro e he
    rw [hallt] at he
    simp only [turned, Bool.or_eq_true, Bool.and_eq_true, decide_eq_true_eq] at he
    rcases he with he | he
    · have := hids e he; omega
    · exact he.2
  have hm1 : ∀ e, mem all e = true → ∃ E, backE B (B.gT e) (getE (encH S.Fs y) (idxOf all e)) = some E ∧ getE H1 e = E ∧ E.inn (turned ids0 fr S.news) true = true := by
    intro e he
    obtain ⟨E, e1, e2⟩ := d3 e he
    exact ⟨E, e1, by rw [hget1, if_pos (hlt e he), if_pos he, e1]; rfl, e2⟩
  have hlvF : ∀ t, liveY S.Fs[t]? = true → t < S.Fs.length := by
    intro t ht
    rcases Nat.lt_or_ge t S.Fs.length with h | h
    · exact h
    · rw [List.getElem?_eq_none h] at ht; cases ht
  have hBp : ∀ i, B.p i = (liveY S.Fs[i]? && decide (i < all.length)) := fun i => by rw [← hB]; rfl
  have hBcur : ∀ i, B.cur i = genY S.Fs[i]? := fun i => by rw [← hB]; rfl
  have hBto : ∀ i, B.to i = all.getD i 0 := fun i => by rw [← hB]; rfl
  have hBgT : ∀ e, B.gT e = if mem ids e then genE (get e) + (genY S.Fs[idxOf all e]? - genY S.Es[idxOf all e]?) else genY S.Fs[idxOf all e]? := fun e => by rw [← hB]; rfl
  have key := conv_inv (R := B) (q := fun e => mem all e && liveY S.Fs[idxOf all e]?) (from_ := idxOf all) (H' := H1) hI3
    (fun i hi => by
      rw [hBp] at hi
      simp only [Bool.and_eq_true, decide_eq_true_eq] at hi
      have hx := nodupI_spec d1 hi.2
      rw [hBto, hx]
      simp only [Bool.and_eq_true]
      exact ⟨⟨getD_mem hi.2, hi.1⟩, trivial⟩)
    (fun e he => by
      simp only [Bool.and_eq_true] at he
      obtain ⟨w1, w2⟩ := idxOf_mem he.1
      rw [hBp, hBto]
      simp only [Bool.and_eq_true, decide_eq_true_eq]
      exact ⟨⟨he.2, w1⟩, w2⟩)
    (fun i k a l hi hE => by rw [hBcur]; exact (encH_gen hE).symm)
    (fun e K a l he hE => by
      simp only [Bool.and_eq_true] at he
      obtain ⟨E, e1, e2, _⟩ := hm1 e he.1
      rw [e2] at hE
      subst hE
      cases hx : getE (encH S.Fs y) (idxOf all e) with
      | free => rw [hx] at e1; simp [backE] at e1
      | dead => rw [hx] at e1; simp [backE] at e1
      | box T x => rw [hx] at e1; simp only [backE] at e1; split at e1 <;> simp at e1
      | vec k b m => rw [hx] at e1; simp only [backE] at e1; split at e1 <;> simp at e1; exact e1.1)
    (fun e he => by
      simp only [Bool.and_eq_true] at he
      obtain ⟨E, e1, e2, _⟩ := hm1 e he.1
      rw [e2]
      cases hx : getE (encH S.Fs y) (idxOf all e) with
      | free => rw [hx] at e1; simp [backE] at e1
      | dead => rw [hx] at e1; simp only [backE, Option.some.injEq] at e1; subst e1; trivial
      | box T x =>
        rw [hx] at e1
        simp only [backE] at e1
        split at e1
        · rename_i z hz
          simp only [Option.some.injEq] at e1
          subst e1
          exact hz
        · cases e1
      | vec k b m =>
        rw [hx] at e1
        simp only [backE] at e1
        split at e1
        · rename_i hin
          simp only [Option.some.injEq] at e1
          subst e1
          exact ⟨rfl, hin⟩
        · cases e1)
    (fun e he => by
      by_cases hm : mem all e = true
      · obtain ⟨E, e1, e2, _⟩ := hm1 e hm
        rw [e2]
        simp only [hm, Bool.true_and] at he
        have hdd := encH_dead (y := y) he
        cases hx : getE (encH S.Fs y) (idxOf all e) with
        | free => rw [hx] at e1; simp [backE] at e1
        | dead => rw [hx] at e1; simp only [backE, Option.some.injEq] at e1; subst e1; rfl
        | box T x => rw [hx] at hdd; cases hdd
        | vec k b m => rw [hx] at hdd; cases hdd
      · rw [hget1, if_neg hm]
        split <;> rfl)
    (fun e => by rw [← hB]; rfl)
  obtain ⟨k3, k4⟩ := key
  generalize hg1 : g3.rn (idxOf all) H1 = g1 at k3 k4
  have hbl1 : ∀ e, g1.bl e = g3.bl (idxOf all e) ∧ g1.sz e = g3.sz (idxOf all e) := fun e => by rw [← hg1]; exact ⟨rfl, rfl⟩
  have hle1 : (g.part H w ids0 fr).le g1 := by
    refine ⟨fun b o h => k4.fr b o (hle.fr b o (hfr b o h)), ?_, ?_, fun e => ?_⟩
    · rw [← hg1]; exact hle.gr.trans hgr
    · rw [← hg1]; exact hle.ext.trans hext
    · rcases Nat.lt_or_ge e fr with hef | hef
      · by_cases hm : mem ids0 e = true
        · have hm' : mem ids e = true := by rw [hdm]; exact hm
          have hma : mem all e = true := by rw [hallt]; simp [turned, hm]
          have hidx : idxOf all e = idxOf ids e := by rw [← hall]; exact idxOf_append hm'
          have hp : (g.part H w ids0 fr).sh e = g.sh e := by simp [G.part, hef, hm]
          have hp2 : (g.part H w ids0 fr).bl e = g.bl e := rfl
          have hp3 : (g.part H w ids0 fr).sz e = g.sz e := rfl
          have s1 := k2.sh e hm'
          rw [hp] at s1
          have hto : (rnIn S ids get fun _ => Entry.dead).to e = idxOf ids e := rfl
          have hgt : ∀ t, (rnIn S ids get fun _ => Entry.dead).gT t = genY S.Es[t]? := fun _ => rfl
          have hcu : (rnIn S ids get fun _ => Entry.dead).cur e = genE (get e) := rfl
          rw [hto, hgt, hcu] at s1
          have hsh1 : g1.sh e = shp (getE H1 e) := k3.sh e
          obtain ⟨hb0, hz0⟩ := hbl e hm'
          obtain ⟨hb1, hz1⟩ := hbl1 e
          rw [hidx] at hb1 hz1
          -- what stands there now
          obtain ⟨E, e1, e2, _⟩ := hm1 e hma
          rw [hidx] at e1
          have hnow : match g3.sh (idxOf ids e) with
              | .vec k s n => k = genY S.Fs[idxOf ids e]? ∧ g1.sh e = .vec (B.gT e) s n
              | .box s => g1.sh e = .box s
              | .dead => g1.sh e = .dead
              | .free => False := by
            rw [hI3.sh, hsh1, e2]
            cases hx : getE (encH S.Fs y) (idxOf ids e) with
            | free => rw [hx] at e1; simp [backE] at e1
            | dead => rw [hx] at e1; simp only [backE, Option.some.injEq] at e1; subst e1; rfl
            | box T x =>
              rw [hx] at e1
              simp only [backE] at e1
              split at e1
              · rename_i z hz
                simp only [Option.some.injEq] at e1
                subst e1
                simp only [shp]
                rw [conv_sk _ _ _ _ hz]
              · cases e1
            | vec k b m =>
              rw [hx] at e1
              simp only [backE] at e1
              split at e1
              · simp only [Option.some.injEq] at e1
                subst e1
                exact ⟨(encH_gen hx).symm, rfl⟩
              · cases e1
          have hgTe : B.gT e = genE (get e) + (genY S.Fs[idxOf ids e]? - genY S.Es[idxOf ids e]?) := by rw [hBgT, if_pos hm', hidx]
          cases hle.ent (idxOf ids e) with
          | same a b c =>
            cases hg0 : g.sh e with
            | free => exact .new (hp.trans hg0)
            | dead =>
              rw [hg0] at s1
              simp only at s1
              rw [a, s1] at hnow
              exact .dead hnow
            | box s =>
              rw [hg0] at s1
              simp only at s1
              rw [a, s1] at hnow
              exact .same (hnow.trans (hp.trans hg0).symm) (hb1.trans (b.trans (hb0.trans hp2.symm))) (hz1.trans (c.trans (hz0.trans hp3.symm)))
            | vec k s n =>
              rw [hg0] at s1
              simp only at s1
              rw [a, s1.2] at hnow
              simp only at hnow
              refine .same (hnow.2.trans ((?_ : ESh.vec (B.gT e) s n = .vec k s n).trans (hp.trans hg0).symm)) (hb1.trans (b.trans (hb0.trans hp2.symm))) (hz1.trans (c.trans (hz0.trans hp3.symm)))
              rw [hgTe, ← hnow.1, Nat.sub_self, Nat.add_zero, ← s1.1]
          | dead a =>
            rw [a] at hnow
            exact .dead hnow
          | grew a b c =>
            rename_i k0 sa na k' sb nb
            rw [b] at hnow
            simp only at hnow
            cases hg0 : g.sh e with
            | free => exact .new (hp.trans hg0)
            | dead => rw [hg0] at s1; simp only at s1; rw [s1] at a; cases a
            | box s => rw [hg0] at s1; simp only at s1; rw [s1] at a; cases a
            | vec k s n =>
              rw [hg0] at s1
              simp only at s1
              rw [s1.2] at a
              simp only [ESh.vec.injEq] at a
              refine .grew (hp.trans hg0) hnow.2 ?_
              rw [hgTe, ← hnow.1, s1.1]
              omega
          | new a =>
            cases hg0 : g.sh e with
            | free => exact .new (hp.trans hg0)
            | dead => rw [hg0] at s1; simp only at s1; rw [s1] at a; cases a
            | box s => rw [hg0] at s1; simp only at s1; rw [s1] at a; cases a
            | vec k s n => rw [hg0] at s1; simp only at s1; rw [s1.2] at a; cases a
        · refine .dead ?_
          rw [k3.sh, hget1, if_pos (by omega), if_neg]
          · rfl
          · rw [hallt]
            have : decide (fr ≤ e) = false := by simpa using hef
            simp [turned, hm, this]
      · exact .new (by simp [G.part, Nat.not_lt.2 hef])
  have hupd : (all.map fun e => (e, (backE B (B.gT e) (getE (encH S.Fs y) (idxOf all e))).getD .dead)) = all.map fun e => (e, getE H1 e) := by
    refine List.map_congr_left fun e he => ?_
    have he : mem all e = true := by simpa [mem] using he
    rw [hget1, if_pos (hlt e he), if_pos he]
  obtain ⟨z1, z2, z3⟩ := join_inv (N := S.news) (H2 := upd H (all.map fun e => (e, getE H1 e))) hI hids hfree hle1 k3
    (fun e he => by
      obtain ⟨E, e1, e2, e3⟩ := hm1 e (by rw [hallt]; exact he)
      rw [e2]; exact e3)
    (fun e => by
      rw [getE_upd_map H1 all H e (fun i hi => hin i (by simpa [mem] using hi))]
      have := hallt e
      unfold mem at this
      rw [this])
  refine ⟨g1, _, z1, ?_, k4, z3⟩
  rw [hupd]
  exact z2

theorem pos_sound {P : Program} {C : Ctx} {L : Loops} (hC : CtxSound P C ∧ CtxLocal C) {k : Nat} {fn : Func} (hf : P.funcs[k]? = some fn) (hside : ((fn.name == "runtime.NumGoroutine") == false && fn.body.isSome) = true)
    (hl : ∀ b ∈ loopsOf (bodyOf fn), LoopOK P L b) {S : PSpec} {pre : HL S.As → HD S.Es → Bool} {f : HL S.As → HD S.Es → S.Out}
    (h1 : ∀ xs hs, HL.ok S.As xs → HD.ok S.Es hs → pre xs hs = true → (fnP P C L S fn xs hs).eval = some (f xs hs)) :
    CSound P k (CSpec.pos S pre f) ∧ CLocal (CSpec.pos S pre f) := by
  simp only [Bool.and_eq_true, beq_iff_eq] at hside
  obtain ⟨hname, hb⟩ := hside
  obtain ⟨body, hb⟩ := Option.isSome_iff_exists.1 hb
  have hl : LoopsOK P L body := by
    refine loopsOK_all ?_
    unfold bodyOf at hl
    rw [hb] at hl
    exact hl
  refine ⟨⟨fun args w => callFunc_enter hf hname hb args w, ?_⟩, pos_local S pre f⟩
  intro g H w vs rvs fr out hI hargs hfree he
  simp only [CSpec.pos] at he hfree
  rw [(es_split H _ _).1, (es_split H _ _).2, reach_reachE] at he
  generalize hids0 : reach 5 H (rootVs S.As vs) = ids0 at he
  generalize hle0 : lendVs S.As vs = le at he
  unfold posCore at he
  split at he
  · rename_i hc
    simp only [Bool.and_eq_true] at hc
    obtain ⟨⟨⟨⟨c1, c2⟩, c3⟩, c4⟩, c5⟩ := hc
    have hget : ∀ e, putE ids0 (ents H ids0) e = if mem ids0 e then getE H e else .dead := fun e => putE_ents H ids0 e
    have hlent : ∀ e, putE le (ents H le) e = if mem le e then getE H e else .dead := fun e => putE_ents H le e
    generalize putE ids0 (ents H ids0) = get at he hget
    generalize putE le (ents H le) = lentE at he hlent
    have hdm := dedupN_mem ids0
    generalize dedupN ids0 = ids at he hdm c4
    have hids : ∀ e, mem ids0 e = true → e < fr := fun e he => by
      have := List.all_eq_true.1 c2 e (by simpa [mem] using he)
      simpa using this
    have hcl := ents_all c3
    have hnl : ∀ e, mem le e = true → mem ids0 e = false := fun e he => by
      have := List.all_eq_true.1 c1 e (by simpa [mem] using he)
      simpa using this
    have hEs : ∀ t, t < S.Es.length → liveY S.Es[t]? = true := fun t ht => by
      rw [List.getElem?_eq_getElem ht]
      exact List.all_eq_true.1 c5 _ (List.getElem_mem ht)
    split at he
    · rename_i xs hxs
      split at he
      · rename_i hs hhs
        obtain ⟨hp, he⟩ := Tr.chk_some he
        -- the called function's memory
        obtain ⟨hlen, hEC⟩ := decC_EC hhs
        have hlen : ids.length = S.Es.length := by simpa using hlen
        have hpi := part_inv (n := fr) hI hids hcl
        have hfrom : ∀ t, t < ids.length → ids[t]? = some (ids.getD t 0) := by
          intro t ht
          rw [List.getD_eq_getElem?_getD, List.getElem?_eq_getElem ht]
          rfl
        have hgp : ∀ e, mem ids0 e = true → getE (partH ids0 H fr) e = getE H e := fun e he => by
          rw [getE_partH, if_pos (hids e he), if_pos he]
        have key := conv_inv (R := rnIn S ids get fun _ => .dead) (q := fun t => decide (t < ids.length)) (from_ := fun t => ids.getD t 0) (H' := encH S.Es hs) hpi
          (fun e he => by
            have he : mem ids e = true := he
            obtain ⟨w1, w2⟩ := idxOf_mem he
            exact ⟨decide_eq_true w1, w2⟩)
          (fun t ht => by
            have ht : t < ids.length := by simpa using ht
            exact ⟨getD_mem ht, nodupI_spec c4 ht⟩)
          (fun e k a l he hE => by
            have he : mem ids0 e = true := by rw [← hdm]; exact he
            rw [hgp e he] at hE
            show k = genE (get e)
            rw [hget, if_pos he, hE]; rfl)
          (fun t K a l ht hE => encH_gen hE)
          (fun t ht => by
            have ht : t < ids.length := by simpa using ht
            have := hEC t (hEs t (by omega))
            rw [getE_map', hfrom t ht] at this
            have hm : mem ids0 (ids.getD t 0) = true := by rw [← hdm]; exact getD_mem ht
            rw [hgp _ hm]
            simp only [hget, if_pos hm] at this
            exact this)
          (fun t ht => by
            have ht : ¬ t < ids.length := by simpa using ht
            rw [getE_past _ (by rw [encH_length]; omega)]
            rfl)
          (fun e => rfl)
        obtain ⟨k1, k2⟩ := key
        generalize hg' : (g.part H w ids0 fr).rn (fun t => ids.getD t 0) (encH S.Es hs) = g' at k1 k2
        have hsh' : ∀ t, g'.sh t = shp (getE (encH S.Es hs) t) := k1.sh
        -- arguments
        have hrel : CRel (rnIn S ids get lentE) g g' := by
          refine ⟨k2.fr, fun b o h => k2.gr b o (part_gr_mono h), k2.bl, k2.sz, fun e he => ?_, fun e k a l hE hin cs hr => ?_⟩
          · have hm : mem ids0 e = true := by rw [← hdm]; exact he
            have := k2.sh e he
            have hp : (g.part H w ids0 fr).sh e = g.sh e := by simp [G.part, hids e hm, hm]
            rw [hp] at this
            exact this
          · have hE : lentE e = .vec k a l := hE
            rw [hlent] at hE
            split at hE
            · rename_i hm
              exact lent_Rep hI hE (hnl e hm) hin (fun b o h => k2.fr b o h) k2.gr hr
            · cases hE
        have hargs' := convArgs_rep hrel hxs hargs
        have hx := args_ok hargs'
        have hh : HD.ok S.Es hs := HD_ok_of 0 (fun t => by rw [Nat.zero_add]; exact k1.ent t) hEs
        have hev := h1 xs hs hx hh hp
        obtain ⟨r, q1, q2⟩ := Tr.bind_some hev
        split at q2
        · rename_i dd hnorm
          have := Tr.ret_some q2
          subst this
          unfold posOut at he
          split at he
          · rename_i v hv0
            split at he
            · rename_i hd
              have := Tr.ret_some he
              subst this
              simp only [Bool.and_eq_true, decide_eq_true_eq] at hd
              obtain ⟨⟨⟨d1, d2⟩, d3⟩, d4⟩ := hd
              refine (fn_sound hC.1 hC.2 hf hb hl k1 hargs' (fnK_ok q1)).mono ?_
              rintro e w' ⟨rv, g1, rfl, hle, hI1, hv⟩
              obtain ⟨g3, w1, w2, w3⟩ := pnorm_rep hsh' hle hI1 hv hnorm
              have hbl : ∀ e, mem ids e = true → g'.bl (idxOf ids e) = g.bl e ∧ g'.sz (idxOf ids e) = g.sz e := fun e he => by
                rw [← hg']
                show g.bl (ids.getD (idxOf ids e) 0) = _ ∧ g.sz (ids.getD (idxOf ids e) 0) = _
                rw [(idxOf_mem he).2]
                exact ⟨rfl, rfl⟩
              obtain ⟨g4, g5, z1, z2, z3, z4⟩ := pos_back hI hids hdm hget hlen k1 k2 hbl (by rw [← hg']; rfl) (by rw [← hg']; exact fun b o h => h) (by rw [← hg']; rfl) w1 w2 d1 d2
                (fun e he => by
                  have := List.all_eq_true.1 d3 e (by simpa [mem] using he)
                  split at this
                  · rename_i E hE; exact ⟨E, hE, this⟩
                  · cases this)
                (fun e he1 he2 => by rw [hI.sh, freeAt_get hfree e he1 he2]; rfl)
                (fun e he => by
                  have he : e ∈ ids ++ List.range' fr S.news := by simpa [mem] using he
                  rw [List.mem_append] at he
                  rcases he with he | he
                  · have he : mem ids e = true := by simpa [mem] using he
                    obtain ⟨v1, v2⟩ := idxOf_mem he
                    have := hEC (idxOf ids e) (hEs _ (by omega))
                    rw [getE_map', hfrom _ v1] at this
                    simp only at this
                    rw [v2, hget, if_pos (by rw [← hdm]; exact he)] at this
                    refine lt_of_live (H := H) ?_
                    have hly := hEs (idxOf ids e) (by omega)
                    have hlv : (getE (encH S.Es hs) (idxOf ids e)).live = true := by
                      have hq := encH_shp (y := hs) (List.getElem?_eq_getElem (l := S.Es) (i := idxOf ids e) (by omega))
                      rw [List.getElem?_eq_getElem (by omega)] at hly
                      cases hE : S.Es[idxOf ids e] with
                      | free => rw [hE] at hly; cases hly
                      | dead => rw [hE] at hly; cases hly
                      | box T => rw [hE] at hq; obtain ⟨x, hx⟩ := hq; rw [hx]; rfl
                      | vec k a => rw [hE] at hq; obtain ⟨x, hx⟩ := hq; rw [hx]; rfl
                    cases h1 : getE H e <;> cases h2 : getE (encH S.Es hs) (idxOf ids e) <;> rw [h1, h2] at this <;> first | rfl | (exact this.elim) | (rw [h2] at hlv; cases hlv)
                  · rcases freeAt_lt hfree with h | h
                    · rw [h] at he; simp at he
                    · rw [List.mem_range'] at he
                      obtain ⟨i, hi, rfl⟩ := he
                      omega)
              exact ⟨rv, g5, rfl, z1, z2, inn_VRep z4 d4 (backV_rep z3 hv0 w3)⟩
            · exact (Tr.fail_some he).elim
          · exact (Tr.fail_some he).elim
        · exact (Tr.fail_some q2).elim
      · exact (Tr.fail_some he).elim
    · exact (Tr.fail_some he).elim
  · exact (Tr.fail_some he).elim

end Vse

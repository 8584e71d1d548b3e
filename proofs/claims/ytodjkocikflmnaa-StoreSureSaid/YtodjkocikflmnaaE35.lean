/- Functions that are given pointers, as functions of what stands in the entries: called on entries in their places. Nothing here is about one program. -/
import Derived.Test.YtodjkocikflmnaaE34
set_option linter.unusedVariables false
namespace Vse
open Go Go.ChangeShapes

namespace Tr
/-- the tree's value: a way that fails at once is not asked -/
def foldD {α : Type} (d : α) : Tr α → α
  | .ret r => r
  | .fail => d
  | .ite b t e => choose b t.isFail e.isFail (t.foldD d) (e.foldD d)
  | .opt o n s => match o with | none => n.foldD d | some x => (s x).foldD d

/-- no way fails that the choices leave open -/
def fineD {α : Type} : Tr α → Bool
  | .ret _ => true
  | .fail => false
  | .ite b t e => (t.fineD || !b) && (e.fineD || b)
  | .opt o n s => match o with | none => n.fineD | some x => (s x).fineD

theorem eval_of_fine {α : Type} {d : α} : ∀ {t : Tr α}, t.fineD = true → t.eval = some (t.foldD d)
  | .ret r, h => rfl
  | .fail, h => by simp [fineD] at h
  | .ite b t e, h => by
    simp only [fineD, Bool.and_eq_true, Bool.or_eq_true] at h
    cases b
    · have he : e.fineD = true := by simpa using h.2
      have hf : e.isFail = false := by
        rw [Bool.eq_false_iff]; intro hf; rw [isFail_eq hf] at he; cases he
      have : (Tr.ite false t e).foldD d = e.foldD d := by
        simp only [foldD, choose, hf]; cases t.isFail <;> rfl
      rw [this]
      exact eval_of_fine (t := e) he
    · have ht : t.fineD = true := by simpa using h.1
      have hf : t.isFail = false := by
        rw [Bool.eq_false_iff]; intro hf; rw [isFail_eq hf] at ht; cases ht
      have : (Tr.ite true t e).foldD d = t.foldD d := by
        simp only [foldD, choose, hf]; cases e.isFail <;> rfl
      rw [this]
      exact eval_of_fine (t := t) ht
  | .opt o n s, h => by
    cases o with
    | none => exact eval_of_fine (t := n) h
    | some x => exact eval_of_fine (t := s x) h
end Tr

def dflE : (Es : List ETy) → HD Es
  | [] => ()
  | .free :: l => dflE l
  | .dead :: l => dflE l
  | .box T :: l => (dfl T, dflE l)
  | .vec _ _ :: l => ([], dflE l)

/-- arguments' types, results' types, entries as the function finds them, and as it leaves them -/
structure MSpec where
  As : List Ty
  Rs : List Ty
  Es : List ETy
  Fs : List ETy

abbrev MSpec.Out (S : MSpec) := HL S.Rs × HD S.Fs
def MSpec.dfl (S : MSpec) : S.Out := (dflL S.Rs, dflE S.Fs)

/-- an own slice that is seen as it is -/
def idle (H : Heap) (m : Nat × Nat × Nat) : Bool := match getE H m.1 with
  | .vec k _ _ => decide (m.1 = m.2.1) && decide (k = m.2.2)
  | _ => false

def movOkL (n : Nat) (H0 : Heap) (m : Nat × Nat × Nat) : Bool :=
  (decide (m.1 = m.2.1) || decide (n ≤ m.1)) && (match getE H0 m.2.1 with
    | .free => true
    | .vec k _ _ => decide (k < m.2.2)
    | _ => false)

theorem movAllL_rep {g : G} {a : Act} {w : World} {n : Nat} {H0 : Heap} (hsh : ∀ e, g.sh e = shp (getE H0 e)) (hfree : ∀ e, n ≤ e → g.sh e = .free) : ∀ {ms : List (Nat × Nat × Nat)} {g2 : G} {st st' : St}, ms.all (movOkL n H0) = true → g.le g2 → SRep g2 st a w → movAll ms st = some st' → ∃ g3, g.le g3 ∧ SRep g3 st' a w
  | [], g2, st, st', _, hle, h, hs => by
    simp only [movAll, Option.some.injEq] at hs
    subst hs
    exact ⟨g2, hle, h⟩
  | (f, t, K) :: ms, g2, st, st', hok, hle, h, hs => by
    simp only [List.all_cons, Bool.and_eq_true] at hok
    simp only [movAll] at hs
    split at hs
    · rename_i st1 h1
      have hm := hok.1
      simp only [movOkL, Bool.and_eq_true, Bool.or_eq_true, decide_eq_true_eq] at hm
      obtain ⟨hf, hk⟩ := hm
      have hl : g.sh t = .free ∨ ∃ k0 s n, g.sh t = .vec k0 s n ∧ k0 < K := by
        rw [hsh]
        split at hk
        · rename_i he; rw [he]; exact .inl rfl
        · rename_i he; rw [he]; exact .inr ⟨_, _, _, rfl, by simpa using hk⟩
        · cases hk
      obtain ⟨⟨g3, q1, q2⟩, _⟩ := movSt_rep hle h h1 hl (hf.imp id fun x => hfree f x)
      exact movAllL_rep hsh hfree hok.2 q1 q2 hs
    · cases hs

def MSpec.moves (S : MSpec) (H : Heap) : List (Nat × Nat × Nat) := (dedup (unifH S.Fs H)).filter fun m => !idle H m

def MSpec.norm (S : MSpec) (H0 : Heap) (r0 : AV × Heap) : Option S.Out :=
  let r := sealR S.Rs r0
  if decide (S.Fs.length = S.Es.length) && (S.moves r.2).all (movOkL S.Es.length H0) then
    match movAll (S.moves r.2) ⟨[r.1], r.2⟩ with
    | some st1 => if heapUnder S.Es.length (st1.heap.take S.Es.length) then
        match cutA S.Es.length st1 with
        | ⟨[a], H⟩ => match toHL S.Rs a with
          | some x => match decH S.Fs H with
            | some y => some (x, y)
            | none => none
          | none => none
        | _ => none
      else none
    | none => none
  else none

/-- what the function makes of data -/
def fnM (P : Program) (C : Ctx) (L : Loops) (S : MSpec) (fn : Func) (xs : HL S.As) (hs : HD S.Es) : Tr S.Out :=
  (fnK P C L fn (mkArgs S.As xs) (encH S.Es hs)).bind fun r => match S.norm (encH S.Es hs) r with
    | some d => .ret d
    | none => .fail

def castArgs : (As : List Ty) → List AV → Option (HL As)
  | [], [] => some ()
  | A :: As, .v T x :: vs => match castT ⟨T, x⟩ A with
    | some y => match castArgs As vs with
      | some r => some (y, r)
      | none => none
    | none => none
  | _, _ => none

theorem castArgs_some : ∀ {As : List Ty} {vs : List AV} {xs : HL As}, castArgs As vs = some xs → vs = mkArgs As xs
  | [], [], xs, h => rfl
  | [], _ :: _, xs, h => by simp [castArgs] at h
  | A :: As, [], xs, h => by simp [castArgs] at h
  | A :: As, .tup _ :: vs, xs, h => by simp [castArgs] at h
  | A :: As, .v T x :: vs, xs, h => by
    simp only [castArgs] at h
    split at h
    · rename_i y hy
      split at h
      · rename_i r hr
        simp only [Option.some.injEq] at h
        subst h
        have := castT_spec hy
        simp only [TV.mk.injEq] at this
        obtain ⟨rfl, h2⟩ := this
        have h2 := eq_of_heq h2
        subst h2
        rw [castArgs_some hr]
        rfl
      · cases h
    · cases h

def isLive : ETy → Bool
  | .box _ => true
  | .vec _ _ => true
  | _ => false

/-- a function that is given pointers to entries in their places -/
def CSpec.mth (S : MSpec) (pre : HL S.As → HD S.Es → Bool) (f : HL S.As → HD S.Es → S.Out) : CSpec :=
  ⟨0, fun vs H => reach 3 H (vs.flatMap AV.ents), fun vs H => reach 3 H (vs.flatMap AV.ents), fun vs es _ =>
    let ids := reachE 3 es (vs.flatMap AV.ents)
    if (ids.all fun e => decide (e < S.Es.length)) && (ids.all fun e => ((S.Es[e]?).map isLive).getD false) && (es.all fun E => E.inn (mem ids) false) && (vs.all fun v => v.inn (mem ids) false) then
      match castArgs S.As vs with
      | some xs => match decH S.Es ((List.range S.Es.length).map (putE ids es)) with
        | some hs => if ((ids.all fun e => (getE (encH S.Fs (f xs hs).2) e).inn (turned ids S.Es.length 0) true) && (ofHL S.Rs (f xs hs).1).inn (turned ids S.Es.length 0) true) then
            .chk (pre xs hs) (.ret (ofHL S.Rs (f xs hs).1, news ids S.Es.length 0 (encH S.Fs (f xs hs).2))) else .fail
        | none => .fail
      | none => .fail
    else .fail⟩

theorem mth_local (S : MSpec) (pre : HL S.As → HD S.Es → Bool) (f : HL S.As → HD S.Es → S.Out) : CLocal (CSpec.mth S pre f) where
  same vs H H' h := ⟨reach_same 3 _ h, reach_same 3 _ h⟩
  turns vs H fr out h x hx := by
    simp only [CSpec.mth] at h
    rw [reach_reachE] at h
    split at h
    · split at h
      · split at h
        · split at h
          · obtain ⟨_, h⟩ := Tr.chk_some h
            have := Tr.ret_some h
            subst this
            simp only [news, List.range'_zero, List.append_nil, List.mem_map] at hx
            obtain ⟨e, he, rfl⟩ := hx
            exact .inl he
          · exact (Tr.fail_some h).elim
        · exact (Tr.fail_some h).elim
      · exact (Tr.fail_some h).elim
    · exact (Tr.fail_some h).elim

theorem mnorm_rep {S : MSpec} {g g2 : G} {H0 : Heap} {r : AV × Heap} {rv : Value} {w : World} {d : S.Out} (hsh : ∀ e, g.sh e = shp (getE H0 e)) (hfree : ∀ e, S.Es.length ≤ e → g.sh e = .free) (hle : g.le g2) (hI : HInv g2 r.2 w) (hv : VRep g2 r.1 rv)
    (hn : S.norm H0 r = some d) : ∃ g3, g.le g3 ∧ HInv g3 (encH S.Fs d.2) w ∧ VRep g3 (ofHL S.Rs d.1) rv := by
  unfold MSpec.norm at hn
  obtain ⟨gs, hle', hI, hv⟩ := sealR_rep S.Rs hI hv
  have hle := hle.trans hle'
  simp only at hn
  split at hn
  · rename_i hm
    simp only [Bool.and_eq_true] at hm
    obtain ⟨_, hm⟩ := hm
    have h0 : SRep gs ⟨[(sealR S.Rs r).1], (sealR S.Rs r).2⟩ ⟨#[rv], []⟩ w := by
      refine ⟨⟨rfl, fun i => ?_⟩, hI, rfl⟩
      cases i with
      | zero => exact hv
      | succ i => exact ⟨#[], by simp [undef], rfl⟩
    split at hn
    · rename_i st1 h1
      obtain ⟨g3, q1, q2⟩ := movAllL_rep hsh hfree hm hle h0 h1
      split at hn
      · rename_i hc
        obtain ⟨g4, w1, w2⟩ := cutA_rep hfree q1 q2 hc
        split at hn
        · rename_i a H hcut
          rw [hcut] at w2
          split at hn
          · rename_i x hx
            split at hn
            · rename_i y hy
              simp only [Option.some.injEq] at hn
              subst hn
              have hv := w2.env.2 0
              simp only [getV] at hv
              rw [toHL_some hx] at hv
              have hh := w2.heap
              simp only at hh
              rw [decH_some hy] at hh
              exact ⟨g4, w1, hh, hv⟩
            · cases hn
          · cases hn
        · cases hn
      · cases hn
    · cases hn
  · cases hn

theorem mth_sound {P : Program} {C : Ctx} {L : Loops} (hC : CtxSound P C ∧ CtxLocal C) {k : Nat} {fn : Func} (hf : P.funcs[k]? = some fn) (hside : ((fn.name == "runtime.NumGoroutine") == false && fn.body.isSome) = true)
    (hl : ∀ b ∈ loopsOf (bodyOf fn), LoopOK P L b) {S : MSpec} {pre : HL S.As → HD S.Es → Bool} {f : HL S.As → HD S.Es → S.Out}
    (h1 : ∀ xs hs, HL.ok S.As xs → pre xs hs = true → (fnM P C L S fn xs hs).eval = some (f xs hs)) :
    CSound P k (CSpec.mth S pre f) ∧ CLocal (CSpec.mth S pre f) := by
  simp only [Bool.and_eq_true, beq_iff_eq] at hside
  obtain ⟨hname, hb⟩ := hside
  obtain ⟨body, hb⟩ := Option.isSome_iff_exists.1 hb
  have hl : LoopsOK P L body := by
    refine loopsOK_all ?_
    unfold bodyOf at hl
    rw [hb] at hl
    exact hl
  refine ⟨⟨fun args w => callFunc_enter hf hname hb args w, ?_⟩, mth_local S pre f⟩
  intro g H w vs rvs fr out hI hargs _ he
  simp only [CSpec.mth] at he
  rw [reach_reachE] at he
  split at he
  · rename_i hc
    simp only [Bool.and_eq_true] at hc
    obtain ⟨⟨⟨c1, c0⟩, c2⟩, c3⟩ := hc
    split at he
    · rename_i xs hxs
      split at he
      · rename_i hs hhs
        split at he
        · rename_i hd
          simp only [Bool.and_eq_true] at hd
          obtain ⟨d2, d3⟩ := hd
          obtain ⟨hp, he⟩ := Tr.chk_some he
          have := Tr.ret_some he
          subst this
          have hids : ∀ e, mem (reach 3 H (vs.flatMap AV.ents)) e = true → e < S.Es.length := fun e he => by
            have := List.all_eq_true.1 c1 e (by simpa [mem] using he)
            simpa using this
          have hcl := ents_all c2
          have hH : (List.range S.Es.length).map (putE (reach 3 H (vs.flatMap AV.ents)) (ents H (reach 3 H (vs.flatMap AV.ents)))) = partH (reach 3 H (vs.flatMap AV.ents)) H S.Es.length := by
            unfold partH
            exact List.map_congr_left fun e _ => putE_ents H _ e
          rw [hH] at hhs
          have hdec := decH_some hhs
          have hargs' := inn_args (part_agree (H := H) (w := w) hids) c3 hargs
          have hargs' : argsRep (g.part H w (reach 3 H (vs.flatMap AV.ents)) S.Es.length) (mkArgs S.As xs) rvs := by
            have e := castArgs_some hxs
            generalize g.part H w (reach 3 H (vs.flatMap AV.ents)) S.Es.length = gg at hargs' ⊢
            rw [e] at hargs'
            exact hargs'
          have hx := args_ok hargs'
          have hpi := part_inv hI hids hcl
          have hlive : ∀ (Es : List ETy) (hs : HD Es) (e : Nat), ((Es[e]?).map isLive).getD false = true → (getE (encH Es hs) e).live = true := by
            intro Es
            induction Es with
            | nil => intro _ e h; simp at h
            | cons E Es ih =>
              intro hs e h
              cases e with
              | zero => cases E <;> simp [isLive] at h <;> rfl
              | succ e =>
                simp only [List.getElem?_cons_succ] at h
                cases E <;> exact ih _ e h
          have hin : ∀ i ∈ (reach 3 H (vs.flatMap AV.ents)) ++ List.range' S.Es.length 0, i < H.length := by
            intro i hi
            simp only [List.range'_zero, List.append_nil] at hi
            have h0 := List.all_eq_true.1 c0 i hi
            have hl := hlive S.Es hs i h0
            rw [← hdec, getE_partH, if_pos (hids i (by simpa [mem] using hi)), if_pos (by simpa [mem] using hi)] at hl
            exact lt_of_live hl
          rw [hdec] at hpi
          have hev := h1 xs hs hx hp
          obtain ⟨r, q1, q2⟩ := Tr.bind_some hev
          split at q2
          · rename_i dd hnorm
            have := Tr.ret_some q2
            rw [this] at hnorm
            refine (fn_sound hC.1 hC.2 hf hb hl hpi hargs' (fnK_ok q1)).mono ?_
            rintro e w' ⟨rv, g1, rfl, hle, hI1, hv⟩
            obtain ⟨g3, w1, w2, w3⟩ := mnorm_rep hpi.sh (fun e he => by simp only [G.part]; rw [if_neg (by omega)]) hle hI1 hv hnorm
            obtain ⟨z1, z2, z3⟩ := join_inv (N := 0) (H2 := upd H (news (reach 3 H (vs.flatMap AV.ents)) S.Es.length 0 (encH S.Fs (f xs hs).2))) hI hids (fun e h1 h2 => by omega) w1 w2
              (fun e he => by
                have := List.all_eq_true.1 d2 e (by rw [← mem_turned] at he; simpa using he)
                exact this)
              (fun e => by
                unfold news
                rw [getE_upd_map _ _ _ _ hin, mem_turned])
            exact ⟨rv, _, rfl, z1, z2, inn_VRep z3 d3 w3⟩
          · exact (Tr.fail_some q2).elim
        · exact (Tr.fail_some he).elim
      · exact (Tr.fail_some he).elim
    · exact (Tr.fail_some he).elim
  · exact (Tr.fail_some he).elim

/-- one of two, as the entries are -/
def CSpec.alt (c d : CSpec) (sel : List Entry → Bool) : CSpec :=
  ⟨c.new, c.ids, c.wr, fun vs es fr => match sel es with | true => c.core vs es fr | false => d.core vs es fr⟩

theorem alt_sound {P : Program} {k : Nat} {c d : CSpec} (sel : List Entry → Bool) (hn : c.new = d.new) (hi : c.ids = d.ids) (hw : c.wr = d.wr) (hc : CSound P k c ∧ CLocal c) (hd : CSound P k d ∧ CLocal d) : CSound P k (CSpec.alt c d sel) ∧ CLocal (CSpec.alt c d sel) := by
  refine ⟨⟨hc.1.enter, ?_⟩, ⟨hc.2.same, ?_⟩⟩
  · intro g H w vs rvs fr out hI ha hf he
    simp only [CSpec.alt] at he
    split at he
    · exact hc.1.calls g H w vs rvs fr out hI ha hf he
    · rw [hi] at he
      exact hd.1.calls g H w vs rvs fr out hI ha (by rw [← hn]; exact hf) he
  · intro vs H fr out he
    simp only [CSpec.alt] at he
    split at he
    · exact hc.2.turns vs H fr out he
    · rw [hi] at he
      have := hd.2.turns vs H fr out he
      simp only [CSpec.alt]
      rw [hw, hn]
      exact this

/-- ..its results given up -/
def CSpec.entS (P : Program) (C : Ctx) (L : Loops) (k N : Nat) (Rs : List Ty) (fn : Func) : CSpec :=
  ⟨N, fun vs H => reach k H (vs.flatMap AV.ents), fun vs H => reach k H (vs.flatMap AV.ents), fun vs es fr =>
    let ids := reachE k es (vs.flatMap AV.ents)
    if (ids.all fun e => decide (e < fr)) && (es.all fun E => E.inn (mem ids) false) && (vs.all fun v => v.inn (mem ids) false) then
      (fnK P C L fn vs ((List.range fr).map (putE ids es))).bind fun r0 => let r := sealR Rs r0
        if decide (r.2.length ≤ fr + N) && ((ids ++ List.range' fr N).all fun e => (getE r.2 e).inn (turned ids fr N) true) && r.1.inn (turned ids fr N) true then
          .ret (r.1, news ids fr N r.2) else .fail
    else .fail⟩

theorem entS_local (P : Program) (C : Ctx) (L : Loops) (k N : Nat) (Rs : List Ty) (fn : Func) : CLocal (CSpec.entS P C L k N Rs fn) where
  same vs H H' h := ⟨reach_same k _ h, reach_same k _ h⟩
  turns vs H fr out h x hx := by
    simp only [CSpec.entS] at h
    rw [reach_reachE] at h
    split at h
    · obtain ⟨r, h1, h2⟩ := Tr.bind_some h
      split at h2
      · have := Tr.ret_some h2
        subst this
        simp only [news, List.mem_map, List.mem_append, List.mem_range'] at hx
        obtain ⟨e, he, rfl⟩ := hx
        rcases he with he | ⟨i, hi, rfl⟩
        · exact .inl he
        · refine .inr ⟨by simp only; omega, ?_⟩
          show fr + 1 * i < fr + N
          omega
      · exact (Tr.fail_some h2).elim
    · exact (Tr.fail_some h).elim

theorem entS_sound {P : Program} {C : Ctx} {L : Loops} (hC : CtxSound P C ∧ CtxLocal C) {f : Nat} {fn : Func} (hf : P.funcs[f]? = some fn) (hside : ((fn.name == "runtime.NumGoroutine") == false && fn.body.isSome) = true)
    (hl : ∀ b ∈ loopsOf (bodyOf fn), LoopOK P L b) (k N : Nat) (Rs : List Ty) (hN : 0 < N) : CSound P f (CSpec.entS P C L k N Rs fn) ∧ CLocal (CSpec.entS P C L k N Rs fn) := by
  simp only [Bool.and_eq_true, beq_iff_eq] at hside
  obtain ⟨hname, hb⟩ := hside
  obtain ⟨body, hb⟩ := Option.isSome_iff_exists.1 hb
  have hl : LoopsOK P L body := by
    refine loopsOK_all ?_
    unfold bodyOf at hl
    rw [hb] at hl
    exact hl
  refine ⟨⟨fun args w => callFunc_enter hf hname hb args w, ?_⟩, entS_local P C L k N Rs fn⟩
  intro g H w vs rvs fr out hI hargs hfree he
  simp only [CSpec.entS] at he hfree
  rw [reach_reachE] at he
  split at he
  · rename_i hc
    simp only [Bool.and_eq_true] at hc
    obtain ⟨⟨c1, c2⟩, c3⟩ := hc
    have hids : ∀ e, mem (reach k H (vs.flatMap AV.ents)) e = true → e < fr := fun e he => by
      have := List.all_eq_true.1 c1 e (by simpa [mem] using he)
      simpa using this
    have hcl := ents_all c2
    obtain ⟨r, h1, h2⟩ := Tr.bind_some he
    split at h2
    · rename_i hd
      have := Tr.ret_some h2
      subst this
      simp only [Bool.and_eq_true, decide_eq_true_eq] at hd
      obtain ⟨⟨d1, d2⟩, d3⟩ := hd
      have hH : (List.range fr).map (putE (reach k H (vs.flatMap AV.ents)) (ents H (reach k H (vs.flatMap AV.ents)))) = partH (reach k H (vs.flatMap AV.ents)) H fr := by
        unfold partH
        exact List.map_congr_left fun e _ => putE_ents H _ e
      rw [hH] at h1
      refine (fn_sound hC.1 hC.2 hf hb hl (part_inv hI hids hcl) (inn_args (part_agree hids) c3 hargs) (fnK_ok h1)).mono ?_
      rintro e w' ⟨rv, g0, rfl, hle0, hI0, hv0⟩
      obtain ⟨g1, hle', hI1, hv⟩ := sealR_rep Rs (r := r) hI0 hv0
      have hle := hle0.trans hle'
      have hlen := (freeAt_lt hfree).resolve_left (by omega)
      have hin : ∀ i ∈ (reach k H (vs.flatMap AV.ents)) ++ List.range' fr N, i < H.length := by
        intro i hi
        simp only [List.mem_append, List.mem_range'] at hi
        rcases hi with hi | ⟨j, hj, rfl⟩
        · have := hids i (by simpa [mem] using hi); omega
        · omega
      obtain ⟨q1, q2, q3⟩ := join_inv (H2 := upd H (news (reach k H (vs.flatMap AV.ents)) fr N (sealR Rs r).2)) hI hids (fun e h1 h2 => by rw [hI.sh, freeAt_get hfree e h1 h2]; rfl) hle hI1
        (fun e he => by
          have := List.all_eq_true.1 d2 e (by rw [← mem_turned] at he; simpa using he)
          exact this)
        (fun e => by
          unfold news
          rw [getE_upd_map _ _ _ _ hin, mem_turned])
      exact ⟨rv, _, rfl, q1, q2, inn_VRep q3 d3 hv⟩
    · exact (Tr.fail_some h2).elim
  · exact (Tr.fail_some he).elim


open Go.RowKit in
/-- a law with loops that answers true, the sizes of what comes in being known -/
theorem law_callsL {H : Type} {enc : TypeId × Value → H} {P : Program} {C : Ctx} {L : Loops} (hC : CtxSound P C ∧ CtxLocal C) (hlaid : laidOutB P = true) {k : Nat} {fn : Func} (hf : P.funcs[k]? = some fn)
    {n : Nat} {As : List Ty} (hside : (fn.body.isSome && (fn.params.toList.all fun t => P.readableRec t && decide (t < P.types.size))) = true) (hl : ∀ b ∈ loopsOf (bodyOf fn), LoopOK P L b) (hAs : argTys P n fn.params.toList = some As)
    {tb : TypeId} (hres : fn.resultTypes = #[tb]) (hbool : P.underlying tb = some .bool)
    {s : ChangeSpec} (hs : s.vars = [] ∧ ∀ ds : List (DataW H), ds.length = fn.params.toList.length → s.fn H ds = { results := [.lit (.bool true)], args := ds })
    (h1 : ∀ xs, HL.wf As xs → HL.sz As xs → (fnK P C L fn (mkArgs As xs) []).fine [.bool] = true) (h2 : ∀ xs, HL.wf As xs → HL.sz As xs → (fnK P C L fn (mkArgs As xs) []).fold1 .bool = true)
    {W : World} {base : Nat} {args : Array Value} {ds gs : List (DataW H)} {before : List MemPlace} {apart fresh handsOn again : Bool}
    (hval : ∀ (j : Nat) (t : TypeId) (v : Value), fn.params[j]? = some t → args[j]? = some v → Value.okWide P W .any base t v)
    (hW : DataW.Whole enc P fn.params.toList s.vars apart W args.toList ds gs before)
    (hz : (DataW.weightsEach P (fn.params.toList ++ s.plain.varTypes P) (ds ++ gs)).all (· ≤ reachBytes) = true) :
    Calls P k args W fun e W' => ∃ v, e = .returned v ∧ s.post enc P fn apart fresh handsOn again W args v W' := by
  simp only [Bool.and_eq_true] at hside
  obtain ⟨body, hb⟩ := Option.isSome_iff_exists.1 hside.1
  have hl : LoopsOK P L body := by
    refine loopsOK_all ?_
    unfold bodyOf at hl
    rw [hb] at hl
    exact hl
  exact law_callsZ hC hlaid hf hb hl hAs hside.2 hres hbool hs (fun xs hx hxz => by rw [nrmK (Tr.nrm_of_fine (h1 xs hx hxz)), Tr.fold_one, h2 xs hx hxz]; rfl) hval hW hz

end Vse

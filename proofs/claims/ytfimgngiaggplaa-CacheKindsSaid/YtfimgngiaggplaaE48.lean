/- Slices cut: the kit's contracts of slices.Delete, and of slices.Clone at nil, as summaries. Nothing here is about one program. -/
import Derived.Test.YtfimgngiaggplaaM6
import Derived.Shelf.SlicesE.Delete
import Derived.Shelf.SlicesE.Clone
set_option linter.unusedVariables false
namespace Vse
open Go Go.ChangeShapes Go.Proofs Go.Sort Go.Shelf

section
variable {P : Program} {C : Ctx} {L : Loops} {g : G} {H : Heap} {w : World}

/-- values of one cell -/
abbrev Cel := { v : Value // v.oneCell' = true }
def encC (x : Cel) : Value := x.1
theorem encC_one : OneCell encC := fun x => x.2
instance : Inhabited Cel := ⟨⟨.bool false, rfl⟩⟩

/-- own slices, some elements gone -/
def cutL {α : Type} (l : List α) (i j : Nat) : List α := l.take i ++ l.drop j
def CSpec.del (A : Ty) : CSpec :=
  ⟨0, fun vs _ => match vs with | .v (.vc e _) _ :: _ => [e] | _ => [], fun vs _ => match vs with | .v (.vc e _) _ :: _ => [e] | _ => [],
   fun vs es _ => match vs with
    | [.v (.vc e k) _, .v (.int .i64) i, .v (.int .i64) j] => match es with
      | [.vec k' a l] => if k = k' then (match castL ⟨a, l⟩ A with
        | some m => .chk (decide (0 ≤ i ∧ i < j ∧ j ≤ m.length)) (.ret (.v (.vc e (k + 1)) (), [(e, .vec (k + 1) A (cutL m i.toNat j.toNat))]))
        | none => .fail) else .fail
      | _ => .fail
    | _ => .fail⟩

theorem del_local (A : Ty) : CLocal (CSpec.del A) where
  same vs H H' h := ⟨rfl, rfl⟩
  turns vs H fr out h x hx := by
    simp only [CSpec.del] at h
    split at h
    · split at h
      · split at h
        · split at h
          · obtain ⟨_, h⟩ := Tr.chk_some h
            have := Tr.ret_some h
            subst this
            simp only [List.mem_singleton] at hx
            subst hx
            exact .inl (by simp [CSpec.del])
          · exact (Tr.fail_some h).elim
        · exact (Tr.fail_some h).elim
      · exact (Tr.fail_some h).elim
    · exact (Tr.fail_some h).elim

theorem repL_one {α : Type} {R : α → List Value → Prop} (h1 : ∀ x cs, R x cs → cs.length = 1) : ∀ {l : List α} {vs : List Value}, repL R l vs → vs.length = l.length
  | [], vs, h => by rw [show vs = [] from h]; rfl
  | x :: l, vs, ⟨c1, c2, e, r1, r2⟩ => by
    rw [e, List.length_append, h1 _ _ r1, repL_one h1 r2, List.length_cons]; omega
theorem repL_cut1 {α : Type} {R : α → List Value → Prop} (h1 : ∀ x cs, R x cs → cs.length = 1) : ∀ {l : List α} {vs : List Value} (i : Nat), repL R l vs → repL R (l.take i) (vs.take i) ∧ repL R (l.drop i) (vs.drop i)
  | l, vs, 0, h => ⟨by rw [List.take_zero, List.take_zero]; rfl, by rw [List.drop_zero, List.drop_zero]; exact h⟩
  | [], vs, i + 1, h => by rw [show vs = [] from h]; exact ⟨rfl, rfl⟩
  | x :: l, vs, i + 1, ⟨c1, c2, e, r1, r2⟩ => by
    have hc := h1 _ _ r1
    match c1, hc with
    | [v], _ =>
      subst e
      obtain ⟨q1, q2⟩ := repL_cut1 h1 i r2
      exact ⟨⟨[v], _, rfl, r1, q1⟩, q2⟩
theorem repL_app {α : Type} {R : α → List Value → Prop} : ∀ {l m : List α} {vs us : List Value}, repL R l vs → repL R m us → repL R (l ++ m) (vs ++ us)
  | [], m, vs, us, h, h' => by rw [show vs = [] from h]; exact h'
  | x :: l, m, vs, us, ⟨c1, c2, e, r1, r2⟩, h' => by
    subst e
    exact ⟨c1, c2 ++ us, by simp, r1, repL_app r2 h'⟩

theorem nat_args {i j : Int} {n : Nat} (h : 0 ≤ i ∧ i < j ∧ j ≤ n) : ∃ a b : Nat, i = (a : Int) ∧ j = (b : Int) ∧ a < b ∧ b ≤ n := ⟨i.toNat, j.toNat, by omega, by omega, by omega, by omega⟩
theorem sk_leaf1 {A : Ty} (h : A.sk = .leaf) {g : G} {x : A.den} {cs : List Value} (hr : Rep g A x cs) : cs.length = 1 := by
  rw [Rep_length _ _ _ hr]
  unfold Ty.nc
  rw [h]; rfl

theorem del_sound {A : Ty} (hA : A.sk = .leaf) {ρ : Ren} (hL : SlLaysE.n45 P ρ) {zv : Value} (hzo : zv.oneCell' = true) (hz : ∀ w, (zeroValue (ρ.t 23)).run P w = .ok zv w) {i0 : TypeInfo} (hi0 : P.info? (ρ.t 23) = some i0) (hz1 : i0.size = 1)
    {kf : Nat} (hk : ρ.f 45 = kf) (henter : ∀ args w, (callFunc kf args).run P w = .ok (.enter kf args) w) : CSound P kf (CSpec.del A) ∧ CLocal (CSpec.del A) := by
  refine ⟨⟨henter, ?_⟩, del_local A⟩
  intro g H w vs rvs fr out hI hargs _ he
  simp only [CSpec.del] at he
  split at he
  · rename_i e k u i j
    simp only [ents] at he
    split at he
    · rename_i k' a l hes
      simp only [List.cons.injEq, and_true] at hes
      split at he
      · rename_i hh
        subst hh
        split at he
        · rename_i m hm
          have := castL_some hm
          simp only [Sigma.mk.injEq] at this
          obtain ⟨rfl, hml⟩ := this
          have hml := eq_of_heq hml
          subst hml
          obtain ⟨hp, he⟩ := Tr.chk_some he
          have := Tr.ret_some he
          subst this
          obtain ⟨i', j', hi', hj', hij, hj⟩ := nat_args (of_decide_eq_true hp)
          obtain ⟨r1, rs, rfl, hv1, r2, rs2, rfl, hv2, r3, rs3, rfl, hv3, hr4⟩ := hargs
          have hr4 : rs3 = [] := hr4
          subst hr4
          obtain ⟨rfl, _⟩ := TRep_int.1 ((VRep_v (by simp)).1 hv2)
          obtain ⟨rfl, _⟩ := TRep_int.1 ((VRep_v (by simp)).1 hv3)
          have hi' : i = (i' : Int) := hi'
          have hj' : j = (j' : Int) := hj'
          subst hi'; subst hj'
          -- the slice
          have hE : getE H e = .vec k a l := hes
          have hlive : (getE H e).live = true := by rw [hE]; rfl
          have hent := hI.ent e
          rw [hE] at hent
          have hv := (VRep_v (by simp)).1 hv1
          simp only [TRep, Ty.agg, Ty.sk, Sk.agg, Bool.false_eq_true, if_false, Rep, G.vcr, hI.sh, hE, shp] at hv
          obtain ⟨_, _, hv⟩ := hv
          rcases hv trivial with ⟨_, h0, _⟩ | ⟨b, cap, hb, hsl, hcap, hcz⟩
          · omega
          simp only [List.cons.injEq, and_true] at hsl
          subst hsl
          rcases hent with ⟨q1, _⟩ | ⟨b', cs, t, fz, us, r, q1, q2, q3, q4, q5, q6, q7⟩
          · rw [hb] at q1; cases q1
          rw [hb] at q1
          cases q1
          have hlen := repL_one (fun x cs h => sk_leaf1 hA h) q6
          have hcel : ∀ v ∈ us, v.oneCell' = true := repL_cells (fun x cs h => Rep_cells a x cs h) q6
          obtain ⟨ps, hps⟩ : ∃ ps : List Cel, us = ps.map encC := ⟨us.attach.map fun v => ⟨v.1, hcel v.1 v.2⟩, by
            rw [List.map_map]
            show us = us.attach.map fun v => v.1
            simp⟩
          have hpl : ps.length = l.length := by rw [← hlen, hps, List.length_map]
          have hsz : (ps.toArray).size = l.length := by simp [hpl]
          have hH : Holds encC w b 0 ps.toArray := by
            intro t' ht
            have ht2 : t' < us.length := by rw [hlen, ← hsz]; exact ht
            have hjc : t' < cs.size := by rw [← Array.length_toList, q5, List.length_append]; omega
            refine ⟨?_, ?_⟩
            · show World.cell? w ⟨b, 0 + t', none⟩ = _
              simp only [World.cell?, q2, Option.isSome_none, Bool.false_eq_true, if_false, Nat.zero_add]
              rw [Array.getElem?_eq_getElem hjc]
              have e1 : cs[t'] = cs.toList[t']'(by simpa using hjc) := (Array.getElem_toList (h := hjc)).symm
              rw [e1]
              simp only [q5]
              rw [List.getElem_append_left ht2, getElem!_pos _ t' ht]
              congr 1
              have : us[t'] = (ps.map encC)[t']'(by rw [← hps]; exact ht2) := by simp only [hps]
              rw [this, List.getElem_map]
              rfl
            · show World.frozen? w ⟨b, 0 + t', none⟩ = false
              obtain ⟨lo, hi2⟩ := fz
              simp only [World.frozen?, q2, Nat.zero_add]
              rcases q3 with h | h
              · simp only at h
                simp; omega
              · simp only at h
                simp; omega
          have hcon := AnyE.slices_Delete hL encC encC_one ⟨zv, hzo⟩ hz i0 hi0 hz1 b 0 cap i' j' ps.toArray w hH (by rw [hsz]; exact hcap.1) hcap.2 (by omega) (by rw [hsz]; exact hj)
          rw [hk, hsz] at hcon
          refine hcon.mono ?_
          rintro ed w' ⟨rfl, q, rfl⟩
          have hI1 : HInv g H (ahead w q) := hI.later (fun b o h => h) ⟨rfl, Nat.le_add_right _ _⟩
          have q2' : (ahead w q).heap[b]? = some (.cells cs t fz) := q2
          generalize hF : (ps.toArray.toList.take i' ++ ps.toArray.toList.drop j' ++ List.replicate (j' - i') (⟨zv, hzo⟩ : Cel)) = F
          have hFl : F.length = us.length := by rw [← hF, hlen]; simp; omega
          have hput : putRow encC (ahead w q) b 0 F.toArray = (ahead w q).setRow b (putCells id 0 (F.map encC).toArray cs) := by
            have hpc : putCells encC 0 F.toArray = putCells id 0 (F.map encC).toArray := by
              funext cs0
              apply Array.ext
              · simp [putCells]
              · intro m h1 h2
                simp only [putCells, Array.getElem_mapIdx, List.size_toArray, List.length_map]
                by_cases hm : 0 ≤ m ∧ m < 0 + F.length
                · rw [if_pos hm, if_pos hm]
                  have hm2 : m < F.length := by omega
                  simp [hm2]
                · rw [if_neg hm, if_neg hm]
            rw [← setRow_put q2']
            unfold putRow
            rw [hpc]
          rw [hput]
          have hFs : ((F.map encC).toArray).size = us.length := by simp [hFl]
          have hcs' := putCells_list (F := (F.map encC).toArray) q5 hFs
          have hFm : (F.map encC) = (us.take i' ++ us.drop j') ++ List.replicate (j' - i') zv := by
            rw [← hF, hps]
            simp [encC]
          have hsize : (putCells id 0 (F.map encC).toArray cs).size = cs.size := by simp [putCells]
          obtain ⟨a1, a2⟩ := repL_cut1 (fun x cs h => sk_leaf1 hA h) i' q6
          obtain ⟨a3, a4⟩ := repL_cut1 (fun x cs h => sk_leaf1 hA h) j' q6
          obtain ⟨g', w1, w2, w3, w4, w5⟩ := hI1.setVec (k' := k + 1) (l' := cutL l i' j') (vs := us.take i' ++ us.drop j') (r := List.replicate (j' - i') zv ++ r) hE hb q2' (by rw [hsize]; exact q4) (by unfold thawed at q3 ⊢; rw [hsize]; exact q3) (.inl (Nat.lt_succ_self k))
            (by rw [hcs', ← List.append_assoc, ← hFm]) (repL_app a1 a4) (fun v hv => by
              rcases List.mem_append.1 hv with hv | hv
              · rw [List.eq_of_mem_replicate hv]; exact hzo
              · exact q7 v hv)
          have hcl : (cutL l i' j').length = l.length - (j' - i') := by unfold cutL; simp; omega
          refine ⟨_, g', rfl, w1, w2, (VRep_v (by simp)).2 (TRep_of_leaf rfl ?_)⟩
          simp only [Rep, G.vcr, w3]
          refine ⟨⟨_, rfl, rfl⟩, Nat.le_refl _, fun _ => .inr ⟨b, cap, w4, by rw [hcl], ⟨by omega, hcap.2⟩, by rw [w5]; exact hcz⟩⟩
        · exact (Tr.fail_some he).elim
      · exact (Tr.fail_some he).elim
    · exact (Tr.fail_some he).elim
  · exact (Tr.fail_some he).elim

/-- a function of one slice, that gives nil back for nil, its tree being told for one that is not -/
theorem slpN (hC : CtxSound P C ∧ CtxLocal C) {k : Nat} {fn : Func} (hf : P.funcs[k]? = some fn) {A : Ty} {pre : List A.den → Bool} {f : List A.den → List A.den}
    (hside : ((fn.name == "runtime.NumGoroutine") == false && fn.body.isSome && (A.still false && (Ty.imm true false A).still true)) = true)
    (hA : ([Ty.imm false false A].all fun A => A.still false) = true) (hR : stillL [Ty.imm true false A] = true)
    (hl : ∀ b ∈ loopsOf (bodyOf fn), LoopOK P L b) (hnil : ∀ (n c : Nat) (w : World), Calls P k #[.slice none n c] w fun e w' => e = .returned (.slice none 0 0) ∧ w' = w) (hf0 : f [] = [])
    (h1 : ∀ x, pre x = true → nrm (fnS P C L [.imm true false A] fn (mkArgs [.imm false true A] (x, ()))) = some (.v (.imm true false A) (f x))) :
    CSound P k (CSpec.slp1 [.imm false false A] (fun x => pre x.1) (.imm true false A) fun x => f x.1) ∧ CLocal (CSpec.slp1 [.imm false false A] (fun x => pre x.1) (.imm true false A) fun x => f x.1) := by
  simp only [Bool.and_eq_true, beq_iff_eq] at hside
  obtain ⟨⟨hname, hb⟩, _⟩ := hside
  obtain ⟨body, hb⟩ := Option.isSome_iff_exists.1 hb
  have hl : LoopsOK P L body := by
    refine loopsOK_all ?_
    unfold bodyOf at hl
    rw [hb] at hl
    exact hl
  refine ⟨⟨fun args w => callFunc_enter hf hname hb args w, ?_⟩, slp_local _ _ _ _⟩
  intro g H w vs rvs fr out hI hargs _ he
  simp only [CSpec.slp1, CSpec.slp] at he
  rw [takeE_takeAs] at he
  split at he
  · rename_i xs hxs
    obtain ⟨hp, he⟩ := Tr.chk_some he
    have := Tr.ret_some he
    subst this
    have hargs' := takeAs_rep hI hA hargs hxs
    obtain ⟨x, u⟩ := xs
    obtain ⟨r, rs, rfl, hv, hr2⟩ := hargs'
    have hr2 : rs = [] := hr2
    subst hr2
    have hv' := (VRep_v (by simp)).1 hv
    simp only [TRep, Ty.agg, Ty.sk, Sk.agg, Bool.false_eq_true, if_false] at hv'
    obtain ⟨pv, cap, e1, e2, e3, e4⟩ := hv'
    simp only [List.cons.injEq, and_true] at e1
    subst e1
    cases pv with
    | none =>
      have hx : x = [] := by
        by_cases hx : x = []
        · exact hx
        · obtain ⟨ad, vs, q, _⟩ := e4 hx
          cases q
      subst hx
      refine (hnil _ _ w).mono ?_
      rintro e w' ⟨rfl, rfl⟩
      refine ⟨_, g, rfl, G.le.refl g, hI, ?_⟩
      show VRep g (.v (.imm true false A) (f [])) _
      rw [hf0]
      refine (VRep_v (by simp)).2 (TRep_of_leaf rfl ?_)
      exact ⟨none, 0, rfl, ⟨Nat.le_refl _, by omega⟩, fun h => absurd h (by simp), fun h => absurd rfl h⟩
    | some ad =>
      have hargs2 : argsRep (g.lend H w) (mkArgs [.imm false true A] (x, ())) [.slice (some ad) x.length cap] := by
        refine ⟨_, [], rfl, (VRep_v (by simp)).2 (TRep_of_leaf rfl ?_), rfl⟩
        exact ⟨some ad, cap, rfl, e2, fun _ => by simp, e4⟩
      obtain ⟨H', h5⟩ := nrm_some (h1 x hp)
      obtain ⟨r, h6, h7⟩ := Tr.bind_some h5
      have h7 := Tr.ret_some h7
      refine (fn_sound hC.1 hC.2 hf hb hl (lend_inv hI) hargs2 (fnK_ok h6)).mono ?_
      rintro e w' ⟨rv, g', rfl, hle, hI', hv⟩
      obtain ⟨g1, s1, s2, s3⟩ := sealR_rep [.imm true false A] (r := r) hI' hv
      rw [h7] at s2 s3
      obtain ⟨g'', q1, q2, q3⟩ := lend_back hI (hle.trans s1) s2
      exact ⟨rv, g'', rfl, q1, q2, still_VRep q3 (ofHL_still hR _) s3⟩
  · exact (Tr.fail_some he).elim

end
end Vse

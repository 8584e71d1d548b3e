/- Bytes that are copied, nil or not: the kit's contract of bytes.Clone at nil, the machine's run where it is not nil, as one summary. Nothing here is about one program. -/
import Derived.Test.YtffdkniccaebmaaM6
import Derived.Shelf.Bytes.SlClone
set_option linter.unusedVariables false
namespace Vse
open Go Go.ChangeShapes Go.Proofs Go.Shelf

section
variable {P : Program} {C : Ctx} {L : Loops}

theorem clone_sound (hC : CtxSound P C ∧ CtxLocal C) {k : Nat} {fn : Func} (hf : P.funcs[k]? = some fn) {A : Ty} (hA : A.still true = true) (hA' : A.still false = true)
    (hside : ((fn.name == "runtime.NumGoroutine") == false && fn.body.isSome) = true)
    (hl : ∀ b ∈ loopsOf (bodyOf fn), LoopOK P L b)
    (hn : ∀ (n c : Nat) (w : World), Calls P k #[.slice none n c] w fun e w' => e = .returned (.slice none 0 0) ∧ w' = w)
    {q : Bool} {pre : List A.den → Bool} (h1 : ∀ l : List A.den, pre l = true → nrm (fnS P C L [.imm true false A] fn (mkArgs [.imm q true A] (l, ()))) = some (.v (.imm true false A) l)) :
    CSound P k (CSpec.slp1 [.imm q false A] (fun xs => pre xs.1) (.imm true false A) fun xs => xs.1) ∧ CLocal (CSpec.slp1 [.imm q false A] (fun xs => pre xs.1) (.imm true false A) fun xs => xs.1) := by
  simp only [Bool.and_eq_true, beq_iff_eq] at hside
  obtain ⟨hname, hb⟩ := hside
  obtain ⟨body, hb⟩ := Option.isSome_iff_exists.1 hb
  have hl : LoopsOK P L body := by
    refine loopsOK_all ?_
    unfold bodyOf at hl
    rw [hb] at hl
    exact hl
  have hAs : ([Ty.imm q false A].all fun A => A.still false) = true := by simp [Ty.still, hA']
  refine ⟨⟨fun args w => callFunc_enter hf hname hb args w, ?_⟩, slp_local _ _ _ _⟩
  intro g H w vs rvs fr out hI hargs _ he
  simp only [CSpec.slp1, CSpec.slp] at he
  rw [takeE_takeAs] at he
  split at he
  · rename_i xs hxs
    obtain ⟨hp, he⟩ := Tr.chk_some he
    have := Tr.ret_some he
    subst this
    have hargs' := takeAs_rep hI hAs hargs hxs
    obtain ⟨l, u⟩ := xs
    obtain ⟨r, rs, rfl, hv, hr⟩ := hargs'
    have hr : rs = [] := hr
    subst hr
    have hv := (VRep_v (by simp)).1 hv
    simp only [TRep, Ty.agg, Ty.sk, Sk.agg, Bool.false_eq_true, if_false, Rep, List.cons.injEq, and_true] at hv
    obtain ⟨pv, cap, rfl, hcap, _, hne⟩ := hv
    cases pv with
    | none =>
      have hl0 : l = [] := by
        cases l with
        | nil => rfl
        | cons a t => obtain ⟨_, _, h, _⟩ := hne (by simp); cases h
      subst hl0
      refine (hn _ _ w).mono ?_
      rintro e w' ⟨rfl, rfl⟩
      refine ⟨_, g, rfl, G.le.refl g, hI, ?_⟩
      show VRep g (.v (.imm true false A) []) (.slice none 0 0)
      refine (VRep_v (by simp)).2 ?_
      simp only [TRep, Ty.agg, Ty.sk, Sk.agg, Bool.false_eq_true, if_false, Rep, List.cons.injEq, and_true]
      exact ⟨none, 0, rfl, ⟨Nat.le_refl _, Nat.zero_le _⟩, by simp, fun h => absurd rfl h⟩
    | some ad =>
      have hargs2 : argsRep (g.lend H w) (mkArgs [.imm q true A] (l, ())) [.slice (some ad) l.length cap] := by
        refine ⟨_, _, rfl, (VRep_v (by simp)).2 ?_, rfl⟩
        simp only [TRep, Ty.agg, Ty.sk, Sk.agg, Bool.false_eq_true, if_false, Rep, List.cons.injEq, and_true]
        exact ⟨some ad, cap, rfl, hcap, by simp, hne⟩
      obtain ⟨H', h5⟩ := nrm_some (h1 l hp)
      obtain ⟨r, h6, h7⟩ := Tr.bind_some h5
      have h7 := Tr.ret_some h7
      refine (fn_sound hC.1 hC.2 hf hb hl (lend_inv hI) hargs2 (fnK_ok h6)).mono ?_
      rintro e w' ⟨rv, g', rfl, hle, hI', hv⟩
      obtain ⟨g1, s1, s2, s3⟩ := sealR_rep [.imm true false A] (r := r) hI' hv
      rw [h7] at s2 s3
      obtain ⟨g'', q1, q2, q3⟩ := lend_back hI (hle.trans s1) s2
      exact ⟨rv, g'', rfl, q1, q2, still_VRep q3 (ofHL_still (Rs := [.imm true false A]) (by simp [stillL, Ty.still, hA]) (l, ())) s3⟩
  · exact (Tr.fail_some he).elim
end
end Vse

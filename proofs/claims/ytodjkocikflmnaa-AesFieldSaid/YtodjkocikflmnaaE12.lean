/- The symbolic machine's operations, one behind the other, are the model's. Nothing here is about one program. -/
import Derived.Test.YtodjkocikflmnaaE11
set_option linter.unusedVariables false
namespace Vse
open Go

section
variable {P : Program} {g : G} {H : Heap} {w : World}

theorem core_sound (hI : HInv g H w) {o : Oper} (hcall : isCall o.op = false) {ρ : Operand → Value} {vs : List AV} (ha : argsRep g vs ((opArgs o.op).map ρ)) {fr : Nat}
    (hfr : newOf o.op = 0 ∨ (getE H fr = .free ∧ fr < H.length)) {out : Out}
    (he : (core P o.op vs (ents H (idsOf o.op vs)) (shs H (shsOf o.op vs)) fr).eval = some out) : Done P g H w (execOp ρ o) out := by
  have hmove : ∀ r, argsRep g vs [r] → (c_move vs).eval = some out → Done P g H w (pure (.value r)) out := by
    intro r ha he
    obtain ⟨a, rfl, hr⟩ := argsRep1 ha
    have := Tr.ret_some he; subst this
    exact ⟨.value r, r, w, g, rfl, .inl rfl, G.le.refl g, hI, hr⟩
  cases hop : o.op with
  | move x =>
    rw [hop] at ha he
    unfold execOp; rw [hop]
    exact hmove _ ha he
  | assign x =>
    rw [hop] at ha he
    unfold execOp; rw [hop]
    exact hmove _ ha he
  | pick c a b =>
    rw [hop] at ha he
    unfold execOp; rw [hop]
    obtain ⟨x, y, z, rfl, h1, h2, h3⟩ := argsRep3 ha
    simp only [core] at he
    unfold c_pick at he
    split at he
    · rename_i t x' y' heq
      simp only [List.cons.injEq, and_true] at heq
      obtain ⟨rfl, rfl, rfl⟩ := heq
      have h1 := (VRep_v (by simp)).1 h1
      rw [TRep_bool] at h1
      rcases Tr.ite_some he with ⟨rfl, he⟩ | ⟨rfl, he⟩
      · have := Tr.ret_some he; subst this
        exact ⟨.value (ρ a), _, w, g, by simp [h1, asBool], .inl rfl, G.le.refl g, hI, h2⟩
      · have := Tr.ret_some he; subst this
        exact ⟨.value (ρ b), _, w, g, by simp [h1, asBool], .inl rfl, G.le.refl g, hI, h3⟩
    · exact (Tr.fail_some he).elim
  | alloc t =>
    rw [hop] at ha he hfr
    unfold execOp; rw [hop]
    simp only [core] at he
    unfold c_alloc at he
    split at he
    · rename_i z hz
      have := Tr.ret_some he; subst this
      obtain ⟨_, i, zv, _, _, hzr, hzrun⟩ := zeroT_spec (g := g) hz
      have hf := hfr.resolve_left (by simp [newOf])
      have := do_new (P := P) hI hf.1 hf.2 hzr t
      obtain ⟨nx, rv, w', g', h1, h2⟩ := this
      refine ⟨nx, rv, w', g', ?_, h2⟩
      rw [← h1]
      simp only [Instr.alloc, Sem.run_bind, hzrun w, Result.andThen_ok]
    · exact (Tr.fail_some he).elim
  | box t x =>
    rw [hop] at ha he hfr
    unfold execOp; rw [hop]
    obtain ⟨a, rfl, hr⟩ := argsRep1 ha
    simp only [core, c_box] at he
    split at he
    · rename_i z hz
      have := Tr.ret_some he; subst this
      have hf := hfr.resolve_left (by simp [newOf])
      exact do_new (P := P) hI hf.1 hf.2 (tvOf_spec hz hr) t
    · exact (Tr.fail_some he).elim
  | build t ps =>
    rw [hop] at ha he
    unfold execOp; rw [hop]
    simp only [core] at he
    unfold c_build at he
    split at he
    · rename_i ts hts
      split at he
      · rename_i v hv
        have := Tr.ret_some he; subst this
        have hargs : (opArgs (.build t ps)).map ρ = ps.toList.map fun x => ρ x.2 := by simp [opArgs, Function.comp_def]
        rw [hargs] at ha
        obtain ⟨rv, h1, h2⟩ := build_run hts hv ha (by simp) w
        refine done_val hI (v := rv) ?_ (VRep_val h2)
        rw [← h1]
        congr 2
        apply Array.ext'
        simp only [Array.toList_map]
        rw [List.zip_map']
      · exact (Tr.fail_some he).elim
    · exact (Tr.fail_some he).elim
  | load t x => rw [hop] at ha he; unfold execOp; rw [hop]; exact do_load hI ha he
  | store t x y => rw [hop] at ha he; unfold execOp; rw [hop]; exact do_store hI ha he
  | nilCheck x => rw [hop] at ha he; exact do_nilCheck hI ha hop rfl he
  | binOp op t x y yt =>
    rw [hop] at ha he
    unfold execOp; rw [hop]
    obtain ⟨a, b, rfl, h1, h2⟩ := argsRep2 ha
    simp only [core, c_bin] at he
    split at he
    · rename_i p hp
      split at he
      · rename_i q hq
        obtain ⟨r, hr, he⟩ := Tr.bind_some he
        have := Tr.ret_some he; subst this
        obtain ⟨v, hv1, hv2⟩ := binT_run (x := x) (y := y) hr (tvOf_spec hp h1) (tvOf_spec hq h2) w
        exact done_val hI hv1 (VRep_val hv2)
      · exact (Tr.fail_some he).elim
    · exact (Tr.fail_some he).elim
  | unOp op t x =>
    rw [hop] at ha he
    unfold execOp; rw [hop]
    obtain ⟨a, rfl, h1⟩ := argsRep1 ha
    simp only [core, c_un] at he
    split at he
    · rename_i p hp
      obtain ⟨r, hr, he⟩ := Tr.bind_some he
      have := Tr.ret_some he; subst this
      obtain ⟨v, hv1, hv2⟩ := unT_run hr (tvOf_spec hp h1) w
      exact done_val hI hv1 (VRep_val hv2)
    · exact (Tr.fail_some he).elim
  | convert s d x =>
    rw [hop] at ha he
    unfold execOp; rw [hop]
    obtain ⟨a, rfl, h1⟩ := argsRep1 ha
    simp only [core] at he
    unfold c_convert at he
    split at he
    · rename_i k n heq
      simp only [List.cons.injEq, and_true] at heq
      subst heq
      split at he
      · rename_i ds hs
        split at he
        · rename_i k' hu
          have := Tr.ret_some he; subst this
          have h1 := (VRep_v (by simp)).1 h1
          rw [TRep_int] at h1
          obtain ⟨h1, _⟩ := h1
          refine done_val hI (v := .int k' (k'.wrap n)) ?_ ((VRep_v (by simp)).2 TRep_wrap)
          simp only [convert, Sem.run_bind, run_underlying hs, run_underlying hu, Result.andThen_ok, h1]
          cases ds <;> rfl
        · exact (Tr.fail_some he).elim
      · exact (Tr.fail_some he).elim
    · exact (Tr.fail_some he).elim
  | fieldAddr t x f => rw [hop] at ha he; unfold execOp; rw [hop]; exact do_fieldAddr hI ha he
  | field t x f => rw [hop] at ha he; unfold execOp; rw [hop]; exact do_field hI ha he
  | indexAddr t x y => rw [hop] at ha he; unfold execOp; rw [hop]; exact do_indexAddr hI ha he
  | index t x y => rw [hop] at ha he; unfold execOp; rw [hop]; exact do_index hI ha he
  | extract x i => rw [hop] at ha he; unfold execOp; rw [hop]; exact do_extract hI ha he
  | call c =>
    rw [hop] at ha he hcall
    unfold execOp; rw [hop]
    obtain ⟨callee, args, ats⟩ := c
    cases callee with
    | builtin b =>
      simp only [core] at he
      have := do_builtin (P := P) hI (ats := ats) (t := o.type) (cts := args.map fun | .const _ => true | _ => false) (rs := args.toList.map ρ) ha he
      obtain ⟨nx, rv, w', g', h1, h2⟩ := this
      refine ⟨nx, rv, w', g', ?_, h2⟩
      rw [← h1]
      simp only [resolve, Sem.run_bind, Sem.run_pure, Result.andThen_ok, invoke]
      congr 2
      apply Array.ext'
      simp
    | value f => simp [isCall] at hcall
    | invoke r m => exact (Tr.fail_some he).elim
  | _ => rw [hop] at he; exact (Tr.fail_some he).elim

end
end Vse

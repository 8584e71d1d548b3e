/- The symbolic machine's operations, one behind the other, are the model's. Nothing here is about one program. -/
import Derived.Test.YtodjkocikflmnaaE11s
set_option linter.unusedVariables false
namespace Vse
open Go

section
variable {P : Program} {g : G} {H : Heap} {w : World}

theorem core_sound (hI : HInv g H w) {o : Oper} (hcall : isCall o.op = false) {ρ : Operand → Value} (hlit : ∀ v, ρ (.const v) = v) {vs : List AV} (ha : argsRep g vs ((opArgs o.op).map ρ)) {fr : Nat}
    (hfr : newOf o.op = 0 ∨ (getE H fr = .free ∧ fr < H.length)) {out : Out}
    (he : (core P o.op vs (ents H (idsOf o.op vs)) (shs H (shsOf o.op vs)) fr).eval = some out) : Done P g H w (execOp ρ o) out := by
  have hmove : ∀ r, argsRep g vs [r] → (c_move vs).eval = some out → Done P g H w (pure (.value r)) out := by
    intro r ha he
    obtain ⟨a, rfl, hr⟩ := argsRep1 ha
    have := Tr.ret_some he; subst this
    exact ⟨.value r, r, w, g, rfl, .inl rfl, G.le.refl g, hI, hr⟩
  cases hop : o.op with
  | move x =>
    rw [hop] at ha he
    unfold execOp; rw [hop]
    exact hmove _ ha he
  | assign x =>
    rw [hop] at ha he
    unfold execOp; rw [hop]
    exact hmove _ ha he
  | pick c a b =>
    rw [hop] at ha he
    unfold execOp; rw [hop]
    obtain ⟨x, y, z, rfl, h1, h2, h3⟩ := argsRep3 ha
    simp only [core] at he
    unfold c_pick at he
    split at he
    · rename_i t x' y' heq
      simp only [List.cons.injEq, and_true] at heq
      obtain ⟨rfl, rfl, rfl⟩ := heq
      have h1 := (VRep_v (by simp)).1 h1
      rw [TRep_bool] at h1
      rcases Tr.ite_some he with ⟨rfl, he⟩ | ⟨rfl, he⟩
      · have := Tr.ret_some he; subst this
        exact ⟨.value (ρ a), _, w, g, by simp [h1, asBool], .inl rfl, G.le.refl g, hI, h2⟩
      · have := Tr.ret_some he; subst this
        exact ⟨.value (ρ b), _, w, g, by simp [h1, asBool], .inl rfl, G.le.refl g, hI, h3⟩
    · exact (Tr.fail_some he).elim
  | alloc t =>
    rw [hop] at ha he hfr
    unfold execOp; rw [hop]
    simp only [core] at he
    unfold c_alloc at he
    split at he
    · rename_i z hz
      have := Tr.ret_some he; subst this
      obtain ⟨_, i, zv, _, _, hzr, hzrun⟩ := zeroT_spec (g := g) hz
      have hf := hfr.resolve_left (by simp [newOf])
      have := do_new (P := P) hI hf.1 hf.2 hzr t
      obtain ⟨nx, rv, w', g', h1, h2⟩ := this
      refine ⟨nx, rv, w', g', ?_, h2⟩
      rw [← h1]
      simp only [Instr.alloc, Sem.run_bind, hzrun w, Result.andThen_ok]
    · exact (Tr.fail_some he).elim
  | box t x =>
    rw [hop] at ha he hfr
    unfold execOp; rw [hop]
    obtain ⟨a, rfl, hr⟩ := argsRep1 ha
    simp only [core, c_box] at he
    split at he
    · rename_i z hz
      have := Tr.ret_some he; subst this
      have hf := hfr.resolve_left (by simp [newOf])
      exact do_new (P := P) hI hf.1 hf.2 (tvOf_spec hz hr) t
    · exact (Tr.fail_some he).elim
  | build t ps =>
    rw [hop] at ha he
    unfold execOp; rw [hop]
    simp only [core] at he
    unfold c_build at he
    split at he
    · rename_i ts hts
      split at he
      · rename_i v hv
        have := Tr.ret_some he; subst this
        have hargs : (opArgs (.build t ps)).map ρ = ps.toList.map fun x => ρ x.2 := by simp [opArgs, Function.comp_def]
        rw [hargs] at ha
        obtain ⟨rv, h1, h2⟩ := build_run hts hv ha (by simp) w
        refine done_val hI (v := rv) ?_ (VRep_val h2)
        rw [← h1]
        congr 2
        apply Array.ext'
        simp only [Array.toList_map]
        rw [List.zip_map']
      · exact (Tr.fail_some he).elim
    · exact (Tr.fail_some he).elim
  | load t x => rw [hop] at ha he; unfold execOp; rw [hop]; exact do_load hI ha he
  | store t x y => rw [hop] at ha he; unfold execOp; rw [hop]; exact do_store hI ha he
  | nilCheck x => rw [hop] at ha he; exact do_nilCheck hI ha hop rfl he
  | binOp op t x y yt =>
    rw [hop] at ha he
    unfold execOp; rw [hop]
    obtain ⟨a, b, rfl, h1, h2⟩ := argsRep2 ha
    simp only [core, c_bin] at he
    split at he
    · rename_i r hr
      split at he
      · rename_i hs
        have := Tr.ret_some he; subst this
        obtain ⟨v, hv1, rfl⟩ := do_nilEq (P := P) (x := x) (y := y) hI h1 h2 hr hs
        exact done_val hI hv1 ((VRep_v (by simp)).2 (TRep_bool.2 rfl))
      · exact (Tr.fail_some he).elim
    split at he
    · rename_i r hr
      split at he
      · rename_i hs
        have := Tr.ret_some he; subst this
        obtain ⟨v, hv1, rfl⟩ := do_nilPtr (P := P) (x := x) (y := y) (w := w) h1 h2 hr hs
        exact done_val hI hv1 ((VRep_v (by simp)).2 (TRep_bool.2 rfl))
      · exact (Tr.fail_some he).elim
    split at he
    · rename_i p hp
      split at he
      · rename_i q hq
        obtain ⟨r, hr, he⟩ := Tr.bind_some he
        have := Tr.ret_some he; subst this
        obtain ⟨v, hv1, hv2⟩ := binT_run (x := x) (y := y) hr (tvOf_spec hp h1) (tvOf_spec hq h2) w
        exact done_val hI hv1 (VRep_val hv2)
      · exact (Tr.fail_some he).elim
    · exact (Tr.fail_some he).elim
  | unOp op t x =>
    rw [hop] at ha he
    unfold execOp; rw [hop]
    obtain ⟨a, rfl, h1⟩ := argsRep1 ha
    simp only [core, c_un] at he
    split at he
    · rename_i p hp
      obtain ⟨r, hr, he⟩ := Tr.bind_some he
      have := Tr.ret_some he; subst this
      obtain ⟨v, hv1, hv2⟩ := unT_run hr (tvOf_spec hp h1) w
      exact done_val hI hv1 (VRep_val hv2)
    · exact (Tr.fail_some he).elim
  | convert s d x =>
    rw [hop] at ha he
    unfold execOp; rw [hop]
    obtain ⟨a, rfl, h1⟩ := argsRep1 ha
    simp only [core] at he
    unfold c_convert at he
    split at he
    · rename_i s' heq
      simp only [List.cons.injEq, and_true] at heq
      subst heq
      split at he
      · rename_i hu
        split at he
        · rename_i hb
          have := Tr.ret_some he; subst this
          have h1 := (VRep_v (by simp)).1 h1
          rw [TRep_str] at h1
          obtain ⟨h1, hsz⟩ := h1
          have hd := do_bytes hI hsz hu hb
          rw [← h1] at hd
          exact hd
        · exact (Tr.fail_some he).elim
      · exact (Tr.fail_some he).elim
    · rename_i e k u heq
      simp only [List.cons.injEq, and_true] at heq
      subst heq
      simp only [shsOf, shs] at he
      split at he
      · rename_i k' sk n hE
        simp only [List.cons.injEq, and_true] at hE
        split at he
        · rename_i hc
          have := Tr.ret_some he; subst this
          simp only [Bool.and_eq_true, decide_eq_true_eq, beq_iff_eq] at hc
          obtain ⟨⟨⟨rfl, hn⟩, rfl⟩, hb⟩ := hc
          exact do_mark hI h1 hE hn hb
        · exact (Tr.fail_some he).elim
      · exact (Tr.fail_some he).elim
    · rename_i q f l heq
      simp only [List.cons.injEq, and_true] at heq
      subst heq
      split at he
      · rename_i hd
        split at he
        · rename_i hb
          have := Tr.ret_some he; subst this
          obtain ⟨h2, h3⟩ := do_str hI h1 hb hd
          exact done_val hI (v := .string (bytesStr l)) h2 ((VRep_v (by simp)).2 (TRep_str.2 ⟨rfl, h3⟩))
        · exact (Tr.fail_some he).elim
      · exact (Tr.fail_some he).elim
    · rename_i k n heq
      simp only [List.cons.injEq, and_true] at heq
      subst heq
      split at he
      · rename_i ds hs
        split at he
        · rename_i k' hu
          have := Tr.ret_some he; subst this
          have h1 := (VRep_v (by simp)).1 h1
          rw [TRep_int] at h1
          obtain ⟨h1, _⟩ := h1
          refine done_val hI (v := .int k' (k'.wrap n)) ?_ ((VRep_v (by simp)).2 TRep_wrap)
          simp only [convert, Sem.run_bind, run_underlying hs, run_underlying hu, Result.andThen_ok, h1]
          cases ds <;> rfl
        · exact (Tr.fail_some he).elim
      · exact (Tr.fail_some he).elim
    · exact (Tr.fail_some he).elim
  | fieldAddr t x f => rw [hop] at ha he; unfold execOp; rw [hop]; exact do_fieldAddr hI ha he
  | field t x f => rw [hop] at ha he; unfold execOp; rw [hop]; exact do_field hI ha he
  | indexAddr t x y => rw [hop] at ha he; unfold execOp; rw [hop]; exact do_indexAddr hI ha he
  | index t x y => rw [hop] at ha he; unfold execOp; rw [hop]; exact do_index hI ha he
  | sliceToArrayPointer t x => rw [hop] at ha he; unfold execOp; rw [hop]; exact do_s2ap hI ha he
  | extract x i => rw [hop] at ha he; unfold execOp; rw [hop]; exact do_extract hI ha he
  | buildSlice t n ps =>
    rw [hop] at ha he hfr
    unfold execOp; rw [hop]
    have hargs : (opArgs (.buildSlice t n ps)).map ρ = ps.toList.map fun x => ρ x.2 := by simp [opArgs, Function.comp_def]
    rw [hargs] at ha
    exact do_buildSlice hI ha (hfr.resolve_left (by simp [newOf])) he
  | makeSlice t l c =>
    rw [hop] at ha he hfr
    unfold execOp; rw [hop]
    exact do_make hI ha (hfr.resolve_left (by simp [newOf])) he
  | slice t x lo hi mx =>
    rw [hop] at ha he
    unfold execOp; rw [hop]
    simp only [core] at he
    cases mx with
    | none =>
      refine do_slice hI (lo := lo.map ρ) (hi := hi.map ρ) (pos := posLo lo) (fun hp => ?_) (by cases lo <;> rfl) (by cases hi <;> rfl) ?_ he
      · unfold posLo at hp
        split at hp
        · rename_i k n
          exact ⟨k, n, by simp only [Option.map_some, hlit], by simpa using hp⟩
        · cases hp
      · cases lo <;> cases hi <;> exact ha
    | some m =>
      simp only [Option.isSome_some] at he
      exact (Tr.fail_some (by unfold c_slice at he; exact he)).elim
  | call c =>
    rw [hop] at ha he hcall
    unfold execOp; rw [hop]
    obtain ⟨callee, args, ats⟩ := c
    cases callee with
    | builtin b =>
      have hres : ∀ {out : Out}, Done P g H w (builtin b ats o.type (args.map fun | .const _ => true | _ => false) (args.toList.map ρ).toArray) out → Done P g H w (execOp ρ o) out := by
        rintro out ⟨nx, rv, w', g', h1, h2⟩
        refine ⟨nx, rv, w', g', ?_, h2⟩
        rw [← h1]
        unfold execOp; rw [hop]
        simp only [resolve, Sem.run_bind, Sem.run_pure, Result.andThen_ok, invoke]
        congr 2
        apply Array.ext'
        simp
      unfold execOp at hres
      rw [hop] at hres
      by_cases hlen : b = .len
      · subst hlen
        simp only [core] at he
        split at he
        · rename_i t ht
          exact hres (do_len hI ht (c := ⟨.builtin .len, args, ats⟩) ha ⟨args, ats, rfl⟩ he)
        · exact (Tr.fail_some he).elim
      by_cases happ : b = .append
      · subst happ
        simp only [core] at he
        split at he
        · rename_i t t2 ht
          have hat : ats = #[t, t2] := by
            apply Array.ext'; simpa using ht
          subst hat
          have hf := hfr.resolve_left (by rw [hop]; simp [newOf])
          have hid : idsOf (.call ⟨.builtin .append, args, #[t, t2]⟩) vs = appIds vs := by
            unfold idsOf appIds
            rcases vs with _ | ⟨a, _ | ⟨b, _ | ⟨c, l⟩⟩⟩ <;> rfl
          rw [hid] at he
          exact hres (do_append hI ha hf he)
        · exact (Tr.fail_some he).elim
      by_cases hcop : b = .copy
      · subst hcop
        simp only [core] at he
        split at he
        · rename_i t ht
          have hid : idsOf (.call ⟨.builtin .copy, args, ats⟩) vs = appIds vs := by
            unfold idsOf appIds
            rcases vs with _ | ⟨a, _ | ⟨b, _ | ⟨c, l⟩⟩⟩ <;> rfl
          rw [hid] at he
          exact hres (do_copy hI ht ha he)
        · exact (Tr.fail_some he).elim
      have he : (c_builtin b vs).eval = some out := by
        cases b <;> first | exact he | exact absurd rfl hlen | exact absurd rfl happ | exact absurd rfl hcop
      have := do_builtin (P := P) hI (ats := ats) (t := o.type) (cts := args.map fun | .const _ => true | _ => false) (rs := args.toList.map ρ) ha he
      obtain ⟨nx, rv, w', g', h1, h2⟩ := this
      refine ⟨nx, rv, w', g', ?_, h2⟩
      rw [← h1]
      simp only [resolve, Sem.run_bind, Sem.run_pure, Result.andThen_ok, invoke]
      congr 2
      apply Array.ext'
      simp
    | value f => simp [isCall] at hcall
    | invoke r m => exact (Tr.fail_some he).elim
  | _ => rw [hop] at he; exact (Tr.fail_some he).elim

end
end Vse

/- Counters (layer 4, ctr): Flip's loop over what made tells, whole. -/
import Derived.Test.YtlkddajnebjlcaaL22
set_option linter.unusedVariables false
set_option maxRecDepth 100000
namespace Go.Proofs.Ytlkddajnebjlcaa.Ctr
open Go Vse Go.Proofs Gen

/-- behind the loop: slot 7 alone -/
def eZ : List AV := (encS [7] [.ptr 3 []] [] 32 ((), ()) ()).env
theorem eZ_shape : eZ = List.replicate 7 .und ++ (.v (.ptr 3 []) () :: List.replicate 24 .und) := by kernel_rfl
theorem eZ_get (i : Nat) (h : i ≠ 7) : getV eZ i = .und ∨ getV eZ i = .none := by
  have rep : ∀ n j, getV (List.replicate n AV.und) j = .und ∨ getV (List.replicate n AV.und) j = .none := by
    intro n
    induction n with
    | zero => intro j; exact .inr rfl
    | succ n ih => intro j; cases j with
      | zero => exact .inl rfl
      | succ j => exact ih j
  rw [eZ_shape]
  match i, h with
  | 0, _ => exact .inl rfl
  | 1, _ => exact .inl rfl
  | 2, _ => exact .inl rfl
  | 3, _ => exact .inl rfl
  | 4, _ => exact .inl rfl
  | 5, _ => exact .inl rfl
  | 6, _ => exact .inl rfl
  | 7, h => exact absurd rfl h
  | j + 8, _ => exact rep 24 j

theorem eZ_rep {g g' : G} {tm : Array Value} {ds ds' : List Deferred} (h : EnvRep g eZ { tmps := tm, defers := ds }) (h7 : VRep g' (.v (.ptr 3 []) ()) (tm.getD 7 undef)) : EnvRep g' eZ { tmps := tm, defers := ds' } := by
  refine ⟨h.1, fun i => ?_⟩
  by_cases e7 : i = 7
  · subst e7; exact h7
  · have := h.2 i
    rcases eZ_get i e7 with e | e
    · rw [e]; trivial
    · rw [e] at this ⊢; exact this

/-- the loop: what is there as it begins, and as it ends -/
noncomputable def rngR (E : En) (N : Nx) (st : St) : Tr (Ex × St) :=
  if heapIs SL.E0 st.heap then
    match renTo SL.E0 [.all 3 u8] [5, 7, 14] [.ptr 2 [], .ptr 3 [], fM 4 5] eL 32 st with
    | some (_, (k, a, b, _, k', a', out, _)) =>
      .chk (decide (out = []) && decide (0 < b.length ∧ b.length ≤ 1000000))
        (.ret (.exit 0, encS [7] [.ptr 3 []] eL 32 ((), ()) (k, a, b, (), k', atB N a' ((b.length - 1) / 16), outs (E k' (atB N a' ((b.length - 1) / 16))) b (outB E N k' a' b ((b.length - 1) / 16)) ((b.length - 1) % 16 + 1), ())))
    | none => .fail
  else .fail

theorem chk_some {α : Type} {c : Bool} {t : Tr α} {x : α} (h : (Tr.chk c t).eval = some x) : c = true ∧ t.eval = some x := by
  cases c with
  | true => exact ⟨rfl, (chk_eval rfl t).symm.trans h⟩
  | false => cases h

theorem at_end {E : En} {N : Nx} {k' a' b : List Int} {q j : Nat} (hj : j < 16) (h : (outs (E k' (atB N a' q)) b (outB E N k' a' b q) (j + 1)).length = b.length) : q = (b.length - 1) / 16 ∧ j = (b.length - 1) % 16 := by
  rw [outs_len, outB_len] at h
  omega

theorem rng_ok {E : En} {N : Nx} (hC : CtxSound Try.prog (CI E N) ∧ CtxLocal (CI E N)) : RunOK Try.prog (rngR E N) (.rangeFunc (.tmp 14) #[15] asgF bdyF) := by
  intro g st st' a w x Q hs hm he hn
  unfold rngR at he
  split at he
  case isFalse => exact (Tr.fail_some he).elim
  rename_i hheap
  split at he
  case h_2 => exact (Tr.fail_some he).elim
  rename_i u k a0 b uu k' a' out u2 hren
  obtain ⟨hc, he⟩ := chk_some he
  have he := Tr.ret_some he
  simp only [Prod.mk.injEq] at he
  obtain ⟨rfl, rfl⟩ := he
  simp only [Bool.and_eq_true, decide_eq_true_eq] at hc
  obtain ⟨rfl, hin, hsm⟩ := hc
  have hisY : ∀ t, isY (g.sh t) SL.E0[t]? := fun t => by rw [hs.heap.sh]; exact heapIs_isY hheap t
  have hb : ∀ i, i < 6 → ∃ s, g.sh i = .box s := fun i hi => by
    have := hisY i
    match i, hi, this with
    | 0, _, h => exact h
    | 1, _, h => exact h
    | 2, _, h => exact h
    | 3, _, h => exact h
    | 4, _, h => exact h
    | 5, _, h => exact h
  refine wpIn_rangeFunc fun fn _ => ?_
  let o : Loop := { state := .ready, pending := none, fn, tmps := a.tmps, params := #[15], assign := asgF, body := bdyF, defers := w.heap.size }
  have hgo := begin_going hs.heap o
  let g0 : G := { g with ext := (g.ext.1, []) }
  have hc0 : g.leC g0 := ⟨fun b _ _ _ h => h, fun b _ _ _ h => h, fun e => .same rfl rfl rfl⟩
  have he0 : EnvRep g0 st.env { a with defers := [] } := (EnvRep.c hc0 (a := { a with defers := [] }) ⟨hs.env.1, hs.env.2⟩)
  obtain ⟨g3, hgo3, he3⟩ := Going.ren hgo rfl he0 rfl hisY hren
  have hgo3 : Going g0 g3 (hL k a0 b k' a' []) (laid2 w o) (w.heap.size + 1) w.heap.size o := hgo3
  have hsh : ∀ i, i < 6 → ∃ s, g3.sh i = .box s := fun i hi => by
    have := hgo3.inv.sh i
    match i, hi, this with
    | 0, _, h => exact ⟨_, h⟩
    | 1, _, h => exact ⟨_, h⟩
    | 2, _, h => exact ⟨_, h⟩
    | 3, _, h => exact ⟨_, h⟩
    | 4, _, h => exact ⟨_, h⟩
    | 5, _, h => exact ⟨_, h⟩
  have mv : ∀ i, i < 6 → ∀ g' : G, g0.leD g' → (∃ s, g'.sh i = .box s) → ∀ v, VRep g3 (.v (.ptr i []) ()) v → VRep g' (.v (.ptr i []) ()) v := by
    intro i hi g' hg' hs' v hv
    obtain ⟨s0, e0⟩ := hb i hi
    obtain ⟨s3, e3⟩ := hsh i hi
    obtain ⟨s', e'⟩ := hs'
    exact ptr_move hgo3.le hg' e0 e3 e' hv
  have r5 : VRep g3 (.v (.ptr 2 []) ()) (a.tmps.getD 5 undef) := he3.2 5
  have r7 : VRep g3 (.v (.ptr 3 []) ()) (a.tmps.getD 7 undef) := he3.2 7
  have r14 : VRep g3 (.v (fM 4 5) ((), (), ())) (a.tmps.getD 14 undef) := he3.2 14
  have hsize : a.tmps.size = 32 := he3.1.symm.trans (by kernel_rfl)
  have hS : Start g0 o := ⟨rfl, hisY, hb 4 (by omega), hb 5 (by omega), rfl, rfl, rfl, hsize, mv 2 (by omega) g0 (G.leD.refl _) (hb 2 (by omega)) _ r5, mv 3 (by omega) g0 (G.leD.refl _) (hb 3 (by omega)) _ r7⟩
  obtain ⟨v1, v2, hv14, h1, h2⟩ : ∃ v1 v2, a.tmps.getD 14 undef = .func (.func kM) #[] #[v1, v2] ∧ VRep g3 (.v (.ptr 4 []) ()) v1 ∧ VRep g3 (.v (.ptr 5 []) ()) v2 := by
    have := (VRep_v (by simp)).1 r14
    simp only [TRep, Ty.agg, Ty.sk, Sk.agg, Bool.false_eq_true, if_false] at this
    obtain ⟨vs, hv, v1, r, e1, p1, v2, r2, e2, p2, e3⟩ := this
    have e3 : r2 = [] := e3
    subst e3
    subst e2
    simp only [List.cons.injEq, and_true] at hv
    refine ⟨v1, v2, ?_, (VRep_v (by simp)).2 ?_, (VRep_v (by simp)).2 ?_⟩
    · rw [hv]
      have : vs = #[v1, v2] := by apply Array.ext'; rw [e1]
      rw [this]
    · simpa only [TRep, Ty.agg, Ty.sk, Sk.agg, Bool.false_eq_true, if_false] using p1
    · simpa only [TRep, Ty.agg, Ty.sk, Sk.agg, Bool.false_eq_true, if_false] using p2
  have hev : a.eval (.tmp 14) = .func (.func kM) #[] #[v1, v2] := hv14
  refine ⟨w.heap.size + 1, [mkD w.heap.size], laid2 w o, { target := .fn (.func kM) #[v1, v2], args := #[.func (.yield (w.heap.size + 1)) #[] #[]] }, laid2 w o, kM, #[.func (.yield (w.heap.size + 1)) #[] #[], v1, v2], laid2 w o, ?_, ?_, ?_, ?_, ?_, ?_⟩
  · exact run_enterLoop_outer _ _ _ _ _
  · simp only [resolve, hev]
    simp [go_sem]
  · intro f' _; trivial
  · have := callFunc_enter (P := Try.prog) (c := cI) Try.func56 (by kernel_rfl) (by kernel_rfl) #[.func (.yield (w.heap.size + 1)) #[] #[], v1, v2] (laid2 w o)
    simp [invoke, go_sem, this]
  · intro h; cases h
  · refine made_calls hC hS rfl rfl hsm hin hgo3 h1 h2 fun q j hj hlen g4 w4 v hg4 => ?_
    obtain ⟨rfl, rfl⟩ := at_end hj hlen
    refine ⟨_, _, run_endLoop hg4.row (by simp), ?_⟩
    refine wpIn_exit ?_
    have hg5 := hg4.put { o with state := .exhausted, pending := some (.exit 0) }
    obtain ⟨p1, p2, p3, p4⟩ := end_going hs.heap (Nat.le_refl _) (Nat.le_succ _) hm hg5
    have hs4 : ∃ s, g4.sh 3 = .box s := ⟨_, hg4.inv.sh 3⟩
    have r7' := mv 3 (by omega) g4 hg4.le hs4 _ r7
    have e7 : EnvRep g3 eZ { tmps := a.tmps, defers := [] } := keepE_rep he3 [7]
    refine hn _ _ _ p1 ⟨eZ_rep e7 (VRep_monoC p4 r7'), p2, ?_⟩ p3
    show [mkD w.heap.size] ++ a.defers = mkD w.heap.size :: g.ext.2
    rw [hs.defers]; rfl

end Go.Proofs.Ytlkddajnebjlcaa.Ctr

/- The symbolic machine goes through a function's code as the model does. Nothing here is about one program. -/
import Derived.Test.YtodjkocikflmnaaE18
set_option linter.unusedVariables false
namespace Vse
open Go

def Ex.out : Ex → Exit
  | .normal => .normal
  | .exit i => .exit i
  | .ret => .ret

section
variable {P : Program} {C : Ctx} {L : Loops}

/-- a loop's summary must be what the loop does -/
def LoopOK (P : Program) (L : Loops) (c : Code) : Prop :=
  ∀ i, firstReg c = some i → ∀ g st a w x st' Q, SRep g st a w → (L i st).eval = some (x, st') → (∀ g' a' w', g.le g' → SRep g' st' a' w' → Q x.out a' w') → (Code.loop c).wp P Q a w

def LoopsOK (P : Program) (L : Loops) : Code → Prop
  | .seq a b => LoopsOK P L a ∧ LoopsOK P L b
  | .cond _ a b => LoopsOK P L a ∧ LoopsOK P L b
  | .block _ c => LoopsOK P L c
  | .loop c => LoopOK P L c
  | _ => True

theorem code_sound (hC : CtxSound P C) (hL : CtxLocal C) : ∀ (c : Code), LoopsOK P L c → ∀ {g : G} {st st' : St} {a : Act} {w : World} {x : Ex} {Q : Exit → Act → World → Prop},
    SRep g st a w → (run P C L c st).eval = some (x, st') → (∀ g' a' w', g.le g' → SRep g' st' a' w' → Q x.out a' w') → c.wp P Q a w := by
  intro c
  induction c with
  | skip =>
    intro _ g st st' a w x Q hs he hn
    have := Tr.ret_some he
    simp only [Prod.mk.injEq] at this
    obtain ⟨rfl, rfl⟩ := this
    exact wp_skip (hn g a w (G.le.refl g) hs)
  | label l =>
    intro _ g st st' a w x Q hs he hn
    have := Tr.ret_some he
    simp only [Prod.mk.injEq] at this
    obtain ⟨rfl, rfl⟩ := this
    exact wp_label (hn g a w (G.le.refl g) hs)
  | exit id =>
    intro _ g st st' a w x Q hs he hn
    have := Tr.ret_some he
    simp only [Prod.mk.injEq] at this
    obtain ⟨rfl, rfl⟩ := this
    exact wp_exit (hn g a w (G.le.refl g) hs)
  | ret =>
    intro _ g st st' a w x Q hs he hn
    have := Tr.ret_some he
    simp only [Prod.mk.injEq] at this
    obtain ⟨rfl, rfl⟩ := this
    exact wp_ret (hn g a w (G.le.refl g) hs)
  | region id ops draw =>
    intro _ g st st' a w x Q hs he hn
    cases draw with
    | false =>
      simp only [run] at he
      obtain ⟨s, h1, h2⟩ := Tr.bind_some he
      have := Tr.ret_some h2
      simp only [Prod.mk.injEq] at this
      obtain ⟨rfl, rfl⟩ := this
      exact region_sound hC hs h1 hn
    | true =>
      simp only [run] at he
      obtain ⟨s, h1, h2⟩ := Tr.bind_some he
      split at h2
      · rename_i hc
        simp only [Bool.and_eq_true] at hc
        have := Tr.ret_some h2
        simp only [Prod.mk.injEq] at this
        obtain ⟨rfl, rfl⟩ := this
        exact draw_sound hC hL hs h1 hc.1 hc.2 hn
      · exact (Tr.fail_some h2).elim
  | seq p q ihp ihq =>
    intro hl g st st' a w x Q hs he hn
    obtain ⟨r, h1, h2⟩ := Tr.bind_some (show ((run P C L p st).bind fun r => match r with | (.normal, s) => run P C L q s | r => .ret r).eval = _ from he)
    obtain ⟨y, s⟩ := r
    refine wp_seq (ihp hl.1 hs h1 fun g' a' w' hle hs' => ?_)
    cases y with
    | normal =>
      simp only [Ex.out, Exit.then]
      exact ihq hl.2 hs' h2 fun g'' a'' w'' hle' hs'' => hn g'' a'' w'' (hle.trans hle') hs''
    | exit i =>
      have := Tr.ret_some h2
      simp only [Prod.mk.injEq] at this
      obtain ⟨rfl, rfl⟩ := this
      exact hn g' a' w' hle hs'
    | ret =>
      have := Tr.ret_some h2
      simp only [Prod.mk.injEq] at this
      obtain ⟨rfl, rfl⟩ := this
      exact hn g' a' w' hle hs'
  | cond o p q ihp ihq =>
    intro hl g st st' a w x Q hs he hn
    simp only [run] at he
    split at he
    · rename_i t ht
      have hv := ev_rep hs.env o
      rw [ht] at hv
      have hv := (VRep_v (by simp)).1 hv
      rw [TRep_bool] at hv
      rcases Tr.ite_some he with ⟨rfl, he⟩ | ⟨rfl, he⟩
      · exact wp_cond_true hv (ihp hl.1 hs he hn)
      · exact wp_cond_false hv (ihq hl.2 hs he hn)
    · exact (Tr.fail_some he).elim
  | block id p ihp =>
    intro hl g st st' a w x Q hs he hn
    obtain ⟨r, h1, h2⟩ := Tr.bind_some (show ((run P C L p st).bind fun r => match r with | (.exit i, s) => if i = id then .ret (.normal, s) else .ret (.exit i, s) | r => .ret r).eval = _ from he)
    obtain ⟨y, s⟩ := r
    refine wp_block (ihp hl hs h1 fun g' a' w' hle hs' => ?_)
    cases y with
    | normal =>
      have := Tr.ret_some h2
      simp only [Prod.mk.injEq] at this
      obtain ⟨rfl, rfl⟩ := this
      exact hn g' a' w' hle hs'
    | exit i =>
      simp only [Ex.out, Exit.inBlock]
      simp only at h2
      split at h2
      · rename_i hi
        have := Tr.ret_some h2
        simp only [Prod.mk.injEq] at this
        obtain ⟨rfl, rfl⟩ := this
        rw [if_pos hi]
        exact hn g' a' w' hle hs'
      · rename_i hi
        have := Tr.ret_some h2
        simp only [Prod.mk.injEq] at this
        obtain ⟨rfl, rfl⟩ := this
        rw [if_neg hi]
        exact hn g' a' w' hle hs'
    | ret =>
      have := Tr.ret_some h2
      simp only [Prod.mk.injEq] at this
      obtain ⟨rfl, rfl⟩ := this
      exact hn g' a' w' hle hs'
  | loop p _ =>
    intro hl g st st' a w x Q hs he hn
    simp only [run] at he
    split at he
    · rename_i i hi
      exact hl i hi g st a w x st' Q hs he hn
    · exact (Tr.fail_some he).elim
  | _ => intro _ g st st' a w x Q hs he hn; exact (Tr.fail_some he).elim

/-! functions -/

theorem results_rep {g : G} {st : St} {a : Act} {w : World} (hs : SRep g st a w) : ∀ {rs : List ResultVar} {avs : List AV}, resAVs P st rs = some avs →
    ∃ vs : List Value, (rs.mapM fun (r : ResultVar) => match r with | .tmp t => pure (a.tmps.getD t undef) | .cell c t => do loadVar t (← asAddr (a.tmps.getD c undef))).run P w = .ok vs w ∧ argsRep g avs vs
  | [], avs, h => by
    simp only [resAVs, Option.some.injEq] at h
    subst h
    exact ⟨[], rfl, rfl⟩
  | r :: rs, avs, h => by
    simp only [resAVs] at h
    split at h
    · rename_i av hav
      split at h
      · rename_i l hl
        simp only [Option.some.injEq] at h
        subst h
        obtain ⟨vs, h1, h2⟩ := results_rep hs hl
        have one : ∃ v, (match r with | .tmp t => pure (a.tmps.getD t undef) | .cell c t => do loadVar t (← asAddr (a.tmps.getD c undef)) : Sem Value).run P w = .ok v w ∧ VRep g av v := by
          cases r with
          | tmp t =>
            simp only [resAV, Option.some.injEq] at hav
            subst hav
            exact ⟨_, rfl, hs.env.2 t⟩
          | cell c t =>
            simp only [resAV] at hav
            split at hav
            · rename_i e d hc
              split at hav
              · rename_i T x hE
                split at hav
                · rename_i hsk
                  simp only [Option.some.injEq] at hav
                  subst hav
                  have hv := hs.env.2 c
                  rw [hc] at hv
                  obtain ⟨b, off, s, cs, tt, fz, q1, q2, q3, q4, q5, q6⟩ := ptr_spec hs.heap hv hE
                  rw [poff_nil] at q2
                  simp only [Option.some.injEq, Prod.mk.injEq] at q2
                  obtain ⟨rfl, rfl⟩ := q2
                  obtain ⟨v, h1, h2⟩ := run_loadVar_cells hsk w b 0 cs.toList (Rep_length _ _ _ q6) (fun i v hi => by
                    simp only [World.cell?, q4, Option.isSome_none, Bool.false_eq_true, if_false, Nat.zero_add]
                    simpa using hi)
                  refine ⟨v, ?_, (VRep_v (Rep_ne q6)).2 (TRep_of_load q6 h2)⟩
                  simp only [q3, asAddr, pure_bind, h1]
                · cases hav
              · cases hav
            · cases hav
        obtain ⟨v, h3, h4⟩ := one
        refine ⟨v :: vs, ?_, ⟨v, vs, rfl, h4, h2⟩⟩
        simp only [List.mapM_cons, Sem.run_bind, h3, h1, Result.andThen_ok, Sem.run_pure]
      · cases h
    · cases h

theorem resT_rep {g : G} {st : St} {a : Act} {w : World} {fn : Func} {av : AV} (hs : SRep g st a w) (h : resT P fn st = some av) :
    ∃ v, (results fn a.tmps).run P w = .ok v w ∧ VRep g av v := by
  unfold resT at h
  have hres : ∀ {avs}, resAVs P st fn.results.toList = some avs → ∃ vs : List Value, (results fn a.tmps).run P w = .ok (if h : vs.length = 1 then vs[0] else .tuple vs.toArray) w ∧ argsRep g avs vs := by
    intro avs hav
    obtain ⟨vs, h1, h2⟩ := results_rep hs hav
    refine ⟨vs, ?_, h2⟩
    unfold results
    simp only [Sem.run_bind, Array.mapM_eq_mapM_toList, Sem.run_map, Sem.run_pure]
    refine (congrArg (fun r : Result (List Value) => (r.andThen fun a w' => Result.ok a.toArray w').andThen fun a w' => Result.ok (if h : a.size = 1 then a[0] else Value.tuple a) w') h1).trans ?_
    simp [Result.andThen_ok]
  split at h
  · rename_i x hx
    simp only [Option.some.injEq] at h
    subst h
    obtain ⟨vs, h1, h2⟩ := hres hx
    obtain ⟨v, r, rfl, h3, h4⟩ := h2
    simp only [argsRep] at h4
    subst h4
    exact ⟨v, by simpa using h1, h3⟩
  · rename_i l hne hl
    split at h
    · rename_i ts hts
      simp only [Option.some.injEq] at h
      subst h
      obtain ⟨vs, h1, h2⟩ := hres hl
      obtain ⟨h3, h4⟩ := tvsOf_rep hts h2
      have hlen : vs.length ≠ 1 := by
        intro h1
        obtain ⟨v, rfl⟩ := List.length_eq_one_iff.1 h1
        cases l with
        | nil => cases h2
        | cons x l =>
          obtain ⟨v', r, e1, _, e3⟩ := h2
          simp only [List.cons.injEq] at e1
          obtain ⟨rfl, rfl⟩ := e1
          cases l with
          | nil => exact hne x rfl
          | cons y l => obtain ⟨_, _, e, _⟩ := e3; cases e
      rw [dif_neg hlen] at h1
      exact ⟨_, h1, vs.toArray, rfl, by simpa using h3⟩
    · cases h
  · cases h

theorem argsRep_length {g : G} : ∀ {vs : List AV} {rs : List Value}, argsRep g vs rs → vs.length = rs.length
  | [], rs, h => by simp only [argsRep] at h; subst h; rfl
  | a :: vs, rs, ⟨v, r, h1, h2, h3⟩ => by subst h1; simp [argsRep_length h3]

theorem argsRep_get {g : G} : ∀ {vs : List AV} {rs : List Value}, argsRep g vs rs → ∀ i, VRep g (getV vs i) (rs.getD i undef)
  | [], rs, h, i => by simp only [argsRep] at h; subst h; exact ⟨#[], rfl, rfl⟩
  | a :: vs, rs, ⟨v, r, h1, h2, h3⟩, 0 => by subst h1; exact h2
  | a :: vs, rs, ⟨v, r, h1, h2, h3⟩, i + 1 => by subst h1; simpa [getV] using argsRep_get h3 i

theorem argsRep_none (g : G) : ∀ n, argsRep g (List.replicate n AV.none) (List.replicate n undef)
  | 0 => rfl
  | n + 1 => ⟨undef, List.replicate n undef, rfl, ⟨#[], rfl, rfl⟩, argsRep_none g n⟩

/-- a function's body, gone through -/
theorem fn_sound (hC : CtxSound P C) (hLc : CtxLocal C) {k : Nat} {fn : Func} (hf : P.funcs[k]? = some fn) {c : Code} (hb : fn.body = some c) (hl : LoopsOK P L c)
    {g : G} {H H' : Heap} {w : World} {vs : List AV} {rvs : List Value} {v : AV} (hI : HInv g H w) (hargs : argsRep g vs rvs)
    (he : (fnT P C L fn vs H).eval = some (v, H')) :
    Calls P k rvs.toArray w fun e w' => ∃ rv g', e = .returned rv ∧ g.le g' ∧ HInv g' H' w' ∧ VRep g' v rv := by
  refine calls_of_wp hf hb ?_
  unfold fnT at he
  rw [hb] at he
  obtain ⟨r, h1, h2⟩ := Tr.bind_some he
  obtain ⟨x, s⟩ := r
  have hlen := argsRep_length hargs
  have hs : SRep g (begin_ fn vs H) { tmps := rvs.toArray ++ Array.replicate (fn.ntmps - rvs.toArray.size) undef, defers := [] } w := by
    refine ⟨?_, hI, rfl⟩
    have hall := argsRep_append hargs (argsRep_none g (fn.ntmps - vs.length))
    refine ⟨by simp [begin_, hlen], fun i => ?_⟩
    have := argsRep_get hall i
    simp only [begin_]
    have e : (rvs.toArray ++ Array.replicate (fn.ntmps - rvs.toArray.size) undef).getD i undef = (rvs ++ List.replicate (fn.ntmps - vs.length) undef).getD i undef := by
      rw [Array.getD_eq_getD_getElem?, List.getD_eq_getElem?_getD, hlen]
      congr 1
      rw [← Array.getElem?_toList]
      simp
    rw [e]
    exact this
  have post : ∀ y : Ex, y = .normal ∨ y = .ret → ∀ s v' H'', ((match resT P fn s with | some v => .ret (v, s.heap) | none => .fail : Tr (AV × Heap))).eval = some (v', H'') → ∀ g' a' w', g.le g' → SRep g' s a' w' →
      bodyPost P fn (fun e w' => ∃ rv g', e = .returned rv ∧ g.le g' ∧ HInv g' H'' w' ∧ VRep g' v' rv) y.out a' w' := by
    rintro y hy s v' H'' he g' a' w' hle hs'
    split at he
    · rename_i av hav
      have := Tr.ret_some he
      simp only [Prod.mk.injEq] at this
      obtain ⟨rfl, rfl⟩ := this
      obtain ⟨rv, q1, q2⟩ := resT_rep hs' hav
      rcases hy with rfl | rfl <;> exact ⟨hs'.defers, rv, q1, rv, g', rfl, hle, hs'.heap, q2⟩
    · exact (Tr.fail_some he).elim
  refine code_sound hC hLc c hl hs h1 ?_
  cases x with
  | normal => exact post .normal (.inl rfl) s v H' h2
  | ret => exact post .ret (.inr rfl) s v H' h2
  | exit i => exact (Tr.fail_some h2).elim

end
end Vse

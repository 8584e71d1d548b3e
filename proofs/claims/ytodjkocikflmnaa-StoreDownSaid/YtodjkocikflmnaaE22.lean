/- A statement's row, out of what the symbolic machine makes of its function. Nothing here is about one program. -/
import Derived.Test.YtodjkocikflmnaaE21
import Derived.WideKeyArgs
set_option linter.unusedVariables false
namespace Vse
open Go Go.ChangeShapes Go.WideShapes Go.ChangeAt Go.RowKit

section
variable {H : Type} {enc : TypeId × Value → H} {P : Program}

theorem args_stay (hl : laidOutB P = true) {W W' : World} {sp : Nat → Bool} (hb : Below W.heap.size W W') : ∀ {ts : List TypeId} {vs : List Value} {ds : List (DataW H)} {ps : List MemPlace},
    (ts.all fun t => P.readableRec t && decide (t < P.types.size)) = true → DataW.TrodAll enc P W 0 (fun _ => true) true ts vs ds ps → (∀ p ∈ ps, p.block < W.heap.size) → (∀ p ∈ ps, sp p.block = true) →
    DataW.TrodAll enc P W' 0 sp true ts vs ds ps
  | [], vs, ds, ps, _, h, _, _ => by
    obtain ⟨rfl, rfl, rfl⟩ := trodAll_nil h
    rfl
  | t :: ts, vs, ds, ps, ht, h, hlt, hsp => by
    simp only [List.all_cons, Bool.and_eq_true, decide_eq_true_eq] at ht
    obtain ⟨v, vs', d, ds', p, q, rfl, rfl, rfl, h1, h2⟩ := trodAll_cons h
    exact ⟨p, q, WideElems.Trod_stays hl ht.1.1 ht.1.2 h1 (fun x hx => hb.same (hlt x (List.mem_append_left _ hx))) (fun x hx => hsp x (List.mem_append_left _ hx)),
      args_stay hl hb (by simpa using ht.2) h2 (fun x hx => hlt x (List.mem_append_right _ hx)) (fun x hx => hsp x (List.mem_append_right _ hx)), rfl⟩

theorem trodAll_length {w : World} {base : Nat} {sp : Nat → Bool} {held : Bool} : ∀ {ts : List TypeId} {vs : List Value} {ds : List (DataW H)} {ps : List MemPlace}, DataW.TrodAll enc P w base sp held ts vs ds ps → ds.length = ts.length
  | [], vs, ds, ps, h => by obtain ⟨_, rfl, _⟩ := trodAll_nil h; rfl
  | t :: ts, vs, ds, ps, h => by
    obtain ⟨v, vs', d, ds', p, q, rfl, rfl, rfl, h1, h2⟩ := trodAll_cons h
    simp [trodAll_length h2]

/-- a law that answers true, whatever comes in -/
theorem law_calls {C : Ctx} {L : Loops} (hC : CtxSound P C ∧ CtxLocal C) (hlaid : laidOutB P = true) {k : Nat} {fn : Func} {c : Code} (hf : P.funcs[k]? = some fn) (hb : fn.body = some c) (hl : LoopsOK P L c)
    {n : Nat} {As : List Ty} (hAs : argTys P n fn.params.toList = some As) (hts : (fn.params.toList.all fun t => P.readableRec t && decide (t < P.types.size)) = true)
    {tb : TypeId} (hres : fn.resultTypes = #[tb]) (hbool : P.underlying tb = some .bool)
    {s : ChangeSpec} (hs : s.vars = [] ∧ ∀ ds : List (DataW H), ds.length = fn.params.toList.length → s.fn H ds = { results := [.lit (.bool true)], args := ds })
    (key : ∀ xs : HL As, HL.wf As xs → nrm (fnT P C L fn (mkArgs As xs) []) = some (.v .bool true))
    {W : World} {base : Nat} {args : Array Value} {ds gs : List (DataW H)} {before : List MemPlace} {apart fresh handsOn again : Bool}
    (hval : ∀ (j : Nat) (t : TypeId) (v : Value), fn.params[j]? = some t → args[j]? = some v → Value.okWide P W .any base t v)
    (hW : DataW.Whole enc P fn.params.toList s.vars apart W args.toList ds gs before) :
    Calls P k args W fun e W' => ∃ v, e = .returned v ∧ s.post enc P fn apart fresh handsOn again W args v W' := by
  obtain ⟨p, q, hA, hV, hpq, _, _⟩ := id hW
  rw [hs.1] at hV
  obtain ⟨rfl, rfl⟩ := trodVars_none hV
  simp only [List.append_nil] at hpq
  subst hpq
  obtain ⟨xs, h1, h2, _⟩ := args_open (g := G.start W) (fun _ _ h => h) hAs (fun j t v ht hv => hval j t v (by simpa using ht) (by simpa using hv)) hA
  obtain ⟨H', h3⟩ := nrm_some (key xs h2)
  have hcalls := fn_sound hC.1 hC.2 hf hb hl (start_inv W) h1 h3
  have harr : args.toList.toArray = args := by simp
  rw [harr] at hcalls
  refine hcalls.mono ?_
  rintro e W' ⟨rv, g', rfl, hle, hI, hv⟩
  have hbel := start_below hle hI
  have hv' := (VRep_v (by simp)).1 hv
  rw [TRep_bool] at hv'
  subst hv'
  have hfn : s.fn H (ds ++ []) = { results := [.lit (.bool true)], args := ds } := by
    rw [List.append_nil]
    exact hs.2 ds (trodAll_length hA)
  refine ⟨_, rfl, post_of_below (pa := before) hW ?_ ?_ ⟨hs.1, by rw [hfn]⟩ rfl hbel ?_⟩
  · intro b sp hd
    rw [hfn, hres]
    exact ⟨[], [], shut_bool hbool true, rfl, rfl⟩
  · intro sp hsp
    rw [hfn]
    exact args_stay hlaid hbel hts hA (fun p hp => hW.lt p hp) hsp
  · exact ok_one hres rfl (okWide_bool_mk hbool true)

theorem weights_left {ts us : List TypeId} {ds gs : List (DataW H)} : ds.length = ts.length → ∀ {n : Nat}, n ∈ DataW.weightsEach P ts ds → n ∈ DataW.weightsEach P (ts ++ us) (ds ++ gs) := by
  induction ts generalizing ds with
  | nil => intro h n hn; cases ds <;> simp [DataW.weightsEach] at hn
  | cons t ts ih =>
    intro h n hn
    cases ds with
    | nil => simp at h
    | cons d ds =>
      simp only [List.cons_append, DataW.weightsEach, List.mem_append] at hn ⊢
      rcases hn with hn | hn
      · exact .inl hn
      · exact .inr (ih (by simpa using h) hn)

/-- ..the sizes of what comes in being known -/
theorem law_callsZ {C : Ctx} {L : Loops} (hC : CtxSound P C ∧ CtxLocal C) (hlaid : laidOutB P = true) {k : Nat} {fn : Func} {c : Code} (hf : P.funcs[k]? = some fn) (hb : fn.body = some c) (hl : LoopsOK P L c)
    {n : Nat} {As : List Ty} (hAs : argTys P n fn.params.toList = some As) (hts : (fn.params.toList.all fun t => P.readableRec t && decide (t < P.types.size)) = true)
    {tb : TypeId} (hres : fn.resultTypes = #[tb]) (hbool : P.underlying tb = some .bool)
    {s : ChangeSpec} (hs : s.vars = [] ∧ ∀ ds : List (DataW H), ds.length = fn.params.toList.length → s.fn H ds = { results := [.lit (.bool true)], args := ds })
    (key : ∀ xs : HL As, HL.wf As xs → HL.sz As xs → nrm (fnT P C L fn (mkArgs As xs) []) = some (.v .bool true))
    {W : World} {base : Nat} {args : Array Value} {ds gs : List (DataW H)} {before : List MemPlace} {apart fresh handsOn again : Bool}
    (hval : ∀ (j : Nat) (t : TypeId) (v : Value), fn.params[j]? = some t → args[j]? = some v → Value.okWide P W .any base t v)
    (hW : DataW.Whole enc P fn.params.toList s.vars apart W args.toList ds gs before)
    (hz : (DataW.weightsEach P (fn.params.toList ++ s.plain.varTypes P) (ds ++ gs)).all (· ≤ reachBytes) = true) :
    Calls P k args W fun e W' => ∃ v, e = .returned v ∧ s.post enc P fn apart fresh handsOn again W args v W' := by
  obtain ⟨p, q, hA, hV, hpq, _, _⟩ := id hW
  rw [hs.1] at hV
  obtain ⟨rfl, rfl⟩ := trodVars_none hV
  simp only [List.append_nil] at hpq
  subst hpq
  obtain ⟨xs, h1, h2, h2z⟩ := args_open (g := G.start W) (fun _ _ h => h) hAs (fun j t v ht hv => hval j t v (by simpa using ht) (by simpa using hv)) hA
  obtain ⟨H', h3⟩ := nrm_some (key xs h2 (h2z fun n hn => by
    have := List.all_eq_true.1 hz n (weights_left (trodAll_length hA) hn)
    simpa using this))
  have hcalls := fn_sound hC.1 hC.2 hf hb hl (start_inv W) h1 h3
  have harr : args.toList.toArray = args := by simp
  rw [harr] at hcalls
  refine hcalls.mono ?_
  rintro e W' ⟨rv, g', rfl, hle, hI, hv⟩
  have hbel := start_below hle hI
  have hv' := (VRep_v (by simp)).1 hv
  rw [TRep_bool] at hv'
  subst hv'
  have hfn : s.fn H (ds ++ []) = { results := [.lit (.bool true)], args := ds } := by
    rw [List.append_nil]
    exact hs.2 ds (trodAll_length hA)
  refine ⟨_, rfl, post_of_below (pa := before) hW ?_ ?_ ⟨hs.1, by rw [hfn]⟩ rfl hbel ?_⟩
  · intro b sp hd
    rw [hfn, hres]
    exact ⟨[], [], shut_bool hbool true, rfl, rfl⟩
  · intro sp hsp
    rw [hfn]
    exact args_stay hlaid hbel hts hA (fun p hp => hW.lt p hp) hsp
  · exact ok_one hres rfl (okWide_bool_mk hbool true)

end
end Vse

/- A law's row, its tree being told. Nothing here is about one program. -/
import Derived.Test.YtodjkocikflmnaaE40
set_option linter.unusedVariables false
namespace Vse
open Go Go.ChangeShapes

open Go.RowKit in
/-- a law with loops that answers true, the sizes of what comes in being known -/
theorem law_callsT {H : Type} {enc : TypeId × Value → H} {P : Program} {C : Ctx} {L : Loops} (hC : CtxSound P C ∧ CtxLocal C) (hlaid : laidOutB P = true) {k : Nat} {fn : Func} (hf : P.funcs[k]? = some fn)
    {n : Nat} {As : List Ty} (hside : (fn.body.isSome && (fn.params.toList.all fun t => P.readableRec t && decide (t < P.types.size))) = true) (hl : ∀ b ∈ loopsOf (bodyOf fn), LoopOK P L b) (hAs : argTys P n fn.params.toList = some As)
    {tb : TypeId} (hres : fn.resultTypes = #[tb]) (hbool : P.underlying tb = some .bool)
    {s : ChangeSpec} (hs : s.vars = [] ∧ ∀ ds : List (DataW H), ds.length = fn.params.toList.length → s.fn H ds = { results := [.lit (.bool true)], args := ds })
    (h1 : ∀ xs, HL.wf As xs → HL.sz As xs → nrm (fnK P C L fn (mkArgs As xs) []) = some (.v .bool true))
    {W : World} {base : Nat} {args : Array Value} {ds gs : List (DataW H)} {before : List MemPlace} {apart fresh handsOn again : Bool}
    (hval : ∀ (j : Nat) (t : TypeId) (v : Value), fn.params[j]? = some t → args[j]? = some v → Value.okWide P W .any base t v)
    (hW : DataW.Whole enc P fn.params.toList s.vars apart W args.toList ds gs before)
    (hz : (DataW.weightsEach P (fn.params.toList ++ s.plain.varTypes P) (ds ++ gs)).all (· ≤ reachBytes) = true) :
    Calls P k args W fun e W' => ∃ v, e = .returned v ∧ s.post enc P fn apart fresh handsOn again W args v W' := by
  simp only [Bool.and_eq_true] at hside
  obtain ⟨body, hb⟩ := Option.isSome_iff_exists.1 hside.1
  have hl : LoopsOK P L body := by
    refine loopsOK_all ?_
    unfold bodyOf at hl
    rw [hb] at hl
    exact hl
  exact law_callsZ hC hlaid hf hb hl hAs hside.2 hres hbool hs (fun xs hx hxz => nrmK (h1 xs hx hxz)) hval hW hz

theorem noLoopsL {P : Program} {L : Loops} {fn : Func} (h : loopsOf (bodyOf fn) = []) : ∀ b ∈ loopsOf (bodyOf fn), LoopOK P L b := by rw [h]; intro b hb; cases hb
theorem loops1 {P : Program} {L : Loops} {fn : Func} {b : Code} (h : loopsOf (bodyOf fn) = [b]) (h1 : LoopOK P L b) : ∀ b ∈ loopsOf (bodyOf fn), LoopOK P L b := by
  rw [h]; intro c hc; rw [List.mem_singleton.1 hc]; exact h1
theorem loops2 {P : Program} {L : Loops} {fn : Func} {b c : Code} (h : loopsOf (bodyOf fn) = [b, c]) (h1 : LoopOK P L b) (h2 : LoopOK P L c) : ∀ b ∈ loopsOf (bodyOf fn), LoopOK P L b := by
  rw [h]; intro d hd
  simp only [List.mem_cons, List.not_mem_nil, or_false] at hd
  rcases hd with rfl | rfl
  · exact h1
  · exact h2

end Vse

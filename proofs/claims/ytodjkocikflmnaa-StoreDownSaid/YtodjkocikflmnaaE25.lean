/- Functions and statements of plain values, by the symbolic machine. Nothing here is about one program. -/
import Derived.Test.YtodjkocikflmnaaE24
set_option linter.unusedVariables false
namespace Vse
open Go Go.ChangeShapes

theorem fn_ok {P : Program} {C : Ctx} {L : Loops} (hC : CtxSound P C ∧ CtxLocal C) {k : Nat} {fn : Func} {c : Code} (hf : P.funcs[k]? = some fn) (hname : (fn.name == "runtime.NumGoroutine") = false) (hb : fn.body = some c) (hl : LoopsOK P L c)
    {As Rs : List Ty} {f : HL As → HL Rs} (hA : (As.all fun A => A.still false) = true) (hR : stillL Rs = true)
    (h1 : ∀ xs, HL.ok As xs → (fnK P C L fn (mkArgs As xs) []).fine Rs = true) (h2 : ∀ xs, HL.ok As xs → (fnK P C L fn (mkArgs As xs) []).fold Rs = f xs) : CSound P k (CSpec.fn As Rs f) ∧ CLocal (CSpec.fn As Rs f) :=
  ⟨plain_sound hC.1 hC.2 hf hname hb hl hA (fun xs => ofHL_still hR _) (fun xs hx _ => by rw [nrmK (Tr.nrm_of_fine (h1 xs hx)), h2 xs hx]), pure_local _⟩

/-- a function without loops -/
theorem fn_ok0 {P : Program} {C : Ctx} (hC : CtxSound P C ∧ CtxLocal C) {k : Nat} {fn : Func} (hf : P.funcs[k]? = some fn) {As Rs : List Ty} {f : HL As → HL Rs}
    (hside : ((fn.name == "runtime.NumGoroutine") == false && noLoopsF fn && (As.all fun A => A.still false) && stillL Rs) = true)
    (h1 : ∀ xs, HL.ok As xs → (fnK P C L0 fn (mkArgs As xs) []).fine Rs = true) (h2 : ∀ xs, HL.ok As xs → (fnK P C L0 fn (mkArgs As xs) []).fold Rs = f xs) : CSound P k (CSpec.fn As Rs f) ∧ CLocal (CSpec.fn As Rs f) := by
  simp only [Bool.and_eq_true, beq_iff_eq] at hside
  obtain ⟨⟨⟨a, b⟩, c⟩, d⟩ := hside
  obtain ⟨body, hb, hl⟩ := noLoopsF_some (P := P) (L := L0) b
  exact fn_ok hC hf a hb hl c d h1 h2

def CSpec.fn1 (As : List Ty) (R : Ty) (f : HL As → R.den) : CSpec := CSpec.fn As [R] fun xs => (f xs, ())

theorem fn_ok1 {P : Program} {C : Ctx} (hC : CtxSound P C ∧ CtxLocal C) {k : Nat} {fn : Func} (hf : P.funcs[k]? = some fn) {As : List Ty} {R : Ty} {f : HL As → R.den}
    (hside : ((fn.name == "runtime.NumGoroutine") == false && noLoopsF fn && (As.all fun A => A.still false) && stillL [R]) = true)
    (h1 : ∀ xs, HL.ok As xs → (fnK P C L0 fn (mkArgs As xs) []).fine [R] = true) (h2 : ∀ xs, HL.ok As xs → (fnK P C L0 fn (mkArgs As xs) []).fold1 R = f xs) : CSound P k (CSpec.fn1 As R f) ∧ CLocal (CSpec.fn1 As R f) :=
  fn_ok0 hC hf hside h1 fun xs hx => by rw [Tr.fold_one, h2 xs hx]

open Go.RowKit in
/-- a law without loops that answers true -/
theorem law_calls0 {H : Type} {enc : TypeId × Value → H} {P : Program} {C : Ctx} (hC : CtxSound P C ∧ CtxLocal C) (hlaid : laidOutB P = true) {k : Nat} {fn : Func} (hf : P.funcs[k]? = some fn)
    {n : Nat} {As : List Ty} (hside : (noLoopsF fn && (fn.params.toList.all fun t => P.readableRec t && decide (t < P.types.size))) = true) (hAs : argTys P n fn.params.toList = some As)
    {tb : TypeId} (hres : fn.resultTypes = #[tb]) (hbool : P.underlying tb = some .bool)
    {s : ChangeSpec} (hs : s.vars = [] ∧ ∀ ds : List (DataW H), ds.length = fn.params.toList.length → s.fn H ds = { results := [.lit (.bool true)], args := ds })
    (h1 : ∀ xs, HL.wf As xs → (fnK P C L0 fn (mkArgs As xs) []).fine [.bool] = true) (h2 : ∀ xs, HL.wf As xs → (fnK P C L0 fn (mkArgs As xs) []).fold1 .bool = true)
    {W : World} {base : Nat} {args : Array Value} {ds gs : List (DataW H)} {before : List MemPlace} {apart fresh handsOn again : Bool}
    (hval : ∀ (j : Nat) (t : TypeId) (v : Value), fn.params[j]? = some t → args[j]? = some v → Value.okWide P W .any base t v)
    (hW : DataW.Whole enc P fn.params.toList s.vars apart W args.toList ds gs before) :
    Calls P k args W fun e W' => ∃ v, e = .returned v ∧ s.post enc P fn apart fresh handsOn again W args v W' := by
  simp only [Bool.and_eq_true] at hside
  obtain ⟨body, hb, hl⟩ := noLoopsF_some (P := P) (L := L0) hside.1
  exact law_calls hC hlaid hf hb hl hAs hside.2 hres hbool hs (fun xs hx => by rw [nrmK (Tr.nrm_of_fine (h1 xs hx)), Tr.fold_one, h2 xs hx]; rfl) hval hW

open Go.RowKit in
/-- ..the sizes of what comes in being known -/
theorem law_calls0Z {H : Type} {enc : TypeId × Value → H} {P : Program} {C : Ctx} (hC : CtxSound P C ∧ CtxLocal C) (hlaid : laidOutB P = true) {k : Nat} {fn : Func} (hf : P.funcs[k]? = some fn)
    {n : Nat} {As : List Ty} (hside : (noLoopsF fn && (fn.params.toList.all fun t => P.readableRec t && decide (t < P.types.size))) = true) (hAs : argTys P n fn.params.toList = some As)
    {tb : TypeId} (hres : fn.resultTypes = #[tb]) (hbool : P.underlying tb = some .bool)
    {s : ChangeSpec} (hs : s.vars = [] ∧ ∀ ds : List (DataW H), ds.length = fn.params.toList.length → s.fn H ds = { results := [.lit (.bool true)], args := ds })
    (h1 : ∀ xs, HL.wf As xs → HL.sz As xs → (fnK P C L0 fn (mkArgs As xs) []).fine [.bool] = true) (h2 : ∀ xs, HL.wf As xs → HL.sz As xs → (fnK P C L0 fn (mkArgs As xs) []).fold1 .bool = true)
    {W : World} {base : Nat} {args : Array Value} {ds gs : List (DataW H)} {before : List MemPlace} {apart fresh handsOn again : Bool}
    (hval : ∀ (j : Nat) (t : TypeId) (v : Value), fn.params[j]? = some t → args[j]? = some v → Value.okWide P W .any base t v)
    (hW : DataW.Whole enc P fn.params.toList s.vars apart W args.toList ds gs before)
    (hz : (DataW.weightsEach P (fn.params.toList ++ s.plain.varTypes P) (ds ++ gs)).all (· ≤ reachBytes) = true) :
    Calls P k args W fun e W' => ∃ v, e = .returned v ∧ s.post enc P fn apart fresh handsOn again W args v W' := by
  simp only [Bool.and_eq_true] at hside
  obtain ⟨body, hb, hl⟩ := noLoopsF_some (P := P) (L := L0) hside.1
  exact law_callsZ hC hlaid hf hb hl hAs hside.2 hres hbool hs (fun xs hx hxz => by rw [nrmK (Tr.nrm_of_fine (h1 xs hx hxz)), Tr.fold_one, h2 xs hx hxz]; rfl) hval hW hz

end Vse

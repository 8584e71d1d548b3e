/- Functions whose body is a scope (it holds a label that nothing jumps to). Nothing here is about one program. -/
import Derived.Test.YtffdkniccaebmaaM6
import Derived.Scope
set_option linter.unusedVariables false
namespace Vse
open Go Go.ChangeShapes

section
variable {F : Fence} {n : Nat} {P : Program} {Q : Exit → Act → World → Prop} {a : Act} {w : World}

theorem stepR_scope {b : Frame} {c : Code} {k : List Item} {cs : List Frame} : step P (lone (b.atR a (.code (.scope c) :: k)) cs w) = .next (lone (b.atR a (.code c :: .inScope c :: k)) cs w) :=
  step_lone_go (by simp [stepG, stepG.exec, Frame.atR])
theorem stepR_inScope {b : Frame} {c : Code} {k : List Item} {cs : List Frame} : step P (lone (b.atR a (.inScope c :: k)) cs w) = .next (lone (b.atR a k) cs w) :=
  step_lone_go (by simp [stepG, stepG.exec, Frame.atR])

theorem wpIn_scope {c : Code} (h : c.wpIn F n P (Exit.noGoto Q) a w) : (Code.scope c).wpIn F n P Q a w := by
  intro b k cs hro hb hr
  have h0 : (lone (b.atR a (.code (.scope c) :: k)) cs w).fenced P F := fenced_calm hb hr rfl
  obtain ⟨e, a₁, w₁, hq, harr⟩ := h b (.inScope c :: k) cs hro hb hr
  cases e with
  | normal => exact ⟨.normal, a₁, w₁, hq, StepsIn.head h0 stepR_scope (StepsIn.trans harr (.one (fenced_calm hb hr rfl) stepR_inScope))⟩
  | exit id => exact ⟨.exit id, a₁, w₁, hq, .of_steps (.one h0 stepR_scope) ⟨fun k' hk => harr.1 k' (by simp [exitTo, hk]), fun hr2 hk => harr.2 hr2 (by simp [exitTo, hk])⟩⟩
  | goto l => exact hq.elim
  | ret => exact ⟨_, a₁, w₁, hq, .of_steps (.one h0 stepR_scope) harr⟩
  | panic ch => exact ⟨_, a₁, w₁, hq, .of_steps (.one h0 stepR_scope) harr⟩
  | outgrown => exact ⟨_, a₁, w₁, hq, .of_steps (.one h0 stepR_scope) harr⟩

theorem scope_ok {rn : St → Tr (Ex × St)} {c : Code} (h : RunOK P rn c) : RunOK P rn (.scope c) := by
  intro g st st' a w x Q hs hm he hn
  refine wpIn_scope (h hs hm he fun g' a' w' hle hs' hm' => ?_)
  have := hn g' a' w' hle hs' hm'
  cases x <;> exact this
end

/-- going through code whose end is a scope -/
def runS (P : Program) (C : Ctx) (L : Loops) : Code → St → Tr (Ex × St)
  | .seq a b, st => (run P C L a st).bind fun r => match r with
    | (.normal, s) => runS P C L b s
    | r => .ret r
  | .scope c, st => run P C L c st
  | c, st => run P C L c st

def LoopsS (P : Program) (L : Loops) : Code → Prop
  | .seq a b => LoopsOK P L a ∧ LoopsS P L b
  | .scope c => LoopsOK P L c
  | c => LoopsOK P L c

theorem runS_ok {P : Program} {C : Ctx} {L : Loops} (hC : CtxSound P C ∧ CtxLocal C) : ∀ (c : Code), LoopsS P L c → RunOK P (runS P C L c) c := by
  intro c
  induction c with
  | seq p q ihp ihq =>
    intro hl g st st' a w x Q hs hm he hn
    obtain ⟨r, h1, h2⟩ := Tr.bind_some (show ((run P C L p st).bind fun r => match r with | (.normal, s) => runS P C L q s | r => .ret r).eval = _ from he)
    obtain ⟨y, s⟩ := r
    refine wpIn_seq (run_ok hC p hl.1 hs hm h1 fun g' a' w' hle hs' hm' => ?_)
    cases y with
    | normal =>
      simp only [Ex.out, Exit.then]
      exact ihq hl.2 hs' hm' h2 fun g'' a'' w'' hle' hs'' hm'' => hn g'' a'' w'' (hle.trans hle') hs'' hm''
    | exit i =>
      have := Tr.ret_some h2
      simp only [Prod.mk.injEq] at this
      obtain ⟨rfl, rfl⟩ := this
      exact hn g' a' w' hle hs' hm'
    | ret =>
      have := Tr.ret_some h2
      simp only [Prod.mk.injEq] at this
      obtain ⟨rfl, rfl⟩ := this
      exact hn g' a' w' hle hs' hm'
  | scope c ih => intro hl; exact scope_ok (run_ok hC c hl)
  | _ => intro hl; exact run_ok hC _ hl

def loopsOfS : Code → List Code
  | .seq a b => loopsOf a ++ loopsOfS b
  | .scope c => loopsOf c
  | c => loopsOf c
theorem loopsS_all {P : Program} {L : Loops} : ∀ {c : Code}, (∀ b ∈ loopsOfS c, LoopOK P L b) → LoopsS P L c := by
  intro c
  induction c with
  | seq a b iha ihb => intro h; exact ⟨loopsOK_all fun d hd => h d (List.mem_append_left _ hd), ihb fun d hd => h d (List.mem_append_right _ hd)⟩
  | scope c ih => intro h; exact loopsOK_all h
  | _ => intro h; exact loopsOK_all h

/-- a function on entries, gone through in some way -/
def fnPX (P : Program) (rn : St → Tr (Ex × St)) (S : PSpec) (fn : Func) (xs : HL S.As) (hs : HD S.Es) : Tr S.Out :=
  (fnTX P rn fn (mkArgs S.As xs) (encH S.Es hs)).bind fun r => match S.norm r with
    | some d => .ret d
    | none => .fail
theorem pos_scope {P : Program} {C : Ctx} {L : Loops} (hC : CtxSound P C ∧ CtxLocal C) {k : Nat} {fn : Func} (hf : P.funcs[k]? = some fn) {c : Code} (hb : fn.body = some c) (hname : (fn.name == "runtime.NumGoroutine") = false)
    (hl : ∀ b ∈ loopsOfS c, LoopOK P L b) {S : PSpec} {pre : HL S.As → HD S.Es → Bool} {f : HL S.As → HD S.Es → S.Out}
    (h1 : ∀ xs hs, HL.ok S.As xs → HD.ok S.Es hs → pre xs hs = true → (fnPX P (runS P C L c) S fn xs hs).eval = some (f xs hs)) : CSound P k (CSpec.pos S pre f) ∧ CLocal (CSpec.pos S pre f) :=
  pos_soundX (fnX := fnTX P (runS P C L c) fn) (fun args w => callFunc_enter hf hname hb args w) (fun hI hargs he => fn_soundX hf hb (runS_ok hC c (loopsS_all hl)) hI hargs he) h1

end Vse

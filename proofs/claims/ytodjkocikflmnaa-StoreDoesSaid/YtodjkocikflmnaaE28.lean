/- Loops and functions joined. Nothing here is about one program. -/
import Derived.Test.YtodjkocikflmnaaE27
set_option linter.unusedVariables false
namespace Vse
open Go Go.ChangeShapes

theorem many_inl {S : LSpec} {body : St → Tr (Ex × St)} {xs : HL S.Ts} {hs : HD S.Es} {d : HL S.Ts × HD S.Es} (h : (S.round body xs hs).eval = some (.inl d)) (n : Nat) : S.many body (n + 1) xs hs = S.many body n d.1 d.2 := by
  simp only [LSpec.many, h]

theorem many_inr {S : LSpec} {body : St → Tr (Ex × St)} {xs : HL S.Ts} {hs : HD S.Es} {r : Ex × St} (h : (S.round body xs hs).eval = some (.inr r)) (n : Nat) : S.many body (n + 1) xs hs = some r := by
  simp only [LSpec.many, h]

/-- the loops of a function's code, outermost first -/
def loopsOf : Code → List Code
  | .seq a b => loopsOf a ++ loopsOf b
  | .cond _ a b => loopsOf a ++ loopsOf b
  | .block _ c => loopsOf c
  | .loop c => [c]
  | _ => []

theorem loopsOK_all {P : Program} {L : Loops} : ∀ {c : Code}, (∀ b ∈ loopsOf c, LoopOK P L b) → LoopsOK P L c := by
  intro c
  induction c with
  | seq a b iha ihb => intro h; exact ⟨iha fun x hx => h x (by simp [loopsOf, hx]), ihb fun x hx => h x (by simp [loopsOf, hx])⟩
  | cond o a b iha ihb => intro h; exact ⟨iha fun x hx => h x (by simp [loopsOf, hx]), ihb fun x hx => h x (by simp [loopsOf, hx])⟩
  | block i a iha => intro h; exact iha h
  | loop a _ => intro h; exact h a (by simp [loopsOf])
  | _ => intro _; trivial

def bodyOf (fn : Func) : Code := match fn.body with | some c => c | none => .skip

/-- a loop of a function: its body -/
def loopAt (fn : Func) (i : Nat) : Code := ((loopsOf (bodyOf fn))[i]?).getD .skip

theorem fn_okL {P : Program} {C : Ctx} {L : Loops} (hC : CtxSound P C ∧ CtxLocal C) {k : Nat} {fn : Func} (hf : P.funcs[k]? = some fn) {As : List Ty} {R : Ty} {f : HL As → R.den}
    (hside : ((fn.name == "runtime.NumGoroutine") == false && fn.body.isSome && (As.all fun A => A.still false) && stillL [R]) = true)
    (hl : ∀ b ∈ loopsOf (bodyOf fn), LoopOK P L b)
    (h1 : ∀ xs, HL.ok As xs → (fnK P C L fn (mkArgs As xs) []).fine [R] = true) (h2 : ∀ xs, HL.ok As xs → (fnK P C L fn (mkArgs As xs) []).fold1 R = f xs) : CSound P k (CSpec.fn1 As R f) ∧ CLocal (CSpec.fn1 As R f) := by
  simp only [Bool.and_eq_true, beq_iff_eq] at hside
  obtain ⟨⟨⟨a, b⟩, c⟩, d⟩ := hside
  obtain ⟨body, hb⟩ := Option.isSome_iff_exists.1 b
  refine fn_ok hC hf a hb (loopsOK_all ?_) c d h1 fun xs hx => by rw [Tr.fold_one, h2 xs hx]
  unfold bodyOf at hl
  rw [hb] at hl
  exact hl

end Vse

/- Functions whose first part leaves a state that is brought under names: what is never written behind it may be seen as such. Nothing here is about one program. -/
import Derived.Test.YtffdkniccaebmaaE47
set_option linter.unusedVariables false
namespace Vse
open Go Go.ChangeShapes

/-- how a state is brought under names: the heap's forms there, slots, types, entries -/
structure Cut where
  depth : Nat
  E0 : List ETy
  inis : List IniT
  live : List Nat
  Ts : List Ty
  Es : List ETy
  nt : Nat

/-- going through the first parts, a cut, and the rest -/
def runCut (P : Program) (C : Ctx) (L : Loops) (K : Cut) : Nat → Code → St → Tr (Ex × St)
  | 0, .seq a b, st => (run P C L a st).bind fun r => match r with
    | (.normal, s) => if heapIs K.E0 s.heap then match renTo K.E0 K.inis K.live K.Ts K.Es K.nt s with
      | some d => run P C L b (encS K.live K.Ts K.Es K.nt d.1 d.2)
      | none => .fail
      else .fail
    | r => .ret r
  | n + 1, .seq a b, st => (run P C L a st).bind fun r => match r with
    | (.normal, s) => runCut P C L K n b s
    | r => .ret r
  | _, _, _ => .fail

theorem runCut_ok {P : Program} {C : Ctx} {L : Loops} (hC : CtxSound P C ∧ CtxLocal C) (K : Cut) : ∀ (n : Nat) (c : Code), LoopsOK P L c → RunOK P (runCut P C L K n c) c := by
  intro n
  induction n with
  | zero =>
    intro c hl g st st' a w x Q hs hm he hn
    cases c with
    | seq p q =>
      obtain ⟨r, h1, h2⟩ := Tr.bind_some (show ((run P C L p st).bind fun r => match r with
        | (.normal, s) => if heapIs K.E0 s.heap then match renTo K.E0 K.inis K.live K.Ts K.Es K.nt s with
          | some d => run P C L q (encS K.live K.Ts K.Es K.nt d.1 d.2)
          | none => .fail
          else .fail
        | r => .ret r).eval = _ from he)
      obtain ⟨y, s⟩ := r
      refine wpIn_seq (run_ok hC p hl.1 hs hm h1 fun g' a' w' hle hs' hm' => ?_)
      cases y with
      | normal =>
        simp only [Ex.out, Exit.then]
        simp only at h2
        split at h2
        · rename_i hh
          have h0 : ∀ t, isY (g'.sh t) K.E0[t]? := fun t => by rw [hs'.heap.sh]; exact heapIs_isY hh t
          split at h2
          · rename_i d hd
            obtain ⟨g3, q1, q2⟩ := renTo_rep (G.le.refl g') hs' h0 hd
            exact run_ok hC q hl.2 q2 (by rw [q1.ext]; exact hm'.mono q1) h2 fun g'' a'' w'' hle' hs'' hm'' => hn g'' a'' w'' ((hle.trans q1.d).trans hle') hs'' hm''
          · exact (Tr.fail_some h2).elim
        · exact (Tr.fail_some h2).elim
      | exit i =>
        have := Tr.ret_some h2
        simp only [Prod.mk.injEq] at this
        obtain ⟨rfl, rfl⟩ := this
        exact hn g' a' w' hle hs' hm'
      | ret =>
        have := Tr.ret_some h2
        simp only [Prod.mk.injEq] at this
        obtain ⟨rfl, rfl⟩ := this
        exact hn g' a' w' hle hs' hm'
    | _ => exact (Tr.fail_some he).elim
  | succ n ih =>
    intro c hl g st st' a w x Q hs hm he hn
    cases c with
    | seq p q =>
      obtain ⟨r, h1, h2⟩ := Tr.bind_some (show ((run P C L p st).bind fun r => match r with
        | (.normal, s) => runCut P C L K n q s
        | r => .ret r).eval = _ from he)
      obtain ⟨y, s⟩ := r
      refine wpIn_seq (run_ok hC p hl.1 hs hm h1 fun g' a' w' hle hs' hm' => ?_)
      cases y with
      | normal =>
        simp only [Ex.out, Exit.then]
        exact ih q hl.2 hs' hm' h2 fun g'' a'' w'' hle' hs'' hm'' => hn g'' a'' w'' (hle.trans hle') hs'' hm''
      | exit i =>
        have := Tr.ret_some h2
        simp only [Prod.mk.injEq] at this
        obtain ⟨rfl, rfl⟩ := this
        exact hn g' a' w' hle hs' hm'
      | ret =>
        have := Tr.ret_some h2
        simp only [Prod.mk.injEq] at this
        obtain ⟨rfl, rfl⟩ := this
        exact hn g' a' w' hle hs' hm'
    | _ => exact (Tr.fail_some he).elim

theorem pos_cut {P : Program} {C : Ctx} {L : Loops} (hC : CtxSound P C ∧ CtxLocal C) (K : Cut) {k : Nat} {fn : Func} (hf : P.funcs[k]? = some fn) {c : Code} (hb : fn.body = some c) (hname : (fn.name == "runtime.NumGoroutine") = false)
    (hl : ∀ b ∈ loopsOf c, LoopOK P L b) {S : PSpec} {pre : HL S.As → HD S.Es → Bool} {f : HL S.As → HD S.Es → S.Out}
    (h1 : ∀ xs hs, HL.ok S.As xs → HD.ok S.Es hs → pre xs hs = true → (fnPX P (runCut P C L K K.depth c) S fn xs hs).eval = some (f xs hs)) : CSound P k (CSpec.pos S pre f) ∧ CLocal (CSpec.pos S pre f) :=
  pos_soundX (fnX := fnTX P (runCut P C L K K.depth c) fn) (fun args w => callFunc_enter hf hname hb args w) (fun hI hargs he => fn_soundX hf hb (runCut_ok hC K K.depth c (loopsOK_all hl)) hI hargs he) h1

end Vse

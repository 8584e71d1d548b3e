/- Functions gone through in stages: between them the state is brought under names. Nothing here is about one program. -/
import Derived.Test.YtffdkniccaebmaaE49
set_option linter.unusedVariables false
namespace Vse
open Go Go.ChangeShapes

abbrev CutE (K : Cut) : Type := (HL K.Ts × HD K.Es) ⊕ (Ex × St)
def cutR (K : Cut) (r : Ex × St) : Tr (CutE K) := match r with
  | (.normal, s) => if heapIs K.E0 s.heap then match renTo K.E0 K.inis K.live K.Ts K.Es K.nt s with
    | some d => .ret (.inl d)
    | none => .fail
    else .fail
  | r => .ret (.inr r)
/-- to a cut -/
def headC (P : Program) (C : Ctx) (L : Loops) (K : Cut) : Nat → Code → St → Tr (CutE K)
  | 0, .seq a b, st => (run P C L a st).bind (cutR K)
  | n + 1, .seq a b, st => (run P C L a st).bind fun r => match r with
    | (.normal, s) => headC P C L K n b s
    | r => .ret (.inr r)
  | _, _, _ => .fail
def restC : Nat → Code → Code
  | 0, .seq a b => b
  | n + 1, .seq a b => restC n b
  | _, c => c
def runCuts (P : Program) (C : Ctx) (L : Loops) : List Cut → Code → St → Tr (Ex × St)
  | [], c, st => run P C L c st
  | K :: Ks, c, st => (headC P C L K K.depth c st).bind fun r => match r with
    | .inl d => runCuts P C L Ks (restC K.depth c) (encS K.live K.Ts K.Es K.nt d.1 d.2)
    | .inr r => .ret r

theorem headC_ok {P : Program} {C : Ctx} {L : Loops} (hC : CtxSound P C ∧ CtxLocal C) (K : Cut) {rn : St → Tr (Ex × St)} : ∀ (n : Nat) (c : Code), LoopsOK P L c → RunOK P rn (restC n c) →
    RunOK P (fun st => (headC P C L K n c st).bind fun r => match r with
      | .inl d => rn (encS K.live K.Ts K.Es K.nt d.1 d.2)
      | .inr r => .ret r) c := by
  intro n
  induction n with
  | zero =>
    intro c hl hr g st st' a w x Q hs hm he hn
    cases c with
    | seq p q =>
      obtain ⟨e, h0, h3⟩ := Tr.bind_some he
      obtain ⟨r, h1, h2⟩ := Tr.bind_some (show ((run P C L p st).bind (cutR K)).eval = _ from h0)
      obtain ⟨y, s⟩ := r
      refine wpIn_seq (run_ok hC p hl.1 hs hm h1 fun g' a' w' hle hs' hm' => ?_)
      cases y with
      | normal =>
        simp only [Ex.out, Exit.then]
        unfold cutR at h2
        simp only at h2
        split at h2
        · rename_i hh
          have h00 : ∀ t, isY (g'.sh t) K.E0[t]? := fun t => by rw [hs'.heap.sh]; exact heapIs_isY hh t
          split at h2
          · rename_i d hd
            have := Tr.ret_some h2
            subst this
            obtain ⟨g3, q1, q2⟩ := renTo_rep (G.le.refl g') hs' h00 hd
            exact hr q2 (by rw [q1.ext]; exact hm'.mono q1) h3 fun g'' a'' w'' hle' hs'' hm'' => hn g'' a'' w'' ((hle.trans q1.d).trans hle') hs'' hm''
          · exact (Tr.fail_some h2).elim
        · exact (Tr.fail_some h2).elim
      | exit i =>
        have := Tr.ret_some h2
        subst this
        have := Tr.ret_some h3
        simp only [Prod.mk.injEq] at this
        obtain ⟨rfl, rfl⟩ := this
        exact hn g' a' w' hle hs' hm'
      | ret =>
        have := Tr.ret_some h2
        subst this
        have := Tr.ret_some h3
        simp only [Prod.mk.injEq] at this
        obtain ⟨rfl, rfl⟩ := this
        exact hn g' a' w' hle hs' hm'
    | _ => obtain ⟨e, h0, h3⟩ := Tr.bind_some he; exact (Tr.fail_some h0).elim
  | succ n ih =>
    intro c hl hr g st st' a w x Q hs hm he hn
    cases c with
    | seq p q =>
      obtain ⟨e, h0, h3⟩ := Tr.bind_some he
      obtain ⟨r, h1, h2⟩ := Tr.bind_some (show ((run P C L p st).bind fun r => match r with
        | (.normal, s) => headC P C L K n q s
        | r => (.ret (.inr r) : Tr (CutE K))).eval = _ from h0)
      obtain ⟨y, s⟩ := r
      refine wpIn_seq (run_ok hC p hl.1 hs hm h1 fun g' a' w' hle hs' hm' => ?_)
      cases y with
      | normal =>
        simp only [Ex.out, Exit.then]
        refine ih q hl.2 hr hs' hm' ?_ fun g'' a'' w'' hle' hs'' hm'' => hn g'' a'' w'' (hle.trans hle') hs'' hm''
        rw [Tr.eval_bind, show (headC P C L K n q s).eval = some e from h2]
        exact h3
      | exit i =>
        have := Tr.ret_some h2
        subst this
        have := Tr.ret_some h3
        simp only [Prod.mk.injEq] at this
        obtain ⟨rfl, rfl⟩ := this
        exact hn g' a' w' hle hs' hm'
      | ret =>
        have := Tr.ret_some h2
        subst this
        have := Tr.ret_some h3
        simp only [Prod.mk.injEq] at this
        obtain ⟨rfl, rfl⟩ := this
        exact hn g' a' w' hle hs' hm'
    | _ => obtain ⟨e, h0, h3⟩ := Tr.bind_some he; exact (Tr.fail_some h0).elim

theorem restC_loops {P : Program} {L : Loops} : ∀ {n : Nat} {c : Code}, LoopsOK P L c → LoopsOK P L (restC n c)
  | 0, c, h => by
    cases c with
    | seq p q => exact h.2
    | _ => exact h
  | n + 1, c, h => by
    cases c with
    | seq p q => exact restC_loops (n := n) h.2
    | _ => exact h
theorem runCuts_ok {P : Program} {C : Ctx} {L : Loops} (hC : CtxSound P C ∧ CtxLocal C) : ∀ (Ks : List Cut) (c : Code), LoopsOK P L c → RunOK P (runCuts P C L Ks c) c
  | [], c, hl => fun hs hm he hn => run_ok hC c hl hs hm he hn
  | K :: Ks, c, hl => headC_ok hC K K.depth c hl (runCuts_ok hC Ks _ (restC_loops hl))

/-- what a function's end gives -/
def finC (P : Program) (S : PSpec) (fn : Func) (r : Ex × St) : Tr S.Out := match r with
  | (.exit _, _) => .fail
  | (_, s) => match resT P fn s with
    | some v => match S.norm (v, s.heap) with
      | some d => .ret d
      | none => .fail
    | none => .fail
def stC (P : Program) (C : Ctx) (L : Loops) (S : PSpec) (fn : Func) (Ks : List Cut) (c : Code) (st : St) : Tr S.Out := (runCuts P C L Ks c st).bind (finC P S fn)
def hdC (P : Program) (C : Ctx) (L : Loops) (S : PSpec) (fn : Func) (K : Cut) (c : Code) (st : St) : Tr ((HL K.Ts × HD K.Es) ⊕ S.Out) :=
  (headC P C L K K.depth c st).bind fun r => match r with
    | .inl d => .ret (.inl d)
    | .inr r => (finC P S fn r).bind fun o => .ret (.inr o)

theorem st_inl {P : Program} {C : Ctx} {L : Loops} {S : PSpec} {fn : Func} {K : Cut} {Ks : List Cut} {c : Code} {st : St} {d : HL K.Ts × HD K.Es} (h : (hdC P C L S fn K c st).eval = some (.inl d)) :
    (stC P C L S fn (K :: Ks) c st).eval = (stC P C L S fn Ks (restC K.depth c) (encS K.live K.Ts K.Es K.nt d.1 d.2)).eval := by
  obtain ⟨r, h1, h2⟩ := Tr.bind_some h
  unfold stC
  rw [Tr.eval_bind, Tr.eval_bind]
  show Option.bind ((headC P C L K K.depth c st).bind _).eval _ = _
  rw [Tr.eval_bind, h1]
  cases r with
  | inl d' =>
    have := Tr.ret_some h2
    simp only [Sum.inl.injEq] at this
    subst this
    rfl
  | inr r =>
    obtain ⟨o, h3, h4⟩ := Tr.bind_some h2
    have := Tr.ret_some h4
    cases this
theorem st_inr {P : Program} {C : Ctx} {L : Loops} {S : PSpec} {fn : Func} {K : Cut} {Ks : List Cut} {c : Code} {st : St} {o : S.Out} (h : (hdC P C L S fn K c st).eval = some (.inr o)) :
    (stC P C L S fn (K :: Ks) c st).eval = some o := by
  obtain ⟨r, h1, h2⟩ := Tr.bind_some h
  unfold stC
  rw [Tr.eval_bind]
  show Option.bind ((headC P C L K K.depth c st).bind _).eval _ = _
  rw [Tr.eval_bind, h1]
  cases r with
  | inl d' =>
    have := Tr.ret_some h2
    cases this
  | inr r =>
    obtain ⟨o', h3, h4⟩ := Tr.bind_some h2
    have := Tr.ret_some h4
    simp only [Sum.inr.injEq] at this
    subst this
    exact h3
theorem fnPX_st {P : Program} {C : Ctx} {L : Loops} {S : PSpec} {fn : Func} {Ks : List Cut} {c : Code} {xs : HL S.As} {hs : HD S.Es} :
    (fnPX P (runCuts P C L Ks c) S fn xs hs).eval = (stC P C L S fn Ks c (begin_ fn (mkArgs S.As xs) (encH S.Es hs))).eval := by
  unfold fnPX fnTX stC
  rw [Tr.eval_bind, Tr.eval_bind, Tr.eval_bind]
  cases (runCuts P C L Ks c (begin_ fn (mkArgs S.As xs) (encH S.Es hs))).eval with
  | none => rfl
  | some r =>
    obtain ⟨x, s⟩ := r
    simp only [Option.bind_some]
    cases x with
    | exit i => rfl
    | normal => simp only [finC]; cases h : resT P fn s <;> rfl
    | ret => simp only [finC]; cases h : resT P fn s <;> rfl
theorem pos_cuts {P : Program} {C : Ctx} {L : Loops} (hC : CtxSound P C ∧ CtxLocal C) (Ks : List Cut) {k : Nat} {fn : Func} (hf : P.funcs[k]? = some fn) {c : Code} (hb : fn.body = some c) (hname : (fn.name == "runtime.NumGoroutine") = false)
    (hl : ∀ b ∈ loopsOf c, LoopOK P L b) {S : PSpec} {pre : HL S.As → HD S.Es → Bool} {f : HL S.As → HD S.Es → S.Out}
    (h1 : ∀ xs hs, HL.ok S.As xs → HD.ok S.Es hs → pre xs hs = true → (stC P C L S fn Ks c (begin_ fn (mkArgs S.As xs) (encH S.Es hs))).eval = some (f xs hs)) : CSound P k (CSpec.pos S pre f) ∧ CLocal (CSpec.pos S pre f) :=
  pos_soundX (fnX := fnTX P (runCuts P C L Ks c) fn) (fun args w => callFunc_enter hf hname hb args w) (fun hI hargs he => fn_soundX hf hb (runCuts_ok hC Ks c (loopsOK_all hl)) hI hargs he)
    fun xs hs hx hh hp => fnPX_st.trans (h1 xs hs hx hh hp)
end Vse

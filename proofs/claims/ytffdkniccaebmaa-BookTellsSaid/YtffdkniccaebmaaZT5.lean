/- The statements of layer 15 (book) hold: BookTells. No conditions but the given ones. Part 5. -/
import Derived.Test.YtffdkniccaebmaaZT4
import Derived.Sort.Row
import Derived.Shelf.Bytes.SlClone
import Derived.Scope
import Derived.Shelf.Spec.SlicesGrow
import Derived.Shelf.SlicesE.Clone
import Derived.Shelf.SlicesE.Delete
import Derived.Shelf.GgSortFunc.RowK
import Derived.Deep.MidRow
set_option linter.unusedVariables false
set_option linter.unusedSimpArgs false
section
section
set_option linter.unusedVariables false
set_option maxRecDepth 100000
namespace Go.Proofs.Ytffdkniccaebmaa.Sha
open Go Vse Go.Proofs Gen
end Go.Proofs.Ytffdkniccaebmaa.Sha
end
section
set_option linter.unusedVariables false
set_option maxRecDepth 100000
namespace Go.Proofs.Ytffdkniccaebmaa.Sha
open Go Vse Go.Proofs Gen
def hashOf (y : List Int) : Hs := writeF y h0
theorem shaF_hash (y : List Int) : shaF y = sumH (hashOf y) := rfl
end Go.Proofs.Ytffdkniccaebmaa.Sha
end
section
set_option linter.unusedVariables false
set_option maxRecDepth 100000
namespace Go.Proofs.Ytffdkniccaebmaa.Sha
open Go Vse Go.Proofs Gen
end Go.Proofs.Ytffdkniccaebmaa.Sha
end
section
set_option linter.unusedVariables false
set_option maxRecDepth 100000
namespace Go.Proofs.Ytffdkniccaebmaa.Sha
open Go Vse Go.Proofs Gen
end Go.Proofs.Ytffdkniccaebmaa.Sha
end
end
section
section
set_option linter.unusedVariables false
namespace Vse
open Go Go.ChangeShapes
end Vse
end
section
set_option linter.unusedVariables false
namespace Vse
open Go Go.ChangeShapes
section
variable {P : Program} {C : Ctx} {L : Loops} {g : G} {H : Heap} {w : World}
end
end Vse
end
section
set_option linter.unusedVariables false
namespace Vse
open Go Go.Sort
section
variable {P : Program} {g : G} {H : Heap} {w : World}
theorem HInv.later (h : HInv g H w) {w' : World} (hh : ∀ (b : Nat) (o : Obj), w.heap[b]? = some o → w'.heap[b]? = some o) (hx : Goes w w') : HInv g H w' :=
 ⟨h.sh, fun b o x => hh b o (h.fr b o x), fun b o x => hh b o (h.gr b o x), fun e => ERep_world (fun b _ o ho => hh b o ho) (h.ent e), h.own, h.sep, h.dis, h.ext.goes hx⟩
theorem setRow_put {w : World} {b : Nat} {cs : Array Value} {t : TypeId} {fz : Nat × Nat} (h : w.heap[b]? = some (.cells cs t fz)) (F : Array Value) : putRow id w b 0 F = w.setRow b (putCells id 0 F cs) := by
 unfold putRow mapBlock World.setRow
 congr 1
 apply Array.ext_getElem?
 intro k
 simp only [Array.getElem?_modify]
 by_cases hk : b = k
 ·subst hk
  simp only [if_true, h]
  rfl
 ·simp only [if_neg hk]
theorem putCells_list {cs F : Array Value} {vs r : List Value} (hcs : cs.toList = vs ++ r) (hF : F.size = vs.length) : (putCells id 0 F cs).toList = F.toList ++ r := by
 have hsz : cs.size = vs.length + r.length := by rw [← Array.length_toList, hcs, List.length_append]
 apply List.ext_getElem
 ·simp [putCells, hsz, hF]
 ·intro i h1 h2
  have h1' : i < cs.size := by simpa [putCells] using h1
  have e1 : (putCells id 0 F cs).toList[i] = if 0 ≤ i ∧ i < 0 + F.size then F[i]! else cs[i] := by
   simp [putCells]
  rw [e1]
  by_cases hi : i < F.size
  ·rw [if_pos ⟨Nat.zero_le _, by omega⟩, List.getElem_append_left (by simpa using hi), getElem!_pos F i hi, Array.getElem_toList]
  ·rw [if_neg (by omega), List.getElem_append_right (by simpa using Nat.not_lt.1 hi)]
   have : cs[i] = cs.toList[i]'(by simpa using h1') := (Array.getElem_toList (h := h1')).symm
   rw [this]
   simp only [hcs]
   rw [List.getElem_append_right (by omega)]
   congr 1
   have : F.toList.length = vs.length := by rw [Array.length_toList, hF]
   omega
end
end Vse
end
end
section
set_option linter.unusedVariables false
namespace Vse
open Go Go.ChangeShapes Go.Proofs Go.Shelf
section
variable {P : Program} {C : Ctx} {L : Loops}
theorem clone_sound (hC : CtxSound P C ∧ CtxLocal C) {k : Nat} {fn : Func} (hf : P.funcs[k]? = some fn) {A : Ty} (hA : A.still true = true) (hA' : A.still false = true)
  (hside : ((fn.name == "runtime.NumGoroutine") == false && fn.body.isSome) = true)
  (hl : ∀ b ∈ loopsOf (bodyOf fn), LoopOK P L b)
  (hn : ∀ (n c : Nat) (w : World), Calls P k #[.slice none n c] w fun e w' => e = .returned (.slice none 0 0) ∧ w' = w)
  {q : Bool} {pre : List A.den → Bool} (h1 : ∀ l : List A.den, pre l = true → nrm (fnS P C L [.imm true false A] fn (mkArgs [.imm q true A] (l, ()))) = some (.v (.imm true false A) l)) :
  CSound P k (CSpec.slp1 [.imm q false A] (fun xs => pre xs.1) (.imm true false A) fun xs => xs.1) ∧ CLocal (CSpec.slp1 [.imm q false A] (fun xs => pre xs.1) (.imm true false A) fun xs => xs.1) := by
 simp only [Bool.and_eq_true, beq_iff_eq] at hside
 obtain ⟨hname, hb⟩ := hside
 obtain ⟨body, hb⟩ := Option.isSome_iff_exists.1 hb
 have hl : LoopsOK P L body := by
  refine loopsOK_all ?_
  unfold bodyOf at hl
  rw [hb] at hl
  exact hl
 have hAs : ([Ty.imm q false A].all fun A => A.still false) = true := by simp [Ty.still, hA']
 refine ⟨⟨fun args w => callFunc_enter hf hname hb args w, ?_⟩, slp_local _ _ _ _⟩
 intro g H w vs rvs fr out hI hargs _ he
 simp only [CSpec.slp1, CSpec.slp] at he
 rw [takeE_takeAs] at he
 split at he
 ·rename_i xs hxs
  obtain ⟨hp, he⟩ := Tr.chk_some he
  have := Tr.ret_some he
  subst this
  have hargs' := takeAs_rep hI hAs hargs hxs
  obtain ⟨l, u⟩ := xs
  obtain ⟨r, rs, rfl, hv, hr⟩ := hargs'
  have hr : rs = [] := hr
  subst hr
  have hv := (VRep_v (by simp)).1 hv
  simp only [TRep, Ty.agg, Ty.sk, Sk.agg, Bool.false_eq_true, if_false, Rep, List.cons.injEq, and_true] at hv
  obtain ⟨pv, cap, rfl, hcap, _, hne⟩ := hv
  cases pv with
  | none =>
   have hl0 : l = [] := by
    cases l with
    | nil => rfl
    | cons a t => obtain ⟨_, _, h, _⟩ := hne (by simp); cases h
   subst hl0
   refine (hn _ _ w).mono ?_
   rintro e w' ⟨rfl, rfl⟩
   refine ⟨_, g, rfl, G.le.refl g, hI, ?_⟩
   show VRep g (.v (.imm true false A) []) (.slice none 0 0)
   refine (VRep_v (by simp)).2 ?_
   simp only [TRep, Ty.agg, Ty.sk, Sk.agg, Bool.false_eq_true, if_false, Rep, List.cons.injEq, and_true]
   exact ⟨none, 0, rfl, ⟨Nat.le_refl _, Nat.zero_le _⟩, by simp, fun h => absurd rfl h⟩
  | some ad =>
   have hargs2 : argsRep (g.lend H w) (mkArgs [.imm q true A] (l, ())) [.slice (some ad) l.length cap] := by
    refine ⟨_, _, rfl, (VRep_v (by simp)).2 ?_, rfl⟩
    simp only [TRep, Ty.agg, Ty.sk, Sk.agg, Bool.false_eq_true, if_false, Rep, List.cons.injEq, and_true]
    exact ⟨some ad, cap, rfl, hcap, by simp, hne⟩
   obtain ⟨H', h5⟩ := nrm_some (h1 l hp)
   obtain ⟨r, h6, h7⟩ := Tr.bind_some h5
   have h7 := Tr.ret_some h7
   refine (fn_sound hC.1 hC.2 hf hb hl (lend_inv hI) hargs2 (fnK_ok h6)).mono ?_
   rintro e w' ⟨rv, g', rfl, hle, hI', hv⟩
   obtain ⟨g1, s1, s2, s3⟩ := sealR_rep [.imm true false A] (r := r) hI' hv
   rw [h7] at s2 s3
   obtain ⟨g'', q1, q2, q3⟩ := lend_back hI (hle.trans s1) s2
   exact ⟨rv, g'', rfl, q1, q2, still_VRep q3 (ofHL_still (Rs := [.imm true false A]) (by simp [stillL, Ty.still, hA]) (l, ())) s3⟩
 ·exact (Tr.fail_some he).elim
end
end Vse
end
section
set_option linter.unusedVariables false
namespace Vse
open Go Go.ChangeShapes
section
variable {F : Fence} {n : Nat} {P : Program} {Q : Exit → Act → World → Prop} {a : Act} {w : World}
theorem stepR_scope {b : Frame} {c : Code} {k : List Item} {cs : List Frame} : step P (lone (b.atR a (.code (.scope c) :: k)) cs w) = .next (lone (b.atR a (.code c :: .inScope c :: k)) cs w) :=
 step_lone_go (by simp [stepG, stepG.exec, Frame.atR])
theorem stepR_inScope {b : Frame} {c : Code} {k : List Item} {cs : List Frame} : step P (lone (b.atR a (.inScope c :: k)) cs w) = .next (lone (b.atR a k) cs w) :=
 step_lone_go (by simp [stepG, stepG.exec, Frame.atR])
theorem wpIn_scope {c : Code} (h : c.wpIn F n P (Exit.noGoto Q) a w) : (Code.scope c).wpIn F n P Q a w := by
 intro b k cs hro hb hr
 have h0 : (lone (b.atR a (.code (.scope c) :: k)) cs w).fenced P F := fenced_calm hb hr rfl
 obtain ⟨e, a₁, w₁, hq, harr⟩ := h b (.inScope c :: k) cs hro hb hr
 cases e with
 | normal => exact ⟨.normal, a₁, w₁, hq, StepsIn.head h0 stepR_scope (StepsIn.trans harr (.one (fenced_calm hb hr rfl) stepR_inScope))⟩
 | exit id => exact ⟨.exit id, a₁, w₁, hq, .of_steps (.one h0 stepR_scope) ⟨fun k' hk => harr.1 k' (by simp [exitTo, hk]), fun hr2 hk => harr.2 hr2 (by simp [exitTo, hk])⟩⟩
 | goto l => exact hq.elim
 | ret => exact ⟨_, a₁, w₁, hq, .of_steps (.one h0 stepR_scope) harr⟩
 | panic ch => exact ⟨_, a₁, w₁, hq, .of_steps (.one h0 stepR_scope) harr⟩
 | outgrown => exact ⟨_, a₁, w₁, hq, .of_steps (.one h0 stepR_scope) harr⟩
theorem scope_ok {rn : St → Tr (Ex × St)} {c : Code} (h : RunOK P rn c) : RunOK P rn (.scope c) := by
 intro g st st' a w x Q hs hm he hn
 refine wpIn_scope (h hs hm he fun g' a' w' hle hs' hm' => ?_)
 have := hn g' a' w' hle hs' hm'
 cases x <;> exact this
end
def runS (P : Program) (C : Ctx) (L : Loops) : Code → St → Tr (Ex × St)
 | .seq a b, st => (run P C L a st).bind fun r => match r with
  | (.normal, s) => runS P C L b s
  | r => .ret r
 | .scope c, st => run P C L c st
 | c, st => run P C L c st
def LoopsS (P : Program) (L : Loops) : Code → Prop
 | .seq a b => LoopsOK P L a ∧ LoopsS P L b
 | .scope c => LoopsOK P L c
 | c => LoopsOK P L c
theorem runS_ok {P : Program} {C : Ctx} {L : Loops} (hC : CtxSound P C ∧ CtxLocal C) : ∀ (c : Code), LoopsS P L c → RunOK P (runS P C L c) c := by
 intro c
 induction c with
 | seq p q ihp ihq =>
  intro hl g st st' a w x Q hs hm he hn
  obtain ⟨r, h1, h2⟩ := Tr.bind_some (show ((run P C L p st).bind fun r => match r with | (.normal, s) => runS P C L q s | r => .ret r).eval = _ from he)
  obtain ⟨y, s⟩ := r
  refine wpIn_seq (run_ok hC p hl.1 hs hm h1 fun g' a' w' hle hs' hm' => ?_)
  cases y with
  | normal =>
   simp only [Ex.out, Exit.then]
   exact ihq hl.2 hs' hm' h2 fun g'' a'' w'' hle' hs'' hm'' => hn g'' a'' w'' (hle.trans hle') hs'' hm''
  | exit i =>
   have := Tr.ret_some h2
   simp only [Prod.mk.injEq] at this
   obtain ⟨rfl, rfl⟩ := this
   exact hn g' a' w' hle hs' hm'
  | ret =>
   have := Tr.ret_some h2
   simp only [Prod.mk.injEq] at this
   obtain ⟨rfl, rfl⟩ := this
   exact hn g' a' w' hle hs' hm'
 | scope c ih => intro hl; exact scope_ok (run_ok hC c hl)
 | _ => intro hl; exact run_ok hC _ hl
def loopsOfS : Code → List Code
 | .seq a b => loopsOf a ++ loopsOfS b
 | .scope c => loopsOf c
 | c => loopsOf c
theorem loopsS_all {P : Program} {L : Loops} : ∀ {c : Code}, (∀ b ∈ loopsOfS c, LoopOK P L b) → LoopsS P L c := by
 intro c
 induction c with
 | seq a b iha ihb => intro h; exact ⟨loopsOK_all fun d hd => h d (List.mem_append_left _ hd), ihb fun d hd => h d (List.mem_append_right _ hd)⟩
 | scope c ih => intro h; exact loopsOK_all h
 | _ => intro h; exact loopsOK_all h
def fnPX (P : Program) (rn : St → Tr (Ex × St)) (S : PSpec) (fn : Func) (xs : HL S.As) (hs : HD S.Es) : Tr S.Out :=
 (fnTX P rn fn (mkArgs S.As xs) (encH S.Es hs)).bind fun r => match S.norm r with
  | some d => .ret d
  | none => .fail
theorem pos_scope {P : Program} {C : Ctx} {L : Loops} (hC : CtxSound P C ∧ CtxLocal C) {k : Nat} {fn : Func} (hf : P.funcs[k]? = some fn) {c : Code} (hb : fn.body = some c) (hname : (fn.name == "runtime.NumGoroutine") = false)
  (hl : ∀ b ∈ loopsOfS c, LoopOK P L b) {S : PSpec} {pre : HL S.As → HD S.Es → Bool} {f : HL S.As → HD S.Es → S.Out}
  (h1 : ∀ xs hs, HL.ok S.As xs → HD.ok S.Es hs → pre xs hs = true → (fnPX P (runS P C L c) S fn xs hs).eval = some (f xs hs)) : CSound P k (CSpec.pos S pre f) ∧ CLocal (CSpec.pos S pre f) :=
 pos_soundX (fnX := fnTX P (runS P C L c) fn) (fun args w => callFunc_enter hf hname hb args w) (fun hI hargs he => fn_soundX hf hb (runS_ok hC c (loopsS_all hl)) hI hargs he) h1
end Vse
end
section
set_option linter.unusedVariables false
namespace Vse
open Go Go.ChangeShapes
structure Cut where
 depth : Nat
 E0 : List ETy
 inis : List IniT
 live : List Nat
 Ts : List Ty
 Es : List ETy
 nt : Nat
end Vse
end
section
set_option linter.unusedVariables false
namespace Vse
open Go Go.ChangeShapes
abbrev CutE (K : Cut) : Type := (HL K.Ts × HD K.Es) ⊕ (Ex × St)
def cutR (K : Cut) (r : Ex × St) : Tr (CutE K) := match r with
 | (.normal, s) => if heapIs K.E0 s.heap then match renTo K.E0 K.inis K.live K.Ts K.Es K.nt s with
  | some d => .ret (.inl d)
  | none => .fail
  else .fail
 | r => .ret (.inr r)
def headC (P : Program) (C : Ctx) (L : Loops) (K : Cut) : Nat → Code → St → Tr (CutE K)
 | 0, .seq a b, st => (run P C L a st).bind (cutR K)
 | n + 1, .seq a b, st => (run P C L a st).bind fun r => match r with
  | (.normal, s) => headC P C L K n b s
  | r => .ret (.inr r)
 | _, _, _ => .fail
def restC : Nat → Code → Code
 | 0, .seq a b => b
 | n + 1, .seq a b => restC n b
 | _, c => c
def runCuts (P : Program) (C : Ctx) (L : Loops) : List Cut → Code → St → Tr (Ex × St)
 | [], c, st => run P C L c st
 | K :: Ks, c, st => (headC P C L K K.depth c st).bind fun r => match r with
  | .inl d => runCuts P C L Ks (restC K.depth c) (encS K.live K.Ts K.Es K.nt d.1 d.2)
  | .inr r => .ret r
theorem headC_ok {P : Program} {C : Ctx} {L : Loops} (hC : CtxSound P C ∧ CtxLocal C) (K : Cut) {rn : St → Tr (Ex × St)} : ∀ (n : Nat) (c : Code), LoopsOK P L c → RunOK P rn (restC n c) →
  RunOK P (fun st => (headC P C L K n c st).bind fun r => match r with
   | .inl d => rn (encS K.live K.Ts K.Es K.nt d.1 d.2)
   | .inr r => .ret r) c := by
 intro n
 induction n with
 | zero =>
  intro c hl hr g st st' a w x Q hs hm he hn
  cases c with
  | seq p q =>
   obtain ⟨e, h0, h3⟩ := Tr.bind_some he
   obtain ⟨r, h1, h2⟩ := Tr.bind_some (show ((run P C L p st).bind (cutR K)).eval = _ from h0)
   obtain ⟨y, s⟩ := r
   refine wpIn_seq (run_ok hC p hl.1 hs hm h1 fun g' a' w' hle hs' hm' => ?_)
   cases y with
   | normal =>
    simp only [Ex.out, Exit.then]
    unfold cutR at h2
    simp only at h2
    split at h2
    ·rename_i hh
     have h00 : ∀ t, isY (g'.sh t) K.E0[t]? := fun t => by rw [hs'.heap.sh]; exact heapIs_isY hh t
     split at h2
     ·rename_i d hd
      have := Tr.ret_some h2
      subst this
      obtain ⟨g3, q1, q2⟩ := renTo_rep (G.le.refl g') hs' h00 hd
      exact hr q2 (by rw [q1.ext]; exact hm'.mono q1) h3 fun g'' a'' w'' hle' hs'' hm'' => hn g'' a'' w'' ((hle.trans q1.d).trans hle') hs'' hm''
     ·exact (Tr.fail_some h2).elim
    ·exact (Tr.fail_some h2).elim
   | exit i =>
    have := Tr.ret_some h2
    subst this
    have := Tr.ret_some h3
    simp only [Prod.mk.injEq] at this
    obtain ⟨rfl, rfl⟩ := this
    exact hn g' a' w' hle hs' hm'
   | ret =>
    have := Tr.ret_some h2
    subst this
    have := Tr.ret_some h3
    simp only [Prod.mk.injEq] at this
    obtain ⟨rfl, rfl⟩ := this
    exact hn g' a' w' hle hs' hm'
  | _ => obtain ⟨e, h0, h3⟩ := Tr.bind_some he; exact (Tr.fail_some h0).elim
 | succ n ih =>
  intro c hl hr g st st' a w x Q hs hm he hn
  cases c with
  | seq p q =>
   obtain ⟨e, h0, h3⟩ := Tr.bind_some he
   obtain ⟨r, h1, h2⟩ := Tr.bind_some (show ((run P C L p st).bind fun r => match r with
    | (.normal, s) => headC P C L K n q s
    | r => (.ret (.inr r) : Tr (CutE K))).eval = _ from h0)
   obtain ⟨y, s⟩ := r
   refine wpIn_seq (run_ok hC p hl.1 hs hm h1 fun g' a' w' hle hs' hm' => ?_)
   cases y with
   | normal =>
    simp only [Ex.out, Exit.then]
    refine ih q hl.2 hr hs' hm' ?_ fun g'' a'' w'' hle' hs'' hm'' => hn g'' a'' w'' (hle.trans hle') hs'' hm''
    rw [Tr.eval_bind, show (headC P C L K n q s).eval = some e from h2]
    exact h3
   | exit i =>
    have := Tr.ret_some h2
    subst this
    have := Tr.ret_some h3
    simp only [Prod.mk.injEq] at this
    obtain ⟨rfl, rfl⟩ := this
    exact hn g' a' w' hle hs' hm'
   | ret =>
    have := Tr.ret_some h2
    subst this
    have := Tr.ret_some h3
    simp only [Prod.mk.injEq] at this
    obtain ⟨rfl, rfl⟩ := this
    exact hn g' a' w' hle hs' hm'
  | _ => obtain ⟨e, h0, h3⟩ := Tr.bind_some he; exact (Tr.fail_some h0).elim
theorem restC_loops {P : Program} {L : Loops} : ∀ {n : Nat} {c : Code}, LoopsOK P L c → LoopsOK P L (restC n c)
 | 0, c, h => by
  cases c with
  | seq p q => exact h.2
  | _ => exact h
 | n + 1, c, h => by
  cases c with
  | seq p q => exact restC_loops (n := n) h.2
  | _ => exact h
theorem runCuts_ok {P : Program} {C : Ctx} {L : Loops} (hC : CtxSound P C ∧ CtxLocal C) : ∀ (Ks : List Cut) (c : Code), LoopsOK P L c → RunOK P (runCuts P C L Ks c) c
 | [], c, hl => fun hs hm he hn => run_ok hC c hl hs hm he hn
 | K :: Ks, c, hl => headC_ok hC K K.depth c hl (runCuts_ok hC Ks _ (restC_loops hl))
def finC (P : Program) (S : PSpec) (fn : Func) (r : Ex × St) : Tr S.Out := match r with
 | (.exit _, _) => .fail
 | (_, s) => match resT P fn s with
  | some v => match S.norm (v, s.heap) with
   | some d => .ret d
   | none => .fail
  | none => .fail
def stC (P : Program) (C : Ctx) (L : Loops) (S : PSpec) (fn : Func) (Ks : List Cut) (c : Code) (st : St) : Tr S.Out := (runCuts P C L Ks c st).bind (finC P S fn)
theorem fnPX_st {P : Program} {C : Ctx} {L : Loops} {S : PSpec} {fn : Func} {Ks : List Cut} {c : Code} {xs : HL S.As} {hs : HD S.Es} :
  (fnPX P (runCuts P C L Ks c) S fn xs hs).eval = (stC P C L S fn Ks c (begin_ fn (mkArgs S.As xs) (encH S.Es hs))).eval := by
 unfold fnPX fnTX stC
 rw [Tr.eval_bind, Tr.eval_bind, Tr.eval_bind]
 cases (runCuts P C L Ks c (begin_ fn (mkArgs S.As xs) (encH S.Es hs))).eval with
 | none => rfl
 | some r =>
  obtain ⟨x, s⟩ := r
  simp only [Option.bind_some]
  cases x with
  | exit i => rfl
  | normal => simp only [finC]; cases h : resT P fn s <;> rfl
  | ret => simp only [finC]; cases h : resT P fn s <;> rfl
theorem pos_cuts {P : Program} {C : Ctx} {L : Loops} (hC : CtxSound P C ∧ CtxLocal C) (Ks : List Cut) {k : Nat} {fn : Func} (hf : P.funcs[k]? = some fn) {c : Code} (hb : fn.body = some c) (hname : (fn.name == "runtime.NumGoroutine") = false)
  (hl : ∀ b ∈ loopsOf c, LoopOK P L b) {S : PSpec} {pre : HL S.As → HD S.Es → Bool} {f : HL S.As → HD S.Es → S.Out}
  (h1 : ∀ xs hs, HL.ok S.As xs → HD.ok S.Es hs → pre xs hs = true → (stC P C L S fn Ks c (begin_ fn (mkArgs S.As xs) (encH S.Es hs))).eval = some (f xs hs)) : CSound P k (CSpec.pos S pre f) ∧ CLocal (CSpec.pos S pre f) :=
 pos_soundX (fnX := fnTX P (runCuts P C L Ks c) fn) (fun args w => callFunc_enter hf hname hb args w) (fun hI hargs he => fn_soundX hf hb (runCuts_ok hC Ks c (loopsOK_all hl)) hI hargs he)
  fun xs hs hx hh hp => fnPX_st.trans (h1 xs hs hx hh hp)
end Vse
end
section
set_option linter.unusedVariables false
namespace Vse
open Go Go.ChangeShapes Go.Proofs Go.Shelf
section
variable {P : Program} {C : Ctx} {L : Loops} {g : G} {H : Heap} {w : World}
def CSpec.grow0 (A : Ty) : CSpec :=
 ⟨1, fun _ _ => [], fun _ _ => [], fun vs _ fr => match vs with
  | [.v .nils _, .v (.int .i64) n] => .chk (decide (1 ≤ n ∧ n ≤ 140737488355328)) (.ret (.v (.vc fr 0) (), [(fr, .vec 0 A [])]))
  | _ => .fail⟩
theorem grow0_local (A : Ty) : CLocal (CSpec.grow0 A) where
 same vs H H' h := ⟨rfl, rfl⟩
 turns vs H fr out h x hx := by
  simp only [CSpec.grow0] at h
  split at h
  ·obtain ⟨_, h⟩ := Tr.chk_some h
   have := Tr.ret_some h
   subst this
   simp only [List.mem_singleton] at hx
   subst hx
   exact .inr (by simp [CSpec.grow0])
  ·exact (Tr.fail_some h).elim
theorem grow0_sound {A : Ty} (hA : A.sk = .leaf) {ρ : Ren} (hL : Lays8.n4 P ρ) {i0 : TypeInfo} {z : Value} (hi0 : P.info? (ρ.t 25) = some i0) (hz0 : i0.zero = some z) (hs0 : i0.size = 1) (hb0 : i0.bytes = 1) (hzc : z.cells = #[z]) (hzo : z.oneCell' = true)
  {kf : Nat} (hk : ρ.f 4 = kf) (henter : ∀ args w, (callFunc kf args).run P w = .ok (.enter kf args) w) : CSound P kf (CSpec.grow0 A) ∧ CLocal (CSpec.grow0 A) := by
 refine ⟨⟨henter, ?_⟩, grow0_local A⟩
 intro g H w vs rvs fr out hI hargs hfr he
 simp only [CSpec.grow0] at he
 split at he
 ·rename_i u n
  obtain ⟨hp, he⟩ := Tr.chk_some he
  have := Tr.ret_some he
  subst this
  have hp := of_decide_eq_true hp
  obtain ⟨n', hn'⟩ : ∃ m : Nat, n = (m : Int) := Int.eq_ofNat_of_zero_le (Int.le_trans (by decide) hp.1)
  subst hn'
  have hp : (1 : Int) ≤ (n' : Int) ∧ (n' : Int) ≤ 140737488355328 := hp
  rcases freeAt_one hfr with h0 | ⟨hf, hlt⟩
  ·cases h0
  obtain ⟨r1, rs, rfl, hv1, r2, rs2, rfl, hv2, hr3⟩ := hargs
  have hr3 : rs2 = [] := hr3
  subst hr3
  have hv := (VRep_v (by simp)).1 hv1
  simp only [TRep, Ty.agg, Ty.sk, Sk.agg, Bool.false_eq_true, if_false, Rep, List.cons.injEq, and_true] at hv
  subst hv
  obtain ⟨rfl, _⟩ := TRep_int.1 ((VRep_v (by simp)).1 hv2)
  have hcon := Any8.slices_Grow_grow hL i0 z hi0 hz0 (by omega) none 0 0 n' [] w (Nat.le_refl _) (by omega) (by rw [hb0]; omega) (by omega) (by simp) (fun _ => rfl) (fun a h => by cases h)
  rw [hk] at hcon
  refine hcon.mono ?_
  rintro ed w' ⟨rfl, rfl⟩
  rw [Nat.zero_add, hzc]
  have hG := Go.grownCap_ge w n' 0 (ρ.t 25)
  have hGm := Go.grownCap_le_maxLen w n' 0 (ρ.t 25) (by unfold maxLen; omega)
  generalize grownCap w n' 0 (ρ.t 25) = K at hG hGm ⊢
  unfold maxLen at hGm
  generalize hcs : ([] : List Value).toArray ++ Builtin.zeroCells #[z] (n' - 0) ++ Builtin.zeroCells #[z] (K - n') = cs
  have hsz : cs.size = K := by
   rw [← hcs]
   simp [Builtin.zeroCells]
   omega
  have hone : ∀ v ∈ cs.toList, v.oneCell' = true := by
   intro v hv
   rw [← hcs] at hv
   simp only [Builtin.zeroCells, Array.toList_append, Array.toList_map, List.mem_append, List.mem_map] at hv
   rcases hv with (h | ⟨i, _, rfl⟩) | ⟨i, _, rfl⟩
   ·cases h
   ·rw [show i % #[z].size = 0 from Nat.mod_one i]; exact hzo
   ·rw [show i % #[z].size = 0 from Nat.mod_one i]; exact hzo
  obtain ⟨g', w1, w2, w3, w4, w5⟩ := hI.newVec (w1 := w.drew) hf hlt 0 (a := A) (l := []) (cs := cs) (vs := []) (r := cs.toList) (ρ.t 25) rfl ⟨rfl, Nat.le_succ _⟩ rfl rfl hone
  refine ⟨_, g', rfl, w1, w2, (VRep_v (by simp)).2 (TRep_of_leaf rfl ?_)⟩
  simp only [Rep, G.vcr, w3]
  refine ⟨⟨_, rfl, rfl⟩, Nat.le_refl _, fun _ => .inr ⟨w.heap.size, K, w4, rfl, ⟨Nat.zero_le _, by omega⟩, ?_⟩⟩
  rw [w5, hsz]
  unfold Sk.nc
  rw [hA]
  simp
 ·exact (Tr.fail_some he).elim
end
end Vse
end
section
set_option linter.unusedVariables false
set_option maxRecDepth 100000
namespace Go.Proofs.Ytffdkniccaebmaa.Sto
open Go Vse Go.Proofs Fld
abbrev stT (v K : Nat) : Ty := .prod (.vc v K) (.prod i64 (.prod i64 (.prod i64 (.prod .bool .unit))))
abbrev D := (Unit × Int × Int × Int × Bool × Unit) × List Int × Unit
def D.b (d : D) : List Int := d.2.1
def D.sure (d : D) : Int := d.1.2.1
def D.room (d : D) : Int := d.1.2.2.1
def D.fuse (d : D) : Int := d.1.2.2.2.1
def D.down (d : D) : Bool := d.1.2.2.2.2.1
def mk (b : List Int) (sure room fuse : Int) (down : Bool) : D := (((), sure, room, fuse, down, ()), b, ())
abbrev R1 := (Int × Unit) × D
def er (e : Int) (d : D) : R1 := ((e, ()), d)
theorem bf {x y : Int} (h : ¬ x = y) : (x == y) = false := by simp [h]
theorem nt {x y : Int} (h : ¬ x = y) : (x != y) = true := by simp [h]
def rdyF (m : Int) (d : D) : R1 :=
 if d.down = true ∨ d.fuse = 0 then er 8 (mk d.b d.sure d.room d.fuse true)
 else er (if m > d.room then 7 else 0) (mk d.b d.sure d.room (if d.fuse = -1 then d.fuse else w (d.fuse - 1)) false)
def rdyG (m : Int) (d : D) : Tr R1 :=
 let E (e : Int) (fuse : Int) (down : Bool) : Tr R1 := .ret ((e, ()), ((), d.1.2.1, d.1.2.2.1, fuse, down, ()), d.2.1, ())
 let fin (fuse : Int) (down : Bool) : Tr R1 := .ite (decide (m > d.1.2.2.1)) (E 7 fuse down) (E 0 fuse down)
 .ite d.1.2.2.2.2.1 (E 8 d.1.2.2.2.1 true) (.ite (d.1.2.2.2.1 == 0) (E 8 d.1.2.2.2.1 (d.1.2.2.2.1 == 0)) (.ite (d.1.2.2.2.1 != -1) (fin (w (d.1.2.2.2.1 - 1)) (d.1.2.2.2.1 == 0)) (fin d.1.2.2.2.1 (d.1.2.2.2.1 == 0))))
theorem rdy_eq (m : Int) (d : D) : (rdyG m d).eval = some (rdyF m d) := by
 obtain ⟨⟨u, sure, room, fuse, down, u'⟩, b, u''⟩ := d
 simp only [rdyG, rdyF, D.down, D.fuse, D.b, D.sure, D.room, mk, er]
 cases down
 ·by_cases h0 : fuse = 0
  ·subst h0; rfl
  ·by_cases h1 : fuse = -1
   ·subst h1
    by_cases h2 : m > room <;> simp [Tr.eval, h2]
   ·by_cases h2 : m > room <;> simp [Tr.eval, h2, bf h0, nt h1, h0, h1]
 ·simp [Tr.eval]
def fits (d : D) (x : List Int) : Bool := room (d.b.length + x.length) 1
def appF (e : Int → D → R1) (x : List Int) (d : D) : R1 :=
 let q := e (w ((d.b.length : Int) + x.length)) d
 if q.1.1 = 0 then (q.1, q.2.1, q.2.2.1 ++ x, ()) else q
def appP (e : Int → D → R1) (x : List Int) (d : D) : Bool := fits (e (w ((d.b.length : Int) + x.length)) d).2 x
def appG (e : Int → D → R1) (x : List Int) (d : D) : Tr R1 :=
 let q := e (w ((d.2.1.length : Int) + x.length)) d
 .ite (q.1.1 == 0) (.chk (room (q.2.2.1.length + x.length) 1) (.ret (q.1, q.2.1, q.2.2.1 ++ x, ()))) (.ret q)
theorem app_eq (e : Int → D → R1) (x : List Int) (d : D) (h : appP e x d = true) : (appG e x d).eval = some (appF e x d) := by
 simp only [appP, fits, D.b] at h
 simp only [appG, appF, D.b, Tr.chk, h]
 by_cases h0 : (e (w ((d.2.1.length : Int) + x.length)) d).1.1 = 0
 ·simp [Tr.eval, h0]
 ·simp [Tr.eval, h0, bf h0]
def syncF (e : Int → D → R1) (d : D) : R1 :=
 let q := e 0 d
 if q.1.1 = 0 then (q.1, mk q.2.b q.2.b.length q.2.room q.2.fuse q.2.down) else q
def syncG (e : Int → D → R1) (d : D) : Tr R1 :=
 let q := e 0 d
 .ite (q.1.1 == 0) (.ret (q.1, ((), (q.2.2.1.length : Int), q.2.1.2.2.1, q.2.1.2.2.2.1, q.2.1.2.2.2.2.1, ()), q.2.2.1, ())) (.ret q)
theorem sync_eq (e : Int → D → R1) (d : D) : (syncG e d).eval = some (syncF e d) := by
 simp only [syncG, syncF]
 by_cases h0 : (e 0 d).1.1 = 0
 ·simp [Tr.eval, h0]; rfl
 ·simp [Tr.eval, h0, bf h0]
def repF (e : Int → D → R1) (x : List Int) (d : D) : R1 :=
 let q := e x.length d
 if q.1.1 = 0 then (q.1, mk x x.length q.2.room q.2.fuse q.2.down) else q
def repG (e : Int → D → R1) (x : List Int) (d : D) : Tr R1 :=
 let q := e x.length d
 .ite (q.1.1 == 0) (.chk (decide ((x.length : Int) = x.length) && (decide (0 ≤ (x.length : Int)) && room (x.length : Int).toNat 1))
  (.ret (q.1, ((), (x.length : Int), q.2.1.2.2.1, q.2.1.2.2.2.1, q.2.1.2.2.2.2.1, ()), overL (List.replicate (x.length : Int).toNat 0) x, ()))) (.ret q)
theorem over_zero (x : List Int) : overL (List.replicate (x.length : Int).toNat 0) x = x := by
 simp [overL]
theorem rep_eq (e : Int → D → R1) (x : List Int) (d : D) (h : room x.length 1 = true) : (repG e x d).eval = some (repF e x d) := by
 have h1 : (decide ((x.length : Int) = x.length) && (decide (0 ≤ (x.length : Int)) && room (x.length : Int).toNat 1)) = true := by simp [h]
 simp only [repG, repF, Tr.chk, over_zero]
 by_cases h0 : (e x.length d).1.1 = 0
 ·simp [Tr.eval, h0, h]; rfl
 ·simp [Tr.eval, h0, bf h0]
end Go.Proofs.Ytffdkniccaebmaa.Sto
end
section
set_option linter.unusedVariables false
set_option maxRecDepth 100000
namespace Go.Proofs.Ytffdkniccaebmaa.Sto
open Go Vse Go.Proofs Fld
theorem noL {L : Loops} {fn : Func} (h : loopsOf (bodyOf fn) = []) : ∀ b ∈ loopsOf (bodyOf fn), LoopOK Try.prog L b := by rw [h]; intro b hb; cases hb
abbrev sE (k : Nat) : List ETy := [.box (stT 1 k), .vec k u8]
abbrev sS (As Rs : List Ty) : PSpec := ⟨.ptr 0 [] :: As, Rs, sE 0, sE 1, []⟩
def c63 (e : Int → D → R1) : List (Nat × CSpec) := [(113, .pos (sS [i64] [i64]) (fun _ _ => true) fun xs d => e xs.2.1 d)]
theorem k63 (m : Int) (d : D) : (fnP Try.prog (ctx []) L0 (sS [i64] [i64]) Try.f113 ((), m, ()) d).eval = (rdyG m d).eval := by kernel_rfl
theorem c63_sound : CtxSound Try.prog (ctx (c63 rdyF)) ∧ CtxLocal (ctx (c63 rdyF)) := ctx_sound ⟨pos_sound nil_sound Try.func113 (by kernel_rfl) (noL (by kernel_rfl)) fun xs hs _ _ _ => (k63 xs.2.1 hs).trans (rdy_eq xs.2.1 hs), trivial⟩
theorem k48 (e : Int → D → R1) (x : List Int) (d : D) : (fnP Try.prog (ctx (c63 e)) L0 (sS [bs] [i64]) Try.f92 ((), x, ()) d).eval = (appG e x d).eval := by kernel_rfl
theorem k49 (e : Int → D → R1) (d : D) : (fnP Try.prog (ctx (c63 e)) L0 (sS [] [i64]) Try.f93 ((), ()) d).eval = (syncG e d).eval := by kernel_rfl
theorem k51 (e : Int → D → R1) (x : List Int) (d : D) : (fnP Try.prog (ctx (c63 e)) L0 (sS [bs] [i64]) Try.f89 ((), x, ()) d).eval = (repG e x d).eval := by kernel_rfl
theorem k20 (d : D) : (fnP Try.prog (ctx []) L0 (sS [] [bt]) Try.f76 ((), ()) d).eval = (Tr.chk (decide ((d.2.1.length : Int) = d.2.1.length) && (decide (0 ≤ (d.2.1.length : Int)) && room (d.2.1.length : Int).toNat 1)) (.ret ((overL (List.replicate (d.2.1.length : Int).toNat 0) d.2.1, ()), d))).eval := by kernel_rfl
def s48 : CSpec := .pos (sS [bs] [i64]) (fun xs d => appP rdyF xs.2.1 d) fun xs d => appF rdyF xs.2.1 d
def s49 : CSpec := .pos (sS [] [i64]) (fun _ _ => true) fun xs d => syncF rdyF d
def s51 : CSpec := .pos (sS [bs] [i64]) (fun xs _ => room (List.length (α := Int) xs.2.1) 1) fun xs d => repF rdyF xs.2.1 d
def s20 : CSpec := .pos (sS [] [bt]) (fun _ d => room (D.b d).length 1) fun xs d => ((D.b d, ()), d)
theorem ok48 : CSound Try.prog 92 s48 ∧ CLocal s48 := pos_sound c63_sound Try.func92 (by kernel_rfl) (noL (by kernel_rfl)) fun xs hs _ _ hp => (k48 rdyF xs.2.1 hs).trans (app_eq rdyF xs.2.1 hs hp)
theorem ok49 : CSound Try.prog 93 s49 ∧ CLocal s49 := pos_sound c63_sound Try.func93 (by kernel_rfl) (noL (by kernel_rfl)) fun xs hs _ _ hp => (k49 rdyF hs).trans (sync_eq rdyF hs)
theorem ok51 : CSound Try.prog 89 s51 ∧ CLocal s51 := pos_sound c63_sound Try.func89 (by kernel_rfl) (noL (by kernel_rfl)) fun xs hs _ _ hp => (k51 rdyF xs.2.1 hs).trans (rep_eq rdyF xs.2.1 hs hp)
theorem ok20 : CSound Try.prog 76 s20 ∧ CLocal s20 := pos_sound nil_sound Try.func76 (by kernel_rfl) (noL (by kernel_rfl)) fun xs hs _ _ hp => (k20 hs).trans (by
 have hp : room (List.length (α := Int) hs.2.1) 1 = true := hp
 have h1 : (decide ((List.length (α := Int) hs.2.1 : Int) = List.length (α := Int) hs.2.1) && (decide (0 ≤ (List.length (α := Int) hs.2.1 : Int)) && room (List.length (α := Int) hs.2.1 : Int).toNat 1)) = true := by simp [hp]
 rw [h1, over_zero]
 rfl)
end Go.Proofs.Ytffdkniccaebmaa.Sto
end
section
set_option linter.unusedVariables false
set_option maxRecDepth 100000
namespace Go.Proofs.Ytffdkniccaebmaa.Sto
open Go Vse Go.Proofs Fld
def okRoom (n : Int) : Bool := decide (0 ≤ n) && decide (n ≤ 1048576)
abbrev nA : PSpec := ⟨[i64], [.ptr 0 [], i64], [], sE 0, [(0, 0, u8)]⟩
abbrev nB : PSpec := ⟨[i64], [.nilp, i64], [], [], []⟩
def newF (n : Int) : (Unit × Int × Unit) × D := (((), 0, ()), mk [] 0 n (-1) false)
def newS : CSpec := .two (posSel nA fun xs _ => okRoom xs.1) (.pos nA (fun xs _ => okRoom xs.1) fun xs _ => newF xs.1) (.pos nB (fun xs _ => !okRoom xs.1) fun xs _ => (((), 1, ()), ()))
theorem k15a (n : Int) : (fnP Try.prog (ctx []) L0 nA Try.f41 (n, ()) ()).eval = (Tr.ite (decide (n < 0)) .fail (.ite (decide (n > 1048576)) .fail (.ret (newF n)))).eval := by kernel_rfl
theorem k15b (n : Int) : (fnP Try.prog (ctx []) L0 nB Try.f41 (n, ()) ()).eval = (Tr.ite (decide (n < 0)) (.ret (((), (1 : Int), ()), ())) (.ite (decide (n > 1048576)) (.ret (((), (1 : Int), ()), ())) .fail)).eval := by kernel_rfl
theorem newA {α : Type} {n : Int} (h : okRoom n = true) (r : α) : (Tr.ite (decide (n < 0)) .fail (.ite (decide (n > 1048576)) .fail (.ret r))).eval = some r := by
 simp only [okRoom, Bool.and_eq_true, decide_eq_true_eq] at h
 simp only [Tr.eval, decide_eq_false (show ¬ n < 0 by omega), decide_eq_false (show ¬ n > 1048576 by omega)]
theorem newB {α : Type} {n : Int} (h : (!okRoom n) = true) (r : α) : (Tr.ite (decide (n < 0)) (.ret r) (.ite (decide (n > 1048576)) (.ret r) .fail)).eval = some r := by
 simp only [okRoom, Bool.not_eq_true', Bool.and_eq_false_iff, decide_eq_false_iff_not] at h
 by_cases h0 : n < 0
 ·simp [Tr.eval, h0]
 ·simp [Tr.eval, h0, show n > 1048576 by omega]
theorem ok15 : CSound Try.prog 41 newS ∧ CLocal newS :=
 two_sound _ rfl rfl (pos_sound nil_sound Try.func41 (by kernel_rfl) (noL (by kernel_rfl)) fun xs hs _ _ hp => (k15a xs.1).trans (newA hp _))
  (pos_sound nil_sound Try.func41 (by kernel_rfl) (noL (by kernel_rfl)) fun xs hs _ _ hp => (k15b xs.1).trans (newB hp _))
end Go.Proofs.Ytffdkniccaebmaa.Sto
end
section
set_option linter.unusedVariables false
set_option linter.unusedSimpArgs false
set_option maxRecDepth 100000
namespace Go.Proofs.Ytffdkniccaebmaa.Jnl
open Go Vse Go.Proofs Gen
theorem w_succ {k n : Nat} (h : k < n) (hn : n ≤ 9223372036854775807) : w ((k : Int) + 1) = ((k + 1 : Nat) : Int) := by rw [w_id (by omega) (by omega)]; omega
theorem inArr_of {k n : Nat} (h : k < n) : inArr (k : Int) n = true := by simp [inArr]; omega
theorem getD_of {α : Type} {l : List α} {k : Nat} (h : k < l.length) (d : α) : l.getD k d = l[k] := by rw [List.getD_eq_getElem?_getD, List.getElem?_eq_getElem h]; rfl
def SEq : RSpec := ⟨[0, 1, 12, 13], 26, [bs, bs, i64, i64], [], [], [], fun x => match x with | .ret => ([4], [.bool], []) | _ => ([], [], [])⟩
noncomputable def bEq : Code := loopAt Try.f87 0
def GEq (a b : List Int) (n i : Int) : Tr SEq.End :=
 .ite (decide (i < n)) (.chk (inArr i a.length) (.chk (inArr i b.length) (.ite (!decide (a.getD i.toNat 0 = b.getD i.toNat 0)) (.ret (.inr (.ret, encS [4] [.bool] [] 26 (false, ()) ()))) (.ret (.inl ((a, b, n, w (i + 1), ()), ()))))))
  (.ret (.inr (.exit 0, encS [] [] [] 26 () ())))
theorem rEq (a b : List Int) (n i : Int) : (SEq.round (bodyK Try.prog (ctx []) L0 bEq) (a, b, n, i, ()) ()).eval = (GEq a b n i).eval := by kernel_rfl
theorem mEq (a b : List Int) (hl : a.length ≤ 9223372036854775807) (hb : b.length = a.length) : ∀ (m k : Nat), k + m = a.length →
  SEq.many (bodyK Try.prog (ctx []) L0 bEq) (m + 1) (a, b, (a.length : Int), (k : Int), ()) () = if a.drop k = b.drop k then some (.exit 0, encS [] [] [] 26 () ()) else some (.ret, encS [4] [.bool] [] 26 (false, ()) ())
 | 0, k, h => by
  have e1 : a.drop k = [] := List.drop_eq_nil_of_le (by omega)
  have e2 : b.drop k = [] := List.drop_eq_nil_of_le (by omega)
  rw [e1, e2, if_pos rfl]
  refine rmany_inr ((rEq a b _ _).trans ?_) 0
  unfold GEq
  rw [ite_f (decide_eq_false (by omega))]
  rfl
 | m + 1, k, h => by
  have h1 : k < a.length := by omega
  have h2 : k < b.length := by omega
  have e1 := List.drop_eq_getElem_cons h1
  have e2 := List.drop_eq_getElem_cons h2
  by_cases hq : a[k] = b[k]
  ·have e3 : (a.drop k = b.drop k) = (a.drop (k + 1) = b.drop (k + 1)) := by simp only [e1, e2, hq, List.cons.injEq, true_and]
   simp only [e3]
   refine (rmany_inl (d := ((a, b, (a.length : Int), ((k + 1 : Nat) : Int), ()), ())) ((rEq a b _ _).trans ?_) (m + 1)).trans (mEq a b hl hb m (k + 1) (by omega))
   unfold GEq
   rw [ite_t (decide_eq_true (by omega)), chk_eval (inArr_of h1), chk_eval (inArr_of h2), Int.toNat_natCast, getD_of h1, getD_of h2, ite_f (by simp [hq]), w_succ h1 hl]
   rfl
  ·rw [if_neg (by rw [e1, e2]; exact fun hh => hq (List.cons.inj hh).1)]
   refine rmany_inr ((rEq a b _ _).trans ?_) _
   unfold GEq
   rw [ite_t (decide_eq_true (by omega)), chk_eval (inArr_of h1), chk_eval (inArr_of h2), Int.toNat_natCast, getD_of h1, getD_of h2, ite_t (by simp [hq])]
   rfl
def cEq (a b : List Int) (n i : Int) : Bool := decide (a.length ≤ 9223372036854775807) && (decide (b.length = a.length) && (decide (n = (a.length : Int)) && decide (i = 0)))
abbrev sameF : List Int → List Int → Bool := Fld.sameI
def FEq (c : List Int → List Int → Int → Int → Bool) (f : List Int → List Int → Bool) (xs : HL SEq.Ts) (hs : HD SEq.Es) : Tr (Ex × St) :=
 .chk (c xs.1 xs.2.1 xs.2.2.1 xs.2.2.2.1) (.ite (f xs.1 xs.2.1) (.ret (.exit 0, encS [] [] [] 26 () ())) (.ret (.ret, encS [4] [.bool] [] 26 (false, ()) ())))
def LEq (c : List Int → List Int → Int → Int → Bool) (f : List Int → List Int → Bool) : Loops := fun j st => if j = 4 then SEq.fn (FEq c f) st else .fail
theorem lEq : LoopOK Try.prog (LEq cEq sameF) bEq :=
 rloop_ok (L := LEq cEq sameF) (L' := L0) nil_sound (loopsOK_of (by kernel_rfl)) SEq (F := FEq cEq sameF) (i := 4) (by kernel_rfl) (fun _ => rfl) fun xs hs q h => by
  obtain ⟨a, b, n, i, u⟩ := xs
  obtain ⟨h1, h2⟩ := Tr.chk_some h
  simp only [cEq, Bool.and_eq_true, decide_eq_true_eq] at h1
  obtain ⟨hl, hb, hn, e2⟩ := h1
  have e2 : i = ((0 : Nat) : Int) := e2
  have hn : n = ((List.length (α := Int) a : Nat) : Int) := hn
  subst e2; subst hn
  refine ⟨List.length (α := Int) a + 1, ?_⟩
  have := mEq a b hl hb (List.length (α := Int) a) 0 (by omega)
  rw [List.drop_zero, List.drop_zero] at this
  refine this.trans ?_
  rcases Tr.ite_some h2 with ⟨hx, h3⟩ | ⟨hx, h3⟩
  ·have hx : a = b := of_decide_eq_true hx
   rw [if_pos hx]
   exact congrArg some (Tr.ret_some h3)
  ·have hx : ¬ a = b := of_decide_eq_false hx
   rw [if_neg hx]
   exact congrArg some (Tr.ret_some h3)
def TEq (c : List Int → List Int → Int → Int → Bool) (f : List Int → List Int → Bool) (a b : List Int) : Tr AV :=
 .ite (!decide ((a.length : Int) = (b.length : Int))) (.ret (.v .bool false)) (.chk (c a b (a.length : Int) 0) (.ite (f a b) (.ret (.v .bool true)) (.ret (.v .bool false))))
theorem tEqL (c : List Int → List Int → Int → Int → Bool) (f : List Int → List Int → Bool) (a b : List Int) :
  nrm (fnS Try.prog (ctx []) (LEq c f) [.bool] Try.f87 (mkArgs [bs, bs] (a, b, ()))) = (TEq c f a b).eval := by kernel_rfl
def sSl2 (f : List Int → List Int → Bool) : CSpec := .slp1 [bs, bs] (fun _ => true) .bool fun x => f x.1 x.2.1
theorem okEqL : CSound Try.prog 87 (sSl2 sameF) ∧ CLocal (sSl2 sameF) :=
 slpE1 (L := LEq cEq sameF) nil_sound Try.func87 (by kernel_rfl) (loops1 (by kernel_rfl) lEq) fun xs hx hp => by
  obtain ⟨a, b, u⟩ := xs
  have hl : List.length (α := Int) a ≤ 9223372036854775807 := hx.1.1
  refine (tEqL cEq sameF a b).trans ?_
  show _ = some (AV.v .bool (sameF a b))
  unfold TEq
  by_cases h : List.length (α := Int) a = List.length (α := Int) b
  ·rw [ite_f (by simp [h]), chk_eval (by unfold cEq; rw [decide_eq_true hl, decide_eq_true h.symm]; simp)]
   cases sameF a b <;> rfl
  ·rw [ite_t (by simp; omega), show sameF a b = false from decide_eq_false fun hh => h (by rw [hh])]; rfl
def cloB_ren : Go.Shelf.Ren := ⟨fun | 41 => 86 | n => n, fun | 22 => 52 | 23 => 5 | 4 => 4 | n => n, fun | n => n⟩
theorem cloB : Go.Proofs.SlLaysE0.n41 Try.prog cloB_ren := {
 mixed := by kernel_rfl
 f41 := ⟨Try.f86.name, by decide, Try.func86.trans (congrArg some (by kernel_rfl))⟩
 t4 := Try.underlying4
 a4 := Try.isAgg4
 z4 := Try.sizeOf4
 v4 := Try.zeroValue4
 t22 := Try.underlying52
 a22 := Try.isAgg52
 z22 := Try.sizeOf52
 v22 := Try.zeroValue52 }
theorem tClS (l : List Int) : nrm (fnS Try.prog (ctx []) L0 [bt] Try.f86 (mkArgs [.imm false true u8] (l, ()))) = (Tr.chk (Vse.room (0 + l.length) 1) (.ret (.v bt l)) : Tr AV).eval := by kernel_rfl
def okC (l : List Int) : Bool := decide (l.length ≤ 140737488355328)
def sClS : CSpec := .slp1 [bs] (fun xs => okC xs.1) bt fun xs => xs.1
theorem okClS : CSound Try.prog 86 sClS ∧ CLocal sClS :=
 clone_sound (A := u8) nil_sound Try.func86 rfl rfl (by kernel_rfl) (noLoopsL (by kernel_rfl)) (fun n c w => AnyE.slices_Clone_nil cloB n c w) fun l hl => (tClS l).trans (chk_eval (by
  have := of_decide_eq_true hl
  simp [Vse.room]; omega) _)
def groB_ren : Go.Shelf.Ren := ⟨fun | 4 => 127 | n => n, fun | 22 => 52 | 25 => 5 | n => n, fun | n => n⟩
theorem groB : Go.Proofs.Lays8.n4 Try.prog groB_ren := {
 mixed := by kernel_rfl
 f4 := ⟨Try.f127.name, by decide, Try.func127.trans (congrArg some (by kernel_rfl))⟩
 t0 := Try.underlying0
 a0 := Try.isAgg0
 z0 := Try.sizeOf0
 v0 := Try.zeroValue0
 t3 := Try.underlying3
 a3 := Try.isAgg3
 z3 := Try.sizeOf3
 v3 := Try.zeroValue3
 t4 := Try.underlying4
 a4 := Try.isAgg4
 z4 := Try.sizeOf4
 v4 := Try.zeroValue4
 t9 := Try.underlying9
 a9 := Try.isAgg9
 z9 := Try.sizeOf9
 v9 := Try.zeroValue9
 t20 := Try.underlying20
 a20 := Try.isAgg20
 z20 := Try.sizeOf20
 v20 := Try.zeroValue20
 t22 := Try.underlying52
 a22 := Try.isAgg52
 z22 := Try.sizeOf52
 v22 := Try.zeroValue52 }
theorem enterF {k : Nat} {fn : Func} (hf : Try.prog.funcs[k]? = some fn) (h : ((fn.name == "runtime.NumGoroutine") == false && fn.body.isSome) = true) (args : Array Value) (w : World) : (callFunc k args).run Try.prog w = .ok (.enter k args) w := by
 simp only [Bool.and_eq_true, beq_iff_eq] at h
 obtain ⟨c, hc⟩ := Option.isSome_iff_exists.1 h.2
 exact callFunc_enter hf h.1 hc args w
theorem okGr : CSound Try.prog 127 (CSpec.grow0 u8) ∧ CLocal (CSpec.grow0 u8) :=
 grow0_sound (A := u8) rfl groB (z := .int .u8 0) rfl rfl rfl rfl rfl rfl rfl (fun a w => enterF Try.func127 (by kernel_rfl) a w)
end Go.Proofs.Ytffdkniccaebmaa.Jnl
end
section
set_option linter.unusedVariables false
set_option linter.unusedSimpArgs false
set_option maxRecDepth 100000
namespace Go.Proofs.Ytffdkniccaebmaa.Jnl
open Go Vse Go.Proofs Gen
abbrev lb : Ty := .imm false false bs
noncomputable def bCa : Code := loopAt Try.f112 0
noncomputable def bCb : Code := loopAt Try.f112 1
def SCa : RSpec := ⟨[0, 3, 9, 10, 11], 36, [lb, i64, lb, i64, i64], [], [], [], fun x => match x with | .ret => ([], [], []) | _ => ([0, 3], [lb, i64], [])⟩
def GCa (l : List (List Int)) (s n i : Int) : Tr SCa.End :=
 .ite (decide (i < n)) (.chk (inArr i l.length) (.ite (decide (w (s + ((l.getD i.toNat []).length : Int)) < 0)) .fail (.ret (.inl ((l, w (s + ((l.getD i.toNat []).length : Int)), l, n, w (i + 1), ()), ())))))
  (.ret (.inr (.exit 0, encS [0, 3] [lb, i64] [] 36 (l, s, ()) ())))
theorem rCa (l : List (List Int)) (s n i : Int) : (SCa.round (bodyK Try.prog (ctx []) L0 bCa) (l, s, l, n, i, ()) ()).eval = (GCa l s n i).eval := by kernel_rfl
def SCb : RSpec := ⟨[6, 25, 26, 27], 36, [.vc 0 1, lb, i64, i64], [.vec 1 u8], [.vec 0 u8], [], fun x => match x with | .ret => ([], [], []) | _ => ([6], [.vc 0 1], [.vec 1 u8])⟩
def GCb (l : List (List Int)) (o : List Int) (n i : Int) : Tr SCb.End :=
 .ite (decide (i < n)) (.chk (inArr i l.length) (.chk (Vse.room (o.length + (l.getD i.toNat []).length) 1) (.ret (.inl (((), l, n, w (i + 1), ()), (o ++ l.getD i.toNat [], ()))))))
  (.ret (.inr (.exit 2, encS [6] [.vc 0 1] [.vec 1 u8] 36 ((), ()) (o, ()))))
theorem rCb (l : List (List Int)) (o : List Int) (n i : Int) : (SCb.round (bodyK Try.prog (ctx []) L0 bCb) ((), l, n, i, ()) (o, ())).eval = (GCb l o n i).eval := by kernel_rfl
def flat (l : List (List Int)) : List Int := l.flatten
theorem flat_take {l : List (List Int)} {k : Nat} (h : k < l.length) : flat (l.take (k + 1)) = flat (l.take k) ++ l[k] := by
 unfold flat
 rw [List.take_add_one, List.getElem?_eq_getElem h, List.flatten_append]
 simp
theorem flat_le (l : List (List Int)) (k : Nat) : (flat (l.take k)).length ≤ (flat l).length := by
 have : flat l = flat (l.take k) ++ flat (l.drop k) := by unfold flat; rw [← List.flatten_append, List.take_append_drop]
 rw [this, List.length_append]; omega
theorem mCa (l : List (List Int)) (hl : l.length ≤ 9223372036854775807) (hf : (flat l).length ≤ 140737488355328) : ∀ (m k : Nat), k + m = l.length →
  SCa.many (bodyK Try.prog (ctx []) L0 bCa) (m + 1) (l, ((flat (l.take k)).length : Int), l, (l.length : Int), (k : Int), ()) () = some (.exit 0, encS [0, 3] [lb, i64] [] 36 (l, ((flat l).length : Int), ()) ())
 | 0, k, h => by
  have e1 : l.take k = l := List.take_of_length_le (by omega)
  rw [e1]
  refine rmany_inr ((rCa l _ _ _).trans ?_) 0
  unfold GCa
  rw [ite_f (decide_eq_false (by omega))]
  rfl
 | m + 1, k, h => by
  have h1 : k < l.length := by omega
  have e2 := flat_take h1
  have h3 := flat_le l (k + 1)
  have e3 : w (((flat (l.take k)).length : Int) + ((l.getD k []).length : Int)) = ((flat (l.take (k + 1))).length : Int) := by
   rw [getD_of h1, e2, List.length_append]
   rw [e2, List.length_append] at h3
   rw [w_id (by omega) (by omega)]; omega
  refine (rmany_inl (d := ((l, ((flat (l.take (k + 1))).length : Int), l, (l.length : Int), ((k + 1 : Nat) : Int), ()), ())) ((rCa l _ _ _).trans ?_) (m + 1)).trans (mCa l hl hf m (k + 1) (by omega))
  unfold GCa
  rw [Int.toNat_natCast, ite_t (decide_eq_true (by omega)), chk_eval (inArr_of h1), e3, ite_f (decide_eq_false (by omega)), w_succ h1 hl]
  rfl
theorem mCb (l : List (List Int)) (hl : l.length ≤ 9223372036854775807) (hf : (flat l).length ≤ 140737488355328) : ∀ (m k : Nat), k + m = l.length →
  SCb.many (bodyK Try.prog (ctx []) L0 bCb) (m + 1) ((), l, (l.length : Int), (k : Int), ()) (flat (l.take k), ()) = some (.exit 2, encS [6] [.vc 0 1] [.vec 1 u8] 36 ((), ()) (flat l, ()))
 | 0, k, h => by
  have e1 : l.take k = l := List.take_of_length_le (by omega)
  rw [e1]
  refine rmany_inr ((rCb l _ _ _).trans ?_) 0
  unfold GCb
  rw [ite_f (decide_eq_false (by omega))]
  rfl
 | m + 1, k, h => by
  have h1 : k < l.length := by omega
  have e2 := flat_take h1
  have h3 := flat_le l (k + 1)
  have hr : Vse.room ((flat (l.take k)).length + l[k].length) 1 = true := by
   rw [e2, List.length_append] at h3
   simp only [Vse.room, decide_eq_true_eq]; omega
  refine (rmany_inl (d := (((), l, (l.length : Int), ((k + 1 : Nat) : Int), ()), (flat (l.take (k + 1)), ()))) ((rCb l _ _ _).trans ?_) (m + 1)).trans (mCb l hl hf m (k + 1) (by omega))
  unfold GCb
  rw [Int.toNat_natCast, ite_t (decide_eq_true (by omega)), chk_eval (inArr_of h1), getD_of h1, chk_eval hr, e2, w_succ h1 hl]
  rfl
def okT (l : List (List Int)) : Bool := decide (l.length ≤ 9223372036854775807) && decide ((flat l).length ≤ 140737488355328)
def cCa (l : List (List Int)) (s : Int) (l2 : List (List Int)) (n i : Int) : Bool := okT l && (decide (s = 0) && (decide (l2 = l) && (decide (n = (l.length : Int)) && decide (i = 0))))
def cCb (o : List Int) (l : List (List Int)) (n i : Int) : Bool := okT l && (decide (o.length = 0) && (decide (n = (l.length : Int)) && decide (i = 0)))
abbrev Cca := List (List Int) → Int → List (List Int) → Int → Int → Bool
abbrev Ccb := List Int → List (List Int) → Int → Int → Bool
def FCa (c : Cca) (t : List (List Int) → Int) (xs : HL SCa.Ts) (hs : HD SCa.Es) : Tr (Ex × St) := .chk (c xs.1 xs.2.1 xs.2.2.1 xs.2.2.2.1 xs.2.2.2.2.1) (.ret (.exit 0, encS [0, 3] [lb, i64] [] 36 (xs.1, t xs.1, ()) ()))
def FCb (c : Ccb) (f : List (List Int) → List Int) (xs : HL SCb.Ts) (hs : HD SCb.Es) : Tr (Ex × St) := .chk (c hs.1 xs.2.1 xs.2.2.1 xs.2.2.2.1) (.ret (.exit 2, encS [6] [.vc 0 1] [.vec 1 u8] 36 ((), ()) (f xs.2.1, ())))
def LCo (ca : Cca) (t : List (List Int) → Int) (cb : Ccb) (f : List (List Int) → List Int) : Loops := fun j st => if j = 3 then SCa.fn (FCa ca t) st else if j = 11 then SCb.fn (FCb cb f) st else .fail
def totF (l : List (List Int)) : Int := ((flat l).length : Int)
abbrev LCoF := LCo cCa totF cCb flat
theorem lCa : LoopOK Try.prog LCoF bCa :=
 rloop_ok (L := LCoF) (L' := L0) nil_sound (loopsOK_of (by kernel_rfl)) SCa (F := FCa cCa totF) (i := 3) (by kernel_rfl) (fun _ => rfl) fun xs hs q h => by
  obtain ⟨l, s, l2, n, i, u⟩ := xs
  obtain ⟨h1, h2⟩ := Tr.chk_some h
  simp only [cCa, okT, Bool.and_eq_true, decide_eq_true_eq] at h1
  obtain ⟨⟨hl, hf⟩, e1, e2, hn, e3⟩ := h1
  have e1 : s = (0 : Int) := e1
  have e2 : l2 = l := e2
  have hn : n = ((List.length (α := List Int) l : Nat) : Int) := hn
  have e3 : i = ((0 : Nat) : Int) := e3
  subst e1; subst e2; subst hn; subst e3
  exact ⟨_, (mCa l2 hl hf (List.length (α := List Int) l2) 0 (by omega)).trans (congrArg some (Tr.ret_some h2))⟩
theorem lCb : LoopOK Try.prog LCoF bCb :=
 rloop_ok (L := LCoF) (L' := L0) nil_sound (loopsOK_of (by kernel_rfl)) SCb (F := FCb cCb flat) (i := 11) (by kernel_rfl) (fun _ => rfl) fun xs hs q h => by
  obtain ⟨u1, l, n, i, u⟩ := xs
  obtain ⟨o, u2⟩ := hs
  obtain ⟨h1, h2⟩ := Tr.chk_some h
  simp only [cCb, okT, Bool.and_eq_true, decide_eq_true_eq] at h1
  obtain ⟨⟨hl, hf⟩, e1, hn, e3⟩ := h1
  have e1 : o = ([] : List Int) := List.eq_nil_of_length_eq_zero e1
  have hn : n = ((List.length (α := List Int) l : Nat) : Int) := hn
  have e3 : i = ((0 : Nat) : Int) := e3
  subst e1; subst hn; subst e3
  exact ⟨_, (mCb l hl hf (List.length (α := List Int) l) 0 (by omega)).trans (congrArg some (Tr.ret_some h2))⟩
def cCo : List (Nat × CSpec) := [(127, CSpec.grow0 u8)]
def TCo (ca : Cca) (t : List (List Int) → Int) (cb : Ccb) (f : List (List Int) → List Int) (l : List (List Int)) : Tr AV :=
 .chk (ca l 0 l (l.length : Int) 0) (.chk (decide (1 ≤ t l ∧ t l ≤ 140737488355328)) (.chk (cb [] l (l.length : Int) 0) (.ret (.v bt (f l)))))
theorem tCo (ca : Cca) (t : List (List Int) → Int) (cb : Ccb) (f : List (List Int) → List Int) (l : List (List Int)) :
  nrm (fnS Try.prog (ctx cCo) (LCo ca t cb f) [bt] Try.f112 (mkArgs [lb] (l, ()))) = (TCo ca t cb f l).eval := by kernel_rfl
def preCo (l : List (List Int)) : Bool := decide (1 ≤ (flat l).length) && decide ((flat l).length ≤ 140737488355328)
def sCo : CSpec := .slp1 [lb] (fun x => preCo x.1) bt fun x => flat x.1
theorem okCo : CSound Try.prog 112 sCo ∧ CLocal sCo :=
 slpE1 (L := LCoF) (ctx_sound (l := cCo) ⟨okGr, trivial⟩) Try.func112 (by kernel_rfl) (loops2 (by kernel_rfl) lCa lCb) fun xs hx hp => by
  obtain ⟨l, u⟩ := xs
  have hl : List.length (α := List Int) l ≤ 9223372036854775807 := hx.1.1
  have hp : preCo l = true := hp
  unfold preCo at hp
  simp only [Bool.and_eq_true, decide_eq_true_eq] at hp
  refine (tCo cCa totF cCb flat l).trans ?_
  have ho : okT l = true := by unfold okT; rw [decide_eq_true hl, decide_eq_true hp.2]; rfl
  unfold TCo
  rw [chk_eval (by unfold cCa; rw [ho]; simp), chk_eval (decide_eq_true (by unfold totF; omega)), chk_eval (by unfold cCb; rw [ho]; simp)]
  rfl
end Go.Proofs.Ytffdkniccaebmaa.Jnl
end
section
set_option linter.unusedVariables false
set_option linter.unusedSimpArgs false
set_option maxRecDepth 100000
namespace Go.Proofs.Ytffdkniccaebmaa.Jnl
open Go Vse Go.Proofs Gen
open Sto (stT D R1)
abbrev d32 : Ty := .arr 32 u8
abbrev jT (s l K : Nat) : Ty := .prod (.ptr s []) (.prod (.vc l K) (.prod .bool .unit))
abbrev jE (k : Nat) : List ETy := [.box (jT 1 2 k), .box (stT 3 k), .vec k bt, .vec k u8]
abbrev JD := (Unit × Unit × Bool × Unit) × (Unit × Int × Int × Int × Bool × Unit) × List (List Int) × List Int × Unit
abbrev nJ (As Rs : List Ty) (k : Nat) : PSpec := ⟨.ptr 0 [] :: As, Rs, jE 0, jE k, []⟩
abbrev nLd : PSpec := ⟨[bs], [bt], [], [], []⟩
def kLd : List Cut := [⟨1, [.vec 0 u8], [], [0, 3], [bs, bt], [.dead], 23⟩, ⟨0, [.dead, .dead, .box d32], [], [0, 3, 4], [bs, bt, .ip true d32], [.dead, .dead, .dead], 23⟩]
def cLd (pc : List (List Int) → Bool) (f : List (List Int) → List Int) (ps : List Int → Bool) (S : List Int → List Int) : List (Nat × CSpec) :=
 [(112, .slp1 [lb] (fun x => pc x.1) bt fun x => f x.1), (111, .slp1 [bs] (fun x => ps x.1) d32 fun x => S x.1)]
def hd14 (b : List Int) : List Int := [wb (shrI .i64 (b.length : Int) 8), wb (b.length : Int)]
noncomputable abbrev bLd : Code := bodyOf Try.f88
def TLd (pc : List (List Int) → Bool) (f : List (List Int) → List Int) (ps : List Int → Bool) (S : List Int → List Int) (b : List Int) : Tr nLd.Out :=
 let c := f [hd14 b, b]
 .chk (pc [hd14 b, b]) (.chk (ps c) (.chk (pc [hd14 b, ((S c).take 8).drop 0, b]) (.ret ((f [hd14 b, ((S c).take 8).drop 0, b], ()), ()))))
theorem tLd (pc : List (List Int) → Bool) (f : List (List Int) → List Int) (ps : List Int → Bool) (S : List Int → List Int) (b : List Int) :
  (stC Try.prog (ctx (cLd pc f ps S)) L0 nLd Try.f88 kLd bLd (begin_ Try.f88 (mkArgs [bs] (b, ())) [])).eval = (TLd pc f ps S b).eval := by kernel_rfl
abbrev nCp : PSpec := ⟨[Gen.ls], [.vc 0 0], [], [.vec 0 bt], []⟩
noncomputable def bCp : Code := loopAt Try.f91 0
def SCp : RSpec := ⟨[3, 6, 7, 8], 19, [.vc 0 0, Gen.ls, i64, i64], [.vec 0 bt], [], [.slot 3 bt], fun _ => ([3], [.vc 0 0], [.vec 0 bt])⟩
def cCp (pk : List Int → Bool) : List (Nat × CSpec) := [(86, .slp1 [bs] (fun x => pk x.1) bt fun x => x.1)]
def GCp (pk : List Int → Bool) (o l : List (List Int)) (n i : Int) : Tr SCp.End :=
 .ite (decide (i < n)) (.chk (inArr i l.length) (.chk (pk (l.getD i.toNat [])) (.chk (Vse.room (o.length + 1) 24) (.ret (.inl (((), l, n, w (i + 1), ()), (o ++ [l.getD i.toNat []], ())))))))
  (.ret (.inr (.exit 0, encS [3] [.vc 0 0] [.vec 0 bt] 19 ((), ()) (o, ()))))
theorem rCp (pk : List Int → Bool) (o l : List (List Int)) (n i : Int) : (SCp.round (bodyK Try.prog (ctx (cCp pk)) L0 bCp) ((), l, n, i, ()) (o, ())).eval = (GCp pk o l n i).eval := by kernel_rfl
abbrev Ccp := List (List Int) → List (List Int) → Int → Int → Bool
def FCp (c : Ccp) (xs : HL SCp.Ts) (hs : HD SCp.Es) : Tr (Ex × St) := .chk (c hs.1 xs.2.1 xs.2.2.1 xs.2.2.2.1) (.ret (.exit 0, encS [3] [.vc 0 0] [.vec 0 bt] 19 ((), ()) (xs.2.1, ())))
def LCp (c : Ccp) : Loops := fun j st => if j = 3 then SCp.fn (FCp c) st else .fail
theorem tCp (pk : List Int → Bool) (c : Ccp) (l : List (List Int)) : (fnP Try.prog (ctx (cCp pk)) (LCp c) nCp Try.f91 (l, ()) ()).eval = (.chk (c [] l (l.length : Int) 0) (.ret (((), ()), (l, ()))) : Tr nCp.Out).eval := by kernel_rfl
def sCp (p : List (List Int) → Bool) : CSpec := .pos nCp (fun xs _ => p xs.1) fun xs _ => (((), ()), (xs.1, ()))
abbrev nRc : PSpec := ⟨[.ptr 0 []], [.vc 4 0], jE 0, jE 0 ++ [.vec 0 bt], []⟩
theorem tRc (p : List (List Int) → Bool) (h : JD) : (fnP Try.prog (ctx [(91, sCp p)]) L0 nRc Try.f48 ((), ()) h).eval = (.chk (p h.2.2.1) (.ret (((), ()), (h.1, h.2.1, h.2.2.1, h.2.2.2.1, h.2.2.1, ()))) : Tr nRc.Out).eval := by kernel_rfl
def TDi (e : Int) (h : JD) : Tr (nJ [i64] [i64] 0).Out := .ite (!decide (e = 0)) (.ret ((e, ()), (((), (), e != 7, ()), h.2))) (.ret ((e, ()), (((), (), false, ()), h.2)))
theorem tDi (e : Int) (h : JD) : (fnP Try.prog (ctx []) L0 (nJ [i64] [i64] 0) Try.f90 ((), e, ()) h).eval = (TDi e h).eval := by kernel_rfl
def broke (e : Int) : Bool := e != 0 && e != 7
def sDi : CSpec := .pos (nJ [i64] [i64] 0) (fun _ _ => true) fun xs h => ((xs.2.1, ()), (((), (), broke xs.2.1, ()), h.2))
def sLd (p : List Int → Bool) (f : List Int → List Int) : CSpec := .pos nLd (fun xs _ => p xs.1) fun xs _ => ((f xs.1, ()), ())
def cAd (pl : List Int → Bool) (ld : List Int → List Int) (pa : List Int → D → Bool) (ap : List Int → D → R1) (sy : D → R1) (pk : List Int → Bool) : List (Nat × CSpec) :=
 [(88, sLd pl ld), (92, .pos (Sto.sS [bs] [i64]) (fun xs d => pa xs.2.1 d) fun xs d => ap xs.2.1 d), (93, .pos (Sto.sS [] [i64]) (fun _ _ => true) fun _ d => sy d), (90, sDi),
  (86, .slp1 [bs] (fun x => pk x.1) bt fun x => x.1)]
end Go.Proofs.Ytffdkniccaebmaa.Jnl
end
section
set_option linter.unusedVariables false
set_option linter.unusedSimpArgs false
set_option maxRecDepth 100000
namespace Go.Proofs.Ytffdkniccaebmaa.Jnl
open Go Vse Go.Proofs Gen
open Sto (stT D R1)
def stD (h : JD) : D := (h.2.1, h.2.2.2.1, ())
def putS (br : Bool) (d : D) (l : List (List Int)) : JD := (((), (), br, ()), d.1, l, d.2.1, ())
def TAd (pl : List Int → Bool) (ld : List Int → List Int) (pa : List Int → D → Bool) (ap : List Int → D → R1) (sy : D → R1) (pk : List Int → Bool) (b : List Int) (h : JD) : Tr (nJ [bs] [i64] 1).Out :=
 let q := ap (ld b) (stD h)
 let q2 := sy q.2
 .ite h.1.2.2.1 (.ret (((8 : Int), ()), h)) (.ite (decide ((b.length : Int) > 1000)) (.ret (((7 : Int), ()), h)) (.chk (pl b) (.chk (pa (ld b) (stD h)) (.ite (!decide (q.1.1 = 0)) (.ret ((q.1.1, ()), putS (broke q.1.1) q.2 h.2.2.1))
  (.ite (!decide (q2.1.1 = 0)) (.ret ((q2.1.1, ()), putS (broke q2.1.1) q2.2 h.2.2.1)) (.chk (pk b) (.chk (Vse.room (h.2.2.1.length + 1) 24) (.ret (((0 : Int), ()), putS (broke q2.1.1) q2.2 (h.2.2.1 ++ [b]))))))))))
theorem tAd (pl : List Int → Bool) (ld : List Int → List Int) (pa : List Int → D → Bool) (ap : List Int → D → R1) (sy : D → R1) (pk : List Int → Bool) (b : List Int) (h : JD) :
  (fnP Try.prog (ctx (cAd pl ld pa ap sy pk)) L0 (nJ [bs] [i64] 1) Try.f45 ((), b, ()) h).eval = (TAd pl ld pa ap sy pk b h).eval := by kernel_rfl
noncomputable def bOn : Code := loopAt Try.f44 0
abbrev jD : List ETy := jE 0 ++ [.vec 0 u8]
def SOn : RSpec := ⟨[0, 1, 5, 13, 14, 15], 43, [.ptr 0 [], Gen.ls, .vc 4 0, Gen.ls, i64, i64], jD, jE 0, [.slot 5 u8], fun x => match x with | .ret => ([4], [i64], jE 0 ++ [.dead]) | _ => ([0, 1, 5], [.ptr 0 [], Gen.ls, .vc 4 0], jD)⟩
def cOn (pl : List Int → Bool) (ld : List Int → List Int) (pr : List Int → D → Bool) (rp : List Int → D → R1) (pc : List (List Int) → Bool) : List (Nat × CSpec) :=
 [(88, sLd pl ld), (89, .pos (Sto.sS [bs] [i64]) (fun xs d => pr xs.2.1 d) fun xs d => rp xs.2.1 d), (90, sDi), (91, sCp pc)]
def hdO (h : JD) (o : List Int) : HD jD := (h.1, h.2.1, h.2.2.1, h.2.2.2.1, o, ())
def GOn (pl : List Int → Bool) (ld : List Int → List Int) (h : JD) (l l2 : List (List Int)) (o : List Int) (n i : Int) : Tr SOn.End :=
 let x := l2.getD i.toNat []
 .ite (decide (i < n)) (.chk (inArr i l2.length) (.ite (decide ((x.length : Int) > 1000)) (.ret (.inr (.ret, encS [4] [i64] (jE 0 ++ [.dead]) 43 ((7 : Int), ()) h)))
  (.chk (pl x) (.chk (Vse.room (o.length + (ld x).length) 1) (.ret (.inl (((), l, (), l2, n, w (i + 1), ()), hdO h (o ++ ld x))))))))
  (.ret (.inr (.exit 0, encS [0, 1, 5] [.ptr 0 [], Gen.ls, .vc 4 0] jD 43 ((), l, (), ()) (hdO h o))))
theorem rOn (pl : List Int → Bool) (ld : List Int → List Int) (pr : List Int → D → Bool) (rp : List Int → D → R1) (pc : List (List Int) → Bool) (h : JD) (l l2 : List (List Int)) (o : List Int) (n i : Int) :
  (SOn.round (bodyK Try.prog (ctx (cOn pl ld pr rp pc)) L0 bOn) ((), l, (), l2, n, i, ()) (hdO h o)).eval = (GOn pl ld h l l2 o n i).eval := by kernel_rfl
abbrev Con := JD → List Int → List (List Int) → List (List Int) → Int → Int → Bool
def FOn (c : Con) (bg : List (List Int) → Bool) (al : List (List Int) → List Int) (xs : HL SOn.Ts) (hs : HD SOn.Es) : Tr (Ex × St) :=
 let h : JD := (hs.1, hs.2.1, hs.2.2.1, hs.2.2.2.1, ())
 .chk (c h hs.2.2.2.2.1 xs.2.1 xs.2.2.2.1 xs.2.2.2.2.1 xs.2.2.2.2.2.1) (.ite (bg xs.2.1) (.ret (.ret, encS [4] [i64] (jE 0 ++ [.dead]) 43 ((7 : Int), ()) h))
  (.ret (.exit 0, encS [0, 1, 5] [.ptr 0 [], Gen.ls, .vc 4 0] jD 43 ((), xs.2.1, (), ()) (hdO h (al xs.2.1)))))
def LOn (c : Con) (bg : List (List Int) → Bool) (al : List (List Int) → List Int) : Loops := fun j st => if j = 5 then SOn.fn (FOn c bg al) st else .fail
def TOn (c : Con) (bg : List (List Int) → Bool) (al : List (List Int) → List Int) (pr : List Int → D → Bool) (rp : List Int → D → R1) (pc : List (List Int) → Bool) (l : List (List Int)) (h : JD) : Tr (nJ [Gen.ls] [i64] 1).Out :=
 let q := rp (al l) (stD h)
 .ite h.1.2.2.1 (.ret (((8 : Int), ()), h)) (.chk (c h [] l l (l.length : Int) 0) (.ite (bg l) (.ret (((7 : Int), ()), h)) (.chk (pr (al l) (stD h)) (.ite (!decide (q.1.1 = 0)) (.ret ((q.1.1, ()), putS (broke q.1.1) q.2 h.2.2.1))
  (.chk (pc l) (.ret (((0 : Int), ()), putS (broke q.1.1) q.2 l)))))))
theorem tOn (c : Con) (bg : List (List Int) → Bool) (al : List (List Int) → List Int) (pl : List Int → Bool) (ld : List Int → List Int) (pr : List Int → D → Bool) (rp : List Int → D → R1) (pc : List (List Int) → Bool) (l : List (List Int)) (h : JD) :
  (fnP Try.prog (ctx (cOn pl ld pr rp pc)) (LOn c bg al) (nJ [Gen.ls] [i64] 1) Try.f44 ((), l, ()) h).eval = (TOn c bg al pr rp pc l h).eval := by kernel_rfl
noncomputable def bOp : Code := (loopsOfS (bodyOf Try.f42)).getD 0 .skip
abbrev oE (k : Nat) : List ETy := Sto.sE k ++ [.box (jT 0 3 1), .vec 1 bt]
def SOp : RSpec := ⟨[0, 4, 5, 6], 83, [.ptr 0 [], .ptr 2 [], bt, bt], oE 1, Sto.sE 1 ++ [.box (.prod (.ptr 0 []) (.prod .nils (.prod .bool .unit)))], [.fld 2 1 bt], fun x => match x with | .ret => ([2, 3], [.nilp, i64], Sto.sE 1 ++ [.dead, .dead]) | _ => ([0, 4, 5, 6], [.ptr 0 [], .ptr 2 [], bt, bt], oE 1)⟩
def cOp (pl : List Int → Bool) (ld : List Int → List Int) (eq : List Int → List Int → Bool) (pk : List Int → Bool) (pd : D → Bool) (pr : List Int → D → Bool) (rp : List Int → D → R1) : List (Nat × CSpec) :=
 [(88, sLd pl ld), (87, sSl2 eq), (86, .slp1 [bs] (fun x => pk x.1) bt fun x => x.1), (76, .pos (Sto.sS [] [bt]) (fun _ d => pd d) fun xs d => ((Sto.D.b d, ()), d)),
  (89, .pos (Sto.sS [bs] [i64]) (fun xs d => pr xs.2.1 d) fun xs d => rp xs.2.1 d)]
abbrev Hop := HD (oE 1)
def hop (d : D) (br : Bool) (l : List (List Int)) : Hop := (d.1, d.2.1, ((), (), br, ()), l, ())
def exOp (all rest : List Int) (h : Hop) : Ex × St := (.exit 0, encS [0, 4, 5, 6] [.ptr 0 [], .ptr 2 [], bt, bt] (oE 1) 83 ((), (), all, rest, ()) h)
def erOp (h : Hop) : Ex × St := (.ret, encS [2, 3] [.nilp, i64] (Sto.sE 1 ++ [.dead, .dead]) 83 ((), (9 : Int), ()) (h.1, h.2.1, ()))
def mOp (r : List Int) : Int := orI .i64 (shlI .i64 (IntKind.i64.wrap (r.getD 0 0)) 8) (IntKind.i64.wrap (r.getD 1 0))
def recOp (r : List Int) : List Int := (r.take (w (10 + mOp r)).toNat).drop 10
def GOp (pl : List Int → Bool) (ld : List Int → List Int) (eq : List Int → List Int → Bool) (pk : List Int → Bool) (all rest : List Int) (h : Hop) : Tr SOp.End :=
 let e := w (10 + mOp rest)
 let ex : Tr SOp.End := .ret (.inr (exOp all rest h))
 let er : Tr SOp.End := .ret (.inr (erOp h))
 let go : Tr SOp.End := .ret (.inl (((), (), all, (rest.take rest.length).drop e.toNat, ()), (h.1, h.2.1, h.2.2.1, h.2.2.2.1 ++ [recOp rest], ())))
 let in3 : Tr SOp.End := .chk (pk (recOp rest)) (.chk (Vse.room (h.2.2.2.1.length + 1) 24) (.chk (decide (0 ≤ e) && (decide (e ≤ (rest.length : Int)) && decide ((rest.length : Int) ≤ (rest.length : Int)))) go))
 let in2 : Tr SOp.End := .chk (decide (10 ≤ e) && decide (e ≤ (rest.length : Int))) (.chk (pl (recOp rest)) (.chk (decide (0 ≤ e) && decide (e ≤ (rest.length : Int))) (.ite (!eq (ld (recOp rest)) ((rest.take e.toNat).drop 0)) er in3)))
 .ite (decide ((rest.length : Int) ≥ 2)) (.chk (inArr 0 rest.length) (.chk (inArr 1 rest.length) (.ite (decide (mOp rest > 1000)) er (.ite (decide ((rest.length : Int) < e)) ex in2)))) ex
theorem rOp (pl : List Int → Bool) (ld : List Int → List Int) (eq : List Int → List Int → Bool) (pk : List Int → Bool) (pd : D → Bool) (pr : List Int → D → Bool) (rp : List Int → D → R1) (all rest : List Int) (h : Hop) :
  (SOp.round (bodyK Try.prog (ctx (cOp pl ld eq pk pd pr rp)) L0 bOp) ((), (), all, rest, ()) h).eval = (GOp pl ld eq pk all rest h).eval := by kernel_rfl
abbrev Bo := List Int → Bool
abbrev Re := List Int → List (List Int)
abbrev Tl := List Int → List Int
def FOp (c : List Int → Hop → Bool) (bad : Bo) (re : Re) (tl : Tl) (xs : HL SOp.Ts) (hs : HD SOp.Es) : Tr (Ex × St) :=
 .chk (c xs.2.2.2.1 hs) (.ite (bad xs.2.2.2.1) (.ret (erOp hs)) (.ret (exOp xs.2.2.1 (tl xs.2.2.2.1) (hs.1, hs.2.1, hs.2.2.1, re xs.2.2.2.1, ()))))
def LOp (c : List Int → Hop → Bool) (bad : Bo) (re : Re) (tl : Tl) : Loops := fun j st => if j = 6 then SOp.fn (FOp c bad re tl) st else .fail
abbrev nOk : PSpec := ⟨[.ptr 0 []], [.ptr 2 [], i64], Sto.sE 0, oE 1, []⟩
def cutOp (tl : Tl) (b : List Int) : List Int := (b.take (w ((b.length : Int) - ((tl b).length : Int))).toNat).drop 0
def TOk (c : List Int → Hop → Bool) (bad : Bo) (re : Re) (tl : Tl) (pd : D → Bool) (pr : List Int → D → Bool) (rp : List Int → D → R1) (d : D) : Tr nOk.Out :=
 let b := Sto.D.b d
 let q := rp (cutOp tl b) d
 .chk (pd d) (.chk (c b (hop d false [])) (.ite (bad b) .fail (.ite (decide (((tl b).length : Int) > 0)) (.chk (decide (0 ≤ w ((b.length : Int) - ((tl b).length : Int))) && decide (w ((b.length : Int) - ((tl b).length : Int)) ≤ (b.length : Int))) (.chk (pr (cutOp tl b) d)
  (.ite (!decide (q.1.1 = 0)) .fail (.ret (((), (0 : Int), ()), hop q.2 false (re b)))))) (.ret (((), (0 : Int), ()), hop d false (re b))))))
theorem tOk (pl : List Int → Bool) (ld : List Int → List Int) (eq : List Int → List Int → Bool) (pk : List Int → Bool) (c : List Int → Hop → Bool) (bad : Bo) (re : Re) (tl : Tl) (pd : D → Bool) (pr : List Int → D → Bool) (rp : List Int → D → R1) (d : D) :
  (fnPX Try.prog (runS Try.prog (ctx (cOp pl ld eq pk pd pr rp)) (LOp c bad re tl) (bodyOf Try.f42)) nOk Try.f42 ((), ()) d).eval = (TOk c bad re tl pd pr rp d).eval := by kernel_rfl
end Go.Proofs.Ytffdkniccaebmaa.Jnl
end
section
set_option linter.unusedVariables false
set_option linter.unusedSimpArgs false
set_option maxRecDepth 100000
namespace Go.Proofs.Ytffdkniccaebmaa.Jnl
open Go Vse Go.Proofs Gen
open Sto (stT D R1 rdyF appF syncF repF appP)
open Fld (lenN or_bytes Bytes bytes_get bytes_drop)
theorem outL_len (s : List Int) : ∀ (m i : Nat) (q : List Int), (Sha.outL s i m q).length = q.length
 | 0, i, q => rfl
 | m + 1, i, q => by rw [Sha.outL, outL_len s m, List.length_set]
theorem shaF_len (b : List Int) : (Sha.shaF b).length = 32 := by
 rw [Sha.shaF_hash]
 unfold Sha.sumH Sha.outF
 rw [outL_len]
 rfl
def laidF (b : List Int) : List Int := hd14 b ++ ((Sha.shaF (hd14 b ++ b)).take 8 ++ b)
theorem laid_len (b : List Int) : (laidF b).length = 10 + b.length := by
 unfold laidF
 rw [List.length_append, List.length_append, List.length_take, shaF_len]
 show 2 + (min 8 32 + b.length) = _
 omega
def okLd (b : List Int) : Bool := decide (b.length ≤ 1000000000)
theorem TLd_eq (b : List Int) (h : okLd b = true) : (TLd preCo flat Sha.shaP Sha.shaF b).eval = some ((laidF b, ()), ()) := by
 have hb : b.length ≤ 1000000000 := of_decide_eq_true h
 have e0 : (hd14 b).length = 2 := rfl
 have e1 : flat [hd14 b, b] = hd14 b ++ b := by unfold flat; simp
 have e2 : flat [hd14 b, ((Sha.shaF (hd14 b ++ b)).take 8).drop 0, b] = laidF b := by unfold flat laidF; simp
 unfold TLd
 rw [e1]
 dsimp only
 rw [e2]
 rw [chk_eval (by unfold preCo; rw [e1, List.length_append, e0, decide_eq_true (by omega), decide_eq_true (by omega)]; rfl)]
 rw [chk_eval (show Sha.shaP (hd14 b ++ b) = true from decide_eq_true (by rw [List.length_append, e0]; omega))]
 rw [chk_eval (by unfold preCo; rw [e2, laid_len, decide_eq_true (by omega), decide_eq_true (by omega)]; rfl)]
 rfl
theorem okLa : CSound Try.prog 88 (sLd okLd laidF) ∧ CLocal (sLd okLd laidF) :=
 pos_cuts (L := L0) (C := ctx (cLd preCo flat Sha.shaP Sha.shaF)) (ctx_sound ⟨okCo, Sha.ok16, trivial⟩) kLd Try.func88 (c := bLd) (by kernel_rfl) (by kernel_rfl) (noLoopsL (by kernel_rfl)) fun xs hs hx hh hp => by
  obtain ⟨b, u⟩ := xs
  exact (tLd preCo flat Sha.shaP Sha.shaF b).trans (TLd_eq b hp)
def okR (l : List (List Int)) : Bool := decide (l.length ≤ 1000000000000) && l.all okC
def cCpF : Ccp := fun o l n i => okR l && (decide (o.length = 0) && (decide (n = (l.length : Int)) && decide (i = 0)))
theorem cCp_sound : CtxSound Try.prog (ctx (cCp okC)) ∧ CtxLocal (ctx (cCp okC)) := ctx_sound ⟨okClS, trivial⟩
theorem mCp (l : List (List Int)) (hl : l.length ≤ 1000000000000) (ha : l.all okC = true) : ∀ (m k : Nat), k + m = l.length →
  SCp.many (bodyK Try.prog (ctx (cCp okC)) L0 bCp) (m + 1) ((), l, (l.length : Int), (k : Int), ()) (l.take k, ()) = some (.exit 0, encS [3] [.vc 0 0] [.vec 0 bt] 19 ((), ()) (l, ()))
 | 0, k, h => by
  rw [List.take_of_length_le (by omega)]
  refine rmany_inr ((rCp okC l l _ _).trans ?_) 0
  unfold GCp
  rw [ite_f (decide_eq_false (by omega))]
  rfl
 | m + 1, k, h => by
  have h1 : k < l.length := by omega
  have hc : okC l[k] = true := List.all_eq_true.1 ha _ (List.getElem_mem h1)
  have ht : l.take k ++ [l[k]] = l.take (k + 1) := by rw [List.take_add_one, List.getElem?_eq_getElem h1]; rfl
  refine (rmany_inl (d := (((), l, (l.length : Int), ((k + 1 : Nat) : Int), ()), (l.take (k + 1), ()))) ((rCp okC (l.take k) l _ _).trans ?_) (m + 1)).trans (mCp l hl ha m (k + 1) (by omega))
  unfold GCp
  rw [Int.toNat_natCast, getD_of h1, ite_t (decide_eq_true (by omega)), chk_eval (inArr_of h1), chk_eval hc, chk_eval (by simp only [Vse.room, decide_eq_true_eq, List.length_take]; omega), ht, w_succ h1 (by omega)]
  rfl
theorem lCp : LoopOK Try.prog (LCp cCpF) bCp :=
 rloop_ok (L := LCp cCpF) (L' := L0) cCp_sound (loopsOK_of (by kernel_rfl)) SCp (F := FCp cCpF) (i := 3) (by kernel_rfl) (fun _ => rfl) fun xs hs q h => by
  obtain ⟨u1, l, n, i, u⟩ := xs
  obtain ⟨o, u2⟩ := hs
  obtain ⟨h1, h2⟩ := Tr.chk_some h
  simp only [cCpF, okR, Bool.and_eq_true, decide_eq_true_eq] at h1
  obtain ⟨⟨hl, ha⟩, e1, hn, e3⟩ := h1
  have e1 : o = ([] : List (List Int)) := List.eq_nil_of_length_eq_zero e1
  have hn : n = ((List.length (α := List Int) l : Nat) : Int) := hn
  have e3 : i = ((0 : Nat) : Int) := e3
  subst e1; subst hn; subst e3
  exact ⟨_, (mCp l hl ha (List.length (α := List Int) l) 0 (by omega)).trans (congrArg some (Tr.ret_some h2))⟩
theorem okCp : CSound Try.prog 91 (sCp okR) ∧ CLocal (sCp okR) :=
 pos_sound (L := LCp cCpF) cCp_sound Try.func91 (by kernel_rfl) (loops1 (by kernel_rfl) lCp) fun xs hs hx hh hp => by
  obtain ⟨l, u⟩ := xs
  have hp : okR l = true := hp
  exact (tCp okC cCpF l).trans (chk_eval (by unfold cCpF; rw [hp]; simp) _)
def sRc : CSpec := .pos nRc (fun _ h => okR h.2.2.1) fun _ h => (((), ()), (h.1, h.2.1, h.2.2.1, h.2.2.2.1, h.2.2.1, ()))
theorem okRc : CSound Try.prog 48 sRc ∧ CLocal sRc :=
 pos_sound (L := L0) (C := ctx [(91, sCp okR)]) (ctx_sound ⟨okCp, trivial⟩) Try.func48 (by kernel_rfl) (noLoopsL (by kernel_rfl)) fun xs hs hx hh hp => (tRc okR hs).trans (chk_eval hp _)
theorem TDi_eq (e : Int) (h : JD) : (TDi e h).eval = some ((e, ()), (((), (), broke e, ()), h.2)) := by
 unfold TDi broke
 by_cases he : e = (0 : Int)
 ·rw [ite_f (by rw [decide_eq_true he]; rfl), show (e != 0) = false by rw [he]; rfl]; rfl
 ·rw [ite_t (by rw [decide_eq_false he]; rfl), Sto.nt he]; rfl
theorem okDi : CSound Try.prog 90 sDi ∧ CLocal sDi :=
 pos_sound (L := L0) nil_sound Try.func90 (by kernel_rfl) (noLoopsL (by kernel_rfl)) fun xs hs hx hh hp => (tDi xs.2.1 hs).trans (TDi_eq xs.2.1 hs)
abbrev RJ := (Int × Unit) × JD
def ej (e : Int) (h : JD) : RJ := ((e, ()), h)
def addF (b : List Int) (h : JD) : RJ :=
 if h.1.2.2.1 = true then ej 8 h else if (b.length : Int) > 1000 then ej 7 h else
  if (appF rdyF (laidF b) (stD h)).1.1 = 0 then
   (if (syncF rdyF (appF rdyF (laidF b) (stD h)).2).1.1 = 0 then ej 0 (putS false (syncF rdyF (appF rdyF (laidF b) (stD h)).2).2 (h.2.2.1 ++ [b]))
    else ej (syncF rdyF (appF rdyF (laidF b) (stD h)).2).1.1 (putS (broke (syncF rdyF (appF rdyF (laidF b) (stD h)).2).1.1) (syncF rdyF (appF rdyF (laidF b) (stD h)).2).2 h.2.2.1))
  else ej (appF rdyF (laidF b) (stD h)).1.1 (putS (broke (appF rdyF (laidF b) (stD h)).1.1) (appF rdyF (laidF b) (stD h)).2 h.2.2.1)
def addP (b : List Int) (h : JD) : Bool := decide ((b.length : Int) > 1000) || (appP rdyF (laidF b) (stD h) && decide (h.2.2.1.length ≤ 1000000))
theorem TAd_eq (b : List Int) (h : JD) (hp : addP b h = true) : (TAd okLd laidF (appP rdyF) (appF rdyF) (syncF rdyF) okC b h).eval = some (addF b h) := by
 unfold TAd addF
 dsimp only
 cases h0 : h.1.2.2.1 with
 | true => rw [ite_t rfl, if_pos rfl]; rfl
 | false =>
  rw [ite_f rfl, if_neg (by simp)]
  by_cases h1 : (b.length : Int) > 1000
  ·rw [ite_t (decide_eq_true h1), if_pos h1]; rfl
  ·rw [ite_f (decide_eq_false h1), if_neg h1]
   unfold addP at hp
   rw [decide_eq_false h1, Bool.false_or, Bool.and_eq_true, decide_eq_true_eq] at hp
   rw [chk_eval (show okLd b = true from decide_eq_true (by omega)), chk_eval hp.1]
   generalize appF rdyF (laidF b) (stD h) = q
   by_cases h2 : q.1.1 = 0
   ·rw [ite_f (by simp [h2]), if_pos h2]
    generalize syncF rdyF q.2 = q2
    by_cases h3 : q2.1.1 = 0
    ·rw [ite_f (by simp [h3]), if_pos h3, chk_eval (show okC b = true from decide_eq_true (by omega)), chk_eval (by simp only [Vse.room, decide_eq_true_eq]; omega), h3]
     rfl
    ·rw [ite_t (by simp [h3]), if_neg h3]; rfl
   ·rw [ite_t (by simp [h2]), if_neg h2]; rfl
def sAd : CSpec := .pos (nJ [bs] [i64] 1) (fun xs h => addP xs.2.1 h) fun xs h => addF xs.2.1 h
theorem okAd : CSound Try.prog 45 sAd ∧ CLocal sAd :=
 pos_sound (L := L0) (C := ctx (cAd okLd laidF (appP rdyF) (appF rdyF) (syncF rdyF) okC)) (ctx_sound ⟨okLa, Sto.ok48, Sto.ok49, okDi, okClS, trivial⟩) Try.func45 (by kernel_rfl) (noLoopsL (by kernel_rfl)) fun xs hs hx hh hp => by
  obtain ⟨u1, b, u⟩ := xs
  exact (tAd okLd laidF (appP rdyF) (appF rdyF) (syncF rdyF) okC b hs).trans (TAd_eq b hs hp)
end Go.Proofs.Ytffdkniccaebmaa.Jnl
end
section
set_option linter.unusedVariables false
set_option linter.unusedSimpArgs false
set_option maxRecDepth 100000
namespace Go.Proofs.Ytffdkniccaebmaa.Jnl
open Go Vse Go.Proofs Gen
open Sto (stT D R1 rdyF appF syncF repF appP)
open Fld (lenN or_bytes Bytes bytes_get bytes_drop)
def bigF (l : List (List Int)) : Bool := l.any fun b => decide ((b.length : Int) > 1000)
def alF (l : List (List Int)) : List Int := flat (l.map laidF)
theorem al_cons (b : List Int) (l : List (List Int)) : alF (b :: l) = laidF b ++ alF l := by unfold alF flat; simp
theorem al_snoc (l : List (List Int)) (b : List Int) : alF (l ++ [b]) = alF l ++ laidF b := by unfold alF flat; simp
abbrev cOnS : List (Nat × CSpec) := cOn okLd laidF (fun x _ => Vse.room x.length 1) (repF rdyF) okR
theorem cOn_sound : CtxSound Try.prog (ctx cOnS) ∧ CtxLocal (ctx cOnS) := ctx_sound ⟨okLa, Sto.ok51, okDi, okCp, trivial⟩
def cOnF : Con := fun h o l l2 n i => decide (o.length = 0) && (decide (l2 = l) && (decide (n = (l.length : Int)) && (decide (i = 0) && decide (l.length ≤ 1000000))))
theorem mOn (h : JD) (l : List (List Int)) (hl : l.length ≤ 1000000) : ∀ (m k : Nat), k + m = l.length → (alF (l.take k)).length ≤ 1010 * k →
  SOn.many (bodyK Try.prog (ctx cOnS) L0 bOn) (m + 1) ((), l, (), l, (l.length : Int), (k : Int), ()) (hdO h (alF (l.take k))) =
   if bigF (l.drop k) = true then some (.ret, encS [4] [i64] (jE 0 ++ [.dead]) 43 ((7 : Int), ()) h) else some (.exit 0, encS [0, 1, 5] [.ptr 0 [], Gen.ls, .vc 4 0] jD 43 ((), l, (), ()) (hdO h (alF l)))
 | 0, k, hk, ho => by
  rw [List.take_of_length_le (by omega), List.drop_eq_nil_of_le (by omega), if_neg (by simp [bigF])]
  refine rmany_inr ((rOn okLd laidF _ _ okR h l l (alF l) _ _).trans ?_) 0
  unfold GOn
  dsimp only
  rw [ite_f (decide_eq_false (by omega))]
  rfl
 | m + 1, k, hk, ho => by
  have h1 : k < l.length := by omega
  have ht : l.take (k + 1) = l.take k ++ [l[k]] := by rw [List.take_add_one, List.getElem?_eq_getElem h1]; rfl
  have hd := List.drop_eq_getElem_cons h1
  by_cases hb : (l[k].length : Int) > 1000
  ·rw [if_pos (by rw [hd]; unfold bigF; rw [List.any_cons, decide_eq_true hb]; rfl)]
   refine rmany_inr ((rOn okLd laidF _ _ okR h l l _ _ _).trans ?_) _
   unfold GOn
   dsimp only
   rw [Int.toNat_natCast, getD_of h1, ite_t (decide_eq_true (by omega)), chk_eval (inArr_of h1), ite_t (decide_eq_true hb)]
   rfl
  ·have e1 : bigF (l.drop k) = bigF (l.drop (k + 1)) := by rw [hd]; unfold bigF; rw [List.any_cons, decide_eq_false hb, Bool.false_or]
   have e2 : (alF (l.take (k + 1))).length ≤ 1010 * (k + 1) := by rw [ht, al_snoc, List.length_append, laid_len]; omega
   rw [e1]
   refine (rmany_inl (d := (((), l, (), l, (l.length : Int), ((k + 1 : Nat) : Int), ()), hdO h (alF (l.take (k + 1))))) ((rOn okLd laidF _ _ okR h l l _ _ _).trans ?_) (m + 1)).trans (mOn h l hl m (k + 1) (by omega) e2)
   unfold GOn
   dsimp only
   rw [Int.toNat_natCast, getD_of h1, ite_t (decide_eq_true (by omega)), chk_eval (inArr_of h1), ite_f (decide_eq_false hb), chk_eval (show okLd l[k] = true from decide_eq_true (by omega)),
    chk_eval (by rw [laid_len]; simp only [Vse.room, decide_eq_true_eq]; omega), w_succ h1 (by omega), ht, al_snoc]
   rfl
theorem lOn : LoopOK Try.prog (LOn cOnF bigF alF) bOn :=
 rloop_ok (L := LOn cOnF bigF alF) (L' := L0) cOn_sound (loopsOK_of (by kernel_rfl)) SOn (F := FOn cOnF bigF alF) (i := 5) (by kernel_rfl) (fun _ => rfl) fun xs hs q hq => by
  obtain ⟨u1, l, u2, l2, n, i, u3⟩ := xs
  obtain ⟨a, b, c, d, o, u4⟩ := hs
  obtain ⟨h1, h2⟩ := Tr.chk_some hq
  simp only [cOnF, Bool.and_eq_true, decide_eq_true_eq] at h1
  obtain ⟨e1, e2, hn, e3, hl⟩ := h1
  have e1 : o = ([] : List Int) := List.eq_nil_of_length_eq_zero e1
  have e2 : l2 = l := e2
  have hn : n = ((List.length (α := List Int) l : Nat) : Int) := hn
  have e3 : i = ((0 : Nat) : Int) := e3
  subst e1; subst e2; subst hn; subst e3
  refine ⟨_, (mOn (a, b, c, d, ()) l2 hl (List.length (α := List Int) l2) 0 (by omega) (Nat.zero_le _)).trans ?_⟩
  rw [List.drop_zero]
  rcases Tr.ite_some h2 with ⟨hx, h3⟩ | ⟨hx, h3⟩
  ·have hx : bigF l2 = true := hx
   rw [if_pos hx]
   exact congrArg some (Tr.ret_some h3)
  ·have hx : bigF l2 = false := hx
   rw [if_neg (by rw [hx]; simp)]
   exact congrArg some (Tr.ret_some h3)
def onF (l : List (List Int)) (h : JD) : RJ :=
 if h.1.2.2.1 = true then ej 8 h else if bigF l = true then ej 7 h else
  if (repF rdyF (alF l) (stD h)).1.1 = 0 then ej 0 (putS false (repF rdyF (alF l) (stD h)).2 l)
  else ej (repF rdyF (alF l) (stD h)).1.1 (putS (broke (repF rdyF (alF l) (stD h)).1.1) (repF rdyF (alF l) (stD h)).2 h.2.2.1)
def onP (l : List (List Int)) : Bool := decide (l.length ≤ 1000000)
theorem al_le : ∀ (l : List (List Int)), bigF l = false → (alF l).length ≤ 1010 * l.length
 | [], _ => Nat.le_refl _
 | b :: l, h => by
  unfold bigF at h
  rw [List.any_cons, Bool.or_eq_false_iff] at h
  have h1 := of_decide_eq_false h.1
  have := al_le l h.2
  rw [al_cons, List.length_append, laid_len, List.length_cons]; omega
theorem big_all : ∀ (l : List (List Int)), bigF l = false → l.all okC = true
 | [], _ => rfl
 | b :: l, h => by
  unfold bigF at h
  rw [List.any_cons, Bool.or_eq_false_iff] at h
  have h1 := of_decide_eq_false h.1
  rw [List.all_cons, big_all l h.2, show okC b = true from decide_eq_true (by omega)]; rfl
theorem TOn_eq (l : List (List Int)) (h : JD) (hp : onP l = true) : (TOn cOnF bigF alF (fun x _ => Vse.room x.length 1) (repF rdyF) okR l h).eval = some (onF l h) := by
 have hl : l.length ≤ 1000000 := of_decide_eq_true hp
 unfold TOn onF
 dsimp only
 cases h0 : h.1.2.2.1 with
 | true => rw [ite_t rfl, if_pos rfl]; rfl
 | false =>
  rw [ite_f rfl, if_neg (by simp), chk_eval (by unfold cOnF; rw [decide_eq_true hl]; simp)]
  cases hb : bigF l with
  | true => rw [ite_t rfl, if_pos rfl]; rfl
  | false =>
   have ha := al_le l hb
   rw [ite_f rfl, if_neg (by simp), chk_eval (by simp only [Vse.room, decide_eq_true_eq]; omega)]
   generalize repF rdyF (alF l) (stD h) = q
   by_cases h2 : q.1.1 = 0
   ·rw [ite_f (by simp [h2]), if_pos h2, chk_eval (by unfold okR; rw [big_all l hb, decide_eq_true (by omega)]; rfl), h2]
    rfl
   ·rw [ite_t (by simp [h2]), if_neg h2]; rfl
def sOn : CSpec := .pos (nJ [Gen.ls] [i64] 1) (fun xs _ => onP xs.2.1) fun xs h => onF xs.2.1 h
theorem okOn : CSound Try.prog 44 sOn ∧ CLocal sOn :=
 pos_sound (L := LOn cOnF bigF alF) cOn_sound Try.func44 (by kernel_rfl) (loops1 (by kernel_rfl) lOn) fun xs hs hx hh hp => by
  obtain ⟨u1, l, u⟩ := xs
  exact (tOn cOnF bigF alF okLd laidF _ (repF rdyF) okR l hs).trans (TOn_eq l hs hp)
theorem mOp_eq {r : List Int} (h : Bytes r) : mOp r = lenN r := or_bytes (bytes_get h 0) (bytes_get h 1)
theorem lenN_pos {r : List Int} (h : Bytes r) : 0 ≤ lenN r ∧ lenN r < 65536 := by
 have := bytes_get h 0
 have := bytes_get h 1
 unfold lenN; omega
def recF (r : List Int) : List Int := (r.take (10 + (lenN r).toNat)).drop 10
def scan : Nat → List Int → Option (List (List Int) × List Int)
 | 0, r => some ([], r)
 | n + 1, r => if r.length ≥ 2 then (if lenN r > 1000 then none else if r.length < 10 + (lenN r).toNat then some ([], r) else
   if laidF (recF r) = r.take (10 + (lenN r).toNat) then (match scan n (r.drop (10 + (lenN r).toNat)) with
    | some q => some (recF r :: q.1, q.2)
    | none => none) else none) else some ([], r)
def outOp (all : List Int) (h : Hop) : Option (List (List Int) × List Int) → Ex × St
 | some q => exOp all q.2 (h.1, h.2.1, h.2.2.1, h.2.2.2.1 ++ q.1, ())
 | none => erOp h
theorem mOpF (all : List Int) : ∀ (m : Nat) (r : List Int) (h : Hop), Bytes r → r.length ≤ m → m ≤ 1000000000 → h.2.2.2.1.length + r.length ≤ 2000000000 →
  SOp.many (bodyK Try.prog (ctx (cOp okLd laidF sameF okC (fun d => Vse.room (Sto.D.b d).length 1) (fun x _ => Vse.room x.length 1) (repF rdyF))) L0 bOp) (m + 1) ((), (), all, r, ()) h = some (outOp all h (scan m r))
 | 0, r, h, hb, hr, hm, hl => by
  have hz : r = [] := List.eq_nil_of_length_eq_zero (by omega)
  subst hz
  refine rmany_inr ((rOp _ _ _ _ _ _ _ all [] h).trans ?_) 0
  unfold GOp
  dsimp only
  rw [ite_f (show (decide (((([] : List Int).length : Nat) : Int) ≥ 2)) = false from rfl)]
  show _ = some (Sum.inr (exOp all [] (h.1, h.2.1, h.2.2.1, h.2.2.2.1 ++ [], ())))
  rw [List.append_nil]
  rfl
 | m + 1, r, h, hb, hr, hm, hl => by
  have hn := lenN_pos hb
  have hw : w (10 + mOp r) = ((10 + (lenN r).toNat : Nat) : Int) := by rw [mOp_eq hb, w_id (by omega) (by omega)]; omega
  have hrec : recOp r = recF r := by unfold recOp recF; rw [hw, Int.toNat_natCast]
  by_cases h2 : r.length ≥ 2
  ·have hh : (decide ((r.length : Int) ≥ 2)) = true := decide_eq_true (by omega)
   rw [scan, if_pos h2]
   by_cases h3 : lenN r > 1000
   ·rw [if_pos h3]
    refine rmany_inr ((rOp _ _ _ _ _ _ _ all r h).trans ?_) _
    unfold GOp
    dsimp only
    rw [ite_t hh, chk_eval (show inArr 0 r.length = true from inArr_of (k := 0) (by omega)), chk_eval (show inArr 1 r.length = true from inArr_of (k := 1) (by omega)), ite_t (by rw [mOp_eq hb]; exact decide_eq_true h3)]
    rfl
   ·rw [if_neg h3]
    by_cases h4 : r.length < 10 + (lenN r).toNat
    ·rw [if_pos h4]
     refine rmany_inr ((rOp _ _ _ _ _ _ _ all r h).trans ?_) _
     unfold GOp
     dsimp only
     rw [ite_t hh, chk_eval (show inArr 0 r.length = true from inArr_of (k := 0) (by omega)), chk_eval (show inArr 1 r.length = true from inArr_of (k := 1) (by omega)), ite_f (by rw [mOp_eq hb]; exact decide_eq_false h3), hw, ite_t (decide_eq_true (by omega))]
     show _ = some (Sum.inr (exOp all r (h.1, h.2.1, h.2.2.1, h.2.2.2.1 ++ [], ())))
     rw [List.append_nil]
     rfl
    ·rw [if_neg h4]
     have hrl : (recF r).length ≤ 1000 := by unfold recF; rw [List.length_drop, List.length_take]; omega
     by_cases h5 : laidF (recF r) = r.take (10 + (lenN r).toNat)
     ·rw [if_pos h5]
      have hdl : (r.drop (10 + (lenN r).toNat)).length = r.length - (10 + (lenN r).toNat) := List.length_drop
      refine (rmany_inl (d := (((), (), all, r.drop (10 + (lenN r).toNat), ()), (h.1, h.2.1, h.2.2.1, h.2.2.2.1 ++ [recF r], ()))) ((rOp _ _ _ _ _ _ _ all r h).trans ?_) (m + 1)).trans
       ((mOpF all m (r.drop (10 + (lenN r).toNat)) (h.1, h.2.1, h.2.2.1, h.2.2.2.1 ++ [recF r], ()) (bytes_drop hb _) (by omega) (by omega) ?_).trans ?_)
      ·unfold GOp
       dsimp only
       rw [ite_t hh, chk_eval (show inArr 0 r.length = true from inArr_of (k := 0) (by omega)), chk_eval (show inArr 1 r.length = true from inArr_of (k := 1) (by omega)), ite_f (by rw [mOp_eq hb]; exact decide_eq_false h3), hw, ite_f (decide_eq_false (by omega)), hrec,
        chk_eval (by rw [Bool.and_eq_true, decide_eq_true_eq, decide_eq_true_eq]; omega), chk_eval (show okLd (recF r) = true from decide_eq_true (by omega)), chk_eval (by rw [Bool.and_eq_true, decide_eq_true_eq, decide_eq_true_eq]; omega),
        Int.toNat_natCast, List.drop_zero, ite_f (by rw [show sameF (laidF (recF r)) (r.take (10 + (lenN r).toNat)) = true from decide_eq_true h5]; rfl), chk_eval (show okC (recF r) = true from decide_eq_true (by omega)),
        chk_eval (by simp only [Vse.room, decide_eq_true_eq]; omega), chk_eval (by simp only [Bool.and_eq_true, decide_eq_true_eq]; omega), List.take_of_length_le (Nat.le_refl _)]
       rfl
      ·show (h.2.2.2.1 ++ [recF r]).length + _ ≤ _
       rw [List.length_append, hdl]
       show h.2.2.2.1.length + 1 + _ ≤ _
       omega
      ·cases hs : scan m (r.drop (10 + (lenN r).toNat)) with
       | none => rfl
       | some q =>
        show some (exOp all q.2 (h.1, h.2.1, h.2.2.1, (h.2.2.2.1 ++ [recF r]) ++ q.1, ())) = some (exOp all q.2 (h.1, h.2.1, h.2.2.1, h.2.2.2.1 ++ (recF r :: q.1), ()))
        rw [List.append_assoc]; rfl
     ·rw [if_neg h5]
      refine rmany_inr ((rOp _ _ _ _ _ _ _ all r h).trans ?_) _
      unfold GOp
      dsimp only
      rw [ite_t hh, chk_eval (show inArr 0 r.length = true from inArr_of (k := 0) (by omega)), chk_eval (show inArr 1 r.length = true from inArr_of (k := 1) (by omega)), ite_f (by rw [mOp_eq hb]; exact decide_eq_false h3), hw, ite_f (decide_eq_false (by omega)), hrec,
        chk_eval (by rw [Bool.and_eq_true, decide_eq_true_eq, decide_eq_true_eq]; omega), chk_eval (show okLd (recF r) = true from decide_eq_true (by omega)), chk_eval (by rw [Bool.and_eq_true, decide_eq_true_eq, decide_eq_true_eq]; omega),
        Int.toNat_natCast, List.drop_zero, ite_t (by rw [show sameF (laidF (recF r)) (r.take (10 + (lenN r).toNat)) = false from decide_eq_false h5]; rfl)]
      rfl
  ·rw [scan, if_neg h2]
   refine rmany_inr ((rOp _ _ _ _ _ _ _ all r h).trans ?_) _
   unfold GOp
   dsimp only
   rw [ite_f (decide_eq_false (by omega))]
   show _ = some (Sum.inr (exOp all r (h.1, h.2.1, h.2.2.1, h.2.2.2.1 ++ [], ())))
   rw [List.append_nil]
   rfl
end Go.Proofs.Ytffdkniccaebmaa.Jnl
end
section
set_option linter.unusedVariables false
set_option linter.unusedSimpArgs false
set_option maxRecDepth 100000
namespace Go.Proofs.Ytffdkniccaebmaa.Jnl
open Go Vse Go.Proofs Gen
open Sto (stT D R1 rdyF appF syncF repF appP)
open Fld (lenN or_bytes Bytes bytes_get bytes_drop)
def badF (b : List Int) : Bool := (scan b.length b).isNone
def reF (b : List Int) : List (List Int) := match scan b.length b with
 | some q => q.1
 | none => []
def tlF (b : List Int) : List Int := match scan b.length b with
 | some q => q.2
 | none => []
theorem scan_le : ∀ (n : Nat) (r : List Int) (q : List (List Int) × List Int), scan n r = some q → q.2.length ≤ r.length
 | 0, r, q, h => by
  have h : some (([] : List (List Int)), r) = some q := h
  cases h; exact Nat.le_refl _
 | n + 1, r, q, h => by
  rw [scan] at h
  split at h
  ·split at h
   ·cases h
   ·split at h
    ·cases h; exact Nat.le_refl _
    ·split at h
     ·split at h
      ·rename_i q' hq
       cases h
       have := scan_le n _ q' hq
       rw [List.length_drop] at this
       exact Nat.le_trans this (Nat.sub_le _ _)
      ·cases h
     ·cases h
  ·cases h; exact Nat.le_refl _
theorem tl_le (b : List Int) : (tlF b).length ≤ b.length := by
 unfold tlF
 cases h : scan b.length b with
 | none => exact Nat.zero_le _
 | some q => exact scan_le _ _ _ h
abbrev cOpS : List (Nat × CSpec) := cOp okLd laidF sameF okC (fun d => Vse.room (Sto.D.b d).length 1) (fun x _ => Vse.room x.length 1) (repF rdyF)
theorem cOp_sound : CtxSound Try.prog (ctx cOpS) ∧ CtxLocal (ctx cOpS) := ctx_sound ⟨okLa, okEqL, okClS, Sto.ok20, Sto.ok51, trivial⟩
def byB (b : List Int) : Bool := b.all fun x => decide (0 ≤ x ∧ x < 256)
theorem by_Bytes {b : List Int} (h : byB b = true) : Bytes b := fun x hx => of_decide_eq_true (List.all_eq_true.1 h x hx)
theorem Bytes_by {b : List Int} (h : Bytes b) : byB b = true := List.all_eq_true.2 fun x hx => decide_eq_true (h x hx)
def cOpF (b : List Int) (h : Hop) : Bool := decide (b.length ≤ 2000000) && (byB b && decide (h.2.2.2.1.length = 0))
theorem lOp : LoopOK Try.prog (LOp cOpF badF reF tlF) bOp :=
 rloop_ok (L := LOp cOpF badF reF tlF) (L' := L0) cOp_sound (loopsOK_of (by kernel_rfl)) SOp (F := FOp cOpF badF reF tlF) (i := 6) (by kernel_rfl) (fun _ => rfl) fun xs hs q hq => by
  obtain ⟨u1, u2, all, r, u3⟩ := xs
  obtain ⟨a, b, c, o, u4⟩ := hs
  obtain ⟨h1, h2⟩ := Tr.chk_some hq
  simp only [cOpF, Bool.and_eq_true, decide_eq_true_eq] at h1
  obtain ⟨hl, hb, e1⟩ := h1
  have hl : List.length (α := Int) r ≤ 2000000 := hl
  have hb : Bytes r := by_Bytes hb
  have e1 : o = ([] : List (List Int)) := List.eq_nil_of_length_eq_zero e1
  subst e1
  refine ⟨_, (mOpF all (List.length (α := Int) r) r (a, b, c, [], ()) hb (Nat.le_refl _) (by omega) (by show 0 + List.length (α := Int) r ≤ _; omega)).trans ?_⟩
  rcases Tr.ite_some h2 with ⟨hx, h3⟩ | ⟨hx, h3⟩
  ·have hx : badF r = true := hx
   unfold badF at hx
   rw [Option.isNone_iff_eq_none.1 hx]
   exact congrArg some (Tr.ret_some h3)
  ·have hx : badF r = false := hx
   unfold badF at hx
   have h3 := Tr.ret_some h3
   cases hs : scan (List.length (α := Int) r) r with
   | none => rw [hs] at hx; cases hx
   | some p =>
    rw [← h3]
    show some (exOp all p.2 (a, b, c, [] ++ p.1, ())) = some (exOp all (tlF r) (a, b, c, reF r, ()))
    rw [show tlF r = p.2 by unfold tlF; rw [hs], show reF r = p.1 by unfold reF; rw [hs]]
    rfl
def cutB (b : List Int) : List Int := b.take (b.length - (tlF b).length)
theorem cut_eq {b : List Int} (h : b.length ≤ 2000000) : w ((b.length : Int) - ((tlF b).length : Int)) = ((b.length - (tlF b).length : Nat) : Int) ∧ cutOp tlF b = cutB b := by
 have ht := tl_le b
 have e : w ((b.length : Int) - ((tlF b).length : Int)) = ((b.length - (tlF b).length : Nat) : Int) := by rw [w_id (by omega) (by omega)]; omega
 refine ⟨e, ?_⟩
 unfold cutOp cutB
 rw [e, Int.toNat_natCast, List.drop_zero]
def opP (d : D) : Bool := decide (d.b.length ≤ 2000000)
def opOk (d : D) : Bool := !badF d.b && (decide ((tlF d.b).length = 0) || decide ((repF rdyF (cutB d.b) d).1.1 = 0))
def opF (d : D) : (Unit × Int × Unit) × Hop := (((), 0, ()), if (tlF d.b).length = 0 then hop d false (reF d.b) else hop (repF rdyF (cutB d.b) d).2 false (reF d.b))
theorem cO_eq {d : D} (hl : d.b.length ≤ 2000000) (hb : Bytes d.b) : cOpF d.b (hop d false []) = true := by
 unfold cOpF
 rw [decide_eq_true hl, Bytes_by hb]
 rfl
theorem TOk_eq (d : D) (hp : opP d = true) (hb : Bytes d.b) (ho : opOk d = true) : (TOk cOpF badF reF tlF (fun d => Vse.room (Sto.D.b d).length 1) (fun x _ => Vse.room x.length 1) (repF rdyF) d).eval = some (opF d) := by
 have hl : d.b.length ≤ 2000000 := of_decide_eq_true hp
 obtain ⟨c1, c2⟩ := cut_eq hl
 have ht := tl_le d.b
 unfold opOk at ho
 rw [Bool.and_eq_true, Bool.not_eq_true', Bool.or_eq_true, decide_eq_true_eq, decide_eq_true_eq] at ho
 unfold TOk opF
 dsimp only
 rw [chk_eval (by simp only [Vse.room, decide_eq_true_eq]; omega), chk_eval (cO_eq hl hb), ite_f ho.1, c1, c2]
 by_cases h0 : (tlF d.b).length = 0
 ·rw [ite_f (decide_eq_false (by omega)), if_pos h0]; rfl
 ·rw [ite_t (decide_eq_true (by omega)), if_neg h0, chk_eval (by rw [Bool.and_eq_true, decide_eq_true_eq, decide_eq_true_eq]; omega),
   chk_eval (by unfold cutB; rw [List.length_take]; simp only [Vse.room, decide_eq_true_eq]; omega)]
  rcases ho.2 with h | h
  ·exact absurd h h0
  ·rw [ite_f (by simp [h])]; rfl
def sOk : CSpec := .pos nOk (fun _ d => opP d && opOk d) fun _ d => opF d
theorem u8_ok {x : Int} (h : Ty.ok u8 x) : 0 ≤ x ∧ x < 256 := by
 have h : inK .u8 x = true := h
 have h1 : IntKind.u8.min = 0 := by decide
 have h2 : IntKind.u8.max = 255 := by decide
 simp only [inK, h1, h2, Bool.and_eq_true, decide_eq_true_eq] at h
 omega
theorem loops_Op : loopsOfS (bodyOf Try.f42) = [bOp] := by kernel_rfl
theorem lOps : ∀ b ∈ loopsOfS (bodyOf Try.f42), LoopOK Try.prog (LOp cOpF badF reF tlF) b := fun b hb => by
 rw [loops_Op, List.mem_singleton] at hb
 subst hb
 exact lOp
theorem okOk : CSound Try.prog 42 sOk ∧ CLocal sOk :=
 pos_scope (L := LOp cOpF badF reF tlF) cOp_sound Try.func42 (c := bodyOf Try.f42) (by kernel_rfl) (by kernel_rfl) lOps fun xs hs hx hh hp => by
  have hp : (opP hs && opOk hs) = true := hp
  rw [Bool.and_eq_true] at hp
  have hb : Bytes (Sto.D.b hs) := fun x hx => u8_ok (hh.2.1 x hx)
  exact (tOk okLd laidF sameF okC cOpF badF reF tlF _ _ (repF rdyF) hs).trans (TOk_eq hs hp.1 hb hp.2)
end Go.Proofs.Ytffdkniccaebmaa.Jnl
end
section
set_option linter.unusedVariables false
namespace Vse
open Go Go.ChangeShapes
section
variable {P : Program} {C : Ctx} {L : Loops}
def CSpec.cloneO (A : Ty) (pre : List A.den → Bool) : CSpec :=
 ⟨1, fun _ _ => [], fun _ _ => [], fun vs _ fr => match vs with
  | [.v (.imm _ _ B) l] => match castL ⟨B, l⟩ A with
   | some l => .chk (pre l) (.ret (.v (.vc fr 0) (), [(fr, .vec 0 A l)]))
   | none => .fail
  | _ => .fail⟩
theorem cloneO_local (A : Ty) (pre : List A.den → Bool) : CLocal (CSpec.cloneO A pre) where
 same vs H H' h := ⟨rfl, rfl⟩
 turns vs H fr out h x hx := by
  simp only [CSpec.cloneO] at h
  split at h
  ·split at h
   ·obtain ⟨_, h⟩ := Tr.chk_some h
    have := Tr.ret_some h
    subst this
    simp only [List.mem_singleton] at hx
    subst hx
    exact .inr (by simp [CSpec.cloneO])
   ·exact (Tr.fail_some h).elim
  ·exact (Tr.fail_some h).elim
theorem cloneO_sound {k : Nat} {c : CSpec} (hc : CSound P k c) {A : Ty} {pre : List A.den → Bool} (hnew : c.new = 1) (hids : ∀ (p : Bool) (l : List A.den) (H : Heap), c.ids [.v (.imm p true A) l] H = [])
  (hcore : ∀ (p : Bool) (l : List A.den) (fr : Nat), pre l = true → (c.core [.v (.imm p true A) l] [] fr).eval = some (.v (.vc fr 0) (), [(fr, .vec 0 A l)]))
  (hn : ∀ (n c : Nat) (w : World), Calls P k #[.slice none n c] w fun e w' => e = .returned (.slice none 0 0) ∧ w' = w) :
  CSound P k (CSpec.cloneO A pre) ∧ CLocal (CSpec.cloneO A pre) := by
 refine ⟨⟨hc.enter, ?_⟩, cloneO_local A pre⟩
 intro g H w vs rvs fr out hI hargs hfr he
 simp only [CSpec.cloneO] at he
 split at he
 ·rename_i p f B l0
  split at he
  ·rename_i l hl
   obtain ⟨hp, he⟩ := Tr.chk_some he
   have := Tr.ret_some he
   subst this
   have hB := castL_some hl
   simp only [Sigma.mk.injEq] at hB
   obtain ⟨rfl, hB⟩ := hB
   have hB := eq_of_heq hB
   subst hB
   obtain ⟨r, rs, rfl, hv, hr⟩ := hargs
   have hr : rs = [] := hr
   subst hr
   have hv := (VRep_v (by simp)).1 hv
   simp only [TRep, Ty.agg, Ty.sk, Sk.agg, Bool.false_eq_true, if_false, Rep, List.cons.injEq, and_true] at hv
   obtain ⟨pv, cap, rfl, hcap, _, hne⟩ := hv
   cases pv with
   | none =>
    have hl0 : l0 = [] := by
     cases l0 with
     | nil => rfl
     | cons a t => obtain ⟨_, _, h, _⟩ := hne (by simp); cases h
    subst hl0
    rcases freeAt_one hfr with h0 | ⟨hf, hlt⟩
    ·cases h0
    refine (hn _ _ w).mono ?_
    rintro e w' ⟨rfl, rfl⟩
    obtain ⟨g', q1, q2, q3, q4⟩ := hI.nilVec (k := 0) (a := B) hlt (.inl hf)
    exact ⟨_, g', rfl, q1, q2, vc_rep_nil q3 q4⟩
   | some ad =>
    have hargs2 : argsRep g [.v (.imm p true B) l0] [.slice (some ad) l0.length cap] := by
     refine ⟨_, _, rfl, (VRep_v (by simp)).2 ?_, rfl⟩
     simp only [TRep, Ty.agg, Ty.sk, Sk.agg, Bool.false_eq_true, if_false, Rep, List.cons.injEq, and_true]
     exact ⟨some ad, cap, rfl, hcap, by simp, hne⟩
    have he2 := hcore p l0 fr hp
    have hf2 : freeAt H fr c.new = true := by rw [hnew]; exact hfr
    have he3 : (c.core [.v (.imm p true B) l0] (ents H (c.ids [.v (.imm p true B) l0] H)) fr).eval = some (.v (.vc fr 0) (), [(fr, .vec 0 B l0)]) := by rw [hids]; exact he2
    exact hc.calls g H w [.v (.imm p true B) l0] _ fr _ hI hargs2 hf2 he3
  ·exact (Tr.fail_some he).elim
 ·exact (Tr.fail_some he).elim
end
end Vse
end
section
set_option linter.unusedVariables false
set_option linter.unusedSimpArgs false
set_option maxRecDepth 100000
namespace Go.Proofs.Ytffdkniccaebmaa.Bok
open Go Vse Go.Proofs Gen
abbrev w16 : Ty := .arr 16 u8
abbrev tEnt : Ty := .prod .str (.prod w16 .unit)
abbrev tBl : Ty := .prod (.imm false false tEnt) (.prod (.imm false false w16) (.prod i64 (.prod w16 .unit)))
abbrev tB : Ty := .prod (.imm true false tEnt) (.prod (.imm true false w16) (.prod i64 (.prod w16 .unit)))
abbrev lEnt : Ty := .imm false false tEnt
abbrev En := ByteArray × List Int × Unit
abbrev nFq : PSpec := ⟨[tEnt, .ptr 0 []], [.bool], [.box .str], [.box .str], []⟩
theorem tFq (x : En) (s : ByteArray) : (fnP Try.prog (ctx []) L0 nFq Try.f118 (x, (), ()) (s, ())).eval = (.ret (((x.1 == s), ()), (s, ())) : Tr nFq.Out).eval := by kernel_rfl
def sFq : CSpec := .pos nFq (fun _ _ => true) fun xs hs => (((xs.1.1 == hs.1 : Bool), ()), hs)
theorem okFq : CSound Try.prog 118 sFq ∧ CLocal sFq :=
 pos_sound (L := L0) nil_sound Try.func118 (by kernel_rfl) (noLoopsL (by kernel_rfl)) fun xs hs hx hh hp => by
  obtain ⟨x, u, u'⟩ := xs
  obtain ⟨s, u''⟩ := hs
  exact tFq x s
abbrev fFq : Ty := .fn 118 (.prod (.ptr 0 []) .unit)
abbrev nIf : PSpec := ⟨[lEnt, fFq], [i64], [.box .str], [.box .str], []⟩
def SIf : RSpec := ⟨[0, 1, 7, 8], 19, [lEnt, fFq, i64, i64], [.box .str], [.box .str], [], fun x => match x with | .ret => ([4], [i64], [.box .str]) | _ => ([], [], [.box .str])⟩
def GIf (l : List En) (s : ByteArray) (n i : Int) : Tr SIf.End :=
 .ite (decide (i < n)) (.chk (inArr i l.length) (.ite ((l.getD i.toNat (dflt tEnt)).1 == s) (.ret (.inr (.ret, encS [4] [i64] [.box .str] 19 (i, ()) (s, ())))) (.ret (.inl ((l, ((), ()), n, w (i + 1), ()), (s, ()))))))
  (.ret (.inr (.exit 0, encS [] [] [.box .str] 19 () (s, ()))))
noncomputable def bIf : Code := loopAt Try.f117 0
theorem rIf (l : List En) (s : ByteArray) (n i : Int) : (SIf.round (bodyK Try.prog (ctx [(118, sFq)]) L0 bIf) (l, ((), ()), n, i, ()) (s, ())).eval = (GIf l s n i).eval := by kernel_rfl
def hasE (l : List En) (s : ByteArray) : Bool := l.any fun e => e.1 == s
def idxE (l : List En) (s : ByteArray) : Int := if hasE l s = true then (l.findIdx fun e => e.1 == s : Nat) else -1
def cIf (l : List En) (n i : Int) : Bool := decide (l.length ≤ 9223372036854775807) && (decide (n = (l.length : Int)) && decide (i = 0))
def FIf (c : List En → Int → Int → Bool) (h : List En → ByteArray → Bool) (ix : List En → ByteArray → Int) (xs : HL SIf.Ts) (hs : HD SIf.Es) : Tr (Ex × St) :=
 .chk (c xs.1 xs.2.2.1 xs.2.2.2.1) (.ite (h xs.1 hs.1) (.ret (.ret, encS [4] [i64] [.box .str] 19 (ix xs.1 hs.1, ()) hs)) (.ret (.exit 0, encS [] [] [.box .str] 19 () hs)))
def LIf (c : List En → Int → Int → Bool) (h : List En → ByteArray → Bool) (ix : List En → ByteArray → Int) : Loops := fun j st => if j = 2 then SIf.fn (FIf c h ix) st else .fail
theorem getD_of {α : Type} {l : List α} {k : Nat} (h : k < l.length) (d : α) : l.getD k d = l[k] := by
 rw [List.getD_eq_getElem?_getD, List.getElem?_eq_getElem h]; rfl
theorem inArr_of {k n : Nat} (h : k < n) : inArr (k : Int) n = true := by simp [inArr]; omega
theorem w_succ {k n : Nat} (h : k < n) (hn : n ≤ 9223372036854775807) : w ((k : Int) + 1) = ((k + 1 : Nat) : Int) := (w_id (by omega) (by omega)).trans (by omega)
theorem mIf (s : ByteArray) (l : List En) (hl : l.length ≤ 9223372036854775807) : ∀ (m k : Nat), k + m = l.length →
  SIf.many (bodyK Try.prog (ctx [(118, sFq)]) L0 bIf) (m + 1) (l, ((), ()), (l.length : Int), (k : Int), ()) (s, ()) = if hasE (l.drop k) s = true then some (.ret, encS [4] [i64] [.box .str] 19 (((k + (l.drop k).findIdx fun e => e.1 == s : Nat) : Int), ()) (s, ())) else some (.exit 0, encS [] [] [.box .str] 19 () (s, ()))
 | 0, k, h => by
  have e1 : l.drop k = [] := List.drop_eq_nil_of_le (by omega)
  rw [e1, if_neg (by simp [hasE])]
  refine rmany_inr ((rIf l s _ _).trans ?_) 0
  unfold GIf
  rw [ite_f (decide_eq_false (by omega))]
  rfl
 | m + 1, k, h => by
  have h1 : k < l.length := by omega
  have e2 : (l.drop k) = l[k] :: l.drop (k + 1) := List.drop_eq_getElem_cons h1
  cases hq : (l[k].1 == s) with
  | true =>
   have e3 : hasE (l.drop k) s = true := by simp only [hasE, e2, List.any_cons, hq, Bool.true_or]
   have e4 : ((l.drop k).findIdx fun e => e.1 == s) = 0 := by rw [e2, List.findIdx_cons, hq]; rfl
   rw [if_pos e3, e4]
   refine rmany_inr ((rIf l s _ _).trans ?_) _
   unfold GIf
   rw [Int.toNat_natCast, ite_t (decide_eq_true (by omega)), chk_eval (inArr_of h1), getD_of h1, ite_t hq]
   rfl
  | false =>
   have e3 : hasE (l.drop k) s = hasE (l.drop (k + 1)) s := by simp only [hasE, e2, List.any_cons, hq, Bool.false_or]
   have e4 : k + ((l.drop k).findIdx fun e => e.1 == s) = k + 1 + (l.drop (k + 1)).findIdx fun e => e.1 == s := by rw [e2, List.findIdx_cons, hq]; simp only [cond_false]; omega
   rw [e3, e4]
   refine (rmany_inl (d := ((l, ((), ()), (l.length : Int), ((k + 1 : Nat) : Int), ()), (s, ()))) ((rIf l s _ _).trans ?_) (m + 1)).trans (mIf s l hl m (k + 1) (by omega))
   unfold GIf
   rw [Int.toNat_natCast, ite_t (decide_eq_true (by omega)), chk_eval (inArr_of h1), getD_of h1, ite_f hq, w_succ h1 hl]
   rfl
theorem cFq_sound : CtxSound Try.prog (ctx [(118, sFq)]) ∧ CtxLocal (ctx [(118, sFq)]) := ctx_sound ⟨okFq, trivial⟩
theorem lIf : LoopOK Try.prog (LIf cIf hasE idxE) bIf :=
 rloop_ok (L := LIf cIf hasE idxE) (L' := L0) cFq_sound (loopsOK_of (by kernel_rfl)) SIf (F := FIf cIf hasE idxE) (i := 2) (by kernel_rfl) (fun _ => rfl) fun xs hs q h => by
  obtain ⟨l, u1, n, i, u⟩ := xs
  obtain ⟨s, u2⟩ := hs
  obtain ⟨h1, h2⟩ := Tr.chk_some h
  simp only [cIf, Bool.and_eq_true, decide_eq_true_eq] at h1
  obtain ⟨hl, e1, e2⟩ := h1
  have e1 : n = (List.length (α := En) l : Int) := e1
  have e2 : i = ((0 : Nat) : Int) := e2
  subst e1; subst e2
  refine ⟨List.length (α := En) l + 1, ?_⟩
  have := mIf s l hl (List.length (α := En) l) 0 (by omega)
  rw [List.drop_zero, Nat.zero_add] at this
  refine this.trans ?_
  rcases Tr.ite_some h2 with ⟨hx, h3⟩ | ⟨hx, h3⟩
  ·have hx : hasE l s = true := hx
   have := Tr.ret_some h3
   subst this
   rw [if_pos hx]
   simp only [idxE, if_pos hx]
  ·have hx : hasE l s = false := hx
   have := Tr.ret_some h3
   subst this
   rw [if_neg (by rw [hx]; simp)]
def TIf (c : List En → Int → Int → Bool) (h : List En → ByteArray → Bool) (ix : List En → ByteArray → Int) (l : List En) (s : ByteArray) : Tr nIf.Out :=
 .chk (c l (l.length : Int) 0) (.ite (h l s) (.ret ((ix l s, ()), (s, ()))) (.ret ((-1, ()), (s, ()))))
theorem tIf (c : List En → Int → Int → Bool) (h : List En → ByteArray → Bool) (ix : List En → ByteArray → Int) (l : List En) (s : ByteArray) :
  (fnP Try.prog (ctx [(118, sFq)]) (LIf c h ix) nIf Try.f117 (l, ((), ()), ()) (s, ())).eval = (TIf c h ix l s).eval := by kernel_rfl
def sIf (h : List En → ByteArray → Int) : CSpec := .pos nIf (fun _ _ => true) fun xs hs => ((h xs.1 hs.1, ()), hs)
theorem TIf_eq {l : List En} {s : ByteArray} (hl : l.length ≤ 9223372036854775807) : (TIf cIf hasE idxE l s).eval = some ((idxE l s, ()), (s, ())) := by
 unfold TIf
 rw [chk_eval (by simp [cIf, hl])]
 cases hq : hasE l s with
 | true => rw [ite_t rfl]; rfl
 | false => rw [ite_f rfl]; unfold idxE; rw [if_neg (by rw [hq]; simp)]; rfl
theorem okIf : CSound Try.prog 117 (sIf idxE) ∧ CLocal (sIf idxE) :=
 pos_sound (L := LIf cIf hasE idxE) cFq_sound Try.func117 (by kernel_rfl) (loops1 (by kernel_rfl) lIf) fun xs hs hx hh hp => by
  obtain ⟨l, u1, u⟩ := xs
  obtain ⟨s, u2⟩ := hs
  exact (tIf _ _ _ l s).trans (TIf_eq hx.1.1)
abbrev Bk := List En × List (List Int) × Int × List Int × Unit
def nFi : PSpec := ⟨[tBl, .str], [i64], [], [], []⟩
theorem tFi (h : List En → ByteArray → Int) (b : Bk) (s : ByteArray) :
  (fnP Try.prog (ctx [(117, sIf h)]) L0 nFi Try.f106 (b, s, ()) ()).eval = (.ret ((h b.1 s, ()), ()) : Tr nFi.Out).eval := by kernel_rfl
def sFi (h : List En → ByteArray → Int) : CSpec := .pos nFi (fun _ _ => true) fun xs _ => ((h xs.1.1 xs.2.1, ()), ())
theorem okFi : CSound Try.prog 106 (sFi idxE) ∧ CLocal (sFi idxE) :=
 pos_sound (L := L0) (C := ctx [(117, sIf idxE)]) (ctx_sound ⟨okIf, trivial⟩) Try.func106 (by kernel_rfl) (noLoopsL (by kernel_rfl)) fun xs hs hx hh hp => by
  obtain ⟨b, s, u⟩ := xs
  exact tFi _ b s
abbrev nKy : PSpec := ⟨[tBl, .str], [w16, .bool], [], [], []⟩
def zero16 : List Int := List.replicate 16 0
def TKy (h : List En → ByteArray → Int) (b : Bk) (s : ByteArray) : Tr nKy.Out :=
 .ite (decide (h b.1 s < 0)) (.ret ((zero16, false, ()), ())) (.chk (inArr (h b.1 s) b.1.length) (.ret (((b.1.getD (h b.1 s).toNat (dflt tEnt)).2.1, true, ()), ())))
theorem tKy (h : List En → ByteArray → Int) (b : Bk) (s : ByteArray) :
  (fnP Try.prog (ctx [(106, sFi h)]) L0 nKy Try.f63 (b, s, ()) ()).eval = (TKy h b s).eval := by kernel_rfl
def keyF (b : Bk) (s : ByteArray) : List Int × Bool := match b.1.find? fun e => e.1 == s with | some e => (e.2.1, true) | none => (zero16, false)
def sKy : CSpec := .pos nKy (fun _ _ => true) fun xs _ => (((keyF xs.1 xs.2.1).1, (keyF xs.1 xs.2.1).2, ()), ())
theorem find_has {l : List En} {s : ByteArray} : ∀ {l : List En}, hasE l s = true → ∃ (h : (l.findIdx fun e => e.1 == s) < l.length), l.find? (fun e => e.1 == s) = some l[l.findIdx fun e => e.1 == s] := by
 intro l h
 have h1 := List.findIdx_lt_length_of_exists (p := fun e : En => e.1 == s) (xs := l) (by simpa [hasE] using h)
 refine ⟨h1, ?_⟩
 rw [List.find?_eq_getElem?_findIdx, List.getElem?_eq_getElem h1]
theorem find_none {l : List En} {s : ByteArray} (h : hasE l s = false) : l.find? (fun e => e.1 == s) = none := by
 rw [List.find?_eq_none]
 intro x hx hs
 have : hasE l s = true := List.any_eq_true.2 ⟨x, hx, hs⟩
 rw [h] at this; cases this
theorem TKy_eq {b : Bk} {s : ByteArray} : (TKy idxE b s).eval = some (((keyF b s).1, (keyF b s).2, ()), ()) := by
 unfold TKy keyF
 cases hq : hasE b.1 s with
 | true =>
  obtain ⟨h1, h2⟩ := find_has (l := b.1) hq
  have e : idxE b.1 s = ((b.1.findIdx fun e => e.1 == s : Nat) : Int) := if_pos hq
  rw [e, ite_f (decide_eq_false (by omega)), chk_eval (inArr_of h1), Int.toNat_natCast, getD_of h1, h2]
  rfl
 | false =>
  have e : idxE b.1 s = -1 := if_neg (by rw [hq]; simp)
  rw [e, ite_t (by decide), find_none hq]
  rfl
theorem okKy : CSound Try.prog 63 sKy ∧ CLocal sKy :=
 pos_sound (L := L0) (C := ctx [(106, sFi idxE)]) (ctx_sound ⟨okFi, trivial⟩) Try.func63 (by kernel_rfl) (noLoopsL (by kernel_rfl)) fun xs hs hx hh hp => by
  obtain ⟨b, s, u⟩ := xs
  exact (tKy _ b s).trans TKy_eq
def SAk : RSpec := ⟨[1, 2, 5], 22, [.str, .ptr 0 [], i64], [.box tBl], [.box tBl], [], fun x => match x with | .ret => ([4], [i64], [.box tBl]) | _ => ([], [], [.box tBl])⟩
def GAk (b : Bk) (s : ByteArray) (i : Int) : Tr SAk.End :=
 .ite (decide (i < (b.1.length : Int))) (.chk (inArr i b.1.length) (.ite ((b.1.getD i.toNat (dflt tEnt)).1 == s) (.ret (.inr (.ret, encS [4] [i64] [.box tBl] 22 (i, ()) (b, ())))) (.ret (.inl ((s, (), w (i + 1), ()), (b, ()))))))
  (.ret (.inr (.exit 0, encS [] [] [.box tBl] 22 () (b, ()))))
noncomputable def bAk : Code := loopAt Try.f103 0
theorem rAk (b : Bk) (s : ByteArray) (i : Int) : (SAk.round (bodyK Try.prog (ctx []) L0 bAk) (s, (), i, ()) (b, ())).eval = (GAk b s i).eval := by kernel_rfl
theorem mAk (s : ByteArray) (b : Bk) (hl : b.1.length ≤ 9223372036854775807) : ∀ (m k : Nat), k + m = b.1.length →
  SAk.many (bodyK Try.prog (ctx []) L0 bAk) (m + 1) (s, (), (k : Int), ()) (b, ()) = if hasE (b.1.drop k) s = true then some (.ret, encS [4] [i64] [.box tBl] 22 (((k + (b.1.drop k).findIdx fun e => e.1 == s : Nat) : Int), ()) (b, ())) else some (.exit 0, encS [] [] [.box tBl] 22 () (b, ()))
 | 0, k, h => by
  have e1 : b.1.drop k = [] := List.drop_eq_nil_of_le (by omega)
  rw [e1, if_neg (by simp [hasE])]
  refine rmany_inr ((rAk b s _).trans ?_) 0
  unfold GAk
  rw [ite_f (decide_eq_false (by omega))]
  rfl
 | m + 1, k, h => by
  have h1 : k < b.1.length := by omega
  have e2 : (b.1.drop k) = b.1[k] :: b.1.drop (k + 1) := List.drop_eq_getElem_cons h1
  cases hq : (b.1[k].1 == s) with
  | true =>
   have e3 : hasE (b.1.drop k) s = true := by simp only [hasE, e2, List.any_cons, hq, Bool.true_or]
   have e4 : ((b.1.drop k).findIdx fun e => e.1 == s) = 0 := by rw [e2, List.findIdx_cons, hq]; rfl
   rw [if_pos e3, e4]
   refine rmany_inr ((rAk b s _).trans ?_) _
   unfold GAk
   rw [Int.toNat_natCast, ite_t (decide_eq_true (by omega)), chk_eval (inArr_of h1), getD_of h1, ite_t hq]
   rfl
  | false =>
   have e3 : hasE (b.1.drop k) s = hasE (b.1.drop (k + 1)) s := by simp only [hasE, e2, List.any_cons, hq, Bool.false_or]
   have e4 : k + ((b.1.drop k).findIdx fun e => e.1 == s) = k + 1 + (b.1.drop (k + 1)).findIdx fun e => e.1 == s := by rw [e2, List.findIdx_cons, hq]; simp only [cond_false]; omega
   rw [e3, e4]
   refine (rmany_inl (d := ((s, (), ((k + 1 : Nat) : Int), ()), (b, ()))) ((rAk b s _).trans ?_) (m + 1)).trans (mAk s b hl m (k + 1) (by omega))
   unfold GAk
   rw [Int.toNat_natCast, ite_t (decide_eq_true (by omega)), chk_eval (inArr_of h1), getD_of h1, ite_f hq, w_succ h1 hl]
   rfl
def cAk (l : List En) (i : Int) : Bool := decide (l.length ≤ 9223372036854775807) && decide (i = 0)
def FAk (c : List En → Int → Bool) (h : List En → ByteArray → Bool) (ix : List En → ByteArray → Int) (xs : HL SAk.Ts) (hs : HD SAk.Es) : Tr (Ex × St) :=
 .chk (c hs.1.1 xs.2.2.1) (.ite (h hs.1.1 xs.1) (.ret (.ret, encS [4] [i64] [.box tBl] 22 (ix hs.1.1 xs.1, ()) hs)) (.ret (.exit 0, encS [] [] [.box tBl] 22 () hs)))
def LAk (c : List En → Int → Bool) (h : List En → ByteArray → Bool) (ix : List En → ByteArray → Int) : Loops := fun j st => if j = 2 then SAk.fn (FAk c h ix) st else .fail
theorem lAk : LoopOK Try.prog (LAk cAk hasE idxE) bAk :=
 rloop_ok (L := LAk cAk hasE idxE) (L' := L0) nil_sound (loopsOK_of (by kernel_rfl)) SAk (F := FAk cAk hasE idxE) (i := 2) (by kernel_rfl) (fun _ => rfl) fun xs hs q h => by
  obtain ⟨s, u1, i, u⟩ := xs
  obtain ⟨b, u2⟩ := hs
  obtain ⟨h1, h2⟩ := Tr.chk_some h
  simp only [cAk, Bool.and_eq_true, decide_eq_true_eq] at h1
  obtain ⟨hl, e2⟩ := h1
  have e2 : i = ((0 : Nat) : Int) := e2
  subst e2
  refine ⟨List.length (α := En) b.1 + 1, ?_⟩
  have := mAk s b hl (List.length (α := En) b.1) 0 (by omega)
  rw [List.drop_zero, Nat.zero_add] at this
  refine this.trans ?_
  rcases Tr.ite_some h2 with ⟨hx, h3⟩ | ⟨hx, h3⟩
  ·have hx : hasE b.1 s = true := hx
   have := Tr.ret_some h3
   subst this
   rw [if_pos hx]
   simp only [idxE, if_pos hx]
  ·have hx : hasE b.1 s = false := hx
   have := Tr.ret_some h3
   subst this
   rw [if_neg (by rw [hx]; simp)]
def TAk (c : List En → Int → Bool) (h : List En → ByteArray → Bool) (ix : List En → ByteArray → Int) (b : Bk) (s : ByteArray) : Tr nFi.Out :=
 .chk (c b.1 0) (.ite (h b.1 s) (.ret ((ix b.1 s, ()), ())) (.ret ((-1, ()), ())))
theorem tAk (c : List En → Int → Bool) (h : List En → ByteArray → Bool) (ix : List En → ByteArray → Int) (b : Bk) (s : ByteArray) :
  (fnP Try.prog (ctx []) (LAk c h ix) nFi Try.f103 (b, s, ()) ()).eval = (TAk c h ix b s).eval := by kernel_rfl
theorem TAk_eq {b : Bk} {s : ByteArray} (hl : b.1.length ≤ 9223372036854775807) : (TAk cAk hasE idxE b s).eval = some ((idxE b.1 s, ()), ()) := by
 unfold TAk
 rw [chk_eval (by simp [cAk, hl])]
 cases hq : hasE b.1 s with
 | true => rw [ite_t rfl]; rfl
 | false => rw [ite_f rfl]; unfold idxE; rw [if_neg (by rw [hq]; simp)]; rfl
theorem okAk : CSound Try.prog 103 (sFi idxE) ∧ CLocal (sFi idxE) :=
 pos_sound (L := LAk cAk hasE idxE) nil_sound Try.func103 (by kernel_rfl) (loops1 (by kernel_rfl) lAk) fun xs hs hx hh hp => by
  obtain ⟨b, s, u⟩ := xs
  exact (tAk _ _ _ b s).trans (TAk_eq hx.1.1.1)
theorem tRk (h : List En → ByteArray → Int) (b : Bk) (s : ByteArray) :
  (fnP Try.prog (ctx [(103, sFi h)]) L0 nKy Try.f64 (b, s, ()) ()).eval = (TKy h b s).eval := by kernel_rfl
theorem okRk : CSound Try.prog 64 sKy ∧ CLocal sKy :=
 pos_sound (L := L0) (C := ctx [(103, sFi idxE)]) (ctx_sound ⟨okAk, trivial⟩) Try.func64 (by kernel_rfl) (noLoopsL (by kernel_rfl)) fun xs hs hx hh hp => by
  obtain ⟨b, s, u⟩ := xs
  exact (tRk _ b s).trans TKy_eq
end Go.Proofs.Ytffdkniccaebmaa.Bok
end
section
set_option linter.unusedVariables false
namespace Vse
open Go Go.ChangeShapes Go.Proofs Go.Sort Go.Shelf
section
variable {P : Program} {C : Ctx} {L : Loops} {g : G} {H : Heap} {w : World}
abbrev Cel := { v : Value // v.oneCell' = true }
instance : Inhabited Cel := ⟨⟨.bool false, rfl⟩⟩
def cutL {α : Type} (l : List α) (i j : Nat) : List α := l.take i ++ l.drop j
def CSpec.del (A : Ty) : CSpec :=
 ⟨0, fun vs _ => match vs with | .v (.vc e _) _ :: _ => [e] | _ => [], fun vs _ => match vs with | .v (.vc e _) _ :: _ => [e] | _ => [],
  fun vs es _ => match vs with
  | [.v (.vc e k) _, .v (.int .i64) i, .v (.int .i64) j] => match es with
   | [.vec k' a l] => if k = k' then (match castL ⟨a, l⟩ A with
    | some m => .chk (decide (0 ≤ i ∧ i < j ∧ j ≤ m.length)) (.ret (.v (.vc e (k + 1)) (), [(e, .vec (k + 1) A (cutL m i.toNat j.toNat))]))
    | none => .fail) else .fail
   | _ => .fail
  | _ => .fail⟩
theorem del_local (A : Ty) : CLocal (CSpec.del A) where
 same vs H H' h := ⟨rfl, rfl⟩
 turns vs H fr out h x hx := by
  simp only [CSpec.del] at h
  split at h
  ·split at h
   ·split at h
    ·split at h
     ·obtain ⟨_, h⟩ := Tr.chk_some h
      have := Tr.ret_some h
      subst this
      simp only [List.mem_singleton] at hx
      subst hx
      exact .inl (by simp [CSpec.del])
     ·exact (Tr.fail_some h).elim
    ·exact (Tr.fail_some h).elim
   ·exact (Tr.fail_some h).elim
  ·exact (Tr.fail_some h).elim
theorem repL_app {α : Type} {R : α → List Value → Prop} : ∀ {l m : List α} {vs us : List Value}, repL R l vs → repL R m us → repL R (l ++ m) (vs ++ us)
 | [], m, vs, us, h, h' => by rw [show vs = [] from h]; exact h'
 | x :: l, m, vs, us, ⟨c1, c2, e, r1, r2⟩, h' => by
  subst e
  exact ⟨c1, c2 ++ us, by simp, r1, repL_app r2 h'⟩
theorem nat_args {i j : Int} {n : Nat} (h : 0 ≤ i ∧ i < j ∧ j ≤ n) : ∃ a b : Nat, i = (a : Int) ∧ j = (b : Int) ∧ a < b ∧ b ≤ n := ⟨i.toNat, j.toNat, by omega, by omega, by omega, by omega⟩
end
end Vse
end
section
set_option linter.unusedVariables false
namespace Vse
open Go Go.ChangeShapes Go.Proofs Go.Shelf Go.RowKit Go.Lib Go.Sort
structure WLay (P : Program) (ρ : Ren) (ag : Bool) (k : Nat) : Prop where
 mixed : P.follows .mixedOrders = true
 f45 : Bears P (ρ.f 45) (SlBodyN.n45 ρ)
 t0 : P.underlying (ρ.t 0) = some (TypeDesc.tuple #[])
 a0 : ∀ w, (isAgg (ρ.t 0)).run P w = .ok false w
 z0 : ∀ w, (Go.sizeOf (ρ.t 0)).run P w = .ok 1 w
 v0 : ∀ w, (zeroValue (ρ.t 0)).run P w = .ok (Value.tuple #[]) w
 t3 : P.underlying (ρ.t 3) = some (TypeDesc.int IntKind.i64)
 a3 : ∀ w, (isAgg (ρ.t 3)).run P w = .ok false w
 z3 : ∀ w, (Go.sizeOf (ρ.t 3)).run P w = .ok 1 w
 v3 : ∀ w, (zeroValue (ρ.t 3)).run P w = .ok (Value.int IntKind.i64 0) w
 t4 : P.underlying (ρ.t 4) = some (TypeDesc.bool)
 a4 : ∀ w, (isAgg (ρ.t 4)).run P w = .ok false w
 z4 : ∀ w, (Go.sizeOf (ρ.t 4)).run P w = .ok 1 w
 v4 : ∀ w, (zeroValue (ρ.t 4)).run P w = .ok (Value.bool false) w
 t22 : P.underlying (ρ.t 22) = some (TypeDesc.slice (ρ.t 23))
 a22 : ∀ w, (isAgg (ρ.t 22)).run P w = .ok false w
 z22 : ∀ w, (Go.sizeOf (ρ.t 22)).run P w = .ok 1 w
 v22 : ∀ w, (zeroValue (ρ.t 22)).run P w = .ok (Value.slice none 0 0) w
 a23 : ∀ w, (isAgg (ρ.t 23)).run P w = .ok ag w
 z23 : ∀ w, (Go.sizeOf (ρ.t 23)).run P w = .ok k w
variable {P : Program} {ρ : Ren}
theorem zeroCells_len (zs : Array Value) (n : Nat) : (Builtin.zeroCells zs n).toList.length = n * zs.size := by simp [Builtin.zeroCells]
theorem zeroCells_one {zs : Array Value} (hz : 0 < zs.size) (h1 : ∀ v ∈ zs.toList, v.oneCell' = true) {n : Nat} : ∀ v ∈ (Builtin.zeroCells zs n).toList, v.oneCell' = true := fun v hv => by
 simp only [Builtin.zeroCells, Array.toList_map, List.mem_map] at hv
 obtain ⟨i, _, rfl⟩ := hv
 have : i % zs.size < zs.size := Nat.mod_lt _ hz
 rw [getElem!_pos zs _ this]
 exact h1 _ (by simp)
theorem run_clear_wide (w : World) (t e ty : TypeId) (z : Value) (zs : Array Value) (ht : P.underlying t = some (.slice e)) (hv : ∀ w, (zeroValue e).run P w = .ok z w) (hz : z.cells = zs) (h0 : 0 < zs.size) (h1 : ∀ v ∈ zs.toList, v.oneCell' = true) (b o n c : Nat) (hn : 0 < n)
  (hc : ∀ j, j < n * zs.size → (w.cell? ⟨b, o + j, none⟩).isSome = true) (hf : ∀ j, j < n * zs.size → w.frozen? ⟨b, o + j, none⟩ = false) :
  (Builtin.clear_ #[t] ty #[.slice (some ⟨b, o, none⟩) n c]).run P w = .ok (.tuple #[]) (w.setCells b o (Builtin.zeroCells zs n).toList) := by
 have hst := run_storeCells_cells (P := P) b o (Builtin.zeroCells zs n).toList 0 w (by rw [zeroCells_len]; simpa using hc) (by rw [zeroCells_len]; simpa using hf) (zeroCells_one h0 h1)
 simp only [Nat.add_zero] at hst
 obtain ⟨m, rfl⟩ : ∃ m, n = m + 1 := ⟨n - 1, by omega⟩
 simp [Builtin.clear_, run_underlying ht, hv, hz, hst]
theorem setMany_list (F : Array Value) (s : Nat) (vs : List Value) (h : s + vs.length ≤ F.size) : (setMany F s vs).toList = F.toList.take s ++ vs ++ F.toList.drop (s + vs.length) := by
 have hl : (F.toList.take s ++ vs ++ F.toList.drop (s + vs.length)).length = F.size := by simp; omega
 apply List.ext_getElem
 ·rw [Array.length_toList, size_setMany, hl]
 ·intro t h1 h2
  have ht : t < F.size := by rw [← hl]; exact h2
  have ht' : t < (setMany F s vs).size := by rw [size_setMany]; exact ht
  have e1 : (setMany F s vs).toList[t] = (setMany F s vs)[t]! := by rw [getElem!_pos _ t ht', Array.getElem_toList]
  rw [e1, get_setMany _ _ _ _ ht]
  by_cases a : t < s
  ·rw [if_neg (by omega), List.getElem_append_left (by simp; omega), List.getElem_append_left (by simp; omega), List.getElem_take, Array.getElem_toList, getElem!_pos _ t ht]
  ·by_cases b : t < s + vs.length
   ·rw [if_pos ⟨by omega, b⟩, List.getElem_append_left (by simp; omega), List.getElem_append_right (by simp; omega)]
    have : t - s < vs.length := by omega
    rw [getElem!_pos vs (t - s) this]
    congr 1
    simp; omega
   ·rw [if_neg (by omega), List.getElem_append_right (by simp; omega), List.getElem_drop, getElem!_pos _ t ht]
    simp only [Array.getElem_toList]
    congr 1
    simp; omega
set_option maxHeartbeats 4000000 in
set_option maxRecDepth 1000000 in
theorem wide_delete {ag : Bool} {k : Nat} (L : WLay P ρ ag k) (z : Value) (zs : Array Value) (v23 : ∀ w, (zeroValue (ρ.t 23)).run P w = .ok z w) (hz : z.cells = zs) (hzk : zs.size = k) (hk : 0 < k) (hz1 : ∀ v ∈ zs.toList, v.oneCell' = true)
  (i0 : TypeInfo) (hi0 : P.info? (ρ.t 23) = some i0) (hi1 : i0.size = k) (blk cap i j n : Nat) (us : List Value) (hus : us.length = n * k) (h1 : ∀ v ∈ us, v.oneCell' = true) (w : World)
  (hH : ∀ t (h : t < us.length), w.cell? ⟨blk, t, none⟩ = some us[t] ∧ w.frozen? ⟨blk, t, none⟩ = false) (hcap : n ≤ cap) (hm : cap ≤ 9223372036854775807) (hij : i < j) (hj : j ≤ n) :
  Calls P (ρ.f 45) #[.slice (some ⟨blk, 0, none⟩) n cap, .int .i64 i, .int .i64 j] w fun e w' => e = .returned (.slice (some ⟨blk, 0, none⟩) (n - (j - i)) cap) ∧
   w' = putRow id (Sort.ahead w 1) blk 0 (us.take (i * k) ++ us.drop (j * k) ++ (Builtin.zeroCells zs (j - i)).toList).toArray := by
 have mixed := L.mixed; have t0 := L.t0; have a0 := L.a0; have z0 := L.z0; have v0 := L.v0; have t3 := L.t3; have a3 := L.a3; have z3 := L.z3; have v3 := L.v3; have t4 := L.t4; have a4 := L.a4; have z4 := L.z4; have v4 := L.v4; have t22 := L.t22; have a22 := L.a22; have z22 := L.z22; have v22 := L.v22; have a23 := L.a23; have z23 := L.z23
 obtain ⟨news, hnews⟩ : ∃ news, news = us.drop (j * k) := ⟨_, rfl⟩
 have hjk : j * k ≤ n * k := Nat.mul_le_mul_right k hj
 have hlen : news.length = (n - j) * k := by rw [hnews, List.length_drop, hus, Nat.sub_mul]
 obtain ⟨A, hA, hsrc⟩ : ∃ A : Addr, (if cap = j then some (⟨blk, 0, none⟩ : Addr) else some ⟨blk, j * k, none⟩) = some A ∧ Hid (∀ t u, news[t]? = some u → w.drew.cell? (A.add t) = some u) := by
  by_cases h : cap = j
  ·refine ⟨⟨blk, 0, none⟩, by simp [h], fun t u hu => ?_⟩
   have h0 : news.length = 0 := by rw [hlen, show n - j = 0 by omega, Nat.zero_mul]
   rw [List.length_eq_zero_iff.1 h0] at hu
   simp at hu
  ·refine ⟨⟨blk, j * k, none⟩, by simp [h], fun t u hu => ?_⟩
   have ht : t < news.length := (List.getElem?_eq_some_iff.1 hu).1
   rw [hnews, List.getElem?_drop] at hu
   rw [Addr.add_lit]
   obtain ⟨h3, h4⟩ := List.getElem?_eq_some_iff.1 hu
   rw [← h4]
   exact (hH (j * k + t) h3).1
 have s1 : Hid (news.length = (n - j) * k) := hlen
 have s2 : Hid (∀ u ∈ news, u.oneCell' = true) := by
  intro u hu
  rw [hnews] at hu
  exact h1 u (List.mem_of_mem_drop hu)
 have hik : i * k + (n - j) * k ≤ n * k := by rw [← Nat.add_mul]; exact Nat.mul_le_mul_right k (by omega)
 have s3 : Hid (∀ t, t < news.length → (w.drew.cell? ⟨blk, 0 + i * k + t, none⟩).isSome = true ∧ w.drew.frozen? ⟨blk, 0 + i * k + t, none⟩ = false) := by
  intro t ht
  rw [hlen] at ht
  rw [Nat.zero_add]
  have h := hH (i * k + t) (by rw [hus]; omega)
  exact ⟨by show (w.cell? _).isSome = true; rw [h.1]; rfl, h.2⟩
 obtain ⟨W1, hW1⟩ : ∃ W1, W1 = w.drew.setCells blk (0 + i * k) news := ⟨_, rfl⟩
 have hcl : ∀ ty, (Builtin.clear_ #[ρ.t 22] ty #[.slice (some ⟨blk, (i + (n - j)) * k, none⟩) (n - (i + (n - j))) (cap - (i + (n - j)))]).run P W1 = .ok (.tuple #[]) (W1.setCells blk ((i + (n - j)) * k) (Builtin.zeroCells zs (n - (i + (n - j)))).toList) := by
  intro ty
  have hend : (i + (n - j)) * k + (n - (i + (n - j))) * k ≤ n * k := by rw [← Nat.add_mul]; exact Nat.mul_le_mul_right k (by omega)
  refine run_clear_wide W1 _ _ ty z zs t22 v23 hz (by omega) hz1 blk ((i + (n - j)) * k) _ _ (by omega) (fun t ht => ?_) (fun t ht => ?_)
  ·rw [hW1]
   refine World.isSome_setCells blk news _ _ _ ?_
   show (w.cell? _).isSome = true
   rw [hzk] at ht
   rw [(hH ((i + (n - j)) * k + t) (by rw [hus]; omega)).1]; rfl
  ·rw [hW1, World.frozen?_setCells]
   rw [hzk] at ht
   exact (hH ((i + (n - j)) * k + t) (by rw [hus]; omega)).2
 have hfin : W1.setCells blk ((i + (n - j)) * k) (Builtin.zeroCells zs (j - i)).toList = putRow id (Sort.ahead w 1) blk 0 (us.take (i * k) ++ us.drop (j * k) ++ (Builtin.zeroCells zs (j - i)).toList).toArray := by
  have hHo : Holds id (Sort.ahead w 1) blk 0 us.toArray := by
   intro t ht
   have ht' : t < us.length := by simpa using ht
   have := hH t ht'
   rw [Nat.zero_add, getElem!_pos _ t ht]
   exact this
  have e0 : w.drew = putRow id (Sort.ahead w 1) blk 0 us.toArray := (putRow_self id (Sort.ahead w 1) blk 0 us.toArray hHo).symm
  have hik0 : i * k ≤ us.length := by rw [hus]; exact Nat.mul_le_mul_right k (by omega)
  have hz2 : (Builtin.zeroCells zs (j - i)).toList.length = (j - i) * k := by rw [zeroCells_len, hzk]
  have e3 : (i + (n - j)) * k = i * k + (n - j) * k := Nat.add_mul _ _ _
  have e4 : i * k + (n - j) * k + (j - i) * k = n * k := by rw [← Nat.add_mul, ← Nat.add_mul]; congr 1; omega
  have l1 : i * k + news.length ≤ us.toArray.size := by rw [hlen, List.size_toArray, hus]; omega
  have l2 : (i + (n - j)) * k + (Builtin.zeroCells zs (j - i)).toList.length ≤ (setMany us.toArray (i * k) news).size := by rw [hz2, size_setMany, List.size_toArray, hus, e3]; omega
  have h5 := setCells_putRow (Sort.ahead w 1) blk 0 news (i * k) us.toArray l1
  have h6 := setCells_putRow (Sort.ahead w 1) blk 0 (Builtin.zeroCells zs (j - i)).toList ((i + (n - j)) * k) (setMany us.toArray (i * k) news) l2
  rw [Nat.zero_add] at h6
  rw [hW1, e0, h5, h6]
  congr 1
  apply Array.toList_inj.1
  rw [setMany_list _ _ _ l2, setMany_list _ _ _ l1, hz2]
  have hA : (us.toArray.toList.take (i * k) ++ news ++ us.toArray.toList.drop (i * k + news.length)).take ((i + (n - j)) * k) = us.take (i * k) ++ news := by
   rw [List.take_append_of_le_length (by simp; rw [hlen]; omega), List.take_of_length_le (by simp; rw [hlen]; omega)]
  have hB : (us.toArray.toList.take (i * k) ++ news ++ us.toArray.toList.drop (i * k + news.length)).drop ((i + (n - j)) * k + (j - i) * k) = [] := by
   apply List.drop_eq_nil_of_le
   simp
   rw [hlen]; omega
  rw [hA, hB, List.append_nil, hnews]
 have hW : Hid (W1 = w.drew.setCells blk (0 + i * k) news) := hW1
 have hic : i ≤ cap := by omega
 have hjc : j ≤ cap := by omega
 have X : Aside (W1.setCells blk ((i + (n - j)) * k) (Builtin.zeroCells zs (j - i)).toList = putRow id (Sort.ahead w 1) blk 0 (us.take (i * k) ++ us.drop (j * k) ++ (Builtin.zeroCells zs (j - i)).toList).toArray) := hfin
 have hne : ¬ i = j := by omega
 clear hfin hW1 hH hnews hlen hus h1 hjk hik
 obtain ⟨_, _, FG⟩ := L.f45
 go_enter FG, SlBodyN.n45_ntmps ρ
 go_wp2_with fail
 go_region_law_o (refine step_append_room rfl (.tmp 22) (.tmp 25) (ρ.t 22) rfl (ρ.t 23) i0 k t22 hi0 hi1 blk 0 i cap (by simp [Act.eval, Act.put]) A (n - j) (cap - j) news (by simp [Act.eval, Act.put]) s1.out hsrc.out s2.out (by omega) s3.out ?_; rw [← hW.out])
 go_wp2
 go_ret
 refine ⟨by rw [show n - (j - i) = i + (n - j) by omega]; rfl, ?_⟩
 rw [← X.out, show n - (i + (n - j)) = j - i by omega]
section
variable {P : Program} {C : Ctx} {L : Loops} {g : G} {H : Heap} {w : World}
theorem repL_nc {α : Type} {R : α → List Value → Prop} {k : Nat} (h1 : ∀ x cs, R x cs → cs.length = k) : ∀ {l : List α} {vs : List Value}, repL R l vs → vs.length = l.length * k
 | [], vs, h => by rw [show vs = [] from h]; simp
 | x :: l, vs, ⟨c1, c2, e, r1, r2⟩ => by
  rw [e, List.length_append, h1 _ _ r1, repL_nc h1 r2, List.length_cons, Nat.succ_mul, Nat.add_comm]
theorem repL_cutW {α : Type} {R : α → List Value → Prop} {k : Nat} (h1 : ∀ x cs, R x cs → cs.length = k) : ∀ {l : List α} {vs : List Value} (i : Nat), repL R l vs → repL R (l.take i) (vs.take (i * k)) ∧ repL R (l.drop i) (vs.drop (i * k))
 | l, vs, 0, h => ⟨by rw [Nat.zero_mul, List.take_zero, List.take_zero]; rfl, by rw [Nat.zero_mul, List.drop_zero, List.drop_zero]; exact h⟩
 | [], vs, i + 1, h => by rw [show vs = [] from h]; exact ⟨by rw [List.take_nil, List.take_nil]; rfl, by rw [List.drop_nil, List.drop_nil]; rfl⟩
 | x :: l, vs, i + 1, ⟨c1, c2, e, r1, r2⟩ => by
  have hc := h1 _ _ r1
  subst e
  obtain ⟨q1, q2⟩ := repL_cutW h1 i r2
  have e1 : (c1 ++ c2).take ((i + 1) * k) = c1 ++ c2.take (i * k) := by
   rw [Nat.succ_mul, List.take_append, List.take_of_length_le (by omega), hc, Nat.add_sub_cancel]
  have e2 : (c1 ++ c2).drop ((i + 1) * k) = c2.drop (i * k) := by
   rw [Nat.succ_mul, List.drop_append, List.drop_eq_nil_of_le (by omega), hc, Nat.add_sub_cancel, List.nil_append]
  rw [e1, e2]
  exact ⟨⟨c1, _, rfl, r1, q1⟩, q2⟩
theorem del_soundW {A : Ty} (hk0 : 0 < A.nc) {ρ : Ren} {ag : Bool} (hL : WLay P ρ ag A.nc) {z : Value} {zs : Array Value} (hzz : z.cells = zs) (hzk : zs.size = A.nc) (hzo : (zs.toList.all fun v => v.oneCell') = true) (hz : ∀ w, (zeroValue (ρ.t 23)).run P w = .ok z w) {i0 : TypeInfo} (hi0 : P.info? (ρ.t 23) = some i0) (hz1 : i0.size = A.nc)
  {kf : Nat} (hk : ρ.f 45 = kf) (henter : ∀ args w, (callFunc kf args).run P w = .ok (.enter kf args) w) : CSound P kf (CSpec.del A) ∧ CLocal (CSpec.del A) := by
 refine ⟨⟨henter, ?_⟩, del_local A⟩
 intro g H w vs rvs fr out hI hargs _ he
 simp only [CSpec.del] at he
 split at he
 ·rename_i e k u i j
  simp only [ents] at he
  split at he
  ·rename_i k' a l hes
   simp only [List.cons.injEq, and_true] at hes
   split at he
   ·rename_i hh
    subst hh
    split at he
    ·rename_i m hm
     have := castL_some hm
     simp only [Sigma.mk.injEq] at this
     obtain ⟨rfl, hml⟩ := this
     have hml := eq_of_heq hml
     subst hml
     obtain ⟨hp, he⟩ := Tr.chk_some he
     have := Tr.ret_some he
     subst this
     obtain ⟨i', j', hi', hj', hij, hj⟩ := nat_args (of_decide_eq_true hp)
     obtain ⟨r1, rs, rfl, hv1, r2, rs2, rfl, hv2, r3, rs3, rfl, hv3, hr4⟩ := hargs
     have hr4 : rs3 = [] := hr4
     subst hr4
     obtain ⟨rfl, _⟩ := TRep_int.1 ((VRep_v (by simp)).1 hv2)
     obtain ⟨rfl, _⟩ := TRep_int.1 ((VRep_v (by simp)).1 hv3)
     have hi' : i = (i' : Int) := hi'
     have hj' : j = (j' : Int) := hj'
     subst hi'; subst hj'
     have hE : getE H e = .vec k a l := hes
     have hlive : (getE H e).live = true := by rw [hE]; rfl
     have hent := hI.ent e
     rw [hE] at hent
     have hv := (VRep_v (by simp)).1 hv1
     simp only [TRep, Ty.agg, Ty.sk, Sk.agg, Bool.false_eq_true, if_false, Rep, G.vcr, hI.sh, hE, shp] at hv
     obtain ⟨_, _, hv⟩ := hv
     rcases hv trivial with ⟨_, h0, _⟩ | ⟨b, cap, hb, hsl, hcap, hcz⟩
     ·omega
     simp only [List.cons.injEq, and_true] at hsl
     subst hsl
     rcases hent with ⟨q1, _⟩ | ⟨b', cs, t, fz, us, r, q1, q2, q3, q4, q5, q6, q7⟩
     ·rw [hb] at q1; cases q1
     rw [hb] at q1
     cases q1
     have hlen := repL_nc (fun x cs h => Rep_length _ _ _ h) q6
     have hcel : ∀ v ∈ us, v.oneCell' = true := repL_cells (fun x cs h => Rep_cells a x cs h) q6
     have hH : ∀ t' (h : t' < us.length), w.cell? ⟨b, t', none⟩ = some us[t'] ∧ w.frozen? ⟨b, t', none⟩ = false := by
      intro t' ht2
      have hjc : t' < cs.size := by rw [← Array.length_toList, q5, List.length_append]; omega
      refine ⟨?_, ?_⟩
      ·simp only [World.cell?, q2, Option.isSome_none, Bool.false_eq_true, if_false]
       rw [Array.getElem?_eq_getElem hjc]
       have e1 : cs[t'] = cs.toList[t']'(by simpa using hjc) := (Array.getElem_toList (h := hjc)).symm
       rw [e1]
       simp only [q5]
       rw [List.getElem_append_left ht2]
      ·obtain ⟨lo, hi2⟩ := fz
       simp only [World.frozen?, q2]
       rcases q3 with h | h
       ·simp only at h
        simp; omega
       ·simp only at h
        simp; omega
     have hcon := wide_delete hL z zs hz hzz hzk hk0 (fun v hv => List.all_eq_true.1 hzo v hv) i0 hi0 hz1 b cap i' j' l.length us hlen hcel w hH hcap.1 hcap.2 hij hj
     rw [hk] at hcon
     refine hcon.mono ?_
     rintro ed w' ⟨rfl, rfl⟩
     have hI1 : HInv g H (Sort.ahead w 1) := hI.later (fun b o h => h) ⟨rfl, Nat.le_add_right _ _⟩
     have q2' : (Sort.ahead w 1).heap[b]? = some (.cells cs t fz) := q2
     have hle1 : j' * a.nc ≤ l.length * a.nc := Nat.mul_le_mul_right _ hj
     have hle2 : i' * a.nc ≤ j' * a.nc := Nat.mul_le_mul_right _ (Nat.le_of_lt hij)
     have hzl : (Builtin.zeroCells zs (j' - i')).toList.length = (j' - i') * a.nc := by rw [zeroCells_len, hzk]
     have hsub : (j' - i') * a.nc = j' * a.nc - i' * a.nc := Nat.sub_mul _ _ _
     generalize hF : (us.take (i' * a.nc) ++ us.drop (j' * a.nc) ++ (Builtin.zeroCells zs (j' - i')).toList) = F
     have hFl : F.length = us.length := by rw [← hF, hlen]; simp only [List.length_append, List.length_take, List.length_drop, hzl, hlen]; omega
     rw [setRow_put q2']
     have hFs : (F.toArray).size = us.length := by simp [hFl]
     have hcs' := putCells_list (F := F.toArray) q5 hFs
     have hsize : (putCells id 0 F.toArray cs).size = cs.size := by simp [putCells]
     obtain ⟨a1, a2⟩ := repL_cutW (fun x cs h => Rep_length _ _ _ h) i' q6
     obtain ⟨a3, a4⟩ := repL_cutW (fun x cs h => Rep_length _ _ _ h) j' q6
     obtain ⟨g', w1, w2, w3, w4, w5⟩ := hI1.setVec (k' := k + 1) (l' := cutL l i' j') (vs := us.take (i' * a.nc) ++ us.drop (j' * a.nc)) (r := (Builtin.zeroCells zs (j' - i')).toList ++ r) hE hb q2' (by rw [hsize]; exact q4) (by unfold thawed at q3 ⊢; rw [hsize]; exact q3) (.inl (Nat.lt_succ_self k))
      (by rw [hcs', ← List.append_assoc, ← hF]) (repL_app a1 a4) (fun v hv => by
       rcases List.mem_append.1 hv with hv | hv
       ·exact zeroCells_one (by omega) (fun v hv => List.all_eq_true.1 hzo v hv) v hv
       ·exact q7 v hv)
     have hcl : (cutL l i' j').length = l.length - (j' - i') := by unfold cutL; simp; omega
     refine ⟨_, g', rfl, w1, w2, (VRep_v (by simp)).2 (TRep_of_leaf rfl ?_)⟩
     simp only [Rep, G.vcr, w3]
     refine ⟨⟨_, rfl, rfl⟩, Nat.le_refl _, fun _ => .inr ⟨b, cap, w4, by rw [hcl], ⟨by omega, hcap.2⟩, by rw [w5]; exact hcz⟩⟩
    ·exact (Tr.fail_some he).elim
   ·exact (Tr.fail_some he).elim
  ·exact (Tr.fail_some he).elim
 ·exact (Tr.fail_some he).elim
end
end Vse
end
section
set_option linter.unusedVariables false
set_option linter.unusedSimpArgs false
set_option maxRecDepth 100000
namespace Go.Proofs.Ytffdkniccaebmaa.Bok
open Go Vse Go.Proofs Gen
open Jnl (enterF)
def SEe : RSpec := ⟨[0, 1, 12, 13], 26, [.imm false false tEnt, .imm false false tEnt, i64, i64], [], [], [], fun x => match x with | .ret => ([4], [.bool], []) | _ => ([], [], [])⟩
noncomputable def bEe : Code := loopAt Try.f104 0
def GEe (a b : List En) (n i : Int) : Tr SEe.End :=
 .ite (decide (i < n)) (.chk (inArr i a.length) (.chk (inArr i b.length) (.ite (!eqT tEnt (a.getD i.toNat (dflt tEnt)) (b.getD i.toNat (dflt tEnt))) (.ret (.inr (.ret, encS [4] [.bool] [] 26 (false, ()) ()))) (.ret (.inl ((a, b, n, w (i + 1), ()), ()))))))
  (.ret (.inr (.exit 0, encS [] [] [] 26 () ())))
theorem rEe (a b : List En) (n i : Int) : (SEe.round (bodyK Try.prog (ctx []) L0 bEe) (a, b, n, i, ()) ()).eval = (GEe a b n i).eval := by kernel_rfl
theorem mEe (a b : List En) (hl : a.length ≤ 9223372036854775807) (hb : b.length = a.length) : ∀ (m k : Nat), k + m = a.length →
  SEe.many (bodyK Try.prog (ctx []) L0 bEe) (m + 1) (a, b, (a.length : Int), (k : Int), ()) () = if eqList (eqT tEnt) (a.drop k) (b.drop k) = true then some (.exit 0, encS [] [] [] 26 () ()) else some (.ret, encS [4] [.bool] [] 26 (false, ()) ())
 | 0, k, h => by
  have e1 : a.drop k = [] := List.drop_eq_nil_of_le (by omega)
  have e2 : b.drop k = [] := List.drop_eq_nil_of_le (by omega)
  rw [e1, e2, if_pos (show eqList (eqT tEnt) [] [] = true from rfl)]
  refine rmany_inr ((rEe a b _ _).trans ?_) 0
  unfold GEe
  rw [ite_f (decide_eq_false (by omega))]
  rfl
 | m + 1, k, h => by
  have h1 : k < a.length := by omega
  have h2 : k < b.length := by omega
  have e1 := List.drop_eq_getElem_cons h1
  have e2 := List.drop_eq_getElem_cons h2
  have e3 : eqList (eqT tEnt) (a.drop k) (b.drop k) = (eqT tEnt a[k] b[k] && eqList (eqT tEnt) (a.drop (k + 1)) (b.drop (k + 1))) := by rw [e1, e2]; rfl
  cases hq : eqT tEnt a[k] b[k] with
  | true =>
   have e4 : eqList (eqT tEnt) (a.drop k) (b.drop k) = eqList (eqT tEnt) (a.drop (k + 1)) (b.drop (k + 1)) := by rw [e3, hq, Bool.true_and]
   rw [e4]
   refine (rmany_inl (d := ((a, b, (a.length : Int), ((k + 1 : Nat) : Int), ()), ())) ((rEe a b _ _).trans ?_) (m + 1)).trans (mEe a b hl hb m (k + 1) (by omega))
   unfold GEe
   rw [ite_t (decide_eq_true (by omega)), chk_eval (inArr_of h1), chk_eval (inArr_of h2), Int.toNat_natCast, getD_of h1, getD_of h2, ite_f (by rw [hq]; rfl), w_succ h1 hl]
   rfl
  | false =>
   rw [if_neg (by rw [e3, hq]; simp)]
   refine rmany_inr ((rEe a b _ _).trans ?_) _
   unfold GEe
   rw [ite_t (decide_eq_true (by omega)), chk_eval (inArr_of h1), chk_eval (inArr_of h2), Int.toNat_natCast, getD_of h1, getD_of h2, ite_t (by rw [hq]; rfl)]
   rfl
def cEe (a b : List En) (n i : Int) : Bool := decide (a.length ≤ 9223372036854775807) && (decide (b.length = a.length) && (decide (n = (a.length : Int)) && decide (i = 0)))
def FEe (c : List En → List En → Int → Int → Bool) (f : List En → List En → Bool) (xs : HL SEe.Ts) (hs : HD SEe.Es) : Tr (Ex × St) :=
 .chk (c xs.1 xs.2.1 xs.2.2.1 xs.2.2.2.1) (.ite (f xs.1 xs.2.1) (.ret (.exit 0, encS [] [] [] 26 () ())) (.ret (.ret, encS [4] [.bool] [] 26 (false, ()) ())))
def LEe (c : List En → List En → Int → Int → Bool) (f : List En → List En → Bool) : Loops := fun j st => if j = 4 then SEe.fn (FEe c f) st else .fail
def samee (a b : List En) : Bool := eqList (eqT tEnt) a b
theorem lEe : LoopOK Try.prog (LEe cEe samee) bEe :=
 rloop_ok (L := LEe cEe samee) (L' := L0) nil_sound (loopsOK_of (by kernel_rfl)) SEe (F := FEe cEe samee) (i := 4) (by kernel_rfl) (fun _ => rfl) fun xs hs q h => by
  obtain ⟨a, b, n, i, u⟩ := xs
  obtain ⟨h1, h2⟩ := Tr.chk_some h
  simp only [cEe, Bool.and_eq_true, decide_eq_true_eq] at h1
  obtain ⟨hl, hb, hn, e2⟩ := h1
  have e2 : i = ((0 : Nat) : Int) := e2
  have hn : n = ((List.length (α := En) a : Nat) : Int) := hn
  subst e2; subst hn
  refine ⟨List.length (α := En) a + 1, ?_⟩
  have := mEe a b hl hb (List.length (α := En) a) 0 (by omega)
  rw [List.drop_zero, List.drop_zero] at this
  refine this.trans ?_
  rcases Tr.ite_some h2 with ⟨hx, h3⟩ | ⟨hx, h3⟩
  ·have hx : eqList (eqT tEnt) a b = true := hx
   rw [if_pos hx]
   exact congrArg some (Tr.ret_some h3)
  ·have hx : eqList (eqT tEnt) a b = false := hx
   rw [if_neg (by rw [hx]; simp)]
   exact congrArg some (Tr.ret_some h3)
def TEe (c : List En → List En → Int → Int → Bool) (f : List En → List En → Bool) (a b : List En) : Tr AV :=
 .ite (!decide ((a.length : Int) = (b.length : Int))) (.ret (.v .bool false)) (.chk (c a b (a.length : Int) 0) (.ite (f a b) (.ret (.v .bool true)) (.ret (.v .bool false))))
theorem tEe (c : List En → List En → Int → Int → Bool) (f : List En → List En → Bool) (a b : List En) :
  nrm (fnS Try.prog (ctx []) (LEe c f) [.bool] Try.f104 (mkArgs [.imm false false tEnt, .imm false false tEnt] (a, b, ()))) = (TEe c f a b).eval := by kernel_rfl
def sEe (f : List En → List En → Bool) : CSpec := .slp1 [.imm false false tEnt, .imm false false tEnt] (fun _ => true) .bool fun x => f x.1 x.2.1
theorem eqlene : ∀ (a b : List En), eqList (eqT tEnt) a b = true → a.length = b.length
 | [], [], _ => rfl
 | [], _ :: _, h => by cases h
 | _ :: _, [], h => by cases h
 | x :: a, y :: b, h => by
  have h : (eqT tEnt x y && eqList (eqT tEnt) a b) = true := h
  rw [Bool.and_eq_true] at h
  rw [List.length_cons, List.length_cons, eqlene a b h.2]
theorem okEe : CSound Try.prog 104 (sEe samee) ∧ CLocal (sEe samee) :=
 slpE1 (L := LEe cEe samee) nil_sound Try.func104 (by kernel_rfl) (loops1 (by kernel_rfl) lEe) fun xs hx hp => by
  obtain ⟨a, b, u⟩ := xs
  have hl : List.length (α := En) a ≤ 9223372036854775807 := hx.1.1
  refine (tEe cEe samee a b).trans ?_
  show _ = some (AV.v .bool (samee a b))
  unfold TEe
  by_cases h : List.length (α := En) a = List.length (α := En) b
  ·rw [ite_f (by simp [h]), chk_eval (by unfold cEe; rw [decide_eq_true hl, decide_eq_true h.symm]; simp)]
   cases samee a b <;> rfl
  ·rw [ite_t (by simp; omega)]
   cases hs : samee a b with
   | true => exact absurd (eqlene a b hs) h
   | false => rfl
theorem samee_iff (a b : List En) : samee a b = true ↔ a = b := by
 induction a generalizing b with
 | nil => cases b with
  | nil => exact ⟨fun _ => rfl, fun _ => rfl⟩
  | cons y b => exact ⟨fun h => (by cases h), fun h => (by cases h)⟩
 | cons x a ih => cases b with
  | nil => exact ⟨fun h => (by cases h), fun h => (by cases h)⟩
  | cons y b =>
   have e : samee (x :: a) (y :: b) = (eqT tEnt x y && samee a b) := rfl
   rw [e, Bool.and_eq_true, ih, eqT_iff tEnt x y (by decide), List.cons.injEq]
def SEw : RSpec := ⟨[0, 1, 12, 13], 26, [.imm false false w16, .imm false false w16, i64, i64], [], [], [], fun x => match x with | .ret => ([4], [.bool], []) | _ => ([], [], [])⟩
noncomputable def bEw : Code := loopAt Try.f105 0
def GEw (a b : List (List Int)) (n i : Int) : Tr SEw.End :=
 .ite (decide (i < n)) (.chk (inArr i a.length) (.chk (inArr i b.length) (.ite (!eqT w16 (a.getD i.toNat (dflt w16)) (b.getD i.toNat (dflt w16))) (.ret (.inr (.ret, encS [4] [.bool] [] 26 (false, ()) ()))) (.ret (.inl ((a, b, n, w (i + 1), ()), ()))))))
  (.ret (.inr (.exit 0, encS [] [] [] 26 () ())))
theorem rEw (a b : List (List Int)) (n i : Int) : (SEw.round (bodyK Try.prog (ctx []) L0 bEw) (a, b, n, i, ()) ()).eval = (GEw a b n i).eval := by kernel_rfl
theorem mEw (a b : List (List Int)) (hl : a.length ≤ 9223372036854775807) (hb : b.length = a.length) : ∀ (m k : Nat), k + m = a.length →
  SEw.many (bodyK Try.prog (ctx []) L0 bEw) (m + 1) (a, b, (a.length : Int), (k : Int), ()) () = if eqList (eqT w16) (a.drop k) (b.drop k) = true then some (.exit 0, encS [] [] [] 26 () ()) else some (.ret, encS [4] [.bool] [] 26 (false, ()) ())
 | 0, k, h => by
  have e1 : a.drop k = [] := List.drop_eq_nil_of_le (by omega)
  have e2 : b.drop k = [] := List.drop_eq_nil_of_le (by omega)
  rw [e1, e2, if_pos (show eqList (eqT w16) [] [] = true from rfl)]
  refine rmany_inr ((rEw a b _ _).trans ?_) 0
  unfold GEw
  rw [ite_f (decide_eq_false (by omega))]
  rfl
 | m + 1, k, h => by
  have h1 : k < a.length := by omega
  have h2 : k < b.length := by omega
  have e1 := List.drop_eq_getElem_cons h1
  have e2 := List.drop_eq_getElem_cons h2
  have e3 : eqList (eqT w16) (a.drop k) (b.drop k) = (eqT w16 a[k] b[k] && eqList (eqT w16) (a.drop (k + 1)) (b.drop (k + 1))) := by rw [e1, e2]; rfl
  cases hq : eqT w16 a[k] b[k] with
  | true =>
   have e4 : eqList (eqT w16) (a.drop k) (b.drop k) = eqList (eqT w16) (a.drop (k + 1)) (b.drop (k + 1)) := by rw [e3, hq, Bool.true_and]
   rw [e4]
   refine (rmany_inl (d := ((a, b, (a.length : Int), ((k + 1 : Nat) : Int), ()), ())) ((rEw a b _ _).trans ?_) (m + 1)).trans (mEw a b hl hb m (k + 1) (by omega))
   unfold GEw
   rw [ite_t (decide_eq_true (by omega)), chk_eval (inArr_of h1), chk_eval (inArr_of h2), Int.toNat_natCast, getD_of h1, getD_of h2, ite_f (by rw [hq]; rfl), w_succ h1 hl]
   rfl
  | false =>
   rw [if_neg (by rw [e3, hq]; simp)]
   refine rmany_inr ((rEw a b _ _).trans ?_) _
   unfold GEw
   rw [ite_t (decide_eq_true (by omega)), chk_eval (inArr_of h1), chk_eval (inArr_of h2), Int.toNat_natCast, getD_of h1, getD_of h2, ite_t (by rw [hq]; rfl)]
   rfl
def cEw (a b : List (List Int)) (n i : Int) : Bool := decide (a.length ≤ 9223372036854775807) && (decide (b.length = a.length) && (decide (n = (a.length : Int)) && decide (i = 0)))
def FEw (c : List (List Int) → List (List Int) → Int → Int → Bool) (f : List (List Int) → List (List Int) → Bool) (xs : HL SEw.Ts) (hs : HD SEw.Es) : Tr (Ex × St) :=
 .chk (c xs.1 xs.2.1 xs.2.2.1 xs.2.2.2.1) (.ite (f xs.1 xs.2.1) (.ret (.exit 0, encS [] [] [] 26 () ())) (.ret (.ret, encS [4] [.bool] [] 26 (false, ()) ())))
def LEw (c : List (List Int) → List (List Int) → Int → Int → Bool) (f : List (List Int) → List (List Int) → Bool) : Loops := fun j st => if j = 4 then SEw.fn (FEw c f) st else .fail
def samew (a b : List (List Int)) : Bool := eqList (eqT w16) a b
theorem lEw : LoopOK Try.prog (LEw cEw samew) bEw :=
 rloop_ok (L := LEw cEw samew) (L' := L0) nil_sound (loopsOK_of (by kernel_rfl)) SEw (F := FEw cEw samew) (i := 4) (by kernel_rfl) (fun _ => rfl) fun xs hs q h => by
  obtain ⟨a, b, n, i, u⟩ := xs
  obtain ⟨h1, h2⟩ := Tr.chk_some h
  simp only [cEw, Bool.and_eq_true, decide_eq_true_eq] at h1
  obtain ⟨hl, hb, hn, e2⟩ := h1
  have e2 : i = ((0 : Nat) : Int) := e2
  have hn : n = ((List.length (α := (List Int)) a : Nat) : Int) := hn
  subst e2; subst hn
  refine ⟨List.length (α := (List Int)) a + 1, ?_⟩
  have := mEw a b hl hb (List.length (α := (List Int)) a) 0 (by omega)
  rw [List.drop_zero, List.drop_zero] at this
  refine this.trans ?_
  rcases Tr.ite_some h2 with ⟨hx, h3⟩ | ⟨hx, h3⟩
  ·have hx : eqList (eqT w16) a b = true := hx
   rw [if_pos hx]
   exact congrArg some (Tr.ret_some h3)
  ·have hx : eqList (eqT w16) a b = false := hx
   rw [if_neg (by rw [hx]; simp)]
   exact congrArg some (Tr.ret_some h3)
def TEw (c : List (List Int) → List (List Int) → Int → Int → Bool) (f : List (List Int) → List (List Int) → Bool) (a b : List (List Int)) : Tr AV :=
 .ite (!decide ((a.length : Int) = (b.length : Int))) (.ret (.v .bool false)) (.chk (c a b (a.length : Int) 0) (.ite (f a b) (.ret (.v .bool true)) (.ret (.v .bool false))))
theorem tEw (c : List (List Int) → List (List Int) → Int → Int → Bool) (f : List (List Int) → List (List Int) → Bool) (a b : List (List Int)) :
  nrm (fnS Try.prog (ctx []) (LEw c f) [.bool] Try.f105 (mkArgs [.imm false false w16, .imm false false w16] (a, b, ()))) = (TEw c f a b).eval := by kernel_rfl
def sEw (f : List (List Int) → List (List Int) → Bool) : CSpec := .slp1 [.imm false false w16, .imm false false w16] (fun _ => true) .bool fun x => f x.1 x.2.1
theorem eqlenw : ∀ (a b : List (List Int)), eqList (eqT w16) a b = true → a.length = b.length
 | [], [], _ => rfl
 | [], _ :: _, h => by cases h
 | _ :: _, [], h => by cases h
 | x :: a, y :: b, h => by
  have h : (eqT w16 x y && eqList (eqT w16) a b) = true := h
  rw [Bool.and_eq_true] at h
  rw [List.length_cons, List.length_cons, eqlenw a b h.2]
theorem okEw : CSound Try.prog 105 (sEw samew) ∧ CLocal (sEw samew) :=
 slpE1 (L := LEw cEw samew) nil_sound Try.func105 (by kernel_rfl) (loops1 (by kernel_rfl) lEw) fun xs hx hp => by
  obtain ⟨a, b, u⟩ := xs
  have hl : List.length (α := (List Int)) a ≤ 9223372036854775807 := hx.1.1
  refine (tEw cEw samew a b).trans ?_
  show _ = some (AV.v .bool (samew a b))
  unfold TEw
  by_cases h : List.length (α := (List Int)) a = List.length (α := (List Int)) b
  ·rw [ite_f (by simp [h]), chk_eval (by unfold cEw; rw [decide_eq_true hl, decide_eq_true h.symm]; simp)]
   cases samew a b <;> rfl
  ·rw [ite_t (by simp; omega)]
   cases hs : samew a b with
   | true => exact absurd (eqlenw a b hs) h
   | false => rfl
theorem samew_iff (a b : List (List Int)) : samew a b = true ↔ a = b := by
 induction a generalizing b with
 | nil => cases b with
  | nil => exact ⟨fun _ => rfl, fun _ => rfl⟩
  | cons y b => exact ⟨fun h => (by cases h), fun h => (by cases h)⟩
 | cons x a ih => cases b with
  | nil => exact ⟨fun h => (by cases h), fun h => (by cases h)⟩
  | cons y b =>
   have e : samew (x :: a) (y :: b) = (eqT w16 x y && samew a b) := rfl
   rw [e, Bool.and_eq_true, ih, eqT_iff w16 x y (by decide), List.cons.injEq]
def cloe_ren : Go.Shelf.Ren := ⟨fun | 41 => 114 | n => n, fun | 22 => 105 | 23 => 182 | 4 => 4 | n => n, fun | n => n⟩
theorem cloe : Go.Proofs.SlLaysE0.n41 Try.prog cloe_ren := {
 mixed := by kernel_rfl
 f41 := ⟨Try.f114.name, by decide, Try.func114.trans (congrArg some (by kernel_rfl))⟩
 t4 := Try.underlying4
 a4 := Try.isAgg4
 z4 := Try.sizeOf4
 v4 := Try.zeroValue4
 t22 := Try.underlying105
 a22 := Try.isAgg105
 z22 := Try.sizeOf105
 v22 := Try.zeroValue105 }
abbrev nCe : PSpec := ⟨[.imm false true tEnt], [.vc 0 0], [], [.vec 0 tEnt], []⟩
theorem tCe (l : List En) : (fnP Try.prog (ctx []) L0 nCe Try.f114 (l, ()) ()).eval = (Tr.chk (Vse.room (0 + l.length) 32) (.ret (((), ()), (l, ()))) : Tr nCe.Out).eval := by kernel_rfl
def okCe (l : List En) : Bool := decide (l.length ≤ 1000000000000)
def sCe : CSpec := .cloneO tEnt okCe
def sPe (q : List En → Bool) : CSpec := .pos nCe (fun xs _ => q xs.1) fun xs _ => (((), ()), (xs.1, ()))
def clow_ren : Go.Shelf.Ren := ⟨fun | 41 => 115 | n => n, fun | 22 => 30 | 23 => 36 | 4 => 4 | n => n, fun | n => n⟩
theorem clow : Go.Proofs.SlLaysE0.n41 Try.prog clow_ren := {
 mixed := by kernel_rfl
 f41 := ⟨Try.f115.name, by decide, Try.func115.trans (congrArg some (by kernel_rfl))⟩
 t4 := Try.underlying4
 a4 := Try.isAgg4
 z4 := Try.sizeOf4
 v4 := Try.zeroValue4
 t22 := Try.underlying30
 a22 := Try.isAgg30
 z22 := Try.sizeOf30
 v22 := Try.zeroValue30 }
abbrev nCw : PSpec := ⟨[.imm false true w16], [.vc 0 0], [], [.vec 0 w16], []⟩
theorem tCw (l : List (List Int)) : (fnP Try.prog (ctx []) L0 nCw Try.f115 (l, ()) ()).eval = (Tr.chk (Vse.room (0 + l.length) 16) (.ret (((), ()), (l, ()))) : Tr nCw.Out).eval := by kernel_rfl
def okCw (l : List (List Int)) : Bool := decide (l.length ≤ 1000000000000)
def sCw : CSpec := .cloneO w16 okCw
def sPw (q : List (List Int) → Bool) : CSpec := .pos nCw (fun xs _ => q xs.1) fun xs _ => (((), ()), (xs.1, ()))
theorem kCe (q : List En → Bool) (p : Bool) (l : List En) (fr : Nat) : ((sPe q).core [.v (.imm p true tEnt) l] [] fr).eval = (Tr.chk (q l) (.ret (.v (.vc fr 0) (), [(fr, .vec 0 tEnt l)]))).eval := by
 have h : ∀ p, (sPe q).core [.v (.imm p true tEnt) l] [] fr = .chk (q l) (posOut nCe [] [] [fr] (putE [] []) fr (((), ()), (l, ()))) := fun p => by cases p <;> kernel_rfl
 rw [h]
 have e : posOut nCe [] [] [fr] (putE [] []) fr (((), ()), (l, ())) = .ret (.v (.vc fr 0) (), [(fr, .vec 0 tEnt l)]) := by
  unfold posOut
  simp [PSpec.news, rnOut, idxOf, nodupI, mem, turned, backV, backE, conv, Ty.rnT, ofHL, encH, getE, genY, liveY, genE, turned, Entry.inn, AV.inn, Ty.inn]
 rw [e]
theorem okPe : CSound Try.prog 114 (sPe okCe) :=
 (pos_sound (L := L0) nil_sound Try.func114 (by kernel_rfl) (noLoopsL (by kernel_rfl)) fun xs hs hx hh hp => by
  obtain ⟨l, u⟩ := xs
  have hp : List.length (α := En) l ≤ 1000000000000 := of_decide_eq_true hp
  exact (tCe l).trans (chk_eval (by simp only [Vse.room, decide_eq_true_eq]; omega) _)).1
theorem iCe (q : List En → Bool) (p : Bool) (l : List En) (H : Heap) : (sPe q).ids [.v (.imm p true tEnt) l] H = [] := by cases p <;> kernel_rfl
theorem nilCe (n c : Nat) (w : World) : Calls Try.prog 114 #[.slice none n c] w fun e w' => e = .returned (.slice none 0 0) ∧ w' = w := AnyE.slices_Clone_nil cloe n c w
theorem newCe : (sPe okCe).new = 1 := by kernel_rfl
theorem okCeS : CSound Try.prog 114 sCe ∧ CLocal sCe :=
 cloneO_sound (c := sPe okCe) okPe newCe (iCe _) (fun p l fr hp => (kCe okCe p l fr).trans (chk_eval hp _)) nilCe
theorem kCw (q : List (List Int) → Bool) (p : Bool) (l : List (List Int)) (fr : Nat) : ((sPw q).core [.v (.imm p true w16) l] [] fr).eval = (Tr.chk (q l) (.ret (.v (.vc fr 0) (), [(fr, .vec 0 w16 l)]))).eval := by
 have h : ∀ p, (sPw q).core [.v (.imm p true w16) l] [] fr = .chk (q l) (posOut nCw [] [] [fr] (putE [] []) fr (((), ()), (l, ()))) := fun p => by cases p <;> kernel_rfl
 rw [h]
 have e : posOut nCw [] [] [fr] (putE [] []) fr (((), ()), (l, ())) = .ret (.v (.vc fr 0) (), [(fr, .vec 0 w16 l)]) := by
  unfold posOut
  simp [PSpec.news, rnOut, idxOf, nodupI, mem, turned, backV, backE, conv, Ty.rnT, ofHL, encH, getE, genY, liveY, genE, turned, Entry.inn, AV.inn, Ty.inn]
 rw [e]
theorem okPw : CSound Try.prog 115 (sPw okCw) :=
 (pos_sound (L := L0) nil_sound Try.func115 (by kernel_rfl) (noLoopsL (by kernel_rfl)) fun xs hs hx hh hp => by
  obtain ⟨l, u⟩ := xs
  have hp : List.length (α := (List Int)) l ≤ 1000000000000 := of_decide_eq_true hp
  exact (tCw l).trans (chk_eval (by simp only [Vse.room, decide_eq_true_eq]; omega) _)).1
theorem iCw (q : List (List Int) → Bool) (p : Bool) (l : List (List Int)) (H : Heap) : (sPw q).ids [.v (.imm p true w16) l] H = [] := by cases p <;> kernel_rfl
theorem nilCw (n c : Nat) (w : World) : Calls Try.prog 115 #[.slice none n c] w fun e w' => e = .returned (.slice none 0 0) ∧ w' = w := AnyE.slices_Clone_nil clow n c w
theorem newCw : (sPw okCw).new = 1 := by kernel_rfl
theorem okCwS : CSound Try.prog 115 sCw ∧ CLocal sCw :=
 cloneO_sound (c := sPw okCw) okPw newCw (iCw _) (fun p l fr hp => (kCw okCw p l fr).trans (chk_eval hp _)) nilCw
def delE_ren : Go.Shelf.Ren := ⟨fun | 45 => 116 | n => n, fun | 22 => 105 | 23 => 182 | 3 => 3 | 4 => 4 | 0 => 0 | n => n, fun | n => n⟩
theorem delE : WLay Try.prog delE_ren true 17 := {
 mixed := by kernel_rfl
 f45 := ⟨Try.f116.name, by decide, Try.func116.trans (congrArg some (by kernel_rfl))⟩
 t0 := Try.underlying0
 a0 := Try.isAgg0
 z0 := Try.sizeOf0
 v0 := Try.zeroValue0
 t3 := Try.underlying3
 a3 := Try.isAgg3
 z3 := Try.sizeOf3
 v3 := Try.zeroValue3
 t4 := Try.underlying4
 a4 := Try.isAgg4
 z4 := Try.sizeOf4
 v4 := Try.zeroValue4
 t22 := Try.underlying105
 a22 := Try.isAgg105
 z22 := Try.sizeOf105
 v22 := Try.zeroValue105
 a23 := Try.isAgg182
 z23 := Try.sizeOf182 }
theorem okDel : CSound Try.prog 116 (CSpec.del tEnt) ∧ CLocal (CSpec.del tEnt) :=
 del_soundW (A := tEnt) (by decide) delE (zs := #[.string ⟨#[]⟩] ++ Array.replicate 16 (.int .u8 0)) rfl rfl (by kernel_rfl) (fun w => Try.zeroValue182 w) rfl rfl rfl (fun a w => enterF Try.func116 (by kernel_rfl) a w)
end Go.Proofs.Ytffdkniccaebmaa.Bok
end
section
set_option linter.unusedVariables false
set_option linter.unusedSimpArgs false
set_option maxRecDepth 100000
namespace Go.Proofs.Ytffdkniccaebmaa.Bok
open Go Vse Go.Proofs Gen
abbrev lw : Ty := .imm false false w16
def SIx : RSpec := ⟨[0, 3, 7, 8], 19, [lw, .ptr 0 [], i64, i64], [.box w16], [.box w16], [], fun x => match x with | .ret => ([4], [i64], [.box w16]) | _ => ([], [], [.box w16])⟩
noncomputable def bIx : Code := loopAt Try.f110 0
def GIx (l : List (List Int)) (s : List Int) (n i : Int) : Tr SIx.End :=
 .ite (decide (i < n)) (.chk (inArr i l.length) (.ite (eqT w16 s (l.getD i.toNat (dflt w16))) (.ret (.inr (.ret, encS [4] [i64] [.box w16] 19 (i, ()) (s, ())))) (.ret (.inl ((l, (), n, w (i + 1), ()), (s, ()))))))
  (.ret (.inr (.exit 0, encS [] [] [.box w16] 19 () (s, ()))))
theorem rIx (l : List (List Int)) (s : List Int) (n i : Int) : (SIx.round (bodyK Try.prog (ctx []) L0 bIx) (l, (), n, i, ()) (s, ())).eval = (GIx l s n i).eval := by kernel_rfl
def hasW (l : List (List Int)) (s : List Int) : Bool := l.any fun b => eqT w16 s b
def idxW (l : List (List Int)) (s : List Int) : Int := if hasW l s = true then (l.findIdx fun b => eqT w16 s b : Nat) else -1
theorem mIx (s : List Int) (l : List (List Int)) (hl : l.length ≤ 9223372036854775807) : ∀ (m k : Nat), k + m = l.length →
  SIx.many (bodyK Try.prog (ctx []) L0 bIx) (m + 1) (l, (), (l.length : Int), (k : Int), ()) (s, ()) = if hasW (l.drop k) s = true then some (.ret, encS [4] [i64] [.box w16] 19 (((k + (l.drop k).findIdx fun b => eqT w16 s b : Nat) : Int), ()) (s, ())) else some (.exit 0, encS [] [] [.box w16] 19 () (s, ()))
 | 0, k, h => by
  have e1 : l.drop k = [] := List.drop_eq_nil_of_le (by omega)
  rw [e1, if_neg (by simp [hasW])]
  refine rmany_inr ((rIx l s _ _).trans ?_) 0
  unfold GIx
  rw [ite_f (decide_eq_false (by omega))]
  rfl
 | m + 1, k, h => by
  have h1 : k < l.length := by omega
  have e2 : (l.drop k) = l[k] :: l.drop (k + 1) := List.drop_eq_getElem_cons h1
  cases hq : eqT w16 s l[k] with
  | true =>
   have e3 : hasW (l.drop k) s = true := by simp only [hasW, e2, List.any_cons, hq, Bool.true_or]
   have e4 : ((l.drop k).findIdx fun b => eqT w16 s b) = 0 := by rw [e2, List.findIdx_cons, hq]; rfl
   rw [if_pos e3, e4]
   refine rmany_inr ((rIx l s _ _).trans ?_) _
   unfold GIx
   rw [Int.toNat_natCast, ite_t (decide_eq_true (by omega)), chk_eval (inArr_of h1), getD_of h1, ite_t hq]
   rfl
  | false =>
   have e3 : hasW (l.drop k) s = hasW (l.drop (k + 1)) s := by simp only [hasW, e2, List.any_cons, hq, Bool.false_or]
   have e4 : k + ((l.drop k).findIdx fun b => eqT w16 s b) = k + 1 + (l.drop (k + 1)).findIdx fun b => eqT w16 s b := by rw [e2, List.findIdx_cons, hq]; simp only [cond_false]; omega
   rw [e3, e4]
   refine (rmany_inl (d := ((l, (), (l.length : Int), ((k + 1 : Nat) : Int), ()), (s, ()))) ((rIx l s _ _).trans ?_) (m + 1)).trans (mIx s l hl m (k + 1) (by omega))
   unfold GIx
   rw [Int.toNat_natCast, ite_t (decide_eq_true (by omega)), chk_eval (inArr_of h1), getD_of h1, ite_f hq, w_succ h1 hl]
   rfl
abbrev Cix := List (List Int) → Int → Int → Bool
abbrev Hw := List (List Int) → List Int → Bool
abbrev Iw := List (List Int) → List Int → Int
def cIx : Cix := fun l n i => decide (l.length ≤ 9223372036854775807) && (decide (n = (l.length : Int)) && decide (i = 0))
def FIx (c : Cix) (h : Hw) (ix : Iw) (xs : HL SIx.Ts) (hs : HD SIx.Es) : Tr (Ex × St) :=
 .chk (c xs.1 xs.2.2.1 xs.2.2.2.1) (.ite (h xs.1 hs.1) (.ret (.ret, encS [4] [i64] [.box w16] 19 (ix xs.1 hs.1, ()) hs)) (.ret (.exit 0, encS [] [] [.box w16] 19 () hs)))
def LIx (c : Cix) (h : Hw) (ix : Iw) : Loops := fun j st => if j = 2 then SIx.fn (FIx c h ix) st else .fail
theorem lIx : LoopOK Try.prog (LIx cIx hasW idxW) bIx :=
 rloop_ok (L := LIx cIx hasW idxW) (L' := L0) nil_sound (loopsOK_of (by kernel_rfl)) SIx (F := FIx cIx hasW idxW) (i := 2) (by kernel_rfl) (fun _ => rfl) fun xs hs q h => by
  obtain ⟨l, u1, n, i, u⟩ := xs
  obtain ⟨s, u2⟩ := hs
  obtain ⟨h1, h2⟩ := Tr.chk_some h
  simp only [cIx, Bool.and_eq_true, decide_eq_true_eq] at h1
  obtain ⟨hl, e1, e2⟩ := h1
  have e1 : n = (List.length (α := List Int) l : Int) := e1
  have e2 : i = ((0 : Nat) : Int) := e2
  subst e1; subst e2
  refine ⟨List.length (α := List Int) l + 1, ?_⟩
  have := mIx s l hl (List.length (α := List Int) l) 0 (by omega)
  rw [List.drop_zero, Nat.zero_add] at this
  refine this.trans ?_
  rcases Tr.ite_some h2 with ⟨hx, h3⟩ | ⟨hx, h3⟩
  ·have hx : hasW l s = true := hx
   have := Tr.ret_some h3
   subst this
   rw [if_pos hx]
   simp only [idxW, if_pos hx]
  ·have hx : hasW l s = false := hx
   have := Tr.ret_some h3
   subst this
   rw [if_neg (by rw [hx]; simp)]
def sIx (ix : Iw) : CSpec := .slp1 [lw, w16] (fun _ => true) i64 fun x => ix x.1 x.2.1
def TIx (c : Cix) (h : Hw) (ix : Iw) (l : List (List Int)) (s : List Int) : Tr AV := .chk (c l (l.length : Int) 0) (.ite (h l s) (.ret (.v i64 (ix l s))) (.ret (.v i64 (-1))))
theorem tIx (c : Cix) (h : Hw) (ix : Iw) (l : List (List Int)) (s : List Int) : nrm (fnS Try.prog (ctx []) (LIx c h ix) [i64] Try.f110 (mkArgs [lw, w16] (l, s, ()))) = (TIx c h ix l s).eval := by kernel_rfl
theorem okIx : CSound Try.prog 110 (sIx idxW) ∧ CLocal (sIx idxW) :=
 slpE1 (L := LIx cIx hasW idxW) nil_sound Try.func110 (by kernel_rfl) (loops1 (by kernel_rfl) lIx) fun xs hx hp => by
  obtain ⟨l, s, u⟩ := xs
  have hl : List.length (α := List Int) l ≤ 9223372036854775807 := hx.1.1
  refine (tIx cIx hasW idxW l s).trans ?_
  show _ = some (AV.v i64 (idxW l s))
  unfold TIx
  rw [chk_eval (by unfold cIx; rw [decide_eq_true hl]; simp)]
  cases hq : hasW l s with
  | true => rw [ite_t rfl]; rfl
  | false => rw [ite_f rfl]; unfold idxW; rw [if_neg (by rw [hq]; simp)]; rfl
def sCt (h : Hw) : CSpec := .slp1 [lw, w16] (fun _ => true) .bool fun x => h x.1 x.2.1
theorem tCt (ix : Iw) (l : List (List Int)) (s : List Int) : nrm (fnS Try.prog (ctx [(110, sIx ix)]) L0 [.bool] Try.f79 (mkArgs [lw, w16] (l, s, ()))) = some (.v .bool (decide (ix l s ≥ 0))) := by kernel_rfl
theorem idxW_has (l : List (List Int)) (s : List Int) : decide (idxW l s ≥ 0) = hasW l s := by
 unfold idxW
 cases hasW l s with
 | true => rw [if_pos rfl]; exact decide_eq_true (by omega)
 | false => rw [if_neg (by simp)]; rfl
theorem okCt : CSound Try.prog 79 (sCt hasW) ∧ CLocal (sCt hasW) :=
 slpE1 (L := L0) (C := ctx [(110, sIx idxW)]) (ctx_sound ⟨okIx, trivial⟩) Try.func79 (by kernel_rfl) (noLoopsL (by kernel_rfl)) fun xs hx hp => by
  obtain ⟨l, s, u⟩ := xs
  exact (tCt idxW l s).trans (by rw [idxW_has])
abbrev nDd : PSpec := ⟨[tBl, w16], [.bool], [], [], []⟩
def sDd (h : Hw) : CSpec := .pos nDd (fun _ _ => true) fun xs _ => ((h xs.1.2.1 xs.2.1, ()), ())
theorem tDd (h : Hw) (b : Bk) (s : List Int) : (fnP Try.prog (ctx [(79, sCt h)]) L0 nDd Try.f65 (b, s, ()) ()).eval = (.ret ((h b.2.1 s, ()), ()) : Tr nDd.Out).eval := by kernel_rfl
theorem okDd : CSound Try.prog 65 (sDd hasW) ∧ CLocal (sDd hasW) :=
 pos_sound (L := L0) (C := ctx [(79, sCt hasW)]) (ctx_sound ⟨okCt, trivial⟩) Try.func65 (by kernel_rfl) (noLoopsL (by kernel_rfl)) fun xs hs hx hh hp => tDd hasW xs.1 xs.2.1
abbrev tBo (l r k : Nat) : Ty := .prod (.vc l k) (.prod (.vc r k) (.prod i64 (.prod w16 .unit)))
abbrev bE (k : Nat) : List ETy := [.vec k tEnt, .vec k w16]
abbrev nCo : PSpec := ⟨[tBl], [tBo 0 1 0], [], bE 0, []⟩
def cCo (pe : List En → Bool) (pw : List (List Int) → Bool) : List (Nat × CSpec) := [(114, .cloneO tEnt pe), (115, .cloneO w16 pw)]
theorem tCo (pe : List En → Bool) (pw : List (List Int) → Bool) (b : Bk) :
  (fnP Try.prog (ctx (cCo pe pw)) L0 nCo Try.f101 (b, ()) ()).eval = (.chk (pe b.1) (.chk (pw b.2.1) (.ret ((((), (), b.2.2.1, b.2.2.2.1, ()), ()), (b.1, b.2.1, ())))) : Tr nCo.Out).eval := by kernel_rfl
def okB (b : Bk) : Bool := decide (b.1.length ≤ 1000000) && decide (b.2.1.length ≤ 1000000)
def sCo (p : Bk → Bool) : CSpec := .pos nCo (fun xs _ => p xs.1) fun xs _ => ((((), (), xs.1.2.2.1, xs.1.2.2.2.1, ()), ()), (xs.1.1, xs.1.2.1, ()))
theorem okCo : CSound Try.prog 101 (sCo okB) ∧ CLocal (sCo okB) :=
 pos_sound (L := L0) (C := ctx (cCo okCe okCw)) (ctx_sound ⟨okCeS, okCwS, trivial⟩) Try.func101 (by kernel_rfl) (noLoopsL (by kernel_rfl)) fun xs hs hx hh hp => by
  obtain ⟨b, u⟩ := xs
  have hp : okB b = true := hp
  unfold okB at hp
  simp only [Bool.and_eq_true, decide_eq_true_eq] at hp
  refine (tCo okCe okCw b).trans ?_
  rw [chk_eval (show okCe b.1 = true from decide_eq_true (by omega)), chk_eval (show okCw b.2.1 = true from decide_eq_true (by omega))]
  rfl
end Go.Proofs.Ytffdkniccaebmaa.Bok
end
section
set_option linter.unusedVariables false
set_option linter.unusedSimpArgs false
set_option maxRecDepth 100000
namespace Go.Proofs.Ytffdkniccaebmaa.Bok
open Go Vse Go.Proofs Gen
abbrev tOp : Ty := .prod i64 (.prod .str (.prod w16 (.prod i64 .unit)))
abbrev Op := Int × ByteArray × List Int × Int × Unit
abbrev bX (k : Nat) : List ETy := [.box (tBo 1 2 k), .vec k tEnt, .vec k w16]
abbrev nDn : PSpec := ⟨[.ptr 0 [], tOp], [i64], bX 0, bX 1, []⟩
abbrev Ie := List En → ByteArray → Int
def cDn (ix : Ie) (hd : Hw) : List (Nat × CSpec) := [(106, sFi ix), (65, sDd hd), (116, .del tEnt)]
def hdB (b : Bk) : HD (bX 0) := (((), (), b.2.2.1, b.2.2.2.1, ()), b.1, b.2.1, ())
def kyF (L : List En) (i : Int) (key : List Int) : List En := L.set i.toNat ((L.getD i.toNat (dflt tEnt)).1, key, ())
def GDn (ix : Ie) (hd : Hw) (b : Bk) (x : Op) : Tr (Int × Bk) :=
 let i := ix b.1 x.2.1
 let R (e : Int) (L : List En) (r : List (List Int)) (g : Int) (o : List Int) : Tr (Int × Bk) := .ret (e, L, r, g, o, ())
 let N (e : Int) : Tr (Int × Bk) := R e b.1 b.2.1 b.2.2.1 b.2.2.2.1
 let m5 : Tr (Int × Bk) := .ite (x.1 == 5) (.ite (decide (x.2.2.2.1 ≤ b.2.2.1)) (N 5) (R 0 b.1 b.2.1 x.2.2.2.1 x.2.2.1)) (N 0)
 let m4 : Tr (Int × Bk) := .ite (x.1 == 4) (.ite (hd b.2.1 x.2.2.1) (N 5) (.ite ((b.2.1.length : Int) == 200) (N 7) (.chk (Vse.room (b.2.1.length + 1) 16) (R 0 b.1 (b.2.1 ++ [x.2.2.1]) b.2.2.1 b.2.2.2.1)))) m5
 let K := kyF b.1 i x.2.2.1
 let m23 : Tr (Int × Bk) := .ite (decide (i < 0)) (N 4) (.chk (inArr i b.1.length) (.ite (x.1 == 2) (.chk (decide (0 ≤ i ∧ i < w (i + 1) ∧ w (i + 1) ≤ (K.length : Int))) (R 0 (cutL K i.toNat (w (i + 1)).toNat) b.2.1 b.2.2.1 b.2.2.2.1))
  (R 0 K b.2.1 b.2.2.1 b.2.2.2.1)))
 .ite (x.1 == 1) (.ite (decide (i ≥ 0)) (N 5) (.ite ((b.1.length : Int) == 50) (N 7) (.chk (Vse.room (b.1.length + 1) 32) (R 0 (b.1 ++ [(x.2.1, x.2.2.1, ())]) b.2.1 b.2.2.1 b.2.2.2.1)))) (.ite (x.1 == 2) (.ite (x.1 == 2) m23 m4) (.ite (x.1 == 3) m23 m4))
theorem tDn (ix : Ie) (hd : Hw) (b : Bk) (x : Op) : (fnP Try.prog (ctx (cDn ix hd)) L0 nDn Try.f102 ((), x, ()) (hdB b)).eval = ((GDn ix hd b x).bind fun r => (.ret ((r.1, ()), hdB r.2) : Tr nDn.Out)).eval := by kernel_rfl
end Go.Proofs.Ytffdkniccaebmaa.Bok
end
section
set_option linter.unusedVariables false
set_option linter.unusedSimpArgs false
set_option maxRecDepth 100000
namespace Go.Proofs.Ytffdkniccaebmaa.Bok
open Go Vse Go.Proofs Gen
def doneF (x : Op) (b : Bk) : Int × Bk :=
 if x.1 = 1 then (if hasE b.1 x.2.1 = true then (5, b) else if b.1.length = 50 then (7, b) else (0, b.1 ++ [(x.2.1, x.2.2.1, ())], b.2))
 else if x.1 = 2 then (if hasE b.1 x.2.1 = true then (0, b.1.take (b.1.findIdx fun e => e.1 == x.2.1) ++ b.1.drop ((b.1.findIdx fun e => e.1 == x.2.1) + 1), b.2) else (4, b))
 else if x.1 = 3 then (if hasE b.1 x.2.1 = true then (0, b.1.set (b.1.findIdx fun e => e.1 == x.2.1) (x.2.1, x.2.2.1, ()), b.2) else (4, b))
 else if x.1 = 4 then (if hasW b.2.1 x.2.2.1 = true then (5, b) else if b.2.1.length = 200 then (7, b) else (0, b.1, b.2.1 ++ [x.2.2.1], b.2.2))
 else if x.1 = 5 then (if x.2.2.2.1 ≤ b.2.2.1 then (5, b) else (0, b.1, b.2.1, x.2.2.2.1, x.2.2.1, ()))
 else (0, b)
theorem has_at {l : List En} {s : ByteArray} (h : hasE l s = true) : ∃ (hk : (l.findIdx fun e => e.1 == s) < l.length), l[l.findIdx fun e => e.1 == s].1 = s := by
 obtain ⟨h1, h2⟩ := find_has (l := l) (s := s) h
 refine ⟨h1, ?_⟩
 have := List.find?_some h2
 exact (MapKept.bytes_beq _ _).1 this
theorem ky_eq {l : List En} {s : ByteArray} {key : List Int} (h : hasE l s = true) : kyF l (idxE l s) key = l.set (l.findIdx fun e => e.1 == s) (s, key, ()) := by
 obtain ⟨h1, h2⟩ := has_at h
 have e : idxE l s = ((l.findIdx fun e => e.1 == s : Nat) : Int) := if_pos h
 unfold kyF
 rw [e, Int.toNat_natCast, getD_of h1, h2]
theorem cut_set {l : List En} (k : Nat) (x : En) : cutL (l.set k x) k (k + 1) = l.take k ++ l.drop (k + 1) := by
 unfold cutL
 rw [List.take_set_of_le (Nat.le_refl _), List.drop_set_of_lt (Nat.lt_succ_self k)]
theorem GDn_eq (x : Op) (b : Bk) (hb : okB b = true) : (GDn idxE hasW b x).eval = some (doneF x b) := by
 unfold okB at hb
 simp only [Bool.and_eq_true, decide_eq_true_eq] at hb
 obtain ⟨L, r, g, o, u⟩ := b
 obtain ⟨k, s, key, n, u'⟩ := x
 have hL : L.length ≤ 1000000 := hb.1
 have hr : r.length ≤ 1000000 := hb.2
 have m23 : ∀ {α : Type} (a c : Tr α) (d : Int → Tr α), hasE L s = true → True := fun _ _ _ _ => trivial
 have hi : hasE L s = true → idxE L s = ((L.findIdx fun e => e.1 == s : Nat) : Int) := fun h => if_pos h
 have hn : hasE L s = false → idxE L s = -1 := fun h => if_neg (by rw [h]; simp)
 unfold GDn doneF
 dsimp only
 by_cases h1 : k = 1
 ·rw [ite_t (by simp [h1]), if_pos h1]
  cases hq : hasE L s with
  | true => rw [hi hq, ite_t (decide_eq_true (by omega)), if_pos rfl]; rfl
  | false =>
   rw [hn hq, ite_f (by decide), if_neg (by simp)]
   by_cases h5 : L.length = 50
   ·rw [ite_t (by simp [h5]), if_pos h5]; rfl
   ·rw [ite_f (by simp; omega), if_neg h5, chk_eval (by simp only [Vse.room, decide_eq_true_eq]; omega)]; rfl
 rw [ite_f (by simp [h1]), if_neg h1]
 by_cases h2 : k = 2
 ·rw [ite_t (by simp [h2]), ite_t (by simp [h2]), if_pos h2]
  cases hq : hasE L s with
  | false => rw [hn hq, ite_t (by decide), if_neg (by simp)]; rfl
  | true =>
   obtain ⟨a1, a2⟩ := has_at hq
   have hky := ky_eq (key := key) hq
   rw [hky, hi hq, ite_f (decide_eq_false (by omega)), chk_eval (inArr_of a1), ite_t (by simp [h2]), w_succ a1 (by omega), chk_eval (by rw [List.length_set]; exact decide_eq_true (by omega)), if_pos rfl, Int.toNat_natCast, Int.toNat_natCast, cut_set]
   rfl
 rw [ite_f (by simp [h2]), if_neg h2]
 by_cases h3 : k = 3
 ·rw [ite_t (by simp [h3]), if_pos h3]
  cases hq : hasE L s with
  | false => rw [hn hq, ite_t (by decide), if_neg (by simp)]; rfl
  | true =>
   obtain ⟨a1, a2⟩ := has_at hq
   have hky := ky_eq (key := key) hq
   rw [hky, hi hq, ite_f (decide_eq_false (by omega)), chk_eval (inArr_of a1), ite_f (by simp [h2]), if_pos rfl]
   rfl
 rw [ite_f (by simp [h3]), if_neg h3]
 by_cases h4 : k = 4
 ·rw [ite_t (by simp [h4]), if_pos h4]
  cases hq : hasW r key with
  | true => rw [ite_t rfl, if_pos rfl]; rfl
  | false =>
   rw [ite_f rfl, if_neg (by simp)]
   by_cases h5 : r.length = 200
   ·rw [ite_t (by simp [h5]), if_pos h5]; rfl
   ·rw [ite_f (by simp; omega), if_neg h5, chk_eval (by simp only [Vse.room, decide_eq_true_eq]; omega)]; rfl
 rw [ite_f (by simp [h4]), if_neg h4]
 by_cases h5 : k = 5
 ·rw [ite_t (by simp [h5]), if_pos h5]
  by_cases h6 : n ≤ g
  ·rw [ite_t (decide_eq_true h6), if_pos h6]; rfl
  ·rw [ite_f (decide_eq_false h6), if_neg h6]; rfl
 ·rw [ite_f (by simp [h5]), if_neg h5]; rfl
def ofHd (h : HD (bX 0)) : Bk := (h.2.1, h.2.2.1, h.1.2.2.1, h.1.2.2.2.1, ())
def sDn (p : Bk → Bool) (f : Op → Bk → Int × Bk) : CSpec := .pos nDn (fun _ h => p (ofHd h)) fun xs h => (((f xs.2.1 (ofHd h)).1, ()), hdB (f xs.2.1 (ofHd h)).2)
theorem okDn : CSound Try.prog 102 (sDn okB doneF) ∧ CLocal (sDn okB doneF) :=
 pos_sound (L := L0) (C := ctx (cDn idxE hasW)) (ctx_sound ⟨okFi, okDd, okDel, trivial⟩) Try.func102 (by kernel_rfl) (noLoopsL (by kernel_rfl)) fun xs hs hx hh hp => by
  obtain ⟨u, x, u'⟩ := xs
  have hp : okB (ofHd hs) = true := hp
  refine (tDn idxE hasW (ofHd hs) x).trans ?_
  rw [Tr.eval_bind, GDn_eq x (ofHd hs) hp]
  rfl
end Go.Proofs.Ytffdkniccaebmaa.Bok
end
section
set_option linter.unusedVariables false
set_option linter.unusedSimpArgs false
set_option maxRecDepth 100000
namespace Go.Proofs.Ytffdkniccaebmaa.Bok
open Go Vse Go.Proofs Gen
abbrev Nf := ByteArray → Bool
def e0 : ByteArray := ⟨#[]⟩
def cRt (k : Nat) (N : Nf) : List (Nat × CSpec) := [(k, .sl1 [.str] .bool fun x => N x.1)]
def sRt (R : Op → Bool) : CSpec := .slp1 [tOp] (fun _ => true) .bool fun x => R x.1
abbrev Rs := List Int × Int × Unit
def cPu (rt pu nu : Nat) (R : Op → Bool) (P : List (List Int) → Rs) (U : Int → List Int) : List (Nat × CSpec) := [(rt, sRt R), (pu, .sl [ls] [bt, i64] fun x => P x.1), (nu, .sl1 [i64] bt fun x => U x.1)]
abbrev nPu : PSpec := ⟨[tOp], [bt, i64], [], [], []⟩
def cRd (rt sp wo ta : Nat) (R : Op → Bool) (pq : List Int → Bool) (Q : List Int → List (List Int) × Int × Unit) (W : List Int → Rs) (T : List Int → Int × Int × Unit) : List (Nat × CSpec) :=
 [(rt, sRt R), (sp, .slp [bs] (fun x => pq x.1) [lt, i64] fun x => Q x.1), (wo, .sl [bs] [w16, i64] fun x => W x.1), (ta, .sl [bs] [i64, i64] fun x => T x.1)]
abbrev nRd : PSpec := ⟨[bs], [tOp, i64], [], [], []⟩
def cAp (R : Op → Bool) (p : Bk → Bool) (f : Op → Bk → Int × Bk) : List (Nat × CSpec) := [(54, sRt R), (101, sCo p), (102, sDn p f)]
abbrev nAp : PSpec := ⟨[tBl, tOp], [tB, i64], [], [], []⟩
abbrev z16 : List Int := [0, 0, 0, 0, 0, 0, 0, 0, 0, 0, 0, 0, 0, 0, 0, 0]
def TRt (N : Nf) (x : Op) : Tr AV :=
 let R (b : Bool) : Tr AV := .ret (.v .bool b)
 let m1 : Tr AV := .ite (N x.2.1) (R (x.2.2.2.1 == 0)) (R false)
 let m2 : Tr AV := .ite (x.1 == 2) (.ite (N x.2.1) (R (eqT tOp x (2, x.2.1, z16, 0, ()))) (R false)) (.ite (x.1 == 4) (R (eqT tOp x (4, e0, x.2.2.1, 0, ()))) (.ite (x.1 == 5) (.ite (x.2.1 == e0) (.ite (decide (x.2.2.2.1 ≥ 1)) (R (decide (x.2.2.2.1 ≤ 2147483647))) (R false)) (R false)) (R false)))
 .ite (x.1 == 1) (.ite (x.1 == 1) m1 m2) (.ite (x.1 == 3) m1 m2)
theorem tRt (N : Nf) (x : Op) : nrm (fnS Try.prog (ctx (cRt 85 N)) L0 [.bool] Try.f54 (mkArgs [tOp] (x, ()))) = (TRt N x).eval := by kernel_rfl
def TRr (N : Nf) (x : Op) : Tr AV :=
 let R (b : Bool) : Tr AV := .ret (.v .bool b)
 let m5 : Tr AV := .ite (x.1 == 5) (.ite (decide (x.2.2.2.1 ≥ 1)) (R (decide (x.2.2.2.1 ≤ 2147483647))) (R false)) (R (x.2.2.2.1 == 0))
 let m2 : Tr AV := .ite (x.1 == 2) (.ite (!eqT w16 x.2.2.1 z16) (R false) m5) m5
 let m3 : Tr AV := .ite (decide (x.1 > 3)) (.ite (!(x.2.1 == e0)) (R false) m2) m2
 .ite (decide (x.1 < 1)) (R false) (.ite (decide (x.1 > 5)) (R false) (.ite (decide (x.1 ≤ 3)) (.ite (!N x.2.1) (R false) m3) m3))
theorem tRr (N : Nf) (x : Op) : nrm (fnS Try.prog (ctx (cRt 100 N)) L0 [.bool] Try.f55 (mkArgs [tOp] (x, ()))) = (TRr N x).eval := by kernel_rfl
def kPu (nt : Nat) : List Cut := [⟨0, [.box tOp], [], [1], [.ip true tOp], [.dead], nt⟩]
noncomputable abbrev bPu : Code := bodyOf Try.f52
noncomputable abbrev bPr : Code := bodyOf Try.f53
def TPu (R : Op → Bool) (P : List (List Int) → Rs) (U : Int → List Int) (x : Op) : Tr nPu.Out :=
 let q := P [strBytes x.2.1, (x.2.2.1.take 16).drop 0, U x.2.2.2.1]
 .ite (!R x) (.ret (([], 3, ()), ())) (.chk (Vse.room ([wb x.1].length + q.1.length) 1) (.ret (([wb x.1] ++ q.1, q.2.1, ()), ())))
theorem tPu (R : Op → Bool) (P : List (List Int) → Rs) (U : Int → List Int) (x : Op) :
  (stC Try.prog (ctx (cPu 54 37 83 R P U)) L0 nPu Try.f52 (kPu 29) bPu (begin_ Try.f52 (mkArgs [tOp] (x, ())) [])).eval = (TPu R P U x).eval := by kernel_rfl
def TPr (R : Op → Bool) (P : List (List Int) → Rs) (U : Int → List Int) (x : Op) : Tr nPu.Out :=
 let q := P [strBytes x.2.1, (x.2.2.1.take 16).drop 0, U x.2.2.2.1]
 .ite (!R x) (.ret (([], 3, ()), ())) (.chk (Vse.room ([wb x.1].length + q.1.length) 1) (.ret (([wb x.1] ++ q.1, 0, ()), ())))
theorem tPr (R : Op → Bool) (P : List (List Int) → Rs) (U : Int → List Int) (x : Op) :
  (stC Try.prog (ctx (cPu 55 98 99 R P U)) L0 nPu Try.f53 (kPu 28) bPr (begin_ Try.f53 (mkArgs [tOp] (x, ())) [])).eval = (TPr R P U x).eval := by kernel_rfl
def TAp (R : Op → Bool) (p : Bk → Bool) (f : Op → Bk → Int × Bk) (b : Bk) (x : Op) : Tr nAp.Out :=
 let O (b : Bk) (e : Int) : Tr nAp.Out := .ret (((b.1, b.2.1, b.2.2.1, b.2.2.2.1, ()), e, ()), ())
 .ite (!R x) (.chk (p b) (O b 3)) (.chk (p b) (.chk (p b) (.ite (!decide ((f x b).1 = 0)) (.chk (p b) (O b (f x b).1)) (O (f x b).2 0))))
theorem tAp (R : Op → Bool) (p : Bk → Bool) (f : Op → Bk → Int × Bk) (b : Bk) (x : Op) : (fnP Try.prog (ctx (cAp R p f)) L0 nAp Try.f56 (b, x, ()) ()).eval = (TAp R p f b x).eval := by kernel_rfl
end Go.Proofs.Ytffdkniccaebmaa.Bok
end
section
set_option linter.unusedVariables false
set_option linter.unusedSimpArgs false
set_option maxRecDepth 100000
namespace Go.Proofs.Ytffdkniccaebmaa.Bok
open Go Vse Go.Proofs Gen
def op0 : Op := (0, e0, z16, 0, ())
def cutR (b : List Int) : List Int := (b.take b.length).drop 1
def opR (Q : List Int → List (List Int) × Int × Unit) (W : List Int → Rs) (T : List Int → Int × Int × Unit) (b : List Int) : Op :=
 let l := (Q (cutR b)).1
 (w (b.getD 0 0), bytesStr (l.getD 0 []), (W (l.getD 1 [])).1, (T (l.getD 2 [])).1, ())
def TRd (R : Op → Bool) (pq : List Int → Bool) (Q : List Int → List (List Int) × Int × Unit) (W : List Int → Rs) (T : List Int → Int × Int × Unit) (b : List Int) : Tr nRd.Out :=
 let l := (Q (cutR b)).1
 let no : Tr nRd.Out := .ret ((op0, 3, ()), ())
 .ite (decide ((b.length : Int) = 0)) no (.chk (decide ((1 : Int) ≤ (b.length : Int)) && decide ((b.length : Int) ≤ (b.length : Int))) (.chk (pq (cutR b)) (.ite (!decide ((Q (cutR b)).2.1 = 0)) no (.ite (!decide ((l.length : Int) = 3)) no
  (.chk (inArr 1 l.length) (.chk (inArr 2 l.length) (.chk (inArr 0 b.length) (.chk (inArr 0 l.length) (.ite (!decide ((W (l.getD 1 [])).2.1 = 0)) no (.ite (!decide ((T (l.getD 2 [])).2.1 = 0)) no (.ite (!R (opR Q W T b)) no (.ret ((opR Q W T b, 0, ()), ())))))))))))))
theorem tRd (R : Op → Bool) (pq : List Int → Bool) (Q : List Int → List (List Int) × Int × Unit) (W : List Int → Rs) (T : List Int → Int × Int × Unit) (b : List Int) :
  (fnP Try.prog (ctx (cRd 54 38 84 82 R pq Q W T)) L0 nRd Try.f50 (b, ()) ()).eval = (TRd R pq Q W T b).eval := by kernel_rfl
theorem tRe (R : Op → Bool) (pq : List Int → Bool) (Q : List Int → List (List Int) × Int × Unit) (W : List Int → Rs) (T : List Int → Int × Int × Unit) (b : List Int) :
  (fnP Try.prog (ctx (cRd 55 95 96 97 R pq Q W T)) L0 nRd Try.f51 (b, ()) ()).eval = (TRd R pq Q W T b).eval := by kernel_rfl
def cSm (se : List En → List En → Bool) (sw : List (List Int) → List (List Int) → Bool) : List (Nat × CSpec) := [(104, sEe se), (105, sEw sw)]
abbrev nSm : PSpec := ⟨[tBl, tBl], [.bool], [], [], []⟩
def TSm (se : List En → List En → Bool) (sw : List (List Int) → List (List Int) → Bool) (a b : Bk) : Tr nSm.Out :=
 let R (x : Bool) : Tr nSm.Out := .ret ((x, ()), ())
 .ite (se a.1 b.1) (.ite (sw a.2.1 b.2.1) (.ite (a.2.2.1 == b.2.2.1) (R (eqT w16 a.2.2.2.1 b.2.2.2.1)) (R false)) (R false)) (R false)
theorem tSm (se : List En → List En → Bool) (sw : List (List Int) → List (List Int) → Bool) (a b : Bk) : (fnP Try.prog (ctx (cSm se sw)) L0 nSm Try.f60 (a, b, ()) ()).eval = (TSm se sw a b).eval := by kernel_rfl
abbrev lOp : Ty := .imm true false tOp
abbrev nOp : PSpec := ⟨[tBl], [.vc 0 0], [], [.vec 0 tOp], []⟩
noncomputable def bO1 : Code := loopAt Try.f61 0
noncomputable def bO2 : Code := loopAt Try.f61 1
def SO1 : RSpec := ⟨[1, 3, 9, 10, 11], 49, [.ptr 0 [], .vc 1 1, .imm false false tEnt, i64, i64], [.box tBl, .vec 1 tOp], [.box tBl], [.slot 3 tOp], fun _ => ([1, 3], [.ptr 0 [], .vc 1 1], [.box tBl, .vec 1 tOp])⟩
def addO (e : En) : Op := (1, e.1, e.2.1, 0, ())
def revO (x : List Int) : Op := (4, e0, x, 0, ())
def GO1 (b : Bk) (o : List Op) (l : List En) (n i : Int) : Tr SO1.End :=
 .ite (decide (i < n)) (.chk (inArr i l.length) (.chk (Vse.room (o.length + 1) 48) (.ret (.inl (((), (), l, n, w (i + 1), ()), (b, o ++ [addO (l.getD i.toNat (dflt tEnt))], ()))))))
  (.ret (.inr (.exit 0, encS [1, 3] [.ptr 0 [], .vc 1 1] [.box tBl, .vec 1 tOp] 49 ((), (), ()) (b, o, ()))))
theorem rO1 (b : Bk) (o : List Op) (l : List En) (n i : Int) : (SO1.round (bodyK Try.prog (ctx []) L0 bO1) ((), (), l, n, i, ()) (b, o, ())).eval = (GO1 b o l n i).eval := by kernel_rfl
def SO2 : RSpec := ⟨[1, 3, 25, 26, 27], 49, [.ptr 0 [], .vc 1 2, lw, i64, i64], [.box tBl, .vec 2 tOp], [.box tBl, .vec 1 tOp], [], fun _ => ([1, 3], [.ptr 0 [], .vc 1 2], [.box tBl, .vec 2 tOp])⟩
def GO2 (b : Bk) (o : List Op) (l : List (List Int)) (n i : Int) : Tr SO2.End :=
 .ite (decide (i < n)) (.chk (inArr i l.length) (.chk (Vse.room (o.length + 1) 48) (.ret (.inl (((), (), l, n, w (i + 1), ()), (b, o ++ [revO (l.getD i.toNat (dflt w16))], ()))))))
  (.ret (.inr (.exit 2, encS [1, 3] [.ptr 0 [], .vc 1 2] [.box tBl, .vec 2 tOp] 49 ((), (), ()) (b, o, ()))))
theorem rO2 (b : Bk) (o : List Op) (l : List (List Int)) (n i : Int) : (SO2.round (bodyK Try.prog (ctx []) L0 bO2) ((), (), l, n, i, ()) (b, o, ())).eval = (GO2 b o l n i).eval := by kernel_rfl
theorem mO1 (b : Bk) (l : List En) (hl : l.length ≤ 1000000) : ∀ (m k : Nat), k + m = l.length →
  SO1.many (bodyK Try.prog (ctx []) L0 bO1) (m + 1) ((), (), l, (l.length : Int), (k : Int), ()) (b, (l.take k).map addO, ()) = some (.exit 0, encS [1, 3] [.ptr 0 [], .vc 1 1] [.box tBl, .vec 1 tOp] 49 ((), (), ()) (b, l.map addO, ()))
 | 0, k, h => by
  rw [List.take_of_length_le (by omega)]
  refine rmany_inr ((rO1 b _ l _ _).trans ?_) 0
  unfold GO1
  rw [ite_f (decide_eq_false (by omega))]
  rfl
 | m + 1, k, h => by
  have h1 : k < l.length := by omega
  have ht : (l.take k).map addO ++ [addO l[k]] = (l.take (k + 1)).map addO := by rw [List.take_add_one, List.getElem?_eq_getElem h1, List.map_append]; rfl
  refine (rmany_inl (d := (((), (), l, (l.length : Int), ((k + 1 : Nat) : Int), ()), (b, (l.take (k + 1)).map addO, ()))) ((rO1 b _ l _ _).trans ?_) (m + 1)).trans (mO1 b l hl m (k + 1) (by omega))
  unfold GO1
  rw [Int.toNat_natCast, getD_of h1, ite_t (decide_eq_true (by omega)), chk_eval (inArr_of h1), chk_eval (by simp only [Vse.room, decide_eq_true_eq, List.length_map, List.length_take]; omega), ht, w_succ h1 (by omega)]
  rfl
theorem mO2 (b : Bk) (o : List Op) (l : List (List Int)) (hl : o.length + l.length ≤ 2000000) : ∀ (m k : Nat), k + m = l.length →
  SO2.many (bodyK Try.prog (ctx []) L0 bO2) (m + 1) ((), (), l, (l.length : Int), (k : Int), ()) (b, o ++ (l.take k).map revO, ()) = some (.exit 2, encS [1, 3] [.ptr 0 [], .vc 1 2] [.box tBl, .vec 2 tOp] 49 ((), (), ()) (b, o ++ l.map revO, ()))
 | 0, k, h => by
  rw [List.take_of_length_le (by omega)]
  refine rmany_inr ((rO2 b _ l _ _).trans ?_) 0
  unfold GO2
  rw [ite_f (decide_eq_false (by omega))]
  rfl
 | m + 1, k, h => by
  have h1 : k < l.length := by omega
  have ht : (o ++ (l.take k).map revO) ++ [revO l[k]] = o ++ (l.take (k + 1)).map revO := by rw [List.take_add_one, List.getElem?_eq_getElem h1, List.map_append, List.append_assoc]; rfl
  refine (rmany_inl (d := (((), (), l, (l.length : Int), ((k + 1 : Nat) : Int), ()), (b, o ++ (l.take (k + 1)).map revO, ()))) ((rO2 b _ l _ _).trans ?_) (m + 1)).trans (mO2 b o l hl m (k + 1) (by omega))
  unfold GO2
  rw [Int.toNat_natCast, getD_of h1, ite_t (decide_eq_true (by omega)), chk_eval (inArr_of h1), chk_eval (by simp only [Vse.room, decide_eq_true_eq, List.length_append, List.length_map, List.length_take]; omega), ht, w_succ h1 (by omega)]
  rfl
abbrev Co1 := List Op → List En → Int → Int → Bool
abbrev Co2 := List Op → List (List Int) → Int → Int → Bool
def cO1 : Co1 := fun o l n i => decide (o.length = 0) && (decide (n = (l.length : Int)) && (decide (i = 0) && decide (l.length ≤ 1000000)))
def cO2 : Co2 := fun o l n i => decide (n = (l.length : Int)) && (decide (i = 0) && decide (o.length + l.length ≤ 2000000))
def FO1 (c : Co1) (xs : HL SO1.Ts) (hs : HD SO1.Es) : Tr (Ex × St) := .chk (c hs.2.1 xs.2.2.1 xs.2.2.2.1 xs.2.2.2.2.1) (.ret (.exit 0, encS [1, 3] [.ptr 0 [], .vc 1 1] [.box tBl, .vec 1 tOp] 49 ((), (), ()) (hs.1, xs.2.2.1.map addO, ())))
def FO2 (c : Co2) (xs : HL SO2.Ts) (hs : HD SO2.Es) : Tr (Ex × St) := .chk (c hs.2.1 xs.2.2.1 xs.2.2.2.1 xs.2.2.2.2.1) (.ret (.exit 2, encS [1, 3] [.ptr 0 [], .vc 1 2] [.box tBl, .vec 2 tOp] 49 ((), (), ()) (hs.1, hs.2.1 ++ xs.2.2.1.map revO, ())))
def LOp (c1 : Co1) (c2 : Co2) : Loops := fun j st => if j = 3 then SO1.fn (FO1 c1) st else if j = 8 then SO2.fn (FO2 c2) st else .fail
theorem lO1 : LoopOK Try.prog (LOp cO1 cO2) bO1 :=
 rloop_ok (L := LOp cO1 cO2) (L' := L0) nil_sound (loopsOK_of (by kernel_rfl)) SO1 (F := FO1 cO1) (i := 3) (by kernel_rfl) (fun _ => rfl) fun xs hs q h => by
  obtain ⟨u1, u2, l, n, i, u⟩ := xs
  obtain ⟨b, o, u3⟩ := hs
  obtain ⟨h1, h2⟩ := Tr.chk_some h
  simp only [cO1, Bool.and_eq_true, decide_eq_true_eq] at h1
  obtain ⟨e0, e1, e2, e3⟩ := h1
  have e0 : o = ([] : List Op) := List.eq_nil_of_length_eq_zero e0
  have e1 : n = (List.length (α := En) l : Int) := e1
  have e2 : i = ((0 : Nat) : Int) := e2
  subst e0; subst e1; subst e2
  exact ⟨_, (mO1 b l e3 (List.length (α := En) l) 0 (by omega)).trans (congrArg some (Tr.ret_some h2))⟩
theorem lO2 : LoopOK Try.prog (LOp cO1 cO2) bO2 :=
 rloop_ok (L := LOp cO1 cO2) (L' := L0) nil_sound (loopsOK_of (by kernel_rfl)) SO2 (F := FO2 cO2) (i := 8) (by kernel_rfl) (fun _ => rfl) fun xs hs q h => by
  obtain ⟨u1, u2, l, n, i, u⟩ := xs
  obtain ⟨b, o, u3⟩ := hs
  obtain ⟨h1, h2⟩ := Tr.chk_some h
  simp only [cO2, Bool.and_eq_true, decide_eq_true_eq] at h1
  obtain ⟨e1, e2, e3⟩ := h1
  have e1 : n = (List.length (α := List Int) l : Int) := e1
  have e2 : i = ((0 : Nat) : Int) := e2
  subst e1; subst e2
  have := mO2 b o l e3 (List.length (α := List Int) l) 0 (by omega)
  rw [List.take_zero, List.map_nil, List.append_nil] at this
  exact ⟨_, this.trans (congrArg some (Tr.ret_some h2))⟩
def opsF (b : Bk) : List Op := b.1.map addO ++ b.2.1.map revO ++ if b.2.2.1 > 0 then [(5, e0, b.2.2.2.1, b.2.2.1, ())] else []
def TOs (c1 : Co1) (c2 : Co2) (b : Bk) : Tr nOp.Out :=
 let o := b.1.map addO ++ b.2.1.map revO
 .chk (c1 [] b.1 (b.1.length : Int) 0) (.chk (c2 (b.1.map addO) b.2.1 (b.2.1.length : Int) 0) (.ite (decide (b.2.2.1 > 0)) (.chk (Vse.room (o.length + 1) 48) (.ret (((), ()), (o ++ [(5, e0, b.2.2.2.1, b.2.2.1, ())], ())))) (.ret (((), ()), (o, ())))))
theorem tOs (c1 : Co1) (c2 : Co2) (b : Bk) : (fnP Try.prog (ctx []) (LOp c1 c2) nOp Try.f61 (b, ()) ()).eval = (TOs c1 c2 b).eval := by kernel_rfl
def sOs (p : Bk → Bool) (f : Bk → List Op) : CSpec := .pos nOp (fun xs _ => p xs.1) fun xs _ => (((), ()), (f xs.1, ()))
theorem TOs_eq (b : Bk) (h : okB b = true) : (TOs cO1 cO2 b).eval = some (((), ()), (opsF b, ())) := by
 unfold okB at h
 simp only [Bool.and_eq_true, decide_eq_true_eq] at h
 unfold TOs opsF
 dsimp only
 rw [chk_eval (by unfold cO1; rw [decide_eq_true h.1]; simp), chk_eval (by unfold cO2; rw [decide_eq_true (show (b.1.map addO).length + b.2.1.length ≤ 2000000 by rw [List.length_map]; omega)]; simp)]
 by_cases hg : b.2.2.1 > 0
 ·rw [ite_t (decide_eq_true hg), if_pos hg, chk_eval (by simp only [Vse.room, decide_eq_true_eq, List.length_append, List.length_map]; omega)]; rfl
 ·rw [ite_f (decide_eq_false hg), if_neg hg, List.append_nil]; rfl
theorem loops_Os : loopsOf (bodyOf Try.f61) = [bO1, bO2] := by kernel_rfl
theorem okOs : CSound Try.prog 61 (sOs okB opsF) ∧ CLocal (sOs okB opsF) :=
 pos_sound (L := LOp cO1 cO2) nil_sound Try.func61 (by kernel_rfl) (loops2 loops_Os lO1 lO2) fun xs hs hx hh hp => by
  obtain ⟨b, u⟩ := xs
  exact (tOs cO1 cO2 b).trans (TOs_eq b hp)
end Go.Proofs.Ytffdkniccaebmaa.Bok
end
section
set_option linter.unusedVariables false
set_option linter.unusedSimpArgs false
set_option maxRecDepth 100000
namespace Go.Proofs.Ytffdkniccaebmaa.Bok
open Go Vse Go.Proofs Gen
open Fld (nameI encL putI hd1 hd2 num1 num2 splitI wordI take1 take2 Bytes)
def rtF (x : Op) : Bool :=
 if x.1 = 1 then nameI x.2.1 && decide (x.2.2.2.1 = 0)
 else if x.1 = 3 then nameI x.2.1 && decide (x.2.2.2.1 = 0)
 else if x.1 = 2 then nameI x.2.1 && (eqT w16 x.2.2.1 z16 && decide (x.2.2.2.1 = 0))
 else if x.1 = 4 then (x.2.1 == e0) && decide (x.2.2.2.1 = 0)
 else if x.1 = 5 then (x.2.1 == e0) && (decide (x.2.2.2.1 ≥ 1) && decide (x.2.2.2.1 ≤ 2147483647))
 else false
theorem beq_int (x y : Int) : (x == y) = decide (x = y) := rfl
theorem str_self (s : ByteArray) : (s == s) = true := (MapKept.bytes_beq s s).2 rfl
theorem eqw_self (x : List Int) : eqT w16 x x = true := (eqT_iff w16 x x (by decide)).2 rfl
theorem eq_op2 (k : Int) (s : ByteArray) (key : List Int) (n : Int) : eqT tOp (k, s, key, n, ()) (2, s, z16, 0, ()) = (decide (k = 2) && (eqT w16 key z16 && decide (n = 0))) := by
 show (decide (k = 2) && ((s == s) && (eqT w16 key z16 && (decide (n = 0) && true)))) = _
 rw [str_self, Bool.true_and, Bool.and_true]
theorem eq_op4 (k : Int) (s : ByteArray) (key : List Int) (n : Int) : eqT tOp (k, s, key, n, ()) (4, e0, key, 0, ()) = (decide (k = 4) && ((s == e0) && decide (n = 0))) := by
 show (decide (k = 4) && ((s == e0) && (eqT w16 key key && (decide (n = 0) && true)))) = _
 rw [eqw_self, Bool.true_and, Bool.and_true]
theorem TRt_eq (x : Op) : (TRt nameI x).eval = some (.v .bool (rtF x)) := by
 obtain ⟨k, s, key, n, u⟩ := x
 unfold TRt rtF
 dsimp only
 by_cases h1 : k = 1
 ·rw [ite_t (by simp [h1]), ite_t (by simp [h1]), if_pos h1]
  cases nameI s <;> rfl
 rw [ite_f (by simp [h1]), if_neg h1]
 by_cases h3 : k = 3
 ·rw [ite_t (by simp [h3]), if_pos h3]
  cases nameI s <;> rfl
 rw [ite_f (by simp [h3]), if_neg h3]
 by_cases h2 : k = 2
 ·rw [ite_t (by simp [h2]), if_pos h2, eq_op2, decide_eq_true h2, Bool.true_and]
  cases nameI s <;> rfl
 rw [ite_f (by simp [h2]), if_neg h2]
 by_cases h4 : k = 4
 ·rw [ite_t (by simp [h4]), if_pos h4, eq_op4, decide_eq_true h4, Bool.true_and]; rfl
 rw [ite_f (by simp [h4]), if_neg h4]
 by_cases h5 : k = 5
 ·rw [ite_t (by simp [h5]), if_pos h5]
  cases (s == e0) with
  | false => rfl
  | true =>
   cases decide (n ≥ 1) <;> rfl
 ·rw [ite_f (by simp [h5]), if_neg h5]; rfl
theorem TRr_eq (x : Op) : (TRr nameI x).eval = some (.v .bool (rtF x)) := by
 obtain ⟨k, s, key, n, u⟩ := x
 have key1 : ∀ (a b c d e : Bool), (TRr (fun _ => a) (1, s, key, n, ())).eval = some (.v .bool (a && decide (n = 0))) := fun a b c d e => by cases a <;> rfl
 have key3 : ∀ (a : Bool), (TRr (fun _ => a) (3, s, key, n, ())).eval = some (.v .bool (a && decide (n = 0))) := fun a => by cases a <;> rfl
 unfold rtF
 dsimp only
 by_cases h1 : k = 1
 ·subst h1
  rw [if_pos rfl]
  show (TRr (fun _ => nameI s) (1, s, key, n, ())).eval = _
  cases nameI s <;> rfl
 rw [if_neg h1]
 by_cases h3 : k = 3
 ·subst h3
  rw [if_pos rfl]
  show (TRr (fun _ => nameI s) (3, s, key, n, ())).eval = _
  cases nameI s <;> rfl
 rw [if_neg h3]
 by_cases h2 : k = 2
 ·subst h2
  rw [if_pos rfl]
  unfold TRr
  dsimp only
  generalize eqT w16 key z16 = e
  generalize nameI s = a
  cases a <;> cases e <;> rfl
 rw [if_neg h2]
 by_cases h4 : k = 4
 ·subst h4
  rw [if_pos rfl]
  unfold TRr
  dsimp only
  generalize (s == e0) = a
  cases a <;> rfl
 rw [if_neg h4]
 by_cases h5 : k = 5
 ·subst h5
  rw [if_pos rfl]
  unfold TRr
  dsimp only
  generalize (s == e0) = a
  generalize decide (n ≥ 1) = c
  cases a <;> cases c <;> rfl
 ·rw [if_neg h5]
  unfold TRr
  dsimp only
  by_cases h6 : k < 1
  ·rw [ite_t (decide_eq_true h6)]; rfl
  ·rw [ite_f (decide_eq_false h6), ite_t (decide_eq_true (by omega))]; rfl
theorem okRt : CSound Try.prog 54 (sRt rtF) ∧ CLocal (sRt rtF) :=
 slpE1 (L := L0) (C := ctx (cRt 85 nameI)) (ctx_sound ⟨Fld.ok36, trivial⟩) Try.func54 (by kernel_rfl) (noLoopsL (by kernel_rfl)) fun xs hx hp => (tRt nameI xs.1).trans (TRt_eq xs.1)
theorem okRr : CSound Try.prog 55 (sRt rtF) ∧ CLocal (sRt rtF) :=
 slpE1 (L := L0) (C := ctx (cRt 100 nameI)) (ctx_sound ⟨Fld.ok37, trivial⟩) Try.func55 (by kernel_rfl) (noLoopsL (by kernel_rfl)) fun xs hx hp => (tRr nameI xs.1).trans (TRr_eq xs.1)
def partsP (x : Op) : List (List Int) := [strBytes x.2.1, x.2.2.1, num1 x.2.2.2.1]
theorem putI_enc {l : List (List Int)} (h : ∀ p ∈ l, p.length ≤ 500) (hn : l.length ≤ 20) : putI hd1 l = (encL l, 0, ()) := by
 unfold Fld.putI
 rw [decide_eq_false (show ¬ (l.length : Int) > 20 by omega), Fld.putG_enc l [] h]
 rfl
theorem num1_len (n : Int) : (num1 n).length = 8 := rfl
def putF (x : Op) : Rs := if rtF x = true then ([wb x.1] ++ encL (partsP x), 0, ()) else ([], 3, ())
theorem rt_name {x : Op} (h : rtF x = true) : x.2.1.size ≤ 20 := by
 obtain ⟨k, s, key, n, u⟩ := x
 have hn : nameI s = true → s.size ≤ 20 := fun h => by
  unfold Fld.nameI at h
  simp only [Bool.and_eq_true, decide_eq_true_eq] at h
  exact h.2.2
 have he : (s == e0) = true → s.size ≤ 20 := fun h => by rw [(MapKept.bytes_beq s e0).1 h]; decide
 unfold rtF at h
 dsimp only at h ⊢
 split at h
 ·exact hn (Bool.and_eq_true _ _ ▸ h).1
 split at h
 ·exact hn (Bool.and_eq_true _ _ ▸ h).1
 split at h
 ·exact hn (Bool.and_eq_true _ _ ▸ h).1
 split at h
 ·exact he (Bool.and_eq_true _ _ ▸ h).1
 split at h
 ·exact he (Bool.and_eq_true _ _ ▸ h).1
 ·cases h
theorem strBytes_len (s : ByteArray) : (strBytes s).length = s.size := by simp [strBytes]
theorem encL_len3 (a b c : List Int) : (encL [a, b, c]).length = 6 + a.length + b.length + c.length := by
 unfold Fld.encL Fld.encL Fld.encL Fld.encL
 simp only [List.length_append, List.length_nil]
 have : ∀ p, (hd1 p).length = 2 := fun p => rfl
 rw [this, this, this]
 omega
theorem parts_ok {x : Op} (h : rtF x = true) (hk : x.2.2.1.length = 16) : putI hd1 (partsP x) = (encL (partsP x), 0, ()) := by
 have := rt_name h
 refine putI_enc (fun p hp => ?_) (show 3 ≤ 20 by decide)
 unfold partsP at hp
 simp only [List.mem_cons, List.not_mem_nil, or_false] at hp
 rcases hp with rfl | rfl | rfl
 ·rw [strBytes_len]; omega
 ·omega
 ·rw [num1_len]; omega
theorem TPu_eq {x : Op} (hk : x.2.2.1.length = 16) : (TPu rtF (putI hd1) num1 x).eval = some (putF x, ()) := by
 unfold TPu putF
 dsimp only
 cases h : rtF x with
 | false => rw [ite_t (show (!false) = true from rfl), if_neg (by simp)]; rfl
 | true =>
  have hp := parts_ok h hk
  have hn := rt_name h
  have ht : (x.2.2.1.take 16).drop 0 = x.2.2.1 := by rw [List.drop_zero]; exact List.take_of_length_le (by omega)
  have hp' : putI hd1 [strBytes x.2.1, x.2.2.1, num1 x.2.2.2.1] = (encL (partsP x), 0, ()) := hp
  have hl : (encL (partsP x)).length = 6 + (strBytes x.2.1).length + x.2.2.1.length + (num1 x.2.2.2.1).length := encL_len3 _ _ _
  rw [strBytes_len, num1_len] at hl
  rw [ite_f (show (!true) = false from rfl), if_pos rfl, ht, hp', chk_eval (by simp only [Vse.room, decide_eq_true_eq, List.length_cons, List.length_nil]; omega)]
  rfl
theorem TPr_eq {x : Op} (hk : x.2.2.1.length = 16) : (TPr rtF (putI hd2) num1 x).eval = some (putF x, ()) := by
 unfold TPr putF
 dsimp only
 cases h : rtF x with
 | false => rw [ite_t (show (!false) = true from rfl), if_neg (by simp)]; rfl
 | true =>
  have hp := parts_ok h hk
  have hn := rt_name h
  have ht : (x.2.2.1.take 16).drop 0 = x.2.2.1 := by rw [List.drop_zero]; exact List.take_of_length_le (by omega)
  have hp' : putI hd2 [strBytes x.2.1, x.2.2.1, num1 x.2.2.2.1] = (encL (partsP x), 0, ()) := by rw [← Fld.putI_same]; exact hp
  have hl : (encL (partsP x)).length = 6 + (strBytes x.2.1).length + x.2.2.1.length + (num1 x.2.2.2.1).length := encL_len3 _ _ _
  rw [strBytes_len, num1_len] at hl
  rw [ite_f (show (!true) = false from rfl), if_pos rfl, ht, hp', chk_eval (by simp only [Vse.room, decide_eq_true_eq, List.length_cons, List.length_nil]; omega)]
  rfl
def sPu (f : Op → Rs) : CSpec := .pos nPu (fun _ _ => true) fun xs _ => (f xs.1, ())
theorem okPu : CSound Try.prog 52 (sPu putF) ∧ CLocal (sPu putF) :=
 pos_cuts (L := L0) (C := ctx (cPu 54 37 83 rtF (putI hd1) num1)) (ctx_sound ⟨okRt, Fld.ok25, Fld.ok34, trivial⟩) (kPu 29) Try.func52 (c := bPu) (by kernel_rfl) (by kernel_rfl) (noLoopsL (by kernel_rfl)) fun xs hs hx hh hp => by
  obtain ⟨x, u⟩ := xs
  exact (tPu rtF (putI hd1) num1 x).trans (TPu_eq hx.1.2.2.1.1)
theorem num_fun : (fun n => num2 (wu n)) = num1 := funext fun n => (Fld.num_same n).symm
theorem okPr : CSound Try.prog 53 (sPu putF) ∧ CLocal (sPu putF) :=
 pos_cuts (L := L0) (C := ctx (cPu 55 98 99 rtF (putI hd2) fun n => num2 (wu n))) (ctx_sound ⟨okRr, Fld.ok26, Fld.ok35, trivial⟩) (kPu 28) Try.func53 (c := bPr) (by kernel_rfl) (by kernel_rfl) (noLoopsL (by kernel_rfl)) fun xs hs hx hh hp => by
  obtain ⟨x, u⟩ := xs
  refine (tPr rtF (putI hd2) (fun n => num2 (wu n)) x).trans ?_
  rw [num_fun]
  exact TPr_eq hx.1.2.2.1.1
abbrev Tk := List Int → Int × Int × Unit
def tk1 : Tk := fun a => bif decide (a.length = 8) then (take1 a, 0, ()) else (0, 3, ())
def tk2 : Tk := fun a => bif decide (a.length = 8) then (w (take2 a), 0, ()) else (0, 3, ())
def opB (T : Tk) (b : List Int) : Op := ((b.getD 0 0), bytesStr ((splitI (b.drop 1)).1.getD 0 []), (wordI ((splitI (b.drop 1)).1.getD 1 [])).1, (T ((splitI (b.drop 1)).1.getD 2 [])).1, ())
def rdT (T : Tk) (b : List Int) : Op × Int × Unit :=
 if b.length = 0 then (op0, 3, ()) else
 if (splitI (b.drop 1)).2.1 = 0 ∧ (splitI (b.drop 1)).1.length = 3 ∧ (wordI ((splitI (b.drop 1)).1.getD 1 [])).2.1 = 0 ∧ (T ((splitI (b.drop 1)).1.getD 2 [])).2.1 = 0 ∧ rtF (opB T b) = true then (opB T b, 0, ()) else (op0, 3, ())
theorem TRd_eq (T : Tk) {b : List Int} (hb : Bytes b) (hl : b.length ≤ 140737488355328) : (TRd rtF Fld.preB splitI wordI T b).eval = some (rdT T b, ()) := by
 unfold TRd rdT
 have hc : cutR b = b.drop 1 := by unfold cutR; rw [List.take_of_length_le (Nat.le_refl _)]
 have ho : opR splitI wordI T b = opB T b := by
  have h0 := Fld.bytes_get hb 0
  unfold opR opB
  rw [hc, w_id (by omega) (by omega)]
 dsimp only
 rw [hc, ho]
 by_cases h0 : b.length = 0
 ·rw [ite_t (decide_eq_true (by omega)), if_pos h0]; rfl
 have hd : (b.drop 1).length = b.length - 1 := List.length_drop
 rw [ite_f (decide_eq_false (by omega)), if_neg h0, chk_eval (by rw [Bool.and_eq_true, decide_eq_true_eq, decide_eq_true_eq]; omega), chk_eval (show Fld.preB (b.drop 1) = true from decide_eq_true (by omega))]
 generalize splitI (b.drop 1) = q
 obtain ⟨l, e, u⟩ := q
 dsimp only
 by_cases h1 : e = (0 : Int)
 ·rw [ite_f (by rw [decide_eq_true h1]; rfl)]
  by_cases h2 : List.length (α := List Int) l = 3
  ·have h3 : ((List.length (α := List Int) l : Nat) : Int) = 3 := by omega
   rw [ite_f (by rw [decide_eq_true h3]; rfl), chk_eval (show inArr 1 _ = true from inArr_of (k := 1) (by omega)), chk_eval (show inArr 2 _ = true from inArr_of (k := 2) (by omega)), chk_eval (show inArr 0 _ = true from inArr_of (k := 0) (by omega)), chk_eval (show inArr 0 _ = true from inArr_of (k := 0) (by omega))]
   by_cases h4 : (wordI (List.getD l 1 [])).2.1 = 0
   ·rw [ite_f (by rw [decide_eq_true h4]; rfl)]
    by_cases h5 : (T (List.getD l 2 [])).2.1 = 0
    ·rw [ite_f (by rw [decide_eq_true h5]; rfl)]
     cases h6 : rtF (opB T b) with
     | true => rw [ite_f (show (!true) = false from rfl), if_pos ⟨h1, h2, h4, h5, rfl⟩]; rfl
     | false => rw [ite_t (show (!false) = true from rfl), if_neg (fun h => by cases h.2.2.2.2)]; rfl
    ·rw [ite_t (by rw [decide_eq_false h5]; rfl), if_neg (fun h => h5 h.2.2.2.1)]; rfl
   ·rw [ite_t (by rw [decide_eq_false h4]; rfl), if_neg (fun h => h4 h.2.2.1)]; rfl
  ·rw [ite_t (by rw [decide_eq_false (by omega)]; rfl), if_neg (fun h => h2 h.2.1)]; rfl
 ·rw [ite_t (by rw [decide_eq_false h1]; rfl), if_neg (fun h => h1 h.1)]; rfl
def okL (b : List Int) : Bool := decide (b.length ≤ 140737488355328)
def sRd (f : List Int → Op × Int × Unit) : CSpec := .pos nRd (fun xs _ => okL xs.1) fun xs _ => (f xs.1, ())
theorem okRd : CSound Try.prog 50 (sRd (rdT tk1)) ∧ CLocal (sRd (rdT tk1)) :=
 pos_sound (L := L0) (C := ctx (cRd 54 38 84 82 rtF Fld.preB splitI wordI tk1)) (ctx_sound ⟨okRt, Fld.ok27, Fld.ok31, Fld.ok29, trivial⟩) Try.func50 (by kernel_rfl) (noLoopsL (by kernel_rfl)) fun xs hs hx hh hp => by
  obtain ⟨b, u⟩ := xs
  exact (tRd rtF Fld.preB splitI wordI tk1 b).trans (TRd_eq tk1 (Fld.bytes_ok hx.1) (of_decide_eq_true hp))
theorem okRe : CSound Try.prog 51 (sRd (rdT tk2)) ∧ CLocal (sRd (rdT tk2)) :=
 pos_sound (L := L0) (C := ctx (cRd 55 95 96 97 rtF Fld.preB splitI wordI tk2)) (ctx_sound ⟨okRr, Fld.ok28, Fld.ok32, Fld.ok30, trivial⟩) Try.func51 (by kernel_rfl) (noLoopsL (by kernel_rfl)) fun xs hs hx hh hp => by
  obtain ⟨b, u⟩ := xs
  exact (tRe rtF Fld.preB splitI wordI tk2 b).trans (TRd_eq tk2 (Fld.bytes_ok hx.1) (of_decide_eq_true hp))
abbrev Ab := Bk → Op → Bk × Int
def applyF (b : Bk) (x : Op) : Bk × Int := if rtF x = true then (if (doneF x b).1 = 0 then ((doneF x b).2, 0) else (b, (doneF x b).1)) else (b, 3)
theorem TAp_eq {b : Bk} (x : Op) (hb : okB b = true) : (TAp rtF okB doneF b x).eval = some (((applyF b x).1, (applyF b x).2, ()), ()) := by
 unfold TAp applyF
 dsimp only
 cases h : rtF x with
 | false => rw [ite_t (show (!false) = true from rfl), chk_eval hb, if_neg (by simp)]; rfl
 | true =>
  rw [ite_f (show (!true) = false from rfl), chk_eval hb, chk_eval hb, if_pos rfl]
  by_cases h0 : (doneF x b).1 = 0
  ·rw [ite_f (by rw [decide_eq_true h0]; rfl), if_pos h0]; rfl
  ·rw [ite_t (by rw [decide_eq_false h0]; rfl), if_neg h0, chk_eval hb]; rfl
def sAp (p : Bk → Bool) (f : Bk → Op → Bk × Int) : CSpec := .pos nAp (fun xs _ => p xs.1) fun xs _ => (((f xs.1 xs.2.1).1, (f xs.1 xs.2.1).2, ()), ())
theorem okAp : CSound Try.prog 56 (sAp okB applyF) ∧ CLocal (sAp okB applyF) :=
 pos_sound (L := L0) (C := ctx (cAp rtF okB doneF)) (ctx_sound ⟨okRt, okCo, okDn, trivial⟩) Try.func56 (by kernel_rfl) (noLoopsL (by kernel_rfl)) fun xs hs hx hh hp => by
  obtain ⟨b, x, u⟩ := xs
  exact (tAp rtF okB doneF b x).trans (TAp_eq x hp)
def smF (a b : Bk) : Bool := samee a.1 b.1 && (samew a.2.1 b.2.1 && (decide (a.2.2.1 = b.2.2.1) && eqT w16 a.2.2.2.1 b.2.2.2.1))
theorem sm_iff (a b : Bk) : smF a b = true ↔ a = b := by
 obtain ⟨L, r, g, o, u⟩ := a
 obtain ⟨L', r', g', o', u'⟩ := b
 unfold smF
 simp only [Bool.and_eq_true, samee_iff, samew_iff, decide_eq_true_eq]
 rw [eqT_iff w16 o o' (by decide)]
 constructor
 ·rintro ⟨rfl, rfl, rfl, rfl⟩; rfl
 ·intro h; cases h; exact ⟨rfl, rfl, rfl, rfl⟩
def sSmB (f : Bk → Bk → Bool) : CSpec := .pos nSm (fun _ _ => true) fun x _ => ((f x.1 x.2.1, ()), ())
theorem okSm : CSound Try.prog 60 (sSmB smF) ∧ CLocal (sSmB smF) :=
 pos_sound (L := L0) (C := ctx (cSm samee samew)) (ctx_sound ⟨okEe, okEw, trivial⟩) Try.func60 (by kernel_rfl) (noLoopsL (by kernel_rfl)) fun xs hs hx hh hp => by
  obtain ⟨a, b, u⟩ := xs
  refine (tSm samee samew a b).trans ?_
  show _ = some ((smF a b, ()), ())
  unfold TSm smF
  cases samee a.1 b.1 with
  | false => rfl
  | true =>
   cases samew a.2.1 b.2.1 with
   | false => rfl
   | true => rw [ite_t rfl, ite_t rfl, beq_int]; cases decide (a.2.2.1 = b.2.2.1) <;> rfl
end Go.Proofs.Ytffdkniccaebmaa.Bok
end
section
set_option linter.unusedVariables false
set_option linter.unusedSimpArgs false
set_option maxRecDepth 100000
namespace Go.Proofs.Ytffdkniccaebmaa.Bok
open Go Vse Go.Proofs Gen
abbrev dE : List ETy := [.box tBl, .box w16]
def SDr : RSpec := ⟨[2, 3, 5], 20, [.ptr 0 [], .ptr 1 [], i64], dE, dE, [], fun x => match x with | .ret => ([4], [.bool], [.dead, .dead]) | _ => ([], [], [.dead, .dead])⟩
noncomputable def bDr : Code := loopAt Try.f66 0
def GDr (b : Bk) (s : List Int) (i : Int) : Tr SDr.End :=
 .ite (decide (i < (b.2.1.length : Int))) (.chk (inArr i b.2.1.length) (.ite (eqT w16 (b.2.1.getD i.toNat (dflt w16)) s) (.ret (.inr (.ret, encS [4] [.bool] [.dead, .dead] 20 (true, ()) ()))) (.ret (.inl (((), (), w (i + 1), ()), (b, s, ()))))))
  (.ret (.inr (.exit 0, encS [] [] [.dead, .dead] 20 () ())))
theorem rDr (b : Bk) (s : List Int) (i : Int) : (SDr.round (bodyK Try.prog (ctx []) L0 bDr) ((), (), i, ()) (b, s, ())).eval = (GDr b s i).eval := by kernel_rfl
def hasR (l : List (List Int)) (s : List Int) : Bool := l.any fun b => eqT w16 b s
theorem mDr (b : Bk) (s : List Int) (hl : b.2.1.length ≤ 9223372036854775807) : ∀ (m k : Nat), k + m = b.2.1.length →
  SDr.many (bodyK Try.prog (ctx []) L0 bDr) (m + 1) ((), (), (k : Int), ()) (b, s, ()) = if hasR (b.2.1.drop k) s = true then some (.ret, encS [4] [.bool] [.dead, .dead] 20 (true, ()) ()) else some (.exit 0, encS [] [] [.dead, .dead] 20 () ())
 | 0, k, h => by
  rw [List.drop_eq_nil_of_le (by omega), if_neg (by simp [hasR])]
  refine rmany_inr ((rDr b s _).trans ?_) 0
  unfold GDr
  rw [ite_f (decide_eq_false (by omega))]
  rfl
 | m + 1, k, h => by
  have h1 : k < b.2.1.length := by omega
  have e2 := List.drop_eq_getElem_cons h1
  cases hq : eqT w16 b.2.1[k] s with
  | true =>
   rw [if_pos (show hasR (b.2.1.drop k) s = true by unfold hasR; rw [e2, List.any_cons, hq, Bool.true_or])]
   refine rmany_inr ((rDr b s _).trans ?_) _
   unfold GDr
   rw [Int.toNat_natCast, ite_t (decide_eq_true (by omega)), chk_eval (inArr_of h1), getD_of h1, ite_t hq]
   rfl
  | false =>
   have e3 : hasR (b.2.1.drop k) s = hasR (b.2.1.drop (k + 1)) s := by unfold hasR; rw [e2, List.any_cons, hq, Bool.false_or]
   rw [e3]
   refine (rmany_inl (d := (((), (), ((k + 1 : Nat) : Int), ()), (b, s, ()))) ((rDr b s _).trans ?_) (m + 1)).trans (mDr b s hl m (k + 1) (by omega))
   unfold GDr
   rw [Int.toNat_natCast, ite_t (decide_eq_true (by omega)), chk_eval (inArr_of h1), getD_of h1, ite_f hq, w_succ h1 hl]
   rfl
def cDr (b : Bk) (i : Int) : Bool := decide (b.2.1.length ≤ 9223372036854775807) && decide (i = 0)
def FDr (c : Bk → Int → Bool) (h : Hw) (xs : HL SDr.Ts) (hs : HD SDr.Es) : Tr (Ex × St) :=
 .chk (c hs.1 xs.2.2.1) (.ite (h hs.1.2.1 hs.2.1) (.ret (.ret, encS [4] [.bool] [.dead, .dead] 20 (true, ()) ())) (.ret (.exit 0, encS [] [] [.dead, .dead] 20 () ())))
def LDr (c : Bk → Int → Bool) (h : Hw) : Loops := fun j st => if j = 2 then SDr.fn (FDr c h) st else .fail
theorem lDr : LoopOK Try.prog (LDr cDr hasR) bDr :=
 rloop_ok (L := LDr cDr hasR) (L' := L0) nil_sound (loopsOK_of (by kernel_rfl)) SDr (F := FDr cDr hasR) (i := 2) (by kernel_rfl) (fun _ => rfl) fun xs hs q h => by
  obtain ⟨u1, u2, i, u3⟩ := xs
  obtain ⟨b, s, u4⟩ := hs
  obtain ⟨h1, h2⟩ := Tr.chk_some h
  simp only [cDr, Bool.and_eq_true, decide_eq_true_eq] at h1
  obtain ⟨hl, e2⟩ := h1
  have e2 : i = ((0 : Nat) : Int) := e2
  subst e2
  refine ⟨_, (mDr b s hl b.2.1.length 0 (by omega)).trans ?_⟩
  rw [List.drop_zero]
  rcases Tr.ite_some h2 with ⟨hx, h3⟩ | ⟨hx, h3⟩
  ·have hx : hasR b.2.1 s = true := hx
   rw [if_pos hx]; exact congrArg some (Tr.ret_some h3)
  ·have hx : hasR b.2.1 s = false := hx
   rw [if_neg (by rw [hx]; simp)]; exact congrArg some (Tr.ret_some h3)
def TDr (c : Bk → Int → Bool) (h : Hw) (b : Bk) (s : List Int) : Tr nDd.Out := .chk (c b 0) (.ite (h b.2.1 s) (.ret ((true, ()), ())) (.ret ((false, ()), ())))
theorem tDr (c : Bk → Int → Bool) (h : Hw) (b : Bk) (s : List Int) : (fnP Try.prog (ctx []) (LDr c h) nDd Try.f66 (b, s, ()) ()).eval = (TDr c h b s).eval := by kernel_rfl
theorem hasR_eq (l : List (List Int)) (s : List Int) : hasR l s = hasW l s := by
 unfold hasR hasW
 induction l with
 | nil => rfl
 | cons b l ih =>
  rw [List.any_cons, List.any_cons, ih]
  have : eqT w16 b s = eqT w16 s b := by
   cases h : eqT w16 s b with
   | true => exact (eqT_iff w16 b s (by decide)).2 ((eqT_iff w16 s b (by decide)).1 h).symm
   | false =>
    cases h2 : eqT w16 b s with
    | false => rfl
    | true => rw [(eqT_iff w16 s b (by decide)).2 ((eqT_iff w16 b s (by decide)).1 h2).symm] at h; cases h
  rw [this]
theorem okDr : CSound Try.prog 66 (sDd hasW) ∧ CLocal (sDd hasW) :=
 pos_sound (L := LDr cDr hasR) nil_sound Try.func66 (by kernel_rfl) (loops1 (by kernel_rfl) lDr) fun xs hs hx hh hp => by
  obtain ⟨b, s, u⟩ := xs
  refine (tDr cDr hasR b s).trans ?_
  unfold TDr
  rw [chk_eval (by unfold cDr; rw [decide_eq_true hx.1.2.1.1]; rfl), hasR_eq]
  show _ = some ((hasW b.2.1 s, ()), ())
  cases hasW b.2.1 s <;> rfl
def cAr (R : Op → Bool) (ix : Ie) (hd : Hw) : List (Nat × CSpec) := [(55, sRt R), (103, sFi ix), (66, sDd hd)]
abbrev nAr : PSpec := ⟨[tB, tOp], [tB, i64], [], [], []⟩
def TAr (R : Op → Bool) (ix : Ie) (hd : Hw) (b : Bk) (x : Op) : Tr nAr.Out :=
 let i := ix b.1 x.2.1
 let M (e : Int) (L : List En) (r : List (List Int)) (g : Int) (o : List Int) : Tr nAr.Out := .ret (((L, r, g, o, ()), e, ()), ())
 let N (e : Int) : Tr nAr.Out := M e b.1 b.2.1 b.2.2.1 b.2.2.2.1
 let m5 : Tr nAr.Out := .ite (x.1 == 5) (.ite (decide (x.2.2.2.1 ≤ b.2.2.1)) (N 5) (M 0 b.1 b.2.1 x.2.2.2.1 x.2.2.1)) (N 0)
 let m4 : Tr nAr.Out := .ite (x.1 == 4) (.ite (hd b.2.1 x.2.2.1) (N 5) (.ite (decide ((b.2.1.length : Int) ≥ 200)) (N 7) (.chk (Vse.room (b.2.1.length + 1) 16) (M 0 b.1 (b.2.1 ++ [x.2.2.1]) b.2.2.1 b.2.2.2.1)))) m5
 let A := b.1.take i.toNat
 let B := (b.1.take b.1.length).drop (w (i + 1)).toNat
 let m23 : Tr nAr.Out := .ite (decide (i < 0)) (N 4) (.ite (x.1 == 2) (.chk (decide (0 ≤ i) && decide (i ≤ (b.1.length : Int))) (.chk (Vse.room (0 + (A.drop 0).length) 32) (.chk (decide (0 ≤ w (i + 1)) && (decide (w (i + 1) ≤ (b.1.length : Int)) && decide ((b.1.length : Int) ≤ (b.1.length : Int)))) (.chk (Vse.room ((A.drop 0).length + B.length) 32) (M 0 (A.drop 0 ++ B) b.2.1 b.2.2.1 b.2.2.2.1)))))
  (.chk (inArr i b.1.length) (M 0 (kyF b.1 i x.2.2.1) b.2.1 b.2.2.1 b.2.2.2.1)))
 .ite (!R x) (N 3) (.chk (Vse.room (0 + b.1.length) 32) (.chk (Vse.room (0 + b.2.1.length) 16)
  (.ite (x.1 == 1) (.ite (decide (i ≥ 0)) (N 5) (.ite (decide ((b.1.length : Int) ≥ 50)) (N 7) (.chk (Vse.room (b.1.length + 1) 32) (M 0 (b.1 ++ [(x.2.1, x.2.2.1, ())]) b.2.1 b.2.2.1 b.2.2.2.1)))) (.ite (x.1 == 2) (.ite (x.1 == 2) m23 m4) (.ite (x.1 == 3) m23 m4)))))
theorem tAr (R : Op → Bool) (ix : Ie) (hd : Hw) (b : Bk) (x : Op) : (fnP Try.prog (ctx (cAr R ix hd)) L0 nAr Try.f57 (b, x, ()) ()).eval = (TAr R ix hd b x).eval := by kernel_rfl
end Go.Proofs.Ytffdkniccaebmaa.Bok
end
section
set_option linter.unusedVariables false
set_option linter.unusedSimpArgs false
set_option maxRecDepth 100000
namespace Go.Proofs.Ytffdkniccaebmaa.Bok
open Go Vse Go.Proofs Gen
open Jnl (jT JD RJ Hop oE nOk sRc nRc)
open Sto (stT D)
abbrev kO (k : Nat) : List ETy := [.box (.prod (.ptr 1 []) (.prod (tBo 2 3 k) .unit)), .box (jT 4 5 k), .vec k tEnt, .vec k w16, .box (stT 6 k), .vec k bt, .vec k u8]
abbrev kR (k : Nat) : List ETy := [.box (.prod (.ptr 1 []) (.prod tB .unit)), .box (jT 2 3 k), .box (stT 4 k), .vec k bt, .vec k u8]
def hdO (h : JD) (b : Bk) : HD (kO 0) := (((), ((), (), b.2.2.1, b.2.2.2.1, ()), ()), h.1, b.1, b.2.1, h.2.1, h.2.2.1, h.2.2.2.1, ())
def hdR (h : JD) (b : Bk) : HD (kR 0) := (((), b, ()), h.1, h.2.1, h.2.2.1, h.2.2.2.1, ())
abbrev nDk : PSpec := ⟨[.ptr 0 [.fld 1], tOp], [i64], kO 0, kO 1, []⟩
theorem tDk (ix : Ie) (hd : Hw) (h : JD) (b : Bk) (x : Op) : (fnP Try.prog (ctx (cDn ix hd)) L0 nDk Try.f102 ((), x, ()) (hdO h b)).eval = ((GDn ix hd b x).bind fun r => (.ret ((r.1, ()), hdO h r.2) : Tr nDk.Out)).eval := by kernel_rfl
abbrev Aj := List Int → JD → Bool
abbrev Fj := List Int → JD → RJ
def cDo (p : Bk → Bool) (A : Bk → Op → Bk × Int) (P : Op → Rs) (pa : Aj) (ad : Fj) : List (Nat × CSpec) :=
 [(56, sAp p A), (52, sPu P), (45, .pos (Jnl.nJ [bs] [i64] 1) (fun xs h => pa xs.2.1 h) fun xs h => ad xs.2.1 h)]
abbrev nDo : PSpec := ⟨[.ptr 0 [], tOp], [i64], kR 0, kR 1, []⟩
def TDo (p : Bk → Bool) (A : Bk → Op → Bk × Int) (P : Op → Rs) (pa : Aj) (ad : Fj) (h : JD) (b : Bk) (x : Op) : Tr (Int × JD × Bk) :=
 .chk (p b) (.ite (!decide ((A b x).2 = 0)) (.ret ((A b x).2, h, b)) (.ite (!decide ((P x).2.1 = 0)) (.ret ((P x).2.1, h, b)) (.chk (pa (P x).1 h) (.ite (!decide ((ad (P x).1 h).1.1 = 0)) (.ret ((ad (P x).1 h).1.1, (ad (P x).1 h).2, b)) (.ret (0, (ad (P x).1 h).2, (A b x).1))))))
theorem tDo (p : Bk → Bool) (A : Bk → Op → Bk × Int) (P : Op → Rs) (pa : Aj) (ad : Fj) (h : JD) (b : Bk) (x : Op) :
  (fnP Try.prog (ctx (cDo p A P pa ad)) L0 nDo Try.f72 ((), x, ()) (hdR h b)).eval = ((TDo p A P pa ad h b x).bind fun r => (.ret ((r.1, ()), hdR r.2.1 r.2.2) : Tr nDo.Out)).eval := by kernel_rfl
abbrev nBo : PSpec := ⟨[.ptr 0 []], [tB], kR 0, kR 0, []⟩
theorem tBo' (p : Bk → Bool) (h : JD) (b : Bk) : (fnP Try.prog (ctx [(101, sCo p)]) L0 nBo Try.f77 ((), ()) (hdR h b)).eval = (.chk (p b) (.ret ((b, ()), hdR h b)) : Tr nBo.Out).eval := by kernel_rfl
def ofK (h : HD (kO 0)) : Bk := (h.2.2.1, h.2.2.2.1, h.1.2.1.2.2.1, h.1.2.1.2.2.2.1, ())
def jOf (h : HD (kO 0)) : JD := (h.2.1, h.2.2.2.2.1, h.2.2.2.2.2.1, h.2.2.2.2.2.2.1, ())
def sDk (p : Bk → Bool) (f : Op → Bk → Int × Bk) : CSpec := .pos nDk (fun _ h => p (ofK h)) fun xs h => (((f xs.2.1 (ofK h)).1, ()), hdO (jOf h) (f xs.2.1 (ofK h)).2)
abbrev tK (B : Ty) : Ty := .prod (.ptr 2 []) (.prod B .unit)
abbrev gE : List ETy := [.box (stT 1 2), .vec 2 u8, .box (jT 0 3 2), .vec 2 bt]
abbrev xE : List ETy := gE ++ [.box (tK tB), .dead]
abbrev rE : List ETy := [.box (stT 1 2), .vec 2 u8, .dead, .dead, .dead, .dead]
abbrev lbt : Ty := .imm true false bt
def SKo : RSpec := ⟨[6, 26, 27, 28], 49, [.ptr 4 [], lbt, i64, i64], gE ++ [.box (tK (tBo 6 7 1)), .dead, .vec 1 tEnt, .vec 1 w16],
 [.box (stT 1 1), .vec 1 u8, .box (jT 0 3 1), .vec 1 bt, .box (tK (.prod .nils (.prod .nils (.prod i64 (.prod w16 .unit))))), .vec 0 bt], [.pth 4 [.fld 1, .fld 0] tEnt, .pth 4 [.fld 1, .fld 1] w16],
 fun x => match x with | .ret => ([2, 3], [.nilp, i64], rE) | _ => ([6], [.ptr 4 []], xE)⟩
noncomputable def bKo : Code := loopAt Try.f68 0
def kst (h : JD) (b : Bk) : HD SKo.Es := (h.2.1, h.2.2.2.1, h.1, h.2.2.1, ((), ((), (), b.2.2.1, b.2.2.2.1, ()), ()), b.1, b.2.1, ())
def exK (h : JD) (b : Bk) : Ex × St := (.exit 0, encS [6] [.ptr 4 []] xE 49 ((), ()) (h.2.1, h.2.2.2.1, h.1, h.2.2.1, ((), b, ()), ()))
def erK (h : JD) : Ex × St := (.ret, encS [2, 3] [.nilp, i64] rE 49 ((), 9, ()) (h.2.1, h.2.2.2.1, ()))
abbrev Rf := List Int → Op × Int × Unit
def cKo (rd : Rf) (p : Bk → Bool) (f : Op → Bk → Int × Bk) : List (Nat × CSpec) := [(50, sRd rd), (102, sDk p f)]
def GKo (rd : Rf) (p : Bk → Bool) (f : Op → Bk → Int × Bk) (l : List (List Int)) (h : JD) (b : Bk) (n i : Int) : Tr SKo.End :=
 let x := l.getD i.toNat []
 .ite (decide (i < n)) (.chk (inArr i l.length) (.chk (okL x) (.ite (!decide ((rd x).2.1 = 0)) (.ret (.inr (erK h))) (.chk (p b) (.ite (!decide ((f (rd x).1 b).1 = 0)) (.ret (.inr (erK h))) (.ret (.inl (((), l, n, w (i + 1), ()), kst h (f (rd x).1 b).2))))))))
  (.ret (.inr (exK h b)))
theorem rKo (rd : Rf) (p : Bk → Bool) (f : Op → Bk → Int × Bk) (l : List (List Int)) (h : JD) (b : Bk) (n i : Int) :
  (SKo.round (bodyK Try.prog (ctx (cKo rd p f)) L0 bKo) ((), l, n, i, ()) (kst h b)).eval = (GKo rd p f l h b n i).eval := by kernel_rfl
end Go.Proofs.Ytffdkniccaebmaa.Bok
end
section
set_option linter.unusedVariables false
set_option linter.unusedSimpArgs false
set_option maxRecDepth 100000
namespace Go.Proofs.Ytffdkniccaebmaa.Bok
open Go Vse Go.Proofs Gen
open Jnl (jT JD RJ Hop oE nOk sRc nRc)
open Sto (stT D)
abbrev LL := List (List Int)
abbrev Cko := LL → Bk → Int → Int → Bool
def FKo (c : Cko) (bad : LL → Bool) (bk : LL → Bk) (xs : HL SKo.Ts) (hs : HD SKo.Es) : Tr (Ex × St) :=
 let h : JD := (hs.2.2.1, hs.1, hs.2.2.2.1, hs.2.1, ())
 let b : Bk := (hs.2.2.2.2.2.1, hs.2.2.2.2.2.2.1, hs.2.2.2.2.1.2.1.2.2.1, hs.2.2.2.2.1.2.1.2.2.2.1, ())
 .chk (c xs.2.1 b xs.2.2.1 xs.2.2.2.1) (.ite (bad xs.2.1) (.ret (erK h)) (.ret (exK h (bk xs.2.1))))
def LKo (c : Cko) (bad : LL → Bool) (bk : LL → Bk) : Loops := fun j st => if j = 6 then SKo.fn (FKo c bad bk) st else .fail
abbrev kE : List ETy := Sto.sE 1 ++ [.box (jT 0 3 1), .vec 1 bt, .box (tK tB)]
abbrev nKo : PSpec := ⟨[.ptr 0 []], [.ptr 4 [], i64], Sto.sE 0, kE, []⟩
abbrev HK := HD kE
def hK (h : Hop) (b : Bk) : HK := (h.1, h.2.1, h.2.2.1, h.2.2.2.1, ((), b, ()), ())
def bk0 : Bk := ([], [], 0, z16, ())
def cKp (p : D → Bool) (f : D → Hop) (pr : LL → Bool) : List (Nat × CSpec) :=
 [(42, .pos nOk (fun _ d => p d) fun _ d => (((), 0, ()), f d)), (48, .pos nRc (fun _ h => pr h.2.2.1) fun _ h => (((), ()), (h.1, h.2.1, h.2.2.1, h.2.2.2.1, h.2.2.1, ())))]
def TKo (p : D → Bool) (f : D → Hop) (pr : LL → Bool) (c : Cko) (bad : LL → Bool) (bk : LL → Bk) (d : D) : Tr nKo.Out :=
 let l := (f d).2.2.2.1
 .chk (p d) (.chk (pr l) (.chk (c l bk0 (l.length : Int) 0) (.ite (bad l) .fail (.ret (((), 0, ()), hK (f d) (bk l))))))
theorem tKo (p : D → Bool) (f : D → Hop) (pr : LL → Bool) (c : Cko) (bad : LL → Bool) (bk : LL → Bk) (d : D) : (fnP Try.prog (ctx (cKp p f pr)) (LKo c bad bk) nKo Try.f68 ((), ()) d).eval = (TKo p f pr c bad bk d).eval := by kernel_rfl
noncomputable def bPk : Code := loopAt Try.f74 0
abbrev pE : List ETy := kR 0 ++ [.dead, .vec 0 bt]
def SPk : RSpec := ⟨[0, 3, 12, 13, 14], 37, [.ptr 0 [], .vc 6 0, lOp, i64, i64], pE, kR 0 ++ [.vec 0 tOp], [.slot 3 bt], fun x => match x with | .ret => ([2], [i64], kR 0 ++ [.dead]) | _ => ([0, 3], [.ptr 0 [], .vc 6 0], pE)⟩
def hdP (h : JD) (b : Bk) (o : LL) : HD pE := (((), b, ()), h.1, h.2.1, h.2.2.1, h.2.2.2.1, o, ())
def GPk (P : Op → Rs) (h : JD) (b : Bk) (o : LL) (l : List Op) (n i : Int) : Tr SPk.End :=
 let x := l.getD i.toNat (dflt tOp)
 .ite (decide (i < n)) (.chk (inArr i l.length) (.ite (!decide ((P x).2.1 = 0)) (.ret (.inr (.ret, encS [2] [i64] (kR 0 ++ [.dead]) 37 ((P x).2.1, ()) (hdR h b)))) (.chk (Vse.room (o.length + 1) 24) (.ret (.inl (((), (), l, n, w (i + 1), ()), hdP h b (o ++ [(P x).1])))))))
  (.ret (.inr (.exit 0, encS [0, 3] [.ptr 0 [], .vc 6 0] pE 37 ((), (), ()) (hdP h b o))))
theorem rPk (P : Op → Rs) (h : JD) (b : Bk) (o : LL) (l : List Op) (n i : Int) : (SPk.round (bodyK Try.prog (ctx [(52, sPu P)]) L0 bPk) ((), (), l, n, i, ()) (hdP h b o)).eval = (GPk P h b o l n i).eval := by kernel_rfl
abbrev Cpk := LL → List Op → Int → Int → Bool
def FPk (c : Cpk) (f : List Op → LL) (xs : HL SPk.Ts) (hs : HD SPk.Es) : Tr (Ex × St) :=
 let h : JD := (hs.2.1, hs.2.2.1, hs.2.2.2.1, hs.2.2.2.2.1, ())
 .chk (c hs.2.2.2.2.2.1 xs.2.2.1 xs.2.2.2.1 xs.2.2.2.2.1) (.ret (.exit 0, encS [0, 3] [.ptr 0 [], .vc 6 0] pE 37 ((), (), ()) (hdP h hs.1.2.1 (f xs.2.2.1))))
def LPk (c : Cpk) (f : List Op → LL) : Loops := fun j st => if j = 3 then SPk.fn (FPk c f) st else .fail
abbrev nPk : PSpec := ⟨[.ptr 0 []], [i64], kR 0, kR 1, []⟩
def cPk (p : Bk → Bool) (os : Bk → List Op) (P : Op → Rs) (po : LL → Bool) (on : LL → JD → RJ) : List (Nat × CSpec) :=
 [(61, sOs p os), (52, sPu P), (44, .pos (Jnl.nJ [Gen.ls] [i64] 1) (fun xs _ => po xs.2.1) fun xs h => on xs.2.1 h)]
def TPk (p : Bk → Bool) (os : Bk → List Op) (c : Cpk) (f : List Op → LL) (po : LL → Bool) (on : LL → JD → RJ) (h : JD) (b : Bk) : Tr nPk.Out :=
 .chk (p b) (.chk (c [] (os b) ((os b).length : Int) 0) (.chk (po (f (os b))) (.ret (((on (f (os b)) h).1.1, ()), hdR (on (f (os b)) h).2 b))))
theorem tPk (p : Bk → Bool) (os : Bk → List Op) (P : Op → Rs) (c : Cpk) (f : List Op → LL) (po : LL → Bool) (on : LL → JD → RJ) (h : JD) (b : Bk) :
  (fnP Try.prog (ctx (cPk p os P po on)) (LPk c f) nPk Try.f74 ((), ()) (hdR h b)).eval = (TPk p os c f po on h b).eval := by kernel_rfl
end Go.Proofs.Ytffdkniccaebmaa.Bok
end
section
set_option linter.unusedVariables false
set_option linter.unusedSimpArgs false
set_option maxRecDepth 100000
namespace Go.Proofs.Ytffdkniccaebmaa.Bok
open Go Vse Go.Proofs Gen
open Jnl (jT JD RJ Hop oE nOk sRc nRc addF addP onF onP opP opOk opF okR)
open Sto (stT D)
theorem done_len (x : Op) (b : Bk) : (doneF x b).2.1.length ≤ b.1.length + 1 ∧ (doneF x b).2.2.1.length ≤ b.2.1.length + 1 := by
 unfold doneF
 split
 ·split
  ·exact ⟨Nat.le_succ _, Nat.le_succ _⟩
  split
  ·exact ⟨Nat.le_succ _, Nat.le_succ _⟩
  ·exact ⟨by rw [List.length_append]; exact Nat.le_refl _, Nat.le_succ _⟩
 split
 ·split
  ·refine ⟨?_, Nat.le_succ _⟩
   show (_ ++ _ : List En).length ≤ _
   rw [List.length_append, List.length_take, List.length_drop]; omega
  ·exact ⟨Nat.le_succ _, Nat.le_succ _⟩
 split
 ·split
  ·refine ⟨?_, Nat.le_succ _⟩
   show (List.set _ _ _ : List En).length ≤ _
   rw [List.length_set]; exact Nat.le_succ _
  ·exact ⟨Nat.le_succ _, Nat.le_succ _⟩
 split
 ·split
  ·exact ⟨Nat.le_succ _, Nat.le_succ _⟩
  split
  ·exact ⟨Nat.le_succ _, Nat.le_succ _⟩
  ·exact ⟨Nat.le_succ _, by show (_ ++ _ : List (List Int)).length ≤ _; rw [List.length_append]; exact Nat.le_refl _⟩
 split
 ·split
  ·exact ⟨Nat.le_succ _, Nat.le_succ _⟩
  ·exact ⟨Nat.le_succ _, Nat.le_succ _⟩
 ·exact ⟨Nat.le_succ _, Nat.le_succ _⟩
theorem okDk : CSound Try.prog 102 (sDk okB doneF) ∧ CLocal (sDk okB doneF) :=
 pos_sound (L := L0) (C := ctx (cDn idxE hasW)) (ctx_sound ⟨okFi, okDd, okDel, trivial⟩) Try.func102 (by kernel_rfl) (noLoopsL (by kernel_rfl)) fun xs hs hx hh hp => by
  obtain ⟨u, x, u'⟩ := xs
  have hp : okB (ofK hs) = true := hp
  refine (tDk idxE hasW (jOf hs) (ofK hs) x).trans ?_
  rw [Tr.eval_bind, GDn_eq x (ofK hs) hp]
  rfl
abbrev rd1 : Rf := rdT tk1
def reb : LL → Bk → Option Bk
 | [], b => some b
 | x :: l, b => if (rd1 x).2.1 = 0 ∧ (doneF (rd1 x).1 b).1 = 0 then reb l (doneF (rd1 x).1 b).2 else none
def outK (h : JD) : Option Bk → Ex × St
 | some b => exK h b
 | none => erK h
theorem mKo (h : JD) (l : LL) (hl : l.length ≤ 400000) (ha : l.all okL = true) : ∀ (m k : Nat) (b : Bk), k + m = l.length → b.1.length + m ≤ 1000000 → b.2.1.length + m ≤ 1000000 →
  SKo.many (bodyK Try.prog (ctx (cKo rd1 okB doneF)) L0 bKo) (m + 1) ((), l, (l.length : Int), (k : Int), ()) (kst h b) = some (outK h (reb (l.drop k) b))
 | 0, k, b, hk, h1, h2 => by
  rw [List.drop_eq_nil_of_le (by omega)]
  refine rmany_inr ((rKo rd1 okB doneF l h b _ _).trans ?_) 0
  unfold GKo
  dsimp only
  rw [ite_f (decide_eq_false (by omega))]
  rfl
 | m + 1, k, b, hk, h1, h2 => by
  have hk1 : k < l.length := by omega
  have hc : okL l[k] = true := List.all_eq_true.1 ha _ (List.getElem_mem hk1)
  have hb : okB b = true := by unfold okB; rw [decide_eq_true (show b.1.length ≤ 1000000 by omega), decide_eq_true (show b.2.1.length ≤ 1000000 by omega)]; rfl
  have hd := List.drop_eq_getElem_cons hk1
  obtain ⟨d1, d2⟩ := done_len (rd1 l[k]).1 b
  rw [hd, reb]
  by_cases he : (rd1 l[k]).2.1 = 0
  ·by_cases hf : (doneF (rd1 l[k]).1 b).1 = 0
   ·rw [if_pos ⟨he, hf⟩]
    refine (rmany_inl (d := (((), l, (l.length : Int), ((k + 1 : Nat) : Int), ()), kst h (doneF (rd1 l[k]).1 b).2)) ((rKo rd1 okB doneF l h b _ _).trans ?_) (m + 1)).trans (mKo h l hl ha m (k + 1) _ (by omega) (by omega) (by omega))
    unfold GKo
    dsimp only
    rw [Int.toNat_natCast, getD_of hk1, ite_t (decide_eq_true (by omega)), chk_eval (inArr_of hk1), chk_eval hc, ite_f (by rw [decide_eq_true he]; rfl), chk_eval hb, ite_f (by rw [decide_eq_true hf]; rfl), w_succ hk1 (by omega)]
    rfl
   ·rw [if_neg (fun hh => hf hh.2)]
    refine rmany_inr ((rKo rd1 okB doneF l h b _ _).trans ?_) _
    unfold GKo
    dsimp only
    rw [Int.toNat_natCast, getD_of hk1, ite_t (decide_eq_true (by omega)), chk_eval (inArr_of hk1), chk_eval hc, ite_f (by rw [decide_eq_true he]; rfl), chk_eval hb, ite_t (by rw [decide_eq_false hf]; rfl)]
    rfl
  ·rw [if_neg (fun hh => he hh.1)]
   refine rmany_inr ((rKo rd1 okB doneF l h b _ _).trans ?_) _
   unfold GKo
   dsimp only
   rw [Int.toNat_natCast, getD_of hk1, ite_t (decide_eq_true (by omega)), chk_eval (inArr_of hk1), chk_eval hc, ite_t (by rw [decide_eq_false he]; rfl)]
   rfl
def cKoF : Cko := fun l b n i => decide (n = (l.length : Int)) && (decide (i = 0) && (smF b bk0 && (decide (l.length ≤ 400000) && l.all okL)))
def badB (l : LL) : Bool := (reb l bk0).isNone
def bkF (l : LL) : Bk := (reb l bk0).getD bk0
theorem cKo_sound : CtxSound Try.prog (ctx (cKo rd1 okB doneF)) ∧ CtxLocal (ctx (cKo rd1 okB doneF)) := ctx_sound ⟨okRd, okDk, trivial⟩
theorem lKo : LoopOK Try.prog (LKo cKoF badB bkF) bKo :=
 rloop_ok (L := LKo cKoF badB bkF) (L' := L0) cKo_sound (loopsOK_of (by kernel_rfl)) SKo (F := FKo cKoF badB bkF) (i := 6) (by kernel_rfl) (fun _ => rfl) fun xs hs q hq => by
  obtain ⟨u1, l, n, i, u2⟩ := xs
  obtain ⟨sb, by_, jb, rs, ⟨u3, ⟨u4, u5, g, o, u6⟩, u7⟩, L, R, u8⟩ := hs
  obtain ⟨h1, h2⟩ := Tr.chk_some hq
  simp only [cKoF, Bool.and_eq_true, decide_eq_true_eq] at h1
  obtain ⟨e1, e2, e3, e4, e5⟩ := h1
  have e1 : n = (List.length (α := List Int) l : Int) := e1
  have e2 : i = ((0 : Nat) : Int) := e2
  have e3 : ((L, R, g, o, ()) : Bk) = bk0 := (sm_iff _ _).1 e3
  have eL : L = ([] : List En) := congrArg (·.1) e3
  have eR : R = ([] : LL) := congrArg (·.2.1) e3
  have eg : g = (0 : Int) := congrArg (·.2.2.1) e3
  have eo : o = z16 := congrArg (·.2.2.2.1) e3
  subst e1; subst e2; subst eL; subst eR; subst eg; subst eo
  refine ⟨_, (mKo (jb, sb, rs, by_, ()) l e4 e5 (List.length (α := List Int) l) 0 bk0 (by omega) (by show 0 + _ ≤ _; omega) (by show 0 + _ ≤ _; omega)).trans ?_⟩
  rw [List.drop_zero]
  rcases Tr.ite_some h2 with ⟨hx, h3⟩ | ⟨hx, h3⟩
  ·have hx : badB l = true := hx
   unfold badB at hx
   rw [Option.isNone_iff_eq_none.1 hx]
   exact congrArg some (Tr.ret_some h3)
  ·have hx : badB l = false := hx
   unfold badB at hx
   have h3 := Tr.ret_some h3
   cases hs : reb l bk0 with
   | none => rw [hs] at hx; cases hx
   | some p =>
    rw [← h3]
    show some (exK (jb, sb, rs, by_, ()) p) = some (exK (jb, sb, rs, by_, ()) (bkF l))
    rw [show bkF l = p by unfold bkF; rw [hs]; rfl]
def jF (d : D) : Hop := (opF d).2
def koP (d : D) : Bool := (opP d && opOk d) && (okR (jF d).2.2.2.1 && (decide ((jF d).2.2.2.1.length ≤ 400000) && !badB (jF d).2.2.2.1))
def koF (d : D) : HK := hK (jF d) (bkF (jF d).2.2.2.1)
theorem TKo_eq {d : D} (hp : koP d = true) : (TKo (fun d => opP d && opOk d) jF okR cKoF badB bkF d).eval = some (((), 0, ()), koF d) := by
 unfold koP at hp
 rw [Bool.and_eq_true, Bool.and_eq_true (okR _), Bool.and_eq_true (decide _), Bool.not_eq_true', decide_eq_true_eq] at hp
 obtain ⟨h1, h2, h3, h4⟩ := hp
 have h5 : (jF d).2.2.2.1.all okL = true := by unfold okR at h2; rw [Bool.and_eq_true] at h2; exact h2.2
 have h6 : cKoF (jF d).2.2.2.1 bk0 ((jF d).2.2.2.1.length : Int) 0 = true := by
  unfold cKoF
  rw [h5, decide_eq_true h3, (sm_iff bk0 bk0).2 rfl]; simp
 unfold TKo
 dsimp only
 rw [chk_eval h1, chk_eval h2, chk_eval h6, ite_f h4]
 rfl
def sKo : CSpec := .pos nKo (fun _ d => koP d) fun _ d => (((), 0, ()), koF d)
theorem okKo : CSound Try.prog 68 sKo ∧ CLocal sKo :=
 pos_sound (L := LKo cKoF badB bkF) (C := ctx (cKp (fun d => opP d && opOk d) jF okR)) (ctx_sound ⟨Jnl.okOk, Jnl.okRc, trivial⟩) Try.func68 (by kernel_rfl) (loops1 (by kernel_rfl) lKo) fun xs hs hx hh hp => (tKo _ jF okR cKoF badB bkF hs).trans (TKo_eq hp)
def jR (h : HD (kR 0)) : JD := (h.2.1, h.2.2.1, h.2.2.2.1, h.2.2.2.2.1, ())
def bR (h : HD (kR 0)) : Bk := h.1.2.1
def doF (h : JD) (b : Bk) (x : Op) : Int × JD × Bk :=
 if (applyF b x).2 = 0 then (if (addF (putF x).1 h).1.1 = 0 then (0, (addF (putF x).1 h).2, (applyF b x).1) else ((addF (putF x).1 h).1.1, (addF (putF x).1 h).2, b)) else ((applyF b x).2, h, b)
def doP (h : JD) (b : Bk) (x : Op) : Bool := okB b && (!decide ((applyF b x).2 = 0) || addP (putF x).1 h)
theorem apply_rt {b : Bk} {x : Op} (h : (applyF b x).2 = 0) : rtF x = true := by
 unfold applyF at h
 cases hr : rtF x with
 | true => rfl
 | false => rw [hr, if_neg (by simp)] at h; cases h
theorem TDo_eq (h : JD) (b : Bk) (x : Op) (hp : doP h b x = true) : (TDo okB applyF putF addP addF h b x).eval = some (doF h b x) := by
 unfold doP at hp
 rw [Bool.and_eq_true] at hp
 unfold TDo doF
 rw [chk_eval hp.1]
 by_cases h0 : (applyF b x).2 = 0
 ·have hr := apply_rt h0
  have hp2 : (putF x).2.1 = 0 := by unfold putF; rw [if_pos hr]
  have ha : addP (putF x).1 h = true := by have := hp.2; rw [decide_eq_true h0] at this; exact this
  rw [ite_f (by rw [decide_eq_true h0]; rfl), if_pos h0, ite_f (by rw [decide_eq_true hp2]; rfl), chk_eval ha]
  by_cases h1 : (addF (putF x).1 h).1.1 = 0
  ·rw [ite_f (by rw [decide_eq_true h1]; rfl), if_pos h1]; rfl
  ·rw [ite_t (by rw [decide_eq_false h1]; rfl), if_neg h1]; rfl
 ·rw [ite_t (by rw [decide_eq_false h0]; rfl), if_neg h0]; rfl
def sDo : CSpec := .pos nDo (fun xs h => doP (jR h) (bR h) xs.2.1) fun xs h => (((doF (jR h) (bR h) xs.2.1).1, ()), hdR (doF (jR h) (bR h) xs.2.1).2.1 (doF (jR h) (bR h) xs.2.1).2.2)
theorem okDo : CSound Try.prog 72 sDo ∧ CLocal sDo :=
 pos_sound (L := L0) (C := ctx (cDo okB applyF putF addP addF)) (ctx_sound ⟨okAp, okPu, Jnl.okAd, trivial⟩) Try.func72 (by kernel_rfl) (noLoopsL (by kernel_rfl)) fun xs hs hx hh hp => by
  obtain ⟨u, x, u'⟩ := xs
  refine (tDo okB applyF putF addP addF (jR hs) (bR hs) x).trans ?_
  rw [Tr.eval_bind, TDo_eq (jR hs) (bR hs) x hp]
  rfl
def sBo : CSpec := .pos nBo (fun _ h => okB (bR h)) fun _ h => ((bR h, ()), h)
theorem okBo : CSound Try.prog 77 sBo ∧ CLocal sBo :=
 pos_sound (L := L0) (C := ctx [(101, sCo okB)]) (ctx_sound ⟨okCo, trivial⟩) Try.func77 (by kernel_rfl) (noLoopsL (by kernel_rfl)) fun xs hs hx hh hp => (tBo' okB (jR hs) (bR hs)).trans (chk_eval hp _)
def cPkF : Cpk := fun o l n i => decide (o.length = 0) && (decide (n = (l.length : Int)) && (decide (i = 0) && (decide (l.length ≤ 400000) && l.all rtF)))
abbrev putL (l : List Op) : LL := l.map fun x => (putF x).1
theorem put_rt {x : Op} (h : rtF x = true) : (putF x).2.1 = 0 := by unfold putF; rw [if_pos h]
theorem mPk (h : JD) (b : Bk) (l : List Op) (hl : l.length ≤ 400000) (ha : l.all rtF = true) : ∀ (m k : Nat), k + m = l.length →
  SPk.many (bodyK Try.prog (ctx [(52, sPu putF)]) L0 bPk) (m + 1) ((), (), l, (l.length : Int), (k : Int), ()) (hdP h b (putL (l.take k))) = some (.exit 0, encS [0, 3] [.ptr 0 [], .vc 6 0] pE 37 ((), (), ()) (hdP h b (putL l)))
 | 0, k, hk => by
  rw [List.take_of_length_le (by omega)]
  refine rmany_inr ((rPk putF h b _ l _ _).trans ?_) 0
  unfold GPk
  dsimp only
  rw [ite_f (decide_eq_false (by omega))]
  rfl
 | m + 1, k, hk => by
  have h1 : k < l.length := by omega
  have hr : rtF l[k] = true := List.all_eq_true.1 ha _ (List.getElem_mem h1)
  have ht : putL (l.take k) ++ [(putF l[k]).1] = putL (l.take (k + 1)) := by unfold putL; rw [List.take_add_one, List.getElem?_eq_getElem h1, List.map_append]; rfl
  refine (rmany_inl (d := (((), (), l, (l.length : Int), ((k + 1 : Nat) : Int), ()), hdP h b (putL (l.take (k + 1))))) ((rPk putF h b _ l _ _).trans ?_) (m + 1)).trans (mPk h b l hl ha m (k + 1) (by omega))
  unfold GPk
  dsimp only
  rw [Int.toNat_natCast, getD_of h1, ite_t (decide_eq_true (by omega)), chk_eval (inArr_of h1), ite_f (by rw [decide_eq_true (put_rt hr)]; rfl), chk_eval (by simp only [Vse.room, decide_eq_true_eq, putL, List.length_map, List.length_take]; omega), ht, w_succ h1 (by omega)]
  rfl
theorem lPk : LoopOK Try.prog (LPk cPkF putL) bPk :=
 rloop_ok (L := LPk cPkF putL) (L' := L0) (ctx_sound (l := [(52, sPu putF)]) ⟨okPu, trivial⟩) (loopsOK_of (by kernel_rfl)) SPk (F := FPk cPkF putL) (i := 3) (by kernel_rfl) (fun _ => rfl) fun xs hs q hq => by
  obtain ⟨u1, u2, l, n, i, u3⟩ := xs
  obtain ⟨⟨u4, b, u5⟩, jb, sb, rs, by_, o, u6⟩ := hs
  obtain ⟨h1, h2⟩ := Tr.chk_some hq
  simp only [cPkF, Bool.and_eq_true, decide_eq_true_eq] at h1
  obtain ⟨e0, e1, e2, e3, e4⟩ := h1
  have e0 : o = ([] : LL) := List.eq_nil_of_length_eq_zero e0
  have e1 : n = (List.length (α := Op) l : Int) := e1
  have e2 : i = ((0 : Nat) : Int) := e2
  subst e0; subst e1; subst e2
  exact ⟨_, (mPk (jb, sb, rs, by_, ()) b l e3 e4 (List.length (α := Op) l) 0 (by omega)).trans (congrArg some (Tr.ret_some h2))⟩
def pkP (b : Bk) : Bool := okB b && (decide ((opsF b).length ≤ 400000) && (opsF b).all rtF)
def pkF (h : JD) (b : Bk) : RJ := onF (putL (opsF b)) h
theorem TPk_eq (h : JD) (b : Bk) (hp : pkP b = true) : (TPk okB opsF cPkF putL onP onF h b).eval = some (((pkF h b).1.1, ()), hdR (pkF h b).2 b) := by
 unfold pkP at hp
 rw [Bool.and_eq_true, Bool.and_eq_true (decide _), decide_eq_true_eq] at hp
 obtain ⟨h1, h2, h3⟩ := hp
 unfold TPk
 rw [chk_eval h1, chk_eval (by unfold cPkF; rw [h3, decide_eq_true h2]; simp), chk_eval (show onP (putL (opsF b)) = true by unfold onP putL; rw [List.length_map]; exact decide_eq_true (by omega))]
 rfl
def sPk : CSpec := .pos nPk (fun _ h => pkP (bR h)) fun _ h => (((pkF (jR h) (bR h)).1.1, ()), hdR (pkF (jR h) (bR h)).2 (bR h))
theorem okPk : CSound Try.prog 74 sPk ∧ CLocal sPk :=
 pos_sound (L := LPk cPkF putL) (C := ctx (cPk okB opsF putF onP onF)) (ctx_sound ⟨okOs, okPu, Jnl.okOn, trivial⟩) Try.func74 (by kernel_rfl) (loops1 (by kernel_rfl) lPk) fun xs hs hx hh hp => (tPk okB opsF putF cPkF putL onP onF (jR hs) (bR hs)).trans (TPk_eq (jR hs) (bR hs) hp)
end Go.Proofs.Ytffdkniccaebmaa.Bok
end
section
set_option linter.unusedVariables false
set_option linter.unusedSimpArgs false
set_option maxRecDepth 100000
namespace Go.Proofs.Ytffdkniccaebmaa.Bok
open Go Vse Go.Proofs Gen
open Fld (nameI)
theorem hasE_iff {l : List En} {s : ByteArray} : hasE l s = true ↔ s ∈ l.map (·.1) := by
 unfold hasE
 rw [List.any_eq_true, List.mem_map]
 constructor
 ·rintro ⟨e, he, h⟩; exact ⟨e, he, (MapKept.bytes_beq _ _).1 h⟩
 ·rintro ⟨e, he, h⟩; exact ⟨e, he, (MapKept.bytes_beq _ _).2 h⟩
theorem hasW_iff {l : List (List Int)} {s : List Int} : hasW l s = true ↔ s ∈ l := by
 unfold hasW
 rw [List.any_eq_true]
 constructor
 ·rintro ⟨b, hb, h⟩; rw [(eqT_iff w16 s b (by decide)).1 h]; exact hb
 ·intro h; exact ⟨s, h, eqw_self s⟩
structure Inv (b : Bk) : Prop where
 nd : (b.1.map (·.1)).Nodup
 nm : ∀ e ∈ b.1, nameI e.1 = true
 ln : b.1.length ≤ 50
 rd : b.2.1.Nodup
 rl : b.2.1.length ≤ 200
 g0 : 0 ≤ b.2.2.1
 g1 : b.2.2.1 ≤ 2147483647
 gz : b.2.2.1 = 0 → b.2.2.2.1 = z16
theorem inv0 : Inv bk0 := ⟨List.nodup_nil, fun e he => (by cases he), by decide, List.nodup_nil, by decide, by decide, by decide, fun _ => rfl⟩
theorem inv_ok {b : Bk} (h : Inv b) : okB b = true := by
 unfold okB
 have := h.ln
 have := h.rl
 rw [decide_eq_true (show b.1.length ≤ 1000000 by omega), decide_eq_true (show b.2.1.length ≤ 1000000 by omega)]; rfl
theorem rt_nm {x : Op} (h : rtF x = true) (h1 : x.1 = 1 ∨ x.1 = 2 ∨ x.1 = 3) : nameI x.2.1 = true := by
 unfold rtF at h
 split at h
 ·rw [Bool.and_eq_true] at h; exact h.1
 split at h
 ·rw [Bool.and_eq_true] at h; exact h.1
 split at h
 ·rw [Bool.and_eq_true] at h; exact h.1
 ·rename_i a b c
  rcases h1 with h1 | h1 | h1
  ·exact absurd h1 a
  ·exact absurd h1 c
  ·exact absurd h1 b
theorem rt_gen {x : Op} (h : rtF x = true) (h1 : x.1 = 5) : 1 ≤ x.2.2.2.1 ∧ x.2.2.2.1 ≤ 2147483647 := by
 obtain ⟨k, s, key, n, u⟩ := x
 have h1 : k = 5 := h1
 subst h1
 have h : ((s == e0) && (decide (n ≥ 1) && decide (n ≤ 2147483647))) = true := h
 simp only [Bool.and_eq_true, decide_eq_true_eq] at h
 exact ⟨h.2.1, h.2.2⟩
theorem nodup_snoc {α : Type} {l : List α} {x : α} (h : l.Nodup) (hx : x ∉ l) : (l ++ [x]).Nodup :=
 List.nodup_append.2 ⟨h, List.nodup_cons.2 ⟨by simp, List.nodup_nil⟩, fun a ha b hb hab => hx (by rw [List.mem_singleton.1 hb] at hab; rw [← hab]; exact ha)⟩
theorem inv_done {b : Bk} {x : Op} (h : Inv b) (hr : rtF x = true) : Inv (doneF x b).2 := by
 obtain ⟨L, r, g, o, u⟩ := b
 obtain ⟨k, s, key, n, u'⟩ := x
 unfold doneF
 dsimp only
 split
 ·rename_i h1
  split
  ·exact h
  split
  ·exact h
  ·rename_i h2 h3
   have hn : s ∉ L.map (·.1) := fun hm => h2 (hasE_iff.2 hm)
   have hln : L.length ≤ 50 := h.ln
   refine ⟨?_, ?_, ?_, h.rd, h.rl, h.g0, h.g1, h.gz⟩
   ·show ((L ++ [(s, key, ())]).map (·.1)).Nodup
    rw [List.map_append]
    exact nodup_snoc h.nd hn
   ·intro e he
    rcases List.mem_append.1 he with he | he
    ·exact h.nm e he
    ·rw [List.mem_singleton.1 he]; exact rt_nm hr (.inl h1)
   ·show (L ++ [(s, key, ())]).length ≤ 50
    rw [List.length_append, List.length_singleton]; omega
 split
 ·split
  ·have hsub : (L.take (L.findIdx fun e => e.1 == s) ++ L.drop ((L.findIdx fun e => e.1 == s) + 1)).Sublist L := by
    generalize (L.findIdx fun e => e.1 == s) = i
    have h1 : (L.drop (i + 1)).Sublist (L.drop i) := by
     rw [show L.drop (i + 1) = (L.drop i).drop 1 by rw [List.drop_drop]]
     exact List.drop_sublist _ _
    have h2 := List.Sublist.append (List.Sublist.refl (L.take i)) h1
    rwa [List.take_append_drop] at h2
   refine ⟨?_, ?_, ?_, h.rd, h.rl, h.g0, h.g1, h.gz⟩
   ·exact (hsub.map (·.1)).nodup h.nd
   ·intro e he; exact h.nm e (hsub.subset he)
   ·exact Nat.le_trans hsub.length_le h.ln
  ·exact h
 split
 ·split
  ·rename_i hq
   obtain ⟨a1, a2⟩ := has_at hq
   have hm : (L.set (L.findIdx fun e => e.1 == s) (s, key, ())).map (·.1) = L.map (·.1) := by
    rw [List.map_set]
    have e1 : (L.map (·.1))[L.findIdx fun e => e.1 == s]? = some s := by
     rw [List.getElem?_map, List.getElem?_eq_getElem a1, Option.map_some, a2]
    refine List.ext_getElem? fun i => ?_
    rw [List.getElem?_set]
    split
    ·rename_i hi
     subst hi
     rw [if_pos (by rw [List.length_map]; exact a1), e1]
    ·rfl
   refine ⟨?_, ?_, ?_, h.rd, h.rl, h.g0, h.g1, h.gz⟩
   ·show ((L.set _ _).map (·.1)).Nodup
    rw [hm]; exact h.nd
   ·intro e he
    rcases List.mem_or_eq_of_mem_set he with he | he
    ·exact h.nm e he
    ·rw [he]
     have := h.nm _ (List.getElem_mem a1)
     rw [a2] at this
     exact this
   ·show (L.set _ _).length ≤ 50
    rw [List.length_set]; exact h.ln
  ·exact h
 split
 ·split
  ·exact h
  split
  ·exact h
  ·rename_i h2 h3
   have hn : key ∉ r := fun hm => h2 (hasW_iff.2 hm)
   have hrl : r.length ≤ 200 := h.rl
   refine ⟨h.nd, h.nm, h.ln, nodup_snoc h.rd hn, ?_, h.g0, h.g1, h.gz⟩
   show (r ++ [key]).length ≤ 200
   rw [List.length_append, List.length_singleton]; omega
 split
 ·rename_i h5
  split
  ·exact h
  ·rename_i h6
   have := rt_gen hr h5
   have h61 : 1 ≤ n := this.1
   have h62 : n ≤ 2147483647 := this.2
   exact ⟨h.nd, h.nm, h.ln, h.rd, h.rl, by show 0 ≤ n; omega, h62, fun h0 => by have h0 : n = 0 := h0; omega⟩
 ·exact h
theorem inv_apply {b : Bk} (x : Op) (h : Inv b) : Inv (applyF b x).1 := by
 unfold applyF
 split
 ·rename_i hr
  split
  ·exact inv_done h hr
  ·exact h
 ·exact h
def apAll : List Op → Bk → Bk
 | [], b => b
 | x :: l, b => apAll l (applyF b x).1
theorem inv_all : ∀ (l : List Op) {b : Bk}, Inv b → Inv (apAll l b)
 | [], b, h => h
 | x :: l, b, h => inv_all l (inv_apply x h)
end Go.Proofs.Ytffdkniccaebmaa.Bok
end

/- The symbolic machine goes through a region as the model does. Nothing here is about one program. -/
import Derived.Test.YtodjkocikflmnaaE12
set_option linter.unusedVariables false
namespace Vse
open Go

def EnvRep (g : G) (env : List AV) (a : Act) : Prop := env.length = a.tmps.size ∧ ∀ i, VRep g (getV env i) (a.tmps.getD i undef)

structure SRep (g : G) (st : St) (a : Act) (w : World) : Prop where
  env : EnvRep g st.env a
  heap : HInv g st.heap w
  defers : a.defers = []

/-- what a called function's summary must keep -/
structure CSound (P : Program) (k : Nat) (c : CSpec) : Prop where
  enter : ∀ (args : Array Value) (w : World), (callFunc k args).run P w = .ok (.enter k args) w
  calls : ∀ (g : G) (H : Heap) (w : World) (vs : List AV) (rvs : List Value) (fr : Nat) (out : Out), HInv g H w → argsRep g vs rvs → freeAt H fr c.new = true →
    (c.core vs (ents H (c.ids vs H)) fr).eval = some out →
    Calls P k rvs.toArray w fun e w' => ∃ rv g', e = .returned rv ∧ g.le g' ∧ HInv g' (upd H out.2) w' ∧ VRep g' out.1 rv

def CtxSound (P : Program) (C : Ctx) : Prop := ∀ k c, C k = some c → CSound P k c

section
variable {P : Program} {C : Ctx}

theorem setV_length : ∀ (env : List AV) (d : Nat) (v : AV), (setV env d v).length = env.length
  | [], _, _ => rfl
  | _ :: _, 0, _ => rfl
  | _ :: l, d + 1, v => by simp [setV, setV_length l]

theorem getV_setV : ∀ (env : List AV) (d i : Nat) (v : AV), getV (setV env d v) i = if i = d ∧ d < env.length then v else getV env i
  | [], d, i, v => by simp [setV]
  | a :: l, 0, i, v => by cases i <;> simp [setV, getV]
  | a :: l, d + 1, 0, v => by simp [setV, getV]
  | a :: l, d + 1, i + 1, v => by simp [setV, getV, getV_setV l]

theorem EnvRep.mono {g g' : G} (h : g.le g') {env : List AV} {a : Act} (hr : EnvRep g env a) : EnvRep g' env a :=
  ⟨hr.1, fun i => VRep_mono h (hr.2 i)⟩

theorem EnvRep.put {g : G} {env : List AV} {a : Act} (hr : EnvRep g env a) (d : Option Nat) {v : AV} {rv : Value} (hv : VRep g v rv) : EnvRep g (putV env d v) (a.put d rv) := by
  cases d with
  | none => exact hr
  | some d =>
    refine ⟨by simp [putV, setV_length, Act.put, hr.1], fun i => ?_⟩
    have h0 := hr.2 i
    simp only [putV, Act.put, getV_setV, Array.getD_eq_getD_getElem?, Array.getElem?_setIfInBounds] at h0 ⊢
    by_cases hid : i = d
    · subst hid
      by_cases hlt : i < env.length
      · have : i < a.tmps.size := by rw [← hr.1]; exact hlt
        simp only [hlt, this, and_self, if_true, Option.getD_some]
        exact hv
      · have : ¬ i < a.tmps.size := by rw [← hr.1]; exact hlt
        have hn : a.tmps[i]? = none := Array.getElem?_eq_none (by omega)
        rw [hn] at h0
        simp only [hlt, this, and_false, if_false, if_true]
        exact h0
    · rw [if_neg (fun h => hid h.1), if_neg (fun h => hid h.symm)]
      exact h0

theorem put_defers (a : Act) (d : Option Nat) (v : Value) : (a.put d v).defers = a.defers := by cases d <;> rfl

theorem ev_rep {g : G} {env : List AV} {a : Act} (hr : EnvRep g env a) (o : Operand) : VRep g (ev env o) (a.eval o) := by
  cases o with
  | tmp t => exact hr.2 t
  | const v => exact ofVal_spec g v
  | global i => trivial
  | func f =>
    refine (VRep_v (by simp)).2 ?_
    simp only [TRep, Ty.agg, Ty.sk, Sk.agg, Bool.false_eq_true, if_false, Rep]
    exact ⟨#[], rfl, rfl⟩

theorem evs_rep {g : G} {env : List AV} {a : Act} (hr : EnvRep g env a) : ∀ os : List Operand, argsRep g (evs env os) (os.map a.eval)
  | [] => rfl
  | o :: os => ⟨_, _, rfl, ev_rep hr o, evs_rep hr os⟩

theorem argsRep_append {g : G} : ∀ {vs us : List AV} {rs ss : List Value}, argsRep g vs rs → argsRep g us ss → argsRep g (vs ++ us) (rs ++ ss)
  | [], us, rs, ss, h, h' => by simp only [argsRep] at h; subst h; exact h'
  | a :: vs, us, rs, ss, ⟨v, r, h1, h2, h3⟩, h' => by subst h1; exact ⟨v, r ++ ss, rfl, h2, argsRep_append h3 h'⟩

theorem caps_rep {g : G} : ∀ {c : Ty} {x : c.den} {l : List AV} {vs : List Value}, caps c x = some l → Rep.RepC g c x vs → argsRep g l vs := by
  intro c
  induction c with
  | unit =>
    intro x l vs h hr
    simp only [caps, Option.some.injEq] at h
    subst h
    exact hr
  | prod a b iha ihb =>
    intro x l vs h hr
    simp only [caps, Option.bind_eq_some_iff] at h
    obtain ⟨l', hl', h⟩ := h
    simp only [Option.some.injEq] at h
    subst h
    obtain ⟨v, r, rfl, h1, h2⟩ := hr
    have h1 : TRep g a x.1 v := h1
    exact ⟨v, r, rfl, (VRep_v (TRep_ne h1)).2 h1, ihb hl' h2⟩
  | _ => intro x l vs h; simp [caps] at h

theorem isFree_spec : ∀ {H : Heap} {n : Nat}, isFree H n = true → getE H n = .free ∧ n < H.length
  | [], n, h => by simp [isFree] at h
  | e :: H, 0, h => by cases e <;> simp_all [isFree, getE]
  | e :: H, n + 1, h => by
    have : isFree H n = true := by cases e <;> exact h
    obtain ⟨h1, h2⟩ := isFree_spec this
    exact ⟨h1, by simpa using h2⟩

theorem freeAt_one {H : Heap} {fr n : Nat} (h : freeAt H fr n = true) : n = 0 ∨ (getE H fr = .free ∧ fr < H.length) := by
  cases n with
  | zero => exact .inl rfl
  | succ n =>
    simp only [freeAt, Bool.and_eq_true] at h
    exact .inr (isFree_spec h.1)

theorem opT_sound (hC : CtxSound P C) {g : G} {st st' : St} {a : Act} {w : World} {o : Oper} {fr : Nat} {next : Act → World → Prop} {Q : Exit → Act → World → Prop}
    (hs : SRep g st a w) (he : (opT P C o fr st).eval = some st') (hn : ∀ g' a' w', g.le g' → SRep g' st' a' w' → next a' w') : o.wp P a w next Q := by
  have fin : ∀ (out : Out) (rv : Value) (w' : World) (g' : G), g.le g' → HInv g' (upd st.heap out.2) w' → VRep g' out.1 rv → st' = ⟨putV st.env o.dst out.1, upd st.heap out.2⟩ → next (a.put o.dst rv) w' := by
    rintro out rv w' g' hle hI hv rfl
    exact hn g' _ _ hle ⟨(hs.env.mono hle).put o.dst hv, hI, by rw [put_defers]; exact hs.defers⟩
  unfold opT at he
  obtain ⟨out, hout, he⟩ := Tr.bind_some he
  have := Tr.ret_some he
  unfold outT at hout
  split at hout
  · rename_i hcall
    split at hout
    · rename_i k vs hco
      split at hout
      · rename_i c hc
        split at hout
        · rename_i hfree
          unfold callOf at hco
          split at hco
          · rename_i f args ats hop
            split at hco
            · rename_i k' c' x hev
              split at hco
              · rename_i l hl
                simp only [Option.some.injEq, Prod.mk.injEq] at hco
                obtain ⟨rfl, rfl⟩ := hco
                have hf := ev_rep hs.env f
                rw [hev] at hf
                have hf := (VRep_v (by simp)).1 hf
                simp only [TRep, Ty.agg, Ty.sk, Sk.agg, Bool.false_eq_true, if_false, Rep] at hf
                obtain ⟨cs, hf, hcs⟩ := hf
                simp only [List.cons.injEq, and_true] at hf
                have hargs := argsRep_append (evs_rep hs.env args.toList) (caps_rep hl hcs)
                have hsound := hC _ _ hc
                have hrun : (execOp a.eval o).run P w = .ok (.enter k' (args.toList.map a.eval ++ cs.toList).toArray) w := by
                  unfold execOp
                  rw [hop]
                  simp only [resolve, hf, Deferred.ofValue, Sem.run_bind, Sem.run_pure, Result.andThen_ok, invoke]
                  rw [hsound.enter]
                  congr 2
                  apply Array.ext'
                  simp
                unfold Oper.wp
                rw [hrun, Oper.upon_enter]
                refine (hsound.calls g st.heap w _ _ fr out hs.heap hargs hfree hout).mono ?_
                rintro e w' ⟨rv, g', rfl, hle, hI, hv⟩
                exact fin out rv w' g' hle hI hv this.symm
              · cases hco
            · cases hco
          · cases hco
        · exact (Tr.fail_some hout).elim
      · exact (Tr.fail_some hout).elim
    · exact (Tr.fail_some hout).elim
  · rename_i hcall
    split at hout
    · rename_i hfree
      obtain ⟨nx, rv, w', g', h1, h2, h3, h4, h5⟩ := core_sound hs.heap (by simpa using hcall) (fun _ => rfl) (evs_rep hs.env (opArgs o.op)) (freeAt_one hfree) hout
      unfold Oper.wp
      rw [h1]
      rcases h2 with rfl | ⟨rfl, rfl⟩
      · rw [Oper.upon_value]; exact fin out rv w' g' h3 h4 h5 this.symm
      · rw [Oper.upon_skip]; exact fin out undef w' g' h3 h4 h5 this.symm
    · exact (Tr.fail_some hout).elim

theorem getD_bool {tmps : Array Value} {d : Nat} {b : Bool} (h : tmps.getD d undef = .bool b) : tmps[d]? = some (.bool b) := by
  unfold Array.getD at h
  split at h
  · rename_i hd; rw [Array.getElem?_eq_getElem hd]; rw [← h]; rfl
  · cases h

theorem stepT_sound' (hC : CtxSound P C) {g : G} {st st' : St} {a : Act} {w : World} {ops : Array Oper} {o : Oper} {fr : Nat} {Q : Exit → Act → World → Prop} {K : Act → World → Prop}
    (hs : SRep g st a w) (he : (stepT P C ops.toList o fr st).eval = some st') (hn : ∀ g' a' w', g.le g' → SRep g' st' a' w' → K a' w') :
    if Region.wanted o (yielded ops a.tmps) then o.wp P a w K Q ∨ (o.asks P a w ∧ LetsOut Q) else K (a.put o.dst undef) w := by
  unfold stepT at he
  split at he
  · rename_i hg
    rw [if_pos (by simp [Region.wanted, hg])]
    exact .inl (opT_sound hC hs he hn)
  · rename_i j want hg
    split at he
    · rename_i d hd
      have hd' : (ops[j]?).bind (·.dst) = some d := by
        unfold dstOf at hd
        simpa using hd
      have hslot := hs.env.2 d
      split at he
      · rename_i b hb
        rw [hb] at hslot
        have hslot := (VRep_v (by simp)).1 hslot
        rw [TRep_bool] at hslot
        have hy : yielded ops a.tmps j = some b := by
          unfold yielded
          rw [hd']
          simp only [Option.bind_some, getD_bool hslot]
        have hw : Region.wanted o (yielded ops a.tmps) = (b == want) := by
          simp only [Region.wanted, hg, hy]
          cases b <;> cases want <;> rfl
        have hset : SRep g ⟨setV st.env d (.v .bool b), st.heap⟩ a w := by
          have hb' : EnvRep g (setV st.env d (.v .bool b)) a := by
            refine ⟨by rw [setV_length]; exact hs.env.1, fun i => ?_⟩
            rw [getV_setV]
            split
            · rename_i hi
              rw [hi.1]
              refine (VRep_v (by simp)).2 (TRep_bool.2 hslot)
            · exact hs.env.2 i
          exact ⟨hb', hs.heap, hs.defers⟩
        have hskip : SRep g ⟨putV (setV st.env d (.v .bool b)) o.dst AV.none, st.heap⟩ (a.put o.dst undef) w :=
          ⟨hset.env.put o.dst ⟨#[], rfl, rfl⟩, hset.heap, by rw [put_defers]; exact hs.defers⟩
        rw [hw]
        rcases Tr.ite_some he with ⟨rfl, he⟩ | ⟨rfl, he⟩
        · cases want with
          | true => rw [if_pos (show (true == true) = true from rfl)]; exact .inl (opT_sound hC hset he hn)
          | false =>
            rw [if_neg (by simp)]
            have := Tr.ret_some he; subst this
            exact hn g _ _ (G.le.refl g) hskip
        · cases want with
          | false => rw [if_pos (show (false == false) = true from rfl)]; exact .inl (opT_sound hC hset he hn)
          | true =>
            rw [if_neg (by simp)]
            have := Tr.ret_some he; subst this
            exact hn g _ _ (G.le.refl g) hskip
      · rename_i l hl
        rw [hl] at hslot
        obtain ⟨vs, hv, _⟩ := hslot
        have hy : yielded ops a.tmps j = none := by
          unfold yielded
          rw [hd']
          simp only [Option.bind_some]
          unfold Array.getD at hv
          split at hv
          · rename_i hdl
            have : a.tmps[d]? = some (.tuple vs) := by rw [Array.getElem?_eq_getElem hdl, ← hv]; rfl
            rw [this]
          · rename_i hdl
            rw [Array.getElem?_eq_none (by omega)]
        have hw : Region.wanted o (yielded ops a.tmps) = false := by
          simp only [Region.wanted, hg, hy]
          cases want <;> rfl
        rw [hw, if_neg (by simp)]
        have := Tr.ret_some he; subst this
        exact hn g _ _ (G.le.refl g) ⟨hs.env.put o.dst ⟨#[], rfl, rfl⟩, hs.heap, by rw [put_defers]; exact hs.defers⟩
      · exact (Tr.fail_some he).elim
    · exact (Tr.fail_some he).elim

theorem stepT_sound (hC : CtxSound P C) {g : G} {st st' : St} {a : Act} {w : World} {ops : Array Oper} {o : Oper} {rest : List Oper} {fr : Nat} {Q : Exit → Act → World → Prop}
    (hs : SRep g st a w) (he : (stepT P C ops.toList o fr st).eval = some st') (hn : ∀ g' a' w', g.le g' → SRep g' st' a' w' → wpList P ops Q rest a' w') : wpList P ops Q (o :: rest) a w :=
  stepT_sound' hC hs he hn

theorem opsT_sound (hC : CtxSound P C) {ops : Array Oper} {Q : Exit → Act → World → Prop} : ∀ {l : List (Nat × Oper)} {g : G} {st st' : St} {a : Act} {w : World},
    SRep g st a w → (opsT P C ops.toList l st).eval = some st' → (∀ g' a' w', g.le g' → SRep g' st' a' w' → Q .normal a' w') → wpList P ops Q (l.map (·.2)) a w
  | [], g, st, st', a, w, hs, he, hn => by
    have := Tr.ret_some he; subst this
    exact hn g a w (G.le.refl g) hs
  | (fr, o) :: l, g, st, st', a, w, hs, he, hn => by
    obtain ⟨st1, h1, h2⟩ := Tr.bind_some he
    exact stepT_sound hC hs h1 fun g' a' w' hle hs' => opsT_sound hC hs' h2 fun g'' a'' w'' hle' hs'' => hn g'' a'' w'' (hle.trans hle') hs''

theorem bases_map : ∀ (os : List Oper) (n : Nat), (bases C os n).map (·.2) = os
  | [], _ => rfl
  | o :: os, n => by simp [bases, bases_map os]

theorem widen_rep {g : G} {st : St} {a : Act} {w : World} (hs : SRep g st a w) (n : Nat) : SRep g (widen st n) a w := by
  cases n with
  | zero => exact hs
  | succ n => exact ⟨hs.env, hs.heap.widen (n + 1), hs.defers⟩

theorem region_sound (hC : CtxSound P C) {g : G} {st st' : St} {a : Act} {w : World} {ops : Array Oper} {id : Nat} {Q : Exit → Act → World → Prop} {n : Nat}
    (hs : SRep g st a w) (he : (opsT P C ops.toList (bases C ops.toList st.heap.length) (widen st n)).eval = some st')
    (hn : ∀ g' a' w', g.le g' → SRep g' st' a' w' → Q .normal a' w') : (Code.region id ops false).wp P Q a w := by
  refine wp_region_list ?_
  have := opsT_sound hC (widen_rep hs n) he hn
  rwa [bases_map] at this

end
end Vse

/- Loops that are simply run, round by round, up to a bound. Nothing here is about one program. -/
import Derived.Test.YtodjkocikflmnaaE28
set_option linter.unusedVariables false
namespace Vse
open Go

/-- behind a round: what looks into the round's own entries is forgotten, and those entries -/
def cutA (n : Nat) (st : St) : St := ⟨st.env.map fun a => if a.under n then a else AV.und, st.heap.take n⟩

def heapUnder (n : Nat) (H : Heap) : Bool := H.all fun e => e.under n

theorem getV_cut (n : Nat) : ∀ (env : List AV) (i : Nat), getV (env.map fun a => if a.under n then a else AV.und) i = getV env i ∨ getV (env.map fun a => if a.under n then a else AV.und) i = AV.und
  | [], _ => .inl rfl
  | a :: l, 0 => by
    simp only [List.map_cons, getV]
    split
    · exact .inl rfl
    · exact .inr rfl
  | a :: l, i + 1 => by simpa only [List.map_cons, getV] using getV_cut n l i

theorem cutA_env {g : G} {env : List AV} {a : Act} (h : EnvRep g env a) (n : Nat) : EnvRep g (env.map fun a => if a.under n then a else AV.und) a := by
  refine ⟨by rw [List.length_map]; exact h.1, fun i => ?_⟩
  rcases getV_cut n env i with e | e
  · rw [e]; exact h.2 i
  · rw [e]; trivial

theorem cutA_all (n : Nat) (env : List AV) : ((env.map fun a => if a.under n then a else AV.und).all fun a => a.under n) = true := by
  rw [List.all_map, List.all_eq_true]
  intro a _
  show (if a.under n = true then a else AV.und).under n = true
  split
  · assumption
  · rfl

theorem keep_all : ∀ (env : List AV) (i : Nat) (live : List Nat), (∀ j, j < env.length → live.contains (i + j) = true) → keep live i env = env
  | [], _, _, _ => rfl
  | a :: l, i, live, h => by
    have h0 := h 0 (by simp)
    simp only [Nat.add_zero] at h0
    simp only [keep, h0, if_true]
    rw [keep_all l (i + 1) live fun j hj => by
      have := h (j + 1) (by simpa using hj)
      rwa [show i + 1 + j = i + (j + 1) by omega]]

theorem cutA_rep {g g2 : G} {n : Nat} {st : St} {a : Act} {w : World} (hfree : ∀ e, n ≤ e → g.sh e = .free) (hle : g.le g2) (h : SRep g2 st a w) (hc : heapUnder n (st.heap.take n) = true) :
    ∃ g3, g.le g3 ∧ SRep g3 (cutA n st) a w := by
  let st1 : St := ⟨st.env.map fun a => if a.under n then a else AV.und, st.heap⟩
  have h1 : SRep g2 st1 a w := ⟨cutA_env h.env n, h.heap, h.defers⟩
  have hk : keep (List.range st1.env.length) 0 st1.env = st1.env := keep_all _ _ _ fun j hj => by simpa using hj
  have e : cutSt (List.range st1.env.length) n st1 = cutA n st := by
    unfold cutSt
    rw [hk]
    rfl
  obtain ⟨g3, q1, q2⟩ := cut_rep (List.range st1.env.length) hfree hle h1 (by
    rw [e]
    simp only [cutOk, Bool.and_eq_true]
    exact ⟨cutA_all n _, hc⟩)
  rw [e] at q2
  exact ⟨g3, q1, q2⟩

/-- the loop's rounds, at most so many -/
def unroll (body : St → Tr (Ex × St)) (n0 : Nat) : Nat → St → Tr (Ex × St)
  | 0, _ => .fail
  | n + 1, st => (body st).bind fun r => if heapUnder n0 (r.2.heap.take n0) then (match r.1 with
    | .normal => unroll body n0 n (cutA n0 r.2)
    | x => .ret (x, cutA n0 r.2)) else .fail

section
variable {P : Program} {C : Ctx} {L : Loops}

theorem unroll_sound (hC : CtxSound P C ∧ CtxLocal C) {c : Code} (hl : LoopsOK P L c) {n0 n : Nat} {g : G} {st st' : St} {a : Act} {w : World} {x : Ex} {Q : Exit → Act → World → Prop}
    (hs : SRep g st a w) (hn0 : st.heap.length ≤ n0) (he : (unroll (bodyK P C L c) n0 n st).eval = some (x, st')) (hn : ∀ g' a' w', g.le g' → SRep g' st' a' w' → Q x.out a' w') :
    (Code.loop c).wp P Q a w := by
  have hfree := free_past hs hn0
  refine wp_loop_ghost (fun m a w => ∃ g1 s, g.le g1 ∧ SRep g1 s a w ∧ (unroll (bodyK P C L c) n0 m s).eval = some (x, st')) n ⟨g, st, G.le.refl g, hs, he⟩ ?_
  rintro m a w ⟨g1, s, hle, hs1, he1⟩
  cases m with
  | zero => exact (Tr.fail_some he1).elim
  | succ m =>
    obtain ⟨r, h1, h2⟩ := Tr.bind_some he1
    obtain ⟨y, s2⟩ := r
    refine code_sound hC.1 hC.2 c hl hs1 (bodyK_ok h1) ?_
    intro g2 a' w' hle2 hs2
    simp only at h2
    split at h2
    · rename_i hc
      obtain ⟨g3, q1, q2⟩ := cutA_rep hfree (hle.trans hle2) hs2 hc
      cases y with
      | normal => exact ⟨m, Nat.lt_succ_self m, g3, _, q1, q2, h2⟩
      | exit i =>
        have := Tr.ret_some h2
        simp only [Prod.mk.injEq] at this
        obtain ⟨rfl, rfl⟩ := this
        exact hn _ _ _ q1 q2
      | ret =>
        have := Tr.ret_some h2
        simp only [Prod.mk.injEq] at this
        obtain ⟨rfl, rfl⟩ := this
        exact hn _ _ _ q1 q2
    · exact (Tr.fail_some h2).elim

/-- a loop that is simply run -/
def runLoop (P : Program) (C : Ctx) (L : Loops) (n : Nat) (c : Code) (st : St) : Tr (Ex × St) := unroll (bodyK P C L c) st.heap.length n st

theorem runLoop_ok {L' : Loops} (hC : CtxSound P C ∧ CtxLocal C) {c : Code} (hl : LoopsOK P L' c) {i n : Nat} (hi : firstReg c = some i) (hL : ∀ st, L i st = runLoop P C L' n c st) : LoopOK P L c := by
  intro j hj g st a w x st' Q hs he hn
  rw [hi] at hj
  cases hj
  rw [hL] at he
  exact unroll_sound hC hl hs (Nat.le_refl _) he hn

/-- the first regions of all loops, those within loops, too -/
def regsOf : Code → List Nat
  | .seq a b => regsOf a ++ regsOf b
  | .cond _ a b => regsOf a ++ regsOf b
  | .block _ c => regsOf c
  | .loop c => (firstReg c).toList ++ regsOf c
  | _ => []

/-- all loops are run, of so many rounds at most -/
def autoL (P : Program) (C : Ctx) (n : Nat) : Code → Loops
  | .seq a b => fun i st => if (regsOf a).contains i then autoL P C n a i st else autoL P C n b i st
  | .cond _ a b => fun i st => if (regsOf a).contains i then autoL P C n a i st else autoL P C n b i st
  | .block _ c => autoL P C n c
  | .loop c => fun i st => if firstReg c = some i then runLoop P C (autoL P C n c) n c st else autoL P C n c i st
  | _ => fun _ _ => .fail

theorem autoL_ok (hC : CtxSound P C ∧ CtxLocal C) (n : Nat) : ∀ (c : Code) (L : Loops), (regsOf c).Nodup → (∀ i ∈ regsOf c, ∀ st, L i st = autoL P C n c i st) → LoopsOK P L c := by
  intro c
  induction c with
  | seq a b iha ihb =>
    intro L hd h
    simp only [regsOf, List.nodup_append] at hd
    refine ⟨iha L hd.1 fun i hi st => ?_, ihb L hd.2.1 fun i hi st => ?_⟩
    · rw [h i (by simp [regsOf, hi]) st]; simp [autoL, hi]
    · rw [h i (by simp [regsOf, hi]) st]
      have : ¬ i ∈ regsOf a := fun h' => hd.2.2 i h' i hi rfl
      simp [autoL, this]
  | cond o a b iha ihb =>
    intro L hd h
    simp only [regsOf, List.nodup_append] at hd
    refine ⟨iha L hd.1 fun i hi st => ?_, ihb L hd.2.1 fun i hi st => ?_⟩
    · rw [h i (by simp [regsOf, hi]) st]; simp [autoL, hi]
    · rw [h i (by simp [regsOf, hi]) st]
      have : ¬ i ∈ regsOf a := fun h' => hd.2.2 i h' i hi rfl
      simp [autoL, this]
  | block i a iha => intro L hd h; exact iha L hd h
  | loop a iha =>
    intro L hd h
    simp only [regsOf, List.nodup_append] at hd
    intro j hj
    refine runLoop_ok (L' := autoL P C n a) hC (iha _ hd.2.1 fun _ _ _ => rfl) (i := j) (n := n) hj (fun st => ?_) j hj
    rw [h j (by simp [regsOf, hj]) st]
    simp [autoL, hj]
  | _ => intro _ _ _; trivial

/-- rounds whose ends are known -/
def LSpec.iter (S : LSpec) (G : HL S.Ts → HD S.Es → Tr S.End) : Nat → HL S.Ts → HD S.Es → Tr (Ex × St)
  | 0, _, _ => .fail
  | n + 1, xs, hs => (G xs hs).bind fun r => match r with
    | .inl d => S.iter G n d.1 d.2
    | .inr r => .ret r

theorem iter_many {S : LSpec} {body : St → Tr (Ex × St)} {G : HL S.Ts → HD S.Es → Tr S.End} (h : ∀ xs hs r, (G xs hs).eval = some r → (S.round body xs hs).eval = some r) :
    ∀ (n : Nat) (xs : HL S.Ts) (hs : HD S.Es) (r : Ex × St), (S.iter G n xs hs).eval = some r → S.many body n xs hs = some r
  | 0, _, _, _, he => (Tr.fail_some he).elim
  | n + 1, xs, hs, r, he => by
    obtain ⟨d, h1, h2⟩ := Tr.bind_some he
    have h3 := h _ _ _ h1
    cases d with
    | inl d => exact (many_inl h3 n).trans (iter_many h n _ _ _ h2)
    | inr d => exact (many_inr h3 n).trans (congrArg some (Tr.ret_some h2))

/-- a loop whose rounds' ends are known, run to a bound -/
theorem iter_ok {L' : Loops} (hC : CtxSound P C ∧ CtxLocal C) {c : Code} (hl : LoopsOK P L' c) (S : LSpec) (hok : okAt S.Es.length S.Ts S.Es = true) {G : HL S.Ts → HD S.Es → Tr S.End} {n i : Nat}
    (hi : firstReg c = some i) (hL : ∀ st, L i st = S.fn (S.iter G n) st) (key : ∀ xs hs r, (G xs hs).eval = some r → (S.round (bodyK P C L' c) xs hs).eval = some r) : LoopOK P L c :=
  loop_ok hC hl S hok hi hL fun xs hs r h => ⟨n, iter_many key n xs hs r h⟩

/-- a function all of whose loops are run -/
theorem fn_okA (hC : CtxSound P C ∧ CtxLocal C) (n : Nat) {k : Nat} {fn : Func} (hf : P.funcs[k]? = some fn) {As : List Ty} {R : Ty} {f : HL As → R.den}
    (hside : ((fn.name == "runtime.NumGoroutine") == false && fn.body.isSome && (As.all fun A => A.still false) && stillL [R]) = true) (hd : decide (regsOf (bodyOf fn)).Nodup = true)
    (h1 : ∀ xs, HL.ok As xs → (fnK P C (autoL P C n (bodyOf fn)) fn (mkArgs As xs) []).fine [R] = true) (h2 : ∀ xs, HL.ok As xs → (fnK P C (autoL P C n (bodyOf fn)) fn (mkArgs As xs) []).fold1 R = f xs) : CSound P k (CSpec.fn1 As R f) ∧ CLocal (CSpec.fn1 As R f) := by
  simp only [Bool.and_eq_true, beq_iff_eq] at hside
  obtain ⟨⟨⟨a, b⟩, c⟩, d⟩ := hside
  obtain ⟨body, hb⟩ := Option.isSome_iff_exists.1 b
  have e : bodyOf fn = body := by unfold bodyOf; rw [hb]
  rw [e] at h1 h2 hd
  exact fn_ok hC hf a hb (autoL_ok hC n body _ (of_decide_eq_true hd) fun _ _ _ => rfl) c d h1 fun xs hx => by rw [Tr.fold_one, h2 xs hx]

end
end Vse

import Derived.Test.YtffdkniccaebmaaM3

section
/- Loops and functions joined. Nothing here is about one program. -/
set_option linter.unusedVariables false
namespace Vse
open Go Go.ChangeShapes

theorem many_inl {S : LSpec} {body : St → Tr (Ex × St)} {xs : HL S.Ts} {hs : HD S.Es} {d : HL S.Ts × HD S.Es} (h : (S.round body xs hs).eval = some (.inl d)) (n : Nat) : S.many body (n + 1) xs hs = S.many body n d.1 d.2 := by
  simp only [LSpec.many, h]

theorem many_inr {S : LSpec} {body : St → Tr (Ex × St)} {xs : HL S.Ts} {hs : HD S.Es} {r : Ex × St} (h : (S.round body xs hs).eval = some (.inr r)) (n : Nat) : S.many body (n + 1) xs hs = some r := by
  simp only [LSpec.many, h]

/-- the loops of a function's code, outermost first -/
def loopsOf : Code → List Code
  | .seq a b => loopsOf a ++ loopsOf b
  | .cond _ a b => loopsOf a ++ loopsOf b
  | .block _ c => loopsOf c
  | .loop c => [c]
  | _ => []

theorem loopsOK_all {P : Program} {L : Loops} : ∀ {c : Code}, (∀ b ∈ loopsOf c, LoopOK P L b) → LoopsOK P L c := by
  intro c
  induction c with
  | seq a b iha ihb => intro h; exact ⟨iha fun x hx => h x (by simp [loopsOf, hx]), ihb fun x hx => h x (by simp [loopsOf, hx])⟩
  | cond o a b iha ihb => intro h; exact ⟨iha fun x hx => h x (by simp [loopsOf, hx]), ihb fun x hx => h x (by simp [loopsOf, hx])⟩
  | block i a iha => intro h; exact iha h
  | loop a _ => intro h; exact h a (by simp [loopsOf])
  | _ => intro _; trivial

def bodyOf (fn : Func) : Code := match fn.body with | some c => c | none => .skip

/-- a loop of a function: its body -/
def loopAt (fn : Func) (i : Nat) : Code := ((loopsOf (bodyOf fn))[i]?).getD .skip

theorem fn_okL {P : Program} {C : Ctx} {L : Loops} (hC : CtxSound P C ∧ CtxLocal C) {k : Nat} {fn : Func} (hf : P.funcs[k]? = some fn) {As : List Ty} {R : Ty} {f : HL As → R.den}
    (hside : ((fn.name == "runtime.NumGoroutine") == false && fn.body.isSome && (As.all fun A => A.still false) && stillL [R]) = true)
    (hl : ∀ b ∈ loopsOf (bodyOf fn), LoopOK P L b)
    (h1 : ∀ xs, HL.ok As xs → (fnK P C L fn (mkArgs As xs) []).fine [R] = true) (h2 : ∀ xs, HL.ok As xs → (fnK P C L fn (mkArgs As xs) []).fold1 R = f xs) : CSound P k (CSpec.fn1 As R f) ∧ CLocal (CSpec.fn1 As R f) := by
  simp only [Bool.and_eq_true, beq_iff_eq] at hside
  obtain ⟨⟨⟨a, b⟩, c⟩, d⟩ := hside
  obtain ⟨body, hb⟩ := Option.isSome_iff_exists.1 b
  refine fn_ok hC hf a hb (loopsOK_all ?_) c d h1 fun xs hx => by rw [Tr.fold_one, h2 xs hx]
  unfold bodyOf at hl
  rw [hb] at hl
  exact hl

end Vse

end
section
/- Loops that are simply run, round by round, up to a bound. Nothing here is about one program. -/
set_option linter.unusedVariables false
namespace Vse
open Go

/-- behind a round: what looks into the round's own entries is forgotten, and those entries -/
def cutA (n : Nat) (st : St) : St := ⟨st.env.map fun a => if a.under n then a else AV.und, st.heap.take n⟩

def heapUnder (n : Nat) (H : Heap) : Bool := H.all fun e => e.under n

theorem getV_cut (n : Nat) : ∀ (env : List AV) (i : Nat), getV (env.map fun a => if a.under n then a else AV.und) i = getV env i ∨ getV (env.map fun a => if a.under n then a else AV.und) i = AV.und
  | [], _ => .inl rfl
  | a :: l, 0 => by
    simp only [List.map_cons, getV]
    split
    · exact .inl rfl
    · exact .inr rfl
  | a :: l, i + 1 => by simpa only [List.map_cons, getV] using getV_cut n l i

theorem cutA_env {g : G} {env : List AV} {a : Act} (h : EnvRep g env a) (n : Nat) : EnvRep g (env.map fun a => if a.under n then a else AV.und) a := by
  refine ⟨by rw [List.length_map]; exact h.1, fun i => ?_⟩
  rcases getV_cut n env i with e | e
  · rw [e]; exact h.2 i
  · rw [e]; trivial

theorem cutA_all (n : Nat) (env : List AV) : ((env.map fun a => if a.under n then a else AV.und).all fun a => a.under n) = true := by
  rw [List.all_map, List.all_eq_true]
  intro a _
  show (if a.under n = true then a else AV.und).under n = true
  split
  · assumption
  · rfl

theorem keep_all : ∀ (env : List AV) (i : Nat) (live : List Nat), (∀ j, j < env.length → live.contains (i + j) = true) → keep live i env = env
  | [], _, _, _ => rfl
  | a :: l, i, live, h => by
    have h0 := h 0 (by simp)
    simp only [Nat.add_zero] at h0
    simp only [keep, h0, if_true]
    rw [keep_all l (i + 1) live fun j hj => by
      have := h (j + 1) (by simpa using hj)
      rwa [show i + 1 + j = i + (j + 1) by omega]]

theorem cutA_rep {g g2 : G} {n : Nat} {st : St} {a : Act} {w : World} (hfree : ∀ e, n ≤ e → g.sh e = .free) (hle : g.le g2) (h : SRep g2 st a w) (hc : heapUnder n (st.heap.take n) = true) :
    ∃ g3, g.le g3 ∧ SRep g3 (cutA n st) a w := by
  let st1 : St := ⟨st.env.map fun a => if a.under n then a else AV.und, st.heap⟩
  have h1 : SRep g2 st1 a w := ⟨cutA_env h.env n, h.heap, h.defers⟩
  have hk : keep (List.range st1.env.length) 0 st1.env = st1.env := keep_all _ _ _ fun j hj => by simpa using hj
  have e : cutSt (List.range st1.env.length) n st1 = cutA n st := by
    unfold cutSt
    rw [hk]
    rfl
  obtain ⟨g3, q1, q2⟩ := cut_rep (List.range st1.env.length) hfree hle h1 (by
    rw [e]
    simp only [cutOk, Bool.and_eq_true]
    exact ⟨cutA_all n _, hc⟩)
  rw [e] at q2
  exact ⟨g3, q1, q2⟩

/-- the loop's rounds, at most so many -/
def unroll (body : St → Tr (Ex × St)) (n0 : Nat) : Nat → St → Tr (Ex × St)
  | 0, _ => .fail
  | n + 1, st => (body st).bind fun r => if heapUnder n0 (r.2.heap.take n0) then (match r.1 with
    | .normal => unroll body n0 n (cutA n0 r.2)
    | x => .ret (x, cutA n0 r.2)) else .fail

section
variable {P : Program} {C : Ctx} {L : Loops}

theorem unroll_sound {rd : Option Nat} (hC : CtxSound P C ∧ CtxLocal C) {c : Code} (hl : LoopsOK P L c) {n0 n : Nat} {g : G} {st st' : St} {a : Act} {w : World} {x : Ex} {Q : Exit → Act → World → Prop}
    (hs : SRep g st a w) (hn0 : st.heap.length ≤ n0) (he : (unroll (bodyK P C L c) n0 n st).eval = some (x, st')) (hn : ∀ g' a' w', g.le g' → SRep g' st' a' w' → Q x.out a' w') :
    (Code.loop c).wpIn (FW rd) 0 P Q a w := by
  have hfree := free_past hs hn0
  refine wpIn_loop_ghost (fun m a w => ∃ g1 s, g.le g1 ∧ SRep g1 s a w ∧ (unroll (bodyK P C L c) n0 m s).eval = some (x, st')) n ⟨g, st, G.le.refl g, hs, he⟩ ?_
  rintro m a w ⟨g1, s, hle, hs1, he1⟩
  cases m with
  | zero => exact (Tr.fail_some he1).elim
  | succ m =>
    obtain ⟨r, h1, h2⟩ := Tr.bind_some he1
    obtain ⟨y, s2⟩ := r
    refine code_sound hC.1 hC.2 c hl hs1 (bodyK_ok h1) ?_
    intro g2 a' w' hle2 hs2
    simp only at h2
    split at h2
    · rename_i hc
      obtain ⟨g3, q1, q2⟩ := cutA_rep hfree (hle.trans hle2) hs2 hc
      cases y with
      | normal => exact ⟨m, Nat.lt_succ_self m, g3, _, q1, q2, h2⟩
      | exit i =>
        have := Tr.ret_some h2
        simp only [Prod.mk.injEq] at this
        obtain ⟨rfl, rfl⟩ := this
        exact hn _ _ _ q1 q2
      | ret =>
        have := Tr.ret_some h2
        simp only [Prod.mk.injEq] at this
        obtain ⟨rfl, rfl⟩ := this
        exact hn _ _ _ q1 q2
    · exact (Tr.fail_some h2).elim

/-- a loop that is simply run -/
def runLoop (P : Program) (C : Ctx) (L : Loops) (n : Nat) (c : Code) (st : St) : Tr (Ex × St) := unroll (bodyK P C L c) st.heap.length n st

theorem runLoop_ok {L' : Loops} (hC : CtxSound P C ∧ CtxLocal C) {c : Code} (hl : LoopsOK P L' c) {i n : Nat} (hi : firstReg c = some i) (hL : ∀ st, L i st = runLoop P C L' n c st) : LoopOK P L c := by
  intro j hj rd g st a w x st' Q hs he hn
  rw [hi] at hj
  cases hj
  rw [hL] at he
  exact unroll_sound hC hl hs (Nat.le_refl _) he hn

/-- the first regions of all loops, those within loops, too -/
def regsOf : Code → List Nat
  | .seq a b => regsOf a ++ regsOf b
  | .cond _ a b => regsOf a ++ regsOf b
  | .block _ c => regsOf c
  | .loop c => (firstReg c).toList ++ regsOf c
  | _ => []

/-- all loops are run, of so many rounds at most -/
def autoL (P : Program) (C : Ctx) (n : Nat) : Code → Loops
  | .seq a b => fun i st => if (regsOf a).contains i then autoL P C n a i st else autoL P C n b i st
  | .cond _ a b => fun i st => if (regsOf a).contains i then autoL P C n a i st else autoL P C n b i st
  | .block _ c => autoL P C n c
  | .loop c => fun i st => if firstReg c = some i then runLoop P C (autoL P C n c) n c st else autoL P C n c i st
  | _ => fun _ _ => .fail

theorem autoL_ok (hC : CtxSound P C ∧ CtxLocal C) (n : Nat) : ∀ (c : Code) (L : Loops), (regsOf c).Nodup → (∀ i ∈ regsOf c, ∀ st, L i st = autoL P C n c i st) → LoopsOK P L c := by
  intro c
  induction c with
  | seq a b iha ihb =>
    intro L hd h
    simp only [regsOf, List.nodup_append] at hd
    refine ⟨iha L hd.1 fun i hi st => ?_, ihb L hd.2.1 fun i hi st => ?_⟩
    · rw [h i (by simp [regsOf, hi]) st]; simp [autoL, hi]
    · rw [h i (by simp [regsOf, hi]) st]
      have : ¬ i ∈ regsOf a := fun h' => hd.2.2 i h' i hi rfl
      simp [autoL, this]
  | cond o a b iha ihb =>
    intro L hd h
    simp only [regsOf, List.nodup_append] at hd
    refine ⟨iha L hd.1 fun i hi st => ?_, ihb L hd.2.1 fun i hi st => ?_⟩
    · rw [h i (by simp [regsOf, hi]) st]; simp [autoL, hi]
    · rw [h i (by simp [regsOf, hi]) st]
      have : ¬ i ∈ regsOf a := fun h' => hd.2.2 i h' i hi rfl
      simp [autoL, this]
  | block i a iha => intro L hd h; exact iha L hd h
  | loop a iha =>
    intro L hd h
    simp only [regsOf, List.nodup_append] at hd
    intro j hj
    refine runLoop_ok (L' := autoL P C n a) hC (iha _ hd.2.1 fun _ _ _ => rfl) (i := j) (n := n) hj (fun st => ?_) j hj
    rw [h j (by simp [regsOf, hj]) st]
    simp [autoL, hj]
  | _ => intro _ _ _; trivial

/-- rounds whose ends are known -/
def LSpec.iter (S : LSpec) (G : HL S.Ts → HD S.Es → Tr S.End) : Nat → HL S.Ts → HD S.Es → Tr (Ex × St)
  | 0, _, _ => .fail
  | n + 1, xs, hs => (G xs hs).bind fun r => match r with
    | .inl d => S.iter G n d.1 d.2
    | .inr r => .ret r

theorem iter_many {S : LSpec} {body : St → Tr (Ex × St)} {G : HL S.Ts → HD S.Es → Tr S.End} (h : ∀ xs hs r, (G xs hs).eval = some r → (S.round body xs hs).eval = some r) :
    ∀ (n : Nat) (xs : HL S.Ts) (hs : HD S.Es) (r : Ex × St), (S.iter G n xs hs).eval = some r → S.many body n xs hs = some r
  | 0, _, _, _, he => (Tr.fail_some he).elim
  | n + 1, xs, hs, r, he => by
    obtain ⟨d, h1, h2⟩ := Tr.bind_some he
    have h3 := h _ _ _ h1
    cases d with
    | inl d => exact (many_inl h3 n).trans (iter_many h n _ _ _ h2)
    | inr d => exact (many_inr h3 n).trans (congrArg some (Tr.ret_some h2))

/-- a loop whose rounds' ends are known, run to a bound -/
theorem iter_ok {L' : Loops} (hC : CtxSound P C ∧ CtxLocal C) {c : Code} (hl : LoopsOK P L' c) (S : LSpec) (hok : okAt S.Es.length S.Ts S.Es = true) {G : HL S.Ts → HD S.Es → Tr S.End} {n i : Nat}
    (hi : firstReg c = some i) (hL : ∀ st, L i st = S.fn (S.iter G n) st) (key : ∀ xs hs r, (G xs hs).eval = some r → (S.round (bodyK P C L' c) xs hs).eval = some r) : LoopOK P L c :=
  loop_ok hC hl S hok hi hL fun xs hs r h => ⟨n, iter_many key n xs hs r h⟩

/-- a function all of whose loops are run -/
theorem fn_okA (hC : CtxSound P C ∧ CtxLocal C) (n : Nat) {k : Nat} {fn : Func} (hf : P.funcs[k]? = some fn) {As : List Ty} {R : Ty} {f : HL As → R.den}
    (hside : ((fn.name == "runtime.NumGoroutine") == false && fn.body.isSome && (As.all fun A => A.still false) && stillL [R]) = true) (hd : decide (regsOf (bodyOf fn)).Nodup = true)
    (h1 : ∀ xs, HL.ok As xs → (fnK P C (autoL P C n (bodyOf fn)) fn (mkArgs As xs) []).fine [R] = true) (h2 : ∀ xs, HL.ok As xs → (fnK P C (autoL P C n (bodyOf fn)) fn (mkArgs As xs) []).fold1 R = f xs) : CSound P k (CSpec.fn1 As R f) ∧ CLocal (CSpec.fn1 As R f) := by
  simp only [Bool.and_eq_true, beq_iff_eq] at hside
  obtain ⟨⟨⟨a, b⟩, c⟩, d⟩ := hside
  obtain ⟨body, hb⟩ := Option.isSome_iff_exists.1 b
  have e : bodyOf fn = body := by unfold bodyOf; rw [hb]
  rw [e] at h1 h2 hd
  exact fn_ok hC hf a hb (autoL_ok hC n body _ (of_decide_eq_true hd) fun _ _ _ => rfl) c d h1 fun xs hx => by rw [Tr.fold_one, h2 xs hx]

end
end Vse

end
section
/- Functions of slices: what they are given is lent to them, what they give is never written again. Nothing here is about one program. -/
set_option linter.unusedVariables false
namespace Vse
open Go Go.ChangeShapes

section
variable {P : Program} {C : Ctx} {L : Loops} {g : G} {H : Heap} {w : World}

/-! results -/

def seal1 (R : Ty) (t : TV) (H : Heap) : TV × Heap :=
  match R with
  | .imm true false a => match t with
    | ⟨.nils, _⟩ => (⟨.imm true false a, []⟩, H)
    | ⟨.vc e g, x⟩ => match getE H e with
      | .vec g' a' l => if g = g' then (⟨.imm true false a', l⟩, setE H e .dead) else (⟨.vc e g, x⟩, H)
      | _ => (⟨.vc e g, x⟩, H)
    | ⟨.imm true _ a', l⟩ => (⟨.imm true false a', l⟩, H)
    | t => (t, H)
  | _ => (t, H)

def sealL : List Ty → List TV → Heap → List TV × Heap
  | R :: Rs, t :: ts, H => ((seal1 R t H).1 :: (sealL Rs ts (seal1 R t H).2).1, (sealL Rs ts (seal1 R t H).2).2)
  | _, ts, H => (ts, H)

def sealR (Rs : List Ty) (r : AV × Heap) : AV × Heap :=
  match Rs, r.1 with
  | [R], .v T x => (.v (seal1 R ⟨T, x⟩ r.2).1.T (seal1 R ⟨T, x⟩ r.2).1.x, (seal1 R ⟨T, x⟩ r.2).2)
  | Rs, .tup l => (.tup (sealL Rs l r.2).1, (sealL Rs l r.2).2)
  | _, v => (v, r.2)

theorem seal1_rep' (hI : HInv g H w) (R : Ty) (t : TV) {v : Value} {r : TV × Heap} (hr : seal1 R t H = r) (hv : VRep g (.v t.T t.x) v) :
    ∃ g', g.le g' ∧ HInv g' r.2 w ∧ VRep g' (.v r.1.T r.1.x) v ∧ (t.T ≠ .und → r.1.T ≠ .und) := by
  have same : (t, H) = r → ∃ g', g.le g' ∧ HInv g' r.2 w ∧ VRep g' (.v r.1.T r.1.x) v ∧ (t.T ≠ .und → r.1.T ≠ .und) := by
    rintro rfl
    exact ⟨g, G.le.refl g, hI, hv, fun h => h⟩
  unfold seal1 at hr
  split at hr
  · split at hr
    · subst hr
      refine ⟨g, G.le.refl g, hI, (VRep_v (by simp)).2 ?_, by simp⟩
      have hv := (VRep_v (by simp)).1 hv
      simp only [TRep, Ty.agg, Ty.sk, Sk.agg, Bool.false_eq_true, if_false, Rep] at hv ⊢
      exact ⟨none, 0, hv, by simp, by simp, by simp⟩
    · rename_i e k x
      split at hr
      · rename_i k' a' l hE
        split at hr
        · rename_i hk
          subst hk
          subst hr
          obtain ⟨g', h1, h2, h3⟩ := hI.freeze hE
          exact ⟨g', h1, h2, h3 v hv, by simp⟩
        · exact same hr
      · exact same hr
    · subst hr
      refine ⟨g, G.le.refl g, hI, (VRep_v (by simp)).2 ?_, by simp⟩
      have hv := (VRep_v (by simp)).1 hv
      simp only [TRep, Ty.agg, Ty.sk, Sk.agg, Bool.false_eq_true, if_false, Rep] at hv ⊢
      obtain ⟨pv, cap, h1, h2, _, h4⟩ := hv
      exact ⟨pv, cap, h1, h2, by simp, h4⟩
    · exact same hr
  · exact same hr

theorem seal1_rep (hI : HInv g H w) (R : Ty) (t : TV) {v : Value} (hv : VRep g (.v t.T t.x) v) :
    ∃ g', g.le g' ∧ HInv g' (seal1 R t H).2 w ∧ VRep g' (.v (seal1 R t H).1.T (seal1 R t H).1.x) v := by
  obtain ⟨g', h1, h2, h3, _⟩ := seal1_rep' hI R t rfl hv
  exact ⟨g', h1, h2, h3⟩

theorem TRep_und {x : Unit} {v : Value} : ¬ TRep g .und x v := by
  intro h
  simp [TRep, Ty.agg, Ty.sk, Sk.agg, Rep] at h

theorem seal1_T (hI : HInv g H w) (R : Ty) (t : TV) {v : Value} (hv : TRep g t.T t.x v) :
    ∃ g', g.le g' ∧ HInv g' (seal1 R t H).2 w ∧ TRep g' (seal1 R t H).1.T (seal1 R t H).1.x v := by
  have hne := TRep_ne hv
  obtain ⟨g', h1, h2, h3, h4⟩ := seal1_rep' hI R t rfl ((VRep_v hne).2 hv)
  exact ⟨g', h1, h2, (VRep_v (h4 hne)).1 h3⟩

theorem sealL_rep : ∀ (Rs : List Ty) (l : List TV) {g : G} {H : Heap} {vs : List Value}, HInv g H w → tupRep g l vs → ∃ g', g.le g' ∧ HInv g' (sealL Rs l H).2 w ∧ tupRep g' (sealL Rs l H).1 vs
  | [], l, g, H, vs, hI, h => by cases l <;> exact ⟨g, G.le.refl g, hI, h⟩
  | R :: Rs, [], g, H, vs, hI, h => ⟨g, G.le.refl g, hI, h⟩
  | R :: Rs, t :: ts, g, H, vs, hI, ⟨v, r, h1, h2, h3⟩ => by
    obtain ⟨g1, q1, q2, q3⟩ := seal1_T hI R t h2
    obtain ⟨g2, w1, w2, w3⟩ := sealL_rep Rs ts q2 (tupRep_mono q1 h3)
    exact ⟨g2, q1.trans w1, w2, v, r, h1, TRep_mono w1 q3, w3⟩

theorem sealR_rep (Rs : List Ty) {r : AV × Heap} (hI : HInv g r.2 w) {v : Value} (hv : VRep g r.1 v) : ∃ g', g.le g' ∧ HInv g' (sealR Rs r).2 w ∧ VRep g' (sealR Rs r).1 v := by
  obtain ⟨a, H⟩ := r
  unfold sealR
  split
  · rename_i R T x heq
    simp only at heq hI hv
    subst heq
    exact seal1_rep hI R ⟨T, x⟩ hv
  · rename_i heq
    simp only at heq hI hv
    subst heq
    obtain ⟨vs, rfl, h⟩ := hv
    obtain ⟨g', h1, h2, h3⟩ := sealL_rep _ _ hI h
    exact ⟨g', h1, h2, vs, rfl, h3⟩
  · exact ⟨g, G.le.refl g, hI, hv⟩

/-- a function, gone through, its results given up -/
def fnS (P : Program) (C : Ctx) (L : Loops) (Rs : List Ty) (fn : Func) (args : List AV) : Tr (AV × Heap) := (fnK P C L fn args []).bind fun r => .ret (sealR Rs r)

/-! arguments -/

/-- an argument, as a called function sees it -/
def takeA (A : Ty) (v : AV) (es : List Entry) : Option A.den :=
  match A with
  | .imm false false a => match isNils v with
    | true => some []
    | false => match seen v es with
      | some y => castL y a
      | none => none
  | A => match v with
    | .v T x => castT ⟨T, x⟩ A
    | .tup _ => none

def takeAs : (As : List Ty) → List AV → Heap → Option (HL As)
  | [], [], _ => some ()
  | A :: As, v :: vs, H => match takeA A v (ents H (vcOf v)) with
    | some x => match takeAs As vs H with
      | some r => some (x, r)
      | none => none
    | none => none
  | _, _, _ => none

/-- may what is seen so be kept for ever, its own entry being so kept? -/
def keepOk (p : Bool) : AV → Bool
  | .v (.imm q _ _) _ => q || !p
  | .v (.tg q _) _ => q || !p
  | _ => true

/-- what is seen of a slice, in memory that keeps its block -/
theorem seen_view (hI : HInv g H w) {a : AV} {v : Value} {T : Ty} {l : List T.den} (ha : VRep g a v) (hs : seen a (ents H (vcOf a)) = some ⟨T, l⟩) {g' : G} {p : Bool} (hp : keepOk p a = true)
    (hfr : ∀ b o, g.fr b = some o → g'.fr b = some o) (hgr : ∀ b o, g.gr b = some o → g'.gr b = some o)
    (hblk : ∀ e b o, vcOf a = [e] → (getE H e).live = true → g.bl e = some b → w.heap[b]? = some o → g'.fr b = some o ∨ (p = false ∧ g'.gr b = some o))
    (hel : ∀ x cs, Rep g T x cs → Rep g' T x cs) : VRep g' (.v (.imm p false T) l) v := by
  refine (VRep_v (by simp)).2 ?_
  simp only [TRep, Ty.agg, Ty.sk, Sk.agg, Bool.false_eq_true, if_false]
  unfold seen at hs
  split at hs
  · rename_i q f a' l'
    simp only [Option.some.injEq, Sigma.mk.injEq] at hs
    obtain ⟨rfl, hl⟩ := hs
    have hl := eq_of_heq hl
    subst hl
    have hv := (VRep_v (by simp)).1 ha
    simp only [TRep, Ty.agg, Ty.sk, Sk.agg, Bool.false_eq_true, if_false, Rep] at hv ⊢
    obtain ⟨pv, cap, h1, h2, _, h4⟩ := hv
    refine ⟨pv, cap, h1, h2, by simp, fun hne => ?_⟩
    obtain ⟨ad, vs, q1, q2, q3⟩ := h4 hne
    refine ⟨ad, vs, q1, repL_mono (fun y _ cs => hel y cs) q2, ?_⟩
    rcases q3 with q3 | ⟨hq, q3⟩
    · exact .inl (reads_mono hfr q3)
    · refine .inr ⟨?_, reads_mono hgr q3⟩
      simp only [keepOk, hq, Bool.false_or, Bool.not_eq_true'] at hp
      exact hp
  · rename_i q a' l'
    simp only [Option.some.injEq, Sigma.mk.injEq] at hs
    obtain ⟨rfl, hl⟩ := hs
    have hl := eq_of_heq hl
    subst hl
    have hv := (VRep_v (by simp)).1 ha
    simp only [TRep, Ty.agg, Ty.sk, Sk.agg, Bool.false_eq_true, if_false, Rep] at hv ⊢
    obtain ⟨pv, h1, h2, h4⟩ := hv
    refine ⟨pv, _, h1, ⟨Nat.le_refl _, h2⟩, by simp, fun hne => ?_⟩
    obtain ⟨ad, vs, q1, q2, q3⟩ := h4 hne
    refine ⟨ad, vs, q1, repL_mono (fun y _ cs => hel y cs) q2, ?_⟩
    rcases q3 with q3 | ⟨hq, q3⟩
    · exact .inl (reads_mono hfr q3)
    · refine .inr ⟨?_, reads_mono hgr q3⟩
      simp only [keepOk, hq, Bool.false_or, Bool.not_eq_true'] at hp
      exact hp
  · rename_i e pp d
    simp only [vcOf, ents] at hs
    split at hs
    · rename_i T' x hE
      simp only [List.cons.injEq, and_true] at hE
      split at hs
      · rename_i m a' l' hg
        simp only [Option.some.injEq, Sigma.mk.injEq] at hs
        obtain ⟨rfl, hl⟩ := hs
        have hl := eq_of_heq hl
        subst hl
        obtain ⟨pv, cap, b, off, n, s, h1, h2, rfl, h3, _, h5, h6⟩ := sub_sh hI ha (s := T'.sk) (by rw [hE]; rfl)
        obtain ⟨cs, tt, fz, us, q1, _, _, rfl, rfl, q4, q5, q6, q7, q8⟩ := arr_cells hI hE hg h1 h2
        have hlen : ((l'.drop d.start).take d.len).length = d.len := by rw [List.length_take, List.length_drop]; omega
        have hrep := repL_take' (fun x cs => Rep_length a' x cs) d.len (repL_drop' (fun x cs => Rep_length a' x cs) d.start q5)
        simp only [Rep]
        refine ⟨pv, cap, by rw [hlen], by rw [hlen]; exact h3, by simp, fun hne => ?_⟩
        have h0 : d.len ≠ 0 := fun h => hne (List.eq_nil_of_length_eq_zero (by rw [hlen, h]))
        refine ⟨_, _, h6 h0, repL_mono (fun y _ cs => hel y cs) hrep, ?_⟩
        have hrd : ∀ F : Nat → Option Obj, F b = some (.cells cs tt fz) → reads F ⟨b, off + d.start * a'.sk.nc, none⟩ ((us.drop (d.start * a'.nc)).take (d.len * a'.nc)) := by
          intro F hF
          refine ⟨rfl, cs, tt, fz, hF, fun j v hv => ?_⟩
          have hnc : a'.nc = a'.sk.nc := rfl
          rw [q7, hnc] at hv
          have hj : j < d.len * a'.sk.nc := by
            have := (List.getElem?_eq_some_iff.1 hv).1
            rw [List.length_take] at this
            omega
          rw [List.getElem?_take_of_lt hj, List.getElem?_drop] at hv
          unfold seg at hv
          have hm : d.start * a'.sk.nc + j < m * a'.sk.nc := by
            have : (d.start + d.len) * a'.sk.nc ≤ m * a'.sk.nc := Nat.mul_le_mul_right _ h5
            rw [Nat.add_mul] at this
            omega
          rw [List.getElem?_take_of_lt hm, List.getElem?_drop] at hv
          rw [show off + d.start * a'.sk.nc + j = off + (d.start * a'.sk.nc + j) by omega]
          simpa using hv
        rcases hblk e b _ rfl (by rw [hE]; rfl) h1 q1 with hb | ⟨hb, hb'⟩
        · exact .inl (hrd _ hb)
        · exact .inr ⟨hb, hrd _ hb'⟩
      · cases hs
    · cases hs
  · rename_i e k _
    simp only [vcOf, ents] at hs
    split at hs
    · rename_i k' a' l' hE
      simp only [List.cons.injEq, and_true] at hE
      split at hs
      · rename_i hk
        subst hk
        simp only [Option.some.injEq, Sigma.mk.injEq] at hs
        obtain ⟨rfl, hl⟩ := hs
        have hl := eq_of_heq hl
        subst hl
        have hlive : (getE H e).live = true := by rw [hE]; rfl
        have hv := (VRep_v (by simp)).1 ha
        simp only [TRep, Ty.agg, Ty.sk, Sk.agg, Bool.false_eq_true, if_false, Rep, G.vcr, hI.sh, hE, shp] at hv ⊢
        obtain ⟨_, _, hv⟩ := hv
        have he := hI.ent e
        rw [hE] at he
        rcases hv trivial with ⟨_, h0, pv0, hh⟩ | ⟨b, cap, hb, hh, hcap, _⟩
        · have hl0 : l' = [] := List.eq_nil_of_length_eq_zero h0
          subst hl0
          exact ⟨pv0, 0, hh, by simp, by simp, by simp⟩
        · rcases he with ⟨q1, _⟩ | ⟨b', cs, t, fz, vs, r, q1, q2, q3, q4, q5, q6, q7⟩
          · rw [hb] at q1; cases q1
          rw [hb] at q1
          cases q1
          have hrd : ∀ F : Nat → Option Obj, F b = some (.cells cs t fz) → reads F ⟨b, 0, none⟩ vs := by
            intro F hF
            refine ⟨rfl, cs, t, fz, hF, fun i v hi => ?_⟩
            have hj : i < vs.length := (List.getElem?_eq_some_iff.1 hi).1
            have : cs.toList[i]? = some v := by rw [q5, List.getElem?_append_left hj]; exact hi
            simpa using this
          refine ⟨_, cap, hh, hcap, by simp, fun _ => ⟨_, vs, rfl, repL_mono (fun y _ cs => hel y cs) q6, ?_⟩⟩
          rcases hblk e b _ rfl hlive hb q2 with hb | ⟨hb, hb'⟩
          · exact .inl (hrd _ hb)
          · exact .inr ⟨hb, hrd _ hb'⟩
      · cases hs
    · cases hs
  · rename_i e k d
    simp only [vcOf, ents] at hs
    split at hs
    · rename_i k' a' l' hE
      simp only [List.cons.injEq, and_true] at hE
      split at hs
      · rename_i hk
        subst hk
        simp only [Option.some.injEq, Sigma.mk.injEq] at hs
        obtain ⟨rfl, hl⟩ := hs
        have hl := eq_of_heq hl
        subst hl
        have hlive : (getE H e).live = true := by rw [hE]; rfl
        have hv := (VRep_v (by simp)).1 ha
        simp only [TRep, Ty.agg, Ty.sk, Sk.agg, Bool.false_eq_true, if_false, Rep, G.vcr, hI.sh, hE, shp] at hv ⊢
        obtain ⟨_, _, hv⟩ := hv
        obtain ⟨pv, cap, h1, h2, _, h4, h5⟩ := hv trivial
        have hlen : ((l'.drop d.start).take d.len).length = d.len := by rw [List.length_take, List.length_drop]; omega
        refine ⟨pv, cap, by rw [hlen]; exact h1, by rw [hlen]; exact h2, by simp, fun hne => ?_⟩
        have h0 : d.len ≠ 0 := fun h => hne (List.eq_nil_of_length_eq_zero (by rw [hlen, h]))
        obtain ⟨b, hb, hpv⟩ := h5 h0
        have he := hI.ent e
        rw [hE] at he
        rcases he with ⟨q1, _⟩ | ⟨b', cs, t, fz, vs, r, q1, q2, q3, q4, q5, q6, q7⟩
        · rw [hb] at q1; cases q1
        rw [hb] at q1
        cases q1
        have hrep := repL_take' (fun x cs => Rep_length a' x cs) d.len (repL_drop' (fun x cs => Rep_length a' x cs) d.start q6)
        have hrd : ∀ F : Nat → Option Obj, F b = some (.cells cs t fz) → reads F ⟨b, d.start * a'.sk.nc, none⟩ ((vs.drop (d.start * a'.nc)).take (d.len * a'.nc)) := by
          intro F hF
          refine ⟨rfl, cs, t, fz, hF, fun j v hv => ?_⟩
          have hnc : a'.nc = a'.sk.nc := rfl
          rw [hnc] at hv
          have hj : j < d.len * a'.sk.nc := by
            have := (List.getElem?_eq_some_iff.1 hv).1
            rw [List.length_take] at this
            omega
          rw [List.getElem?_take_of_lt hj, List.getElem?_drop] at hv
          have hjv : d.start * a'.sk.nc + j < vs.length := (List.getElem?_eq_some_iff.1 hv).1
          have : cs.toList[d.start * a'.sk.nc + j]? = some v := by rw [q5, List.getElem?_append_left hjv]; exact hv
          simpa using this
        refine ⟨_, _, hpv, repL_mono (fun y _ cs => hel y cs) hrep, ?_⟩
        rcases hblk e b _ rfl hlive hb q2 with hb | ⟨hb, hb'⟩
        · exact .inl (hrd _ hb)
        · exact .inr ⟨hb, hrd _ hb'⟩
      · cases hs
    · cases hs
  · cases hs

theorem takeA_rep (hI : HInv g H w) {A : Ty} (hA : A.still false = true) {v : AV} {rv : Value} {x : A.den} (hv : VRep g v rv) (h : takeA A v (ents H (vcOf v)) = some x) : VRep (g.lend H w) (.v A x) rv := by
  have plain : ∀ {T : Ty} {y : T.den}, v = .v T y → castT ⟨T, y⟩ A = some x → VRep (g.lend H w) (.v A x) rv := by
    rintro T y rfl hc
    have := castT_spec hc
    simp only [TV.mk.injEq] at this
    obtain ⟨rfl, h2⟩ := this
    have h2 := eq_of_heq h2
    subst h2
    exact still_VRep (lend_covers g H w) hA hv
  unfold takeA at h
  split at h
  · rename_i a
    have hst : a.still false = true := by simpa [Ty.still] using hA
    split at h
    · rename_i hn
      refine (VRep_v (by simp)).2 ?_
      simp only [Option.some.injEq] at h
      subst h
      unfold isNils at hn
      split at hn
      · have hv := (VRep_v (by simp)).1 hv
        simp only [TRep, Ty.agg, Ty.sk, Sk.agg, Bool.false_eq_true, if_false, Rep] at hv ⊢
        exact ⟨none, 0, hv, by simp, by simp, by simp⟩
      · cases hn
    · split at h
      · rename_i y hy
        obtain ⟨a2, l⟩ := y
        unfold castL at h
        simp only at h
        split at h
        · rename_i heq
          subst heq
          simp only [Option.some.injEq] at h
          subst h
          refine seen_view hI hv hy (p := false) (by unfold keepOk; split <;> simp) (lend_covers g H w).fr ((lend_covers g H w).gr rfl) (fun e b o hvc hlive hb ho => .inr ⟨rfl, ?_⟩) fun x cs => (still_Rep (lend_covers g H w) a2 x cs hst).1
          simp only [G.lend]
          rw [(hI.own _ _ hlive hb).2]
          simp only [Option.isSome_none, Bool.false_eq_true, if_false]
          rw [if_pos ⟨e, hlive, hb⟩]
          exact ho
        · cases h
      · cases h
  · split at h
    · exact plain rfl h
    · cases h

theorem takeAs_rep (hI : HInv g H w) : ∀ {As : List Ty} {vs : List AV} {rvs : List Value} {xs : HL As}, (As.all fun A => A.still false) = true → argsRep g vs rvs → takeAs As vs H = some xs → argsRep (g.lend H w) (mkArgs As xs) rvs
  | [], [], rvs, xs, _, h, _ => h
  | [], _ :: _, rvs, xs, _, _, h => by simp [takeAs] at h
  | A :: As, [], rvs, xs, _, _, h => by simp [takeAs] at h
  | A :: As, v :: vs, rvs, xs, hA, ⟨r, rs, h1, h2, h3⟩, h => by
    simp only [List.all_cons, Bool.and_eq_true] at hA
    simp only [takeAs] at h
    split at h
    · rename_i x hx
      split at h
      · rename_i y hy
        simp only [Option.some.injEq] at h
        subst h
        exact ⟨r, rs, h1, takeA_rep hI hA.1 h2 hx, takeAs_rep hI hA.2 h3 hy⟩
      · cases h
    · cases h

/-- the entries of own slices among arguments -/
def vcsOf (vs : List AV) : List Nat := vs.flatMap vcOf

/-- arguments with their entries beside them -/
def takeE : (As : List Ty) → List AV → List Entry → Option (HL As)
  | [], [], _ => some ()
  | A :: As, v :: vs, es => match takeA A v (es.take (vcOf v).length) with
    | some x => match takeE As vs (es.drop (vcOf v).length) with
      | some r => some (x, r)
      | none => none
    | none => none
  | _, _, _ => none

theorem ents_append (H : Heap) : ∀ (l m : List Nat), ents H (l ++ m) = ents H l ++ ents H m
  | [], m => rfl
  | i :: l, m => by simp only [List.cons_append, ents]; rw [ents_append H l m]

theorem ents_length (H : Heap) : ∀ (l : List Nat), (ents H l).length = l.length
  | [] => rfl
  | i :: l => by simp [ents, ents_length H l]

theorem takeE_takeAs (H : Heap) : ∀ {As : List Ty} {vs : List AV}, takeE As vs (ents H (vcsOf vs)) = takeAs As vs H
  | [], [] => rfl
  | [], _ :: _ => rfl
  | A :: As, [] => rfl
  | A :: As, v :: vs => by
    have e1 : (ents H (vcsOf (v :: vs))).take (vcOf v).length = ents H (vcOf v) := by
      show (ents H (vcOf v ++ vcsOf vs)).take _ = _
      rw [ents_append, ← ents_length H (vcOf v), List.take_left]
    have e2 : (ents H (vcsOf (v :: vs))).drop (vcOf v).length = ents H (vcsOf vs) := by
      show (ents H (vcOf v ++ vcsOf vs)).drop _ = _
      rw [ents_append, ← ents_length H (vcOf v), List.drop_left]
    simp only [takeE, takeAs, e1, e2, takeE_takeAs H (As := As) (vs := vs)]

/-- a function of plain values and slices -/
def CSpec.sl (As Rs : List Ty) (f : HL As → HL Rs) : CSpec :=
  ⟨0, fun vs _ => vcsOf vs, fun _ _ => [], fun vs es _ => match takeE As vs es with | some xs => .ret (ofHL Rs (f xs), []) | none => .fail⟩

theorem sl_local (As Rs : List Ty) (f : HL As → HL Rs) : CLocal (CSpec.sl As Rs f) where
  same _ _ _ _ := ⟨rfl, rfl⟩
  turns vs H fr out h x hx := by
    simp only [CSpec.sl] at h
    split at h
    · have := Tr.ret_some h
      subst this
      simp at hx
    · exact (Tr.fail_some h).elim

theorem sl_sound (hC : CtxSound P C ∧ CtxLocal C) {k : Nat} {fn : Func} (hf : P.funcs[k]? = some fn) {c : Code} (hname : (fn.name == "runtime.NumGoroutine") = false) (hb : fn.body = some c) (hl : LoopsOK P L c)
    {As Rs : List Ty} {f : HL As → HL Rs} (hA : (As.all fun A => A.still false) = true) (hR : stillL Rs = true)
    (h1 : ∀ xs, HL.ok As xs → (fnS P C L Rs fn (mkArgs As xs)).fine Rs = true) (h2 : ∀ xs, HL.ok As xs → (fnS P C L Rs fn (mkArgs As xs)).fold Rs = f xs) : CSound P k (CSpec.sl As Rs f) ∧ CLocal (CSpec.sl As Rs f) := by
  refine ⟨⟨fun args w => callFunc_enter hf hname hb args w, ?_⟩, sl_local As Rs f⟩
  intro g H w vs rvs fr out hI hargs _ he
  simp only [CSpec.sl] at he
  rw [takeE_takeAs] at he
  split at he
  · rename_i xs hxs
    have := Tr.ret_some he
    subst this
    have hargs' := takeAs_rep hI hA hargs hxs
    have hx := args_ok hargs'
    obtain ⟨H', h5⟩ := nrm_some (Tr.nrm_of_fine (h1 xs hx))
    obtain ⟨r, h6, h7⟩ := Tr.bind_some h5
    have h7 := Tr.ret_some h7
    rw [h2 xs hx] at h7
    refine (fn_sound hC.1 hC.2 hf hb hl (lend_inv hI) hargs' (fnK_ok h6)).mono ?_
    rintro e w' ⟨rv, g', rfl, hle, hI', hv⟩
    obtain ⟨g1, s1, s2, s3⟩ := sealR_rep Rs (r := r) hI' hv
    rw [h7] at s2 s3
    obtain ⟨g'', q1, q2, q3⟩ := lend_back hI (hle.trans s1) s2
    exact ⟨rv, g'', rfl, q1, q2, still_VRep q3 (ofHL_still hR _) s3⟩
  · exact (Tr.fail_some he).elim

def CSpec.sl1 (As : List Ty) (R : Ty) (f : HL As → R.den) : CSpec := CSpec.sl As [R] fun xs => (f xs, ())

/-- a function of slices: several results -/
theorem sl_ok (hC : CtxSound P C ∧ CtxLocal C) {k : Nat} {fn : Func} (hf : P.funcs[k]? = some fn) {As Rs : List Ty} {f : HL As → HL Rs}
    (hside : ((fn.name == "runtime.NumGoroutine") == false && fn.body.isSome && (As.all fun A => A.still false) && stillL Rs) = true)
    (hl : ∀ b ∈ loopsOf (bodyOf fn), LoopOK P L b)
    (h1 : ∀ xs, HL.ok As xs → (fnS P C L Rs fn (mkArgs As xs)).fine Rs = true) (h2 : ∀ xs, HL.ok As xs → (fnS P C L Rs fn (mkArgs As xs)).fold Rs = f xs) : CSound P k (CSpec.sl As Rs f) ∧ CLocal (CSpec.sl As Rs f) := by
  simp only [Bool.and_eq_true, beq_iff_eq] at hside
  obtain ⟨⟨⟨a, b⟩, c⟩, d⟩ := hside
  obtain ⟨body, hb⟩ := Option.isSome_iff_exists.1 b
  refine sl_sound hC hf a hb (loopsOK_all ?_) c d h1 h2
  unfold bodyOf at hl
  rw [hb] at hl
  exact hl

/-- ..one result -/
theorem sl_ok1 (hC : CtxSound P C ∧ CtxLocal C) {k : Nat} {fn : Func} (hf : P.funcs[k]? = some fn) {As : List Ty} {R : Ty} {f : HL As → R.den}
    (hside : ((fn.name == "runtime.NumGoroutine") == false && fn.body.isSome && (As.all fun A => A.still false) && stillL [R]) = true)
    (hl : ∀ b ∈ loopsOf (bodyOf fn), LoopOK P L b)
    (h1 : ∀ xs, HL.ok As xs → (fnS P C L [R] fn (mkArgs As xs)).fine [R] = true) (h2 : ∀ xs, HL.ok As xs → (fnS P C L [R] fn (mkArgs As xs)).fold1 R = f xs) : CSound P k (CSpec.sl1 As R f) ∧ CLocal (CSpec.sl1 As R f) :=
  sl_ok hC hf hside hl h1 fun xs hx => by rw [Tr.fold_one, h2 xs hx]

/-- ..that asks something of its arguments -/
def CSpec.slp (As : List Ty) (pre : HL As → Bool) (Rs : List Ty) (f : HL As → HL Rs) : CSpec :=
  ⟨0, fun vs _ => vcsOf vs, fun _ _ => [], fun vs es _ => match takeE As vs es with | some xs => .chk (pre xs) (.ret (ofHL Rs (f xs), [])) | none => .fail⟩

theorem slp_local (As : List Ty) (pre : HL As → Bool) (Rs : List Ty) (f : HL As → HL Rs) : CLocal (CSpec.slp As pre Rs f) where
  same _ _ _ _ := ⟨rfl, rfl⟩
  turns vs H fr out h x hx := by
    simp only [CSpec.slp] at h
    split at h
    · obtain ⟨_, h⟩ := Tr.chk_some h
      have := Tr.ret_some h
      subst this
      simp at hx
    · exact (Tr.fail_some h).elim

theorem slp_sound (hC : CtxSound P C ∧ CtxLocal C) {k : Nat} {fn : Func} (hf : P.funcs[k]? = some fn) {As Rs : List Ty} {pre : HL As → Bool} {f : HL As → HL Rs}
    (hside : ((fn.name == "runtime.NumGoroutine") == false && fn.body.isSome && (As.all fun A => A.still false) && stillL Rs) = true)
    (hl : ∀ b ∈ loopsOf (bodyOf fn), LoopOK P L b)
    (h1 : ∀ xs, HL.ok As xs → pre xs = true → (fnS P C L Rs fn (mkArgs As xs)).fine Rs = true) (h2 : ∀ xs, HL.ok As xs → pre xs = true → (fnS P C L Rs fn (mkArgs As xs)).fold Rs = f xs) :
    CSound P k (CSpec.slp As pre Rs f) ∧ CLocal (CSpec.slp As pre Rs f) := by
  simp only [Bool.and_eq_true, beq_iff_eq] at hside
  obtain ⟨⟨⟨hname, hb⟩, hA⟩, hR⟩ := hside
  obtain ⟨body, hb⟩ := Option.isSome_iff_exists.1 hb
  have hl : LoopsOK P L body := by
    refine loopsOK_all ?_
    unfold bodyOf at hl
    rw [hb] at hl
    exact hl
  refine ⟨⟨fun args w => callFunc_enter hf hname hb args w, ?_⟩, slp_local As pre Rs f⟩
  intro g H w vs rvs fr out hI hargs _ he
  simp only [CSpec.slp] at he
  rw [takeE_takeAs] at he
  split at he
  · rename_i xs hxs
    obtain ⟨hp, he⟩ := Tr.chk_some he
    have := Tr.ret_some he
    subst this
    have hargs' := takeAs_rep hI hA hargs hxs
    have hx := args_ok hargs'
    obtain ⟨H', h5⟩ := nrm_some (Tr.nrm_of_fine (h1 xs hx hp))
    obtain ⟨r, h6, h7⟩ := Tr.bind_some h5
    have h7 := Tr.ret_some h7
    rw [h2 xs hx hp] at h7
    refine (fn_sound hC.1 hC.2 hf hb hl (lend_inv hI) hargs' (fnK_ok h6)).mono ?_
    rintro e w' ⟨rv, g', rfl, hle, hI', hv⟩
    obtain ⟨g1, s1, s2, s3⟩ := sealR_rep Rs (r := r) hI' hv
    rw [h7] at s2 s3
    obtain ⟨g'', q1, q2, q3⟩ := lend_back hI (hle.trans s1) s2
    exact ⟨rv, g'', rfl, q1, q2, still_VRep q3 (ofHL_still hR _) s3⟩
  · exact (Tr.fail_some he).elim

def CSpec.slp1 (As : List Ty) (pre : HL As → Bool) (R : Ty) (f : HL As → R.den) : CSpec := CSpec.slp As pre [R] fun xs => (f xs, ())

theorem slp_ok1 (hC : CtxSound P C ∧ CtxLocal C) {k : Nat} {fn : Func} (hf : P.funcs[k]? = some fn) {As : List Ty} {R : Ty} {pre : HL As → Bool} {f : HL As → R.den}
    (hside : ((fn.name == "runtime.NumGoroutine") == false && fn.body.isSome && (As.all fun A => A.still false) && stillL [R]) = true)
    (hl : ∀ b ∈ loopsOf (bodyOf fn), LoopOK P L b)
    (h1 : ∀ xs, HL.ok As xs → pre xs = true → (fnS P C L [R] fn (mkArgs As xs)).fine [R] = true) (h2 : ∀ xs, HL.ok As xs → pre xs = true → (fnS P C L [R] fn (mkArgs As xs)).fold1 R = f xs) :
    CSound P k (CSpec.slp1 As pre R f) ∧ CLocal (CSpec.slp1 As pre R f) :=
  slp_sound hC hf hside hl h1 fun xs hx hp => by rw [Tr.fold_one, h2 xs hx hp]

end
end Vse

end
section
/- Loops in which own slices grow. Nothing here is about one program. -/
set_option linter.unusedVariables false
namespace Vse
open Go

/-! an entry's growths counted anew -/

def Ty.off (e : Nat) : Ty → Bool
  | .prod a b => a.off e && b.off e
  | .arr _ a => a.off e
  | .imm _ _ a => a.off e
  | .tg _ a => a.off e
  | .ip _ a => a.off e
  | .fn _ c => c.off e
  | .vc i _ | .sv i _ | .vp i _ _ | .sub i _ | .ptr i _ | .mp i | .ch i => decide (i ≠ e)
  | _ => true

structure G.bar (e : Nat) (g g' : G) : Prop where
  fr : g'.fr = g.fr
  gr : g'.gr = g.gr
  ext : g'.ext = g.ext
  bl : g'.bl = g.bl
  sz : g'.sz = g.sz
  sh : ∀ i, i ≠ e → g'.sh i = g.sh i

theorem off_Rep {e : Nat} {g g' : G} (h : g.bar e g') : ∀ (T : Ty) (x : T.den) (cs : List Value), T.off e = true → (Rep g T x cs → Rep g' T x cs) ∧ (Rep.RepC g T x cs → Rep.RepC g' T x cs) := by
  intro T
  induction T with
  | bool | int | str | und | nils | nilp | nilm | nilf | nili | it => intro x cs _; exact ⟨fun hr => hr, fun hr => by simp [Rep.RepC] at hr⟩
  | mp i | ch i =>
    intro x cs hs
    simp only [Ty.off, decide_eq_true_eq] at hs
    exact ⟨fun hr => by simpa only [Rep, G.mpr, h.sh i hs, h.bl] using hr, fun hr => by simp [Rep.RepC] at hr⟩
  | unit => intro x cs _; exact ⟨fun hr => hr, fun hr => hr⟩
  | prod a b iha ihb =>
    intro x cs hs
    simp only [Ty.off, Bool.and_eq_true] at hs
    constructor
    · rintro ⟨c1, c2, rfl, h1, h2⟩
      exact ⟨c1, c2, rfl, (iha _ _ hs.1).1 h1, (ihb _ _ hs.2).1 h2⟩
    · rintro ⟨v, r, rfl, h1, h2⟩
      refine ⟨v, r, rfl, ?_, (ihb _ _ hs.2).2 h2⟩
      split at h1
      · obtain ⟨cs, hv, hr⟩ := h1; rw [if_pos (by assumption)]; exact ⟨cs, hv, (iha _ _ hs.1).1 hr⟩
      · rw [if_neg (by assumption)]; exact (iha _ _ hs.1).1 h1
  | arr k a iha =>
    intro x cs hs
    exact ⟨fun hr => ⟨hr.1, repL_mono (fun y _ cs => (iha y cs hs).1) hr.2⟩, fun hr => by simp [Rep.RepC] at hr⟩
  | imm q f a iha =>
    intro x cs hs
    refine ⟨?_, fun hr => by simp [Rep.RepC] at hr⟩
    rintro ⟨pv, cap, h1, h2, h3, h4⟩
    refine ⟨pv, cap, h1, h2, h3, fun hne => ?_⟩
    obtain ⟨ad, vs, a1, a2, a3⟩ := h4 hne
    refine ⟨ad, vs, a1, repL_mono (fun y _ cs => (iha y cs hs).1) a2, ?_⟩
    rw [h.fr, h.gr]; exact a3
  | tg q a iha =>
    intro x cs hs
    refine ⟨?_, fun hr => by simp [Rep.RepC] at hr⟩
    rintro ⟨pv, h1, h2, h4⟩
    refine ⟨pv, h1, h2, fun hne => ?_⟩
    obtain ⟨ad, vs, a1, a2, a3⟩ := h4 hne
    refine ⟨ad, vs, a1, repL_mono (fun y _ cs => (iha y cs hs).1) a2, ?_⟩
    rw [h.fr, h.gr]; exact a3
  | ip q a iha =>
    intro x cs hs
    refine ⟨?_, fun hr => by simp [Rep.RepC] at hr⟩
    rintro ⟨ad, vs, h1, h2, h3⟩
    refine ⟨ad, vs, h1, (iha _ _ hs).1 h2, ?_⟩
    rw [h.fr, h.gr]; exact h3
  | vc i gn =>
    intro x cs hs
    simp only [Ty.off, decide_eq_true_eq] at hs
    exact ⟨fun hr => by simpa only [Rep, G.vcr, h.sh i hs, h.bl, h.sz] using hr, fun hr => by simp [Rep.RepC] at hr⟩
  | sv i gn =>
    intro x cs hs
    simp only [Ty.off, decide_eq_true_eq] at hs
    exact ⟨fun hr => by simpa only [Rep, G.vcr, h.sh i hs, h.bl, h.sz] using hr, fun hr => by simp [Rep.RepC] at hr⟩
  | vp i gn p =>
    intro x cs hs
    simp only [Ty.off, decide_eq_true_eq] at hs
    exact ⟨fun hr => by simpa only [Rep, G.vcr, h.sh i hs, h.bl, h.sz] using hr, fun hr => by simp [Rep.RepC] at hr⟩
  | sub i p =>
    intro x cs hs
    simp only [Ty.off, decide_eq_true_eq] at hs
    exact ⟨fun hr => by simpa only [Rep, G.bxr, h.sh i hs, h.bl, h.sz] using hr, fun hr => by simp [Rep.RepC] at hr⟩
  | ptr i p =>
    intro x cs hs
    simp only [Ty.off, decide_eq_true_eq] at hs
    exact ⟨fun hr => by simpa only [Rep, G.bxr, h.sh i hs, h.bl, h.sz] using hr, fun hr => by simp [Rep.RepC] at hr⟩
  | fn f c ihc =>
    intro x cs hs
    refine ⟨?_, fun hr => by simp [Rep.RepC] at hr⟩
    rintro ⟨vs, h1, h2⟩
    exact ⟨vs, h1, (ihc _ _ hs).2 h2⟩

theorem off_TRep {e : Nat} {g g' : G} (h : g.bar e g') {T : Ty} {x : T.den} {v : Value} (hs : T.off e = true) (hr : TRep g T x v) : TRep g' T x v := by
  unfold TRep at hr ⊢
  split
  · rw [if_pos (by assumption)] at hr; obtain ⟨cs, h1, h2⟩ := hr; exact ⟨cs, h1, (off_Rep h _ _ _ hs).1 h2⟩
  · rw [if_neg (by assumption)] at hr; exact (off_Rep h _ _ _ hs).1 hr

theorem off_tup {e : Nat} {g g' : G} (h : g.bar e g') : ∀ {l : List TV} {vs : List Value}, (l.all fun t => t.T.off e) = true → tupRep g l vs → tupRep g' l vs
  | [], _, _, hr => hr
  | t :: ts, _, hs, ⟨v, r, h1, h2, h3⟩ => by
    simp only [List.all_cons, Bool.and_eq_true] at hs
    exact ⟨v, r, h1, off_TRep h hs.1 h2, off_tup h hs.2 h3⟩

def relAV (e k K : Nat) : AV → AV
  | .v (.vc i j) x => if i = e then (if j = k then .v (.vc e K) () else AV.und) else .v (.vc i j) x
  | .v T x => if T.off e then .v T x else AV.und
  | .tup l => if l.all fun t => t.T.off e then .tup l else AV.und

def offE (e : Nat) : Entry → Bool
  | .box T _ => T.off e
  | .vec _ a _ => a.off e
  | .map K V _ => K.off e && V.off e
  | _ => true

/-- an entry's growths counted from K on -/
def relSt (e K : Nat) (st : St) : Option St :=
  match getE st.heap e with
  | .vec k a l => if st.heap.all (offE e) then some ⟨st.env.map (relAV e k K), setE st.heap e (.vec K a l)⟩ else none
  | _ => none

def relAll : List ETy → Nat → St → Option St
  | [], _, st => some st
  | .vec K _ :: Es, i, st => match relSt i K st with
    | some st' => relAll Es (i + 1) st'
    | none => none
  | _ :: Es, i, st => relAll Es (i + 1) st

theorem getV_map (f : AV → AV) (hf : f AV.none = AV.none) : ∀ (env : List AV) (i : Nat), getV (env.map f) i = f (getV env i)
  | [], _ => hf.symm
  | a :: l, 0 => rfl
  | a :: l, i + 1 => by simpa only [List.map_cons, getV] using getV_map f hf l i

theorem relSt_rep {g g2 : G} {st st' : St} {a : Act} {w : World} {e K : Nat} (hle : g.le g2) (h : SRep g2 st a w) (hs : relSt e K st = some st') (hK : g.sh e = .free ∨ ∃ k0 s n, g.sh e = .vec k0 s n ∧ k0 < K) :
    (∃ g3, g.le g3 ∧ SRep g3 st' a w) ∧ st'.heap.length = st.heap.length := by
  unfold relSt at hs
  split at hs
  · rename_i k b l hE
    split at hs
    · rename_i hoff
      simp only [Option.some.injEq] at hs
      subst hs
      refine ⟨?_, setE_length _ _ _⟩
      have hlive : (getE st.heap e).live = true := by rw [hE]; rfl
      have hlt := lt_of_live hlive
      have hsh : g2.sh e = .vec k b.sk l.length := by rw [h.heap.sh, hE]; rfl
      let g3 : G := { g2 with sh := fun i => if i = e then .vec K b.sk l.length else g2.sh i }
      have hbar : g2.bar e g3 := ⟨rfl, rfl, rfl, rfl, rfl, fun i hi => by simp [g3, hi]⟩
      have h3e : g3.sh e = .vec K b.sk l.length := by simp [g3]
      have hle3 : g.le g3 := by
        refine ⟨hle.fr, hle.gr, hle.ext, fun i => ?_⟩
        by_cases hi : i = e
        · subst hi
          rcases hK with hK | ⟨k0, s, n, hK, hlt⟩
          · exact .new hK
          · exact .grew hK h3e hlt
        · have e1 : g3.sh i = g2.sh i := by simp [g3, hi]
          cases hle.ent i with
          | same a b c => exact .same (e1.trans a) b c
          | dead a => exact .dead (e1.trans a)
          | grew a b c => exact .grew a (e1.trans b) c
          | new a => exact .new a
      have hoffE : ∀ i, offE e (getE st.heap i) = true := getE_all (p := offE e) rfl hoff
      refine ⟨g3, hle3, ⟨?_, ?_, h.defers⟩⟩
      · have henv := h.env
        refine ⟨by rw [List.length_map]; exact henv.1, fun i => ?_⟩
        have hv := henv.2 i
        simp only
        rw [getV_map _ (by simp [relAV, AV.none])]
        generalize getV st.env i = v at hv ⊢
        unfold relAV
        split
        · rename_i i' j x
          split
          · rename_i hi
            subst hi
            split
            · rename_i hj
              subst hj
              have hv := (VRep_v (by simp)).1 hv
              refine (VRep_v (by simp)).2 ?_
              simp only [TRep, Ty.agg, Ty.sk, Sk.agg, Bool.false_eq_true, if_false, Rep, G.vcr, hsh, h3e] at hv ⊢
              obtain ⟨h1, _, h2⟩ := hv
              refine ⟨h1, Nat.le_refl _, fun _ => ?_⟩
              exact h2 trivial
            · trivial
          · rename_i hi
            have hv := (VRep_v (by simp)).1 hv
            refine (VRep_v (by simp)).2 (off_TRep hbar ?_ hv)
            simpa [Ty.off] using hi
        · rename_i T x _
          split
          · rename_i ho
            by_cases hT : T = .und
            · subst hT; trivial
            · exact (VRep_v hT).2 (off_TRep hbar ho ((VRep_v hT).1 hv))
          · trivial
        · rename_i l'
          split
          · rename_i ho
            obtain ⟨vs, h1, h2⟩ := hv
            exact ⟨vs, h1, off_tup hbar ho h2⟩
          · trivial
      · have hI := h.heap
        have hget : ∀ i, getE (setE st.heap e (.vec K b l)) i = if i = e then .vec K b l else getE st.heap i := by
          intro i; rw [getE_setE]; by_cases hi : i = e <;> simp [hi, hlt]
        have hlv : ∀ i, (getE (setE st.heap e (.vec K b l)) i).live = (getE st.heap i).live := by
          intro i; rw [hget]; by_cases hi : i = e
          · rw [if_pos hi, hi, hlive]; rfl
          · rw [if_neg hi]
        refine ⟨?_, hI.fr, hI.gr, ?_, ?_, hI.sep, ?_, hI.ext⟩
        · intro i; simp only; rw [hget]; by_cases hi : i = e
          · subst hi; rw [if_pos rfl, h3e]; rfl
          · rw [if_neg hi, hbar.sh i hi]; exact hI.sh i
        · intro i
          simp only
          rw [hget]
          have ho := hoffE i
          by_cases hi : i = e
          · subst hi
            rw [if_pos rfl]
            rw [hE] at ho
            have he := hI.ent i
            rw [hE] at he
            rcases he with he | ⟨b', cs, t, fz, vs, r, q1, q2, q3, q4, q5, q6, q7⟩
            · exact .inl he
            · exact .inr ⟨b', cs, t, fz, vs, r, q1, q2, q3, q4, q5, repL_mono (fun y _ cs => (off_Rep hbar b y cs ho).1) q6, q7⟩
          · rw [if_neg hi]
            have he := hI.ent i
            cases hEi : getE st.heap i with
            | free => trivial
            | dead => trivial
            | box T x =>
              rw [hEi] at he ho
              obtain ⟨b', cs, t, fz, q1, q2, q3, q4⟩ := he
              exact ⟨b', cs, t, fz, q1, q2, q3, (off_Rep hbar _ _ _ ho).1 q4⟩
            | map K2 V2 l2 =>
              rw [hEi] at he ho
              simp only [offE, Bool.and_eq_true] at ho
              obtain ⟨b', es, clock, q1, q2, q3⟩ := he
              exact ⟨b', es, clock, q1, q2, mapRep_mono (fun _ _ => off_TRep hbar ho.1) (fun _ _ => off_TRep hbar ho.2) q3⟩
            | itr s2 p2 =>
              rw [hEi] at he
              obtain ⟨q0, b', q1, q2⟩ := he
              exact ⟨q0, b', q1, q2⟩
            | vec k2 a2 l2 =>
              rw [hEi] at he ho
              rcases he with he | ⟨b', cs, t, fz, vs, r, q1, q2, q3, q4, q5, q6, q7⟩
              · exact .inl he
              · exact .inr ⟨b', cs, t, fz, vs, r, q1, q2, q3, q4, q5, repL_mono (fun y _ cs => (off_Rep hbar a2 y cs ho).1) q6, q7⟩
        · intro i b' hl hb
          simp only at hl
          rw [hlv] at hl
          exact hI.own i b' hl hb
        · intro i j b' hl hl' hb hb'
          simp only at hl hl'
          rw [hlv] at hl hl'
          exact hI.dis i j b' hl hl' hb hb'
    · cases hs
  · cases hs

/-- which entries grow, and from what -/
def Lower (g : G) (Es : List ETy) (i : Nat) : Prop := ∀ j K a, Es[j]? = some (.vec K a) → g.sh (i + j) = .free ∨ ∃ k0 s n, g.sh (i + j) = .vec k0 s n ∧ k0 < K

theorem relAll_rep {g : G} {a : Act} {w : World} : ∀ {Es : List ETy} {i : Nat} {g2 : G} {st st' : St}, g.le g2 → SRep g2 st a w → relAll Es i st = some st' → Lower g Es i → ∃ g3, g.le g3 ∧ SRep g3 st' a w
  | [], i, g2, st, st', hle, h, hs, hK => by
    simp only [relAll, Option.some.injEq] at hs
    subst hs
    exact ⟨g2, hle, h⟩
  | E :: Es, i, g2, st, st', hle, h, hs, hK => by
    have hK' : Lower g Es (i + 1) := fun j K a hj => by
      have := hK (j + 1) K a (by simpa using hj)
      rwa [show i + (j + 1) = i + 1 + j by omega] at this
    cases E with
    | vec K b =>
      simp only [relAll] at hs
      split at hs
      · rename_i st1 h1
        obtain ⟨⟨g3, q1, q2⟩, _⟩ := relSt_rep hle h h1 (by simpa using hK 0 K b (by simp))
        exact relAll_rep q1 q2 hs hK'
      · cases hs
    | _ => simp only [relAll] at hs; exact relAll_rep hle h hs hK'

/-! slices that are nil as the loop begins -/

def addIni : List Nat → List ETy → St → Option St
  | [], [], st => some st
  | s :: ss, .vec K a :: Es, st => if isNils (getV st.env s) then addIni ss Es ⟨setV st.env s (.v (.vc st.heap.length K) ()), st.heap ++ [.vec K a []]⟩ else none
  | _, _, _ => none

theorem setE_append_one (H : Heap) (E : Entry) : setE (H ++ frees 1) H.length E = H ++ [E] := by
  induction H with
  | nil => rfl
  | cons x H ih => simp only [List.cons_append, List.length_cons, setE]; rw [ih]

theorem getE_append_one (H : Heap) : getE (H ++ frees 1) H.length = .free := by
  rw [getE_append_frees]
  exact getE_past _ (Nat.le_refl _)

theorem addIni_rep {a : Act} {w : World} : ∀ {ss : List Nat} {Es : List ETy} {g : G} {st st' : St}, SRep g st a w → addIni ss Es st = some st' → ∃ g', g.le g' ∧ SRep g' st' a w
  | [], [], g, st, st', h, hs => by
    simp only [addIni, Option.some.injEq] at hs
    subst hs
    exact ⟨g, G.le.refl g, h⟩
  | [], _ :: _, g, st, st', h, hs => by simp [addIni] at hs
  | s :: ss, [], g, st, st', h, hs => by simp [addIni] at hs
  | s :: ss, E :: Es, g, st, st', h, hs => by
    cases E with
    | vec K b =>
      simp only [addIni] at hs
      split at hs
      · rename_i hn
        have hw : HInv g (st.heap ++ frees 1) w := h.heap.widen 1
        obtain ⟨g1, q1, q2, q3, q4⟩ := hw.nilVec (e := st.heap.length) (k := K) (a := b) (by simp [frees]) (.inl (getE_append_one _))
        rw [setE_append_one] at q2
        have henv : EnvRep g1 (setV st.env s (.v (.vc st.heap.length K) ())) a := by
          have h0 := h.env.mono q1
          refine ⟨by rw [setV_length]; exact h0.1, fun i => ?_⟩
          rw [getV_setV]
          by_cases hi : i = s ∧ s < st.env.length
          · rw [if_pos hi]
            have hv := h.env.2 i
            rw [hi.1] at hv ⊢
            unfold isNils at hn
            split at hn
            · rename_i u hu
              rw [hu] at hv
              have hv := (VRep_v (by simp)).1 hv
              simp only [TRep, Ty.agg, Ty.sk, Sk.agg, Bool.false_eq_true, if_false, Rep, List.cons.injEq, and_true] at hv
              rw [hv]
              exact vc_rep_nil q3 q4
            · cases hn
          · rw [if_neg hi]; exact h0.2 i
        obtain ⟨g2, w1, w2⟩ := addIni_rep (ss := ss) (Es := Es) (g := g1) (st := ⟨_, _⟩) ⟨henv, q2, h.defers.trans (congrArg Prod.snd q1.ext).symm⟩ hs
        exact ⟨g2, q1.trans w1, w2⟩
      · cases hs
    | _ => simp [addIni] at hs

/-! summaries of such loops -/

structure VSpec extends LSpec where
  ini : List Nat

def gensOk : List ETy → Nat → Heap → Bool
  | [], _, _ => true
  | .vec K _ :: Es, i, H => (match getE H i with
    | .vec k _ _ => decide (k < K)
    | .free => decide (H.length ≤ i)
    | _ => false) && gensOk Es (i + 1) H
  | _ :: Es, i, H => gensOk Es (i + 1) H

theorem gensOk_lower {g : G} {H : Heap} (hsh : ∀ e, g.sh e = shp (getE H e)) : ∀ {Es : List ETy} {i : Nat}, gensOk Es i H = true → Lower g Es i
  | [], i, _ => fun j K a hj => by simp at hj
  | E :: Es, i, h => by
    have tl : ∀ h', gensOk Es (i + 1) H = h' → h' = true → ∀ j K a, (E :: Es)[j + 1]? = some (.vec K a) → g.sh (i + (j + 1)) = .free ∨ ∃ k0 s n, g.sh (i + (j + 1)) = .vec k0 s n ∧ k0 < K := by
      rintro h' rfl h2 j K a hj
      have := gensOk_lower hsh h2 j K a (by simpa using hj)
      rwa [show i + (j + 1) = i + 1 + j by omega]
    cases E with
    | vec K0 b =>
      simp only [gensOk, Bool.and_eq_true] at h
      intro j K a hj
      cases j with
      | zero =>
        simp only [List.getElem?_cons_zero, Option.some.injEq, ETy.vec.injEq] at hj
        obtain ⟨rfl, _⟩ := hj
        have h1 := h.1
        rw [Nat.add_zero, hsh i]
        split at h1
        · rename_i k a' l hE
          rw [hE]
          exact .inr ⟨k, _, _, rfl, by simpa using h1⟩
        · rename_i hE; rw [hE]; exact .inl rfl
        · cases h1
      | succ j => exact tl _ rfl h.2 j K a hj
    | _ =>
      simp only [gensOk] at h
      intro j K a hj
      cases j with
      | zero => simp at hj
      | succ j => exact tl _ rfl h j K a hj

/-- a value seen as a wanted type, where it is one -/
def weak1 (T : Ty) (v : AV) : AV :=
  match T with
  | .imm q g a => match v with
    | .v (.imm p f b) x => if (q && !p) || (g && !f) then .v (.imm p f b) x else .v (.imm q g b) x
    | .v .nils u => if g then .v .nils u else .v (.imm q g a) []
    | v => v
  | _ => v

def weakE : List Nat → List Ty → Nat → List AV → List AV
  | k :: ks, T :: Ts, i, a :: l => if k = i then weak1 T a :: weakE ks Ts (i + 1) l else a :: weakE (k :: ks) (T :: Ts) (i + 1) l
  | _, _, _, l => l

theorem weak1_rep {g : G} {T : Ty} {v : AV} {rv : Value} (h : VRep g v rv) : VRep g (weak1 T v) rv := by
  unfold weak1
  split
  · rename_i q gg a
    split
    · rename_i p f b x
      split
      · exact h
      · rename_i hc
        have h := (VRep_v (by simp)).1 h
        refine (VRep_v (by simp)).2 ?_
        simp only [TRep, Ty.agg, Ty.sk, Sk.agg, Bool.false_eq_true, if_false, Rep] at h ⊢
        obtain ⟨pv, cap, h1, h2, h3, h4⟩ := h
        simp only [Bool.or_eq_true, Bool.and_eq_true, Bool.not_eq_true', not_or, not_and, Bool.not_eq_false] at hc
        refine ⟨pv, cap, h1, h2, fun hg => h3 (hc.2 hg), fun hne => ?_⟩
        obtain ⟨ad, vs, q1, q2, q3⟩ := h4 hne
        refine ⟨ad, vs, q1, q2, ?_⟩
        rcases q3 with q3 | ⟨hp, q3⟩
        · exact .inl q3
        · refine .inr ⟨?_, q3⟩
          cases q with
          | false => rfl
          | true => have := hc.1 rfl; rw [hp] at this; cases this
    · split
      · exact h
      · rename_i hg
        have h := (VRep_v (by simp)).1 h
        refine (VRep_v (by simp)).2 ?_
        simp only [TRep, Ty.agg, Ty.sk, Sk.agg, Bool.false_eq_true, if_false, Rep] at h ⊢
        exact ⟨none, 0, h, by simp, fun hg' => absurd hg' hg, by simp⟩
    · exact h
  · exact h

theorem weakE_length : ∀ (ks : List Nat) (Ts : List Ty) (i : Nat) (l : List AV), (weakE ks Ts i l).length = l.length := by
  intro ks Ts i l
  induction l generalizing ks Ts i with
  | nil => cases ks <;> cases Ts <;> rfl
  | cons a l ih =>
    cases ks with
    | nil => cases Ts <;> rfl
    | cons k ks =>
      cases Ts with
      | nil => rfl
      | cons T Ts =>
        simp only [weakE]
        split <;> simp [ih]

theorem weakE_get {g : G} : ∀ (ks : List Nat) (Ts : List Ty) (i : Nat) (l : List AV) (j : Nat) (rv : Value), VRep g (getV l j) rv → VRep g (getV (weakE ks Ts i l) j) rv := by
  intro ks Ts i l
  induction l generalizing ks Ts i with
  | nil => intro j rv h; cases ks <;> cases Ts <;> exact h
  | cons a l ih =>
    intro j rv h
    cases ks with
    | nil => cases Ts <;> exact h
    | cons k ks =>
      cases Ts with
      | nil => exact h
      | cons T Ts =>
        simp only [weakE]
        split
        · cases j with
          | zero => exact weak1_rep h
          | succ j => exact ih ks Ts (i + 1) j rv h
        · cases j with
          | zero => exact h
          | succ j => exact ih (k :: ks) (T :: Ts) (i + 1) j rv h

def weakSt (live : List Nat) (Ts : List Ty) (st : St) : St := ⟨weakE live Ts 0 st.env, st.heap⟩

theorem weakSt_rep {g : G} {st : St} {a : Act} {w : World} (h : SRep g st a w) (live : List Nat) (Ts : List Ty) : SRep g (weakSt live Ts st) a w :=
  ⟨⟨by simp only [weakSt]; rw [weakE_length]; exact h.env.1, fun i => weakE_get live Ts 0 st.env i _ (h.env.2 i)⟩, h.heap, h.defers⟩

/-- a state behind a round, brought into form -/
def VSpec.norm (S : VSpec) (st : St) : Option (HL S.Ts × HD S.Es) :=
  if heapUnder S.Es.length (st.heap.take S.Es.length) then
    match relAll S.Es 0 (cutA S.Es.length st) with
    | some st' => decS S.live S.Ts S.Es S.nt (weakSt S.live S.Ts st')
    | none => none
  else none

/-- a state as the loop begins, brought into form -/
def VSpec.enter (S : VSpec) (st : St) : Option (HL S.Ts × HD S.Es) :=
  if gensOk S.Es 0 st.heap && decide (st.heap.length + S.ini.length = S.Es.length) then
    match addIni S.ini (S.Es.drop st.heap.length) st with
    | some st1 => match relAll (S.Es.take st.heap.length) 0 st1 with
      | some st2 => decS S.live S.Ts S.Es S.nt (weakSt S.live S.Ts st2)
      | none => none
    | none => none
  else none

def VSpec.round (S : VSpec) (body : St → Tr (Ex × St)) (xs : HL S.Ts) (hs : HD S.Es) : Tr S.toLSpec.End :=
  (body (S.enc xs hs)).bind fun r => match r.1 with
    | .normal => match S.norm r.2 with
      | some d => .ret (.inl d)
      | none => .fail
    | x => .ret (.inr (x, keepS S.out r.2))

def VSpec.many (S : VSpec) (body : St → Tr (Ex × St)) : Nat → HL S.Ts → HD S.Es → Option (Ex × St)
  | 0, _, _ => none
  | n + 1, xs, hs => match (S.round body xs hs).eval with
    | some (.inl d) => S.many body n d.1 d.2
    | some (.inr r) => some r
    | none => none

def VSpec.fn (S : VSpec) (F : HL S.Ts → HD S.Es → Tr (Ex × St)) (st : St) : Tr (Ex × St) :=
  match S.enter st with
  | some d => F d.1 d.2
  | none => .fail

section
variable {P : Program} {C : Ctx} {L : Loops}

theorem norm_rep {S : VSpec} {g g2 : G} {st : St} {a : Act} {w : World} {d : HL S.Ts × HD S.Es} (hfree : ∀ e, S.Es.length ≤ e → g.sh e = .free) (hlow : Lower g S.Es 0) (hle : g.le g2) (h : SRep g2 st a w) (hn : S.norm st = some d) :
    ∃ g3, g.le g3 ∧ SRep g3 (S.enc d.1 d.2) a w := by
  unfold VSpec.norm at hn
  split at hn
  · rename_i hc
    obtain ⟨g3, q1, q2⟩ := cutA_rep hfree hle h hc
    split at hn
    · rename_i st' hst
      obtain ⟨g4, w1, w2⟩ := relAll_rep q1 q2 hst hlow
      have hr := keepS_rep (weakSt_rep w2 S.live S.Ts) S.live
      rw [decS_some hn] at hr
      exact ⟨g4, w1, hr⟩
    · cases hn
  · cases hn

theorem enter_rep {S : VSpec} {g : G} {st : St} {a : Act} {w : World} {d : HL S.Ts × HD S.Es} (h : SRep g st a w) (hn : S.enter st = some d) :
    (∃ g3, g.le g3 ∧ SRep g3 (S.enc d.1 d.2) a w) ∧ (∀ e, S.Es.length ≤ e → g.sh e = .free) ∧ Lower g S.Es 0 := by
  unfold VSpec.enter at hn
  split at hn
  · rename_i hc
    simp only [Bool.and_eq_true, decide_eq_true_eq] at hc
    obtain ⟨hc1, hc2⟩ := hc
    have hlow := gensOk_lower h.heap.sh hc1
    refine ⟨?_, free_past h (by omega), hlow⟩
    split at hn
    · rename_i st1 h1
      obtain ⟨g1, q1, q2⟩ := addIni_rep h h1
      split at hn
      · rename_i st2 h2
        have hlow' : Lower g (S.Es.take st.heap.length) 0 := by
          intro j K a hj
          rw [List.getElem?_take] at hj
          split at hj
          · exact hlow j K a hj
          · cases hj
        obtain ⟨g2, w1, w2⟩ := relAll_rep q1 q2 h2 hlow'
        have hr := keepS_rep (weakSt_rep w2 S.live S.Ts) S.live
        rw [decS_some hn] at hr
        exact ⟨g2, w1, hr⟩
      · cases hn
    · cases hn
  · cases hn

theorem vmany_sound {rd : Option Nat} (hC : CtxSound P C ∧ CtxLocal C) {c : Code} (hl : LoopsOK P L c) (S : VSpec) {n : Nat} {g g0 : G} {xs : HL S.Ts} {hs : HD S.Es} {st' : St} {a : Act} {w : World} {x : Ex}
    {Q : Exit → Act → World → Prop} (hfree : ∀ e, S.Es.length ≤ e → g.sh e = .free) (hlow : Lower g S.Es 0) (hle0 : g.le g0) (hr : SRep g0 (S.enc xs hs) a w) (he : S.many (bodyK P C L c) n xs hs = some (x, st'))
    (hn : ∀ g' a' w', g.le g' → SRep g' st' a' w' → Q x.out a' w') : (Code.loop c).wpIn (FW rd) 0 P Q a w := by
  refine wpIn_loop_ghost (fun m a w => ∃ g1 xs hs, g.le g1 ∧ SRep g1 (S.enc xs hs) a w ∧ S.many (bodyK P C L c) m xs hs = some (x, st')) n ⟨g0, xs, hs, hle0, hr, he⟩ ?_
  rintro m a w ⟨g1, xs, hs, hle, hs1, he1⟩
  cases m with
  | zero => cases he1
  | succ m =>
    simp only [VSpec.many] at he1
    have key : ∀ r, (S.round (bodyK P C L c) xs hs).eval = some r → ∃ y s2, (bodyK P C L c (S.enc xs hs)).eval = some (y, s2) ∧ (match y with
        | .normal => match S.norm s2 with
          | some d => (Tr.ret (.inl d) : Tr S.toLSpec.End)
          | none => .fail
        | x => .ret (.inr (x, keepS S.out s2))).eval = some r := by
      intro r hr
      obtain ⟨⟨y, s2⟩, h1, h2⟩ := Tr.bind_some hr
      exact ⟨y, s2, h1, h2⟩
    split at he1
    · rename_i d hd
      obtain ⟨y, s2, h1, h2⟩ := key _ hd
      refine code_sound hC.1 hC.2 c hl hs1 (bodyK_ok h1) ?_
      intro g2 a' w' hle2 hs2
      cases y with
      | normal =>
        simp only at h2
        split at h2
        · rename_i d' hd'
          have := Tr.ret_some h2
          simp only [Sum.inl.injEq] at this
          subst this
          obtain ⟨g3, q1, q2⟩ := norm_rep hfree hlow (hle.trans hle2) hs2 hd'
          exact ⟨m, Nat.lt_succ_self m, g3, _, _, q1, q2, he1⟩
        · exact (Tr.fail_some h2).elim
      | exit i => have := Tr.ret_some h2; cases this
      | ret => have := Tr.ret_some h2; cases this
    · rename_i r hd
      simp only [Option.some.injEq] at he1
      subst he1
      obtain ⟨y, s2, h1, h2⟩ := key _ hd
      refine code_sound hC.1 hC.2 c hl hs1 (bodyK_ok h1) ?_
      intro g2 a' w' hle2 hs2
      cases y with
      | normal =>
        simp only at h2
        split at h2
        · have := Tr.ret_some h2; cases this
        · exact (Tr.fail_some h2).elim
      | exit i =>
        have := Tr.ret_some h2
        simp only [Sum.inr.injEq, Prod.mk.injEq] at this
        obtain ⟨rfl, rfl⟩ := this
        exact hn _ _ _ (hle.trans hle2) (keepS_rep hs2 S.out)
      | ret =>
        have := Tr.ret_some h2
        simp only [Sum.inr.injEq, Prod.mk.injEq] at this
        obtain ⟨rfl, rfl⟩ := this
        exact hn _ _ _ (hle.trans hle2) (keepS_rep hs2 S.out)
    · cases he1

/-- a loop's summary is right -/
theorem vloop_ok {L' : Loops} (hC : CtxSound P C ∧ CtxLocal C) {c : Code} (hl : LoopsOK P L' c) (S : VSpec) {F : HL S.Ts → HD S.Es → Tr (Ex × St)} {i : Nat}
    (hi : firstReg c = some i) (hL : ∀ st, L i st = S.fn F st) (key : ∀ xs hs r, (F xs hs).eval = some r → ∃ n, S.many (bodyK P C L' c) n xs hs = some r) : LoopOK P L c := by
  intro j hj rd g st a w x st' Q hs he hn
  rw [hi] at hj
  cases hj
  rw [hL] at he
  unfold VSpec.fn at he
  split at he
  · rename_i d hd
    obtain ⟨n, hm⟩ := key _ _ _ he
    obtain ⟨⟨g3, q1, q2⟩, q3, q4⟩ := enter_rep hs hd
    exact vmany_sound hC hl S q3 q4 q1 q2 hm hn
  · exact (Tr.fail_some he).elim

theorem vmany_inl {S : VSpec} {body : St → Tr (Ex × St)} {xs : HL S.Ts} {hs : HD S.Es} {d : HL S.Ts × HD S.Es} (h : (S.round body xs hs).eval = some (.inl d)) (n : Nat) : S.many body (n + 1) xs hs = S.many body n d.1 d.2 := by
  simp only [VSpec.many, h]

theorem vmany_inr {S : VSpec} {body : St → Tr (Ex × St)} {xs : HL S.Ts} {hs : HD S.Es} {r : Ex × St} (h : (S.round body xs hs).eval = some (.inr r)) (n : Nat) : S.many body (n + 1) xs hs = some r := by
  simp only [VSpec.many, h]

end
end Vse

end
section
/- Calls of functions that are given pointers: they are run on the entries that can be reached; all others are lent. Nothing here is about one program. -/
set_option linter.unusedVariables false
namespace Vse
open Go Go.ChangeShapes

/-- a type that looks into some entries alone; 'st': and into nothing that is only lent -/
def Ty.inn (p : Nat → Bool) (st : Bool) : Ty → Bool
  | .prod a b => a.inn p st && b.inn p st
  | .arr _ a => a.inn p st
  | .imm q _ a => (q || !st) && a.inn p st
  | .tg q a => (q || !st) && a.inn p st
  | .ip q a => (q || !st) && a.inn p st
  | .fn _ c => c.inn p st
  | .vc e _ | .sv e _ | .vp e _ _ | .sub e _ | .ptr e _ | .mp e | .ch e => p e
  | _ => true

structure G.agree (p : Nat → Bool) (st : Bool) (g g' : G) : Prop where
  fr : ∀ b o, g.fr b = some o → g'.fr b = some o
  gr : st = false → ∀ b o, g.gr b = some o → g'.gr b = some o
  at_ : ∀ e, p e = true → g'.sh e = g.sh e ∧ g'.bl e = g.bl e ∧ g'.sz e = g.sz e

theorem inn_Rep {p : Nat → Bool} {st : Bool} {g g' : G} (h : g.agree p st g') : ∀ (T : Ty) (x : T.den) (cs : List Value), T.inn p st = true → (Rep g T x cs → Rep g' T x cs) ∧ (Rep.RepC g T x cs → Rep.RepC g' T x cs) := by
  intro T
  induction T with
  | bool | int | str | und | nils | nilp | nilm | nilf | nili | it => intro x cs _; exact ⟨fun hr => hr, fun hr => by simp [Rep.RepC] at hr⟩
  | mp e | ch e =>
    intro x cs hs
    obtain ⟨h1, h2, h3⟩ := h.at_ e hs
    exact ⟨fun hr => by simpa only [Rep, G.mpr, h1, h2] using hr, fun hr => by simp [Rep.RepC] at hr⟩
  | unit => intro x cs _; exact ⟨fun hr => hr, fun hr => hr⟩
  | prod a b iha ihb =>
    intro x cs hs
    simp only [Ty.inn, Bool.and_eq_true] at hs
    constructor
    · rintro ⟨c1, c2, rfl, h1, h2⟩
      exact ⟨c1, c2, rfl, (iha _ _ hs.1).1 h1, (ihb _ _ hs.2).1 h2⟩
    · rintro ⟨v, r, rfl, h1, h2⟩
      refine ⟨v, r, rfl, ?_, (ihb _ _ hs.2).2 h2⟩
      split at h1
      · obtain ⟨cs, hv, hr⟩ := h1; rw [if_pos (by assumption)]; exact ⟨cs, hv, (iha _ _ hs.1).1 hr⟩
      · rw [if_neg (by assumption)]; exact (iha _ _ hs.1).1 h1
  | arr k a iha =>
    intro x cs hs
    exact ⟨fun hr => ⟨hr.1, repL_mono (fun y _ cs => (iha y cs hs).1) hr.2⟩, fun hr => by simp [Rep.RepC] at hr⟩
  | imm q f a iha =>
    intro x cs hs
    simp only [Ty.inn, Bool.and_eq_true] at hs
    refine ⟨?_, fun hr => by simp [Rep.RepC] at hr⟩
    rintro ⟨pv, cap, h1, h2, h3, h4⟩
    refine ⟨pv, cap, h1, h2, h3, fun hne => ?_⟩
    obtain ⟨ad, vs, a1, a2, a3⟩ := h4 hne
    refine ⟨ad, vs, a1, repL_mono (fun y _ cs => (iha y cs hs.2).1) a2, ?_⟩
    rcases a3 with a3 | ⟨a3, a4⟩
    · exact .inl (reads_mono h.fr a3)
    · refine .inr ⟨a3, reads_mono (h.gr ?_) a4⟩
      have := hs.1
      subst a3
      simpa using this
  | tg q a iha =>
    intro x cs hs
    simp only [Ty.inn, Bool.and_eq_true] at hs
    refine ⟨?_, fun hr => by simp [Rep.RepC] at hr⟩
    rintro ⟨pv, h1, h2, h4⟩
    refine ⟨pv, h1, h2, fun hne => ?_⟩
    obtain ⟨ad, vs, a1, a2, a3⟩ := h4 hne
    refine ⟨ad, vs, a1, repL_mono (fun y _ cs => (iha y cs hs.2).1) a2, ?_⟩
    rcases a3 with a3 | ⟨a3, a4⟩
    · exact .inl (reads_mono h.fr a3)
    · refine .inr ⟨a3, reads_mono (h.gr ?_) a4⟩
      have := hs.1
      subst a3
      simpa using this
  | ip q a iha =>
    intro x cs hs
    simp only [Ty.inn, Bool.and_eq_true] at hs
    refine ⟨?_, fun hr => by simp [Rep.RepC] at hr⟩
    rintro ⟨ad, vs, h1, h2, h3⟩
    refine ⟨ad, vs, h1, (iha _ _ hs.2).1 h2, ?_⟩
    rcases h3 with a3 | ⟨a3, a4⟩
    · exact .inl (reads_mono h.fr a3)
    · refine .inr ⟨a3, reads_mono (h.gr ?_) a4⟩
      have := hs.1
      subst a3
      simpa using this
  | vc i gn =>
    intro x cs hs
    obtain ⟨h1, h2, h3⟩ := h.at_ i hs
    exact ⟨fun hr => by simpa only [Rep, G.vcr, h1, h2, h3] using hr, fun hr => by simp [Rep.RepC] at hr⟩
  | sv i gn =>
    intro x cs hs
    obtain ⟨h1, h2, h3⟩ := h.at_ i hs
    exact ⟨fun hr => by simpa only [Rep, G.vcr, h1, h2, h3] using hr, fun hr => by simp [Rep.RepC] at hr⟩
  | vp i gn p =>
    intro x cs hs
    obtain ⟨h1, h2, h3⟩ := h.at_ i hs
    exact ⟨fun hr => by simpa only [Rep, G.vcr, h1, h2, h3] using hr, fun hr => by simp [Rep.RepC] at hr⟩
  | sub i p =>
    intro x cs hs
    obtain ⟨h1, h2, h3⟩ := h.at_ i hs
    exact ⟨fun hr => by simpa only [Rep, G.bxr, h1, h2, h3] using hr, fun hr => by simp [Rep.RepC] at hr⟩
  | ptr i p =>
    intro x cs hs
    obtain ⟨h1, h2, h3⟩ := h.at_ i hs
    exact ⟨fun hr => by simpa only [Rep, G.bxr, h1, h2, h3] using hr, fun hr => by simp [Rep.RepC] at hr⟩
  | fn f c ihc =>
    intro x cs hs
    refine ⟨?_, fun hr => by simp [Rep.RepC] at hr⟩
    rintro ⟨vs, h1, h2⟩
    exact ⟨vs, h1, (ihc _ _ hs).2 h2⟩

theorem inn_TRep {p : Nat → Bool} {st : Bool} {g g' : G} (h : g.agree p st g') {T : Ty} {x : T.den} {v : Value} (hs : T.inn p st = true) (hr : TRep g T x v) : TRep g' T x v := by
  unfold TRep at hr ⊢
  split
  · rw [if_pos (by assumption)] at hr; obtain ⟨cs, h1, h2⟩ := hr; exact ⟨cs, h1, (inn_Rep h _ _ _ hs).1 h2⟩
  · rw [if_neg (by assumption)] at hr; exact (inn_Rep h _ _ _ hs).1 hr

theorem inn_tup {p : Nat → Bool} {st : Bool} {g g' : G} (h : g.agree p st g') : ∀ {l : List TV} {vs : List Value}, (l.all fun t => t.T.inn p st) = true → tupRep g l vs → tupRep g' l vs
  | [], _, _, hr => hr
  | t :: ts, _, hs, ⟨v, r, h1, h2, h3⟩ => by
    simp only [List.all_cons, Bool.and_eq_true] at hs
    exact ⟨v, r, h1, inn_TRep h hs.1 h2, inn_tup h hs.2 h3⟩

def AV.inn (p : Nat → Bool) (st : Bool) : AV → Bool
  | .v T _ => T.inn p st
  | .tup l => l.all fun t => t.T.inn p st

theorem inn_VRep {p : Nat → Bool} {st : Bool} {g g' : G} (h : g.agree p st g') {a : AV} {v : Value} (hs : a.inn p st = true) (hr : VRep g a v) : VRep g' a v := by
  cases a with
  | v T x =>
    cases T <;> first | trivial | exact inn_TRep h hs hr
  | tup l => obtain ⟨vs, h1, h2⟩ := hr; exact ⟨vs, h1, inn_tup h hs h2⟩

theorem inn_args {p : Nat → Bool} {st : Bool} {g g' : G} (h : g.agree p st g') : ∀ {l : List AV} {vs : List Value}, (l.all fun a => a.inn p st) = true → argsRep g l vs → argsRep g' l vs
  | [], _, _, hr => hr
  | t :: ts, _, hs, ⟨v, r, h1, h2, h3⟩ => by
    simp only [List.all_cons, Bool.and_eq_true] at hs
    exact ⟨v, r, h1, inn_VRep h hs.1 h2, inn_args h hs.2 h3⟩

def Entry.inn (p : Nat → Bool) (st : Bool) : Entry → Bool
  | .box T _ => T.inn p st
  | .vec _ a _ => a.inn p st
  | .map K V _ => K.inn p st && V.inn p st
  | _ => true

theorem inn_ERep {p : Nat → Bool} {st : Bool} {g g' : G} (h : g.agree p st g') {e : Nat} {w : World} {E : Entry} (hp : p e = true) (hs : E.inn p st = true) (hr : ERep g e w E) : ERep g' e w E := by
  obtain ⟨_, hb, hz⟩ := h.at_ e hp
  cases E with
  | free => trivial
  | dead => trivial
  | box T x =>
    obtain ⟨b, cs, t, fz, q1, q2, q3, q4⟩ := hr
    exact ⟨b, cs, t, fz, hb.trans q1, q2, q3, (inn_Rep h _ _ _ hs).1 q4⟩
  | map K V l =>
    simp only [Entry.inn, Bool.and_eq_true] at hs
    obtain ⟨b, es, clock, q1, q2, q3⟩ := hr
    exact ⟨b, es, clock, hb.trans q1, q2, mapRep_mono (fun _ _ => inn_TRep h hs.1) (fun _ _ => inn_TRep h hs.2) q3⟩
  | itr s p =>
    obtain ⟨q0, b, q1, q2⟩ := hr
    exact ⟨q0, b, hb.trans q1, q2⟩
  | vec k a l =>
    rcases hr with ⟨q1, q2⟩ | ⟨b, cs, t, fz, vs, r, q1, q2, q3, q4, q5, q6, q7⟩
    · exact .inl ⟨hb.trans q1, q2⟩
    · exact .inr ⟨b, cs, t, fz, vs, r, hb.trans q1, q2, q3, hz.trans q4, q5, repL_mono (fun y _ cs => (inn_Rep h a y cs hs).1) q6, q7⟩

/-! memory as such a function finds it -/

def mem (ids : List Nat) (e : Nat) : Bool := ids.contains e

/-- the entries that can be reached, each in its place -/
def partH (ids : List Nat) (H : Heap) (n : Nat) : Heap := (List.range n).map fun e => if mem ids e then getE H e else .dead

theorem getE_map {f : Nat → Entry} : ∀ (n k e : Nat), getE ((List.range' k n).map f) e = if e < n then f (k + e) else .free
  | 0, k, e => by simp [getE]
  | n + 1, k, 0 => by simp [List.range'_succ, getE]
  | n + 1, k, e + 1 => by
    rw [List.range'_succ, List.map_cons]
    simp only [getE]
    rw [getE_map n (k + 1) e]
    simp only [Nat.add_lt_add_iff_right, show k + 1 + e = k + (e + 1) by omega]

theorem getE_partH (ids : List Nat) (H : Heap) (n e : Nat) : getE (partH ids H n) e = if e < n then (if mem ids e then getE H e else .dead) else .free := by
  unfold partH
  rw [List.range_eq_range', getE_map]
  simp

noncomputable def G.part (g : G) (H : Heap) (w : World) (ids : List Nat) (n : Nat) : G where
  fr := g.fr
  gr := fun b => open Classical in if (g.gr b).isSome then g.gr b else if ∃ e, mem ids e = false ∧ (getE H e).live = true ∧ g.bl e = some b then w.heap[b]? else none
  bl := g.bl
  sz := g.sz
  sh := fun e => if e < n then (if mem ids e then g.sh e else .dead) else .free
  ext := g.ext

variable {g : G} {H : Heap} {w : World} {ids : List Nat} {n : Nat}

theorem part_gr_mono {b : Nat} {o : Obj} (h : g.gr b = some o) : (g.part H w ids n).gr b = some o := by simp [G.part, h]

theorem part_gr_lent (hI : HInv g H w) {e b : Nat} (hm : mem ids e = false) (hl : (getE H e).live = true) (hb : g.bl e = some b) : (g.part H w ids n).gr b = w.heap[b]? := by
  simp only [G.part]
  rw [(hI.own _ _ hl hb).2]
  simp only [Option.isSome_none, Bool.false_eq_true, if_false]
  rw [if_pos ⟨e, hm, hl, hb⟩]

theorem part_agree (hids : ∀ e, mem ids e = true → e < n) : g.agree (mem ids) false (g.part H w ids n) where
  fr _ _ h := h
  gr _ _ _ h := part_gr_mono h
  at_ e he := by simp [G.part, he, hids e he]

theorem part_inv (hI : HInv g H w) (hids : ∀ e, mem ids e = true → e < n) (hcl : ∀ e, mem ids e = true → (getE H e).inn (mem ids) false = true) : HInv (g.part H w ids n) (partH ids H n) w := by
  have hlive : ∀ e, (getE (partH ids H n) e).live = true → mem ids e = true ∧ (getE H e).live = true := by
    intro e h
    rw [getE_partH] at h
    split at h
    · split at h
      · exact ⟨by assumption, h⟩
      · cases h
    · cases h
  refine ⟨?_, hI.fr, ?_, ?_, ?_, ?_, ?_, hI.ext⟩
  · intro e
    rw [getE_partH]
    simp only [G.part]
    split
    · split
      · exact hI.sh e
      · rfl
    · rfl
  · intro b o h
    simp only [G.part] at h
    split at h
    · exact hI.gr _ _ h
    · split at h
      · exact h
      · cases h
  · intro e
    rw [getE_partH]
    split
    · split
      · rename_i hm
        exact inn_ERep (part_agree hids) hm (hcl e hm) (hI.ent e)
      · trivial
    · trivial
  · intro e b hl hb
    obtain ⟨hm, hl⟩ := hlive e hl
    have hb : g.bl e = some b := hb
    refine ⟨(hI.own e b hl hb).1, ?_⟩
    simp only [G.part]
    rw [(hI.own e b hl hb).2]
    simp only [Option.isSome_none, Bool.false_eq_true, if_false]
    rw [if_neg]
    rintro ⟨e', hm', hl', hb'⟩
    have := hI.dis e e' b hl hl' hb hb'
    subst this
    rw [hm] at hm'; cases hm'
  · intro b o o' h h'
    simp only [G.part] at h h'
    split at h'
    · exact hI.sep _ _ _ h h'
    · split at h'
      · rename_i he
        obtain ⟨e', hm', hl', hb'⟩ := he
        rw [(hI.own _ _ hl' hb').1] at h; cases h
      · cases h'
  · intro e e' b hl hl' hb hb'
    exact hI.dis e e' b (hlive e hl).2 (hlive e' hl').2 hb hb'

/-! ..and back -/

/-- what may have been turned -/
def turned (ids : List Nat) (n N : Nat) (e : Nat) : Bool := mem ids e || (decide (n ≤ e) && decide (e < n + N))

def G.join (g g1 : G) (ids : List Nat) (n N : Nat) : G where
  fr := g1.fr
  gr := g.gr
  ext := g.ext
  sh := fun e => if turned ids n N e then g1.sh e else g.sh e
  bl := fun e => if turned ids n N e then g1.bl e else g.bl e
  sz := fun e => if turned ids n N e then g1.sz e else g.sz e

theorem join_inv {g1 : G} {H1 H2 : Heap} {w1 : World} {N : Nat} (hI : HInv g H w) (hids : ∀ e, mem ids e = true → e < n) (hfree : ∀ e, n ≤ e → e < n + N → g.sh e = .free) (hle : (g.part H w ids n).le g1) (hI1 : HInv g1 H1 w1)
    (hinn : ∀ e, turned ids n N e = true → (getE H1 e).inn (turned ids n N) true = true) (h2 : ∀ e, getE H2 e = if turned ids n N e then getE H1 e else getE H e) :
    g.le (g.join g1 ids n N) ∧ HInv (g.join g1 ids n N) H2 w1 ∧ g1.agree (turned ids n N) true (g.join g1 ids n N) := by
  have hag : g1.agree (turned ids n N) true (g.join g1 ids n N) := ⟨fun _ _ h => h, (fun h => by cases h), fun e he => by simp [G.join, he]⟩
  have hgr : g1.gr = (g.part H w ids n).gr := hle.gr
  have hle2 : g.le (g.join g1 ids n N) := by
    refine ⟨hle.fr, rfl, rfl, fun e => ?_⟩
    by_cases ht : turned ids n N e = true
    · have hj : (g.join g1 ids n N).sh e = g1.sh e ∧ (g.join g1 ids n N).bl e = g1.bl e ∧ (g.join g1 ids n N).sz e = g1.sz e := by simp [G.join, ht]
      by_cases hm : mem ids e = true
      · have hp : (g.part H w ids n).sh e = g.sh e := by simp [G.part, hids e hm, hm]
        cases hle.ent e with
        | same a b c => exact .same (hj.1.trans (a.trans hp)) (hj.2.1.trans b) (hj.2.2.trans c)
        | dead a => exact .dead (hj.1.trans a)
        | grew a b c => exact .grew (hp ▸ a) (hj.1.trans b) c
        | new a => exact .new (hp ▸ a)
      · have : n ≤ e ∧ e < n + N := by simpa [turned, hm] using ht
        exact .new (hfree e this.1 this.2)
    · exact .same (by simp [G.join, ht]) (by simp [G.join, ht]) (by simp [G.join, ht])
  have hmem : ∀ {e}, turned ids n N e = false → mem ids e = false := by
    intro e h
    simp only [turned, Bool.or_eq_false_iff] at h
    exact h.1
  have lent : ∀ {e b}, turned ids n N e = false → (getE H e).live = true → g.bl e = some b → ∃ o, w.heap[b]? = some o ∧ g1.gr b = some o := by
    intro e b ht hl hb
    obtain ⟨o0, hx⟩ := hI.there hl hb
    exact ⟨_, hx, by rw [hgr, part_gr_lent hI (hmem ht) hl hb, hx]⟩
  refine ⟨hle2, ⟨?_, hI1.fr, ?_, ?_, ?_, ?_, ?_, ?_⟩, hag⟩
  · intro e
    rw [h2]
    simp only [G.join]
    split
    · exact hI1.sh e
    · exact hI.sh e
  · intro b o h
    have h : g.gr b = some o := h
    refine hI1.gr b o ?_
    rw [hgr]
    exact part_gr_mono h
  · intro e
    rw [h2]
    split
    · rename_i ht
      exact inn_ERep hag ht (hinn e ht) (hI1.ent e)
    · rename_i ht
      have ht : turned ids n N e = false := by simpa using ht
      by_cases hl : (getE H e).live = true
      · refine ERep_mono hle2 (by simp [G.join, ht]) (by simp [G.join, ht]) (ERep_world (fun b hb o ho => ?_) (hI.ent e))
        obtain ⟨o', q1, q2⟩ := lent ht hl hb
        rw [q1] at ho; cases ho
        exact hI1.gr b _ q2
      · cases hE : getE H e with
        | free => trivial
        | dead => trivial
        | box _ _ => rw [hE] at hl; exact absurd rfl hl
        | vec _ _ _ => rw [hE] at hl; exact absurd rfl hl
        | map _ _ _ => rw [hE] at hl; exact absurd rfl hl
        | itr _ _ => rw [hE] at hl; exact absurd rfl hl
  · intro e b hl hb
    rw [h2] at hl
    cases ht : turned ids n N e with
    | true =>
      rw [ht] at hl
      simp only [if_true] at hl
      have hb : g1.bl e = some b := by simpa [G.join, ht] using hb
      obtain ⟨q1, q2⟩ := hI1.own e b hl hb
      refine ⟨q1, ?_⟩
      refine Option.eq_none_iff_forall_ne_some.2 fun o hc => ?_
      have hc : g.gr b = some o := hc
      rw [hgr, part_gr_mono hc] at q2; cases q2
    | false =>
      rw [ht] at hl
      simp only [Bool.false_eq_true, if_false] at hl
      have hb : g.bl e = some b := by simpa [G.join, ht] using hb
      refine ⟨?_, (hI.own e b hl hb).2⟩
      obtain ⟨o, q1, q2⟩ := lent ht hl hb
      refine Option.eq_none_iff_forall_ne_some.2 fun o' hc => ?_
      exact hI1.sep b o' o hc q2
  · intro b o o' h h'
    have h' : g.gr b = some o' := h'
    exact hI1.sep b o o' h (by rw [hgr]; exact part_gr_mono h')
  · intro e e' b hl hl' hb hb'
    rw [h2] at hl hl'
    cases ht : turned ids n N e with
    | true =>
      rw [ht] at hl
      simp only [if_true] at hl
      have hb : g1.bl e = some b := by simpa [G.join, ht] using hb
      cases ht' : turned ids n N e' with
      | true =>
        rw [ht'] at hl'
        simp only [if_true] at hl'
        have hb' : g1.bl e' = some b := by simpa [G.join, ht'] using hb'
        exact hI1.dis e e' b hl hl' hb hb'
      | false =>
        rw [ht'] at hl'
        simp only [Bool.false_eq_true, if_false] at hl'
        have hb' : g.bl e' = some b := by simpa [G.join, ht'] using hb'
        obtain ⟨o, q1, q2⟩ := lent ht' hl' hb'
        have := (hI1.own e b hl hb).2
        rw [this] at q2; cases q2
    | false =>
      rw [ht] at hl
      simp only [Bool.false_eq_true, if_false] at hl
      have hb : g.bl e = some b := by simpa [G.join, ht] using hb
      cases ht' : turned ids n N e' with
      | true =>
        rw [ht'] at hl'
        simp only [if_true] at hl'
        have hb' : g1.bl e' = some b := by simpa [G.join, ht'] using hb'
        obtain ⟨o, q1, q2⟩ := lent ht hl hb
        have := (hI1.own e' b hl' hb').2
        rw [this] at q2; cases q2
      | false =>
        rw [ht'] at hl'
        simp only [Bool.false_eq_true, if_false] at hl'
        have hb' : g.bl e' = some b := by simpa [G.join, ht'] using hb'
        exact hI.dis e e' b hl hl' hb hb'
  · exact (by have := hI1.ext; rw [hle.ext] at this; exact this)

/-! which entries can be reached -/

def Ty.ents : Ty → List Nat
  | .prod a b => a.ents ++ b.ents
  | .arr _ a => a.ents
  | .imm _ _ a => a.ents
  | .tg _ a => a.ents
  | .ip _ a => a.ents
  | .fn _ c => c.ents
  | .vc e _ | .sv e _ | .vp e _ _ | .sub e _ | .ptr e _ | .mp e | .ch e => [e]
  | _ => []

def AV.ents : AV → List Nat
  | .v T _ => T.ents
  | .tup l => l.flatMap fun t => t.T.ents

def Entry.ents : Entry → List Nat
  | .box T _ => T.ents
  | .vec _ a _ => a.ents
  | .map K V _ => K.ents ++ V.ents
  | _ => []

/-- those of a list, and behind them what they look into, some rounds long -/
def reach : Nat → Heap → List Nat → List Nat
  | 0, _, l => l
  | k + 1, H, l => reach k H (l ++ (ents H l).flatMap Entry.ents)

/-- ..told by the entries themselves -/
def reachE : Nat → List Entry → List Nat → List Nat
  | 0, _, l => l
  | k + 1, es, l => reachE k es (l ++ (es.take l.length).flatMap Entry.ents)

theorem reach_prefix : ∀ (k : Nat) (H : Heap) (l : List Nat), ∃ m, reach k H l = l ++ m
  | 0, _, l => ⟨[], by simp [reach]⟩
  | k + 1, H, l => by
    obtain ⟨m, hm⟩ := reach_prefix k H (l ++ (ents H l).flatMap Entry.ents)
    exact ⟨(ents H l).flatMap Entry.ents ++ m, by simp only [reach, hm, List.append_assoc]⟩

theorem reach_reachE (H : Heap) : ∀ (k : Nat) (l : List Nat), reachE k (ents H (reach k H l)) l = reach k H l
  | 0, l => rfl
  | k + 1, l => by
    simp only [reach, reachE]
    obtain ⟨m, hm⟩ := reach_prefix k H (l ++ (ents H l).flatMap Entry.ents)
    have : (ents H (reach k H (l ++ (ents H l).flatMap Entry.ents))).take l.length = ents H l := by
      rw [hm, List.append_assoc, ents_append, ← ents_length H l, List.take_left]
    rw [this]
    exact reach_reachE H k _

theorem reach_same {H H' : Heap} : ∀ (k : Nat) (l : List Nat), (∀ i ∈ reach k H l, getE H' i = getE H i) → reach k H' l = reach k H l
  | 0, l, _ => rfl
  | k + 1, l, h => by
    simp only [reach] at h ⊢
    obtain ⟨m, hm⟩ := reach_prefix k H (l ++ (ents H l).flatMap Entry.ents)
    have hl : ents H' l = ents H l := ents_congr fun i hi => h i (by rw [hm]; simp [hi])
    rw [hl]
    exact reach_same k _ h

/-- a list's places, each entry of some put in -/
def putE (ids : List Nat) (es : List Entry) (e : Nat) : Entry :=
  match ids, es with
  | i :: ids, x :: es => if i = e then x else putE ids es e
  | _, _ => .dead

theorem putE_ents (H : Heap) : ∀ (ids : List Nat) (e : Nat), putE ids (ents H ids) e = if mem ids e then getE H e else .dead
  | [], e => by simp [putE, ents, mem]
  | i :: ids, e => by
    simp only [ents, putE]
    by_cases h : i = e
    · subst h; simp [mem]
    · have h' : ¬ e = i := fun x => h x.symm
      rw [if_neg h, putE_ents H ids e]
      simp [mem, h']

/-- what has been turned: those that could be reached, and the new ones -/
def news (ids : List Nat) (n N : Nat) (H1 : Heap) : List (Nat × Entry) := (ids ++ List.range' n N).map fun e => (e, getE H1 e)

theorem getE_upd_map (H1 : Heap) : ∀ (l : List Nat) (H : Heap) (e : Nat), (∀ i ∈ l, i < H.length) → getE (upd H (l.map fun i => (i, getE H1 i))) e = if l.contains e then getE H1 e else getE H e
  | [], H, e, _ => by simp [upd]
  | i :: l, H, e, h => by
    simp only [List.map_cons, upd]
    rw [getE_upd_map H1 l (setE H i (getE H1 i)) e (fun j hj => by rw [setE_length]; exact h j (by simp [hj]))]
    by_cases hc : l.contains e = true
    · rw [if_pos hc, if_pos (by simp only [List.contains_cons, hc, Bool.or_true])]
    · rw [if_neg hc, getE_setE]
      by_cases he : e = i
      · subst he
        rw [if_pos ⟨rfl, h e (by simp)⟩, if_pos (by simp)]
      · rw [if_neg (fun x => he x.1), if_neg]
        simp only [List.contains_cons, Bool.or_eq_true, beq_iff_eq, not_or]
        exact ⟨he, by simpa using hc⟩

theorem mem_turned (ids : List Nat) (n N e : Nat) : (ids ++ List.range' n N).contains e = turned ids n N e := by
  rw [Bool.eq_iff_iff]
  simp [turned, mem]

/-- a function that is given pointers: k: how far they are followed, N: how many new entries may be left -/
def CSpec.ent (P : Program) (C : Ctx) (L : Loops) (k N : Nat) (fn : Func) : CSpec :=
  ⟨N, fun vs H => reach k H (vs.flatMap AV.ents), fun vs H => reach k H (vs.flatMap AV.ents), fun vs es fr =>
    let ids := reachE k es (vs.flatMap AV.ents)
    if (ids.all fun e => decide (e < fr)) && (es.all fun E => E.inn (mem ids) false) && (vs.all fun v => v.inn (mem ids) false) then
      (fnK P C L fn vs ((List.range fr).map (putE ids es))).bind fun r =>
        if decide (r.2.length ≤ fr + N) && ((ids ++ List.range' fr N).all fun e => (getE r.2 e).inn (turned ids fr N) true) && r.1.inn (turned ids fr N) true then
          .ret (r.1, news ids fr N r.2) else .fail
    else .fail⟩

theorem ent_local (P : Program) (C : Ctx) (L : Loops) (k N : Nat) (fn : Func) : CLocal (CSpec.ent P C L k N fn) where
  same vs H H' h := ⟨reach_same k _ h, reach_same k _ h⟩
  turns vs H fr out h x hx := by
    simp only [CSpec.ent] at h
    rw [reach_reachE] at h
    split at h
    · obtain ⟨r, h1, h2⟩ := Tr.bind_some h
      split at h2
      · have := Tr.ret_some h2
        subst this
        simp only [news, List.mem_map, List.mem_append, List.mem_range'] at hx
        obtain ⟨e, he, rfl⟩ := hx
        rcases he with he | ⟨i, hi, rfl⟩
        · exact .inl he
        · refine .inr ⟨by simp only; omega, ?_⟩
          show fr + 1 * i < fr + N
          omega
      · exact (Tr.fail_some h2).elim
    · exact (Tr.fail_some h).elim

theorem freeAt_lt {H : Heap} : ∀ {N fr : Nat}, freeAt H fr N = true → N = 0 ∨ fr + N ≤ H.length
  | 0, _, _ => .inl rfl
  | N + 1, fr, h => by
    simp only [freeAt, Bool.and_eq_true] at h
    have h1 := (isFree_spec h.1).2
    rcases freeAt_lt h.2 with h2 | h2
    · exact .inr (by omega)
    · exact .inr (by omega)

theorem freeAt_get {H : Heap} : ∀ {N fr : Nat}, freeAt H fr N = true → ∀ e, fr ≤ e → e < fr + N → getE H e = .free
  | 0, fr, _, e, h1, h2 => by omega
  | N + 1, fr, h, e, h1, h2 => by
    simp only [freeAt, Bool.and_eq_true] at h
    by_cases he : e = fr
    · subst he; exact (isFree_spec h.1).1
    · exact freeAt_get h.2 e (by omega) (by omega)

theorem ents_all {H : Heap} {p : Entry → Bool} : ∀ {ids : List Nat}, (ents H ids).all p = true → ∀ e, mem ids e = true → p (getE H e) = true
  | [], _, e, h => by simp [mem] at h
  | i :: ids, h, e, he => by
    simp only [ents, List.all_cons, Bool.and_eq_true] at h
    simp only [mem, List.contains_cons, Bool.or_eq_true, beq_iff_eq] at he
    rcases he with rfl | he
    · exact h.1
    · exact ents_all h.2 e he

theorem ent_sound {P : Program} {C : Ctx} {L : Loops} (hC : CtxSound P C ∧ CtxLocal C) {f : Nat} {fn : Func} (hf : P.funcs[f]? = some fn) (hside : ((fn.name == "runtime.NumGoroutine") == false && fn.body.isSome) = true)
    (hl : ∀ b ∈ loopsOf (bodyOf fn), LoopOK P L b) (k N : Nat) (hN : 0 < N) : CSound P f (CSpec.ent P C L k N fn) ∧ CLocal (CSpec.ent P C L k N fn) := by
  simp only [Bool.and_eq_true, beq_iff_eq] at hside
  obtain ⟨hname, hb⟩ := hside
  obtain ⟨body, hb⟩ := Option.isSome_iff_exists.1 hb
  have hl : LoopsOK P L body := by
    refine loopsOK_all ?_
    unfold bodyOf at hl
    rw [hb] at hl
    exact hl
  refine ⟨⟨fun args w => callFunc_enter hf hname hb args w, ?_⟩, ent_local P C L k N fn⟩
  intro g H w vs rvs fr out hI hargs hfree he
  simp only [CSpec.ent] at he hfree
  rw [reach_reachE] at he
  split at he
  · rename_i hc
    simp only [Bool.and_eq_true] at hc
    obtain ⟨⟨c1, c2⟩, c3⟩ := hc
    have hids : ∀ e, mem (reach k H (vs.flatMap AV.ents)) e = true → e < fr := fun e he => by
      have := List.all_eq_true.1 c1 e (by simpa [mem] using he)
      simpa using this
    have hcl := ents_all c2
    obtain ⟨r, h1, h2⟩ := Tr.bind_some he
    split at h2
    · rename_i hd
      have := Tr.ret_some h2
      subst this
      simp only [Bool.and_eq_true, decide_eq_true_eq] at hd
      obtain ⟨⟨d1, d2⟩, d3⟩ := hd
      have hH : (List.range fr).map (putE (reach k H (vs.flatMap AV.ents)) (ents H (reach k H (vs.flatMap AV.ents)))) = partH (reach k H (vs.flatMap AV.ents)) H fr := by
        unfold partH
        exact List.map_congr_left fun e _ => putE_ents H _ e
      rw [hH] at h1
      refine (fn_sound hC.1 hC.2 hf hb hl (part_inv hI hids hcl) (inn_args (part_agree hids) c3 hargs) (fnK_ok h1)).mono ?_
      rintro e w' ⟨rv, g1, rfl, hle, hI1, hv⟩
      have hlen := (freeAt_lt hfree).resolve_left (by omega)
      have hin : ∀ i ∈ (reach k H (vs.flatMap AV.ents)) ++ List.range' fr N, i < H.length := by
        intro i hi
        simp only [List.mem_append, List.mem_range'] at hi
        rcases hi with hi | ⟨j, hj, rfl⟩
        · have := hids i (by simpa [mem] using hi); omega
        · omega
      obtain ⟨q1, q2, q3⟩ := join_inv (H2 := upd H (news (reach k H (vs.flatMap AV.ents)) fr N r.2)) hI hids (fun e h1 h2 => by rw [hI.sh, freeAt_get hfree e h1 h2]; rfl) hle hI1
        (fun e he => by
          have := List.all_eq_true.1 d2 e (by rw [← mem_turned] at he; simpa using he)
          exact this)
        (fun e => by
          unfold news
          rw [getE_upd_map _ _ _ _ hin, mem_turned])
      exact ⟨rv, _, rfl, q1, q2, inn_VRep q3 d3 hv⟩
    · exact (Tr.fail_some h2).elim
  · exact (Tr.fail_some he).elim

end Vse

end
section
/- Entries put into other places: an own slice that was made anew, seen where the old one was. Nothing here is about one program. -/
set_option linter.unusedVariables false
namespace Vse
open Go

/-- neither of two entries -/
def nei (f t : Nat) (e : Nat) : Bool := decide (e ≠ f) && decide (e ≠ t)

/-- a type that looks at entry f's k-th growth, and else at neither -/
def Ty.okM (f k t : Nat) : Ty → Bool
  | .vc i j => (decide (i = f) && decide (j = k)) || nei f t i
  | .prod a b => a.okM f k t && b.okM f k t
  | T => T.inn (nei f t) false

def Ty.mv (f t K : Nat) : Ty → Ty
  | .vc i j => .vc (if i = f then t else i) (if i = f then K else j)
  | .prod a b => .prod (a.mv f t K) (b.mv f t K)
  | T => T

def mvD (f t K : Nat) : (T : Ty) → T.den → (T.mv f t K).den
  | .prod a b, x => (mvD f t K a x.1, mvD f t K b x.2)
  | .vc _ _, _ => ()
  | .bool, x => x
  | .int _, x => x
  | .str, x => x
  | .unit, x => x
  | .und, x => x
  | .arr _ _, x => x
  | .imm _ _ _, x => x
  | .tg _ _, x => x
  | .nils, x => x
  | .sv _ _, x => x
  | .vp _ _ _, x => x
  | .sub _ _, x => x
  | .nilp, x => x
  | .ptr _ _, x => x
  | .ip _ _, x => x
  | .nilm, x => x
  | .mp _, x => x
  | .nilf, x => x
  | .fn _ _, x => x
  | .nili, x => x
  | .it _, x => x
  | .ch _, x => x

theorem mv_sk (f t K : Nat) : ∀ T : Ty, (T.mv f t K).sk = T.sk := by
  intro T
  induction T with
  | prod a b iha ihb => simp only [Ty.mv, Ty.sk, iha, ihb]
  | _ => rfl

structure G.moved (f k t K : Nat) (g g' : G) : Prop where
  ag : g.agree (nei f t) false g'
  vec : ∃ s n, g.sh f = .vec k s n ∧ g'.sh t = .vec K s n
  bl : g'.bl t = g.bl f
  sz : g'.sz t = g.sz f

theorem mv_Rep {f k t K : Nat} {g g' : G} (h : g.moved f k t K g') : ∀ (T : Ty) (x : T.den) (cs : List Value), T.okM f k t = true → Rep g T x cs → Rep g' (T.mv f t K) (mvD f t K T x) cs := by
  intro T
  induction T with
  | prod a b iha ihb =>
    intro x cs ho
    simp only [Ty.okM, Bool.and_eq_true] at ho
    rintro ⟨c1, c2, rfl, h1, h2⟩
    exact ⟨c1, c2, rfl, iha _ _ ho.1 h1, ihb _ _ ho.2 h2⟩
  | vc i j =>
    intro x cs ho hr
    simp only [Ty.okM, Bool.or_eq_true, Bool.and_eq_true, decide_eq_true_eq] at ho
    by_cases hi : i = f
    · subst hi
      have hj : j = k := by
        rcases ho with ho | ho
        · exact ho.2
        · simp [nei] at ho
      subst hj
      obtain ⟨s, n, h1, h2⟩ := h.vec
      show Rep g' (.vc (if i = i then t else i) (if i = i then K else j)) () cs
      rw [if_pos rfl, if_pos rfl]
      simp only [Rep, G.vcr, h1, h2] at hr ⊢
      obtain ⟨q1, _, q2⟩ := hr
      refine ⟨q1, Nat.le_refl _, fun _ => ?_⟩
      rw [h.bl, h.sz]
      exact q2 trivial
    · have hn : nei f t i = true := by
        rcases ho with ho | ho
        · exact absurd ho.1 hi
        · exact ho
      show Rep g' (.vc (if i = f then t else i) (if i = f then K else j)) () cs
      rw [if_neg hi, if_neg hi]
      exact (inn_Rep h.ag (.vc i j) () cs hn).1 hr
  | _ => intro x cs ho hr; exact (inn_Rep h.ag _ x cs ho).1 hr

theorem mv_TRep {f k t K : Nat} {g g' : G} (h : g.moved f k t K g') {T : Ty} {x : T.den} {v : Value} (ho : T.okM f k t = true) (hr : TRep g T x v) : TRep g' (T.mv f t K) (mvD f t K T x) v := by
  have hag : (T.mv f t K).agg = T.agg := by unfold Ty.agg; rw [mv_sk]
  unfold TRep at hr ⊢
  rw [hag]
  split
  · rw [if_pos (by assumption)] at hr; obtain ⟨cs, h1, h2⟩ := hr; exact ⟨cs, h1, mv_Rep h _ _ _ ho h2⟩
  · rw [if_neg (by assumption)] at hr; exact mv_Rep h _ _ _ ho hr

def AV.mv (f k t K : Nat) : AV → AV
  | .v T x => if T.okM f k t then .v (T.mv f t K) (mvD f t K T x) else AV.und
  | .tup l => if l.all fun v => v.T.inn (nei f t) false then .tup l else AV.und

def Entry.mv (f t K : Nat) : Entry → Entry
  | .box T x => .box (T.mv f t K) (mvD f t K T x)
  | e => e

def Entry.okM (f k t : Nat) : Entry → Bool
  | .box T _ => T.okM f k t
  | .vec _ a _ => a.inn (nei f t) false
  | .map K V _ => K.inn (nei f t) false && V.inn (nei f t) false
  | _ => true

/-- entry f's slice is put into entry t, its growths counted from K on -/
def movSt (f t K : Nat) (st : St) : Option St :=
  match getE st.heap f with
  | .vec k a l => if decide (t < st.heap.length) && st.heap.all (Entry.okM f k t) then
      some ⟨st.env.map (AV.mv f k t K), setE (setE (st.heap.map (Entry.mv f t K)) f .dead) t (.vec K a l)⟩ else none
  | _ => none

theorem getE_mapH (h : Entry → Entry) (hf : h .free = .free) : ∀ (H : Heap) (i : Nat), getE (H.map h) i = h (getE H i)
  | [], _ => hf.symm
  | a :: l, 0 => rfl
  | a :: l, i + 1 => by simpa only [List.map_cons, getE] using getE_mapH h hf l i

theorem mv_und {f t K : Nat} {T : Ty} (h : T ≠ .und) : T.mv f t K ≠ .und := by
  cases T <;> first | (simp [Ty.mv]; done) | exact h

theorem movSt_rep {g g2 : G} {st st' : St} {a : Act} {w : World} {f t K : Nat} (hle : g.le g2) (h : SRep g2 st a w) (hs : movSt f t K st = some st') (hT : g.sh t = .free ∨ ∃ k0 s n, g.sh t = .vec k0 s n ∧ k0 < K) (hF : f = t ∨ g.sh f = .free) :
    (∃ g3, g.le g3 ∧ SRep g3 st' a w) ∧ st'.heap.length = st.heap.length := by
  unfold movSt at hs
  split at hs
  · rename_i k b l hE
    split at hs
    · rename_i hc
      simp only [Option.some.injEq] at hs
      subst hs
      simp only [Bool.and_eq_true, decide_eq_true_eq] at hc
      obtain ⟨htl, hok⟩ := hc
      refine ⟨?_, by simp [setE_length]⟩
      have hI := h.heap
      have hlive : (getE st.heap f).live = true := by rw [hE]; rfl
      have hfl := lt_of_live hlive
      have hokE : ∀ i, Entry.okM f k t (getE st.heap i) = true := getE_all (p := Entry.okM f k t) rfl hok
      have hb : b.inn (nei f t) false = true := by have := hokE f; rw [hE] at this; exact this
      have hsh : g2.sh f = .vec k b.sk l.length := by rw [hI.sh, hE]; rfl
      let g3 : G := { g2 with
        sh := fun i => if i = t then .vec K b.sk l.length else if i = f then .dead else g2.sh i
        bl := fun i => if i = t then g2.bl f else g2.bl i
        sz := fun i => if i = t then g2.sz f else g2.sz i }
      have hag : g2.agree (nei f t) false g3 := by
        refine ⟨fun _ _ h => h, fun _ _ _ h => h, fun e he => ?_⟩
        simp only [nei, Bool.and_eq_true, decide_eq_true_eq] at he
        simp [g3, he.1, he.2]
      have hmv : g2.moved f k t K g3 := ⟨hag, ⟨_, _, hsh, by simp [g3]⟩, by simp [g3], by simp [g3]⟩
      have hget : ∀ i, getE (setE (setE (st.heap.map (Entry.mv f t K)) f .dead) t (.vec K b l)) i = if i = t then .vec K b l else if i = f then .dead else Entry.mv f t K (getE st.heap i) := by
        intro i
        rw [getE_setE, getE_setE, getE_mapH _ rfl]
        by_cases h1 : i = t
        · rw [if_pos ⟨h1, by simpa [setE_length] using htl⟩, if_pos h1]
        · rw [if_neg (fun x => h1 x.1), if_neg h1]
          by_cases h2 : i = f
          · rw [if_pos ⟨h2, by simpa using hfl⟩, if_pos h2]
          · rw [if_neg (fun x => h2 x.1), if_neg h2]
      have hmvl : ∀ E : Entry, (Entry.mv f t K E).live = E.live := fun E => by cases E <;> rfl
      have hmvs : ∀ E : Entry, shp (Entry.mv f t K E) = shp E := fun E => by cases E <;> simp [Entry.mv, shp, mv_sk]
      have hle3 : g.le g3 := by
        refine ⟨hle.fr, hle.gr, hle.ext, fun i => ?_⟩
        by_cases hi : i = t
        · subst hi
          rcases hT with hT | ⟨k0, s, n, hT, hlt⟩
          · exact .new hT
          · exact .grew (s' := b.sk) (n' := l.length) hT (by simp [g3]) hlt
        · by_cases hf : i = f
          · subst hf
            rcases hF with hF | hF
            · exact absurd hF hi
            · exact .new hF
          · have e1 : g3.sh i = g2.sh i := by simp [g3, hi, hf]
            have e2 : g3.bl i = g2.bl i := by simp [g3, hi]
            have e3 : g3.sz i = g2.sz i := by simp [g3, hi]
            cases hle.ent i with
            | same a b c => exact .same (e1.trans a) (e2.trans b) (e3.trans c)
            | dead a => exact .dead (e1.trans a)
            | grew a b c => exact .grew a (e1.trans b) c
            | new a => exact .new a
      refine ⟨g3, hle3, ⟨?_, ?_, h.defers⟩⟩
      · refine ⟨by rw [List.length_map]; exact h.env.1, fun i => ?_⟩
        have hv := h.env.2 i
        simp only
        rw [getV_map _ (by simp [AV.mv, AV.none])]
        generalize getV st.env i = v at hv ⊢
        cases v with
        | v T x =>
          simp only [AV.mv]
          split
          · rename_i ho
            by_cases hu : T = .und
            · subst hu; trivial
            · exact (VRep_v (mv_und hu)).2 (mv_TRep hmv ho ((VRep_v hu).1 hv))
          · trivial
        | tup l' =>
          simp only [AV.mv]
          split
          · rename_i ho
            obtain ⟨vs, h1, h2⟩ := hv
            exact ⟨vs, h1, inn_tup hag ho h2⟩
          · trivial
      · refine ⟨?_, hI.fr, hI.gr, ?_, ?_, hI.sep, ?_, hI.ext⟩
        · intro i
          simp only
          rw [hget]
          by_cases hi : i = t
          · simp [g3, hi, shp]
          · by_cases hf : i = f
            · rw [if_neg hi, if_pos hf]
              subst hf
              simp only [g3, if_neg hi, if_true]
              rfl
            · rw [if_neg hi, if_neg hf, hmvs]
              simp only [g3, if_neg hi, if_neg hf]
              exact hI.sh i
        · intro i
          simp only
          rw [hget]
          by_cases hi : i = t
          · subst hi
            rw [if_pos rfl]
            have he := hI.ent f
            rw [hE] at he
            rcases he with ⟨q1, q2⟩ | ⟨b', cs, tt, fz, vs, r, q1, q2, q3, q4, q5, q6, q7⟩
            · exact .inl ⟨by simp [g3, q1], q2⟩
            · exact .inr ⟨b', cs, tt, fz, vs, r, by simp [g3, q1], q2, q3, by simp [g3, q4], q5, repL_mono (fun y _ cs => (inn_Rep hag b y cs hb).1) q6, q7⟩
          · by_cases hf : i = f
            · rw [if_neg hi, if_pos hf]; trivial
            · rw [if_neg hi, if_neg hf]
              have he := hI.ent i
              have ho := hokE i
              cases hEi : getE st.heap i with
              | free => trivial
              | dead => trivial
              | box T x =>
                rw [hEi] at he ho
                obtain ⟨b', cs, tt, fz, q1, q2, q3, q4⟩ := he
                exact ⟨b', cs, tt, fz, by simp [g3, hi, q1], q2, q3, mv_Rep hmv _ _ _ ho q4⟩
              | map K2 V2 l2 =>
                rw [hEi] at he ho
                simp only [Entry.okM, Bool.and_eq_true] at ho
                obtain ⟨b', es, clock, q1, q2, q3⟩ := he
                exact ⟨b', es, clock, by simp [g3, hi, q1], q2, mapRep_mono (fun _ _ => inn_TRep hag ho.1) (fun _ _ => inn_TRep hag ho.2) q3⟩
              | itr s2 p2 =>
                rw [hEi] at he
                obtain ⟨q0, b', q1, q2⟩ := he
                exact ⟨q0, b', by simp [g3, hi, q1], q2⟩
              | vec k2 a2 l2 =>
                rw [hEi] at he ho
                rcases he with ⟨q1, q2⟩ | ⟨b', cs, tt, fz, vs, r, q1, q2, q3, q4, q5, q6, q7⟩
                · exact .inl ⟨by simp [g3, hi, q1], q2⟩
                · exact .inr ⟨b', cs, tt, fz, vs, r, by simp [g3, hi, q1], q2, q3, by simp [g3, hi, q4], q5, repL_mono (fun y _ cs => (inn_Rep hag a2 y cs ho).1) q6, q7⟩
        · intro i b' hl hb'
          simp only at hl
          rw [hget] at hl
          by_cases hi : i = t
          · have : g2.bl f = some b' := by simpa [g3, hi] using hb'
            exact hI.own f b' hlive this
          · by_cases hf : i = f
            · rw [if_neg hi, if_pos hf] at hl; cases hl
            · rw [if_neg hi, if_neg hf, hmvl] at hl
              exact hI.own i b' hl (by simpa [g3, hi] using hb')
        · intro i j b' hl hl' hb1 hb2
          simp only at hl hl'
          rw [hget] at hl hl'
          by_cases hi : i = t
          · have e1 : g2.bl f = some b' := by simpa [g3, hi] using hb1
            by_cases hj : j = t
            · rw [hi, hj]
            · exfalso
              by_cases hjf : j = f
              · rw [if_neg hj, if_pos hjf] at hl'; cases hl'
              · rw [if_neg hj, if_neg hjf, hmvl] at hl'
                have e2 : g2.bl j = some b' := by simpa [g3, hj] using hb2
                exact hjf (hI.dis j f b' hl' hlive e2 e1)
          · by_cases hif : i = f
            · rw [if_neg hi, if_pos hif] at hl; cases hl
            · rw [if_neg hi, if_neg hif, hmvl] at hl
              have e1 : g2.bl i = some b' := by simpa [g3, hi] using hb1
              by_cases hj : j = t
              · exfalso
                have e2 : g2.bl f = some b' := by simpa [g3, hj] using hb2
                exact hif (hI.dis i f b' hl hlive e1 e2)
              · by_cases hjf : j = f
                · rw [if_neg hj, if_pos hjf] at hl'; cases hl'
                · rw [if_neg hj, if_neg hjf, hmvl] at hl'
                  exact hI.dis i j b' hl hl' e1 (by simpa [g3, hj] using hb2)
    · cases hs
  · cases hs

end Vse

end
section
/- Loops whose variables hold own slices that are made anew. Nothing here is about one program. -/
set_option linter.unusedVariables false
namespace Vse
open Go

/-! which entries are to be moved where -/

def unifT : Ty → Ty → List (Nat × Nat × Nat)
  | .vc i _, .vc e K => [(i, e, K)]
  | .prod a b, .prod c d => unifT a c ++ unifT b d
  | _, _ => []

def unifV (v : AV) (T : Ty) : List (Nat × Nat × Nat) :=
  match v with
  | .v U _ => unifT U T
  | .tup _ => []

def unifE : List Nat → List Ty → List AV → List (Nat × Nat × Nat)
  | k :: ks, T :: Ts, env => unifV (getV env k) T ++ unifE ks Ts env
  | _, _, _ => []

def unifH : List ETy → Heap → List (Nat × Nat × Nat)
  | .box T :: Es, .box U _ :: H => unifT U T ++ unifH Es H
  | _ :: Es, _ :: H => unifH Es H
  | _, _ => []

def dedup : List (Nat × Nat × Nat) → List (Nat × Nat × Nat)
  | [] => []
  | x :: l => x :: (dedup l).filter (fun y => !(y == x))

def movAll : List (Nat × Nat × Nat) → St → Option St
  | [], st => some st
  | (f, t, K) :: l, st => match movSt f t K st with
    | some st' => movAll l st'
    | none => none

def movOk (n : Nat) (Es : List ETy) (m : Nat × Nat × Nat) : Bool :=
  (decide (m.1 = m.2.1) || decide (n ≤ m.1)) && (match Es[m.2.1]? with
    | some (.vec K _) => decide (K = m.2.2)
    | _ => false)

theorem movAll_rep {g : G} {a : Act} {w : World} {n : Nat} {Es : List ETy} (hfree : ∀ e, n ≤ e → g.sh e = .free) (hlow : Lower g Es 0) : ∀ {ms : List (Nat × Nat × Nat)} {g2 : G} {st st' : St}, ms.all (movOk n Es) = true → g.le g2 → SRep g2 st a w → movAll ms st = some st' → ∃ g3, g.le g3 ∧ SRep g3 st' a w
  | [], g2, st, st', _, hle, h, hs => by
    simp only [movAll, Option.some.injEq] at hs
    subst hs
    exact ⟨g2, hle, h⟩
  | (f, t, K) :: ms, g2, st, st', hok, hle, h, hs => by
    simp only [List.all_cons, Bool.and_eq_true] at hok
    simp only [movAll] at hs
    split at hs
    · rename_i st1 h1
      have hm := hok.1
      simp only [movOk, Bool.and_eq_true, Bool.or_eq_true, decide_eq_true_eq] at hm
      obtain ⟨hf, hk⟩ := hm
      split at hk
      · rename_i K' b hE
        have hK : K' = K := by simpa using hk
        subst hK
        have hl := hlow t K' b hE
        rw [Nat.zero_add] at hl
        obtain ⟨⟨g3, q1, q2⟩, _⟩ := movSt_rep hle h h1 hl (hf.imp id fun x => hfree f x)
        exact movAll_rep hfree hlow hok.2 q1 q2 hs
      · cases hk
    · cases hs

/-! a variable's nil slice, seen as an own one -/

def addIniB (b m K : Nat) (a : Ty) (st : St) : Option St :=
  match getE st.heap b with
  | .box T x => match getP T x [.fld m] () with
    | some t => if t.T = .nils then (match setP T x [.fld m] () ⟨.vc st.heap.length K, ()⟩ with
      | some r => if (poff T.sk [.fld m] ()).isSome then some ⟨st.env, setE st.heap b (.box r.T r.x) ++ [.vec K a []]⟩ else none
      | none => none) else none
    | none => none
  | _ => none

theorem splice_same {cs : List Value} {off n : Nat} (h : off + n ≤ cs.length) : splice cs off (seg cs off n) = cs := by
  unfold splice seg
  have : ((cs.drop off).take n).length = n := by rw [List.length_take, List.length_drop]; omega
  rw [this, List.append_assoc, ← List.drop_drop, List.take_append_drop, List.take_append_drop]

theorem setE_append (H : Heap) (b : Nat) (E : Entry) (l : Heap) (h : b < H.length) : setE (H ++ l) b E = setE H b E ++ l := by
  induction H generalizing b with
  | nil => simp at h
  | cons x H ih =>
    cases b with
    | zero => rfl
    | succ b => simp only [List.cons_append, setE]; rw [ih b (by simpa using h)]

theorem addIniB_rep {g : G} {st st' : St} {a : Act} {w : World} {b m K : Nat} {A : Ty} (h : SRep g st a w) (hs : addIniB b m K A st = some st') : ∃ g', g.le g' ∧ SRep g' st' a w := by
  unfold addIniB at hs
  split at hs
  · rename_i T x hE
    split at hs
    · rename_i t ht
      split at hs
      · rename_i hn
        split at hs
        · rename_i r hr
          split at hs
          · rename_i hp
            simp only [Option.some.injEq] at hs
            subst hs
            obtain ⟨⟨off, s⟩, hpo⟩ := Option.isSome_iff_exists.1 hp
            have hlive : (getE st.heap b).live = true := by rw [hE]; rfl
            have hlt := lt_of_live hlive
            -- the new entry
            have hw : HInv g (st.heap ++ frees 1) w := h.heap.widen 1
            obtain ⟨g1, q1, q2, q3, q4⟩ := hw.nilVec (e := st.heap.length) (k := K) (a := A) (by simp [frees]) (.inl (getE_append_one _))
            rw [setE_append_one] at q2
            have hE1 : getE (st.heap ++ [.vec K A []]) b = .box T x := by
              have : getE (setE (st.heap ++ frees 1) st.heap.length (.vec K A [])) b = .box T x := by
                rw [getE_setE, if_neg (fun h => by omega), getE_append_frees, hE]
              rwa [setE_append_one] at this
            have hent := q2.ent b
            rw [hE1] at hent
            obtain ⟨bb, cs, tt, fz, w1, w2, w3, w4⟩ := hent
            obtain ⟨p1, p2, p3⟩ := getP_rep T x [.fld m] () cs.toList t off s w4 ht hpo
            obtain ⟨T', y⟩ := t
            simp only at hn
            subst hn
            simp only [Rep] at p1
            have hnew : Rep g1 (.vc st.heap.length K) () [.slice none 0 0] := by
              simp only [Rep, G.vcr, q3]
              exact ⟨⟨_, rfl, rfl⟩, Nat.le_refl _, fun _ => .inl ⟨q4, trivial, none, rfl⟩⟩
            obtain ⟨s1, s2, s3, s4⟩ := setP_rep T x [.fld m] () cs.toList [.slice none 0 0] ⟨.vc st.heap.length K, ()⟩ r off s w4 hr hpo hnew
            have hsame : splice cs.toList off [.slice none 0 0] = cs.toList := by
              rw [← p1]
              exact splice_same p3
            rw [hsame] at s3
            have hI2 := q2.setBox hE1 w1 w2 w3 s2 s3
            rw [setRow_self w bb cs tt fz w2, setE_append _ _ _ _ hlt] at hI2
            exact ⟨g1, q1, h.env.mono q1, hI2, h.defers.trans (congrArg Prod.snd q1.ext).symm⟩
          · cases hs
        · cases hs
      · cases hs
    · cases hs
  · cases hs

inductive Ini
  | slot (s : Nat)
  | fld (b m : Nat)

def addInis : List Ini → List ETy → St → Option St
  | [], [], st => some st
  | .slot s :: ss, .vec K a :: Es, st => match addIni [s] [.vec K a] st with
    | some st' => addInis ss Es st'
    | none => none
  | .fld b m :: ss, .vec K a :: Es, st => match addIniB b m K a st with
    | some st' => addInis ss Es st'
    | none => none
  | _, _, _ => none

theorem addInis_rep {a : Act} {w : World} : ∀ {ss : List Ini} {Es : List ETy} {g : G} {st st' : St}, SRep g st a w → addInis ss Es st = some st' → ∃ g', g.le g' ∧ SRep g' st' a w
  | [], [], g, st, st', h, hs => by
    simp only [addInis, Option.some.injEq] at hs
    subst hs
    exact ⟨g, G.le.refl g, h⟩
  | [], _ :: _, g, st, st', h, hs => by simp [addInis] at hs
  | i :: ss, [], g, st, st', h, hs => by cases i <;> simp [addInis] at hs
  | i :: ss, E :: Es, g, st, st', h, hs => by
    cases E with
    | vec K b =>
      cases i with
      | slot s =>
        simp only [addInis] at hs
        split at hs
        · rename_i st1 h1
          obtain ⟨g1, q1, q2⟩ := addIni_rep h h1
          obtain ⟨g2, w1, w2⟩ := addInis_rep q2 hs
          exact ⟨g2, q1.trans w1, w2⟩
        · cases hs
      | fld bb m =>
        simp only [addInis] at hs
        split at hs
        · rename_i st1 h1
          obtain ⟨g1, q1, q2⟩ := addIniB_rep h h1
          obtain ⟨g2, w1, w2⟩ := addInis_rep q2 hs
          exact ⟨g2, q1.trans w1, w2⟩
        · cases hs
    | _ => cases i <;> simp [addInis] at hs

/-! summaries of such loops -/

structure WSpec extends LSpec where
  inis : List Ini

def WSpec.moves (S : WSpec) (st : St) : List (Nat × Nat × Nat) := dedup (unifE S.live S.Ts st.env ++ unifH S.Es st.heap)

def WSpec.norm (S : WSpec) (st : St) : Option (HL S.Ts × HD S.Es) :=
  if (S.moves st).all (movOk S.Es.length S.Es) then
    match movAll (S.moves st) st with
    | some st1 => if heapUnder S.Es.length (st1.heap.take S.Es.length) then decS S.live S.Ts S.Es S.nt (weakSt S.live S.Ts (cutA S.Es.length st1)) else none
    | none => none
  else none

def WSpec.enter (S : WSpec) (st : St) : Option (HL S.Ts × HD S.Es) :=
  if gensOk S.Es 0 st.heap && decide (st.heap.length + S.inis.length = S.Es.length) then
    match addInis S.inis (S.Es.drop st.heap.length) st with
    | some st1 => if (S.moves st1).all (movOk S.Es.length S.Es) then
        match movAll (S.moves st1) st1 with
        | some st2 => decS S.live S.Ts S.Es S.nt (weakSt S.live S.Ts st2)
        | none => none
      else none
    | none => none
  else none

def WSpec.round (S : WSpec) (body : St → Tr (Ex × St)) (xs : HL S.Ts) (hs : HD S.Es) : Tr S.toLSpec.End :=
  (body (S.enc xs hs)).bind fun r => match r.1 with
    | .normal => match S.norm r.2 with
      | some d => .ret (.inl d)
      | none => .fail
    | x => .ret (.inr (x, keepS S.out r.2))

def WSpec.many (S : WSpec) (body : St → Tr (Ex × St)) : Nat → HL S.Ts → HD S.Es → Option (Ex × St)
  | 0, _, _ => none
  | n + 1, xs, hs => match (S.round body xs hs).eval with
    | some (.inl d) => S.many body n d.1 d.2
    | some (.inr r) => some r
    | none => none

def WSpec.fn (S : WSpec) (F : HL S.Ts → HD S.Es → Tr (Ex × St)) (st : St) : Tr (Ex × St) :=
  match S.enter st with
  | some d => F d.1 d.2
  | none => .fail

section
variable {P : Program} {C : Ctx} {L : Loops}

theorem wnorm_rep {S : WSpec} {g g2 : G} {st : St} {a : Act} {w : World} {d : HL S.Ts × HD S.Es} (hfree : ∀ e, S.Es.length ≤ e → g.sh e = .free) (hlow : Lower g S.Es 0) (hle : g.le g2) (h : SRep g2 st a w) (hn : S.norm st = some d) :
    ∃ g3, g.le g3 ∧ SRep g3 (S.enc d.1 d.2) a w := by
  unfold WSpec.norm at hn
  split at hn
  · rename_i hm
    split at hn
    · rename_i st1 h1
      split at hn
      · rename_i hc
        obtain ⟨g3, q1, q2⟩ := movAll_rep hfree hlow hm hle h h1
        obtain ⟨g4, w1, w2⟩ := cutA_rep hfree q1 q2 hc
        have hr := keepS_rep (weakSt_rep w2 S.live S.Ts) S.live
        rw [decS_some hn] at hr
        exact ⟨g4, w1, hr⟩
      · cases hn
    · cases hn
  · cases hn

theorem wenter_rep {S : WSpec} {g : G} {st : St} {a : Act} {w : World} {d : HL S.Ts × HD S.Es} (h : SRep g st a w) (hn : S.enter st = some d) :
    (∃ g3, g.le g3 ∧ SRep g3 (S.enc d.1 d.2) a w) ∧ (∀ e, S.Es.length ≤ e → g.sh e = .free) ∧ Lower g S.Es 0 := by
  unfold WSpec.enter at hn
  split at hn
  · rename_i hc
    simp only [Bool.and_eq_true, decide_eq_true_eq] at hc
    obtain ⟨hc1, hc2⟩ := hc
    have hlow := gensOk_lower h.heap.sh hc1
    have hfree : ∀ e, S.Es.length ≤ e → g.sh e = .free := free_past h (by omega)
    refine ⟨?_, hfree, hlow⟩
    split at hn
    · rename_i st1 h1
      obtain ⟨g1, q1, q2⟩ := addInis_rep h h1
      split at hn
      · rename_i hm
        split at hn
        · rename_i st2 h2
          obtain ⟨g2, w1, w2⟩ := movAll_rep hfree hlow hm q1 q2 h2
          have hr := keepS_rep (weakSt_rep w2 S.live S.Ts) S.live
          rw [decS_some hn] at hr
          exact ⟨g2, w1, hr⟩
        · cases hn
      · cases hn
    · cases hn
  · cases hn

theorem wmany_sound {rd : Option Nat} (hC : CtxSound P C ∧ CtxLocal C) {c : Code} (hl : LoopsOK P L c) (S : WSpec) {n : Nat} {g g0 : G} {xs : HL S.Ts} {hs : HD S.Es} {st' : St} {a : Act} {w : World} {x : Ex}
    {Q : Exit → Act → World → Prop} (hfree : ∀ e, S.Es.length ≤ e → g.sh e = .free) (hlow : Lower g S.Es 0) (hle0 : g.le g0) (hr : SRep g0 (S.enc xs hs) a w) (he : S.many (bodyK P C L c) n xs hs = some (x, st'))
    (hn : ∀ g' a' w', g.le g' → SRep g' st' a' w' → Q x.out a' w') : (Code.loop c).wpIn (FW rd) 0 P Q a w := by
  refine wpIn_loop_ghost (fun m a w => ∃ g1 xs hs, g.le g1 ∧ SRep g1 (S.enc xs hs) a w ∧ S.many (bodyK P C L c) m xs hs = some (x, st')) n ⟨g0, xs, hs, hle0, hr, he⟩ ?_
  rintro m a w ⟨g1, xs, hs, hle, hs1, he1⟩
  cases m with
  | zero => cases he1
  | succ m =>
    simp only [WSpec.many] at he1
    have key : ∀ r, (S.round (bodyK P C L c) xs hs).eval = some r → ∃ y s2, (bodyK P C L c (S.enc xs hs)).eval = some (y, s2) ∧ (match y with
        | .normal => match S.norm s2 with
          | some d => (Tr.ret (.inl d) : Tr S.toLSpec.End)
          | none => .fail
        | x => .ret (.inr (x, keepS S.out s2))).eval = some r := by
      intro r hr
      obtain ⟨⟨y, s2⟩, h1, h2⟩ := Tr.bind_some hr
      exact ⟨y, s2, h1, h2⟩
    split at he1
    · rename_i d hd
      obtain ⟨y, s2, h1, h2⟩ := key _ hd
      refine code_sound hC.1 hC.2 c hl hs1 (bodyK_ok h1) ?_
      intro g2 a' w' hle2 hs2
      cases y with
      | normal =>
        simp only at h2
        split at h2
        · rename_i d' hd'
          have := Tr.ret_some h2
          simp only [Sum.inl.injEq] at this
          subst this
          obtain ⟨g3, q1, q2⟩ := wnorm_rep hfree hlow (hle.trans hle2) hs2 hd'
          exact ⟨m, Nat.lt_succ_self m, g3, _, _, q1, q2, he1⟩
        · exact (Tr.fail_some h2).elim
      | exit i => have := Tr.ret_some h2; cases this
      | ret => have := Tr.ret_some h2; cases this
    · rename_i r hd
      simp only [Option.some.injEq] at he1
      subst he1
      obtain ⟨y, s2, h1, h2⟩ := key _ hd
      refine code_sound hC.1 hC.2 c hl hs1 (bodyK_ok h1) ?_
      intro g2 a' w' hle2 hs2
      cases y with
      | normal =>
        simp only at h2
        split at h2
        · have := Tr.ret_some h2; cases this
        · exact (Tr.fail_some h2).elim
      | exit i =>
        have := Tr.ret_some h2
        simp only [Sum.inr.injEq, Prod.mk.injEq] at this
        obtain ⟨rfl, rfl⟩ := this
        exact hn _ _ _ (hle.trans hle2) (keepS_rep hs2 S.out)
      | ret =>
        have := Tr.ret_some h2
        simp only [Sum.inr.injEq, Prod.mk.injEq] at this
        obtain ⟨rfl, rfl⟩ := this
        exact hn _ _ _ (hle.trans hle2) (keepS_rep hs2 S.out)
    · cases he1

/-- a loop's summary is right -/
theorem wloop_ok {L' : Loops} (hC : CtxSound P C ∧ CtxLocal C) {c : Code} (hl : LoopsOK P L' c) (S : WSpec) {F : HL S.Ts → HD S.Es → Tr (Ex × St)} {i : Nat}
    (hi : firstReg c = some i) (hL : ∀ st, L i st = S.fn F st) (key : ∀ xs hs r, (F xs hs).eval = some r → ∃ n, S.many (bodyK P C L' c) n xs hs = some r) : LoopOK P L c := by
  intro j hj rd g st a w x st' Q hs he hn
  rw [hi] at hj
  cases hj
  rw [hL] at he
  unfold WSpec.fn at he
  split at he
  · rename_i d hd
    obtain ⟨n, hm⟩ := key _ _ _ he
    obtain ⟨⟨g3, q1, q2⟩, q3, q4⟩ := wenter_rep hs hd
    exact wmany_sound hC hl S q3 q4 q1 q2 hm hn
  · exact (Tr.fail_some he).elim

theorem wmany_inl {S : WSpec} {body : St → Tr (Ex × St)} {xs : HL S.Ts} {hs : HD S.Es} {d : HL S.Ts × HD S.Es} (h : (S.round body xs hs).eval = some (.inl d)) (n : Nat) : S.many body (n + 1) xs hs = S.many body n d.1 d.2 := by
  simp only [WSpec.many, h]

theorem wmany_inr {S : WSpec} {body : St → Tr (Ex × St)} {xs : HL S.Ts} {hs : HD S.Es} {r : Ex × St} (h : (S.round body xs hs).eval = some (.inr r)) (n : Nat) : S.many body (n + 1) xs hs = some r := by
  simp only [WSpec.many, h]

end
end Vse

end
section
/- Functions that are given pointers, as functions of what stands in the entries: called on entries in their places. Nothing here is about one program. -/
set_option linter.unusedVariables false
namespace Vse
open Go Go.ChangeShapes

namespace Tr
/-- the tree's value: a way that fails at once is not asked -/
def foldD {α : Type} (d : α) : Tr α → α
  | .ret r => r
  | .fail => d
  | .ite b t e => choose b t.isFail e.isFail (t.foldD d) (e.foldD d)
  | .opt o n s => match o with | none => n.foldD d | some x => (s x).foldD d

/-- no way fails that the choices leave open -/
def fineD {α : Type} : Tr α → Bool
  | .ret _ => true
  | .fail => false
  | .ite b t e => (t.fineD || !b) && (e.fineD || b)
  | .opt o n s => match o with | none => n.fineD | some x => (s x).fineD

theorem eval_of_fine {α : Type} {d : α} : ∀ {t : Tr α}, t.fineD = true → t.eval = some (t.foldD d)
  | .ret r, h => rfl
  | .fail, h => by simp [fineD] at h
  | .ite b t e, h => by
    simp only [fineD, Bool.and_eq_true, Bool.or_eq_true] at h
    cases b
    · have he : e.fineD = true := by simpa using h.2
      have hf : e.isFail = false := by
        rw [Bool.eq_false_iff]; intro hf; rw [isFail_eq hf] at he; cases he
      have : (Tr.ite false t e).foldD d = e.foldD d := by
        simp only [foldD, choose, hf]; cases t.isFail <;> rfl
      rw [this]
      exact eval_of_fine (t := e) he
    · have ht : t.fineD = true := by simpa using h.1
      have hf : t.isFail = false := by
        rw [Bool.eq_false_iff]; intro hf; rw [isFail_eq hf] at ht; cases ht
      have : (Tr.ite true t e).foldD d = t.foldD d := by
        simp only [foldD, choose, hf]; cases e.isFail <;> rfl
      rw [this]
      exact eval_of_fine (t := t) ht
  | .opt o n s, h => by
    cases o with
    | none => exact eval_of_fine (t := n) h
    | some x => exact eval_of_fine (t := s x) h
end Tr

def dflE : (Es : List ETy) → HD Es
  | [] => ()
  | .free :: l => dflE l
  | .dead :: l => dflE l
  | .box T :: l => (dfl T, dflE l)
  | .vec _ _ :: l => ([], dflE l)
  | .map _ _ :: l => ([], dflE l)

/-- arguments' types, results' types, entries as the function finds them, and as it leaves them -/
structure MSpec where
  As : List Ty
  Rs : List Ty
  Es : List ETy
  Fs : List ETy

abbrev MSpec.Out (S : MSpec) := HL S.Rs × HD S.Fs
def MSpec.dfl (S : MSpec) : S.Out := (dflL S.Rs, dflE S.Fs)

/-- an own slice that is seen as it is -/
def idle (H : Heap) (m : Nat × Nat × Nat) : Bool := match getE H m.1 with
  | .vec k _ _ => decide (m.1 = m.2.1) && decide (k = m.2.2)
  | _ => false

def movOkL (n : Nat) (H0 : Heap) (m : Nat × Nat × Nat) : Bool :=
  (decide (m.1 = m.2.1) || decide (n ≤ m.1)) && (match getE H0 m.2.1 with
    | .free => true
    | .vec k _ _ => decide (k < m.2.2)
    | _ => false)

theorem movAllL_rep {g : G} {a : Act} {w : World} {n : Nat} {H0 : Heap} (hsh : ∀ e, g.sh e = shp (getE H0 e)) (hfree : ∀ e, n ≤ e → g.sh e = .free) : ∀ {ms : List (Nat × Nat × Nat)} {g2 : G} {st st' : St}, ms.all (movOkL n H0) = true → g.le g2 → SRep g2 st a w → movAll ms st = some st' → ∃ g3, g.le g3 ∧ SRep g3 st' a w
  | [], g2, st, st', _, hle, h, hs => by
    simp only [movAll, Option.some.injEq] at hs
    subst hs
    exact ⟨g2, hle, h⟩
  | (f, t, K) :: ms, g2, st, st', hok, hle, h, hs => by
    simp only [List.all_cons, Bool.and_eq_true] at hok
    simp only [movAll] at hs
    split at hs
    · rename_i st1 h1
      have hm := hok.1
      simp only [movOkL, Bool.and_eq_true, Bool.or_eq_true, decide_eq_true_eq] at hm
      obtain ⟨hf, hk⟩ := hm
      have hl : g.sh t = .free ∨ ∃ k0 s n, g.sh t = .vec k0 s n ∧ k0 < K := by
        rw [hsh]
        split at hk
        · rename_i he; rw [he]; exact .inl rfl
        · rename_i he; rw [he]; exact .inr ⟨_, _, _, rfl, by simpa using hk⟩
        · cases hk
      obtain ⟨⟨g3, q1, q2⟩, _⟩ := movSt_rep hle h h1 hl (hf.imp id fun x => hfree f x)
      exact movAllL_rep hsh hfree hok.2 q1 q2 hs
    · cases hs

def MSpec.moves (S : MSpec) (H : Heap) : List (Nat × Nat × Nat) := (dedup (unifH S.Fs H)).filter fun m => !idle H m

def MSpec.norm (S : MSpec) (H0 : Heap) (r0 : AV × Heap) : Option S.Out :=
  let r := sealR S.Rs r0
  if decide (S.Fs.length = S.Es.length) && (S.moves r.2).all (movOkL S.Es.length H0) then
    match movAll (S.moves r.2) ⟨[r.1], r.2⟩ with
    | some st1 => if heapUnder S.Es.length (st1.heap.take S.Es.length) then
        match cutA S.Es.length st1 with
        | ⟨[a], H⟩ => match toHL S.Rs a with
          | some x => match decH S.Fs H with
            | some y => some (x, y)
            | none => none
          | none => none
        | _ => none
      else none
    | none => none
  else none

/-- what the function makes of data -/
def fnM (P : Program) (C : Ctx) (L : Loops) (S : MSpec) (fn : Func) (xs : HL S.As) (hs : HD S.Es) : Tr S.Out :=
  (fnK P C L fn (mkArgs S.As xs) (encH S.Es hs)).bind fun r => match S.norm (encH S.Es hs) r with
    | some d => .ret d
    | none => .fail

def castArgs : (As : List Ty) → List AV → Option (HL As)
  | [], [] => some ()
  | A :: As, .v T x :: vs => match castT ⟨T, x⟩ A with
    | some y => match castArgs As vs with
      | some r => some (y, r)
      | none => none
    | none => none
  | _, _ => none

theorem castArgs_some : ∀ {As : List Ty} {vs : List AV} {xs : HL As}, castArgs As vs = some xs → vs = mkArgs As xs
  | [], [], xs, h => rfl
  | [], _ :: _, xs, h => by simp [castArgs] at h
  | A :: As, [], xs, h => by simp [castArgs] at h
  | A :: As, .tup _ :: vs, xs, h => by simp [castArgs] at h
  | A :: As, .v T x :: vs, xs, h => by
    simp only [castArgs] at h
    split at h
    · rename_i y hy
      split at h
      · rename_i r hr
        simp only [Option.some.injEq] at h
        subst h
        have := castT_spec hy
        simp only [TV.mk.injEq] at this
        obtain ⟨rfl, h2⟩ := this
        have h2 := eq_of_heq h2
        subst h2
        rw [castArgs_some hr]
        rfl
      · cases h
    · cases h

def isLive : ETy → Bool
  | .box _ => true
  | .vec _ _ => true
  | .map _ _ => true
  | _ => false

/-- a function that is given pointers to entries in their places -/
def CSpec.mth (S : MSpec) (pre : HL S.As → HD S.Es → Bool) (f : HL S.As → HD S.Es → S.Out) : CSpec :=
  ⟨0, fun vs H => reach 3 H (vs.flatMap AV.ents), fun vs H => reach 3 H (vs.flatMap AV.ents), fun vs es _ =>
    let ids := reachE 3 es (vs.flatMap AV.ents)
    if (ids.all fun e => decide (e < S.Es.length)) && (ids.all fun e => ((S.Es[e]?).map isLive).getD false) && (es.all fun E => E.inn (mem ids) false) && (vs.all fun v => v.inn (mem ids) false) then
      match castArgs S.As vs with
      | some xs => match decH S.Es ((List.range S.Es.length).map (putE ids es)) with
        | some hs => if ((ids.all fun e => (getE (encH S.Fs (f xs hs).2) e).inn (turned ids S.Es.length 0) true) && (ofHL S.Rs (f xs hs).1).inn (turned ids S.Es.length 0) true) then
            .chk (pre xs hs) (.ret (ofHL S.Rs (f xs hs).1, news ids S.Es.length 0 (encH S.Fs (f xs hs).2))) else .fail
        | none => .fail
      | none => .fail
    else .fail⟩

theorem mth_local (S : MSpec) (pre : HL S.As → HD S.Es → Bool) (f : HL S.As → HD S.Es → S.Out) : CLocal (CSpec.mth S pre f) where
  same vs H H' h := ⟨reach_same 3 _ h, reach_same 3 _ h⟩
  turns vs H fr out h x hx := by
    simp only [CSpec.mth] at h
    rw [reach_reachE] at h
    split at h
    · split at h
      · split at h
        · split at h
          · obtain ⟨_, h⟩ := Tr.chk_some h
            have := Tr.ret_some h
            subst this
            simp only [news, List.range'_zero, List.append_nil, List.mem_map] at hx
            obtain ⟨e, he, rfl⟩ := hx
            exact .inl he
          · exact (Tr.fail_some h).elim
        · exact (Tr.fail_some h).elim
      · exact (Tr.fail_some h).elim
    · exact (Tr.fail_some h).elim

theorem mnorm_rep {S : MSpec} {g g2 : G} {H0 : Heap} {r : AV × Heap} {rv : Value} {w : World} {d : S.Out} (hsh : ∀ e, g.sh e = shp (getE H0 e)) (hfree : ∀ e, S.Es.length ≤ e → g.sh e = .free) (hle : g.le g2) (hI : HInv g2 r.2 w) (hv : VRep g2 r.1 rv)
    (hn : S.norm H0 r = some d) : ∃ g3, g.le g3 ∧ HInv g3 (encH S.Fs d.2) w ∧ VRep g3 (ofHL S.Rs d.1) rv := by
  unfold MSpec.norm at hn
  obtain ⟨gs, hle', hI, hv⟩ := sealR_rep S.Rs hI hv
  have hle := hle.trans hle'
  simp only at hn
  split at hn
  · rename_i hm
    simp only [Bool.and_eq_true] at hm
    obtain ⟨_, hm⟩ := hm
    have h0 : SRep gs ⟨[(sealR S.Rs r).1], (sealR S.Rs r).2⟩ ⟨#[rv], gs.ext.2⟩ w := by
      refine ⟨⟨rfl, fun i => ?_⟩, hI, rfl⟩
      cases i with
      | zero => exact hv
      | succ i => exact ⟨#[], by simp [undef], rfl⟩
    split at hn
    · rename_i st1 h1
      obtain ⟨g3, q1, q2⟩ := movAllL_rep hsh hfree hm hle h0 h1
      split at hn
      · rename_i hc
        obtain ⟨g4, w1, w2⟩ := cutA_rep hfree q1 q2 hc
        split at hn
        · rename_i a H hcut
          rw [hcut] at w2
          split at hn
          · rename_i x hx
            split at hn
            · rename_i y hy
              simp only [Option.some.injEq] at hn
              subst hn
              have hv := w2.env.2 0
              simp only [getV] at hv
              rw [toHL_some hx] at hv
              have hh := w2.heap
              simp only at hh
              rw [decH_some hy] at hh
              exact ⟨g4, w1, hh, hv⟩
            · cases hn
          · cases hn
        · cases hn
      · cases hn
    · cases hn
  · cases hn

theorem mth_sound {P : Program} {C : Ctx} {L : Loops} (hC : CtxSound P C ∧ CtxLocal C) {k : Nat} {fn : Func} (hf : P.funcs[k]? = some fn) (hside : ((fn.name == "runtime.NumGoroutine") == false && fn.body.isSome) = true)
    (hl : ∀ b ∈ loopsOf (bodyOf fn), LoopOK P L b) {S : MSpec} {pre : HL S.As → HD S.Es → Bool} {f : HL S.As → HD S.Es → S.Out}
    (h1 : ∀ xs hs, HL.ok S.As xs → pre xs hs = true → (fnM P C L S fn xs hs).eval = some (f xs hs)) :
    CSound P k (CSpec.mth S pre f) ∧ CLocal (CSpec.mth S pre f) := by
  simp only [Bool.and_eq_true, beq_iff_eq] at hside
  obtain ⟨hname, hb⟩ := hside
  obtain ⟨body, hb⟩ := Option.isSome_iff_exists.1 hb
  have hl : LoopsOK P L body := by
    refine loopsOK_all ?_
    unfold bodyOf at hl
    rw [hb] at hl
    exact hl
  refine ⟨⟨fun args w => callFunc_enter hf hname hb args w, ?_⟩, mth_local S pre f⟩
  intro g H w vs rvs fr out hI hargs _ he
  simp only [CSpec.mth] at he
  rw [reach_reachE] at he
  split at he
  · rename_i hc
    simp only [Bool.and_eq_true] at hc
    obtain ⟨⟨⟨c1, c0⟩, c2⟩, c3⟩ := hc
    split at he
    · rename_i xs hxs
      split at he
      · rename_i hs hhs
        split at he
        · rename_i hd
          simp only [Bool.and_eq_true] at hd
          obtain ⟨d2, d3⟩ := hd
          obtain ⟨hp, he⟩ := Tr.chk_some he
          have := Tr.ret_some he
          subst this
          have hids : ∀ e, mem (reach 3 H (vs.flatMap AV.ents)) e = true → e < S.Es.length := fun e he => by
            have := List.all_eq_true.1 c1 e (by simpa [mem] using he)
            simpa using this
          have hcl := ents_all c2
          have hH : (List.range S.Es.length).map (putE (reach 3 H (vs.flatMap AV.ents)) (ents H (reach 3 H (vs.flatMap AV.ents)))) = partH (reach 3 H (vs.flatMap AV.ents)) H S.Es.length := by
            unfold partH
            exact List.map_congr_left fun e _ => putE_ents H _ e
          rw [hH] at hhs
          have hdec := decH_some hhs
          have hargs' := inn_args (part_agree (H := H) (w := w) hids) c3 hargs
          have hargs' : argsRep (g.part H w (reach 3 H (vs.flatMap AV.ents)) S.Es.length) (mkArgs S.As xs) rvs := by
            have e := castArgs_some hxs
            generalize g.part H w (reach 3 H (vs.flatMap AV.ents)) S.Es.length = gg at hargs' ⊢
            rw [e] at hargs'
            exact hargs'
          have hx := args_ok hargs'
          have hpi := part_inv hI hids hcl
          have hlive : ∀ (Es : List ETy) (hs : HD Es) (e : Nat), ((Es[e]?).map isLive).getD false = true → (getE (encH Es hs) e).live = true := by
            intro Es
            induction Es with
            | nil => intro _ e h; simp at h
            | cons E Es ih =>
              intro hs e h
              cases e with
              | zero => cases E <;> simp [isLive] at h <;> rfl
              | succ e =>
                simp only [List.getElem?_cons_succ] at h
                cases E <;> exact ih _ e h
          have hin : ∀ i ∈ (reach 3 H (vs.flatMap AV.ents)) ++ List.range' S.Es.length 0, i < H.length := by
            intro i hi
            simp only [List.range'_zero, List.append_nil] at hi
            have h0 := List.all_eq_true.1 c0 i hi
            have hl := hlive S.Es hs i h0
            rw [← hdec, getE_partH, if_pos (hids i (by simpa [mem] using hi)), if_pos (by simpa [mem] using hi)] at hl
            exact lt_of_live hl
          rw [hdec] at hpi
          have hev := h1 xs hs hx hp
          obtain ⟨r, q1, q2⟩ := Tr.bind_some hev
          split at q2
          · rename_i dd hnorm
            have := Tr.ret_some q2
            rw [this] at hnorm
            refine (fn_sound hC.1 hC.2 hf hb hl hpi hargs' (fnK_ok q1)).mono ?_
            rintro e w' ⟨rv, g1, rfl, hle, hI1, hv⟩
            obtain ⟨g3, w1, w2, w3⟩ := mnorm_rep hpi.sh (fun e he => by simp only [G.part]; rw [if_neg (by omega)]) hle hI1 hv hnorm
            obtain ⟨z1, z2, z3⟩ := join_inv (N := 0) (H2 := upd H (news (reach 3 H (vs.flatMap AV.ents)) S.Es.length 0 (encH S.Fs (f xs hs).2))) hI hids (fun e h1 h2 => by omega) w1 w2
              (fun e he => by
                have := List.all_eq_true.1 d2 e (by rw [← mem_turned] at he; simpa using he)
                exact this)
              (fun e => by
                unfold news
                rw [getE_upd_map _ _ _ _ hin, mem_turned])
            exact ⟨rv, _, rfl, z1, z2, inn_VRep z3 d3 w3⟩
          · exact (Tr.fail_some q2).elim
        · exact (Tr.fail_some he).elim
      · exact (Tr.fail_some he).elim
    · exact (Tr.fail_some he).elim
  · exact (Tr.fail_some he).elim

/-- one of two, as the entries are -/
def CSpec.alt (c d : CSpec) (sel : List Entry → Bool) : CSpec :=
  ⟨c.new, c.ids, c.wr, fun vs es fr => match sel es with | true => c.core vs es fr | false => d.core vs es fr⟩

theorem alt_sound {P : Program} {k : Nat} {c d : CSpec} (sel : List Entry → Bool) (hn : c.new = d.new) (hi : c.ids = d.ids) (hw : c.wr = d.wr) (hc : CSound P k c ∧ CLocal c) (hd : CSound P k d ∧ CLocal d) : CSound P k (CSpec.alt c d sel) ∧ CLocal (CSpec.alt c d sel) := by
  refine ⟨⟨hc.1.enter, ?_⟩, ⟨hc.2.same, ?_⟩⟩
  · intro g H w vs rvs fr out hI ha hf he
    simp only [CSpec.alt] at he
    split at he
    · exact hc.1.calls g H w vs rvs fr out hI ha hf he
    · rw [hi] at he
      exact hd.1.calls g H w vs rvs fr out hI ha (by rw [← hn]; exact hf) he
  · intro vs H fr out he
    simp only [CSpec.alt] at he
    split at he
    · exact hc.2.turns vs H fr out he
    · rw [hi] at he
      have := hd.2.turns vs H fr out he
      simp only [CSpec.alt]
      rw [hw, hn]
      exact this

/-- ..its results given up -/
def CSpec.entS (P : Program) (C : Ctx) (L : Loops) (k N : Nat) (Rs : List Ty) (fn : Func) : CSpec :=
  ⟨N, fun vs H => reach k H (vs.flatMap AV.ents), fun vs H => reach k H (vs.flatMap AV.ents), fun vs es fr =>
    let ids := reachE k es (vs.flatMap AV.ents)
    if (ids.all fun e => decide (e < fr)) && (es.all fun E => E.inn (mem ids) false) && (vs.all fun v => v.inn (mem ids) false) then
      (fnK P C L fn vs ((List.range fr).map (putE ids es))).bind fun r0 => let r := sealR Rs r0
        if decide (r.2.length ≤ fr + N) && ((ids ++ List.range' fr N).all fun e => (getE r.2 e).inn (turned ids fr N) true) && r.1.inn (turned ids fr N) true then
          .ret (r.1, news ids fr N r.2) else .fail
    else .fail⟩

theorem entS_local (P : Program) (C : Ctx) (L : Loops) (k N : Nat) (Rs : List Ty) (fn : Func) : CLocal (CSpec.entS P C L k N Rs fn) where
  same vs H H' h := ⟨reach_same k _ h, reach_same k _ h⟩
  turns vs H fr out h x hx := by
    simp only [CSpec.entS] at h
    rw [reach_reachE] at h
    split at h
    · obtain ⟨r, h1, h2⟩ := Tr.bind_some h
      split at h2
      · have := Tr.ret_some h2
        subst this
        simp only [news, List.mem_map, List.mem_append, List.mem_range'] at hx
        obtain ⟨e, he, rfl⟩ := hx
        rcases he with he | ⟨i, hi, rfl⟩
        · exact .inl he
        · refine .inr ⟨by simp only; omega, ?_⟩
          show fr + 1 * i < fr + N
          omega
      · exact (Tr.fail_some h2).elim
    · exact (Tr.fail_some h).elim

theorem entS_sound {P : Program} {C : Ctx} {L : Loops} (hC : CtxSound P C ∧ CtxLocal C) {f : Nat} {fn : Func} (hf : P.funcs[f]? = some fn) (hside : ((fn.name == "runtime.NumGoroutine") == false && fn.body.isSome) = true)
    (hl : ∀ b ∈ loopsOf (bodyOf fn), LoopOK P L b) (k N : Nat) (Rs : List Ty) (hN : 0 < N) : CSound P f (CSpec.entS P C L k N Rs fn) ∧ CLocal (CSpec.entS P C L k N Rs fn) := by
  simp only [Bool.and_eq_true, beq_iff_eq] at hside
  obtain ⟨hname, hb⟩ := hside
  obtain ⟨body, hb⟩ := Option.isSome_iff_exists.1 hb
  have hl : LoopsOK P L body := by
    refine loopsOK_all ?_
    unfold bodyOf at hl
    rw [hb] at hl
    exact hl
  refine ⟨⟨fun args w => callFunc_enter hf hname hb args w, ?_⟩, entS_local P C L k N Rs fn⟩
  intro g H w vs rvs fr out hI hargs hfree he
  simp only [CSpec.entS] at he hfree
  rw [reach_reachE] at he
  split at he
  · rename_i hc
    simp only [Bool.and_eq_true] at hc
    obtain ⟨⟨c1, c2⟩, c3⟩ := hc
    have hids : ∀ e, mem (reach k H (vs.flatMap AV.ents)) e = true → e < fr := fun e he => by
      have := List.all_eq_true.1 c1 e (by simpa [mem] using he)
      simpa using this
    have hcl := ents_all c2
    obtain ⟨r, h1, h2⟩ := Tr.bind_some he
    split at h2
    · rename_i hd
      have := Tr.ret_some h2
      subst this
      simp only [Bool.and_eq_true, decide_eq_true_eq] at hd
      obtain ⟨⟨d1, d2⟩, d3⟩ := hd
      have hH : (List.range fr).map (putE (reach k H (vs.flatMap AV.ents)) (ents H (reach k H (vs.flatMap AV.ents)))) = partH (reach k H (vs.flatMap AV.ents)) H fr := by
        unfold partH
        exact List.map_congr_left fun e _ => putE_ents H _ e
      rw [hH] at h1
      refine (fn_sound hC.1 hC.2 hf hb hl (part_inv hI hids hcl) (inn_args (part_agree hids) c3 hargs) (fnK_ok h1)).mono ?_
      rintro e w' ⟨rv, g0, rfl, hle0, hI0, hv0⟩
      obtain ⟨g1, hle', hI1, hv⟩ := sealR_rep Rs (r := r) hI0 hv0
      have hle := hle0.trans hle'
      have hlen := (freeAt_lt hfree).resolve_left (by omega)
      have hin : ∀ i ∈ (reach k H (vs.flatMap AV.ents)) ++ List.range' fr N, i < H.length := by
        intro i hi
        simp only [List.mem_append, List.mem_range'] at hi
        rcases hi with hi | ⟨j, hj, rfl⟩
        · have := hids i (by simpa [mem] using hi); omega
        · omega
      obtain ⟨q1, q2, q3⟩ := join_inv (H2 := upd H (news (reach k H (vs.flatMap AV.ents)) fr N (sealR Rs r).2)) hI hids (fun e h1 h2 => by rw [hI.sh, freeAt_get hfree e h1 h2]; rfl) hle hI1
        (fun e he => by
          have := List.all_eq_true.1 d2 e (by rw [← mem_turned] at he; simpa using he)
          exact this)
        (fun e => by
          unfold news
          rw [getE_upd_map _ _ _ _ hin, mem_turned])
      exact ⟨rv, _, rfl, q1, q2, inn_VRep q3 d3 hv⟩
    · exact (Tr.fail_some h2).elim
  · exact (Tr.fail_some he).elim


open Go.RowKit in
/-- a law with loops that answers true, the sizes of what comes in being known -/
theorem law_callsL {H : Type} {enc : TypeId × Value → H} {P : Program} {C : Ctx} {L : Loops} (hC : CtxSound P C ∧ CtxLocal C) (hlaid : laidOutB P = true) {k : Nat} {fn : Func} (hf : P.funcs[k]? = some fn)
    {n : Nat} {As : List Ty} (hside : (fn.body.isSome && (fn.params.toList.all fun t => P.readableRec t && decide (t < P.types.size))) = true) (hl : ∀ b ∈ loopsOf (bodyOf fn), LoopOK P L b) (hAs : argTys P n fn.params.toList = some As)
    {tb : TypeId} (hres : fn.resultTypes = #[tb]) (hbool : P.underlying tb = some .bool)
    {s : ChangeSpec} (hs : s.vars = [] ∧ ∀ ds : List (DataW H), ds.length = fn.params.toList.length → s.fn H ds = { results := [.lit (.bool true)], args := ds })
    (h1 : ∀ xs, HL.wf As xs → HL.sz As xs → (fnK P C L fn (mkArgs As xs) []).fine [.bool] = true) (h2 : ∀ xs, HL.wf As xs → HL.sz As xs → (fnK P C L fn (mkArgs As xs) []).fold1 .bool = true)
    {W : World} {base : Nat} {args : Array Value} {ds gs : List (DataW H)} {before : List MemPlace} {apart fresh handsOn again : Bool}
    (hval : ∀ (j : Nat) (t : TypeId) (v : Value), fn.params[j]? = some t → args[j]? = some v → Value.okWide P W .any base t v)
    (hW : DataW.Whole enc P fn.params.toList s.vars apart W args.toList ds gs before)
    (hz : (DataW.weightsEach P (fn.params.toList ++ s.plain.varTypes P) (ds ++ gs)).all (· ≤ reachBytes) = true) :
    Calls P k args W fun e W' => ∃ v, e = .returned v ∧ s.post enc P fn apart fresh handsOn again W args v W' := by
  simp only [Bool.and_eq_true] at hside
  obtain ⟨body, hb⟩ := Option.isSome_iff_exists.1 hside.1
  have hl : LoopsOK P L body := by
    refine loopsOK_all ?_
    unfold bodyOf at hl
    rw [hb] at hl
    exact hl
  exact law_callsZ hC hlaid hf hb hl hAs hside.2 hres hbool hs (fun xs hx hxz => by rw [nrmK (Tr.nrm_of_fine (h1 xs hx hxz)), Tr.fold_one, h2 xs hx hxz]; rfl) hval hW hz

end Vse

end

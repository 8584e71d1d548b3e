/- Regions that draw their order (3): the symbolic machine goes through them as the model does. Nothing here is about one program. -/
import Derived.Test.YtodjkocikflmnaaE17
set_option linter.unusedVariables false
namespace Vse
open Go

section
variable {P : Program} {C : Ctx}

/-- where an operation's own places begin -/
def frOf (C : Ctx) (ops : List Oper) (n k : Nat) : Nat := (((bases C ops n)[k]?).map (·.1)).getD 0

theorem opsF_run {ops : List Oper} {F : Nat → FP} {fr : Nat → Nat} : ∀ {l : List (Nat × Oper)} {k : Nat} {st st' : St} {fs fs' : List FP},
    (opsF P C ops l st fs).eval = some (st', fs') → fs.length = k → (∀ i x, l[i]? = some x → ops[k + i]? = some x.2 ∧ fr (k + i) = x.1) →
    (∃ gs, fs' = fs ++ gs ∧ gs.length = l.length ∧ ((∀ i x, gs[i]? = some x → F (k + i) = x) → Run P C ops fr F (List.range' k l.length) st st'))
  | [], k, st, st', fs, fs', h, hk, hl => by
    have := Tr.ret_some h
    simp only [Prod.mk.injEq] at this
    obtain ⟨rfl, rfl⟩ := this
    exact ⟨[], by simp, rfl, fun _ => .nil _⟩
  | (f, o) :: l, k, st, st', fs, fs', h, hk, hl => by
    obtain ⟨st1, h1, h2⟩ := Tr.bind_some h
    obtain ⟨gs, e1, e2, e3⟩ := opsF_run (F := F) (fr := fr) (k := k + 1) h2 (by simp [hk]) (fun i x hx => by
      have := hl (i + 1) x (by simpa using hx)
      rwa [show k + (i + 1) = k + 1 + i by omega] at this)
    refine ⟨fpOf C o f st :: gs, by rw [e1, List.append_assoc]; rfl, by simp [e2], fun hF => ?_⟩
    have h0 := hl 0 (f, o) rfl
    simp only [Nat.add_zero] at h0
    rw [List.length_cons, List.range'_succ]
    refine .cons h0.1 (by rw [h0.2]; exact h1) ?_ (e3 fun i x hx => ?_)
    · rw [h0.2]
      have := hF 0 _ rfl
      simpa using this.symm
    · have := hF (i + 1) x (by simpa using hx)
      rwa [show k + (i + 1) = k + 1 + i by omega] at this

theorem bases_get : ∀ (os : List Oper) (n i : Nat) (x : Nat × Oper), (bases C os n)[i]? = some x → os[i]? = some x.2
  | [], n, i, x, h => by simp [bases] at h
  | o :: os, n, 0, x, h => by
    simp only [bases, List.getElem?_cons_zero, Option.some.injEq] at h
    subst h; rfl
  | o :: os, n, i + 1, x, h => by
    simp only [bases, List.getElem?_cons_succ] at h ⊢
    exact bases_get os _ i x h

theorem bases_length (os : List Oper) : ∀ n, (bases C os n).length = os.length := by
  induction os with
  | nil => intro n; rfl
  | cons o os ih => intro n; simp [bases, ih]

/-- going by any list of numbers -/
theorem run_sound (hC : CtxSound P C) {ops : Array Oper} {fr : Nat → Nat} {F : Nat → FP} {Q : Exit → Act → World → Prop} {s : List Nat} {st st' : St} (hr : Run P C ops.toList fr F s st st') :
    ∀ {g : G} {a : Act} {w : World}, SRep g st a w → (∀ g' a' w', g.le g' → SRep g' st' a' w' → Q .normal a' w') → wpOps P ops Q s a w := by
  induction hr with
  | nil st => intro g a w hs hn; exact hn g a w (G.le.refl g) hs
  | cons ho h hf hr' ih =>
    rename_i k o l st st1 st2
    intro g a w hs hn
    have ho' : ops[k]? = some o := by simpa using ho
    -- one step of the list form, whose continuation is ours
    have key : ∀ (K : Act → World → Prop), (∀ g' a' w', g.le g' → SRep g' st1 a' w' → K a' w') →
        (if Region.wanted o (yielded ops a.tmps) then o.wp P a w K Q ∨ (o.asks P a w ∧ LetsOut Q) else K (a.put o.dst undef) w) := by
      intro K hK
      exact stepT_sound' hC hs h hK
    simp only [wpOps, ho']
    exact key _ fun g' a' w' hle hs' => ih hs' fun g'' a'' w'' hle' hs'' => hn g'' a'' w'' (hle.trans hle') hs''

theorem SRep.drew {g : G} {st : St} {a : Act} {w : World} (h : SRep g st a w) : SRep g st a { w with drawn := w.drawn + 1 } :=
  ⟨h.env, ⟨h.heap.sh, h.heap.fr, h.heap.gr, fun e => ERep_world (fun b _ o ho => ho) (h.heap.ent e), h.heap.own, h.heap.sep, h.heap.dis, h.heap.ext⟩, h.defers⟩

theorem drawOk_spec {ops : List Oper} {fs : List FP} (h : drawOk ops fs = true) : edgesOk ops 0 = true ∧
    ∀ i j, i < j → j < ops.length → before ops i j ∨ ∃ a b f g, ops[i]? = some a ∧ ops[j]? = some b ∧ fs[i]? = some f ∧ fs[j]? = some g ∧ slotsApart ops a b = true ∧ slotsApart ops b a = true ∧ f.indep g = true := by
  simp only [drawOk, Bool.and_eq_true, List.all_eq_true, List.mem_range] at h
  refine ⟨h.1, fun i j hij hj => ?_⟩
  have := h.2 j hj i hij
  simp only [pairOk, Bool.or_eq_true] at this
  rcases this with h' | h'
  · exact .inl h'
  · split at h'
    · rename_i a b f g h1 h2 h3 h4
      simp only [Bool.and_eq_true] at h'
      exact .inr ⟨a, b, f, g, h1, h2, h3, h4, h'.1.1, h'.1.2, h'.2⟩
    · cases h'

theorem draw_sound (hC : CtxSound P C) (hL : CtxLocal C) {g : G} {st st' : St} {a : Act} {w : World} {ops : Array Oper} {id : Nat} {Q : Exit → Act → World → Prop} {n : Nat} {fs : List FP}
    (hs : SRep g st a w) (he : (opsF P C ops.toList (bases C ops.toList st.heap.length) (widen st n) []).eval = some (st', fs))
    (hfo : P.follows .mixedOrders = true) (hok : drawOk ops.toList fs = true)
    (hn : ∀ g' a' w', g.le g' → SRep g' st' a' w' → Q .normal a' w') : (Code.region id ops true).wp P Q a w := by
  obtain ⟨hE, hpairs⟩ := drawOk_spec hok
  let F : Nat → FP := fun k => fs.getD k ⟨[], [], [], [], 0, 0⟩
  let fr : Nat → Nat := frOf C ops.toList st.heap.length
  obtain ⟨gs, e1, e2, e3⟩ := opsF_run (F := F) (fr := fr) (k := 0) he rfl (fun i x hx => by
    rw [Nat.zero_add]
    refine ⟨bases_get _ _ _ _ hx, ?_⟩
    simp [fr, frOf, hx])
  simp only [List.nil_append] at e1
  subst e1
  have hrun := e3 fun i x hx => by simp [F, List.getD_eq_getElem?_getD, hx]
  rw [bases_length, ← List.range_eq_range', Array.length_toList] at hrun
  refine wp_region_draw fun t => ?_
  have hsch : Region.schedule (P.follows .mixedOrders) ops t = Region.linearise .any ops t := by
    simp [Region.schedule, hfo]
  rw [hsch]
  obtain ⟨l1, l2, l3⟩ := lin_spec hE t
  have hpw : (List.range ops.size).Pairwise (fun a x => before ops.toList a x ∨ Free ops.toList F a x) := by
    rw [List.pairwise_iff_getElem]
    intro i j hi hj hij
    simp only [List.length_range] at hi hj
    simp only [List.getElem_range]
    rcases hpairs i j hij (by simpa using hj) with h | ⟨a, b, f, g, h1, h2, h3, h4, h5, h6, h7⟩
    · exact .inl h
    · right
      intro a' b' ha' hb'
      rw [h1] at ha'; rw [h2] at hb'
      simp only [Option.some.injEq] at ha' hb'
      subst ha'; subst hb'
      refine ⟨h5, h6, ?_⟩
      simp only [F, List.getD_eq_getElem?_getD, h3, h4, Option.getD_some]
      exact h7
  have := Run.perm hL hrun l2 l1 hpw l3
  exact run_sound hC this (widen_rep hs.drew n) hn

end
end Vse

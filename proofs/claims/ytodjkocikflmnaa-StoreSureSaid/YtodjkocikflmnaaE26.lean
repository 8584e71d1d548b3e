/- Loops of the symbolic machine: a round, what is forgotten behind it, and the loop's summary. Nothing here is about one program. -/
import Derived.Test.YtodjkocikflmnaaE25
import Derived.Deep.LoopGhost
set_option linter.unusedVariables false
namespace Vse
open Go

/-! forgetting -/

/-- a value that looks into no entry from n on -/
def Ty.under (n : Nat) : Ty → Bool
  | .prod a b => a.under n && b.under n
  | .arr _ a => a.under n
  | .imm _ _ a => a.under n
  | .ip _ a => a.under n
  | .fn _ c => c.under n
  | .vc e _ | .sv e _ | .vp e _ _ | .sub e _ | .ptr e _ | .mp e | .it e | .ch e => decide (e < n)
  | _ => true

/-- memory that is as good, for what looks into no entry from n on -/
structure G.upto (n : Nat) (g g' : G) : Prop where
  fr : g'.fr = g.fr
  gr : g'.gr = g.gr
  ext : g'.ext = g.ext
  bl : ∀ e, e < n → g'.bl e = g.bl e
  sz : ∀ e, e < n → g'.sz e = g.sz e
  sh : ∀ e, e < n → g'.sh e = g.sh e

theorem below_Rep {n : Nat} {g g' : G} (h : g.upto n g') : ∀ (T : Ty) (x : T.den) (cs : List Value), T.under n = true → (Rep g T x cs → Rep g' T x cs) ∧ (Rep.RepC g T x cs → Rep.RepC g' T x cs) := by
  intro T
  induction T with
  | bool | int | str | und | nils | nilp | nilm | nilf | nili | mp | it | ch => intro x cs _; exact ⟨fun hr => hr, fun hr => by simp [Rep.RepC] at hr⟩
  | unit => intro x cs _; exact ⟨fun hr => hr, fun hr => hr⟩
  | prod a b iha ihb =>
    intro x cs hs
    simp only [Ty.under, Bool.and_eq_true] at hs
    constructor
    · rintro ⟨c1, c2, rfl, h1, h2⟩
      exact ⟨c1, c2, rfl, (iha _ _ hs.1).1 h1, (ihb _ _ hs.2).1 h2⟩
    · rintro ⟨v, r, rfl, h1, h2⟩
      refine ⟨v, r, rfl, ?_, (ihb _ _ hs.2).2 h2⟩
      split at h1
      · obtain ⟨cs, hv, hr⟩ := h1; rw [if_pos (by assumption)]; exact ⟨cs, hv, (iha _ _ hs.1).1 hr⟩
      · rw [if_neg (by assumption)]; exact (iha _ _ hs.1).1 h1
  | arr k a iha =>
    intro x cs hs
    exact ⟨fun hr => ⟨hr.1, repL_mono (fun y _ cs => (iha y cs hs).1) hr.2⟩, fun hr => by simp [Rep.RepC] at hr⟩
  | imm q f a iha =>
    intro x cs hs
    refine ⟨?_, fun hr => by simp [Rep.RepC] at hr⟩
    rintro ⟨pv, cap, h1, h2, h3, h4⟩
    refine ⟨pv, cap, h1, h2, h3, fun hne => ?_⟩
    obtain ⟨ad, vs, a1, a2, a3⟩ := h4 hne
    refine ⟨ad, vs, a1, repL_mono (fun y _ cs => (iha y cs hs).1) a2, ?_⟩
    rw [h.fr, h.gr]; exact a3
  | ip q a iha =>
    intro x cs hs
    refine ⟨?_, fun hr => by simp [Rep.RepC] at hr⟩
    rintro ⟨ad, vs, h1, h2, h3⟩
    refine ⟨ad, vs, h1, (iha _ _ hs).1 h2, ?_⟩
    rw [h.fr, h.gr]; exact h3
  | vc e gn =>
    intro x cs hs
    simp only [Ty.under, decide_eq_true_eq] at hs
    exact ⟨fun hr => by simpa only [Rep, G.vcr, h.sh e hs, h.bl e hs, h.sz e hs] using hr, fun hr => by simp [Rep.RepC] at hr⟩
  | sv e gn =>
    intro x cs hs
    simp only [Ty.under, decide_eq_true_eq] at hs
    exact ⟨fun hr => by simpa only [Rep, G.vcr, h.sh e hs, h.bl e hs, h.sz e hs] using hr, fun hr => by simp [Rep.RepC] at hr⟩
  | vp e gn p =>
    intro x cs hs
    simp only [Ty.under, decide_eq_true_eq] at hs
    exact ⟨fun hr => by simpa only [Rep, G.vcr, h.sh e hs, h.bl e hs, h.sz e hs] using hr, fun hr => by simp [Rep.RepC] at hr⟩
  | sub e p =>
    intro x cs hs
    simp only [Ty.under, decide_eq_true_eq] at hs
    exact ⟨fun hr => by simpa only [Rep, G.bxr, h.sh e hs, h.bl e hs, h.sz e hs] using hr, fun hr => by simp [Rep.RepC] at hr⟩
  | ptr e p =>
    intro x cs hs
    simp only [Ty.under, decide_eq_true_eq] at hs
    exact ⟨fun hr => by simpa only [Rep, G.bxr, h.sh e hs, h.bl e hs, h.sz e hs] using hr, fun hr => by simp [Rep.RepC] at hr⟩
  | fn f c ihc =>
    intro x cs hs
    refine ⟨?_, fun hr => by simp [Rep.RepC] at hr⟩
    rintro ⟨vs, h1, h2⟩
    exact ⟨vs, h1, (ihc _ _ hs).2 h2⟩

theorem below_TRep {n : Nat} {g g' : G} (h : g.upto n g') {T : Ty} {x : T.den} {v : Value} (hs : T.under n = true) (hr : TRep g T x v) : TRep g' T x v := by
  unfold TRep at hr ⊢
  split
  · rw [if_pos (by assumption)] at hr; obtain ⟨cs, h1, h2⟩ := hr; exact ⟨cs, h1, (below_Rep h _ _ _ hs).1 h2⟩
  · rw [if_neg (by assumption)] at hr; exact (below_Rep h _ _ _ hs).1 hr

theorem below_tup {n : Nat} {g g' : G} (h : g.upto n g') : ∀ {l : List TV} {vs : List Value}, (l.all fun t => t.T.under n) = true → tupRep g l vs → tupRep g' l vs
  | [], _, _, hr => hr
  | t :: ts, _, hs, ⟨v, r, h1, h2, h3⟩ => by
    simp only [List.all_cons, Bool.and_eq_true] at hs
    exact ⟨v, r, h1, below_TRep h hs.1 h2, below_tup h hs.2 h3⟩

def AV.under (n : Nat) : AV → Bool
  | .v T _ => T.under n
  | .tup l => l.all fun t => t.T.under n

theorem below_VRep {n : Nat} {g g' : G} (h : g.upto n g') {a : AV} {v : Value} (hs : a.under n = true) (hr : VRep g a v) : VRep g' a v := by
  cases a with
  | v T x =>
    cases T <;> first | trivial | exact below_TRep h hs hr
  | tup l => obtain ⟨vs, h1, h2⟩ := hr; exact ⟨vs, h1, below_tup h hs h2⟩

def Entry.under (n : Nat) : Entry → Bool
  | .box T _ => T.under n
  | .vec _ a _ => a.under n
  | _ => true

/-- just some slots' values -/
def keep (live : List Nat) : Nat → List AV → List AV
  | _, [] => []
  | i, a :: l => (if live.contains i then a else AV.und) :: keep live (i + 1) l

theorem keep_length (live : List Nat) : ∀ (env : List AV) (i : Nat), (keep live i env).length = env.length
  | [], _ => rfl
  | a :: l, i => by simp [keep, keep_length live l]

theorem keep_get (live : List Nat) : ∀ (env : List AV) (i j : Nat), getV (keep live i env) j = getV env j ∨ getV (keep live i env) j = AV.und
  | [], _, _ => .inl rfl
  | a :: l, i, 0 => by
    simp only [keep, getV]
    split
    · exact .inl rfl
    · exact .inr rfl
  | a :: l, i, j + 1 => by simpa only [keep, getV] using keep_get live l (i + 1) j

theorem keep_rep {g : G} {env : List AV} {a : Act} (h : EnvRep g env a) (live : List Nat) : EnvRep g (keep live 0 env) a := by
  refine ⟨by rw [keep_length]; exact h.1, fun i => ?_⟩
  rcases keep_get live env 0 i with e | e
  · rw [e]; exact h.2 i
  · rw [e]; trivial

def keepSt (live : List Nat) (st : St) : St := ⟨keep live 0 st.env, st.heap⟩

theorem keepSt_rep {g : G} {st : St} {a : Act} {w : World} (h : SRep g st a w) (live : List Nat) : SRep g (keepSt live st) a w := ⟨keep_rep h.env live, h.heap, h.defers⟩

/-- a state behind a round: some slots, and the entries that were there before -/
def cutSt (live : List Nat) (n : Nat) (st : St) : St := ⟨keep live 0 st.env, st.heap.take n⟩

def cutOk (n : Nat) (st : St) : Bool := (st.env.all fun a => a.under n) && (st.heap.all fun e => e.under n)

theorem getE_take : ∀ (H : Heap) (n e : Nat), getE (H.take n) e = if e < n then getE H e else .free
  | [], n, e => by simp [getE]
  | x :: H, 0, e => by simp [getE]
  | x :: H, n + 1, 0 => by simp [getE]
  | x :: H, n + 1, e + 1 => by simp [getE, getE_take H n e]

theorem getV_all {p : AV → Bool} (hp : p AV.none = true) : ∀ {env : List AV}, env.all p = true → ∀ i, p (getV env i) = true
  | [], _, _ => hp
  | a :: l, h, 0 => by simp only [List.all_cons, Bool.and_eq_true] at h; exact h.1
  | a :: l, h, i + 1 => by simp only [List.all_cons, Bool.and_eq_true] at h; exact getV_all hp h.2 i

theorem getE_all {p : Entry → Bool} (hp : p .free = true) : ∀ {H : Heap}, H.all p = true → ∀ i, p (getE H i) = true
  | [], _, _ => hp
  | a :: l, h, 0 => by simp only [List.all_cons, Bool.and_eq_true] at h; exact h.1
  | a :: l, h, i + 1 => by simp only [List.all_cons, Bool.and_eq_true] at h; exact getE_all hp h.2 i

theorem cut_rep {g g2 : G} {n : Nat} {st : St} {a : Act} {w : World} (live : List Nat) (hfree : ∀ e, n ≤ e → g.sh e = .free) (hle : g.le g2) (h : SRep g2 st a w) (hc : cutOk n (cutSt live n st) = true) :
    ∃ g3, g.le g3 ∧ SRep g3 (cutSt live n st) a w := by
  let g3 : G := { g2 with sh := fun e => if e < n then g2.sh e else .free, bl := fun e => if e < n then g2.bl e else none }
  have hu : g2.upto n g3 := ⟨rfl, rfl, rfl, fun e he => by simp [g3, he], fun e he => rfl, fun e he => by simp [g3, he]⟩
  simp only [cutOk, Bool.and_eq_true] at hc
  have hl : g.le g3 := by
    refine ⟨hle.fr, hle.gr, hle.ext, fun e => ?_⟩
    by_cases he : e < n
    · have h3 : g3.sh e = g2.sh e := by simp [g3, he]
      have h4 : g3.bl e = g2.bl e := by simp [g3, he]
      cases hle.ent e with
      | same a b c => exact .same (h3.trans a) (h4.trans b) c
      | dead a => exact .dead (h3.trans a)
      | grew a b c => exact .grew a (h3.trans b) c
      | new a => exact .new a
    · exact .new (hfree e (by omega))
  refine ⟨g3, hl, ⟨?_, ?_, h.defers⟩⟩
  · have hk := keep_rep h.env live
    refine ⟨hk.1, fun i => ?_⟩
    exact below_VRep hu (getV_all (p := fun a => a.under n) rfl hc.1 i) (hk.2 i)
  · have hI := h.heap
    refine ⟨?_, hI.fr, hI.gr, ?_, ?_, hI.sep, ?_, hI.ext⟩
    · intro e
      simp only [cutSt, getE_take]
      by_cases he : e < n
      · simp only [g3, if_pos he]; exact hI.sh e
      · simp only [g3, if_neg he]; rfl
    · intro e
      have hb := getE_all (p := fun x => x.under n) rfl hc.2 e
      simp only [cutSt, getE_take] at hb ⊢
      by_cases he : e < n
      · simp only [if_pos he] at hb ⊢
        have hent := hI.ent e
        cases hE : getE st.heap e with
        | free => trivial
        | dead => trivial
        | box T x =>
          rw [hE] at hent hb
          obtain ⟨b, cs, t, fz, q1, q2, q3, q4⟩ := hent
          exact ⟨b, cs, t, fz, (hu.bl e he).trans q1, q2, q3, (below_Rep hu _ _ _ hb).1 q4⟩
        | vec k a l =>
          rw [hE] at hent hb
          rcases hent with ⟨q1, q2⟩ | ⟨b, cs, t, fz, vs, r, q1, q2, q3, q4, q5, q6, q7⟩
          · exact .inl ⟨(hu.bl e he).trans q1, q2⟩
          · exact .inr ⟨b, cs, t, fz, vs, r, (hu.bl e he).trans q1, q2, q3, (hu.sz e he).trans q4, q5, repL_mono (fun y _ cs => (below_Rep hu a y cs hb).1) q6, q7⟩
      · simp only [if_neg he]; trivial
    · intro e b h1 h2
      simp only [cutSt, getE_take] at h1
      by_cases he : e < n
      · rw [if_pos he] at h1
        exact hI.own e b h1 ((hu.bl e he).symm.trans h2)
      · rw [if_neg he] at h1; cases h1
    · intro e e' b h1 h1' h2 h2'
      simp only [cutSt, getE_take] at h1 h1'
      by_cases he : e < n
      · by_cases he' : e' < n
        · rw [if_pos he] at h1
          rw [if_pos he'] at h1'
          exact hI.dis e e' b h1 h1' ((hu.bl e he).symm.trans h2) ((hu.bl e' he').symm.trans h2')
        · rw [if_neg he'] at h1'; cases h1'
      · rw [if_neg he] at h1; cases h1

/-! rounds -/

/-- the loop's rounds, at most so many; 'live': what is still wanted at a round's head, 'out': behind the loop -/
def rounds (body : St → Tr (Ex × St)) (live out : List Nat) (n0 : Nat) : Nat → St → Tr (Ex × St)
  | 0, _ => .fail
  | n + 1, st => (body st).bind fun r => match r.1 with
    | .normal => if cutOk n0 (cutSt live n0 r.2) then rounds body live out n0 n (cutSt live n0 r.2) else .fail
    | x => .ret (x, keepSt out r.2)

section
variable {P : Program} {C : Ctx} {L : Loops}

theorem cut_len {live : List Nat} {n : Nat} {st : St} (h : n ≤ st.heap.length) : (cutSt live n st).heap.length = n := by
  simp [cutSt]; omega

theorem free_past {g : G} {st : St} {a : Act} {w : World} (h : SRep g st a w) {n : Nat} (hn : st.heap.length ≤ n) : ∀ e, n ≤ e → g.sh e = .free := by
  intro e he
  rw [h.heap.sh, getE_past _ (by omega)]; rfl

theorem rounds_sound (hC : CtxSound P C) (hLc : CtxLocal C) {c : Code} (hl : LoopsOK P L c) {live out : List Nat} {n0 n : Nat} {g : G} {st st' : St} {a : Act} {w : World} {x : Ex} {Q : Exit → Act → World → Prop}
    (hs : SRep g st a w) (hn0 : st.heap.length ≤ n0) (he : (rounds (run P C L c) live out n0 n st).eval = some (x, st')) (hn : ∀ g' a' w', g.le g' → SRep g' st' a' w' → Q x.out a' w') :
    (Code.loop c).wp P Q a w := by
  have hfree := free_past hs hn0
  refine wp_loop_ghost (fun m a w => ∃ g1 s, g.le g1 ∧ SRep g1 s a w ∧ (rounds (run P C L c) live out n0 m s).eval = some (x, st')) n ⟨g, st, G.le.refl g, hs, he⟩ ?_
  rintro m a w ⟨g1, s, hle, hs1, he1⟩
  cases m with
  | zero => exact (Tr.fail_some he1).elim
  | succ m =>
    obtain ⟨r, h1, h2⟩ := Tr.bind_some he1
    obtain ⟨y, s2⟩ := r
    refine code_sound hC hLc c hl hs1 h1 ?_
    intro g2 a' w' hle2 hs2
    cases y with
    | normal =>
      simp only at h2
      split at h2
      · rename_i hc
        obtain ⟨g3, q1, q2⟩ := cut_rep live hfree (hle.trans hle2) hs2 hc
        exact ⟨m, Nat.lt_succ_self m, g3, _, q1, q2, h2⟩
      · exact (Tr.fail_some h2).elim
    | exit i =>
      have := Tr.ret_some h2
      simp only [Prod.mk.injEq] at this
      obtain ⟨rfl, rfl⟩ := this
      exact hn _ _ _ (hle.trans hle2) (keepSt_rep hs2 out)
    | ret =>
      have := Tr.ret_some h2
      simp only [Prod.mk.injEq] at this
      obtain ⟨rfl, rfl⟩ := this
      exact hn _ _ _ (hle.trans hle2) (keepSt_rep hs2 out)

end
end Vse

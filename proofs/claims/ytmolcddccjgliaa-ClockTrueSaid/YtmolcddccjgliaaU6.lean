/- Spans swept (layer 7, sweep): what the functions give: turned about, Fuse, Most. -/
import Derived.Test.YtmolcddccjgliaaU5
set_option linter.unusedVariables false
set_option maxRecDepth 100000
namespace Go.Proofs.Ytmolcddccjgliaa.Sweep
open Go Vse Go.Proofs Gen

/-! turned about -/

/-- so many turned about from both sides -/
def midR (l : TL) (k : Nat) : TL := (List.range l.length).map fun t => if t < k ∨ l.length - k ≤ t then l.getD (l.length - 1 - t) (dflt tS) else l.getD t (dflt tS)
theorem midR_len (l : TL) (k : Nat) : (midR l k).length = l.length := by unfold midR; rw [List.length_map, List.length_range]
theorem midR_get (l : TL) (k t : Nat) (h : t < l.length) : (midR l k).getD t (dflt tS) = if t < k ∨ l.length - k ≤ t then l.getD (l.length - 1 - t) (dflt tS) else l.getD t (dflt tS) := by
  unfold midR
  rw [List.getD_eq_getElem?_getD, List.getElem?_map, List.getElem?_range h]
  rfl
theorem ext_T {p q : TL} (hl : p.length = q.length) (h : ∀ k, k < p.length → p.getD k (dflt tS) = q.getD k (dflt tS)) : p = q := by
  apply List.ext_getElem hl
  intro i h1 h2
  have := h i h1
  rw [getT h1, getT h2] at this
  exact this
theorem midR_zero (l : TL) : midR l 0 = l := by
  refine ext_T (midR_len l 0) fun k hk => ?_
  rw [midR_len] at hk
  rw [midR_get l 0 k hk, if_neg (by omega)]
theorem midR_end {l : TL} {k : Nat} (h : l.length ≤ 2 * k + 1) : midR l k = l.reverse := by
  refine ext_T (by rw [midR_len, List.length_reverse]) fun t ht => ?_
  rw [midR_len] at ht
  have hr : l.reverse.getD t (dflt tS) = l.getD (l.length - 1 - t) (dflt tS) := by
    rw [List.getD_eq_getElem?_getD, List.getElem?_reverse ht, List.getD_eq_getElem?_getD]
  rw [midR_get l k t ht, hr]
  by_cases hc : t < k ∨ l.length - k ≤ t
  · rw [if_pos hc]
  · rw [if_neg hc]
    congr 1
    omega
theorem getD_set {l : TL} {i t : Nat} {x : tS.den} (h : i < l.length) : (l.set i x).getD t (dflt tS) = if t = i then x else l.getD t (dflt tS) := by
  rw [List.getD_eq_getElem?_getD]
  by_cases e : t = i
  · subst e
    rw [List.getElem?_set_self h, if_pos rfl]
    rfl
  · rw [List.getElem?_set_ne (fun q => e q.symm), if_neg e, List.getD_eq_getElem?_getD]
theorem midR_step {l : TL} {k : Nat} (h : k < l.length - 1 - k) :
    ((midR l k).set k ((midR l k).getD (l.length - 1 - k) (dflt tS))).set (l.length - 1 - k) ((midR l k).getD k (dflt tS)) = midR l (k + 1) := by
  refine ext_T (by rw [List.length_set, List.length_set, midR_len, midR_len]) fun t ht => ?_
  rw [List.length_set, List.length_set, midR_len] at ht
  rw [getD_set (by rw [List.length_set, midR_len]; omega), getD_set (by rw [midR_len]; omega), midR_get l (k + 1) t ht, midR_get l k k (by omega), midR_get l k (l.length - 1 - k) (by omega), midR_get l k t ht]
  by_cases e1 : t = l.length - 1 - k
  · rw [if_pos e1, if_neg (by omega), if_pos (by omega)]
    congr 1
    omega
  · rw [if_neg e1]
    by_cases e2 : t = k
    · subst e2
      rw [if_pos rfl, if_neg (by omega), if_pos (by omega)]
    · rw [if_neg e2]
      by_cases hc : t < k ∨ l.length - k ≤ t
      · rw [if_pos hc, if_pos (by omega)]
      · rw [if_neg hc, if_neg (by omega)]

def cRv1 (i j : Int) (l : TL) : Bool := decide (0 < l.length ∧ l.length ≤ 2000) && (decide (i = 0) && decide (j = w ((l.length : Int) - 1)))
theorem mRv {l : TL} (hp : 0 < l.length) (hl : l.length ≤ 2000) : ∀ (m k : Nat), l.length ≤ 2 * (k + m) + 1 → 2 * k ≤ l.length →
    SRv.many (bodyK Try.prog (ctx []) L0 bRv) (m + 1) ((), (k : Int), (l.length : Int) - 1 - (k : Int), ()) (midR l k, ()) = some (.exit 0, encS [] [] [.vec 0 tS] 28 () (l.reverse, ()))
  | 0, k, h, h2 => by
    refine rmany_inr ((rRv _ _ _).trans ?_) 0
    unfold GRv
    simp only
    rw [ite_f (decide_eq_false (by omega)), midR_end (by omega)]
    rfl
  | m + 1, k, h, h2 => by
    by_cases hc : k < l.length - 1 - k
    · have ej : (l.length : Int) - 1 - (k : Int) = ((l.length - 1 - k : Nat) : Int) := by omega
      have w1 : w ((l.length : Int) - 1 - (k : Int) - 1) = (l.length : Int) - 1 - ((k + 1 : Nat) : Int) := (w_id (by omega) (by omega)).trans (by omega)
      refine (rmany_inl (d := (((), ((k + 1 : Nat) : Int), (l.length : Int) - 1 - ((k + 1 : Nat) : Int), ()), (midR l (k + 1), ()))) ((rRv _ _ _).trans ?_) (m + 1)).trans (mRv hp hl m (k + 1) (by omega) (by omega))
      unfold GRv
      simp only
      rw [ite_t (decide_eq_true (by omega)), w1, w_step k (by omega), ej]
      simp only [Int.toNat_natCast]
      rw [chk_eval (inArr_nat (by rw [midR_len]; omega)), chk_eval (inArr_nat (by rw [midR_len]; omega)), chk_eval (inArr_nat (by rw [midR_len]; omega)), chk_eval (inArr_nat (by rw [List.length_set, midR_len]; omega)), midR_step hc]
      rfl
    · refine rmany_inr ((rRv _ _ _).trans ?_) (m + 1)
      unfold GRv
      simp only
      rw [ite_f (decide_eq_false (by omega)), midR_end (by omega)]
      rfl
theorem lRv : LoopOK Try.prog (LRv cRv1 fun l => l.reverse) bRv :=
  rloop_ok (L := LRv cRv1 fun l => l.reverse) (L' := L0) nil_sound (loopsOK_of (by kernel_rfl)) SRv (F := FRv cRv1 fun l => l.reverse) (i := 1) (by kernel_rfl) (fun _ => rfl) fun xs hs r h => by
    obtain ⟨u1, i, j, u2⟩ := xs
    obtain ⟨l, u3⟩ := hs
    obtain ⟨h1, h2⟩ := Tr.chk_some h
    simp only [cRv1, Bool.and_eq_true, decide_eq_true_eq] at h1
    obtain ⟨⟨a1, a2⟩, e1, e2⟩ := h1
    have a1 : 0 < List.length (α := tS.den) l := a1
    have a2 : List.length (α := tS.den) l ≤ 2000 := a2
    have e1 : i = ((0 : Nat) : Int) := e1
    have e2 : j = (List.length (α := tS.den) l : Int) - 1 - ((0 : Nat) : Int) := e2.trans ((w_id (by omega) (by omega)).trans (by omega))
    subst e1; subst e2
    have := mRv (l := l) a1 a2 (List.length (α := tS.den) l) 0 (by omega) (by omega)
    rw [midR_zero] at this
    exact ⟨_, this.trans (congrArg some (Tr.ret_some h2))⟩
def okR (l : TL) : Bool := decide (0 < l.length ∧ l.length ≤ 2000)
def s36 : CSpec := .pos nRv (fun _ hs => okR hs.1) fun _ hs => ((), (List.reverse (α := tS.den) hs.1, ()))
theorem ok36 : CSound Try.prog 36 s36 ∧ CLocal s36 :=
  pos_sound (L := LRv cRv1 fun l => l.reverse) nil_sound Try.func36 (by kernel_rfl) (loops1 (by kernel_rfl) lRv) fun xs hs _ _ hp => by
    obtain ⟨u1, u2⟩ := xs
    obtain ⟨l, u3⟩ := hs
    have hp : okR l = true := hp
    exact (tRv cRv1 (fun l => l.reverse) l).trans (chk_eval (by unfold okR at hp; simp only [cRv1, hp, decide_true, Bool.and_self]) _)

/-! Fuse -/

theorem units_ends (l : TL) : ∀ e ∈ endsS l, e.2.1 = 1 ∨ e.2.1 = -1 := fun e he => by
  unfold endsS at he
  obtain ⟨x, hx, rfl⟩ := List.mem_map.1 he
  have hx := (ends_perm (pl l)).mem_iff.1 hx
  obtain ⟨s, _, hs⟩ := List.mem_flatMap.1 hx
  simp only [List.mem_cons, List.not_mem_nil, or_false] at hs
  rcases hs with rfl | rfl
  · exact .inl rfl
  · exact .inr rfl
theorem endsS_len (l : TL) : (endsS l).length = 2 * l.length := by
  unfold endsS
  rw [List.length_map, (ends_perm (pl l)).length_eq, endsOf_len, List.length_map]
theorem okF_ends {l : TL} (h : l.length ≤ 1000) (need : Int) {sign : Int} (hs : sign = 1 ∨ sign = -1) : okF (endsS l) need sign = true := by
  have := endsS_len l
  simp only [okF, units, Bool.and_eq_true, decide_eq_true_eq]
  exact ⟨⟨by omega, units_ends l⟩, hs⟩
theorem okF_rev {l : TL} (h : l.length ≤ 1000) (need : Int) {sign : Int} (hs : sign = 1 ∨ sign = -1) : okF (List.reverse (endsS l)) need sign = true := by
  have := endsS_len l
  simp only [okF, units, Bool.and_eq_true, decide_eq_true_eq]
  exact ⟨⟨by rw [List.length_reverse]; omega, fun e he => units_ends l e (List.mem_reverse.1 he)⟩, hs⟩
theorem pl_ends (l : TL) : pl (endsS l) = ends (pl l) := pl_toP _
theorem pl_rev (l : TL) : pl (List.reverse (endsS l)) = (ends (pl l)).reverse := by
  unfold pl
  rw [List.map_reverse]
  exact congrArg List.reverse (pl_ends l)

def fuseT (l : TL) (liars : Int) : tS.den × Int × Unit := (toP (fuseF (pl l) liars).1, (fuseF (pl l) liars).2, ())
theorem TFu_eq {l : TL} (hl : l.length ≤ 1000) (liars : Int) :
    (TFu bigL wrongT okE endsS okF firstT okR (fun l => l.reverse) l liars).eval = some (fuseT l liars, ()) := by
  unfold TFu fuseT
  simp only
  rw [chk_eval (show bigL l = true from decide_eq_true (by omega))]
  have hlen : (pl l).length = l.length := List.length_map _
  cases hw : wrongT l with
  | true =>
    have : fuseF (pl l) liars = ((0, 0), 1) := by unfold fuseF; rw [if_pos (.inl hw)]
    rw [ite_t (by rfl), this]; rfl
  | false =>
    rw [ite_f (by rfl)]
    by_cases h1 : liars < 0
    · have : fuseF (pl l) liars = ((0, 0), 1) := by unfold fuseF; rw [if_pos (.inr (.inl h1))]
      rw [ite_t (decide_eq_true h1), this]; rfl
    by_cases h2 : liars ≥ (l.length : Int)
    · have : fuseF (pl l) liars = ((0, 0), 1) := by unfold fuseF; rw [if_pos (.inr (.inr (by rw [hlen]; exact h2)))]
      rw [ite_f (decide_eq_false h1), ite_t (decide_eq_true h2), this]; rfl
    have hneed : w ((l.length : Int) - liars) = (l.length : Int) - liars := w_id (by omega) (by omega)
    rw [ite_f (decide_eq_false h1), ite_f (decide_eq_false h2), hneed, chk_eval (show okE l = true from decide_eq_true (by omega)), chk_eval (okF_ends hl _ (.inl rfl))]
    have hbad : ¬ (wrong (pl l) = true ∨ liars < 0 ∨ liars ≥ ((pl l).length : Int)) := by
      rintro (h | h | h)
      · have hw : wrong (pl l) = false := hw
        rw [hw] at h; cases h
      · exact h1 h
      · exact h2 (by rw [hlen] at h; exact h)
    have hY : firstT (endsS l) ((l.length : Int) - liars) 1 = ((fstS ((l.length : Int) - liars) 1 0 (ends (pl l))).getD 0, (fstS ((l.length : Int) - liars) 1 0 (ends (pl l))).isSome, ()) := by
      unfold firstT fiX fiY
      rw [pl_ends]
    have hZ : firstT (List.reverse (endsS l)) ((l.length : Int) - liars) (-1) = ((fstS ((l.length : Int) - liars) (-1) 0 (ends (pl l)).reverse).getD 0, (fstS ((l.length : Int) - liars) (-1) 0 (ends (pl l)).reverse).isSome, ()) := by
      unfold firstT fiX fiY
      rw [pl_rev]
    rw [hY]
    unfold fuseF
    rw [if_neg hbad, hlen]
    cases hf : fstS ((l.length : Int) - liars) 1 0 (ends (pl l)) with
    | none => rw [ite_t (by rfl)]; rfl
    | some t =>
      have he := endsS_len l
      rw [ite_f (by rfl), chk_eval (show okR (endsS l) = true from decide_eq_true (by omega)), chk_eval (okF_rev hl _ (.inr rfl)), hZ]
      rfl
def s10 : CSpec := .pos nFu (fun xs _ => okL xs.1) fun xs _ => (fuseT xs.1 xs.2.1, ())
theorem cFu_sound : CtxSound Try.prog (ctx (cFu bigL wrongT okE endsS okF firstT okR fun l => l.reverse)) ∧ CtxLocal (ctx (cFu bigL wrongT okE endsS okF firstT okR fun l => l.reverse)) := ctx_sound ⟨ok33, ok34, ok35, ok36, trivial⟩
theorem ok10 : CSound Try.prog 10 s10 ∧ CLocal s10 :=
  pos_sound (L := L0) cFu_sound Try.func10 (by kernel_rfl) (noLoopsL (by kernel_rfl)) fun xs hs _ _ hp => by
    obtain ⟨l, liars, u⟩ := xs
    exact (tFu bigL wrongT okE endsS okF firstT okR (fun l => l.reverse) l liars).trans (TFu_eq (of_decide_eq_true hp) liars)

/-! Most -/

def cMo1 (e : TL) (need a : Int) : Bool := (decide (e.length ≤ 2000) && units e) && (decide (0 ≤ need ∧ need ≤ 1000) && decide (a = 0))
def moX (e : TL) (need : Int) : Int := (mostL (pl e) need.toNat).2
def moZ (e : TL) (need : Int) : Int := (mostL (pl e) need.toNat).1
theorem mMo {e : TL} (h1 : e.length ≤ 2000) (h2 : units e = true) : ∀ n : Nat, n ≤ 1000 →
    SMo.many (bodyK Try.prog (ctx (cMoC bigL wrongT okE endsS okF firstT)) L0 bMo) (n + 1) ((), (n : Int), 0, ()) (e, ()) = some (.exit 0, encS [6, 7] [i64, i64] [.dead] 30 ((mostL (pl e) n).2, (mostL (pl e) n).1, ()) ())
  | 0, _ => by
    refine rmany_inr ((rMo _ _ _ _ _ _ _ _ e).trans ?_) 0
    unfold GMo
    simp only
    rw [ite_f (decide_eq_false (by omega))]
    rfl
  | n + 1, hn => by
    have hp : okF e ((n + 1 : Nat) : Int) 1 = true := by unfold okF; rw [h2]; simp [h1]
    have hY : firstT e ((n + 1 : Nat) : Int) 1 = ((fstS ((n + 1 : Nat) : Int) 1 0 (pl e)).getD 0, (fstS ((n + 1 : Nat) : Int) 1 0 (pl e)).isSome, ()) := rfl
    simp only [mostL]
    cases hf : fstS ((n + 1 : Nat) : Int) 1 0 (pl e) with
    | some t =>
      refine rmany_inr ((rMo _ _ _ _ _ _ _ _ e).trans ?_) (n + 1)
      unfold GMo
      simp only
      rw [hY, hf, ite_t (decide_eq_true (by omega)), chk_eval hp, ite_t (by rfl)]
      rfl
    | none =>
      have w1 : w (((n + 1 : Nat) : Int) - 1) = (n : Int) := (w_id (by omega) (by omega)).trans (by omega)
      refine (rmany_inl (d := (((), (n : Int), 0, ()), (e, ()))) ((rMo _ _ _ _ _ _ _ _ e).trans ?_) (n + 1)).trans (mMo h1 h2 n (by omega))
      unfold GMo
      simp only
      rw [hY, hf, ite_t (decide_eq_true (by omega)), chk_eval hp, ite_f (by rfl), w1]
      rfl
theorem cMo_sound : CtxSound Try.prog (ctx (cMoC bigL wrongT okE endsS okF firstT)) ∧ CtxLocal (ctx (cMoC bigL wrongT okE endsS okF firstT)) := ctx_sound ⟨ok33, ok34, ok35, trivial⟩
theorem lMo : LoopOK Try.prog (LMo cMo1 moX moZ) bMo :=
  rloop_ok (L := LMo cMo1 moX moZ) (L' := L0) cMo_sound (loopsOK_of (by kernel_rfl)) SMo (F := FMo cMo1 moX moZ) (i := 6) (by kernel_rfl) (fun _ => rfl) fun xs hs r h => by
    obtain ⟨u1, need, a, u2⟩ := xs
    obtain ⟨e, u3⟩ := hs
    obtain ⟨h1, h2⟩ := Tr.chk_some h
    simp only [cMo1, Bool.and_eq_true, decide_eq_true_eq] at h1
    obtain ⟨⟨a1, a2⟩, ⟨b1, b2⟩, b3⟩ := h1
    have b1 : (0 : Int) ≤ need := b1
    have b2 : need ≤ (1000 : Int) := b2
    have b3 : a = (0 : Int) := b3
    subst b3
    obtain ⟨n, rfl⟩ := Int.eq_ofNat_of_zero_le b1
    exact ⟨_, (mMo a1 a2 n (by omega)).trans (congrArg some (Tr.ret_some h2))⟩
def mostT (l : TL) : Int × Int × Int × Unit := ((mostF (pl l)).1, (mostF (pl l)).2.1, (mostF (pl l)).2.2, ())
theorem TMo_eq {l : TL} (hl : l.length ≤ 1000) : (TMo bigL wrongT okE endsS cMo1 moX moZ l).eval = some (mostT l, ()) := by
  unfold TMo mostT mostF
  rw [chk_eval (show bigL l = true from decide_eq_true (by omega))]
  have hlen : (pl l).length = l.length := List.length_map _
  cases hw : wrongT l with
  | true =>
    have hw : wrong (pl l) = true := hw
    rw [ite_t (by rfl), if_pos hw]; rfl
  | false =>
    have hw' : wrong (pl l) = false := hw
    obtain ⟨_, _, hp, _⟩ := right_of hw'
    have hu : units (endsS l) = true := decide_eq_true (units_ends l)
    have he := endsS_len l
    rw [ite_f (by rfl), if_neg (by rw [hw']; simp), chk_eval (show okE l = true from decide_eq_true (by omega)), chk_eval (by simp only [cMo1, hu, Bool.and_eq_true, decide_eq_true_eq, and_true]; omega)]
    unfold moX moZ
    rw [pl_ends, Int.toNat_natCast, hlen]
    rfl
def s12 : CSpec := .pos nMo (fun xs _ => okL xs.1) fun xs _ => (mostT xs.1, ())
theorem loops_Mo : loopsOfS cMo = [bMo] := by kernel_rfl
theorem ok12 : CSound Try.prog 12 s12 ∧ CLocal s12 :=
  pos_scope (L := LMo cMo1 moX moZ) cMo_sound Try.func12 (c := cMo) (by kernel_rfl) (by kernel_rfl) (fun b hb => by
    rw [loops_Mo, List.mem_singleton] at hb
    subst hb
    exact lMo) fun xs hs _ _ hp => by
    obtain ⟨l, u⟩ := xs
    exact (tMo bigL wrongT okE endsS okF firstT cMo1 moX moZ l).trans (TMo_eq (of_decide_eq_true hp))

end Go.Proofs.Ytmolcddccjgliaa.Sweep

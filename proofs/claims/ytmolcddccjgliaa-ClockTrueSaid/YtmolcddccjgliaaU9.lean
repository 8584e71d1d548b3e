/- Spans swept (layer 7, sweep): the laws are true. -/
import Derived.Test.YtmolcddccjgliaaU8
set_option linter.unusedVariables false
set_option maxRecDepth 100000
namespace Go.Proofs.Ytmolcddccjgliaa.Sweep
open Go Vse Go.Proofs Gen

def s14' : CSpec := .slp1 [ss, i64] (fun x => okL x.1) i64 fun x => votesT x.1 x.2.1
theorem big_of {l : TL} (h : okL l = true) : bigL l = true := by
  have : l.length ≤ 1000 := of_decide_eq_true h
  exact decide_eq_true (by omega)
theorem ok14' : CSound Try.prog 14 s14' ∧ CLocal s14' :=
  slpE1 (L := LV cV1 votesT) cV_sound Try.func14 (by kernel_rfl) (loops1 (by kernel_rfl) lV) fun xs hx hp => by
    obtain ⟨l, t, u⟩ := xs
    have hp : bigL l = true := big_of hp
    exact (tV hasF cV1 votesT l t).trans (chk_eval (by simp only [cV1, hp, decide_true, Bool.and_self]) _)
theorem okRV' : CSound Try.prog 15 s14' ∧ CLocal s14' :=
  slpE1 (L := LRV cRV1 votesT) cRV_sound Try.func15 (by kernel_rfl) (loops1 (by kernel_rfl) lRV) fun xs hx hp => by
    obtain ⟨l, t, u⟩ := xs
    have hp : bigL l = true := big_of hp
    exact (tRV rHasF cRV1 votesT l t).trans (chk_eval (by simp only [cRV1, hp, decide_true, Bool.and_self]) _)

/-! awake -/

theorem fuse0 (liars : Int) : fuseT l0 liars = (toP (rfuseF (pl l0) liars).1, (rfuseF (pl l0) liars).2, ()) := by unfold fuseT; rw [fuses_same]
theorem most0 : mostT l0 = ((rmostF (pl l0)).1, (rmostF (pl l0)).2.1, (rmostF (pl l0)).2.2, ()) := by unfold mostT; rw [mosts_same]
theorem T9_true : (T9 okL fuseT mostT votesT).eval = some (.v .bool true) := by
  unfold T9
  have ho : okL l0 = true := by decide
  have f1 : rfuseF (pl l0) 1 = ((4, 5), 0) := by decide
  have f0 : rfuseF (pl l0) 0 = ((0, 0), 11) := by decide
  have f3 : rfuseF (pl l0) 3 = ((0, 0), 1) := by decide
  have m : rmostF (pl l0) = (4, 2, 0) := by decide
  have v : votesT l0 25 = 1 := by decide
  rw [chk_eval ho, chk_eval ho, chk_eval ho, chk_eval ho, fuse0, fuse0, fuse0, most0, f1, f0, f3, m, v]
  rfl
theorem cA_sound : CtxSound Try.prog (ctx (cA okL fuseT mostT votesT)) ∧ CtxLocal (ctx (cA okL fuseT mostT votesT)) := ctx_sound ⟨ok10, ok12, ok14', trivial⟩
def s9 : CSpec := .slp1 [] (fun _ => true) .bool fun _ => true
theorem ok9 : CSound Try.prog 9 s9 ∧ CLocal s9 :=
  slpE1 (L := L0) cA_sound Try.func9 (by kernel_rfl) (noLoopsL (by kernel_rfl)) fun xs hx hp => (t9 okL fuseT mostT votesT).trans T9_true
abbrev cV7 : List (Nat × CSpec) := cL true okL fuseT fuseT mostT mostT votesT votesT rRightF hasF hullF widthF
theorem cV7_sound : CtxSound Try.prog (ctx cV7) ∧ CtxLocal (ctx cV7) := ctx_sound ⟨ok9, ok10, okRF, ok12, okRM, ok14', okRV', ok16, ok17, ok18, ok19, trivial⟩

theorem eqT_self (x : tS.den) : eqT tS x x = true := by
  obtain ⟨a, b, u⟩ := x
  show (decide (a = a) && (decide (b = b) && true)) = true
  simp
theorem beq_self (x : Int) : (x == x) = true := by simp
theorem bl_true {b : Bool} (h : b = true) : (bl b).eval = some (.v .bool true) := by rw [h]; rfl

/-! SweepTells -/

theorem T3_true (l : TL) (liars t : Int) : (T3 true okL fuseT fuseT mostT mostT votesT votesT l liars t).eval = some (.v .bool true) := by
  unfold T3
  by_cases h : (70 : Int) < l.length
  · rw [ite_t (decide_eq_true h)]; rfl
  · have ho : okL l = true := decide_eq_true (by omega)
    rw [ite_f (decide_eq_false h), chk_eval ho, chk_eval ho, chk_eval ho, chk_eval ho, ite_t (by rfl), ite_t (eqT_self _), ite_t (beq_self _), ite_t (beq_self _), ite_t (beq_self _), ite_t (beq_self _), chk_eval ho, chk_eval ho]
    exact bl_true (beq_self _)

/-! SweepMore -/

theorem T4_true (l : TL) (liars : Int) : (T4 true okL fuseT votesT l liars).eval = some (.v .bool true) := by
  unfold T4
  by_cases h : (70 : Int) < l.length
  · rw [ite_t (decide_eq_true h)]; rfl
  have ho : okL l = true := decide_eq_true (by omega)
  have hlen : (pl l).length = l.length := List.length_map _
  rw [ite_f (decide_eq_false h), chk_eval ho]
  unfold fuseT votesT
  dsimp only
  by_cases he : (fuseF (pl l) liars).2 = 0
  · obtain ⟨⟨h1, h2, h3⟩, _⟩ := fused_ok he
    obtain ⟨m1, m2, m3, m4, m5, ⟨m6, m7⟩, m8, m9⟩ := more he
    rw [hlen] at h3 m8 m9
    rw [hlen] at m1 m2 m3 m4
    have hneed : w ((l.length : Int) - liars) = (l.length : Int) - liars := w_id (by omega) (by omega)
    have hn : w (liars + 1) = liars + 1 := w_id (by omega) (by omega)
    rw [ite_f (by rw [he]; rfl), hneed, hn]
    generalize fuseF (pl l) liars = a at *
    obtain ⟨⟨lo, hi⟩, e⟩ := a
    have m6 : -far ≤ lo := m6
    have m7 : hi ≤ far := m7
    have m5 : lo ≤ hi := m5
    unfold far at m6 m7
    have w1 : w (lo - 1) = lo - 1 := w_id (by omega) (by omega)
    have w2 : w (hi + 1) = hi + 1 := w_id (by omega) (by omega)
    show Tr.eval (.chk _ (.ite (decide ((votes (pl l) lo : Int) < _)) _ (.chk _ (.ite (decide ((votes (pl l) hi : Int) < _)) _ (.chk _ (.ite (decide ((votes (pl l) (w (lo - 1)) : Int) ≥ _)) _ (.chk _ (.ite (decide ((votes (pl l) (w (hi + 1)) : Int) ≥ _)) _ (.ite (decide (lo > hi)) _ _))))))))) = _
    rw [w1, w2, chk_eval ho, ite_f (decide_eq_false (by have m1 : (l.length : Int) - liars ≤ (votes (pl l) lo : Int) := m1; omega)), chk_eval ho,
      ite_f (decide_eq_false (by have m2 : (l.length : Int) - liars ≤ (votes (pl l) hi : Int) := m2; omega)), chk_eval ho,
      ite_f (decide_eq_false (by have m3 : (votes (pl l) (lo - 1) : Int) < (l.length : Int) - liars := m3; omega)), chk_eval ho,
      ite_f (decide_eq_false (by have m4 : (votes (pl l) (hi + 1) : Int) < (l.length : Int) - liars := m4; omega)), ite_f (decide_eq_false (by omega)), chk_eval ho]
    by_cases hc : liars + 1 ≥ (l.length : Int)
    · rw [ite_t (decide_eq_true hc), ite_t (by rfl), m8 hc]
      rfl
    · obtain ⟨g1, g2, g3⟩ := m9 (by omega)
      rw [ite_f (decide_eq_false hc), ite_t (by rfl), g1, ite_t (by rfl)]
      have g2 : (fuseF (pl l) (liars + 1)).1.1 ≤ lo := g2
      have g3 : hi ≤ (fuseF (pl l) (liars + 1)).1.2 := g3
      have g2' : (decide ((toP (fuseF (pl l) (liars + 1)).1).1 ≤ (toP ((lo, hi), e).1).1)) = true := decide_eq_true g2
      rw [ite_t g2']
      exact bl_true (decide_eq_true g3)
  · obtain ⟨e1, e2⟩ := fused_err he
    have e3 : eqT tS (toP (0, 0)) (0, 0, ()) = true := eqT_self _
    rw [ite_t (by simp [he]), ite_t (by rfl), e1, ite_t e3]
    rcases e2 with e2 | e2
    · rw [e2]; rfl
    · rw [e2]; rfl

/-! SweepOrder -/

def revT (l : TL) : TL := l.reverse
def cO1 (l : TL) (i : Int) (m : TL) : Bool := okL l && (decide (i = (l.length : Int) - 1) && decide (m.length = 0))
theorem rev_step {l : TL} {k : Nat} (h : k < l.length) : (revT l).take (k + 1) = (revT l).take k ++ [l[l.length - 1 - k]] := by
  unfold revT
  rw [← List.take_append_getElem (by rw [List.length_reverse]; exact h), List.getElem_reverse]
theorem mO {l : TL} (hl : l.length ≤ 1000) (liars : Int) (U : Bool) : ∀ (m k : Nat), k + m = l.length →
    SO.many (bodyK Try.prog (ctx []) L0 bO) (m + 1) (l, liars, U, (), (l.length : Int) - 1 - (k : Int), ()) ((revT l).take k, ()) = some (.exit 0, encS [0, 1, 5, 6] [sst, i64, .bool, .vc 0 0] [.vec 0 tS] 87 (l, liars, U, (), ()) (revT l, ()))
  | 0, k, h => by
    refine rmany_inr ((rO l _ _ _ _).trans ?_) 0
    unfold GO
    rw [ite_f (decide_eq_false (by omega)), List.take_of_length_le (by unfold revT; rw [List.length_reverse]; omega)]
    rfl
  | m + 1, k, h => by
    have hk : k < l.length := by omega
    have hk' : l.length - 1 - k < l.length := by omega
    have ei : (l.length : Int) - 1 - (k : Int) = ((l.length - 1 - k : Nat) : Int) := by omega
    have w1 : w ((l.length : Int) - 1 - (k : Int) - 1) = (l.length : Int) - 1 - ((k + 1 : Nat) : Int) := (w_id (by omega) (by omega)).trans (by omega)
    refine (rmany_inl (d := ((l, liars, U, (), (l.length : Int) - 1 - ((k + 1 : Nat) : Int), ()), ((revT l).take (k + 1), ()))) ((rO l _ _ _ _).trans ?_) (m + 1)).trans (mO hl liars U m (k + 1) (by omega))
    have hr : Vse.room (((revT l).take k).length + 1) 16 = true := by
      rw [List.length_take]
      simp only [Vse.room, decide_eq_true_eq]; omega
    unfold GO
    rw [w1, ei, ite_t (decide_eq_true (by omega)), chk_eval (inArr_nat hk'), chk_eval hr, Int.toNat_natCast, getT hk', rev_step hk]
    rfl
theorem lO : LoopOK Try.prog (LO cO1 revT) bO :=
  rloop_ok (L := LO cO1 revT) (L' := L0) nil_sound (loopsOK_of (by kernel_rfl)) SO (F := FO cO1 revT) (i := 6) (by kernel_rfl) (fun _ => rfl) fun xs hs r h => by
    obtain ⟨l, liars, U, u1, i, u2⟩ := xs
    obtain ⟨m, u3⟩ := hs
    obtain ⟨h1, h2⟩ := Tr.chk_some h
    simp only [cO1, okL, Bool.and_eq_true, decide_eq_true_eq] at h1
    obtain ⟨a1, e1, e2⟩ := h1
    have e1 : i = (List.length (α := tS.den) l : Int) - 1 - ((0 : Nat) : Int) := e1.trans (by omega)
    have e2 : m = (revT l).take 0 := List.length_eq_zero_iff.1 e2
    subst e1; subst e2
    exact ⟨_, (mO a1 liars U (List.length (α := tS.den) l) 0 (by omega)).trans (congrArg some (Tr.ret_some h2))⟩
theorem pl_revT (l : TL) : pl (revT l) = (pl l).reverse := by unfold revT pl; rw [List.map_reverse]
theorem fuse_revT (l : TL) (liars : Int) : fuseT (revT l) liars = fuseT l liars := by unfold fuseT; rw [pl_revT, fuse_rev]
theorem most_revT (l : TL) : mostT (revT l) = mostT l := by unfold mostT; rw [pl_revT, most_rev]
theorem T5_true (l : TL) (liars : Int) : (T5 true okL fuseT mostT cO1 revT l liars).eval = some (.v .bool true) := by
  unfold T5
  by_cases h : (70 : Int) < l.length
  · rw [ite_t (decide_eq_true h)]; rfl
  have ho : okL l = true := decide_eq_true (by omega)
  have hr : okL (revT l) = true := decide_eq_true (by unfold revT; rw [List.length_reverse]; omega)
  have hw : w ((l.length : Int) - 1) = (l.length : Int) - 1 := w_id (by omega) (by omega)
  rw [ite_f (decide_eq_false h), hw, chk_eval (by unfold cO1; rw [ho, decide_eq_true rfl]; rfl), chk_eval ho, chk_eval hr, chk_eval ho, chk_eval hr, fuse_revT, most_revT, ite_t (by rfl), ite_t (eqT_self _), ite_t (beq_self _), ite_t (beq_self _), ite_t (beq_self _)]
  exact bl_true (beq_self _)

/-! SweepTrue -/

def hK (l : TL) (t : Int) (k : Nat) : Hon := (pl (l.take k)).foldl (honStep t) ⟨0, t, t, 0, 0⟩
theorem hK_step {l : TL} {k : Nat} (t : Int) (h : k < l.length) : hK l t (k + 1) = honStep t (hK l t k) (ofP l[k]) := by
  unfold hK
  rw [take_pl h, List.foldl_append]
  rfl
theorem hK_ok (l : TL) (t : Int) (k : Nat) : HonOK t (pl (l.take k)) (hK l t k) := hon_all t _
theorem hon_w {t K : Int} : ∀ (m : List Sp) (r : Hon), (∀ s ∈ m, wd s ≤ K) → r.w0 ≤ K → (m.foldl (honStep t) r).w0 ≤ K
  | [], r, _, h => h
  | x :: m, r, hm, h => hon_w m _ (fun s hs => hm s (List.mem_cons_of_mem _ hs)) (by
      have := hm x (by simp)
      unfold honStep
      split
      · dsimp only; split <;> omega
      · exact h)
def cT1 (l : TL) (t n i : Int) (h : tS.den) (ws : List Int) : Bool := okL l && (decide (n = 0) && (decide (i = 0) && (decide (h.1 = t) && (decide (h.2.1 = t) && decide (ws = [0, 0])))))
def hB0 (l : TL) : Bool := decide (64 < l.length) || l.any fun x => !rRightF x
def tN (l : TL) (t : Int) : Int := (hK l t l.length).n
def tH (l : TL) (t : Int) : tS.den := ((hK l t l.length).lo, (hK l t l.length).hi, ())
def tA (l : TL) (t : Int) : Int := (hK l t l.length).w0
def tD (l : TL) (t : Int) : Int := (hK l t l.length).w1
def outT (l : TL) (liars t : Int) (U : Bool) : Ex × St :=
  if hB0 l = true then (.ret, encS [6] [.bool] [.dead, .dead] 139 (U, ()) ())
  else (.exit 0, encS [0, 1, 2, 7, 8, 9, 10] [sst, i64, i64, .bool, i64, .ptr 0 [], .ptr 1 []] eT 139 (l, liars, t, U, tN l t, (), (), ()) (tH l t, [tA l t, tD l t], ()))
theorem min_eq (x y : Int) : minI x y = min x y := by unfold minI; omega
theorem max_eq (x y : Int) : maxI x y = max x y := by unfold maxI; omega
theorem hull_eq (lo hi : Int) (s : tS.den) : hullF (lo, hi, ()) s = (min lo s.1, max hi s.2.1, ()) := by
  unfold hullF
  rw [min_eq, max_eq]
theorem right_w {a b : Int} (h : right (a, b) = true) : w (b - a) = b - a ∧ b - a ≤ 2 * far := by
  simp only [right, Bool.and_eq_true, decide_eq_true_eq] at h
  obtain ⟨⟨h1, h2⟩, h3⟩ := h
  unfold far at *
  exact ⟨w_id (by omega) (by omega), by omega⟩
theorem width_eq {s : tS.den} (h : rRightF s = true) : widthF s = wd (ofP s) ∧ wd (ofP s) ≤ 2 * far := by
  rw [rright_eq] at h
  obtain ⟨a, b, u⟩ := s
  exact right_w h
theorem mT {l : TL} (hl : l.length ≤ 64) (liars t : Int) (U : Bool) : ∀ (m k : Nat), k + m = l.length → (∀ x ∈ l.take k, rRightF x = true) →
    ST.many (bodyK Try.prog (ctx cV7) L0 bT) (m + 1) (l, liars, t, U, (hK l t k).n, (), (), (k : Int), ()) (((hK l t k).lo, (hK l t k).hi, ()), [(hK l t k).w0, (hK l t k).w1], ()) = some (outT l liars t U)
  | 0, k, h, hr => by
    have hk : k = l.length := by omega
    subst hk
    have hB : hB0 l = false := by
      rw [List.take_of_length_le (Nat.le_refl _)] at hr
      unfold hB0
      rw [decide_eq_false (by omega), Bool.false_or]
      refine List.any_eq_false.2 fun x hx => ?_
      rw [hr x hx]; simp
    refine rmany_inr ((rT true okL fuseT fuseT mostT mostT votesT votesT rRightF hasF hullF widthF l liars t U _ _ _ _ _).trans ?_) 0
    unfold GT outT
    rw [if_neg (by rw [hB]; simp)]
    dsimp only
    rw [ite_f (decide_eq_false (by omega))]
    rfl
  | m + 1, k, h, hr => by
    have hk : k < l.length := by omega
    by_cases hb : rRightF l[k] = true
    · obtain ⟨e1, e2⟩ := width_eq hb
      have hn := (hK_ok l t k).n
      have hv := votes_lt l k t
      refine (rmany_inl (d := ((l, liars, t, U, (hK l t (k + 1)).n, (), (), ((k + 1 : Nat) : Int), ()), (((hK l t (k + 1)).lo, (hK l t (k + 1)).hi, ()), [(hK l t (k + 1)).w0, (hK l t (k + 1)).w1], ())))
        ((rT true okL fuseT fuseT mostT mostT votesT votesT rRightF hasF hullF widthF l liars t U _ _ _ _ _).trans ?_) (m + 1)).trans (mT hl liars t U m (k + 1) (by omega) fun x hx => ?_)
      · unfold GT
        dsimp only
        rw [Int.toNat_natCast, getT hk, ite_t (decide_eq_true (by omega)), ite_f (decide_eq_false (by omega)), chk_eval (inArr_nat hk), ite_f (by rw [hb]; rfl), chk_eval (inArr_nat hk), w_step k (by omega), hK_step t hk]
        generalize hK l t k = r at *
        obtain ⟨rn, lo, hi, w0, w1⟩ := r
        have hn : rn = (votes (pl (l.take k)) t : Int) := hn
        have wn : w (rn + 1) = rn + 1 := w_id (by omega) (by omega)
        by_cases hh : hasF l[k] t = true
        · have hh' : has (ofP l[k]) t = true := hh
          rw [ite_f (by rw [hh]; rfl), chk_eval (inArr_nat hk), chk_eval (inArr_nat hk), wn, e1, hull_eq]
          unfold honStep
          rw [if_pos hh']
          dsimp only
          by_cases c1 : wd (ofP l[k]) > w0
          · rw [ite_t (decide_eq_true c1), if_pos c1, if_pos c1]
            rfl
          · rw [ite_f (decide_eq_false c1), if_neg c1, if_neg c1]
            by_cases c2 : wd (ofP l[k]) > w1
            · rw [ite_t (decide_eq_true c2), if_pos c2]
              rfl
            · rw [ite_f (decide_eq_false c2), if_neg c2]
              rfl
        · have hh' : ¬ has (ofP l[k]) t = true := hh
          rw [ite_t (by rw [Bool.eq_false_iff.2 hh]; rfl)]
          unfold honStep
          rw [if_neg hh']
          rfl
      · rw [← List.take_append_getElem hk] at hx
        rcases List.mem_append.1 hx with hx | hx
        · exact hr x hx
        · rw [List.mem_singleton.1 hx]; exact hb
    · have hB : hB0 l = true := by
        unfold hB0
        rw [Bool.or_eq_true]
        refine .inr (List.any_eq_true.2 ⟨l[k], List.getElem_mem hk, ?_⟩)
        rw [Bool.eq_false_iff.2 hb]; rfl
      refine rmany_inr ((rT true okL fuseT fuseT mostT mostT votesT votesT rRightF hasF hullF widthF l liars t U _ _ _ _ _).trans ?_) (m + 1)
      unfold GT outT
      rw [if_pos hB]
      dsimp only
      rw [Int.toNat_natCast, getT hk, ite_t (decide_eq_true (by omega)), ite_f (decide_eq_false (by omega)), chk_eval (inArr_nat hk), ite_t (by rw [Bool.eq_false_iff.2 hb]; rfl)]
      rfl
theorem lT : LoopOK Try.prog (LT cT1 hB0 tN tH tA tD) bT :=
  rloop_ok (L := LT cT1 hB0 tN tH tA tD) (L' := L0) cV7_sound (loopsOK_of (by kernel_rfl)) ST (F := FT cT1 hB0 tN tH tA tD) (i := 8) (by kernel_rfl) (fun _ => rfl) fun xs hs r h => by
    obtain ⟨l, liars, t, U, n, u1, u2, i, u3⟩ := xs
    obtain ⟨⟨lo, hi, u4⟩, ws, u5⟩ := hs
    obtain ⟨h1, h2⟩ := Tr.chk_some h
    simp only [cT1, okL, Bool.and_eq_true, decide_eq_true_eq] at h1
    obtain ⟨a1, e1, e2, e3, e4, e5⟩ := h1
    have e1 : n = (hK l t 0).n := e1
    have e2 : i = ((0 : Nat) : Int) := e2
    have e3 : lo = (hK l t 0).lo := e3
    have e4 : hi = (hK l t 0).hi := e4
    have e5 : ws = [(hK l t 0).w0, (hK l t 0).w1] := e5
    rw [e1, e2, e3, e4, e5]
    have key : ∃ n, ST.many (bodyK Try.prog (ctx cV7) L0 bT) n (l, liars, t, U, (hK l t 0).n, (), (), ((0 : Nat) : Int), ()) (((hK l t 0).lo, (hK l t 0).hi, ()), [(hK l t 0).w0, (hK l t 0).w1], ()) = some (outT l liars t U) := by
      by_cases h6 : List.length (α := tS.den) l ≤ 64
      · exact ⟨_, mT h6 liars t U (List.length (α := tS.den) l) 0 (by omega) (fun x hx => by simp at hx)⟩
      · have hB : hB0 l = true := by
          unfold hB0
          rw [decide_eq_true (by omega)]; rfl
        refine ⟨1, rmany_inr ((rT true okL fuseT fuseT mostT mostT votesT votesT rRightF hasF hullF widthF l liars t U _ _ _ _ _).trans ?_) 0⟩
        unfold GT outT
        rw [if_pos hB]
        dsimp only
        rw [ite_t (decide_eq_true (by omega)), ite_t (decide_eq_true (by omega))]
        rfl
    obtain ⟨n, key⟩ := key
    refine ⟨n, key.trans ?_⟩
    unfold outT
    by_cases hX : hB0 l = true
    · have h2 := (ite_t hX _ _).symm.trans h2
      rw [if_pos hX]
      exact congrArg some (Tr.ret_some h2)
    · have h2 := (ite_f (Bool.eq_false_iff.2 hX) _ _).symm.trans h2
      rw [if_neg hX]
      exact congrArg some (Tr.ret_some h2)
theorem T6_true (l : TL) (liars t : Int) : (T6 true okL fuseT hasF widthF cT1 hB0 tN tH tA tD l liars t).eval = some (.v .bool true) := by
  unfold T6
  dsimp only
  by_cases h : (70 : Int) < l.length
  · rw [ite_t (decide_eq_true h)]; rfl
  rw [ite_f (decide_eq_false h)]
  by_cases h0 : liars < 0
  · rw [ite_t (decide_eq_true h0)]; rfl
  rw [ite_f (decide_eq_false h0)]
  by_cases h1 : liars ≥ (l.length : Int)
  · rw [ite_t (decide_eq_true h1)]; rfl
  have ho : okL l = true := decide_eq_true (by omega)
  have hlen : (pl l).length = l.length := List.length_map _
  rw [ite_f (decide_eq_false h1), chk_eval (by unfold cT1; rw [ho]; simp)]
  by_cases hB : hB0 l = true
  · rw [ite_t hB]; rfl
  rw [ite_f (Bool.eq_false_iff.2 hB)]
  have hw : wrong (pl l) = false := by
    have hB := Bool.eq_false_iff.2 hB
    unfold hB0 at hB
    rw [Bool.or_eq_false_iff] at hB
    unfold wrong
    rw [hlen, decide_eq_false (by omega), hB.1, Bool.false_or, Bool.false_or, List.any_map]
    rw [← hB.2]
    congr 1
    funext x
    simp only [Function.comp, rright_eq]
  have e1 : w ((l.length : Int) - liars) = (l.length : Int) - liars := w_id (by omega) (by omega)
  have e2 : w (2 * liars) = 2 * liars := w_id (by omega) (by omega)
  rw [e1, e2]
  by_cases hN : tN l t < (l.length : Int) - liars
  · rw [ite_t (decide_eq_true hN)]; rfl
  rw [ite_f (decide_eq_false hN), chk_eval ho]
  have hfull : hK l t l.length = (pl l).foldl (honStep t) ⟨0, t, t, 0, 0⟩ := by
    unfold hK
    rw [List.take_of_length_le (Nat.le_refl _)]
  have hvt : tN l t = (votes (pl l) t : Int) := by
    have := (hK_ok l t l.length).n
    rw [List.take_of_length_le (Nat.le_refl _)] at this
    exact this
  obtain ⟨r1, r2, r3, r4⟩ := holds hw (by omega : 0 ≤ liars) (by rw [hlen]; omega) (t := t) (by rw [hlen, ← hvt]; omega)
  rw [hlen, ← hfull] at r4
  have hwid : tA l t ≤ 2 * far := by
    unfold tA
    rw [hfull]
    refine hon_w _ _ (fun s hs => ?_) (by show (0 : Int) ≤ 2 * far; unfold far; omega)
    have := (right_of hw).2.1 s hs
    unfold wd; omega
  have hwz := (hK_ok l t l.length).w
  have hD : 0 ≤ tD l t ∧ tD l t ≤ tA l t := hwz
  unfold fuseT
  dsimp only
  generalize fuseF (pl l) liars = a at *
  obtain ⟨⟨lo, hi⟩, e⟩ := a
  replace r1 : e = 0 := r1
  replace r2 : lo ≤ t ∧ t ≤ hi := r2
  replace r3 : -far ≤ lo ∧ hi ≤ far := r3
  subst r1
  unfold far at r3 hwid
  have wa : widthF (toP (lo, hi)) = hi - lo := w_id (by show _ ≤ hi - lo; omega) (by show hi - lo ≤ _; omega)
  have wD : w (tA l t + tD l t) = tA l t + tD l t := w_id (by omega) (by omega)
  have hh : hasF (toP (lo, hi)) t = true := by
    show (decide (t ≥ lo) && decide (t ≤ hi)) = true
    rw [decide_eq_true (by omega), decide_eq_true (by omega)]; rfl
  rw [ite_f (by rfl), ite_f (by rw [hh]; rfl)]
  by_cases hc : (l.length : Int) ≤ 2 * liars
  · rw [ite_t (decide_eq_true hc)]; rfl
  obtain ⟨q1, q2, q3⟩ := r4 (by omega)
  have q1 : hi - lo ≤ tA l t + tD l t := q1
  have q2' : (decide ((toP ((lo, hi), (0 : Int)).1).1 ≥ (tH l t).1)) = true := decide_eq_true q2
  rw [ite_f (decide_eq_false hc), ite_t (by rfl), wa, wD, ite_t (decide_eq_true q1), ite_t q2']
  exact bl_true (decide_eq_true q3)

end Go.Proofs.Ytmolcddccjgliaa.Sweep

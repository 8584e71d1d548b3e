/- Spans swept (layer 7, sweep): what the document's functions give: votes, may, Fuse, Most. -/
import Derived.Test.YtmolcddccjgliaaU6
set_option linter.unusedVariables false
set_option maxRecDepth 100000
namespace Go.Proofs.Ytmolcddccjgliaa.Sweep
open Go Vse Go.Proofs Gen

/-! votes -/

theorem rhas_eq (e : tS.den) (t : Int) : rHasF e t = has (ofP e) t := rfl
def cRV1 (l : TL) (m i : Int) : Bool := bigL l && (decide (m = 0) && decide (i = 0))
theorem mRV {l : TL} (hl : l.length ≤ 1000000) (t : Int) : ∀ (m k : Nat), k + m = l.length →
    SRV.many (bodyK Try.prog (ctx (cRV rHasF)) L0 bRV) (m + 1) (l, t, (votes (pl (l.take k)) t : Int), (k : Int), ()) () = some (.exit 0, encS [5] [i64] [] 22 (votesT l t, ()) ())
  | 0, k, h => by
    refine rmany_inr ((rRV rHasF l t _ _).trans ?_) 0
    unfold GRV
    rw [ite_f (decide_eq_false (by omega)), List.take_of_length_le (by omega)]
    rfl
  | m + 1, k, h => by
    have hk : k < l.length := by omega
    have hv := votes_lt l k t
    refine (rmany_inl (d := ((l, t, (votes (pl (l.take (k + 1))) t : Int), ((k + 1 : Nat) : Int), ()), ())) ((rRV rHasF l t _ _).trans ?_) (m + 1)).trans (mRV hl t m (k + 1) (by omega))
    unfold GRV
    rw [Int.toNat_natCast, getT hk, ite_t (decide_eq_true (by omega)), chk_eval (inArr_nat hk), w_step k (by omega), votes_step hk]
    by_cases hh : rHasF l[k] t = true
    · rw [ite_t hh, if_pos (by rw [← rhas_eq]; exact hh), w_step _ (by omega)]
      rfl
    · rw [ite_f (Bool.eq_false_iff.2 hh), if_neg (by rw [← rhas_eq]; exact hh)]
      rfl
theorem cRV_sound : CtxSound Try.prog (ctx (cRV rHasF)) ∧ CtxLocal (ctx (cRV rHasF)) := ctx_sound ⟨ok38, trivial⟩
theorem lRV : LoopOK Try.prog (LRV cRV1 votesT) bRV :=
  rloop_ok (L := LRV cRV1 votesT) (L' := L0) cRV_sound (loopsOK_of (by kernel_rfl)) SRV (F := FRV cRV1 votesT) (i := 3) (by kernel_rfl) (fun _ => rfl) fun xs hs r h => by
    obtain ⟨l, t, m, i, u2⟩ := xs
    obtain ⟨h1, h2⟩ := Tr.chk_some h
    simp only [cRV1, bigL, Bool.and_eq_true, decide_eq_true_eq] at h1
    obtain ⟨a1, e1, e3⟩ := h1
    have e1 : m = ((votes (pl (List.take 0 l)) t : Nat) : Int) := e1
    have e3 : i = ((0 : Nat) : Int) := e3
    subst e1; subst e3
    exact ⟨_, (mRV a1 t (List.length (α := tS.den) l) 0 (by omega)).trans (congrArg some (Tr.ret_some h2))⟩
theorem okRV : CSound Try.prog 15 s14 ∧ CLocal s14 :=
  slpE1 (L := LRV cRV1 votesT) cRV_sound Try.func15 (by kernel_rfl) (loops1 (by kernel_rfl) lRV) fun xs hx hp => by
    obtain ⟨l, t, u⟩ := xs
    have hp : bigL l = true := hp
    exact (tRV rHasF cRV1 votesT l t).trans (chk_eval (by simp only [cRV1, hp, decide_true, Bool.and_self]) _)

/-! may -/

theorem rright_eq (x : tS.den) : rRightF x = right (ofP x) := by
  unfold rRightF right
  rw [Bool.and_assoc]
  rfl
def cMy1 (l : TL) (i : Int) : Bool := bigL l && decide (i = 0)
def myX (l : TL) : Bool := (l.take 65).all rRightF
theorem mMy {l : TL} (hl : l.length ≤ 1000000) : ∀ (m k : Nat), k + m = (l.take 65).length → (∀ x ∈ l.take k, rRightF x = true) →
    SMy.many (bodyK Try.prog (ctx (cMy rRightF)) L0 bMy) (m + 1) (l, (k : Int), ()) () = some (if myX l = true then (.exit 0, encS [0] [ss] [] 28 (l, ()) ()) else (.ret, encS [2] [.bool] [] 28 (false, ()) ()))
  | 0, k, h, hf => by
    rw [List.length_take] at h
    have hX : myX l = true := by
      unfold myX
      refine List.all_eq_true.2 fun x hx => ?_
      by_cases h6 : 65 ≤ l.length
      · have hk : k = 65 := by omega
        subst hk
        exact hf x hx
      · exact hf x (by rw [List.take_of_length_le (by omega)] at hx ⊢; exact hx)
    rw [if_pos hX]
    refine rmany_inr ((rMy rRightF l _).trans ?_) 0
    unfold GMy
    simp only
    by_cases h6 : 65 ≤ l.length
    · by_cases hk : k < l.length
      · rw [ite_t (decide_eq_true (by omega)), ite_f (decide_eq_false (by omega))]
        rfl
      · rw [ite_f (decide_eq_false (by omega))]
        rfl
    · rw [ite_f (decide_eq_false (by omega))]
      rfl
  | m + 1, k, h, hf => by
    have h' := h
    rw [List.length_take] at h'
    have hk : k < l.length := by omega
    by_cases hb : rRightF l[k] = true
    · refine (rmany_inl (d := ((l, ((k + 1 : Nat) : Int), ()), ())) ((rMy rRightF l _).trans ?_) (m + 1)).trans (mMy hl m (k + 1) (by omega) fun x hx => ?_)
      · unfold GMy
        simp only
        rw [Int.toNat_natCast, getT hk, ite_t (decide_eq_true (by omega)), ite_t (decide_eq_true (by omega)), chk_eval (inArr_nat hk), ite_f (by rw [hb]; rfl), w_step k (by omega)]
        rfl
      · rw [← List.take_append_getElem hk] at hx
        rcases List.mem_append.1 hx with hx | hx
        · exact hf x hx
        · rw [List.mem_singleton.1 hx]; exact hb
    · have hX : ¬ myX l = true := fun q => hb (List.all_eq_true.1 q _ (by
        rw [List.mem_take_iff_getElem]
        exact ⟨k, by omega, rfl⟩))
      rw [if_neg hX]
      refine rmany_inr ((rMy rRightF l _).trans ?_) (m + 1)
      unfold GMy
      simp only
      rw [Int.toNat_natCast, getT hk, ite_t (decide_eq_true (by omega)), ite_t (decide_eq_true (by omega)), chk_eval (inArr_nat hk), ite_t (by rw [Bool.eq_false_iff.2 hb]; rfl)]
      rfl
theorem cMy_sound : CtxSound Try.prog (ctx (cMy rRightF)) ∧ CtxLocal (ctx (cMy rRightF)) := ctx_sound ⟨ok16, trivial⟩
theorem lMy : LoopOK Try.prog (LMy cMy1 myX) bMy :=
  rloop_ok (L := LMy cMy1 myX) (L' := L0) cMy_sound (loopsOK_of (by kernel_rfl)) SMy (F := FMy cMy1 myX) (i := 2) (by kernel_rfl) (fun _ => rfl) fun xs hs r h => by
    obtain ⟨l, i, u2⟩ := xs
    obtain ⟨h1, h2⟩ := Tr.chk_some h
    simp only [cMy1, bigL, Bool.and_eq_true, decide_eq_true_eq] at h1
    obtain ⟨a1, e3⟩ := h1
    have e3 : i = ((0 : Nat) : Int) := e3
    subst e3
    refine ⟨_, (mMy a1 (List.length (α := tS.den) (l.take 65)) 0 (by omega) (fun x hx => by simp at hx)).trans ?_⟩
    by_cases hX : myX l = true
    · rw [ite_t hX] at h2
      rw [if_pos hX]
      exact congrArg some (Tr.ret_some h2)
    · rw [ite_f (Bool.eq_false_iff.2 hX)] at h2
      rw [if_neg hX]
      exact congrArg some (Tr.ret_some h2)
def mayT (l : TL) : Bool := !wrongT l
theorem my_all {l : TL} (h : l.length ≤ 64) : myX l = !(pl l).any fun s => !right s := by
  unfold myX
  rw [List.take_of_length_le (by omega), List.any_map, List.all_eq_not_any_not]
  congr 2
  funext x
  simp only [Function.comp, rright_eq]
def sMy : CSpec := .slp1 [ss] (fun x => bigL x.1) .bool fun x => mayT x.1
theorem okMy : CSound Try.prog 37 sMy ∧ CLocal sMy :=
  slpE1 (L := LMy cMy1 myX) cMy_sound Try.func37 (by kernel_rfl) (loops1 (by kernel_rfl) lMy) fun xs hx hp => by
    obtain ⟨l, u⟩ := xs
    have hp : bigL l = true := hp
    refine (tMy rRightF cMy1 myX l).trans ((chk_eval (by simp only [cMy1, hp, decide_true, Bool.and_self]) _).trans ?_)
    have : (.ite (myX l) (.ite (decide ((l.length : Int) ≥ 1)) (.ret (.v .bool (decide ((l.length : Int) ≤ 64)))) (.ret (.v .bool false))) (.ret (.v .bool false)) : Tr AV).eval = some (.v .bool (mayT l)) := by
      unfold mayT wrongT wrong
      rw [List.length_map]
      by_cases h2 : l.length ≤ 64
      · by_cases h1 : l.length = 0
        · rw [h1]
          by_cases hX : myX l = true
          · rw [ite_t hX, ite_f (by rfl)]; rfl
          · rw [ite_f (Bool.eq_false_iff.2 hX)]; rfl
        · rw [decide_eq_false h1, decide_eq_false (show ¬ 64 < l.length by omega), Bool.false_or, Bool.false_or, ← my_all h2]
          by_cases hX : myX l = true
          · rw [ite_t hX, ite_t (decide_eq_true (by omega)), hX, decide_eq_true (by omega)]; rfl
          · rw [ite_f (Bool.eq_false_iff.2 hX), Bool.eq_false_iff.2 hX]; rfl
      · rw [decide_eq_true (show 64 < l.length by omega), Bool.or_true, Bool.true_or]
        by_cases hX : myX l = true
        · rw [ite_t hX, ite_t (decide_eq_true (by omega)), decide_eq_false (by omega)]; rfl
        · rw [ite_f (Bool.eq_false_iff.2 hX)]; rfl
    exact this

/-! Fuse -/

theorem take_pl {l : TL} {k : Nat} (h : k < l.length) : pl (l.take (k + 1)) = pl (l.take k) ++ [ofP l[k]] := by
  rw [← List.take_append_getElem h, pl_app]
  rfl
def loK (l : TL) (need : Int) (k : Nat) : Bool × Int := (pl (l.take k)).foldl (loStep (pl l) need) (false, 0)
theorem loK_step {l : TL} {k : Nat} (need : Int) (h : k < l.length) : loK l need (k + 1) = loStep (pl l) need (loK l need k) (ofP l[k]) := by
  unfold loK
  rw [take_pl h, List.foldl_append]
  rfl
theorem loK_all (l : TL) (need : Int) : loK l need l.length = (pl l).foldl (loStep (pl l) need) (false, 0) := by
  unfold loK
  rw [List.take_of_length_le (Nat.le_refl _)]
def hiK (l : TL) (need a : Int) (k : Nat) : Int := (pl (l.take k)).foldl (hiStep (pl l) need) a
theorem hiK_step {l : TL} {k : Nat} (need a : Int) (h : k < l.length) : hiK l need a (k + 1) = hiStep (pl l) need (hiK l need a k) (ofP l[k]) := by
  unfold hiK
  rw [take_pl h, List.foldl_append]
  rfl
theorem hiK_all (l : TL) (need a : Int) : hiK l need a l.length = (pl l).foldl (hiStep (pl l) need) a := by
  unfold hiK
  rw [List.take_of_length_le (Nat.le_refl _)]
def okRL (l : TL) (liars : Int) : Bool := decide (0 ≤ liars ∧ liars < (l.length : Int)) && okL l
def cRa1 (l : TL) (liars : Int) (sm : Bool) (i : Int) (o : tS.den) : Bool := okRL l liars && (!sm && (decide (i = 0) && decide (o.1 = 0)))
def cRb1 (l : TL) (liars : Int) (i : Int) (o : tS.den) : Bool := okRL l liars && decide (i = 0)
def raX (l : TL) (liars : Int) : Bool := (loK l ((l.length : Int) - liars) l.length).1
def raY (l : TL) (liars : Int) : Int := (loK l ((l.length : Int) - liars) l.length).2
def rbZ (l : TL) (liars a : Int) : Int := hiK l ((l.length : Int) - liars) a l.length
theorem cRF_sound : CtxSound Try.prog (ctx (cRF bigL mayT bigL votesT)) ∧ CtxLocal (ctx (cRF bigL mayT bigL votesT)) := ctx_sound ⟨okMy, okRV, trivial⟩
theorem mRa {l : TL} {liars : Int} (hl : l.length ≤ 1000) (h0 : 0 ≤ liars) (h1 : liars < (l.length : Int)) (r : tS.den) (q : Int × Unit) : ∀ (m k : Nat), k + m = l.length →
    SRa.many (bodyK Try.prog (ctx (cRF bigL mayT bigL votesT)) L0 bRa) (m + 1) (l, liars, (), (), (loK l ((l.length : Int) - liars) k).1, (k : Int), ()) (r, ((loK l ((l.length : Int) - liars) k).2, q), ()) =
      some (.exit 0, encS [0, 1, 4, 6, 7] [ss, i64, .ptr 0 [], .ptr 1 [], .bool] e2 97 (l, liars, (), (), raX l liars, ()) (r, (raY l liars, q), ()))
  | 0, k, h => by
    have hk : k = l.length := by omega
    subst hk
    refine rmany_inr ((rRa bigL mayT bigL votesT l liars _ _ r _).trans ?_) 0
    unfold GRa
    simp only
    rw [ite_f (decide_eq_false (by omega))]
    rfl
  | m + 1, k, h => by
    have hk : k < l.length := by omega
    have hb : bigL l = true := decide_eq_true (by omega)
    have hw : w ((l.length : Int) - liars) = (l.length : Int) - liars := w_id (by omega) (by omega)
    refine (rmany_inl (d := ((l, liars, (), (), (loK l ((l.length : Int) - liars) (k + 1)).1, ((k + 1 : Nat) : Int), ()), (r, ((loK l ((l.length : Int) - liars) (k + 1)).2, q), ()))) ((rRa bigL mayT bigL votesT l liars _ _ r _).trans ?_) (m + 1)).trans (mRa hl h0 h1 r q m (k + 1) (by omega))
    unfold GRa
    simp only
    rw [Int.toNat_natCast, getT hk, ite_t (decide_eq_true (by omega)), chk_eval (inArr_nat hk), chk_eval hb, hw, w_step k (by omega), loK_step _ hk]
    generalize loK l ((l.length : Int) - liars) k = s
    obtain ⟨s1, s2⟩ := s
    unfold loStep
    by_cases hv : votesT l l[k].1 ≥ (l.length : Int) - liars
    · have hv' : (l.length : Int) - liars ≤ (votes (pl l) (ofP l[k]).1 : Int) := hv
      rw [ite_t (decide_eq_true hv)]
      cases s1 with
      | false =>
        rw [ite_t (by rfl), chk_eval (inArr_nat hk), if_pos ⟨hv', .inl rfl⟩]
        rfl
      | true =>
        rw [ite_f (by rfl), chk_eval (inArr_nat hk)]
        by_cases hc : l[k].1 < s2
        · rw [ite_t (decide_eq_true hc), chk_eval (inArr_nat hk), if_pos ⟨hv', .inr hc⟩]
          rfl
        · rw [ite_f (decide_eq_false hc), if_neg (fun h => by
            rcases h.2 with h | h
            · cases h
            · exact hc h)]
          rfl
    · rw [ite_f (decide_eq_false hv), if_neg (fun h => hv h.1)]
      rfl
theorem mRb {l : TL} {liars : Int} (hl : l.length ≤ 1000) (h0 : 0 ≤ liars) (h1 : liars < (l.length : Int)) (r : tS.den) (p a : Int) : ∀ (m k : Nat), k + m = l.length →
    SRb.many (bodyK Try.prog (ctx (cRF bigL mayT bigL votesT)) L0 bRb) (m + 1) (l, liars, (), (), (k : Int), ()) (r, (p, hiK l ((l.length : Int) - liars) a k, ()), ()) =
      some (.exit 2, encS [4, 6] [.ptr 0 [], .ptr 1 []] e2 97 ((), (), ()) (r, (p, rbZ l liars a, ()), ()))
  | 0, k, h => by
    have hk : k = l.length := by omega
    subst hk
    refine rmany_inr ((rRb bigL mayT bigL votesT l liars _ r _).trans ?_) 0
    unfold GRb
    simp only
    rw [ite_f (decide_eq_false (by omega))]
    rfl
  | m + 1, k, h => by
    have hk : k < l.length := by omega
    have hb : bigL l = true := decide_eq_true (by omega)
    have hw : w ((l.length : Int) - liars) = (l.length : Int) - liars := w_id (by omega) (by omega)
    refine (rmany_inl (d := ((l, liars, (), (), ((k + 1 : Nat) : Int), ()), (r, (p, hiK l ((l.length : Int) - liars) a (k + 1), ()), ()))) ((rRb bigL mayT bigL votesT l liars _ r _).trans ?_) (m + 1)).trans (mRb hl h0 h1 r p a m (k + 1) (by omega))
    unfold GRb
    simp only
    rw [Int.toNat_natCast, getT hk, ite_t (decide_eq_true (by omega)), chk_eval (inArr_nat hk), chk_eval hb, hw, w_step k (by omega), hiK_step _ _ hk]
    generalize hiK l ((l.length : Int) - liars) a k = s
    unfold hiStep
    by_cases hv : votesT l l[k].2.1 ≥ (l.length : Int) - liars
    · have hv' : (l.length : Int) - liars ≤ (votes (pl l) (ofP l[k]).2 : Int) := hv
      have hm : maxI s l[k].2.1 = max s (ofP l[k]).2 := by
        show maxI s (ofP l[k]).2 = _
        unfold maxI
        generalize (ofP l[k]).2 = z
        omega
      rw [ite_t (decide_eq_true hv), chk_eval (inArr_nat hk), if_pos hv', hm]
      rfl
    · have hv' : ¬ (l.length : Int) - liars ≤ (votes (pl l) (ofP l[k]).2 : Int) := hv
      rw [ite_f (decide_eq_false hv), if_neg hv']
      rfl
theorem lRa : LoopOK Try.prog (LRF cRa1 raX raY cRb1 rbZ) bRa :=
  rloop_ok (L := LRF cRa1 raX raY cRb1 rbZ) (L' := L0) cRF_sound (loopsOK_of (by kernel_rfl)) SRa (F := FRa cRa1 raX raY) (i := 6) (by kernel_rfl) (fun _ => rfl) fun xs hs r h => by
    obtain ⟨l, liars, u1, u2, sm, i, u3⟩ := xs
    obtain ⟨q, ⟨o1, o2⟩, u4⟩ := hs
    obtain ⟨h1, h2⟩ := Tr.chk_some h
    simp only [cRa1, okRL, okL, Bool.and_eq_true, decide_eq_true_eq, Bool.not_eq_true'] at h1
    obtain ⟨⟨⟨a1, a2⟩, a3⟩, e1, e2, e3⟩ := h1
    have e1 : sm = (loK l ((List.length (α := tS.den) l : Int) - liars) 0).1 := e1
    have e3 : o1 = (loK l ((List.length (α := tS.den) l : Int) - liars) 0).2 := e3
    have e2 : i = ((0 : Nat) : Int) := e2
    subst e1; subst e2; subst e3
    exact ⟨_, (mRa a3 a1 a2 q o2 (List.length (α := tS.den) l) 0 (by omega)).trans (congrArg some (Tr.ret_some h2))⟩
theorem lRb : LoopOK Try.prog (LRF cRa1 raX raY cRb1 rbZ) bRb :=
  rloop_ok (L := LRF cRa1 raX raY cRb1 rbZ) (L' := L0) cRF_sound (loopsOK_of (by kernel_rfl)) SRb (F := FRb cRb1 rbZ) (i := 15) (by kernel_rfl) (fun _ => rfl) fun xs hs r h => by
    obtain ⟨l, liars, u1, u2, i, u3⟩ := xs
    obtain ⟨q, ⟨o1, o2, u5⟩, u4⟩ := hs
    obtain ⟨h1, h2⟩ := Tr.chk_some h
    simp only [cRb1, okRL, okL, Bool.and_eq_true, decide_eq_true_eq] at h1
    obtain ⟨⟨⟨a1, a2⟩, a3⟩, e2⟩ := h1
    have e2 : i = ((0 : Nat) : Int) := e2
    subst e2
    exact ⟨_, (mRb a3 a1 a2 q o1 o2 (List.length (α := tS.den) l) 0 (by omega)).trans (congrArg some (Tr.ret_some h2))⟩
theorem TRF_eq {l : TL} (hl : l.length ≤ 1000) (liars : Int) : (TRF bigL mayT cRa1 raX raY cRb1 rbZ l liars).eval = some (fuseT l liars, ()) := by
  unfold TRF fuseT
  rw [fuses_same]
  simp only
  rw [chk_eval (show bigL l = true from decide_eq_true (by omega))]
  have hlen : (pl l).length = l.length := List.length_map _
  cases hw : wrongT l with
  | true =>
    have : rfuseF (pl l) liars = ((0, 0), 1) := by unfold rfuseF; rw [if_pos (.inl hw)]
    rw [ite_t (by unfold mayT; rw [hw]; rfl), this]; rfl
  | false =>
    rw [ite_f (by unfold mayT; rw [hw]; rfl)]
    by_cases h1 : liars < 0
    · have : rfuseF (pl l) liars = ((0, 0), 1) := by unfold rfuseF; rw [if_pos (.inr (.inl h1))]
      rw [ite_t (decide_eq_true h1), this]; rfl
    by_cases h2 : liars ≥ (l.length : Int)
    · have : rfuseF (pl l) liars = ((0, 0), 1) := by unfold rfuseF; rw [if_pos (.inr (.inr (by rw [hlen]; exact h2)))]
      rw [ite_f (decide_eq_false h1), ite_t (decide_eq_true h2), this]; rfl
    have hbad : ¬ (wrong (pl l) = true ∨ liars < 0 ∨ liars ≥ ((pl l).length : Int)) := by
      rintro (h | h | h)
      · have hw : wrong (pl l) = false := hw
        rw [hw] at h; cases h
      · exact h1 h
      · exact h2 (by rw [hlen] at h; exact h)
    have hok : okRL l liars = true := by
      unfold okRL okL
      rw [decide_eq_true (by omega), decide_eq_true hl]
      rfl
    rw [ite_f (decide_eq_false h1), ite_f (decide_eq_false h2), chk_eval (by unfold cRa1; rw [hok]; rfl)]
    unfold rfuseF
    rw [if_neg hbad, hlen, ← loK_all]
    dsimp only
    cases hs : raX l liars with
    | false =>
      have hs' : (loK l ((l.length : Int) - liars) l.length).1 = false := hs
      rw [ite_t (by rfl), if_pos hs']; rfl
    | true =>
      have hs' : (loK l ((l.length : Int) - liars) l.length).1 = true := hs
      rw [ite_f (by rfl), if_neg (by rw [hs']; simp), ← hiK_all, chk_eval (by unfold cRb1; rw [hok]; rfl)]
      rfl
theorem okRF : CSound Try.prog 11 s10 ∧ CLocal s10 :=
  pos_sound (L := LRF cRa1 raX raY cRb1 rbZ) cRF_sound Try.func11 (by kernel_rfl) (loops2 (by kernel_rfl) lRa lRb) fun xs hs _ _ hp => by
    obtain ⟨l, liars, u⟩ := xs
    exact (tRF bigL mayT bigL votesT cRa1 raX raY cRb1 rbZ l liars).trans (TRF_eq (of_decide_eq_true hp) liars)

/-! Most -/

def atK (l : TL) (a : Int) (k : Nat) : Int := (pl (l.take k)).foldl (atStep (pl l)) a
theorem atK_step {l : TL} {k : Nat} (a : Int) (h : k < l.length) : atK l a (k + 1) = atStep (pl l) (atK l a k) (ofP l[k]) := by
  unfold atK
  rw [take_pl h, List.foldl_append]
  rfl
def cRM1 (l : TL) (a i : Int) : Bool := (okL l && decide (0 < l.length)) && (decide (a = (l.getD 0 (dflt tS)).1) && decide (i = 0))
def rmX (l : TL) : Int := atK l (l.getD 0 (dflt tS)).1 l.length
theorem mRM {l : TL} (hl : l.length ≤ 1000) (a : Int) : ∀ (m k : Nat), k + m = l.length →
    SRM.many (bodyK Try.prog (ctx (cRF bigL mayT bigL votesT)) L0 bRM) (m + 1) (l, atK l a k, (k : Int), ()) () = some (.exit 0, encS [0, 5] [ss, i64] [] 58 (l, atK l a l.length, ()) ())
  | 0, k, h => by
    have hk : k = l.length := by omega
    subst hk
    refine rmany_inr ((rRM bigL mayT bigL votesT l _ _).trans ?_) 0
    unfold GRM
    simp only
    rw [ite_f (decide_eq_false (by omega))]
    rfl
  | m + 1, k, h => by
    have hk : k < l.length := by omega
    have hb : bigL l = true := decide_eq_true (by omega)
    refine (rmany_inl (d := ((l, atK l a (k + 1), ((k + 1 : Nat) : Int), ()), ())) ((rRM bigL mayT bigL votesT l _ _).trans ?_) (m + 1)).trans (mRM hl a m (k + 1) (by omega))
    unfold GRM
    simp only
    rw [Int.toNat_natCast, getT hk, ite_t (decide_eq_true (by omega)), chk_eval (inArr_nat hk), chk_eval hb, chk_eval hb, w_step k (by omega), atK_step _ hk]
    generalize atK l a k = s
    unfold atStep
    have E1 : votesT l l[k].1 = (votes (pl l) (ofP l[k]).1 : Int) := rfl
    have E2 : votesT l s = (votes (pl l) s : Int) := rfl
    by_cases hv : votesT l l[k].1 > votesT l s
    · rw [ite_t (decide_eq_true hv), chk_eval (inArr_nat hk), if_pos (.inl (by omega))]
      rfl
    · rw [ite_f (decide_eq_false hv)]
      by_cases he : votesT l l[k].1 = votesT l s
      · rw [ite_t (beq_iff_eq.2 he), chk_eval (inArr_nat hk)]
        by_cases hc : l[k].1 < s
        · rw [ite_t (decide_eq_true hc), chk_eval (inArr_nat hk), if_pos (.inr ⟨by omega, hc⟩)]
          rfl
        · rw [ite_f (decide_eq_false hc), if_neg (fun h => by
            rcases h with h | h
            · omega
            · exact hc h.2)]
          rfl
      · rw [ite_f (beq_eq_false_iff_ne.2 he), if_neg (fun h => by omega)]
        rfl
theorem lRM : LoopOK Try.prog (LRM cRM1 rmX) bRM :=
  rloop_ok (L := LRM cRM1 rmX) (L' := L0) cRF_sound (loopsOK_of (by kernel_rfl)) SRM (F := FRM cRM1 rmX) (i := 5) (by kernel_rfl) (fun _ => rfl) fun xs hs r h => by
    obtain ⟨l, a, i, u3⟩ := xs
    obtain ⟨h1, h2⟩ := Tr.chk_some h
    simp only [cRM1, okL, Bool.and_eq_true, decide_eq_true_eq] at h1
    obtain ⟨⟨a1, a2⟩, e1, e2⟩ := h1
    have e1 : a = atK l (l.getD 0 (dflt tS)).1 0 := e1
    have e2 : i = ((0 : Nat) : Int) := e2
    subst e1; subst e2
    exact ⟨_, (mRM a1 _ (List.length (α := tS.den) l) 0 (by omega)).trans (congrArg some (Tr.ret_some h2))⟩
theorem head_eq {l : TL} (h : 0 < l.length) : ((pl l).headD (0, 0)).1 = (l.getD 0 (dflt tS)).1 := by
  match l, h with
  | x :: l, _ => rfl
theorem TRM_eq {l : TL} (hl : l.length ≤ 1000) : (TRM bigL mayT bigL votesT cRM1 rmX l).eval = some (mostT l, ()) := by
  unfold TRM mostT
  rw [mosts_same]
  have hb : bigL l = true := decide_eq_true (by omega)
  rw [chk_eval hb]
  cases hw : wrongT l with
  | true =>
    have hw' : wrong (pl l) = true := hw
    have : rmostF (pl l) = (0, 0, 1) := by unfold rmostF; rw [if_pos hw']
    rw [ite_t (by unfold mayT; rw [hw]; rfl), this]; rfl
  | false =>
    have hw' : wrong (pl l) = false := hw
    obtain ⟨_, _, hp, _⟩ := right_of hw'
    have hp : 0 < l.length := by rw [List.length_map] at hp; exact hp
    have hx : rmX l = (pl l).foldl (atStep (pl l)) ((pl l).headD (0, 0)).1 := by
      unfold rmX atK
      rw [List.take_of_length_le (Nat.le_refl _), head_eq hp]
    rw [ite_f (by unfold mayT; rw [hw]; rfl), chk_eval (show inArr 0 l.length = true from inArr_nat (k := 0) hp), chk_eval (by simp only [cRM1, okL, decide_eq_true hl, decide_eq_true hp, decide_true, Bool.and_self]), chk_eval hb]
    unfold rmostF
    rw [if_neg (by rw [hw']; simp)]
    dsimp only
    rw [← hx]
    rfl
theorem okRM : CSound Try.prog 13 s12 ∧ CLocal s12 :=
  pos_sound (L := LRM cRM1 rmX) cRF_sound Try.func13 (by kernel_rfl) (loops1 (by kernel_rfl) lRM) fun xs hs _ _ hp => by
    obtain ⟨l, u⟩ := xs
    exact (tRM bigL mayT bigL votesT cRM1 rmX l).trans (TRM_eq (of_decide_eq_true hp))

end Go.Proofs.Ytmolcddccjgliaa.Sweep

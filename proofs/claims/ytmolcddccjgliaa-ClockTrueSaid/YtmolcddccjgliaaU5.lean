/- Spans swept (layer 7, sweep): what the functions give: ends, the first time, votes, which may not be, turned about. -/
import Derived.Test.YtmolcddccjgliaaU4
set_option linter.unusedVariables false
set_option maxRecDepth 100000
namespace Go.Proofs.Ytmolcddccjgliaa.Sweep
open Go Vse Go.Proofs Gen

abbrev pl (l : List tS.den) : List Sp := l.map ofP
abbrev TL := List tS.den
theorem inArr_nat {k n : Nat} (h : k < n) : inArr (k : Int) n = true := by simp only [inArr, Bool.and_eq_true, decide_eq_true_eq]; omega
theorem w_step (k : Nat) (h : k ≤ 1000000000) : w ((k : Int) + 1) = ((k + 1 : Nat) : Int) := (w_id (by omega) (by omega)).trans (by omega)
theorem getT {l : TL} {k : Nat} (h : k < l.length) : l.getD k (dflt tS) = l[k] := by rw [List.getD_eq_getElem?_getD, List.getElem?_eq_getElem h]; rfl
theorem pl_app (a b : TL) : pl (a ++ b) = pl a ++ pl b := List.map_append
theorem pl_toP (l : List Sp) : pl (l.map toP) = l := by
  unfold pl
  rw [List.map_map]
  have : (ofP ∘ toP) = id := by funext x; rfl
  rw [this, List.map_id]
theorem toP_pl (l : TL) : (pl l).map toP = l := by
  unfold pl
  rw [List.map_map]
  have : (toP ∘ ofP) = id := by funext x; rfl
  rw [this, List.map_id]

/-! ends -/

def endsT (l : TL) : TL := (endsOf (pl l)).map toP
theorem endsOf_len : ∀ l : List Sp, (endsOf l).length = 2 * l.length
  | [] => rfl
  | s :: l => by
    show ((s.1, 1) :: (s.2, -1) :: endsOf l).length = _
    simp only [List.length_cons, endsOf_len l]; omega
theorem endsT_len (l : TL) : (endsT l).length = 2 * l.length := by unfold endsT; rw [List.length_map, endsOf_len, List.length_map]
theorem endsOf_app (a b : List Sp) : endsOf (a ++ b) = endsOf a ++ endsOf b := List.flatMap_append
theorem endsT_step {l : TL} {k : Nat} (h : k < l.length) : endsT (l.take (k + 1)) = endsT (l.take k) ++ [(l[k].1, 1, ()), (l[k].2.1, -1, ())] := by
  unfold endsT
  rw [← List.take_append_getElem h, pl_app, endsOf_app, List.map_append]
  rfl
def cEn1 (l : TL) (n i : Int) (out : TL) : Bool := decide (n = (l.length : Int)) && (decide (i = 0) && (decide (out.length = 0) && decide (l.length ≤ 1000)))
theorem mEn {l : TL} (hl : l.length ≤ 1000) : ∀ (m k : Nat), k + m = l.length →
    SEn.many (bodyK Try.prog (ctx []) L0 bEn) (m + 1) ((), l, (l.length : Int), (k : Int), ()) (endsT (l.take k), ()) = some (.exit 0, encS [3] [.vc 0 0] [.vec 0 tS] 25 ((), ()) (endsT l, ()))
  | 0, k, h => by
    refine rmany_inr ((rEn l _ _ _).trans ?_) 0
    unfold GEn
    simp only
    rw [ite_f (decide_eq_false (by omega)), List.take_of_length_le (by omega)]
    rfl
  | m + 1, k, h => by
    have hk : k < l.length := by omega
    refine (rmany_inl (d := (((), l, (l.length : Int), ((k + 1 : Nat) : Int), ()), (endsT (l.take (k + 1)), ()))) ((rEn l _ _ _).trans ?_) (m + 1)).trans (mEn hl m (k + 1) (by omega))
    have hr : Vse.room ((endsT (l.take k)).length + 2) 16 = true := by
      rw [endsT_len, List.length_take]
      simp only [Vse.room, decide_eq_true_eq]; omega
    unfold GEn
    simp only [Int.toNat_natCast, getT hk]
    rw [ite_t (decide_eq_true (by omega)), chk_eval (inArr_nat hk), chk_eval hr, w_step k (by omega), endsT_step hk]
    rfl
theorem lEn : LoopOK Try.prog (LEn cEn1 endsT) bEn :=
  rloop_ok (L := LEn cEn1 endsT) (L' := L0) nil_sound (loopsOK_of (by kernel_rfl)) SEn (F := FEn cEn1 endsT) (i := 3) (by kernel_rfl) (fun _ => rfl) fun xs hs r h => by
    obtain ⟨u1, l, n, i, u2⟩ := xs
    obtain ⟨out, u3⟩ := hs
    obtain ⟨h1, h2⟩ := Tr.chk_some h
    simp only [cEn1, Bool.and_eq_true, decide_eq_true_eq] at h1
    obtain ⟨e1, e2, e3, e4⟩ := h1
    have e1 : n = ((List.length (α := tS.den) l : Nat) : Int) := e1
    have e2 : i = ((0 : Nat) : Int) := e2
    have e3 : out = endsT (List.take 0 l) := List.eq_nil_of_length_eq_zero e3
    subst e1; subst e2; subst e3
    exact ⟨_, (mEn e4 (List.length (α := tS.den) l) 0 (by omega)).trans (congrArg some (Tr.ret_some h2))⟩

def okL (l : TL) : Bool := decide (l.length ≤ 1000)
def okE (l : TL) : Bool := decide (0 < l.length ∧ l.length ≤ 1000)
def endsS (l : TL) : TL := (ends (pl l)).map toP
theorem endsS_eq (l : TL) : sortT cmpE (endsT l) = endsS l := by
  unfold sortT endsS ends
  congr 1
  rw [sort_ends]
  congr 1
  exact pl_toP _
def s34 : CSpec := .pos nEn (fun xs _ => okE xs.1) fun xs _ => (((), ()), (endsS xs.1, ()))
theorem cEn_sound : CtxSound Try.prog (ctx cEn) ∧ CtxLocal (ctx cEn) := ctx_sound ⟨ok50, trivial⟩
theorem lEn' : LoopOK Try.prog (LEn cEn1 endsT) bEn := lEn
theorem ok34 : CSound Try.prog 34 s34 ∧ CLocal s34 :=
  pos_sound (L := LEn cEn1 endsT) cEn_sound Try.func34 (by kernel_rfl) (loops1 (by kernel_rfl) lEn) fun xs hs _ _ hp => by
    obtain ⟨l, u⟩ := xs
    have hp : 0 < List.length (α := tS.den) l ∧ List.length (α := tS.den) l ≤ 1000 := of_decide_eq_true hp
    have hl := endsT_len l
    refine (tEn cEn1 endsT l).trans ?_
    have : (.chk (cEn1 l (List.length (α := tS.den) l : Int) 0 []) (.chk (decide ((endsT l).length ≠ 0 ∧ (endsT l).length < 1000000000)) (.ret (((), ()), (sortT cmpE (endsT l), ())))) : Tr nEn.Out).eval = some (((), ()), (endsS l, ())) := by
      rw [chk_eval (by simp only [cEn1, Bool.and_eq_true, decide_eq_true_eq, List.length_nil, true_and]; exact hp.2), chk_eval (decide_eq_true (by omega)), endsS_eq]
      rfl
    exact this

/-! the first time -/

def units (l : TL) : Bool := decide (∀ e ∈ l, e.2.1 = 1 ∨ e.2.1 = -1)
def okF (l : TL) (need sign : Int) : Bool := (decide (l.length ≤ 2000) && units l) && decide (sign = 1 ∨ sign = -1)
def cFi1 (l : TL) (need sign m n i : Int) : Bool := okF l need sign && (decide (m = 0) && (decide (n = (l.length : Int)) && decide (i = 0)))
def fiX (l : TL) (need sign : Int) : Bool := (fstS need sign 0 (pl l)).isSome
def fiY (l : TL) (need sign : Int) : Int := (fstS need sign 0 (pl l)).getD 0
theorem mFi {l : TL} {need sign : Int} (hl : l.length ≤ 2000) (hu : ∀ e ∈ l, e.2.1 = 1 ∨ e.2.1 = -1) (hs : sign = 1 ∨ sign = -1) : ∀ (m k : Nat) (c : Int), k + m = l.length → -(k : Int) ≤ c → c ≤ k →
    SFi.many (bodyK Try.prog (ctx []) L0 bFi) (m + 1) (need, sign, c, l, (l.length : Int), (k : Int), ()) () =
      match fstS need sign c (pl (l.drop k)) with
      | some t => some (.ret, encS [6, 7] [i64, .bool] [] 29 (t, true, ()) ())
      | none => some (.exit 0, encS [] [] [] 29 () ())
  | 0, k, c, h, h1, h2 => by
    refine (rmany_inr (r := (.exit 0, encS [] [] [] 29 () ())) ((rFi need sign c l _ _).trans ?_) 0).trans ?_
    · unfold GFi
      simp only
      rw [ite_f (decide_eq_false (by omega))]
      rfl
    · rw [List.drop_of_length_le (by omega)]
      rfl
  | m + 1, k, c, h, h1, h2 => by
    have hk : k < l.length := by omega
    have hd : pl (l.drop k) = ofP l[k] :: pl (l.drop (k + 1)) := by rw [List.drop_eq_getElem_cons hk]; rfl
    have hue := hu l[k] (List.getElem_mem hk)
    have hqe : (ofP l[k]).2 = 1 ∨ (ofP l[k]).2 = -1 := hue
    have hp : w (c + w (l[k].2.1 * sign)) = c + (ofP l[k]).2 * sign := by
      show w (c + w ((ofP l[k]).2 * sign)) = _
      rcases hqe with e | e <;> rcases hs with f | f <;> rw [e, f] <;> rw [w_id (x := _ * _) (by decide) (by decide), w_id (by omega) (by omega)]
    have hb : -((k + 1 : Nat) : Int) ≤ c + (ofP l[k]).2 * sign ∧ c + (ofP l[k]).2 * sign ≤ ((k + 1 : Nat) : Int) := by
      rcases hqe with e | e <;> rcases hs with f | f <;> rw [e, f] <;> omega
    rw [hd]
    simp only [fstS]
    by_cases hc : c + (ofP l[k]).2 * sign ≥ need
    · rw [if_pos hc]
      refine rmany_inr ((rFi need sign c l _ _).trans ?_) (m + 1)
      unfold GFi
      simp only [Int.toNat_natCast, getT hk]
      rw [hp, ite_t (decide_eq_true (by omega)), chk_eval (inArr_nat hk), ite_t (decide_eq_true hc)]
      rfl
    · rw [if_neg hc]
      refine (rmany_inl (d := ((need, sign, c + (ofP l[k]).2 * sign, l, (l.length : Int), ((k + 1 : Nat) : Int), ()), ())) ((rFi need sign c l _ _).trans ?_) (m + 1)).trans (mFi hl hu hs m (k + 1) _ (by omega) hb.1 hb.2)
      unfold GFi
      simp only [Int.toNat_natCast, getT hk]
      rw [hp, ite_t (decide_eq_true (by omega)), chk_eval (inArr_nat hk), ite_f (decide_eq_false hc), w_step k (by omega)]
      rfl
theorem lFi : LoopOK Try.prog (LFi cFi1 fiX fiY) bFi :=
  rloop_ok (L := LFi cFi1 fiX fiY) (L' := L0) nil_sound (loopsOK_of (by kernel_rfl)) SFi (F := FFi cFi1 fiX fiY) (i := 3) (by kernel_rfl) (fun _ => rfl) fun xs hs r h => by
    obtain ⟨need, sign, m, l, n, i, u2⟩ := xs
    obtain ⟨h1, h2⟩ := Tr.chk_some h
    simp only [cFi1, okF, units, Bool.and_eq_true, decide_eq_true_eq] at h1
    obtain ⟨⟨⟨a1, a2⟩, a3⟩, e1, e2, e3⟩ := h1
    have e1 : m = (0 : Int) := e1
    have e2 : n = ((List.length (α := tS.den) l : Nat) : Int) := e2
    have e3 : i = ((0 : Nat) : Int) := e3
    subst e1; subst e2; subst e3
    have := mFi (need := need) a1 a2 a3 (List.length (α := tS.den) l) 0 0 (by omega) (by omega) (by omega)
    rw [List.drop_zero] at this
    refine ⟨_, this.trans ?_⟩
    unfold fiX fiY at h2
    cases hf : fstS need sign 0 (pl l) with
    | some t =>
      rw [hf] at h2
      rw [ite_t (by rfl)] at h2
      exact congrArg some (Tr.ret_some h2)
    | none =>
      rw [hf] at h2
      rw [ite_f (by rfl)] at h2
      exact congrArg some (Tr.ret_some h2)

def firstT (l : TL) (need sign : Int) : Int × Bool × Unit := (fiY l need sign, fiX l need sign, ())
def s35 : CSpec := .pos nFi (fun xs _ => okF xs.1 xs.2.1 xs.2.2.1) fun xs _ => (firstT xs.1 xs.2.1 xs.2.2.1, ())
theorem ok35 : CSound Try.prog 35 s35 ∧ CLocal s35 :=
  pos_sound (L := LFi cFi1 fiX fiY) nil_sound Try.func35 (by kernel_rfl) (loops1 (by kernel_rfl) lFi) fun xs hs _ _ hp => by
    obtain ⟨l, need, sign, u⟩ := xs
    have hp : okF l need sign = true := hp
    refine (tFi cFi1 fiX fiY l need sign).trans ?_
    have : (.chk (cFi1 l need sign 0 (List.length (α := tS.den) l : Int) 0) (.ite (fiX l need sign) (.ret ((fiY l need sign, true, ()), ())) (.ret ((0, false, ()), ()))) : Tr nFi.Out).eval = some (firstT l need sign, ()) := by
      rw [chk_eval (by simp only [cFi1, hp, decide_true, Bool.and_self])]
      unfold firstT
      cases hX : fiX l need sign with
      | true => rw [ite_t (by rfl)]; rfl
      | false =>
        have : fiY l need sign = 0 := by
          unfold fiX at hX
          unfold fiY
          cases hf : fstS need sign 0 (pl l) with
          | some t => rw [hf] at hX; cases hX
          | none => rfl
        rw [ite_f (by rfl), this]; rfl
    exact this

/-! votes -/

theorem has_eq (e : tS.den) (t : Int) : hasF e t = has (ofP e) t := rfl
theorem votes_step {l : TL} {k : Nat} (h : k < l.length) (t : Int) : votes (pl (l.take (k + 1))) t = votes (pl (l.take k)) t + if has (ofP l[k]) t = true then 1 else 0 := by
  rw [← List.take_append_getElem h, pl_app]
  unfold votes
  rw [List.countP_append]
  show _ + List.countP _ [ofP l[k]] = _
  rw [List.countP_singleton]
def votesT (l : TL) (t : Int) : Int := (votes (pl l) t : Int)
def bigL (l : TL) : Bool := decide (l.length ≤ 1000000)
def cV1 (m : Int) (l : TL) (n i : Int) : Bool := (bigL l && decide (m = 0)) && (decide (n = (l.length : Int)) && decide (i = 0))
theorem votes_lt (l : TL) (k : Nat) (t : Int) : votes (pl (l.take k)) t ≤ k := by
  have := votes_le (pl (l.take k)) t
  rw [List.length_map, List.length_take] at this
  omega
theorem mV {l : TL} (hl : l.length ≤ 1000000) (t : Int) : ∀ (m k : Nat), k + m = l.length →
    SV.many (bodyK Try.prog (ctx (cV hasF)) L0 bV) (m + 1) (t, (votes (pl (l.take k)) t : Int), l, (l.length : Int), (k : Int), ()) () = some (.exit 0, encS [5] [i64] [] 21 (votesT l t, ()) ())
  | 0, k, h => by
    refine rmany_inr ((rV hasF t _ l _ _).trans ?_) 0
    unfold GV
    rw [ite_f (decide_eq_false (by omega)), List.take_of_length_le (by omega)]
    rfl
  | m + 1, k, h => by
    have hk : k < l.length := by omega
    have hv := votes_lt l k t
    refine (rmany_inl (d := ((t, (votes (pl (l.take (k + 1))) t : Int), l, (l.length : Int), ((k + 1 : Nat) : Int), ()), ())) ((rV hasF t _ l _ _).trans ?_) (m + 1)).trans (mV hl t m (k + 1) (by omega))
    unfold GV
    rw [Int.toNat_natCast, getT hk, ite_t (decide_eq_true (by omega)), chk_eval (inArr_nat hk), w_step k (by omega), votes_step hk]
    by_cases hh : hasF l[k] t = true
    · rw [ite_t hh, if_pos (by rw [← has_eq]; exact hh), w_step _ (by omega)]
      rfl
    · rw [ite_f (Bool.eq_false_iff.2 hh), if_neg (by rw [← has_eq]; exact hh)]
      rfl
theorem cV_sound : CtxSound Try.prog (ctx (cV hasF)) ∧ CtxLocal (ctx (cV hasF)) := ctx_sound ⟨ok17, trivial⟩
theorem lV : LoopOK Try.prog (LV cV1 votesT) bV :=
  rloop_ok (L := LV cV1 votesT) (L' := L0) cV_sound (loopsOK_of (by kernel_rfl)) SV (F := FV cV1 votesT) (i := 3) (by kernel_rfl) (fun _ => rfl) fun xs hs r h => by
    obtain ⟨t, m, l, n, i, u2⟩ := xs
    obtain ⟨h1, h2⟩ := Tr.chk_some h
    simp only [cV1, bigL, Bool.and_eq_true, decide_eq_true_eq] at h1
    obtain ⟨⟨a1, e1⟩, e2, e3⟩ := h1
    have e1 : m = ((votes (pl (List.take 0 l)) t : Nat) : Int) := e1
    have e2 : n = ((List.length (α := tS.den) l : Nat) : Int) := e2
    have e3 : i = ((0 : Nat) : Int) := e3
    subst e1; subst e2; subst e3
    exact ⟨_, (mV a1 t (List.length (α := tS.den) l) 0 (by omega)).trans (congrArg some (Tr.ret_some h2))⟩
def s14 : CSpec := .slp1 [ss, i64] (fun x => bigL x.1) i64 fun x => votesT x.1 x.2.1
theorem ok14 : CSound Try.prog 14 s14 ∧ CLocal s14 :=
  slpE1 (L := LV cV1 votesT) cV_sound Try.func14 (by kernel_rfl) (loops1 (by kernel_rfl) lV) fun xs hx hp => by
    obtain ⟨l, t, u⟩ := xs
    have hp : bigL l = true := hp
    exact (tV hasF cV1 votesT l t).trans (chk_eval (by simp only [cV1, hp, decide_true, Bool.and_self]) _)

/-! which may not be -/

theorem right_aux (a b : Int) : ((decide (a = min (max a (-F)) F) && (decide (b = min (max b (-F)) F) && true)) && decide (a ≤ b)) = right (a, b) := by
  unfold right far
  rw [Bool.eq_iff_iff]
  simp only [Bool.and_eq_true, decide_eq_true_eq, and_true]
  simp only [F]
  omega
theorem right_eq (x : tS.den) : rightF x = right (ofP x) := by
  have hm : ∀ x y, minI x y = min x y := fun x y => by unfold minI; split <;> omega
  have hM : ∀ x y, maxI x y = max x y := fun x y => by unfold maxI; split <;> omega
  have e : rightF x = ((decide (x.1 = min (max x.1 (-F)) F) && (decide (x.2.1 = min (max x.2.1 (-F)) F) && true)) && decide (x.1 ≤ x.2.1)) := by
    unfold rightF clampF
    rw [hm, hm, hM, hM]
    rfl
  rw [e]
  exact right_aux x.1 x.2.1

def badT (x : tS.den) : Bool := !rightF x
theorem ok49 : CSound Try.prog 49 (.fn1 [tS] .bool fun x => badT x.1) ∧ CLocal (.fn1 [tS] .bool fun x => badT x.1) :=
  fn_ok1 (C := ctx (cB rightF)) (ctx_sound ⟨ok39, trivial⟩) Try.func49 (by kernel_rfl) (fun xs _ => by kernel_rfl) (fun xs _ => by kernel_rfl)
theorem cI_sound : CtxSound Try.prog (ctx (cI badT)) ∧ CtxLocal (ctx (cI badT)) := ctx_sound ⟨ok49, trivial⟩
def cI1 (l : TL) (n i : Int) : Bool := bigL l && (decide (n = (l.length : Int)) && decide (i = 0))
def iX (l : TL) : Bool := l.any badT
def iY (l : TL) : Int := (l.findIdx badT : Int)
theorem mI {l : TL} (hl : l.length ≤ 1000000) : ∀ (m k : Nat), k + m = l.length → (∀ x ∈ l.take k, badT x = false) →
    SI.many (bodyK Try.prog (ctx (cI badT)) L0 bI) (m + 1) (l, (), (l.length : Int), (k : Int), ()) () = if iX l = true then some (.ret, encS [4] [i64] [] 19 (iY l, ()) ()) else some (.exit 0, encS [] [] [] 19 () ())
  | 0, k, h, hf => by
    rw [List.take_of_length_le (by omega)] at hf
    have hx : iX l = false := by unfold iX; rw [List.any_eq_false]; intro x hx; rw [hf x hx]; simp
    rw [hx]
    refine rmany_inr ((rI badT l _ _).trans ?_) 0
    unfold GI
    rw [ite_f (decide_eq_false (by omega))]
    rfl
  | m + 1, k, h, hf => by
    have hk : k < l.length := by omega
    by_cases hb : badT l[k] = true
    · have hx : iX l = true := List.any_eq_true.2 ⟨l[k], List.getElem_mem hk, hb⟩
      have hy : iY l = (k : Int) := by
        unfold iY
        congr 1
        refine (List.findIdx_eq hk).2 ⟨hb, fun j hj => ?_⟩
        have hjl : j < l.length := by omega
        exact hf l[j] (List.mem_take_iff_getElem.2 ⟨j, by omega, rfl⟩)
      rw [if_pos hx, hy]
      refine rmany_inr ((rI badT l _ _).trans ?_) (m + 1)
      unfold GI
      rw [Int.toNat_natCast, getT hk, ite_t (decide_eq_true (by omega)), chk_eval (inArr_nat hk), ite_t hb]
      rfl
    · refine (rmany_inl (d := ((l, (), (l.length : Int), ((k + 1 : Nat) : Int), ()), ())) ((rI badT l _ _).trans ?_) (m + 1)).trans (mI hl m (k + 1) (by omega) fun x hx => ?_)
      · unfold GI
        rw [Int.toNat_natCast, getT hk, ite_t (decide_eq_true (by omega)), chk_eval (inArr_nat hk), ite_f (Bool.eq_false_iff.2 hb), w_step k (by omega)]
        rfl
      · rw [← List.take_append_getElem hk] at hx
        rcases List.mem_append.1 hx with hx | hx
        · exact hf x hx
        · rw [List.mem_singleton.1 hx]; exact Bool.eq_false_iff.2 hb
theorem lI : LoopOK Try.prog (LI cI1 iX iY) bI :=
  rloop_ok (L := LI cI1 iX iY) (L' := L0) cI_sound (loopsOK_of (by kernel_rfl)) SI (F := FI cI1 iX iY) (i := 2) (by kernel_rfl) (fun _ => rfl) fun xs hs r h => by
    obtain ⟨l, u1, n, i, u2⟩ := xs
    obtain ⟨h1, h2⟩ := Tr.chk_some h
    simp only [cI1, bigL, Bool.and_eq_true, decide_eq_true_eq] at h1
    obtain ⟨a1, e2, e3⟩ := h1
    have e2 : n = ((List.length (α := tS.den) l : Nat) : Int) := e2
    have e3 : i = ((0 : Nat) : Int) := e3
    subst e2; subst e3
    refine ⟨_, (mI a1 (List.length (α := tS.den) l) 0 (by omega) (fun x hx => by simp at hx)).trans ?_⟩
    by_cases hX : iX l = true
    · rw [ite_t hX] at h2
      rw [if_pos hX]
      exact congrArg some (Tr.ret_some h2)
    · rw [ite_f (Bool.eq_false_iff.2 hX)] at h2
      rw [if_neg hX]
      exact congrArg some (Tr.ret_some h2)
def idxT (l : TL) : Int := if iX l = true then iY l else -1
theorem ok56 : CSound Try.prog 56 (.slp1 [ss, fW] (fun x => bigL x.1) i64 fun x => idxT x.1) ∧ CLocal (.slp1 [ss, fW] (fun x => bigL x.1) i64 fun x => idxT x.1) :=
  slpE1 (L := LI cI1 iX iY) cI_sound Try.func56 (by kernel_rfl) (loops1 (by kernel_rfl) lI) fun xs hx hp => by
    obtain ⟨l, u, u2⟩ := xs
    have hp : bigL l = true := hp
    refine (tI badT cI1 iX iY l).trans ((chk_eval (by simp only [cI1, hp, decide_true, Bool.and_self]) _).trans ?_)
    by_cases hX : iX l = true
    · rw [ite_t hX]
      show _ = some (AV.v i64 (idxT l))
      unfold idxT; rw [if_pos hX]; rfl
    · rw [ite_f (Bool.eq_false_iff.2 hX)]
      show _ = some (AV.v i64 (idxT l))
      unfold idxT; rw [if_neg hX]; rfl
theorem idx_any (l : TL) : decide (idxT l ≥ 0) = iX l := by
  unfold idxT iY
  by_cases hX : iX l = true
  · rw [if_pos hX, hX]; exact decide_eq_true (by omega)
  · rw [if_neg hX, Bool.eq_false_iff.2 hX]; rfl
theorem cCo_sound : CtxSound Try.prog (ctx (cCo bigL idxT)) ∧ CtxLocal (ctx (cCo bigL idxT)) := ctx_sound ⟨ok56, trivial⟩
theorem ok48 : CSound Try.prog 48 (.slp1 [ss, fW] (fun x => bigL x.1) .bool fun x => iX x.1) ∧ CLocal (.slp1 [ss, fW] (fun x => bigL x.1) .bool fun x => iX x.1) :=
  slpE1 (L := L0) cCo_sound Try.func48 (by kernel_rfl) (noLoopsL (by kernel_rfl)) fun xs hx hp => by
    obtain ⟨l, u, u2⟩ := xs
    have hp : bigL l = true := hp
    refine (tCo bigL idxT l).trans ((chk_eval hp _).trans ?_)
    rw [idx_any]
    rfl
theorem cWr_sound : CtxSound Try.prog (ctx (cWr bigL iX)) ∧ CtxLocal (ctx (cWr bigL iX)) := ctx_sound ⟨ok48, trivial⟩
def wrongT (l : TL) : Bool := wrong (pl l)
theorem any_eq (l : TL) : iX l = (pl l).any fun s => !right s := by
  unfold iX badT
  rw [List.any_map]
  congr 1
  funext x
  simp only [Function.comp, right_eq]
def s33 : CSpec := .slp1 [ss] (fun x => bigL x.1) .bool fun x => wrongT x.1
theorem ok33 : CSound Try.prog 33 s33 ∧ CLocal s33 :=
  slpE1 (L := L0) cWr_sound Try.func33 (by kernel_rfl) (noLoopsL (by kernel_rfl)) fun xs hx hp => by
    obtain ⟨l, u⟩ := xs
    have hp : bigL l = true := hp
    refine (tWr bigL iX l).trans ?_
    have : (TWr bigL iX l).eval = some (.v .bool (wrongT l)) := by
      unfold TWr wrongT wrong
      rw [List.length_map, ← any_eq]
      by_cases h1 : l.length = 0
      · rw [ite_t (by rw [h1]; rfl), h1]; rfl
      · rw [ite_f (by simp only [beq_eq_false_iff_ne, ne_eq]; omega)]
        by_cases h2 : 64 < l.length
        · rw [ite_t (decide_eq_true (by omega)), decide_eq_false h1, decide_eq_true h2]; rfl
        · rw [ite_f (decide_eq_false (by omega)), chk_eval hp, decide_eq_false h1, decide_eq_false h2]; rfl
    exact this

end Go.Proofs.Ytmolcddccjgliaa.Sweep

/- The clock (layer 8): ClockTrue is true. -/
import Derived.Test.YtmolcddccjgliaaV7
set_option linter.unusedVariables false
set_option maxRecDepth 100000
namespace Go.Proofs.Ytmolcddccjgliaa.Clock
open Go Vse Go.Proofs Gen Sweep

/-! samples grow -/

abbrev cV9 : List (Nat × CSpec) := cZ true okL sampF newF nowF setF growF rRightF hasF partedF
theorem cV9_sound : CtxSound Try.prog (ctx cV9) ∧ CtxLocal (ctx cV9) := ctx_sound ⟨ok20, ok21, ok23, ok25, ok28, ok32, ok16, ok17, ok31, trivial⟩
def cZi1 (m : TL) (k : Int) : Bool := decide (m.length ≤ 1000) && decide (k = 0)
def midG (m : TL) (t p : Int) (k : Nat) : TL := growL (m.take k) t p ++ m.drop k
theorem midG_len (m : TL) (t p : Int) (k : Nat) : (midG m t p k).length = m.length := by
  unfold midG growL
  rw [List.length_append, List.length_map, List.length_take, List.length_drop]
  omega
theorem midG_get {m : TL} {k : Nat} (t p : Int) (h : k < m.length) : (midG m t p k).getD k (dflt tS) = m[k] := by
  unfold midG growL
  rw [List.getD_eq_getElem?_getD, List.getElem?_append_right (by rw [List.length_map, List.length_take]; omega), List.length_map, List.length_take, List.getElem?_drop]
  rw [show k + (k - min k m.length) = k by omega, List.getElem?_eq_getElem h]
  rfl
theorem midG_step {m : TL} {k : Nat} (t p : Int) (h : k < m.length) : (midG m t p k).set k (growF m[k] t p) = midG m t p (k + 1) := by
  unfold midG
  have hl : (growL (m.take k) t p).length = k := by unfold growL; rw [List.length_map, List.length_take]; omega
  rw [List.set_append_right _ _ (by omega), hl, Nat.sub_self, List.drop_eq_getElem_cons h, ← List.take_append_getElem h]
  unfold growL
  rw [List.map_append, List.append_assoc]
  rfl
theorem mZi {m : TL} (hl : m.length ≤ 1000) (l : List tV.den) (W : Bool) (now read ppm liars i to back : Int) (hn : List Int) (hc : tC.den) (hx : tV.den) (ht hs : tS.den) : ∀ (n k : Nat), k + n = m.length →
    SZi.many (bodyK Try.prog (ctx cV9) L0 bZi) (n + 1) (l, (), W, now, read, ppm, (), liars, (), i, to, back, (), (k : Int), ()) (hn, hc, midG m (w (to + back)) ppm k, hx, ht, hs, ()) =
      some (.exit 2, encS [0, 3, 5, 6, 7, 8, 9, 11, 12, 13, 23] oZi eZi 325 (l, (), W, now, read, ppm, (), liars, (), i, (), ()) (hn, hc, growL m (w (to + back)) ppm, hx, ht, hs, ()))
  | 0, k, h => by
    refine rmany_inr ((rZi true okL sampF newF nowF setF growF rRightF hasF partedF l W now read ppm liars i to back _ hn hc _ hx ht hs).trans ?_) 0
    unfold GZi
    have hk : k = m.length := by omega
    subst hk
    rw [midG_len, ite_f (decide_eq_false (by omega))]
    unfold midG
    rw [List.take_of_length_le (Nat.le_refl _), List.drop_of_length_le (Nat.le_refl _), List.append_nil]
    rfl
  | n + 1, k, h => by
    have hk : k < m.length := by omega
    refine (rmany_inl (d := ((l, (), W, now, read, ppm, (), liars, (), i, to, back, (), ((k + 1 : Nat) : Int), ()), (hn, hc, midG m (w (to + back)) ppm (k + 1), hx, ht, hs, ())))
      ((rZi true okL sampF newF nowF setF growF rRightF hasF partedF l W now read ppm liars i to back _ hn hc _ hx ht hs).trans ?_) (n + 1)).trans (mZi hl l W now read ppm liars i to back hn hc hx ht hs n (k + 1) (by omega))
    unfold GZi
    rw [midG_len, ite_t (decide_eq_true (by omega)), chk_eval (inArr_nat hk), chk_eval (inArr_nat hk), Int.toNat_natCast, midG_get _ _ hk, midG_step _ _ hk, w_step k (by omega)]
    rfl
theorem lZi : LoopOK Try.prog (LZi cZi1 growL) bZi :=
  rloop_ok (L := LZi cZi1 growL) (L' := L0) cV9_sound (loopsOK_of (by kernel_rfl)) SZi (F := FZi cZi1 growL) (i := 36) (by kernel_rfl) (fun _ => rfl) fun xs hs r h => by
    obtain ⟨l, u1, W, now, read, ppm, u2, liars, u3, i, to, back, u4, k, u5⟩ := xs
    obtain ⟨hn, hc, m, hx, ht, hs, u6⟩ := hs
    obtain ⟨h1, h2⟩ := Tr.chk_some h
    simp only [cZi1, Bool.and_eq_true, decide_eq_true_eq] at h1
    obtain ⟨a1, e1⟩ := h1
    have e1 : k = ((0 : Nat) : Int) := e1
    subst e1
    have := mZi a1 l W now read ppm liars i to back hn hc hx ht hs (List.length (α := tS.den) m) 0 (by omega)
    exact ⟨_, this.trans (congrArg some (Tr.ret_some h2))⟩
theorem loops_Z : loopsOf bZ = [bZi] := by kernel_rfl
theorem lsZ : LoopsOK Try.prog (LZi cZi1 growL) bZ := loopsOK_all fun b hb => by
  rw [loops_Z, List.mem_singleton] at hb
  subst hb
  exact lZi

/-! the servers -/

theorem tree8 {α : Type} (b1 b2 b3 b4 b5 b6 b7 b8 : Bool) (up go : Tr α) :
    (Tr.ite b1 (.ite b2 (.ite b3 (.ite b4 (.ite b5 (.ite b6 (.ite b7 (.ite (!b8) up go) up) up) up) up) up) up) up).eval = if ((b1 && b2) && (b3 && b4) && ((b5 && b6) && (b7 && b8))) = true then go.eval else up.eval := by
  cases b1 with
  | false => rfl
  | true => cases b2 with
    | false => rfl
    | true => cases b3 with
      | false => rfl
      | true => cases b4 with
        | false => rfl
        | true => cases b5 with
          | false => rfl
          | true => cases b6 with
            | false => rfl
            | true => cases b7 with
              | false => rfl
              | true => cases b8 <;> rfl
theorem tree3 {α : Type} (b1 b2 b3 : Bool) (up go : Tr α) : (Tr.ite (!b1) up (.ite (!b2) up (.ite (!b3) up go))).eval = if (b1 && (b2 && b3)) = true then go.eval else up.eval := by
  cases b1 with
  | false => rfl
  | true => cases b2 with
    | false => rfl
    | true => cases b3 <;> rfl
theorem tree_if {α : Type} (b : Bool) (x y : Tr α) : (Tr.ite b x y).eval = if b = true then x.eval else y.eval := by cases b <;> rfl

def outZ (l : VL) (p : Int) (hn : List Int) (hc : tC.den) : Option Sv → Ex × St
  | none => (.ret, encS [4] [.bool] [.dead, .dead, .dead] 325 (true, ()) ())
  | some e => (.exit 0, encS [0, 3, 5, 6, 7, 8, 9, 11, 12] oZ eZ 325 (l, (), true, e.now, e.read, p, (), e.liars, (), ()) (hn, hc, e.m, ()))

theorem go_eval {l : VL} {p : Int} {s : Sv} {k : Nat} {hn : List Int} {hc : tC.den} (hl : s.m.length ≤ 100) (a b t read' now' liars' : Int) (tol : tS.den) (hs : rRightF tol = true → (sampF tol s.read read' p).2.1 = 0) (up o : Tr SZ.End) :
    (Tr.ite (!rRightF tol) up (.ite (!((sampF tol s.read read' p).2.1 == 0)) o (.chk (cZi1 s.m 0) (.chk (Vse.room ((growL s.m t p).length + 1) 16) (.ret (.inl ((l, (), true, now', read', p, (), liars', (), w ((k : Int) + 1), ()), (hn, hc, growL s.m t p ++ [(sampF tol s.read read' p).1], ()))))))) : Tr SZ.End).eval =
      if rRightF tol = true then some (.inl ((l, (), true, now', read', p, (), liars', (), w ((k : Int) + 1), ()), (hn, hc, growL s.m t p ++ [(sampF tol s.read read' p).1], ()))) else up.eval := by
  by_cases h : rRightF tol = true
  · have h1 : cZi1 s.m 0 = true := by unfold cZi1; rw [decide_eq_true (by omega)]; rfl
    have h2 : Vse.room ((growL s.m t p).length + 1) 16 = true := by
      unfold growL
      rw [List.length_map]
      simp only [Vse.room, decide_eq_true_eq]; omega
    rw [if_pos h, ite_f (by rw [h]; rfl), ite_f (by rw [hs h]; rfl), chk_eval h1, chk_eval h2]
    rfl
  · rw [if_neg h, ite_t (by rw [Bool.eq_false_iff.2 h]; rfl)]

theorem mZ {l : VL} {p : Int} (hp : 0 ≤ p) (hp2 : p ≤ 100000) (hl : l.length ≤ 12) (hn : List Int) (hc : tC.den) : ∀ (r : VL) (k : Nat) (s : Sv), l.drop k = r → k + r.length = l.length → Inv p k s →
    SZ.many (bodyK Try.prog (ctx cV9) (LZi cZi1 growL) bZ) (r.length + 1) (l, (), true, s.now, s.read, p, (), s.liars, (), (k : Int), ()) (hn, hc, s.m, ()) = some (outZ l p hn hc (run p r s))
  | [], k, s, hd, hk, hi => by
    refine rmany_inr ((rZ true okL sampF newF nowF setF growF rRightF hasF partedF cZi1 growL l true s.now s.read p s.liars _ hn hc s.m).trans ?_) 0
    unfold GZ
    dsimp only
    rw [ite_f (decide_eq_false (by have : k + 0 = l.length := hk; omega))]
    rfl
  | x :: r, k, s, hd, hk, hi => by
    have hk' : k + (r.length + 1) = l.length := hk
    have hkl : k < l.length := by omega
    have hx : l.getD k (dflt tV) = x := by
      rw [List.getD_eq_getElem?_getD, ← List.head?_drop, hd]
      rfl
    have hd' : l.drop (k + 1) = r := by
      have := congrArg List.tail hd
      rw [List.tail_drop] at this
      exact this
    have hm : s.m.length ≤ 100 := by have := hi.len; omega
    by_cases ho : okV x s.now p = true
    · obtain ⟨hi', hsam, hlw⟩ := next_inv (by omega) hp hp2 hi ho
      refine (rmany_inl (d := ((l, (), true, (next x p s).now, (next x p s).read, p, (), (next x p s).liars, (), ((k + 1 : Nat) : Int), ()), (hn, hc, (next x p s).m, ())))
        ((rZ true okL sampF newF nowF setF growF rRightF hasF partedF cZi1 growL l true s.now s.read p s.liars _ hn hc s.m).trans ?_) (r.length + 1)).trans ((mZ hp hp2 hl hn hc r (k + 1) (next x p s) hd' (by omega) hi').trans ?_)
      · unfold GZ
        dsimp only
        rw [Int.toNat_natCast, hx, ite_t (decide_eq_true (by omega)), chk_eval (inArr_nat hkl)]
        unfold okV at ho
        simp only [Bool.and_eq_true] at ho
        obtain ⟨o1, o2, o3, o4, o5⟩ := ho
        have q : ((p1 x p).2.1 && ((p2 x p).2.1 && (p3 x p).2.1)) = true := by
          simp only [Bool.and_eq_true]
          exact ⟨o2, o3, o4⟩
        refine (tree8 _ _ _ _ _ _ _ _ _ _).trans ((if_pos o1).trans ((tree3 _ _ _ _ _).trans ((if_pos q).trans ?_)))
        rw [← w_step k (by omega)]
        by_cases hL : x.2.2.1 = true
        · have ht : told x s.now = x.2.2.2.1 := if_pos hL
          have hnx : next x p s = ⟨w (w (s.now + x.2.2.2.2.1) + x.2.2.2.2.2.1), nread x s.read p, w (s.liars + 1), growL s.m (w ((p1 x p).1 + (p2 x p).1)) p ++ [(sampF x.2.2.2.1 s.read (nread x s.read p) p).1]⟩ := by
            unfold next
            rw [ht, if_pos hL]
          rw [hnx]
          rw [ht] at o5 hsam
          exact (ite_t hL _ _).trans ((go_eval hm 0 0 _ _ _ _ _ (fun _ => hsam) _ _).trans (if_pos o5))
        · have ht : told x s.now = (w (w (s.now + x.2.2.2.2.1) - x.1), w (w (s.now + x.2.2.2.2.1) + x.2.1), ()) := if_neg hL
          have hnx : next x p s = ⟨w (w (s.now + x.2.2.2.2.1) + x.2.2.2.2.2.1), nread x s.read p, s.liars, growL s.m (w ((p1 x p).1 + (p2 x p).1)) p ++ [(sampF (w (w (s.now + x.2.2.2.2.1) - x.1), w (w (s.now + x.2.2.2.2.1) + x.2.1), ()) s.read (nread x s.read p) p).1]⟩ := by
            unfold next
            rw [ht, if_neg hL]
          rw [hnx]
          rw [ht] at o5 hsam
          exact (ite_f (Bool.eq_false_iff.2 hL) _ _).trans ((go_eval hm 0 0 _ _ _ _ _ (fun _ => hsam) _ _).trans (if_pos o5))
      · have hr : run p (x :: r) s = run p r (next x p s) := if_pos ho
        rw [hr]
    · have hr : run p (x :: r) s = none := by
        unfold run
        rw [if_neg ho]
      rw [hr]
      refine rmany_inr ((rZ true okL sampF newF nowF setF growF rRightF hasF partedF cZi1 growL l true s.now s.read p s.liars _ hn hc s.m).trans ?_) (r.length + 1)
      unfold GZ
      dsimp only
      rw [Int.toNat_natCast, hx, ite_t (decide_eq_true (by omega)), chk_eval (inArr_nat hkl)]
      refine (tree8 _ _ _ _ _ _ _ _ _ _).trans ?_
      by_cases o1 : small x = true
      · refine (if_pos o1).trans ((tree3 _ _ _ _ _).trans ?_)
        by_cases q : ((p1 x p).2.1 && ((p2 x p).2.1 && (p3 x p).2.1)) = true
        · have q' := q
          simp only [Bool.and_eq_true] at q'
          have o5 : ¬ rRightF (told x s.now) = true := fun o5 => ho (by
            unfold okV
            rw [o1]
            simp only [Bool.true_and, Bool.and_eq_true]
            exact ⟨q'.1, q'.2.1, q'.2.2, o5⟩)
          refine (if_pos q).trans ?_
          by_cases hL : x.2.2.1 = true
          · have ht : told x s.now = x.2.2.2.1 := if_pos hL
            rw [ht] at o5
            exact (ite_t hL _ _).trans ((go_eval hm 0 0 _ _ _ _ _ (fun h => absurd h o5) _ _).trans (if_neg o5))
          · have ht : told x s.now = (w (w (s.now + x.2.2.2.2.1) - x.1), w (w (s.now + x.2.2.2.2.1) + x.2.1), ()) := if_neg hL
            rw [ht] at o5
            exact (ite_f (Bool.eq_false_iff.2 hL) _ _).trans ((go_eval hm 0 0 _ _ _ _ _ (fun h => absurd h o5) _ _).trans (if_neg o5))
        · exact if_neg q
      · exact if_neg o1

def cZ1 (l : VL) (U : Bool) (now read ppm liars i : Int) (m : TL) : Bool :=
  (decide (l.length ≤ 12) && U) && ((decide (0 ≤ now ∧ now ≤ 1099511627776) && decide (0 ≤ read ∧ read ≤ 1099511627776)) && ((decide (0 ≤ ppm ∧ ppm ≤ 100000) && decide (liars = 0)) && (decide (i = 0) && decide (m.length = 0))))
def zR (l : VL) (now read ppm : Int) : Option Sv := run ppm l ⟨now, read, 0, []⟩
def zB (l : VL) (now read ppm : Int) : Bool := (zR l now read ppm).isNone
def zE (l : VL) (now read ppm : Int) : Out4 := match zR l now read ppm with
  | some e => (e.now, e.read, e.liars, e.m)
  | none => (0, 0, 0, [])
theorem inv0 {now read p : Int} (n0 : 0 ≤ now) (n1 : now ≤ 1099511627776) (r0 : 0 ≤ read) (r1 : read ≤ 1099511627776) : Inv p 0 ⟨now, read, 0, []⟩ :=
  ⟨n0, by dsimp only; omega, r0, by dsimp only; omega, Int.le_refl _, Int.le_refl _, rfl, fun x hx => absurd hx (by simp), by show ((0 : Nat) : Int) - 0 ≤ _; omega⟩
theorem lZ : LoopOK Try.prog (LZ cZ1 zB zE) bZ :=
  rloop_ok (L := LZ cZ1 zB zE) (L' := LZi cZi1 growL) cV9_sound lsZ SZ (F := FZ cZ1 zB zE) (i := 13) (by kernel_rfl) (fun _ => rfl) fun xs hs r h => by
    obtain ⟨l, u1, U, now, read, p, u2, liars, u3, i, u4⟩ := xs
    obtain ⟨hn, hc, m, u5⟩ := hs
    obtain ⟨h1, h2⟩ := Tr.chk_some h
    simp only [cZ1, Bool.and_eq_true, decide_eq_true_eq] at h1
    obtain ⟨⟨a1, a2⟩, ⟨⟨b1, b2⟩, c1, c2⟩, ⟨⟨d1, d2⟩, e1⟩, e2, e3⟩ := h1
    have a2 : U = true := a2
    have e1 : liars = (0 : Int) := e1
    have e2 : i = ((0 : Nat) : Int) := e2
    have e3 : m = [] := List.length_eq_zero_iff.1 e3
    subst a2; subst e1; subst e2; subst e3
    have key := mZ (l := l) d1 d2 a1 hn hc l 0 ⟨now, read, 0, []⟩ rfl (Nat.zero_add _) (inv0 b1 b2 c1 c2)
    refine ⟨_, key.trans ?_⟩
    dsimp only at h2
    unfold zB zE zR at h2
    cases hr : run p l ⟨now, read, 0, []⟩ with
    | none =>
      rw [hr] at h2
      have h2 := (ite_t rfl _ _).symm.trans h2
      exact congrArg some (Tr.ret_some h2)
    | some e =>
      rw [hr] at h2
      have h2 := (ite_f rfl _ _).symm.trans h2
      exact congrArg some (Tr.ret_some h2)

/-! the law -/

theorem now_ok {q t ppm at_ lo hi : Int} (hr : rightF (lo, hi, ()) = true) (ha : 0 ≤ at_) (hq : at_ ≤ q) (hq2 : q ≤ 1152921504606846976) (hp : partF ppm = true) : nowF (ppm, true, at_, (lo, hi, ()), ()) q = (growF (lo, hi, ()) (q - at_) ppm, 0, ()) := by
  unfold nowF
  have hm : mayC (ppm, true, at_, (lo, hi, ()), ()) = true := by
    show (partF ppm && (!true || (readF at_ && rightF (lo, hi, ())))) = true
    rw [hp, (read_iff at_).2 ⟨ha, by omega⟩, hr]; rfl
  have hw : w (q - at_) = q - at_ := w_id (by omega) (by omega)
  rw [if_pos ⟨rfl, hm, (read_iff q).2 ⟨by omega, hq2⟩, by show ¬ q < at_; omega⟩]
  show (growF (lo, hi, ()) (w (q - at_)) ppm, (0 : Int), ()) = _
  rw [hw]
theorem T8_true (l : VL) (n0 n1 n2 n3 n4 : Int) : (T8 true okL newF nowF setF hasF partedF cZ1 zB zE l n0 n1 n2 n3 n4).eval = some (.v .bool true) := by
  unfold T8
  dsimp only
  by_cases g1 : (l.length : Int) = 0
  · rw [ite_t (decide_eq_true g1)]; rfl
  by_cases g2 : (l.length : Int) > 12
  · rw [ite_f (decide_eq_false g1), ite_t (decide_eq_true g2)]; rfl
  rw [ite_f (decide_eq_false g1), ite_f (decide_eq_false g2)]
  by_cases g3 : n0 < 0
  · rw [ite_t (decide_eq_true g3)]; rfl
  rw [ite_f (decide_eq_false g3)]
  by_cases g4 : n0 > 1099511627776
  · rw [ite_t (decide_eq_true g4)]; rfl
  rw [ite_f (decide_eq_false g4)]
  by_cases g5 : n1 < 0
  · rw [ite_t (decide_eq_true g5)]; rfl
  rw [ite_f (decide_eq_false g5)]
  by_cases g6 : n1 > 1099511627776
  · rw [ite_t (decide_eq_true g6)]; rfl
  rw [ite_f (decide_eq_false g6)]
  by_cases g7 : n2 < 0
  · rw [ite_t (decide_eq_true g7)]; rfl
  rw [ite_f (decide_eq_false g7)]
  by_cases g8 : n2 > 100000
  · rw [ite_t (decide_eq_true g8)]; rfl
  rw [ite_f (decide_eq_false g8)]
  by_cases g9 : n3 < 0
  · rw [ite_t (decide_eq_true g9)]; rfl
  rw [ite_f (decide_eq_false g9)]
  by_cases g10 : n3 > 1099511627776
  · rw [ite_t (decide_eq_true g10)]; rfl
  rw [ite_f (decide_eq_false g10)]
  have hpt : partF n2 = true := (part_iff n2).2 ⟨by omega, by omega⟩
  have hnew : newF n2 = (newC n2, 0, ()) := by unfold newF; rw [if_pos hpt]
  rw [hnew]
  dsimp only
  have hc : cZ1 l true n0 n1 n2 0 0 [] = true := by
    unfold cZ1
    rw [decide_eq_true (show l.length ≤ 12 by omega), decide_eq_true (show 0 ≤ n0 ∧ n0 ≤ 1099511627776 by omega), decide_eq_true (show 0 ≤ n1 ∧ n1 ≤ 1099511627776 by omega), decide_eq_true (show 0 ≤ n2 ∧ n2 ≤ 100000 by omega)]
    rfl
  rw [ite_f (by rfl), chk_eval hc]
  have hz : ∀ e, run n2 l ⟨n0, n1, 0, []⟩ = some e → zB l n0 n1 n2 = false ∧ zE l n0 n1 n2 = (e.now, e.read, e.liars, e.m) := fun e he => by
    unfold zB zE zR
    rw [he]; exact ⟨rfl, rfl⟩
  cases hr : run n2 l ⟨n0, n1, 0, []⟩ with
  | none =>
    have : zB l n0 n1 n2 = true := by unfold zB zR; rw [hr]; rfl
    rw [ite_t this]; rfl
  | some e =>
    obtain ⟨z1, z2⟩ := hz e hr
    rw [ite_f z1, z2]
    dsimp only
    have hi := run_inv (by omega : 0 ≤ n2) (by omega : n2 ≤ 100000) l 0 _ e (by omega) (inv0 (by omega) (by omega) (by omega) (by omega)) hr
    rw [Nat.zero_add] at hi
    obtain ⟨now, read, liars, m⟩ := e
    obtain ⟨i0, i1, i2, i3, i4, i5, i6, i7, i8⟩ := hi
    dsimp only at i0 i1 i2 i3 i4 i5 i6 i7 i8 ⊢
    by_cases g11 : liars ≥ (l.length : Int)
    · rw [ite_t (decide_eq_true g11)]; rfl
    rw [ite_f (decide_eq_false g11)]
    have ho : okL m = true := decide_eq_true (by omega)
    have hlen : (pl m).length = m.length := List.length_map _
    have hw : wrong (pl m) = false := by
      unfold wrong
      rw [hlen, decide_eq_false (by omega), decide_eq_false (by omega), Bool.false_or, Bool.false_or, List.any_map]
      refine List.any_eq_false.2 fun x hx => ?_
      show ¬ (!right (ofP x)) = true
      rw [← right_eq, i7 x hx]; simp
    obtain ⟨f0, f1, f2⟩ := fused_of hw i4 (by rw [hlen]; omega) (t := now) (by rw [hlen]; omega)
    obtain ⟨_, _, _, _, m5, ⟨m6, m7⟩, _, _⟩ := more f0
    have hf : fuseT m liars = (toP (fuseF (pl m) liars).1, 0, ()) := by unfold fuseT; rw [f0]
    generalize fuseF (pl m) liars = a at *
    obtain ⟨⟨lo, hi⟩, ae⟩ := a
    replace f1 : lo ≤ now := f1
    replace f2 : now ≤ hi := f2
    replace m5 : lo ≤ hi := m5
    replace m6 : -far ≤ lo := m6
    replace m7 : hi ≤ far := m7
    unfold far at m6 m7
    have hfr : rightF (lo, hi, ()) = true := (right_iff lo hi).2 ⟨by omega, m7, m5⟩
    have hrd : readF read = true := (read_iff read).2 ⟨i2, by omega⟩
    have hset : setF (newC n2) read m liars = ((n2, true, read, (lo, hi, ()), ()), 0, ()) := by
      unfold setF
      rw [if_pos hrd, hf, if_pos rfl]
      rfl
    rw [chk_eval ho, hset]
    dsimp only
    have k0 : knownF (read - read) n2 = true := (known_iff _ _).2 ⟨by omega, by omega, by omega, by omega⟩
    have hs0 := slack_le k0
    obtain ⟨lo', hi', q1, q2, q3⟩ := grow_keeps (d := 0) (t := now) hfr k0 f1 f2 (by omega) (by omega) (by omega)
    rw [now_ok (t := now) hfr i2 (Int.le_refl _) (by omega) hpt, q1, ite_f (by rfl)]
    dsimp only
    have h1 : hasF (lo', hi', ()) now = true := (has_iff lo' hi' now).2 ⟨by omega, by omega⟩
    rw [ite_f (by rfl), ite_f (by rw [h1]; rfl)]
    by_cases g12 : (partedF n3 n4 n2).2.1 = true
    · obtain ⟨b1, b2, b3, b4, b5, b6⟩ := parted_ok (by omega) (by omega) (by omega) (by omega) g12
      have w1 : w (read + (n3 + n4)) = read + (n3 + n4) := w_id (by omega) (by omega)
      have w2 : w (now + n3) = now + n3 := w_id (by omega) (by omega)
      have k1 : knownF (read + (n3 + n4) - read) n2 = true := (known_iff _ _).2 ⟨by omega, by omega, by omega, by omega⟩
      have e1 : read + (n3 + n4) - read = n3 + n4 := by omega
      have hs1 := slack_le k1
      obtain ⟨lo2, hi2, r1, r2, r3⟩ := grow_keeps (d := n3) (t := now) hfr k1 f1 f2 (by rw [e1]; omega) (by rw [e1]; omega) (by omega)
      rw [ite_f (by rw [g12]; rfl), ite_t (by rfl), b1, w1, w2, now_ok (t := now) hfr i2 (by omega) (by omega) hpt, r1]
      dsimp only
      rw [ite_t (by rfl)]
      exact bl_true ((has_iff lo2 hi2 _).2 ⟨r2, r3⟩)
    · rw [ite_t (by rw [Bool.eq_false_iff.2 g12]; rfl)]; rfl

end Go.Proofs.Ytmolcddccjgliaa.Clock

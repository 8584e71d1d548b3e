/- The laws of layer 1 (sha) that need no other digest: however bytes are written in parts, the digest is that of them all; what was written stays. -/
import Derived.Test.YtlkddajnebjlcaaH9
set_option linter.unusedVariables false
set_option maxRecDepth 100000
namespace Go.Proofs.Ytlkddajnebjlcaa.Sha
open Go Vse Go.Proofs Gen

theorem absF_short {s all : List Int} (h : all.length < 64) : absF s all = (s, all) := by
  unfold absF
  rw [Nat.div_eq_of_lt h]
  rfl
theorem absF_long {s all : List Int} (h : 64 ≤ all.length) : absF s all = absF (mixF s (all.take 64)) (all.drop 64) := by
  unfold absF
  have : all.length / 64 = (all.drop 64).length / 64 + 1 := by rw [List.length_drop]; omega
  rw [this, absorb]

theorem absF_append : ∀ (n : Nat) (s y x : List Int), y.length / 64 = n → absF (absF s y).1 ((absF s y).2 ++ x) = absF s (y ++ x)
  | 0, s, y, x, h => by rw [absF_short (s := s) (all := y) (by omega)]
  | n + 1, s, y, x, h => by
    have hy : 64 ≤ y.length := by omega
    rw [absF_long (s := s) hy, absF_append n _ _ x (by rw [List.length_drop]; omega), absF_long (s := s) (all := y ++ x) (by rw [List.length_append]; omega)]
    rw [List.take_append_of_le_length hy, List.drop_append_of_le_length hy]

def hashOf (y : List Int) : Hs := writeF y h0

theorem wu_id {x : Int} (h : 0 ≤ x) (h' : x ≤ 18446744073709551615) : wu x = x := by
  simp [IntKind.wrap, IntKind.signed, IntKind.bits]
  omega

theorem write_chain {y x : List Int} (h : y.length + x.length ≤ 1000000000000) : writeF x (hashOf y) = hashOf (y ++ x) := by
  unfold hashOf writeF h0
  simp only [List.nil_append]
  rw [absF_append _ init y x rfl]
  have : wu (wu (0 + wu (y.length : Int)) + wu (x.length : Int)) = wu (0 + wu ((y ++ x).length : Int)) := by
    rw [List.length_append]
    rw [wu_id (x := (y.length : Int)) (by omega) (by omega), wu_id (x := (x.length : Int)) (by omega) (by omega), wu_id (x := 0 + (y.length : Int)) (by omega) (by omega), wu_id (by omega) (by omega), wu_id (x := ((y.length + x.length : Nat) : Int)) (by omega) (by omega), wu_id (by omega) (by omega)]
    omega
  rw [this]

theorem hash_rest (y : List Int) : (hashOf y).2.1.length < 64 := by
  show (absF h0.1 (h0.2.1 ++ y)).2.length < 64
  rw [abs_rest]
  exact Nat.mod_lt _ (by omega)
theorem hash_restP (y : List Int) : restP (hashOf y) = true := decide_eq_true (by have := hash_rest y; omega)
theorem hash_nil : hashOf [] = h0 := by
  unfold hashOf writeF h0
  rw [absF_short (by simp)]
  rfl
theorem shaF_hash (y : List Int) : shaF y = sumH (hashOf y) := rfl

/-! lists of bytes -/

def tot (l : List (List Int)) : Nat := (l.map List.length).sum
theorem allG_le : ∀ (l : List (List Int)) (o : List Int) (n : Nat), n ≤ (allG l o n).2
  | [], o, n => Nat.le_refl n
  | p :: l, o, n => by
    simp only [allG]
    by_cases h : n < 100000
    · rw [decide_eq_true h]
      have := allG_le l (o ++ p) (n + p.length + 1)
      simp only [cond_true]; omega
    · rw [decide_eq_false h]; exact Nat.le_refl n
theorem allG_all : ∀ (l : List (List Int)) (o : List Int) (n : Nat), (allG l o n).2 < 100000 → (allG l o n).1 = o ++ l.flatten ∧ (allG l o n).2 = n + tot l + l.length
  | [], o, n, _ => ⟨by simp [allG], by simp [allG, tot]⟩
  | p :: l, o, n, h => by
    have hn := allG_le (p :: l) o n
    have hn2 : n < 100000 := by omega
    simp only [allG] at h ⊢
    rw [decide_eq_true hn2] at h ⊢
    simp only [cond_true] at h ⊢
    obtain ⟨h1, h2⟩ := allG_all l (o ++ p) (n + p.length + 1) h
    refine ⟨by rw [h1]; simp, ?_⟩
    rw [h2]
    simp only [tot, List.map_cons, List.sum_cons, List.length_cons]
    omega

/-! ShaParts -/

def cP (l : List (List Int)) (i : Int) (h : Hs) (so : List Int) : Bool :=
  decide (i = 0) && (decide (h.1 = init) && (decide (h.2.1 = []) && (decide (h.2.2.1 = 0) && (decide (so = []) && (decide (tot l ≤ 1000000) && decide (l.length ≤ 1000000))))))
def zP (l : List (List Int)) (h : Hs) : Hs := l.foldl (fun h x => writeF x h) h

theorem zP_hash : ∀ (l : List (List Int)) (y : List Int), y.length + tot l ≤ 1000000000 → zP l (hashOf y) = hashOf (y ++ l.flatten)
  | [], y, _ => by simp [zP]
  | x :: l, y, h => by
    simp only [tot, List.map_cons, List.sum_cons] at h
    have := zP_hash l (y ++ x) (by simp only [tot, List.length_append]; omega)
    simp only [zP, List.foldl_cons] at this ⊢
    rw [write_chain (by omega), this]
    simp

theorem getElem_tot : ∀ (l : List (List Int)) (k : Nat) (h : k < l.length), l[k].length ≤ tot l
  | x :: l, 0, h => by simp [tot]
  | x :: l, k + 1, h => by
    have := getElem_tot l k (by simpa using h)
    simp only [tot, List.map_cons, List.sum_cons, List.getElem_cons_succ] at this ⊢
    omega

theorem tot_drop (l : List (List Int)) (k : Nat) (h : k < l.length) : tot (l.drop k) = l[k].length + tot (l.drop (k + 1)) := by
  rw [List.drop_eq_getElem_cons h]
  simp only [tot, List.map_cons, List.sum_cons]

theorem mP (l : List (List Int)) (hl : l.length ≤ 1000000) (up : Bool) (all : List Int) : ∀ (m k : Nat) (so : List Int), k + m = l.length → so.length + tot (l.drop k) ≤ 1000000000 →
    SP.many (bodyK Try.prog CLF L0 bP) (m + 1) (l, up, all, (), (), (k : Int), ()) (hashOf so, so, ()) = some (.exit 0, encS [3, 4, 6] [.bool, bt, .ptr 0 []] [.box hT] 50 (up, all, (), ()) (zP (l.drop k) (hashOf so), ()))
  | 0, k, so, h, hs => by
    refine rmany_inr ((rP shaF shaP rsumF filledP h0 writeF writeP restP sumH l up all k (hashOf so) so).trans ?_) 0
    rw [List.drop_eq_nil_of_le (by omega)]
    simp only [GP, Tr.eval, decide_eq_false (show ¬ ((k : Int) < (l.length : Int)) by omega)]
    rfl
  | m + 1, k, so, h, hs => by
    have h1 : k < l.length := by omega
    have ht := tot_drop l k h1
    have g1 : l.getD k [] = l[k] := getD_cons h1 []
    have hch : writeF l[k] (hashOf so) = hashOf (so ++ l[k]) := write_chain (by omega)
    refine (rmany_inl (d := ((l, up, all, (), (), ((k + 1 : Nat) : Int), ()), (hashOf (so ++ l[k]), so ++ l[k], ()))) ((rP shaF shaP rsumF filledP h0 writeF writeP restP sumH l up all k (hashOf so) so).trans ?_) (m + 1)).trans
      ((mP l hl up all m (k + 1) (so ++ l[k]) (by omega) (by rw [List.length_append]; omega)).trans ?_)
    · have w0 : w ((k : Int) + 1) = ((k + 1 : Nat) : Int) := (w_id (by omega) (by omega)).trans (by omega)
      have e1 : writeP l[k] (hashOf so) = true := decide_eq_true (by have := hash_rest so; omega)
      have e2 : Vse.room (so.length + l[k].length) 1 = true := by simp only [Vse.room, decide_eq_true_eq]; omega
      have e3 : shaP (so ++ l[k]) = true := decide_eq_true (by rw [List.length_append]; omega)
      have e4 : eqA (sumH (hashOf (so ++ l[k]))) (shaF (so ++ l[k])) = true := by rw [shaF_hash]; exact eqA_self _
      unfold GP
      simp only [Int.toNat_natCast, g1, hch]
      rw [ite_t (decide_eq_true (show ((k : Int) < (l.length : Int)) by omega)), chk_eval (inArr_nat h1), chk_eval e1, chk_eval (inArr_nat h1), chk_eval e2, chk_eval (hash_restP _), chk_eval e3, ite_f (by rw [e4]; rfl), w0]
      rfl
    · rw [List.drop_eq_getElem_cons h1]
      simp only [zP, List.foldl_cons, hch]

theorem lP : LoopOK Try.prog (LP cP zP) bP :=
  rloop_ok (L := LP cP zP) (L' := L0) cL_sound (loopsOK_of (by kernel_rfl)) SP (F := FP cP zP) (i := 8) (by kernel_rfl) (fun _ => rfl) fun xs hs r h => by
    obtain ⟨l, up, all, u1, u2, i, u3⟩ := xs
    obtain ⟨hh, so, u4⟩ := hs
    obtain ⟨h1, h2⟩ := Tr.chk_some h
    obtain ⟨s, rest, many, u5⟩ := hh
    simp only [cP, Bool.and_eq_true, decide_eq_true_eq] at h1
    obtain ⟨e1, e2, e3, e4, e5, e6, e7⟩ := h1
    have e1 : i = ((0 : Nat) : Int) := e1
    subst e1; subst e2; subst e3; subst e4; subst e5
    have hn : hashOf [] = (init, [], (0 : Int), ()) := hash_nil
    have := mP l e7 up all (List.length (α := List Int) l) 0 [] (by omega) (by rw [List.drop_zero]; simp; omega)
    rw [hn, List.drop_zero] at this
    exact ⟨_, this.trans (congrArg some (Tr.ret_some h2))⟩

theorem T4_true {l : List (List Int)} (hp : preAll l = true) : (T4 shaF shaP h0 restP sumH cP zP l).eval = some (.v .bool true) := by
  unfold T4
  rw [chk_eval hp]
  by_cases hz : (allI l).2.1 > 1000
  · rw [ite_t (decide_eq_true hz)]; rfl
  rw [ite_f (decide_eq_false hz)]
  have hz2 : (allG l [] 0).2 ≤ 1000 := by
    have : ¬ (((allG l [] 0).2 : Nat) : Int) > 1000 := hz
    omega
  obtain ⟨h1, h2⟩ := allG_all l [] 0 (by omega)
  have ha : (allI l).1 = l.flatten := h1
  have e1 : cP l 0 h0 [] = true := by
    simp only [cP, h0, Bool.and_eq_true, decide_eq_true_eq, true_and]
    omega
  have hz3 : zP l h0 = hashOf l.flatten := by
    have := zP_hash l [] (by simp; omega)
    rwa [hash_nil, List.nil_append] at this
  have hlen : l.flatten.length = tot l := by simp [tot, List.length_flatten]
  rw [chk_eval e1, hz3, chk_eval (hash_restP _), ha, chk_eval (b := shaP l.flatten) (decide_eq_true (by rw [hlen]; omega)), shaF_hash, eqA_self]
  rfl

theorem T5_true {b : List Int} {n : Int} : (T5 shaF shaP h0 writeF writeP restP sumH b n).eval = some (.v .bool true) := by
  unfold T5
  simp only [List.nil_append]
  by_cases h1 : (b.length : Int) > 400
  · rw [ite_t (decide_eq_true h1)]; rfl
  rw [ite_f (decide_eq_false h1)]
  by_cases h2 : n < 0
  · rw [ite_t (decide_eq_true h2)]; rfl
  rw [ite_f (decide_eq_false h2)]
  by_cases h3 : n ≥ (b.length : Int)
  · rw [ite_t (decide_eq_true h3)]; rfl
  rw [ite_f (decide_eq_false h3)]
  have i1 : inArr n b.length = true := by simp only [inArr, Bool.and_eq_true, decide_eq_true_eq]; omega
  have e1 : Vse.room (([] : List Int).length + b.length) 1 = true := by simp only [Vse.room, decide_eq_true_eq, List.length_nil]; omega
  have e2 : shaP b = true := decide_eq_true (by omega)
  have e3 : writeP b h0 = true := decide_eq_true (by show 0 + b.length ≤ _; omega)
  have e4 : sameI b b = true := by simp [sameI]
  rw [chk_eval e1, chk_eval e2, chk_eval e3, chk_eval i1, chk_eval i1, ite_t e4, chk_eval (b := restP (writeF b h0)) (hash_restP b), shaF_hash]
  unfold hashOf
  rw [eqA_self]
  rfl

theorem preAll_sz {l : List (List Int)} (h : lt.sz l) : preAll l = true := List.all_eq_true.2 fun p hp => by
  have := (h.2 p hp).1
  simpa [short, reachBytes] using this

end Go.Proofs.Ytlkddajnebjlcaa.Sha

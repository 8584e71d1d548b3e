/- A table (layer 11, cache): loops end as they should; what the functions give. -/
import Derived.Test.YtfimgngiaggplaaX5
set_option linter.unusedVariables false
set_option maxRecDepth 100000
namespace Go.Proofs.Ytfimgngiaggplaa.Cache
open Go Vse Go.Proofs Gen

theorem getD_of {α : Type} {l : List α} {k : Nat} (h : k < l.length) (d : α) : l.getD k d = l[k] := by
  rw [List.getD_eq_getElem?_getD, List.getElem?_eq_getElem h]; rfl
theorem inArr_of {k n : Nat} (h : k < n) : inArr (k : Int) n = true := by simp [inArr]; omega
theorem w_succ {k n : Nat} (h : k < n) (hn : n ≤ 1000) : w ((k : Int) + 1) = ((k + 1 : Nat) : Int) := (w_id (by omega) (by omega)).trans (by omega)

/-! where a value is -/

abbrev isIn (K : Ty) (l : List K.den) (x : K.den) : Bool := l.any fun y => eqT K x y
theorem idxF_in {K : Ty} {l : List K.den} {x : K.den} (h : isIn K l x = true) : idxF K l x = ((l.findIdx fun y => eqT K x y : Nat) : Int) := if_pos h
theorem idxF_out {K : Ty} {l : List K.den} {x : K.den} (h : isIn K l x = false) : idxF K l x = -1 := if_neg (by rw [show (l.any fun y => eqT K x y) = false from h]; simp)

theorem mIx {K : Ty} {body : St → Tr (Ex × St)} (r : ∀ l x n i, ((SIx K).round body (l, x, n, i, ()) ()).eval = (GIx K l x n i).eval) (l : List K.den) (x : K.den) (hl : l.length ≤ 1000) : ∀ (m k : Nat), k + m = l.length →
    (SIx K).many body (m + 1) (l, x, (l.length : Int), (k : Int), ()) () = if isIn K (l.drop k) x = true then some (.ret, encS [4] [i64] [] 19 (((k + (l.drop k).findIdx fun y => eqT K x y : Nat) : Int), ()) ()) else some (.exit 0, encS [] [] [] 19 () ())
  | 0, k, h => by
    have e1 : l.drop k = [] := List.drop_eq_nil_of_le (by omega)
    rw [e1, if_neg (by simp [isIn])]
    refine rmany_inr ((r l x _ _).trans ?_) 0
    unfold GIx
    rw [ite_f (decide_eq_false (by omega))]
    rfl
  | m + 1, k, h => by
    have h1 : k < l.length := by omega
    have e2 : (l.drop k) = l[k] :: l.drop (k + 1) := List.drop_eq_getElem_cons h1
    cases hq : eqT K x l[k] with
    | true =>
      have e3 : isIn K (l.drop k) x = true := by simp only [isIn, e2, List.any_cons, hq, Bool.true_or]
      have e4 : ((l.drop k).findIdx fun y => eqT K x y) = 0 := by rw [e2, List.findIdx_cons, hq]; rfl
      rw [if_pos e3, e4]
      refine rmany_inr ((r l x _ _).trans ?_) _
      unfold GIx
      rw [Int.toNat_natCast, ite_t (decide_eq_true (by omega)), chk_eval (inArr_of h1), ite_t (by rw [getD_of h1]; exact hq)]
      rfl
    | false =>
      have e3 : isIn K (l.drop k) x = isIn K (l.drop (k + 1)) x := by simp only [isIn, e2, List.any_cons, hq, Bool.false_or]
      have e4 : k + ((l.drop k).findIdx fun y => eqT K x y) = k + 1 + (l.drop (k + 1)).findIdx fun y => eqT K x y := by rw [e2, List.findIdx_cons, hq]; simp only [cond_false]; omega
      rw [e3, e4]
      refine (rmany_inl (d := ((l, x, (l.length : Int), ((k + 1 : Nat) : Int), ()), ())) ((r l x _ _).trans ?_) (m + 1)).trans (mIx r l x hl m (k + 1) (by omega))
      unfold GIx
      rw [Int.toNat_natCast, ite_t (decide_eq_true (by omega)), chk_eval (inArr_of h1), ite_f (by rw [getD_of h1]; exact hq), w_succ h1 hl]
      rfl

def cIx (K : Ty) (l : List K.den) (n i : Int) : Bool := decide (l.length ≤ 1000) && (decide (n = (l.length : Int)) && decide (i = 0))
theorem lIx {K : Ty} {b : Code} (hb : firstReg b = some 2) (hl : noLoops b = true) (r : ∀ l x n i, ((SIx K).round (bodyK Try.prog (ctx []) L0 b) (l, x, n, i, ()) ()).eval = (GIx K l x n i).eval) : LoopOK Try.prog (LIx K (cIx K) (isIn K) (idxF K)) b :=
  rloop_ok (L := LIx K (cIx K) (isIn K) (idxF K)) (L' := L0) nil_sound (loopsOK_of hl) (SIx K) (F := FIx K (cIx K) (isIn K) (idxF K)) (i := 2) hb (fun _ => rfl) fun xs hs q h => by
    obtain ⟨l, x, n, i, u⟩ := xs
    obtain ⟨h1, h2⟩ := Tr.chk_some h
    simp only [cIx, Bool.and_eq_true, decide_eq_true_eq] at h1
    obtain ⟨hl, e1, e2⟩ := h1
    have e1 : n = (l.length : Int) := e1
    have e2 : i = ((0 : Nat) : Int) := e2
    subst e1; subst e2
    refine ⟨l.length + 1, ?_⟩
    have := mIx r l x hl l.length 0 (by omega)
    rw [List.drop_zero, Nat.zero_add] at this
    refine this.trans ?_
    rcases Tr.ite_some h2 with ⟨hx, h3⟩ | ⟨hx, h3⟩
    · have hx : isIn K l x = true := hx
      have := Tr.ret_some h3
      subst this
      rw [if_pos hx]
      simp only [idxF_in hx]
    · have hx : isIn K l x = false := hx
      have := Tr.ret_some h3
      subst this
      rw [if_neg (by rw [hx]; simp)]
theorem lIi : LoopOK Try.prog (LIx i64 (cIx i64) (isIn i64) (idxF i64)) bIi := lIx (by kernel_rfl) (by kernel_rfl) rIi
theorem lIs : LoopOK Try.prog (LIx .str (cIx .str) (isIn .str) (idxF .str)) bIs := lIx (by kernel_rfl) (by kernel_rfl) rIs
def okL {α : Type} (l : List α) : Bool := decide (l.length ≤ 1000)
theorem TIx_eq (K : Ty) (l : List K.den) (x : K.den) (h : okL l = true) : (TIx K (cIx K) (isIn K) (idxF K) l x).eval = some (.v i64 (idxF K l x)) := by
  have h : l.length ≤ 1000 := of_decide_eq_true h
  unfold TIx
  rw [chk_eval (by simp [cIx, h])]
  cases hq : isIn K l x with
  | true => rw [ite_t rfl]; rfl
  | false => rw [ite_f rfl, idxF_out hq]; rfl
theorem okIi : CSound Try.prog 71 (sIx i64 (fun l _ => okL l) (idxF i64)) ∧ CLocal (sIx i64 (fun l _ => okL l) (idxF i64)) :=
  slpE1 (L := LIx i64 (cIx i64) (isIn i64) (idxF i64)) nil_sound Try.func71 (by kernel_rfl) (loops1 (by kernel_rfl) lIi) fun xs hx hp => (tIi _ _ _ xs.1 xs.2.1).trans (TIx_eq i64 xs.1 xs.2.1 hp)
theorem okIs : CSound Try.prog 74 (sIx .str (fun l _ => okL l) (idxF .str)) ∧ CLocal (sIx .str (fun l _ => okL l) (idxF .str)) :=
  slpE1 (L := LIx .str (cIx .str) (isIn .str) (idxF .str)) nil_sound Try.func74 (by kernel_rfl) (loops1 (by kernel_rfl) lIs) fun xs hx hp => (tIs _ _ _ xs.1 xs.2.1).trans (TIx_eq .str xs.1 xs.2.1 hp)

/-! a key's place, in the document's table -/

theorem mAt (n : Int) (v : List ByteArray) (l : List Int) (x : Int) (hl : l.length ≤ 1000) : ∀ (m k : Nat), k + m = l.length →
    SAt.many (bodyK Try.prog (ctx []) L0 bAt) (m + 1) ((), x, (k : Int), ()) ((n, (), (), ()), l, v, ()) = if isIn i64 (l.drop k) x = true then some (.ret, encS [4] [i64] (rE 0 0) 25 (((k + (l.drop k).findIdx fun y => eqT i64 x y : Nat) : Int), ()) ((n, (), (), ()), l, v, ())) else some (.exit 0, encS [] [] (rE 0 0) 25 () ((n, (), (), ()), l, v, ()))
  | 0, k, h => by
    have e1 : l.drop k = [] := List.drop_eq_nil_of_le (by omega)
    rw [e1, if_neg (by simp [isIn])]
    refine rmany_inr ((rAt n l v x _).trans ?_) 0
    unfold GAt
    rw [ite_f (decide_eq_false (by omega))]
    rfl
  | m + 1, k, h => by
    have h1 : k < l.length := by omega
    have e2 : (l.drop k) = l[k] :: l.drop (k + 1) := List.drop_eq_getElem_cons h1
    have e5 : (l.getD k 0 == x) = eqT i64 x l[k] := by
      rw [getD_of h1]
      show decide (l[k] = x) = decide (x = l[k])
      exact decide_eq_decide.2 ⟨Eq.symm, Eq.symm⟩
    cases hq : eqT i64 x l[k] with
    | true =>
      have e3 : isIn i64 (l.drop k) x = true := by simp only [isIn, e2, List.any_cons, hq, Bool.true_or]
      have e4 : ((l.drop k).findIdx fun y => eqT i64 x y) = 0 := by rw [e2, List.findIdx_cons, hq]; rfl
      rw [if_pos e3, e4]
      refine rmany_inr ((rAt n l v x _).trans ?_) _
      unfold GAt
      rw [Int.toNat_natCast, ite_t (decide_eq_true (by omega)), chk_eval (inArr_of h1), ite_t (e5.trans hq)]
      rfl
    | false =>
      have e3 : isIn i64 (l.drop k) x = isIn i64 (l.drop (k + 1)) x := by simp only [isIn, e2, List.any_cons, hq, Bool.false_or]
      have e4 : k + ((l.drop k).findIdx fun y => eqT i64 x y) = k + 1 + (l.drop (k + 1)).findIdx fun y => eqT i64 x y := by rw [e2, List.findIdx_cons, hq]; simp only [cond_false]; omega
      rw [e3, e4]
      refine (rmany_inl (d := (((), x, ((k + 1 : Nat) : Int), ()), ((n, (), (), ()), l, v, ()))) ((rAt n l v x _).trans ?_) (m + 1)).trans (mAt n v l x hl m (k + 1) (by omega))
      unfold GAt
      rw [Int.toNat_natCast, ite_t (decide_eq_true (by omega)), chk_eval (inArr_of h1), ite_f (e5.trans hq), w_succ h1 hl]
      rfl
def cAt (l : List Int) (i : Int) : Bool := decide (l.length ≤ 1000) && decide (i = 0)
theorem lAt : LoopOK Try.prog (LAt cAt (isIn i64) (idxF i64)) bAt :=
  rloop_ok (L := LAt cAt (isIn i64) (idxF i64)) (L' := L0) nil_sound (loopsOK_of (by kernel_rfl)) SAt (F := FAt cAt (isIn i64) (idxF i64)) (i := 2) (by kernel_rfl) (fun _ => rfl) fun xs hs q h => by
    obtain ⟨u, x, i, u'⟩ := xs
    obtain ⟨⟨n, u1, u2, u3⟩, l, v, u4⟩ := hs
    obtain ⟨h1, h2⟩ := Tr.chk_some h
    simp only [cAt, Bool.and_eq_true, decide_eq_true_eq] at h1
    obtain ⟨hl, e2⟩ := h1
    have e2 : i = ((0 : Nat) : Int) := e2
    subst e2
    refine ⟨List.length (α := Int) l + 1, ?_⟩
    have := mAt n v l x hl (List.length (α := Int) l) 0 (by omega)
    rw [List.drop_zero, Nat.zero_add] at this
    refine this.trans ?_
    rcases Tr.ite_some h2 with ⟨hx, h3⟩ | ⟨hx, h3⟩
    · have hx : isIn i64 l x = true := hx
      have := Tr.ret_some h3
      subst this
      rw [if_pos hx]
      simp only [idxF_in hx]
    · have hx : isIn i64 l x = false := hx
      have := Tr.ret_some h3
      subst this
      rw [if_neg (by rw [hx]; simp)]
theorem okAt : CSound Try.prog 44 (sAt okL (idxF i64)) ∧ CLocal (sAt okL (idxF i64)) :=
  pos_sound (L := LAt cAt (isIn i64) (idxF i64)) nil_sound Try.func44 (by kernel_rfl) (loops1 (by kernel_rfl) lAt) fun xs hs hx hh hp => by
    obtain ⟨u, x, u'⟩ := xs
    obtain ⟨⟨n, u1, u2, u3⟩, l, v, u4⟩ := hs
    have h : List.length (α := Int) l ≤ 1000 := of_decide_eq_true hp
    refine (tAt _ _ _ n l v x).trans ?_
    rw [chk_eval (by simp [cAt, h])]
    cases hq : isIn i64 l x with
    | true => rw [ite_t rfl]; rfl
    | false =>
      rw [ite_f rfl]
      show some _ = some _
      have := idxF_out hq
      simp only [this]

/-! are numbers the same? -/

theorem mIn (a b : List Int) (hab : a.length = b.length) (hl : a.length ≤ 1000) : ∀ (m k : Nat), k + m = a.length →
    SIn.many (bodyK Try.prog (ctx []) L0 bIn) (m + 1) (a, b, (k : Int), ()) () = if a.drop k = b.drop k then some (.exit 0, encS [] [] [] 26 () ()) else some (.ret, encS [4] [.bool] [] 26 (false, ()) ())
  | 0, k, h => by
    have e1 : a.drop k = [] := List.drop_eq_nil_of_le (by omega)
    have e2 : b.drop k = [] := List.drop_eq_nil_of_le (by omega)
    rw [e1, e2, if_pos rfl]
    refine rmany_inr ((rIn a b _).trans ?_) 0
    unfold GIn
    rw [ite_f (decide_eq_false (by omega))]
    rfl
  | m + 1, k, h => by
    have h1 : k < a.length := by omega
    have h2 : k < b.length := by omega
    have hiff : a.drop k = b.drop k ↔ a[k] = b[k] ∧ a.drop (k + 1) = b.drop (k + 1) := by
      rw [List.drop_eq_getElem_cons h1, List.drop_eq_getElem_cons h2, List.cons.injEq]
    by_cases hq : a[k] = b[k]
    · simp only [hiff, hq, true_and]
      refine (rmany_inl (d := ((a, b, ((k + 1 : Nat) : Int), ()), ())) ((rIn a b _).trans ?_) (m + 1)).trans (mIn a b hab hl m (k + 1) (by omega))
      unfold GIn
      rw [Int.toNat_natCast, ite_t (decide_eq_true (by omega)), chk_eval (inArr_of h1), chk_eval (inArr_of h2), ite_f (by rw [getD_of h1, getD_of h2, hq]; simp), w_succ h1 hl]
      rfl
    · rw [if_neg (fun h => hq (hiff.1 h).1)]
      refine rmany_inr ((rIn a b _).trans ?_) _
      unfold GIn
      rw [Int.toNat_natCast, ite_t (decide_eq_true (by omega)), chk_eval (inArr_of h1), chk_eval (inArr_of h2), ite_t (by rw [getD_of h1, getD_of h2]; simpa using hq)]
      rfl
def cIn (a b : List Int) (i : Int) : Bool := decide (a.length = b.length) && (decide (a.length ≤ 1000) && decide (i = 0))
def sameL (a b : List Int) : Bool := decide (a = b)
theorem lIn : LoopOK Try.prog (LIn cIn sameL) bIn :=
  rloop_ok (L := LIn cIn sameL) (L' := L0) nil_sound (loopsOK_of (by kernel_rfl)) SIn (F := FIn cIn sameL) (i := 4) (by kernel_rfl) (fun _ => rfl) fun xs hs q h => by
    obtain ⟨a, b, i, u⟩ := xs
    obtain ⟨h1, h2⟩ := Tr.chk_some h
    simp only [cIn, Bool.and_eq_true, decide_eq_true_eq] at h1
    obtain ⟨hab, hl, e2⟩ := h1
    have e2 : i = ((0 : Nat) : Int) := e2
    subst e2
    refine ⟨List.length (α := Int) a + 1, ?_⟩
    have := mIn a b hab hl (List.length (α := Int) a) 0 (by omega)
    rw [List.drop_zero, List.drop_zero] at this
    refine this.trans ?_
    rcases Tr.ite_some h2 with ⟨hx, h3⟩ | ⟨hx, h3⟩
    · have := Tr.ret_some h3
      subst this
      rw [if_pos (of_decide_eq_true hx)]
    · have := Tr.ret_some h3
      subst this
      rw [if_neg (of_decide_eq_false hx)]
def okIn (a b : List Int) : Bool := okL a
theorem ok_Ints : CSound Try.prog 45 (sIn okIn sameL) ∧ CLocal (sIn okIn sameL) :=
  slpE1 (L := LIn cIn sameL) nil_sound Try.func45 (by kernel_rfl) (loops1 (by kernel_rfl) lIn) fun xs hx hp => by
    obtain ⟨a, b, u⟩ := xs
    have hl : List.length (α := Int) a ≤ 1000 := of_decide_eq_true hp
    refine (tIn _ _ a b).trans ?_
    unfold TIn
    by_cases h1 : List.length (α := Int) a = List.length (α := Int) b
    · rw [ite_f (by simp [h1]), chk_eval (by simp [cIn, ← h1, hl])]
      cases hq : sameL a b with
      | true => rw [ite_t rfl]; rfl
      | false => rw [ite_f rfl]; rfl
    · rw [ite_t (by simp; omega)]
      have : sameL a b = false := decide_eq_false fun h => h1 (congrArg _ h)
      exact congrArg (fun z => some (AV.v .bool z)) this.symm
end Go.Proofs.Ytfimgngiaggplaa.Cache

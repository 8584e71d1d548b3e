/- A block mixed in (layer 1, sha): what comes out. -/
import Derived.Test.YtlkddajnebjlcaaH2
set_option linter.unusedVariables false
set_option maxRecDepth 100000
namespace Go.Proofs.Ytlkddajnebjlcaa.Sha
open Go Vse Go.Proofs Gen

theorem inArrK64 {i : Int} {n : Nat} (hn : (n : Int) ≤ 9223372036854775807) (h0 : 0 ≤ i) (h1 : i < (n : Int)) : inArrK .i64 i n = true := by
  have e : (decide (0 ≤ IntKind.i64.min) && decide (IntKind.i64.max < (n : Int))) = false := by
    have : decide (0 ≤ IntKind.i64.min) = false := by decide
    rw [this]; rfl
  unfold inArrK
  rw [e]
  simp only [inArr, Bool.and_eq_true, decide_eq_true_eq]
  exact ⟨h0, h1⟩

theorem getD_cons {α : Type} {l : List α} {k : Nat} (h : k < l.length) (d : α) : l.getD k d = l[k] := by rw [List.getD_eq_getElem?_getD, List.getElem?_eq_getElem h]; rfl

abbrev CM : Ctx := ctx (cM rotF turnF consts)

theorem mM2 (b : List Int) (k i : Int) (q : List Int) (s r : List Int) (hq : (q.length : Int) ≤ 9223372036854775807) (hk : inArrK .i64 k 64 = true) : ∀ (m j : Nat) (v : List Int), j + m = q.length →
    SM2.many (bodyK Try.prog CM L0 bM2) (m + 1) (b, (), (), (), k, i, q, (q.length : Int), (j : Int), ()) (s, r, v, ()) = some (.exit 2, encS [1, 2, 4, 5, 20] [bs, .ptr 0 [], .ptr 1 [], .ptr 2 [], i64] eM 157 (b, (), (), (), i, ()) (s, r, put4 v k (q.drop j), ()))
  | 0, j, v, h => by
    rw [List.drop_eq_nil_of_le (by omega)]
    refine rmany_inr ((rM2 rotF turnF consts b k i q _ j s r v).trans ?_) 0
    simp only [GM2, Tr.eval, decide_eq_false (show ¬ ((j : Int) < (q.length : Int)) by omega)]
    rfl
  | m + 1, j, v, h => by
    have h1 : j < q.length := by omega
    have i1 : inArr (j : Int) q.length = true := by simp [inArr]; omega
    rw [List.drop_eq_getElem_cons h1]
    refine (rmany_inl (d := ((b, (), (), (), k, i, q, (q.length : Int), ((j + 1 : Nat) : Int), ()), (s, r, put1 v k q[j], ()))) ((rM2 rotF turnF consts b k i q _ j s r v).trans ?_) (m + 1)).trans (mM2 b k i q s r hq hk m (j + 1) _ (by omega))
    simp only [GM2, Tr.eval, Tr.chk, decide_eq_true (show ((j : Int) < (q.length : Int)) by omega), i1, hk, Int.toNat_natCast, getD_cons h1]
    rw [w_id (by omega) (by omega)]
    rfl

theorem lM2 : LoopOK Try.prog (LM2 cM2 put4) bM2 :=
  rloop_ok (L := LM2 cM2 put4) (L' := L0) cM_sound (loopsOK_of (by kernel_rfl)) SM2 (F := FM2 cM2 put4) (i := 7) (by kernel_rfl) (fun _ => rfl) fun xs hs r h => by
    obtain ⟨b, u1, u2, u3, k, i, q, n, j, u4⟩ := xs
    obtain ⟨s, r', v, u5⟩ := hs
    obtain ⟨h1, h2⟩ := Tr.chk_some h
    simp only [cM2, Bool.and_eq_true, decide_eq_true_eq] at h1
    obtain ⟨e1, e2, e3, e4⟩ := h1
    have e1 : j = ((0 : Nat) : Int) := e1
    have e2 : n = ((List.length (α := Int) q : Nat) : Int) := by rw [e3]; exact e2
    subst e1; subst e2
    exact ⟨_, (mM2 b k i q s r' (by rw [e3]; decide) e4 (List.length (α := Int) q) 0 v (by omega)).trans (congrArg some (Tr.ret_some h2))⟩

/-! sixty-four numbers -/

def part4 (b : List Int) (i : Nat) : List Int := (b.take (4 * i + 4)).drop (4 * i)
def schedL (t : Tu) (b : List Int) : Nat → Nat → List Int → List Int
  | _, 0, v => v
  | i, m + 1, v => schedL t b (i + 1) m (if i < 16 then put4 v (i : Int) (part4 b i) else step2 t v (i : Int))
def schedF (b v : List Int) : List Int := schedL turnF b 0 64 v

theorem mM1 (b : List Int) (hb : b.length = 64) (s r : List Int) : ∀ (m i : Nat) (v : List Int), i + m = 64 →
    SM1.many (bodyK Try.prog CM (LM2 cM2 put4) bM1) (m + 1) (b, (), (), (), (i : Int), ()) (s, r, v, ()) = some (.exit 0, encS [2, 4, 5] [.ptr 0 [], .ptr 1 [], .ptr 2 []] eM 157 ((), (), (), ()) (s, r, schedL turnF b i m v, ()))
  | 0, i, v, h => by
    refine rmany_inr ((rM1 rotF turnF consts cM2 put4 b i s r v).trans ?_) 0
    simp only [GM1, Tr.eval, decide_eq_false (show ¬ ((i : Int) < 64) by omega)]
    rfl
  | m + 1, i, v, h => by
    refine (rmany_inl (d := ((b, (), (), (), ((i + 1 : Nat) : Int), ()), (s, r, (if i < 16 then put4 v (i : Int) (part4 b i) else step2 turnF v (i : Int)), ()))) ((rM1 rotF turnF consts cM2 put4 b i s r v).trans ?_) (m + 1)).trans (mM1 b hb s r m (i + 1) _ (by omega))
    have w0 : w ((i : Int) + 1) = ((i + 1 : Nat) : Int) := (w_id (by omega) (by omega)).trans (by omega)
    by_cases hi : i < 16
    · have w1 : w (4 * (i : Int)) = ((4 * i : Nat) : Int) := (w_id (by omega) (by omega)).trans (by omega)
      have w2 : w (((4 * i : Nat) : Int) + 4) = ((4 * i + 4 : Nat) : Int) := (w_id (by omega) (by omega)).trans (by omega)
      have hlen : ((b.take (4 * i + 4)).drop (4 * i)).length = 4 := by rw [List.length_drop, List.length_take]; omega
      have hc : (decide (0 ≤ ((4 * i : Nat) : Int)) && (decide (((4 * i : Nat) : Int) ≤ ((4 * i + 4 : Nat) : Int)) && decide (((4 * i + 4 : Nat) : Int) ≤ (b.length : Int)))) = true := by
        simp only [Bool.and_eq_true, decide_eq_true_eq]; omega
      have hc2 : cM2 (i : Int) ((b.take (4 * i + 4)).drop (4 * i)) (((b.take (4 * i + 4)).drop (4 * i)).length : Int) 0 = true := by
        simp only [cM2, hlen, inArrK64 (i := (i : Int)) (n := 64) (by omega) (by omega) (by omega)]; decide
      simp only [GM1, w1, w2, Int.toNat_natCast, Tr.eval, Tr.chk, decide_eq_true (show ((i : Int) < 64) by omega), decide_eq_true (show ((i : Int) < 16) by omega), hc, hc2, w0, if_pos hi]
      rfl
    · have j1 : w ((i : Int) - 15) = ((i - 15 : Nat) : Int) := (w_id (by omega) (by omega)).trans (by omega)
      have j2 : w ((i : Int) - 2) = ((i - 2 : Nat) : Int) := (w_id (by omega) (by omega)).trans (by omega)
      have j3 : w ((i : Int) - 16) = ((i - 16 : Nat) : Int) := (w_id (by omega) (by omega)).trans (by omega)
      have j4 : w ((i : Int) - 7) = ((i - 7 : Nat) : Int) := (w_id (by omega) (by omega)).trans (by omega)
      have ok : ∀ k : Nat, k < 64 → inArrK .i64 (k : Int) 64 = true := fun k hk => inArrK64 (by omega) (by omega) (by omega)
      simp only [GM1, Tr.eval, Tr.chk, decide_eq_true (show ((i : Int) < 64) by omega), decide_eq_false (show ¬ ((i : Int) < 16) by omega), j1, j2, j3, j4, ok (i - 15) (by omega), ok (i - 2) (by omega), ok (i - 16) (by omega), ok (i - 7) (by omega), ok i (by omega), w0, if_neg hi]

def cM1 (b : List Int) (i : Int) : Bool := decide (i = 0) && decide (b.length = 64)
def FM1 (c : List Int → Int → Bool) (S : List Int → List Int → List Int) (xs : HL SM1.Ts) (hs : HD SM1.Es) : Tr (Ex × St) :=
  .chk (c xs.1 xs.2.2.2.2.1) (.ret (.exit 0, encS [2, 4, 5] [.ptr 0 [], .ptr 1 [], .ptr 2 []] eM 157 ((), (), (), ()) (hs.1, hs.2.1, S xs.1 hs.2.2.1, ())))
def roundsL (t : Tu) (r : Int → Int → Int) (ks v : List Int) : Nat → Nat → List Int → List Int
  | _, 0, l => l
  | i, m + 1, l => roundsL t r ks v (i + 1) m (round1 r t l (ks.getD i 0) (v.getD i 0))
def roundsF (ks v l : List Int) : List Int := roundsL turnF rotF ks v 0 64 l
def FM3 (S : List Int → List Int → List Int → List Int) (xs : HL SM3.Ts) (hs : HD SM3.Es) : Tr (Ex × St) :=
  .chk (decide (xs.2.2.2.2.2.1 = (0 : Int))) (.ret (.exit 4, encS [2, 4, 11] [.ptr 0 [], .ptr 1 [], .ptr 3 []] [.box a8, .box a8, .dead, .box a8] 157 ((), (), (), ()) (hs.1, hs.2.1, S xs.2.2.2.2.1 hs.2.2.1 hs.2.2.2.1, ())))
def addL (l : List Int) : Nat → Nat → List Int → List Int
  | _, 0, s => s
  | i, m + 1, s => addL l (i + 1) m (s.set i (w3 (s.getD i 0 + l.getD i 0)))
def addF (l s : List Int) : List Int := addL l 0 8 s
def FM4 (S : List Int → List Int → List Int) (xs : HL SM4.Ts) (hs : HD SM4.Es) : Tr (Ex × St) :=
  .chk (decide (xs.2.2.2.1 = (0 : Int))) (.ret (.exit 6, encS [2, 4] [.ptr 0 [], .ptr 1 []] [.box a8, .box a8, .dead, .dead] 157 ((), (), ()) (S xs.2.2.1 hs.1, hs.2.1, ())))

def LM (c2 : Int → List Int → Int → Int → Bool) (p2 : List Int → Int → List Int → List Int) (c1 : List Int → Int → Bool) (S1 : List Int → List Int → List Int) (S3 : List Int → List Int → List Int → List Int) (S4 : List Int → List Int → List Int) : Loops := fun j st =>
  if j = 7 then SM2.fn (FM2 c2 p2) st else if j = 3 then SM1.fn (FM1 c1 S1) st else if j = 16 then SM3.fn (FM3 S3) st else if j = 25 then SM4.fn (FM4 S4) st else .fail
abbrev LMF : Loops := LM cM2 put4 cM1 schedF roundsF addF

theorem lM1 : LoopOK Try.prog LMF bM1 :=
  rloop_ok (L := LMF) (L' := LM2 cM2 put4) cM_sound (loopsOK_all fun b hb => by
    have : loopsOf bM1 = [bM2] := by kernel_rfl
    rw [this] at hb
    rw [List.mem_singleton.1 hb]
    exact lM2) SM1 (F := FM1 cM1 schedF) (i := 3) (by kernel_rfl) (fun _ => rfl) fun xs hs r h => by
    obtain ⟨b, u1, u2, u3, i, u4⟩ := xs
    obtain ⟨s, r', v, u5⟩ := hs
    obtain ⟨h1, h2⟩ := Tr.chk_some h
    simp only [cM1, Bool.and_eq_true, decide_eq_true_eq] at h1
    obtain ⟨e1, e2⟩ := h1
    have e1 : i = ((0 : Nat) : Int) := e1
    subst e1
    exact ⟨_, (mM1 b e2 s r' 64 0 v (by omega)).trans (congrArg some (Tr.ret_some h2))⟩

theorem mM3 (ks s r v : List Int) : ∀ (m i : Nat) (l : List Int), i + m = 64 →
    SM3.many (bodyK Try.prog CM L0 bM3) (m + 1) ((), (), (), (), ks, (i : Int), ()) (s, r, v, l, ()) = some (.exit 4, encS [2, 4, 11] [.ptr 0 [], .ptr 1 [], .ptr 3 []] [.box a8, .box a8, .dead, .box a8] 157 ((), (), (), ()) (s, r, roundsL turnF rotF ks v i m l, ()))
  | 0, i, l, h => by
    refine rmany_inr ((rM3 rotF turnF consts ks i s r v l).trans ?_) 0
    simp only [GM3, Tr.eval, decide_eq_false (show ¬ ((i : Int) < 64) by omega)]
    rfl
  | m + 1, i, l, h => by
    refine (rmany_inl (d := (((), (), (), (), ks, ((i + 1 : Nat) : Int), ()), (s, r, v, round1 rotF turnF l (ks.getD i 0) (v.getD i 0), ()))) ((rM3 rotF turnF consts ks i s r v l).trans ?_) (m + 1)).trans (mM3 ks s r v m (i + 1) _ (by omega))
    have w0 : w ((i : Int) + 1) = ((i + 1 : Nat) : Int) := (w_id (by omega) (by omega)).trans (by omega)
    simp only [GM3, Tr.eval, Tr.chk, decide_eq_true (show ((i : Int) < 64) by omega), inArrK64 (i := (i : Int)) (n := 64) (by omega) (by omega) (by omega), w0, Int.toNat_natCast]

theorem lM3 : LoopOK Try.prog LMF bM3 :=
  rloop_ok (L := LMF) (L' := L0) cM_sound (loopsOK_of (by kernel_rfl)) SM3 (F := FM3 roundsF) (i := 16) (by kernel_rfl) (fun _ => rfl) fun xs hs r h => by
    obtain ⟨u1, u2, u3, u4, ks, i, u6⟩ := xs
    obtain ⟨s, r', v, l, u5⟩ := hs
    obtain ⟨h1, h2⟩ := Tr.chk_some h
    have e1 : i = ((0 : Nat) : Int) := of_decide_eq_true h1
    subst e1
    exact ⟨_, (mM3 ks s r' v 64 0 l (by omega)).trans (congrArg some (Tr.ret_some h2))⟩

theorem mM4 (l r : List Int) : ∀ (m i : Nat) (s : List Int), i + m = 8 →
    SM4.many (bodyK Try.prog CM L0 bM4) (m + 1) ((), (), l, (i : Int), ()) (s, r, ()) = some (.exit 6, encS [2, 4] [.ptr 0 [], .ptr 1 []] [.box a8, .box a8, .dead, .dead] 157 ((), (), ()) (addL l i m s, r, ()))
  | 0, i, s, h => by
    refine rmany_inr ((rM4 rotF turnF consts l i s r).trans ?_) 0
    simp only [GM4, Tr.eval, decide_eq_false (show ¬ ((i : Int) < 8) by omega)]
    rfl
  | m + 1, i, s, h => by
    refine (rmany_inl (d := (((), (), l, ((i + 1 : Nat) : Int), ()), (s.set i (w3 (s.getD i 0 + l.getD i 0)), r, ()))) ((rM4 rotF turnF consts l i s r).trans ?_) (m + 1)).trans (mM4 l r m (i + 1) _ (by omega))
    have w0 : w ((i : Int) + 1) = ((i + 1 : Nat) : Int) := (w_id (by omega) (by omega)).trans (by omega)
    simp only [GM4, Tr.eval, Tr.chk, decide_eq_true (show ((i : Int) < 8) by omega), inArrK64 (i := (i : Int)) (n := 8) (by omega) (by omega) (by omega), w0, Int.toNat_natCast]

theorem lM4 : LoopOK Try.prog LMF bM4 :=
  rloop_ok (L := LMF) (L' := L0) cM_sound (loopsOK_of (by kernel_rfl)) SM4 (F := FM4 addF) (i := 25) (by kernel_rfl) (fun _ => rfl) fun xs hs r h => by
    obtain ⟨u1, u2, l, i, u6⟩ := xs
    obtain ⟨s, r', u5⟩ := hs
    obtain ⟨h1, h2⟩ := Tr.chk_some h
    have e1 : i = ((0 : Nat) : Int) := of_decide_eq_true h1
    subst e1
    exact ⟨_, (mM4 l r' 8 0 s (by omega)).trans (congrArg some (Tr.ret_some h2))⟩

/-! all together -/

def zeros64 : List Int := [0, 0, 0, 0, 0, 0, 0, 0, 0, 0, 0, 0, 0, 0, 0, 0, 0, 0, 0, 0, 0, 0, 0, 0, 0, 0, 0, 0, 0, 0, 0, 0, 0, 0, 0, 0, 0, 0, 0, 0, 0, 0, 0, 0, 0, 0, 0, 0, 0, 0, 0, 0, 0, 0, 0, 0, 0, 0, 0, 0, 0, 0, 0, 0]
def mixF (s b : List Int) : List Int := addF (roundsF consts (schedF b zeros64) s) s
def s42 : CSpec := .slp1 [a8, bs] (fun x => decide (List.length (α := Int) x.2.1 = 64)) a8 fun x => mixF x.1 x.2.1

theorem k42 (r0 : Int → Int → Int) (t : Tu) (ks : List Int) (c2 : Int → List Int → Int → Int → Bool) (p2 : List Int → Int → List Int → List Int) (c1 : List Int → Int → Bool) (S1 : List Int → List Int → List Int) (S3 : List Int → List Int → List Int → List Int) (S4 : List Int → List Int → List Int) (s b : List Int) :
    (fnS Try.prog (ctx (cM r0 t ks)) (LM c2 p2 c1 S1 S3 S4) [a8] Try.f42 (mkArgs [a8, bs] (s, b, ()))).fold1 a8 = S4 (S3 ks (S1 b zeros64) s) s := by kernel_rfl
theorem f42 (r0 : Int → Int → Int) (t : Tu) (ks : List Int) (c2 : Int → List Int → Int → Int → Bool) (p2 : List Int → Int → List Int → List Int) (c1 : List Int → Int → Bool) (S1 : List Int → List Int → List Int) (S3 : List Int → List Int → List Int → List Int) (S4 : List Int → List Int → List Int) (s b : List Int) :
    (fnS Try.prog (ctx (cM r0 t ks)) (LM c2 p2 c1 S1 S3 S4) [a8] Try.f42 (mkArgs [a8, bs] (s, b, ()))).fine [a8] = c1 b 0 := by kernel_rfl
theorem ok42 : CSound Try.prog 42 s42 ∧ CLocal s42 :=
  slp_ok1 (L := LMF) cM_sound Try.func42 (by kernel_rfl) (fun b hb => by
    have : loopsOf (bodyOf Try.f42) = [bM1, bM3, bM4] := by kernel_rfl
    rw [this] at hb
    simp only [List.mem_cons, List.not_mem_nil, or_false] at hb
    rcases hb with rfl | rfl | rfl
    · exact lM1
    · exact lM3
    · exact lM4) (fun xs hx hp => by
      refine (f42 _ _ _ _ _ _ _ _ _ xs.1 xs.2.1).trans ?_
      have hp : decide (List.length (α := Int) xs.2.1 = 64) = true := hp
      simp only [cM1, hp]
      rfl) (fun xs hx hp => k42 _ _ _ _ _ _ _ _ _ xs.1 xs.2.1)

end Go.Proofs.Ytlkddajnebjlcaa.Sha

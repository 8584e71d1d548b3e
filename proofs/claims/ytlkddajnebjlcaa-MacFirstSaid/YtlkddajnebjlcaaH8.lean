/- The laws of layer 1 (sha): walks. -/
import Derived.Test.YtlkddajnebjlcaaH7
set_option linter.unusedVariables false
set_option maxRecDepth 100000
namespace Go.Proofs.Ytlkddajnebjlcaa.Sha
open Go Vse Go.Proofs Gen

/-! the document's digest -/

abbrev CD : Ctx := ctx (cD filledF filledP blockF)
theorem cD_sound : CtxSound Try.prog CD ∧ CtxLocal CD := ctx_sound ⟨ok40, ok41, trivial⟩

theorem addR_len8 {s l : List Int} (h : l.length = 8) : (addRF s l).length = 8 := (addR_len s 8 0 l).trans h
theorem blockF_len {s : List Int} (b : List Int) (h : s.length = 8) : (blockF s b).length = 8 := addR_len8 (rndsR_len rightF consts _ 64 0 s h)

def blocksF : Nat → List Int → List Int → List Int
  | 0, s, a => s
  | n + 1, s, a => blocksF n (blockF s (a.take 64)) (a.drop 64)
theorem blocksF_len : ∀ (n : Nat) (s a : List Int), s.length = 8 → (blocksF n s a).length = 8
  | 0, s, a, h => h
  | n + 1, s, a, h => blocksF_len n _ _ (blockF_len _ h)
def blkF (s a : List Int) : List Int := blocksF (a.length / 64) s a
def cD1 (s a : List Int) (i : Int) : Bool := decide (i = 0) && (decide (s.length = 8) && (decide (a.length % 64 = 0) && decide (a.length ≤ 1000000000000)))
def FD1 (c : List Int → List Int → Int → Bool) (S : List Int → List Int → List Int) (xs : HL SD1.Ts) (hs : HD SD1.Es) : Tr (Ex × St) :=
  .chk (c xs.2.1 xs.2.2.1 xs.2.2.2.1) (.ret (.exit 0, encS [2, 3] [.ptr 0 [], nt] [.box d32, .dead] 71 ((), S xs.2.1 xs.2.2.1, ()) (hs.1, ())))
def put8L (s : List Int) : Nat → Nat → List Int → List Int
  | _, 0, q => q
  | i, m + 1, q => put8L s (i + 1) m (put8 s q i)
def put8F (s q : List Int) : List Int := put8L s 0 8 q
def cD2 (s : List Int) (i : Int) : Bool := decide (i = 0) && decide (s.length = 8)
def FD2 (c : List Int → Int → Bool) (S : List Int → List Int → List Int) (xs : HL SD2.Ts) (hs : HD SD2.Es) : Tr (Ex × St) :=
  .chk (c xs.2.1 xs.2.2.2.1) (.ret (.exit 2, encS [2, 6] [.ptr 0 [], .ptr 2 []] [.box d32, .dead, .box d32] 71 ((), (), ()) (hs.1, S xs.2.1 hs.2.1, ())))
def LD (c1 : List Int → List Int → Int → Bool) (S1 : List Int → List Int → List Int) (c2 : List Int → Int → Bool) (S2 : List Int → List Int → List Int) : Loops := fun j st => if j = 4 then SD1.fn (FD1 c1 S1) st else if j = 9 then SD2.fn (FD2 c2 S2) st else .fail
abbrev LDF : Loops := LD cD1 blkF cD2 put8F

theorem mD1 (a o : List Int) (ha : a.length ≤ 1000000000000) : ∀ (m k : Nat) (s : List Int), 64 * k + 64 * m = a.length → s.length = 8 →
    SD1.many (bodyK Try.prog CD L0 bD1) (m + 1) ((), s, a, ((64 * k : Nat) : Int), ()) (o, ()) = some (.exit 0, encS [2, 3] [.ptr 0 [], nt] [.box d32, .dead] 71 ((), blocksF m s (a.drop (64 * k)), ()) (o, ()))
  | 0, k, s, h, hs => by
    refine rmany_inr ((rD1 filledF filledP blockF s a o _).trans ?_) 0
    simp only [GD1, Tr.eval, decide_eq_false (show ¬ (((64 * k : Nat) : Int) < (a.length : Int)) by omega)]
    rfl
  | m + 1, k, s, h, hs => by
    have w0 : w (((64 * k : Nat) : Int) + 64) = ((64 * (k + 1) : Nat) : Int) := (w_id (by omega) (by omega)).trans (by omega)
    have hq : (a.take (64 * (k + 1))).drop (64 * k) = (a.drop (64 * k)).take 64 := by
      rw [List.drop_take]; congr 1; omega
    have hql : ((a.drop (64 * k)).take 64).length = 64 := by rw [List.length_take, List.length_drop]; omega
    refine (rmany_inl (d := (((), blockF s ((a.drop (64 * k)).take 64), a, ((64 * (k + 1) : Nat) : Int), ()), (o, ()))) ((rD1 filledF filledP blockF s a o _).trans ?_) (m + 1)).trans ((mD1 a o ha m (k + 1) _ (by omega) (blockF_len _ hs)).trans ?_)
    · have e1 : (decide (0 ≤ ((64 * k : Nat) : Int)) && (decide (((64 * k : Nat) : Int) ≤ ((64 * (k + 1) : Nat) : Int)) && decide (((64 * (k + 1) : Nat) : Int) ≤ (a.length : Int)))) = true := by
        simp only [Bool.and_eq_true, decide_eq_true_eq]; omega
      have e2 : (decide (s.length = 8) && decide (((a.drop (64 * k)).take 64).length = 64)) = true := by rw [hs, hql]; rfl
      simp only [GD1, Tr.eval, Tr.chk, decide_eq_true (show (((64 * k : Nat) : Int) < (a.length : Int)) by omega), w0, Int.toNat_natCast, hq, e1, e2]
    · rw [blocksF, List.drop_drop]
      rfl

theorem lD1 : LoopOK Try.prog LDF bD1 :=
  rloop_ok (L := LDF) (L' := L0) cD_sound (loopsOK_of (by kernel_rfl)) SD1 (F := FD1 cD1 blkF) (i := 4) (by kernel_rfl) (fun _ => rfl) fun xs hs r h => by
    obtain ⟨u1, s, a, i, u2⟩ := xs
    obtain ⟨o, u3⟩ := hs
    obtain ⟨h1, h2⟩ := Tr.chk_some h
    simp only [cD1, Bool.and_eq_true, decide_eq_true_eq] at h1
    obtain ⟨e1, e2, e3, e4⟩ := h1
    have e1 : i = ((64 * 0 : Nat) : Int) := e1
    subst e1
    exact ⟨_, (mD1 a o e4 (List.length (α := Int) a / 64) 0 s (by omega) e2).trans (congrArg some (Tr.ret_some h2))⟩

theorem mD2 (s o : List Int) (hs : s.length = 8) : ∀ (m i : Nat) (q : List Int), i + m = 8 →
    SD2.many (bodyK Try.prog CD L0 bD2) (m + 1) ((), s, (), (i : Int), ()) (o, q, ()) = some (.exit 2, encS [2, 6] [.ptr 0 [], .ptr 2 []] [.box d32, .dead, .box d32] 71 ((), (), ()) (o, put8L s i m q, ()))
  | 0, i, q, h => by
    refine rmany_inr ((rD2 filledF filledP blockF s o q i).trans ?_) 0
    simp only [GD2, Tr.eval, decide_eq_false (show ¬ ((i : Int) < 8) by omega)]
    rfl
  | m + 1, i, q, h => by
    refine (rmany_inl (d := (((), s, (), ((i + 1 : Nat) : Int), ()), (o, put8 s q i, ()))) ((rD2 filledF filledP blockF s o q i).trans ?_) (m + 1)).trans (mD2 s o hs m (i + 1) _ (by omega))
    have w0 : w ((i : Int) + 1) = ((i + 1 : Nat) : Int) := (w_id (by omega) (by omega)).trans (by omega)
    have w1 : w (4 * (i : Int)) = ((4 * i : Nat) : Int) := (w_id (by omega) (by omega)).trans (by omega)
    have w2 : w (((4 * i : Nat) : Int) + 1) = ((4 * i + 1 : Nat) : Int) := (w_id (by omega) (by omega)).trans (by omega)
    have w3' : w (((4 * i : Nat) : Int) + 2) = ((4 * i + 2 : Nat) : Int) := (w_id (by omega) (by omega)).trans (by omega)
    have w4 : w (((4 * i : Nat) : Int) + 3) = ((4 * i + 3 : Nat) : Int) := (w_id (by omega) (by omega)).trans (by omega)
    have ok : ∀ k : Nat, k < 32 → inArrK .i64 (k : Int) 32 = true := fun k hk => inArrK64 (by omega) (by omega) (by omega)
    simp only [GD2, Tr.eval, Tr.chk, decide_eq_true (show ((i : Int) < 8) by omega), w0, w1, w2, w3', w4, inArr_nat (k := i) (n := s.length) (by omega), ok (4 * i) (by omega), ok (4 * i + 1) (by omega), ok (4 * i + 2) (by omega), ok (4 * i + 3) (by omega)]

theorem lD2 : LoopOK Try.prog LDF bD2 :=
  rloop_ok (L := LDF) (L' := L0) cD_sound (loopsOK_of (by kernel_rfl)) SD2 (F := FD2 cD2 put8F) (i := 9) (by kernel_rfl) (fun _ => rfl) fun xs hs r h => by
    obtain ⟨u1, s, u2, i, u3⟩ := xs
    obtain ⟨o, q, u4⟩ := hs
    obtain ⟨h1, h2⟩ := Tr.chk_some h
    simp only [cD2, Bool.and_eq_true, decide_eq_true_eq] at h1
    obtain ⟨e1, e2⟩ := h1
    have e1 : i = ((0 : Nat) : Int) := e1
    subst e1
    exact ⟨_, (mD2 s o e2 8 0 q (by omega)).trans (congrArg some (Tr.ret_some h2))⟩

def rsumF (b : List Int) : List Int := put8F (blkF init (filledF b)) zeros32
def T17 (f : List Int → List Int) (p : List Int → Bool) (c1 : List Int → List Int → Int → Bool) (S1 : List Int → List Int → List Int) (c2 : List Int → Int → Bool) (S2 : List Int → List Int → List Int) (b : List Int) : Tr AV :=
  .chk (p b) (.chk (c1 init (f b) 0) (.chk (c2 (S1 init (f b)) 0) (.ret (.v d32 (S2 (S1 init (f b)) zeros32)))))
theorem k17 (f : List Int → List Int) (p : List Int → Bool) (k : Bk) (c1 : List Int → List Int → Int → Bool) (S1 : List Int → List Int → List Int) (c2 : List Int → Int → Bool) (S2 : List Int → List Int → List Int) (b : List Int) :
    nrm (fnS Try.prog (ctx (cD f p k)) (LD c1 S1 c2 S2) [d32] Try.f17 (mkArgs [bs] (b, ()))) = (T17 f p c1 S1 c2 S2 b).eval := by kernel_rfl
def s17 : CSpec := .slp1 [bs] (fun x => filledP x.1) d32 fun x => rsumF x.1

theorem tailR_len (n : Int) : ∀ m, (tailR n m).length = m
  | 0 => rfl
  | m + 1 => by rw [tailR, List.length_cons, tailR_len n m]
theorem filledF_len (b : List Int) : (filledF b).length = b.length + 1 + padM (b.length + 1) + 8 := by
  unfold filledF padR tailF
  simp only [List.length_append, List.length_replicate, List.length_singleton, tailR_len]

theorem ok17 : CSound Try.prog 17 s17 ∧ CLocal s17 :=
  slpE1 (L := LDF) cD_sound Try.func17 (by kernel_rfl) (loops2 (by kernel_rfl) lD1 lD2) fun xs hx hp => by
    obtain ⟨b, u⟩ := xs
    have hp : filledP b = true := hp
    have hb : List.length (α := Int) b ≤ 10000000000 := of_decide_eq_true hp
    have hl := filledF_len b
    have hm := padM_lt (List.length (α := Int) b + 1)
    have li : init.length = 8 := rfl
    have e1 : cD1 init (filledF b) 0 = true := by
      simp only [cD1, li, Bool.and_eq_true, decide_eq_true_eq, true_and]
      rw [hl]
      unfold padM at hm ⊢
      omega
    have e2 : cD2 (blkF init (filledF b)) 0 = true := by
      have : (blkF init (filledF b)).length = 8 := blocksF_len _ _ _ rfl
      simp only [cD2, this]; rfl
    have e3 : (T17 filledF filledP cD1 blkF cD2 put8F b).eval = some (.v d32 (rsumF b)) := by
      unfold T17 rsumF
      rw [chk_eval hp, chk_eval e1, chk_eval e2, Tr.eval]
    exact (k17 filledF filledP blockF cD1 blkF cD2 put8F b).trans e3

/-! the law's own trial -/

def s15 : CSpec := .slp1 [] (fun _ => true) .bool fun _ => true
def cA : List (Nat × CSpec) := [(16, s16), (19, s19)]
theorem cA_sound : CtxSound Try.prog (ctx cA) ∧ CtxLocal (ctx cA) := ctx_sound ⟨ok16, ok19, trivial⟩
theorem ok15 : CSound Try.prog 15 s15 ∧ CLocal s15 :=
  slpE1 (L := L0) cA_sound Try.func15 (by kernel_rfl) (noLoopsL (by kernel_rfl)) fun xs hx hp => by kernel_rfl

end Go.Proofs.Ytlkddajnebjlcaa.Sha

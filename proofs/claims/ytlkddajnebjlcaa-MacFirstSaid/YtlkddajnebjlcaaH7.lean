/- The document's digest (layer 1, sha): all rounds. -/
import Derived.Test.YtlkddajnebjlcaaH6
set_option linter.unusedVariables false
set_option maxRecDepth 100000
namespace Go.Proofs.Ytlkddajnebjlcaa.Sha
open Go Vse Go.Proofs Gen

/-! right -/

def step1 (n : Int) : Int := if n.tmod 2 = 1 then w3 (half1 n + 2147483648) else half1 n
def rightN : Nat → Int → Int
  | 0, n => n
  | m + 1, n => rightN m (step1 n)
def rightF (n k : Int) : Int := rightN k.toNat n
def cR (k i : Int) : Bool := decide (i = 0) && (decide (0 ≤ k) && decide (k ≤ 32))
def FR (c : Int → Int → Bool) (R : Int → Int → Int) (xs : HL SR.Ts) (hs : HD SR.Es) : Tr (Ex × St) := .chk (c xs.2.1 xs.2.2.1) (.ret (.exit 0, encS [0] [u32] [] 21 (R xs.1 xs.2.1, ()) ()))
def LR (c : Int → Int → Bool) (R : Int → Int → Int) : Loops := fun j st => if j = 2 then SR.fn (FR c R) st else .fail

theorem mR (k : Int) (hk : k ≤ 32) : ∀ (m i : Nat) (n : Int), (i : Int) + m = k → SR.many (bodyK Try.prog (ctx []) L0 bR) (m + 1) (n, k, (i : Int), ()) () = some (.exit 0, encS [0] [u32] [] 21 (rightN m n, ()) ())
  | 0, i, n, h => by
    refine rmany_inr ((rR n k i).trans ?_) 0
    simp only [GR, Tr.eval, decide_eq_false (show ¬ ((i : Int) < k) by omega)]
    rfl
  | m + 1, i, n, h => by
    refine (rmany_inl (d := ((step1 n, k, ((i + 1 : Nat) : Int), ()), ())) ((rR n k i).trans ?_) (m + 1)).trans (mR k hk m (i + 1) _ (by omega))
    have w0 : w ((i : Int) + 1) = ((i + 1 : Nat) : Int) := (w_id (by omega) (by omega)).trans (by omega)
    simp only [GR, Tr.eval, decide_eq_true (show ((i : Int) < k) by omega), w0, step1]
    by_cases hn : n.tmod 2 = 1
    · have : (n.tmod 2 == 1) = true := by simp [hn]
      rw [this, if_pos hn]
    · have : (n.tmod 2 == 1) = false := by simp [hn]
      rw [this, if_neg hn]

theorem lR : LoopOK Try.prog (LR cR rightF) bR :=
  rloop_ok (L := LR cR rightF) (L' := L0) nil_sound (loopsOK_of (by kernel_rfl)) SR (F := FR cR rightF) (i := 2) (by kernel_rfl) (fun _ => rfl) fun xs hs r h => by
    obtain ⟨n, k, i, u⟩ := xs
    obtain ⟨h1, h2⟩ := Tr.chk_some h
    simp only [cR, Bool.and_eq_true, decide_eq_true_eq] at h1
    obtain ⟨e1, e2, e3⟩ := h1
    have e1 : i = ((0 : Nat) : Int) := e1
    subst e1
    exact ⟨_, (mR k e3 k.toNat 0 n (by show ((0 : Nat) : Int) + (k.toNat : Int) = k; omega)).trans (congrArg some (Tr.ret_some h2))⟩

def preR (k : Int) : Bool := decide (0 ≤ k) && decide (k ≤ 32)
def s51 : CSpec := .slp1 [u32, i64] (fun x => decide (0 ≤ x.2.1) && decide (x.2.1 ≤ 32)) u32 fun x => rightF x.1 x.2.1
theorem k51 (c : Int → Int → Bool) (R : Int → Int → Int) (n k : Int) : nrm (fnS Try.prog (ctx []) (LR c R) [u32] Try.f51 (mkArgs [u32, i64] (n, k, ()))) = (Tr.chk (c k 0) (.ret (.v u32 (R n k)))).eval := by kernel_rfl
theorem ok51 : CSound Try.prog 51 s51 ∧ CLocal s51 :=
  slpE1 (L := LR cR rightF) nil_sound Try.func51 (by kernel_rfl) (loops1 (by kernel_rfl) lR) fun xs hx hp => by
    obtain ⟨n, k, u⟩ := xs
    have hp : (decide (0 ≤ k) && decide (k ≤ 32)) = true := hp
    have e := (k51 cR rightF n k).trans (chk_eval (by simp only [cR, hp]; rfl) _)
    exact e

/-! filled -/

def padM (n : Nat) : Nat := (56 + 64 - n % 64) % 64
def smallF (f : List Int) : Bool := decide (f.length ≤ 100000000000)
def padR (f : List Int) : List Int := f ++ List.replicate (padM f.length) 0
def FF1 (c : List Int → Bool) (P : List Int → List Int) (xs : HL SF1.Ts) (hs : HD SF1.Es) : Tr (Ex × St) :=
  .chk (c hs.1) (.ret (.exit 0, encS [0, 3] [bs, .vc 0 3] (eF 3) 38 (xs.1, (), ()) (P hs.1, ())))
def unit1 (m : Nat) : Int := 256 ^ m
def unitP : Nat → Int
  | 0 => 0
  | k + 1 => unit1 k
def tailR (n : Int) : Nat → List Int
  | 0 => []
  | m + 1 => wb ((wu (n.tdiv (unit1 m))).tmod 256) :: tailR n m
def cF2 (f : List Int) (u i : Int) : Bool := decide (i = 0) && (decide (u = 72057594037927936) && decide (f.length ≤ 1000000000000))
def FF2 (c : List Int → Int → Int → Bool) (T : Int → List Int) (xs : HL SF2.Ts) (hs : HD SF2.Es) : Tr (Ex × St) :=
  .chk (c hs.1 xs.2.2.1 xs.2.2.2.1) (.ret (.exit 2, encS [3] [.vc 0 4] (eF 4) 38 ((), ()) (hs.1 ++ T xs.2.1, ())))
def tailF (n : Int) : List Int := tailR n 8
def LF (c1 : List Int → Bool) (P : List Int → List Int) (c2 : List Int → Int → Int → Bool) (T : Int → List Int) : Loops := fun j st => if j = 2 then SF1.fn (FF1 c1 P) st else if j = 7 then SF2.fn (FF2 c2 T) st else .fail
abbrev LFF : Loops := LF smallF padR cF2 tailF

theorem mF1 (b : List Int) : ∀ (m : Nat) (f : List Int), f.length ≤ 200000000000 - m → m ≤ 64 → padM f.length = m →
    SF1.many (bodyK Try.prog (ctx []) L0 bF1) (m + 1) (b, (), ()) (f, ()) = some (.exit 0, encS [0, 3] [bs, .vc 0 3] (eF 3) 38 (b, (), ()) (f ++ List.replicate m 0, ()))
  | 0, f, hf, h64, hp => by
    refine rmany_inr ((rF1 b f).trans ?_) 0
    have e3 : ((f.length : Int).tmod 64 != 56) = false := by
      unfold padM at hp
      rw [Int.tmod_eq_emod_of_nonneg (by omega)]
      have : f.length % 64 = 56 := by omega
      simp; omega
    simp only [GF1, e3, Tr.eval, List.replicate_zero, List.append_nil]
  | m + 1, f, hf, h64, hp => by
    refine (rmany_inl (d := ((b, (), ()), (f ++ [0], ()))) ((rF1 b f).trans ?_) (m + 1)).trans ((mF1 b m (f ++ [0]) (by simp; omega) (by omega) (by unfold padM at hp ⊢; simp only [List.length_append, List.length_singleton]; omega)).trans ?_)
    · have e3 : ((f.length : Int).tmod 64 != 56) = true := by
        unfold padM at hp
        rw [Int.tmod_eq_emod_of_nonneg (by omega), bne_iff_ne]
        have : f.length % 64 ≠ 56 := by omega
        omega
      have e4 : Vse.room (f.length + [(0 : Int)].length) 1 = true := by simp only [Vse.room, decide_eq_true_eq, List.length_singleton]; omega
      simp only [GF1, e3, e4, Tr.eval, Tr.chk]
    · rw [rep_snoc]

theorem padM_lt (n : Nat) : padM n < 64 := Nat.mod_lt _ (by omega)

theorem lF1 : LoopOK Try.prog LFF bF1 :=
  rloop_ok (L := LFF) (L' := L0) nil_sound (loopsOK_of (by kernel_rfl)) SF1 (F := FF1 smallF padR) (i := 2) (by kernel_rfl) (fun _ => rfl) fun xs hs r h => by
    obtain ⟨b, u1, u2⟩ := xs
    obtain ⟨f, u3⟩ := hs
    obtain ⟨h1, h2⟩ := Tr.chk_some h
    have h1 : List.length (α := Int) f ≤ 100000000000 := of_decide_eq_true h1
    have hp := padM_lt (List.length (α := Int) f)
    exact ⟨_, (mF1 b _ f (by omega) (by omega) rfl).trans (congrArg some (Tr.ret_some h2))⟩

theorem mF2 (n : Int) : ∀ (m : Nat) (f : List Int), f.length ≤ 2000000000000 - m → m ≤ 8 →
    SF2.many (bodyK Try.prog (ctx []) L0 bF2) (m + 1) ((), n, unitP m, (8 : Int) - m, ()) (f, ()) = some (.exit 2, encS [3] [.vc 0 4] (eF 4) 38 ((), ()) (f ++ tailR n m, ()))
  | 0, f, hf, h8 => by
    refine rmany_inr ((rF2 f n _ _).trans ?_) 0
    simp only [GF2, Tr.eval, decide_eq_false (show ¬ ((8 : Int) - ((0 : Nat) : Int) < 8) by omega), tailR, List.append_nil]
  | m + 1, f, hf, h8 => by
    refine (rmany_inl (d := (((), n, unitP m, (8 : Int) - m, ()), (f ++ [wb ((wu (n.tdiv (unit1 m))).tmod 256)], ()))) ((rF2 f n _ _).trans ?_) (m + 1)).trans ((mF2 n m _ (by simp; omega) (by omega)).trans ?_)
    · have e4 : Vse.room (f.length + [(0 : Int)].length) 1 = true := by simp only [Vse.room, decide_eq_true_eq, List.length_singleton]; omega
      have hu : decide (unit1 m = 0) = false := by
        match m, h8 with
        | 0, _ => rfl
        | 1, _ => rfl
        | 2, _ => rfl
        | 3, _ => rfl
        | 4, _ => rfl
        | 5, _ => rfl
        | 6, _ => rfl
        | 7, _ => rfl
      have hn : wu ((unit1 m).tdiv 256) = unitP m := by
        match m, h8 with
        | 0, _ => decide
        | 1, _ => decide
        | 2, _ => decide
        | 3, _ => decide
        | 4, _ => decide
        | 5, _ => decide
        | 6, _ => decide
        | 7, _ => decide
      have hw : w ((8 : Int) - ((m + 1 : Nat) : Int) + 1) = (8 : Int) - m := by rw [w_id (by omega) (by omega)]; omega
      simp only [GF2, Tr.eval, Tr.chk, decide_eq_true (show ((8 : Int) - ((m + 1 : Nat) : Int) < 8) by omega), show unitP (m + 1) = unit1 m from rfl, hu, e4, hw, hn]
    · simp only [tailR, List.append_assoc, List.singleton_append]

theorem lF2 : LoopOK Try.prog LFF bF2 :=
  rloop_ok (L := LFF) (L' := L0) nil_sound (loopsOK_of (by kernel_rfl)) SF2 (F := FF2 cF2 tailF) (i := 7) (by kernel_rfl) (fun _ => rfl) fun xs hs r h => by
    obtain ⟨u1, n, u, i, u2⟩ := xs
    obtain ⟨f, u3⟩ := hs
    obtain ⟨h1, h2⟩ := Tr.chk_some h
    simp only [cF2, Bool.and_eq_true, decide_eq_true_eq] at h1
    obtain ⟨e1, e2, e3⟩ := h1
    have e1 : i = (8 : Int) - ((8 : Nat) : Int) := e1
    have e2 : u = unit1 7 := e2
    subst e1; subst e2
    exact ⟨_, (mF2 n 8 f (by omega) (by omega)).trans (congrArg some (Tr.ret_some h2))⟩

/-- bytes, filled up -/
def filledF (b : List Int) : List Int := padR (b ++ [128]) ++ tailF (wu (w (8 * (b.length : Int))))
def filledP (b : List Int) : Bool := decide (b.length ≤ 10000000000)
def T40 (c1 : List Int → Bool) (P : List Int → List Int) (c2 : List Int → Int → Int → Bool) (T : Int → List Int) (b : List Int) : Tr AV :=
  .chk (Vse.room (([] : List Int).length + b.length) 1) (.chk (Vse.room (([] ++ b).length + [(128 : Int)].length) 1) (.chk (c1 (([] ++ b) ++ [128])) (.chk (c2 (P (([] ++ b) ++ [128])) 72057594037927936 0) (.ret (.v bt (P (([] ++ b) ++ [128]) ++ T (wu (w (8 * (b.length : Int))))))))))
theorem k40 (c1 : List Int → Bool) (P : List Int → List Int) (c2 : List Int → Int → Int → Bool) (T : Int → List Int) (b : List Int) :
    nrm (fnS Try.prog (ctx []) (LF c1 P c2 T) [bt] Try.f40 (mkArgs [bs] (b, ()))) = (T40 c1 P c2 T b).eval := by kernel_rfl
def s40 : CSpec := .slp1 [bs] (fun x => filledP x.1) bt fun x => filledF x.1
theorem ok40 : CSound Try.prog 40 s40 ∧ CLocal s40 :=
  slpE1 (L := LFF) nil_sound Try.func40 (by kernel_rfl) (loops2 (by kernel_rfl) lF1 lF2) fun xs hx hp => by
    obtain ⟨b, u⟩ := xs
    have hp : List.length (α := Int) b ≤ 10000000000 := of_decide_eq_true hp
    have hm := padM_lt (List.length (α := Int) b + 1)
    have e1 : Vse.room (([] : List Int).length + List.length (α := Int) b) 1 = true := by simp only [Vse.room, decide_eq_true_eq, List.length_nil]; omega
    have e2 : Vse.room (([] ++ b : List Int).length + [(128 : Int)].length) 1 = true := by simp only [Vse.room, decide_eq_true_eq, List.nil_append, List.length_singleton]; omega
    have e3 : smallF (([] ++ b) ++ [128]) = true := by simp only [smallF, decide_eq_true_eq, List.nil_append, List.length_append, List.length_singleton]; omega
    have e4 : cF2 (padR (([] ++ b) ++ [128])) 72057594037927936 0 = true := by
      simp only [cF2, padR, List.nil_append, List.length_append, List.length_singleton, List.length_replicate, Bool.and_eq_true, decide_eq_true_eq, true_and]; omega
    have e5 : (T40 smallF padR cF2 tailF b).eval = some (.v bt (filledF b)) := by
      unfold T40 filledF
      rw [chk_eval e1, chk_eval e2, chk_eval e3, chk_eval e4, List.nil_append]
      rfl
    have e6 := (k40 smallF padR cF2 tailF b).trans e5
    exact e6

/-! block -/

abbrev CB : Ctx := ctx (cB rightF consts)
theorem cB_sound : CtxSound Try.prog CB ∧ CtxLocal CB := ctx_sound ⟨ok51, ok52, trivial⟩

def sch1 (b : List Int) : Nat → Nat → List Int → List Int
  | _, 0, v => v
  | i, m + 1, v => sch1 b (i + 1) m (v ++ [num4 b i])
def sch2 (r : Ri) : Nat → Nat → List Int → List Int
  | _, 0, v => v
  | i, m + 1, v => sch2 r (i + 1) m (v ++ [num2 r v i])
def cB1 (b v : List Int) (i : Int) : Bool := decide (i = 0) && (decide (v.length = 0) && decide (b.length = 64))
def FB1 (c : List Int → List Int → Int → Bool) (S : List Int → List Int) (xs : HL SB1.Ts) (hs : HD SB1.Es) : Tr (Ex × St) :=
  .chk (c xs.2.1 hs.1 xs.2.2.2.1) (.ret (.exit 0, encS [0, 5] [ns, .vc 0 0] [.vec 0 u32] 225 (xs.1, (), ()) (S xs.2.1, ())))
def cB2 (v : List Int) (i : Int) : Bool := decide (i = 16) && decide (v.length = 16)
def FB2 (c : List Int → Int → Bool) (S : List Int → List Int) (xs : HL SB2.Ts) (hs : HD SB2.Es) : Tr (Ex × St) :=
  .chk (c hs.1 xs.2.2.1) (.ret (.exit 2, encS [0, 5] [ns, .vc 0 1] [.vec 1 u32] 225 (xs.1, (), ()) (S hs.1, ())))
/-- a round -/
def roundR (r : Ri) (l : List Int) (k x : Int) : List Int :=
  let t := rT r (l.getD 4 0) (l.getD 5 0) (l.getD 6 0) (l.getD 7 0) k x
  [w3 (t + rU r (l.getD 0 0) (l.getD 1 0) (l.getD 2 0)), l.getD 0 0, l.getD 1 0, l.getD 2 0, w3 (l.getD 3 0 + t), l.getD 4 0, l.getD 5 0, l.getD 6 0]
def rndsR (r : Ri) (ks v : List Int) : Nat → Nat → List Int → List Int
  | _, 0, l => l
  | i, m + 1, l => rndsR r ks v (i + 1) m (roundR r l (ks.getD i 0) (v.getD i 0))
def cB3 (ks v l : List Int) (i : Int) : Bool := decide (i = 0) && (decide (ks.length = 64) && (decide (v.length = 64) && decide (l.length = 8)))
def FB3 (c : List Int → List Int → List Int → Int → Bool) (S : List Int → List Int → List Int → List Int) (xs : HL SB3.Ts) (hs : HD SB3.Es) : Tr (Ex × St) :=
  .chk (c xs.2.2.2.1 hs.1 hs.2.1 xs.2.2.2.2.1) (.ret (.exit 4, encS [0, 10] [ns, .vc 1 2] [.dead, .vec 2 u32, .dead] 225 (xs.1, (), ()) (S xs.2.2.2.1 hs.1 hs.2.1, ())))
def addR (s : List Int) : Nat → Nat → List Int → List Int
  | _, 0, l => l
  | i, m + 1, l => addR s (i + 1) m (l.set i (w3 (l.getD i 0 + s.getD i 0)))
def cB4 (s l : List Int) (i : Int) : Bool := decide (i = 0) && (decide (s.length = 8) && decide (l.length = 8))
def FB4 (c : List Int → List Int → Int → Bool) (S : List Int → List Int → List Int) (xs : HL SB4.Ts) (hs : HD SB4.Es) : Tr (Ex × St) :=
  .chk (c xs.1 hs.1 xs.2.2.1) (.ret (.exit 6, encS [10] [.vc 1 2] [.dead, .vec 2 u32, .dead] 225 ((), ()) (S xs.1 hs.1, ())))
def LB (c1 : List Int → List Int → Int → Bool) (S1 : List Int → List Int) (c2 : List Int → Int → Bool) (S2 : List Int → List Int) (c3 : List Int → List Int → List Int → Int → Bool) (S3 : List Int → List Int → List Int → List Int) (c4 : List Int → List Int → Int → Bool) (S4 : List Int → List Int → List Int) : Loops := fun j st =>
  if j = 3 then SB1.fn (FB1 c1 S1) st else if j = 7 then SB2.fn (FB2 c2 S2) st else if j = 15 then SB3.fn (FB3 c3 S3) st else if j = 23 then SB4.fn (FB4 c4 S4) st else .fail
def sch1F (b : List Int) : List Int := sch1 b 0 16 []
def sch2F (v : List Int) : List Int := sch2 rightF 16 48 v
def rndsF (ks v l : List Int) : List Int := rndsR rightF ks v 0 64 l
def addRF (s l : List Int) : List Int := addR s 0 8 l
abbrev LBF : Loops := LB cB1 sch1F cB2 sch2F cB3 rndsF cB4 addRF

theorem inArr_nat {k n : Nat} (h : k < n) : inArr (k : Int) n = true := by simp only [inArr, Bool.and_eq_true, decide_eq_true_eq]; omega
theorem room_small {n k : Nat} (h : n ≤ 1000000) (hk : k ≤ 4) : Vse.room n k = true := by
  simp only [Vse.room, decide_eq_true_eq]
  have : n * k ≤ 1000000 * 4 := Nat.mul_le_mul h hk
  omega

theorem mB1 (s b : List Int) (hb : b.length = 64) : ∀ (m i : Nat) (v : List Int), i + m = 16 → v.length = i →
    SB1.many (bodyK Try.prog CB L0 bB1) (m + 1) (s, b, (), (i : Int), ()) (v, ()) = some (.exit 0, encS [0, 5] [ns, .vc 0 0] [.vec 0 u32] 225 (s, (), ()) (sch1 b i m v, ()))
  | 0, i, v, h, hv => by
    refine rmany_inr ((rB1 rightF consts s b v i).trans ?_) 0
    simp only [GB1, Tr.eval, decide_eq_false (show ¬ ((i : Int) < 16) by omega)]
    rfl
  | m + 1, i, v, h, hv => by
    refine (rmany_inl (d := ((s, b, (), ((i + 1 : Nat) : Int), ()), (v ++ [num4 b i], ()))) ((rB1 rightF consts s b v i).trans ?_) (m + 1)).trans (mB1 s b hb m (i + 1) _ (by omega) (by simp [hv]))
    have w0 : w ((i : Int) + 1) = ((i + 1 : Nat) : Int) := (w_id (by omega) (by omega)).trans (by omega)
    have w1 : w (4 * (i : Int)) = ((4 * i : Nat) : Int) := (w_id (by omega) (by omega)).trans (by omega)
    have w2 : w (((4 * i : Nat) : Int) + 1) = ((4 * i + 1 : Nat) : Int) := (w_id (by omega) (by omega)).trans (by omega)
    have w3' : w (((4 * i : Nat) : Int) + 2) = ((4 * i + 2 : Nat) : Int) := (w_id (by omega) (by omega)).trans (by omega)
    have w4 : w (((4 * i : Nat) : Int) + 3) = ((4 * i + 3 : Nat) : Int) := (w_id (by omega) (by omega)).trans (by omega)
    have hr : Vse.room (v.length + [(0 : Int)].length) 4 = true := room_small (by simp only [List.length_singleton]; omega) (by omega)
    simp only [GB1, Tr.eval, Tr.chk, decide_eq_true (show ((i : Int) < 16) by omega), w0, w1, w2, w3', w4, inArr_nat (k := 4 * i) (n := b.length) (by omega), inArr_nat (k := 4 * i + 1) (n := b.length) (by omega), inArr_nat (k := 4 * i + 2) (n := b.length) (by omega), inArr_nat (k := 4 * i + 3) (n := b.length) (by omega), hr]

theorem lB1 : LoopOK Try.prog LBF bB1 :=
  rloop_ok (L := LBF) (L' := L0) cB_sound (loopsOK_of (by kernel_rfl)) SB1 (F := FB1 cB1 sch1F) (i := 3) (by kernel_rfl) (fun _ => rfl) fun xs hs r h => by
    obtain ⟨s, b, u1, i, u2⟩ := xs
    obtain ⟨v, u3⟩ := hs
    obtain ⟨h1, h2⟩ := Tr.chk_some h
    simp only [cB1, Bool.and_eq_true, decide_eq_true_eq] at h1
    obtain ⟨e1, e2, e3⟩ := h1
    have e1 : i = ((0 : Nat) : Int) := e1
    have e2 : v = [] := List.eq_nil_of_length_eq_zero e2
    subst e1; subst e2
    exact ⟨_, (mB1 s b e3 16 0 [] (by omega) rfl).trans (congrArg some (Tr.ret_some h2))⟩

theorem mB2 (s : List Int) : ∀ (m i : Nat) (v : List Int), i + m = 64 → v.length = i → 16 ≤ i →
    SB2.many (bodyK Try.prog CB L0 bB2) (m + 1) (s, (), (i : Int), ()) (v, ()) = some (.exit 2, encS [0, 5] [ns, .vc 0 1] [.vec 1 u32] 225 (s, (), ()) (sch2 rightF i m v, ()))
  | 0, i, v, h, hv, h16 => by
    refine rmany_inr ((rB2 rightF consts s v i).trans ?_) 0
    simp only [GB2, Tr.eval, decide_eq_false (show ¬ ((i : Int) < 64) by omega)]
    rfl
  | m + 1, i, v, h, hv, h16 => by
    refine (rmany_inl (d := ((s, (), ((i + 1 : Nat) : Int), ()), (v ++ [num2 rightF v i], ()))) ((rB2 rightF consts s v i).trans ?_) (m + 1)).trans (mB2 s m (i + 1) _ (by omega) (by simp [hv]) (by omega))
    have w0 : w ((i : Int) + 1) = ((i + 1 : Nat) : Int) := (w_id (by omega) (by omega)).trans (by omega)
    have j1 : w ((i : Int) - 15) = ((i - 15 : Nat) : Int) := (w_id (by omega) (by omega)).trans (by omega)
    have j2 : w ((i : Int) - 2) = ((i - 2 : Nat) : Int) := (w_id (by omega) (by omega)).trans (by omega)
    have j3 : w ((i : Int) - 16) = ((i - 16 : Nat) : Int) := (w_id (by omega) (by omega)).trans (by omega)
    have j4 : w ((i : Int) - 7) = ((i - 7 : Nat) : Int) := (w_id (by omega) (by omega)).trans (by omega)
    have hr : Vse.room (v.length + [(0 : Int)].length) 4 = true := room_small (by simp only [List.length_singleton]; omega) (by omega)
    simp only [GB2, Tr.eval, Tr.chk, decide_eq_true (show ((i : Int) < 64) by omega), w0, j1, j2, j3, j4, inArr_nat (k := i - 15) (n := v.length) (by omega), inArr_nat (k := i - 2) (n := v.length) (by omega), inArr_nat (k := i - 16) (n := v.length) (by omega), inArr_nat (k := i - 7) (n := v.length) (by omega), hr]

theorem lB2 : LoopOK Try.prog LBF bB2 :=
  rloop_ok (L := LBF) (L' := L0) cB_sound (loopsOK_of (by kernel_rfl)) SB2 (F := FB2 cB2 sch2F) (i := 7) (by kernel_rfl) (fun _ => rfl) fun xs hs r h => by
    obtain ⟨s, u1, i, u2⟩ := xs
    obtain ⟨v, u3⟩ := hs
    obtain ⟨h1, h2⟩ := Tr.chk_some h
    simp only [cB2, Bool.and_eq_true, decide_eq_true_eq] at h1
    obtain ⟨e1, e2⟩ := h1
    have e1 : i = ((16 : Nat) : Int) := e1
    subst e1
    exact ⟨_, (mB2 s 48 16 v (by omega) e2 (by omega)).trans (congrArg some (Tr.ret_some h2))⟩

theorem eight {l : List Int} (h : l.length = 8) : ∃ l0 l1 l2 l3 l4 l5 l6 l7, l = [l0, l1, l2, l3, l4, l5, l6, l7] := by
  match l, h with
  | [l0, l1, l2, l3, l4, l5, l6, l7], _ => exact ⟨_, _, _, _, _, _, _, _, rfl⟩

theorem mB3 (s ks v : List Int) (hk : ks.length = 64) (hv : v.length = 64) : ∀ (m i : Nat) (l : List Int), i + m = 64 → l.length = 8 →
    SB3.many (bodyK Try.prog CB L0 bB3) (m + 1) (s, (), (), ks, (i : Int), ()) (v, l, ()) = some (.exit 4, encS [0, 10] [ns, .vc 1 2] [.dead, .vec 2 u32, .dead] 225 (s, (), ()) (rndsR rightF ks v i m l, ()))
  | 0, i, l, h, hl => by
    obtain ⟨l0, l1, l2, l3, l4, l5, l6, l7, rfl⟩ := eight hl
    refine rmany_inr ((rB3 rightF consts s ks v i l0 l1 l2 l3 l4 l5 l6 l7).trans ?_) 0
    simp only [GB3, Tr.eval, decide_eq_false (show ¬ ((i : Int) < 64) by omega)]
    rfl
  | m + 1, i, l, h, hl => by
    obtain ⟨l0, l1, l2, l3, l4, l5, l6, l7, rfl⟩ := eight hl
    refine (rmany_inl (d := ((s, (), (), ks, ((i + 1 : Nat) : Int), ()), (v, roundR rightF [l0, l1, l2, l3, l4, l5, l6, l7] (ks.getD i 0) (v.getD i 0), ()))) ((rB3 rightF consts s ks v i l0 l1 l2 l3 l4 l5 l6 l7).trans ?_) (m + 1)).trans (mB3 s ks v hk hv m (i + 1) _ (by omega) rfl)
    have w0 : w ((i : Int) + 1) = ((i + 1 : Nat) : Int) := (w_id (by omega) (by omega)).trans (by omega)
    simp only [GB3, Tr.eval, Tr.chk, decide_eq_true (show ((i : Int) < 64) by omega), w0, inArr_nat (k := i) (n := ks.length) (by omega), inArr_nat (k := i) (n := v.length) (by omega), Int.toNat_natCast]
    rfl

theorem lB3 : LoopOK Try.prog LBF bB3 :=
  rloop_ok (L := LBF) (L' := L0) cB_sound (loopsOK_of (by kernel_rfl)) SB3 (F := FB3 cB3 rndsF) (i := 15) (by kernel_rfl) (fun _ => rfl) fun xs hs r h => by
    obtain ⟨s, u1, u2, ks, i, u3⟩ := xs
    obtain ⟨v, l, u4⟩ := hs
    obtain ⟨h1, h2⟩ := Tr.chk_some h
    simp only [cB3, Bool.and_eq_true, decide_eq_true_eq] at h1
    obtain ⟨e1, e2, e3, e4⟩ := h1
    have e1 : i = ((0 : Nat) : Int) := e1
    subst e1
    exact ⟨_, (mB3 s ks v e2 e3 64 0 l (by omega) e4).trans (congrArg some (Tr.ret_some h2))⟩

theorem mB4 (s : List Int) (hs : s.length = 8) : ∀ (m i : Nat) (l : List Int), i + m = 8 → l.length = 8 →
    SB4.many (bodyK Try.prog CB L0 bB4) (m + 1) (s, (), (i : Int), ()) (l, ()) = some (.exit 6, encS [10] [.vc 1 2] [.dead, .vec 2 u32, .dead] 225 ((), ()) (addR s i m l, ()))
  | 0, i, l, h, hl => by
    refine rmany_inr ((rB4 rightF consts s l i).trans ?_) 0
    simp only [GB4, Tr.eval, decide_eq_false (show ¬ ((i : Int) < 8) by omega)]
    rfl
  | m + 1, i, l, h, hl => by
    refine (rmany_inl (d := ((s, (), ((i + 1 : Nat) : Int), ()), (l.set i (w3 (l.getD i 0 + s.getD i 0)), ()))) ((rB4 rightF consts s l i).trans ?_) (m + 1)).trans (mB4 s hs m (i + 1) _ (by omega) (by simp [hl]))
    have w0 : w ((i : Int) + 1) = ((i + 1 : Nat) : Int) := (w_id (by omega) (by omega)).trans (by omega)
    simp only [GB4, Tr.eval, Tr.chk, decide_eq_true (show ((i : Int) < 8) by omega), w0, inArr_nat (k := i) (n := s.length) (by omega), inArr_nat (k := i) (n := l.length) (by omega), Int.toNat_natCast]

theorem lB4 : LoopOK Try.prog LBF bB4 :=
  rloop_ok (L := LBF) (L' := L0) cB_sound (loopsOK_of (by kernel_rfl)) SB4 (F := FB4 cB4 addRF) (i := 23) (by kernel_rfl) (fun _ => rfl) fun xs hs r h => by
    obtain ⟨s, u1, i, u3⟩ := xs
    obtain ⟨l, u4⟩ := hs
    obtain ⟨h1, h2⟩ := Tr.chk_some h
    simp only [cB4, Bool.and_eq_true, decide_eq_true_eq] at h1
    obtain ⟨e1, e2, e3⟩ := h1
    have e1 : i = ((0 : Nat) : Int) := e1
    subst e1
    exact ⟨_, (mB4 s e2 8 0 l (by omega) e3).trans (congrArg some (Tr.ret_some h2))⟩

/-- a state behind a block -/
def blockF (s b : List Int) : List Int := addRF s (rndsF consts (sch2F (sch1F b)) s)
def T41 (ks : List Int) (c1 : List Int → List Int → Int → Bool) (S1 : List Int → List Int) (c2 : List Int → Int → Bool) (S2 : List Int → List Int) (c3 : List Int → List Int → List Int → Int → Bool) (S3 : List Int → List Int → List Int → List Int) (c4 : List Int → List Int → Int → Bool) (S4 : List Int → List Int → List Int) (s b : List Int) : Tr AV :=
  .chk (c1 b [] 0) (.chk (c2 (S1 b) 16) (.chk (Vse.room (([] : List Int).length + s.length) 4) (.chk (c3 ks (S2 (S1 b)) ([] ++ s) 0) (.chk (c4 s (S3 ks (S2 (S1 b)) ([] ++ s)) 0) (.ret (.v nt (S4 s (S3 ks (S2 (S1 b)) ([] ++ s)))))))))
theorem k41 (r : Ri) (ks : List Int) (c1 : List Int → List Int → Int → Bool) (S1 : List Int → List Int) (c2 : List Int → Int → Bool) (S2 : List Int → List Int) (c3 : List Int → List Int → List Int → Int → Bool) (S3 : List Int → List Int → List Int → List Int) (c4 : List Int → List Int → Int → Bool) (S4 : List Int → List Int → List Int) (s b : List Int) :
    nrm (fnS Try.prog (ctx (cB r ks)) (LB c1 S1 c2 S2 c3 S3 c4 S4) [nt] Try.f41 (mkArgs [ns, bs] (s, b, ()))) = (T41 ks c1 S1 c2 S2 c3 S3 c4 S4 s b).eval := by kernel_rfl

theorem sch1_len (b : List Int) : ∀ (m i : Nat) (v : List Int), (sch1 b i m v).length = v.length + m
  | 0, i, v => rfl
  | m + 1, i, v => by rw [sch1, sch1_len b m]; simp; omega
theorem sch2_len (r : Ri) : ∀ (m i : Nat) (v : List Int), (sch2 r i m v).length = v.length + m
  | 0, i, v => rfl
  | m + 1, i, v => by rw [sch2, sch2_len r m]; simp; omega
theorem rndsR_len (r : Ri) (ks v : List Int) : ∀ (m i : Nat) (l : List Int), l.length = 8 → (rndsR r ks v i m l).length = 8
  | 0, i, l, h => h
  | m + 1, i, l, h => by rw [rndsR]; exact rndsR_len r ks v m _ _ rfl
theorem addR_len (s : List Int) : ∀ (m i : Nat) (l : List Int), (addR s i m l).length = l.length
  | 0, i, l => rfl
  | m + 1, i, l => by rw [addR, addR_len s m]; simp

def s41 : CSpec := .slp1 [ns, bs] (fun x => decide (List.length (α := Int) x.1 = 8) && decide (List.length (α := Int) x.2.1 = 64)) nt fun x => blockF x.1 x.2.1
theorem ok41 : CSound Try.prog 41 s41 ∧ CLocal s41 :=
  slpE1 (L := LBF) cB_sound Try.func41 (by kernel_rfl) (fun b hb => by
    have : loopsOf (bodyOf Try.f41) = [bB1, bB2, bB3, bB4] := by kernel_rfl
    rw [this] at hb
    simp only [List.mem_cons, List.not_mem_nil, or_false] at hb
    rcases hb with rfl | rfl | rfl | rfl
    · exact lB1
    · exact lB2
    · exact lB3
    · exact lB4) fun xs hx hp => by
    obtain ⟨s, b, u⟩ := xs
    have hp : (decide (List.length (α := Int) s = 8) && decide (List.length (α := Int) b = 64)) = true := hp
    simp only [Bool.and_eq_true, decide_eq_true_eq] at hp
    obtain ⟨h8, h64⟩ := hp
    have l1 : (sch1F b).length = 16 := sch1_len b 16 0 []
    have l2 : (sch2F (sch1F b)).length = 64 := (sch2_len rightF 48 16 _).trans (by rw [l1])
    have l3 : (rndsF consts (sch2F (sch1F b)) s).length = 8 := rndsR_len rightF consts _ 64 0 s h8
    have e1 : cB1 b [] 0 = true := by simp only [cB1, h64]; rfl
    have e2 : cB2 (sch1F b) 16 = true := by simp only [cB2, l1]; rfl
    have e3 : Vse.room (([] : List Int).length + List.length (α := Int) s) 4 = true := by rw [h8]; rfl
    have lc : consts.length = 64 := rfl
    have e4 : cB3 consts (sch2F (sch1F b)) ([] ++ s) 0 = true := by simp only [cB3, List.nil_append, l2, h8, lc]; rfl
    have e5 : cB4 s (rndsF consts (sch2F (sch1F b)) ([] ++ s)) 0 = true := by simp only [cB4, List.nil_append, l3, h8]; rfl
    have e6 : (T41 consts cB1 sch1F cB2 sch2F cB3 rndsF cB4 addRF s b).eval = some (.v nt (blockF s b)) := by
      unfold T41 blockF
      rw [chk_eval e1, chk_eval e2, chk_eval e3, chk_eval e4, chk_eval e5, List.nil_append, Tr.eval]
    have e7 := (k41 rightF consts cB1 sch1F cB2 sch2F cB3 rndsF cB4 addRF s b).trans e6
    exact e7

end Go.Proofs.Ytlkddajnebjlcaa.Sha

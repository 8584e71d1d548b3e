/- A hash (layer 1, sha): what is written, and the digest. -/
import Derived.Test.YtlkddajnebjlcaaH4
set_option linter.unusedVariables false
set_option maxRecDepth 100000
namespace Go.Proofs.Ytlkddajnebjlcaa.Sha
open Go Vse Go.Proofs Gen

abbrev CW : Ctx := ctx (c42 mixF)

/-- blocks are mixed in, as many as there are -/
def absorb (m : Mx) : Nat → List Int → List Int → List Int × List Int
  | 0, s, all => (s, all)
  | n + 1, s, all => absorb m n (m s (all.take 64)) (all.drop 64)
def absF (s all : List Int) : List Int × List Int := absorb mixF (all.length / 64) s all

theorem mW : ∀ (n : Nat) (all s rest : List Int) (many : Int), all.length / 64 = n →
    SW.many (bodyK Try.prog CW L0 bW) (n + 1) ((), all, ()) ((s, rest, many, ()), ()) = some (.exit 0, encS [0, 4] [.ptr 0 [], bt] [.box hT, .dead] 53 ((), (absorb mixF n s all).2, ()) (((absorb mixF n s all).1, rest, many, ()), ()))
  | 0, all, s, rest, many, h => by
    refine rmany_inr ((rW mixF all s rest many).trans ?_) 0
    simp only [GW, Tr.eval, decide_eq_false (show ¬ ((all.length : Int) ≥ 64) by omega)]
    rfl
  | n + 1, all, s, rest, many, h => by
    have hl : 64 ≤ all.length := by omega
    refine (rmany_inl (d := (((), all.drop 64, ()), ((mixF s (all.take 64), rest, many, ()), ()))) ((rW mixF all s rest many).trans ?_) (n + 1)).trans (mW n _ _ rest many (by rw [List.length_drop]; omega))
    have h1 : decide ((all.take 64).length = 64) = true := by
      rw [List.length_take]; simp; omega
    have h2 : (decide (64 ≤ (all.length : Int)) && decide ((all.length : Int) ≤ (all.length : Int))) = true := by
      simp only [Bool.and_eq_true, decide_eq_true_eq]; omega
    simp only [GW, Tr.eval, Tr.chk, decide_eq_true (show ((all.length : Int) ≥ 64) by omega), decide_eq_true (show (64 ≤ (all.length : Int)) by omega), h1, Int.toNat_natCast, List.drop_zero, List.take_length, Bool.true_and, decide_eq_true (Int.le_refl (all.length : Int))]

theorem lW : LoopOK Try.prog (LW absF) bW :=
  rloop_ok (L := LW absF) (L' := L0) c42_sound (loopsOK_of (by kernel_rfl)) SW (F := FW absF) (i := 2) (by kernel_rfl) (fun _ => rfl) fun xs hs r h => by
    obtain ⟨u1, all, u2⟩ := xs
    obtain ⟨⟨s, rest, many, u3⟩, u4⟩ := hs
    exact ⟨_, (mW (List.length (α := Int) all / 64) all s rest many rfl).trans (congrArg some (Tr.ret_some h))⟩

/-- a hash behind some bytes -/
def writeF (b : List Int) (h : Hs) : Hs := ((absF h.1 (h.2.1 ++ b)).1, (absF h.1 (h.2.1 ++ b)).2, wu (h.2.2.1 + wu (b.length : Int)), ())
def writeP (b : List Int) (h : Hs) : Bool := decide (h.2.1.length + b.length ≤ 100000000000000)
def s20 : CSpec := .pos (wS [bs] []) (fun xs d => writeP xs.2.1 d.1) fun xs d => ((), (writeF xs.2.1 d.1, ()))

theorem absorb_rest (m : Mx) : ∀ (n : Nat) (s all : List Int), (absorb m n s all).2 = all.drop (64 * n)
  | 0, s, all => by simp [absorb]
  | n + 1, s, all => by
    rw [absorb, absorb_rest m n, List.drop_drop]
    congr 1
    omega

theorem room_le {n k : Nat} (h : n ≤ 100000000000000) : Vse.room (k * 0 + n) 1 = true := by simp only [Vse.room, decide_eq_true_eq]; omega

theorem G20_eq (b s rest : List Int) (many : Int) (h : writeP b (s, rest, many, ()) = true) : (G20 absF b s rest many).eval = some ((), (writeF b (s, rest, many, ()), ())) := by
  have h : rest.length + b.length ≤ 100000000000000 := of_decide_eq_true h
  have h0 : (decide ((0 : Int) ≤ 0) && (decide ((0 : Int) ≤ (rest.length : Int)) && (decide ((rest.length : Int) = (rest.length : Int)) && decide ((rest.length : Int) ≤ (rest.length : Int))))) = true := by simp
  have hr : (rest.take (rest.length : Int).toNat).drop (0 : Int).toNat = rest := by
    rw [Int.toNat_natCast, List.take_length]
    exact List.drop_zero
  have hp : ∀ all : List Int, all.length ≤ 100000000000000 → Vse.room (([] : List Int).length + (absF s all).2.length) 1 = true := by
    intro all hall
    have : (absF s all).2.length ≤ all.length := by unfold absF; rw [absorb_rest, List.length_drop]; omega
    simp only [Vse.room, decide_eq_true_eq, List.length_nil]; omega
  unfold G20
  simp only
  refine (chk_eval (by simp) _).trans ?_
  rw [hr]
  by_cases hb : b.length = 0
  · have hb0 : b = [] := List.eq_nil_of_length_eq_zero hb
    subst hb0
    rw [ite_t (decide_eq_true (show ([] : List Int).length = 0 from rfl)), chk_eval (hp rest (by omega))]
    simp only [Tr.eval, List.nil_append, writeF, List.append_nil]
  · have hroom : Vse.room (rest.length + b.length) 1 = true := by simp only [Vse.room, decide_eq_true_eq]; omega
    rw [ite_f (decide_eq_false hb), chk_eval hroom, chk_eval (hp (rest ++ b) (by rw [List.length_append]; omega))]
    simp only [Tr.eval, List.nil_append, writeF]

theorem ok20 : CSound Try.prog 20 s20 ∧ CLocal s20 :=
  pos_sound (L := LW absF) c42_sound Try.func20 (by kernel_rfl) (loops1 (by kernel_rfl) lW) fun xs hs _ _ hp => by
    obtain ⟨u, b, u'⟩ := xs
    obtain ⟨⟨s, rest, many, u1⟩, u2⟩ := hs
    exact (k20 mixF absF b s rest many).trans (G20_eq b s rest many hp)

/-! the digest -/

abbrev CS : Ctx := ctx (c20 writeF writeP)
theorem c20_sound : CtxSound Try.prog CS ∧ CtxLocal CS := ctx_sound ⟨ok20, trivial⟩

/-- how many bytes 0 are to be laid behind so many -/
def padN (n : Nat) : Nat := (64 - (n + 8) % 64) % 64
def smallI (h : Hs) (f : List Int) : Bool := decide (h.2.1.length ≤ 1000000) && decide (f.length ≤ 1000000)
def padL (h : Hs) (f : List Int) : List Int := f ++ List.replicate (padN (h.2.1.length + f.length)) 0
def FS1 (c : Hs → List Int → Bool) (P : Hs → List Int → List Int) (xs : HL SS1.Ts) (hs : HD SS1.Es) : Tr (Ex × St) :=
  .chk (c hs.1 hs.2.2.2.1) (.ret (.exit 0, encS [0, 2, 3, 4] [.ptr 0 [], .ptr 1 [], .ptr 2 [], .vc 3 1] (eS 1) 68 ((), (), (), (), ()) (hs.1, hs.2.1, hs.2.2.1, P hs.1 hs.2.2.2.1, ())))
def tailB (h : Hs) (i : Nat) : Int := wb (shrI .u64 (shlI .u64 h.2.2.1 3) (w (8 * (i : Int))))
def tail8 (h : Hs) : List Int := [tailB h 7, tailB h 6, tailB h 5, tailB h 4, tailB h 3, tailB h 2, tailB h 1, tailB h 0]
def FS2 (c : List Int → Int → Bool) (P : Hs → List Int) (xs : HL SS2.Ts) (hs : HD SS2.Es) : Tr (Ex × St) :=
  .chk (c hs.2.2.2.1 xs.2.2.2.2.1) (.ret (.exit 2, encS [0, 2, 3, 4] [.ptr 0 [], .ptr 1 [], .ptr 2 [], .vc 3 2] (eS 2) 68 ((), (), (), (), ()) (hs.1, hs.2.1, hs.2.2.1, hs.2.2.2.1 ++ P hs.1, ())))
def outB (s : List Int) (i : Nat) : Int := wb (shrI .u32 (s.getD (i / 4) 0) (8 * (3 - (i % 4 : Nat))))
def outL (s : List Int) : Nat → Nat → List Int → List Int
  | _, 0, q => q
  | i, m + 1, q => outL s (i + 1) m (q.set i (outB s i))
def outF (s q : List Int) : List Int := outL s 0 32 q
def FS3 (P : List Int → List Int → List Int) (xs : HL SS3.Ts) (hs : HD SS3.Es) : Tr (Ex × St) :=
  .chk (decide (xs.2.2.2.1 = (0 : Int))) (.ret (.exit 4, encS [2, 6] [.ptr 1 [], .ptr 4 []] [.box hT, .box d32, .dead, .dead, .box d32] 68 ((), (), ()) (hs.1, hs.2.1, P hs.2.2.1.1 hs.2.2.2.1, ())))
def LS (c1 : Hs → List Int → Bool) (P1 : Hs → List Int → List Int) (c2 : List Int → Int → Bool) (P2 : Hs → List Int) (P3 : List Int → List Int → List Int) : Loops := fun j st =>
  if j = 3 then SS1.fn (FS1 c1 P1) st else if j = 6 then SS2.fn (FS2 c2 P2) st else if j = 12 then SS3.fn (FS3 P3) st else .fail
def small2 (f : List Int) (i : Int) : Bool := decide (i = 7) && decide (f.length ≤ 10000000)
abbrev LSF : Loops := LS smallI padL small2 tail8 outF

theorem rep_snoc (n : Nat) (f : List Int) : (f ++ [0]) ++ List.replicate n 0 = f ++ List.replicate (n + 1) 0 := by
  rw [List.append_assoc]; rfl

theorem mS1 (h l : Hs) (o : List Int) (hr : h.2.1.length ≤ 1000000) : ∀ (m : Nat) (f : List Int), f.length ≤ 2000000 - m → m ≤ 64 → padN (h.2.1.length + f.length) = m →
    SS1.many (bodyK Try.prog CS L0 bS1) (m + 1) ((), (), (), (), ()) (h, o, l, f, ()) = some (.exit 0, encS [0, 2, 3, 4] [.ptr 0 [], .ptr 1 [], .ptr 2 [], .vc 3 1] (eS 1) 68 ((), (), (), (), ()) (h, o, l, f ++ List.replicate m 0, ()))
  | 0, f, hf, h64, hp => by
    refine rmany_inr ((rS1 writeF writeP h l o f).trans ?_) 0
    have e1 : w ((h.2.1.length : Int) + (f.length : Int)) = ((h.2.1.length + f.length : Nat) : Int) := (w_id (by omega) (by omega)).trans (by omega)
    have e2 : w (((h.2.1.length + f.length : Nat) : Int) + 8) = ((h.2.1.length + f.length + 8 : Nat) : Int) := (w_id (by omega) (by omega)).trans (by omega)
    have e3 : ((h.2.1.length + f.length + 8 : Nat) : Int).tmod 64 = 0 := by
      unfold padN at hp
      have : (h.2.1.length + f.length + 8) % 64 = 0 := by omega
      rw [Int.tmod_eq_emod_of_nonneg (by omega)]
      omega
    simp only [GS1, e1, e2, e3, Tr.eval, bne_self_eq_false, List.replicate_zero, List.append_nil]
  | m + 1, f, hf, h64, hp => by
    refine (rmany_inl (d := (((), (), (), (), ()), (h, o, l, f ++ [0], ()))) ((rS1 writeF writeP h l o f).trans ?_) (m + 1)).trans ((mS1 h l o hr m (f ++ [0]) (by simp; omega) (by omega) (by unfold padN at hp ⊢; simp only [List.length_append, List.length_singleton]; omega)).trans ?_)
    · have e1 : w ((h.2.1.length : Int) + (f.length : Int)) = ((h.2.1.length + f.length : Nat) : Int) := (w_id (by omega) (by omega)).trans (by omega)
      have e2 : w (((h.2.1.length + f.length : Nat) : Int) + 8) = ((h.2.1.length + f.length + 8 : Nat) : Int) := (w_id (by omega) (by omega)).trans (by omega)
      have e3 : (((h.2.1.length + f.length + 8 : Nat) : Int).tmod 64 != 0) = true := by
        unfold padN at hp
        have : (h.2.1.length + f.length + 8) % 64 ≠ 0 := by omega
        rw [Int.tmod_eq_emod_of_nonneg (by omega), bne_iff_ne]
        omega
      have e4 : Vse.room (f.length + [(0 : Int)].length) 1 = true := by simp only [Vse.room, decide_eq_true_eq, List.length_singleton]; omega
      simp only [GS1, e1, e2, e3, e4, Tr.eval, Tr.chk]
    · rw [rep_snoc]

theorem lS1 : LoopOK Try.prog LSF bS1 :=
  rloop_ok (L := LSF) (L' := L0) c20_sound (loopsOK_of (by kernel_rfl)) SS1 (F := FS1 smallI padL) (i := 3) (by kernel_rfl) (fun _ => rfl) fun xs hs r h => by
    obtain ⟨u1, u2, u3, u4, u5⟩ := xs
    obtain ⟨hh, o, l, f, u6⟩ := hs
    obtain ⟨h1, h2⟩ := Tr.chk_some h
    simp only [smallI, Bool.and_eq_true, decide_eq_true_eq] at h1
    obtain ⟨e1, e2⟩ := h1
    exact ⟨_, (mS1 hh l o e1 _ f (by have : padN (hh.2.1.length + List.length (α := Int) f) < 64 := Nat.mod_lt _ (by omega); omega) (by have : padN (hh.2.1.length + List.length (α := Int) f) < 64 := Nat.mod_lt _ (by omega); omega) rfl).trans (congrArg some (Tr.ret_some h2))⟩

theorem mS2 (h l : Hs) (o : List Int) : ∀ (m : Nat) (f : List Int), f.length ≤ 20000000 - m → m ≤ 8 →
    SS2.many (bodyK Try.prog CS L0 bS2) (m + 1) ((), (), (), (), ((m : Int) - 1), ()) (h, o, l, f, ()) = some (.exit 2, encS [0, 2, 3, 4] [.ptr 0 [], .ptr 1 [], .ptr 2 [], .vc 3 2] (eS 2) 68 ((), (), (), (), ()) (h, o, l, f ++ (tail8 h).drop (8 - m), ()))
  | 0, f, hf, h8 => by
    refine rmany_inr ((rS2 writeF writeP h l o f _).trans ?_) 0
    have : (tail8 h).drop (8 - 0) = [] := rfl
    rw [this, List.append_nil]
    rfl
  | m + 1, f, hf, h8 => by
    have e1 : ((m + 1 : Nat) : Int) - 1 = (m : Int) := by omega
    rw [e1]
    refine (rmany_inl (d := (((), (), (), (), (m : Int) - 1, ()), (h, o, l, f ++ [tailB h m], ()))) ((rS2 writeF writeP h l o f _).trans ?_) (m + 1)).trans ((mS2 h l o m (f ++ [tailB h m]) (by simp; omega) (by omega)).trans ?_)
    · have e2 : decide (0 ≤ w (8 * (m : Int))) = true := decide_eq_true (by rw [w_id (by omega) (by omega)]; omega)
      have e4 : Vse.room (f.length + [(0 : Int)].length) 1 = true := by simp only [Vse.room, decide_eq_true_eq, List.length_singleton]; omega
      simp only [GS2, Tr.eval, Tr.chk, decide_eq_true (show ((m : Int) ≥ 0) by omega), e2, e4]
      rw [w_id (x := (m : Int) - 1) (by omega) (by omega)]
      rfl
    · have : (tail8 h).drop (8 - (m + 1)) = tailB h m :: (tail8 h).drop (8 - m) := by
        match m, h8 with
        | 0, _ => rfl
        | 1, _ => rfl
        | 2, _ => rfl
        | 3, _ => rfl
        | 4, _ => rfl
        | 5, _ => rfl
        | 6, _ => rfl
        | 7, _ => rfl
      rw [this, List.append_assoc]
      rfl

theorem lS2 : LoopOK Try.prog LSF bS2 :=
  rloop_ok (L := LSF) (L' := L0) c20_sound (loopsOK_of (by kernel_rfl)) SS2 (F := FS2 small2 tail8) (i := 6) (by kernel_rfl) (fun _ => rfl) fun xs hs r h => by
    obtain ⟨u1, u2, u3, u4, i, u5⟩ := xs
    obtain ⟨hh, o, l, f, u6⟩ := hs
    obtain ⟨h1, h2⟩ := Tr.chk_some h
    simp only [small2, Bool.and_eq_true, decide_eq_true_eq] at h1
    obtain ⟨e1, e2⟩ := h1
    have e1 : i = ((8 : Nat) : Int) - 1 := e1
    subst e1
    exact ⟨_, (mS2 hh l o 8 f (by omega) (by omega)).trans (congrArg some (Tr.ret_some h2))⟩

theorem mS3 (h l : Hs) (o : List Int) : ∀ (m i : Nat) (q : List Int), i + m = 32 →
    SS3.many (bodyK Try.prog CS L0 bS3) (m + 1) ((), (), (), (i : Int), ()) (h, o, l, q, ()) = some (.exit 4, encS [2, 6] [.ptr 1 [], .ptr 4 []] [.box hT, .box d32, .dead, .dead, .box d32] 68 ((), (), ()) (h, o, outL l.1 i m q, ()))
  | 0, i, q, hi => by
    refine rmany_inr ((rS3 writeF writeP h l o q i).trans ?_) 0
    simp only [GS3, Tr.eval, decide_eq_false (show ¬ ((i : Int) < 32) by omega)]
    rfl
  | m + 1, i, q, hi => by
    refine (rmany_inl (d := (((), (), (), ((i + 1 : Nat) : Int), ()), (h, o, l, q.set i (outB l.1 i), ()))) ((rS3 writeF writeP h l o q i).trans ?_) (m + 1)).trans (mS3 h l o m (i + 1) _ (by omega))
    have d4 : ((i : Nat) : Int).tdiv 4 = ((i / 4 : Nat) : Int) := by rw [Int.tdiv_eq_ediv_of_nonneg (by omega)]; omega
    have m4 : ((i : Nat) : Int).tmod 4 = ((i % 4 : Nat) : Int) := by rw [Int.tmod_eq_emod_of_nonneg (by omega)]; omega
    have w1 : w ((i / 4 : Nat) : Int) = ((i / 4 : Nat) : Int) := w_id (by omega) (by omega)
    have w2 : w (3 - ((i % 4 : Nat) : Int)) = 3 - ((i % 4 : Nat) : Int) := w_id (by omega) (by omega)
    have w3' : w (8 * (3 - ((i % 4 : Nat) : Int))) = 8 * (3 - ((i % 4 : Nat) : Int)) := w_id (by omega) (by omega)
    have w4 : w ((i : Int) + 1) = ((i + 1 : Nat) : Int) := (w_id (by omega) (by omega)).trans (by omega)
    simp only [GS3, Tr.eval, Tr.chk, decide_eq_true (show ((i : Int) < 32) by omega), d4, m4, w1, w2, w3', w4, inArrK64 (i := ((i / 4 : Nat) : Int)) (n := 8) (by omega) (by omega) (by omega), decide_eq_true (show 0 ≤ 8 * (3 - ((i % 4 : Nat) : Int)) by omega),
      inArrK64 (i := (i : Int)) (n := 32) (by omega) (by omega) (by omega), Int.toNat_natCast]
    rfl

theorem lS3 : LoopOK Try.prog LSF bS3 :=
  rloop_ok (L := LSF) (L' := L0) c20_sound (loopsOK_of (by kernel_rfl)) SS3 (F := FS3 outF) (i := 12) (by kernel_rfl) (fun _ => rfl) fun xs hs r h => by
    obtain ⟨u1, u2, u3, i, u5⟩ := xs
    obtain ⟨hh, o, l, q, u6⟩ := hs
    obtain ⟨h1, h2⟩ := Tr.chk_some h
    have e1 : i = ((0 : Nat) : Int) := of_decide_eq_true h1
    subst e1
    exact ⟨_, (mS3 hh l o 32 0 q (by omega)).trans (congrArg some (Tr.ret_some h2))⟩

def zeros32 : List Int := [0, 0, 0, 0, 0, 0, 0, 0, 0, 0, 0, 0, 0, 0, 0, 0, 0, 0, 0, 0, 0, 0, 0, 0, 0, 0, 0, 0, 0, 0, 0, 0]
def G21 (W : Wr) (p : List Int → Hs → Bool) (c1 : Hs → List Int → Bool) (P1 : Hs → List Int → List Int) (c2 : List Int → Int → Bool) (P2 : Hs → List Int) (P3 : List Int → List Int → List Int) (h : Hs) : Tr (wS [] [d32]).Out :=
  .chk (c1 h [128]) (.chk (c2 (P1 h [128]) 7) (.chk (p (P1 h [128] ++ P2 h) (h.1, h.2.1, 0, ())) (.ret ((P3 (W (P1 h [128] ++ P2 h) (h.1, h.2.1, 0, ())).1 zeros32, ()), (h, ())))))
theorem k21 (W : Wr) (p : List Int → Hs → Bool) (c1 : Hs → List Int → Bool) (P1 : Hs → List Int → List Int) (c2 : List Int → Int → Bool) (P2 : Hs → List Int) (P3 : List Int → List Int → List Int) (h : Hs) :
    (fnP Try.prog (ctx (c20 W p)) (LS c1 P1 c2 P2 P3) (wS [] [d32]) Try.f21 ((), ()) (h, ())).eval = (G21 W p c1 P1 c2 P2 P3 h).eval := by kernel_rfl

/-- the digest of a hash -/
def fillF (h : Hs) : List Int := padL h [128] ++ tail8 h
def sumH (h : Hs) : List Int := outF (writeF (fillF h) (h.1, h.2.1, 0, ())).1 zeros32
def s21 : CSpec := .pos (wS [] [d32]) (fun _ d => decide (d.1.2.1.length ≤ 1000000)) fun _ d => ((sumH d.1, ()), d)

theorem padN_lt (n : Nat) : padN n < 64 := Nat.mod_lt _ (by omega)

theorem G21_eq (h : Hs) (hr : h.2.1.length ≤ 1000000) : (G21 writeF writeP smallI padL small2 tail8 outF h).eval = some ((sumH h, ()), (h, ())) := by
  have hp := padN_lt (h.2.1.length + 1)
  have hl : (padL h [128]).length = 1 + padN (h.2.1.length + 1) := by simp [padL]; omega
  have e1 : smallI h [128] = true := by simp only [smallI, Bool.and_eq_true, decide_eq_true_eq]; exact ⟨hr, by decide⟩
  have e2 : small2 (padL h [128]) 7 = true := by simp only [small2, Bool.and_eq_true, decide_eq_true_eq, hl]; exact ⟨trivial, by omega⟩
  have e3 : writeP (padL h [128] ++ tail8 h) (h.1, h.2.1, 0, ()) = true := by
    have : (tail8 h).length = 8 := rfl
    simp only [writeP, decide_eq_true_eq, List.length_append, hl, this]; omega
  simp only [G21, Tr.chk, e1, e2, e3, Tr.eval]
  rfl

theorem ok21 : CSound Try.prog 21 s21 ∧ CLocal s21 :=
  pos_sound (L := LSF) c20_sound Try.func21 (by kernel_rfl) (fun b hb => by
    have : loopsOf (bodyOf Try.f21) = [bS1, bS2, bS3] := by kernel_rfl
    rw [this] at hb
    simp only [List.mem_cons, List.not_mem_nil, or_false] at hb
    rcases hb with rfl | rfl | rfl
    · exact lS1
    · exact lS2
    · exact lS3) fun xs hs _ _ hp => by
    obtain ⟨u, u'⟩ := xs
    obtain ⟨h, u2⟩ := hs
    exact (k21 writeF writeP smallI padL small2 tail8 outF h).trans (G21_eq h (of_decide_eq_true hp))

/-! the digest of bytes -/

def c16 (i : Hs) (W : Wr) (p : List Int → Hs → Bool) (q : Hs → Bool) (S : Hs → List Int) : List (Nat × CSpec) :=
  [(19, .pos nH (fun _ _ => true) fun _ _ => (((), ()), (i, ()))), (20, .pos (wS [bs] []) (fun xs d => p xs.2.1 d.1) fun xs d => ((), (W xs.2.1 d.1, ()))), (21, .pos (wS [] [d32]) (fun _ d => q d.1) fun _ d => ((S d.1, ()), d))]
def h0 : Hs := (init, [], 0, ())
def restP (h : Hs) : Bool := decide (h.2.1.length ≤ 1000000)
theorem c16_sound : CtxSound Try.prog (ctx (c16 h0 writeF writeP restP sumH)) ∧ CtxLocal (ctx (c16 h0 writeF writeP restP sumH)) := ctx_sound ⟨ok19, ok20, ok21, trivial⟩
def shaF (b : List Int) : List Int := sumH (writeF b h0)
def shaP (b : List Int) : Bool := decide (b.length ≤ 100000000000000)
def s16 : CSpec := .slp1 [bs] (fun x => shaP x.1) d32 fun x => shaF x.1
def T16 (i : Hs) (W : Wr) (p : List Int → Hs → Bool) (q : Hs → Bool) (S : Hs → List Int) (b : List Int) : Tr AV := .chk (p b i) (.chk (q (W b i)) (.ret (.v d32 (S (W b i)))))
theorem k16 (i : Hs) (W : Wr) (p : List Int → Hs → Bool) (q : Hs → Bool) (S : Hs → List Int) (b : List Int) : nrm (fnS Try.prog (ctx (c16 i W p q S)) L0 [d32] Try.f16 (mkArgs [bs] (b, ()))) = (T16 i W p q S b).eval := by kernel_rfl

theorem abs_rest (s all : List Int) : (absF s all).2.length = all.length % 64 := by
  unfold absF
  rw [absorb_rest, List.length_drop]
  omega

theorem ok16 : CSound Try.prog 16 s16 ∧ CLocal s16 :=
  slpE1 (L := L0) c16_sound Try.func16 (by kernel_rfl) (noLoopsL (by kernel_rfl)) fun xs hx hp => by
    obtain ⟨b, u⟩ := xs
    have hp : List.length (α := Int) b ≤ 100000000000000 := of_decide_eq_true hp
    have e1 : writeP b h0 = true := decide_eq_true (by show 0 + List.length (α := Int) b ≤ _; omega)
    have e2 : restP (writeF b h0) = true := decide_eq_true (by
      show (absF h0.1 (h0.2.1 ++ b)).2.length ≤ 1000000
      rw [abs_rest]
      omega)
    have e3 : (T16 h0 writeF writeP restP sumH b).eval = some (.v d32 (shaF b)) := by
      unfold T16 shaF
      rw [chk_eval e1, chk_eval e2, Tr.eval]
    exact (k16 h0 writeF writeP restP sumH b).trans e3

end Go.Proofs.Ytlkddajnebjlcaa.Sha

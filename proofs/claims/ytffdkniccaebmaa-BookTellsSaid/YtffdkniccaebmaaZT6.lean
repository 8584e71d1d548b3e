/- The statements of layer 15 (book) hold: BookTells. No conditions but the given ones. Part 6. -/
import Derived.Test.YtffdkniccaebmaaZT5
import Derived.Test.YtffdkniccaebmaaRows
import Derived.ProofKit
import Derived.SizedLaws
set_option linter.unusedVariables false
set_option linter.unusedSimpArgs false
section
set_option linter.unusedVariables false
set_option linter.unusedSimpArgs false
set_option maxRecDepth 100000
namespace Go.Proofs.Ytffdkniccaebmaa.Bok
open Go Vse Go.Proofs Gen
def smallB (b : Bk) : Bool := decide (b.1.length ≤ 50) && decide (b.2.1.length ≤ 200)
theorem TAr_eq (b : Bk) (x : Op) (hb : smallB b = true) : (TAr rtF idxE hasW b x).eval = some (((applyF b x).1, (applyF b x).2, ()), ()) := by
 unfold smallB at hb
 simp only [Bool.and_eq_true, decide_eq_true_eq] at hb
 obtain ⟨L, r, g, o, u⟩ := b
 obtain ⟨k, s, key, n, u'⟩ := x
 have hL : L.length ≤ 50 := hb.1
 have hr : r.length ≤ 200 := hb.2
 have hi : hasE L s = true → idxE L s = ((L.findIdx fun e => e.1 == s : Nat) : Int) := fun h => if_pos h
 have hn : hasE L s = false → idxE L s = -1 := fun h => if_neg (by rw [h]; simp)
 unfold TAr applyF
 dsimp only
 cases hrt : rtF (k, s, key, n, u') with
 | false => rw [ite_t (show (!false) = true from rfl), if_neg (by simp)]; rfl
 | true =>
  rw [ite_f (show (!true) = false from rfl), if_pos rfl, chk_eval (by simp only [Vse.room, decide_eq_true_eq]; omega), chk_eval (by simp only [Vse.room, decide_eq_true_eq]; omega)]
  by_cases h1 : k = 1
  ·rw [ite_t (by simp [h1])]
   cases hq : hasE L s with
   | true =>
    have hd : doneF (k, s, key, n, u') ((L, r, g, o, u) : Bk) = (5, L, r, g, o, u) := by unfold doneF; dsimp only; rw [if_pos h1, if_pos hq]
    rw [hi hq, ite_t (decide_eq_true (by omega)), hd]; rfl
   | false =>
    rw [hn hq, ite_f (by decide)]
    by_cases h5 : L.length = 50
    ·have hd : doneF (k, s, key, n, u') ((L, r, g, o, u) : Bk) = (7, L, r, g, o, u) := by unfold doneF; dsimp only; rw [if_pos h1, if_neg (by rw [hq]; simp), if_pos h5]
     rw [ite_t (decide_eq_true (by omega)), hd]; rfl
    ·have hd : doneF (k, s, key, n, u') ((L, r, g, o, u) : Bk) = (0, L ++ [(s, key, ())], r, g, o, u) := by unfold doneF; dsimp only; rw [if_pos h1, if_neg (by rw [hq]; simp), if_neg h5]
     rw [ite_f (decide_eq_false (by omega)), chk_eval (by simp only [Vse.room, decide_eq_true_eq]; omega), hd]; rfl
  rw [ite_f (by simp [h1])]
  by_cases h2 : k = 2
  ·rw [ite_t (by simp [h2]), ite_t (by simp [h2])]
   cases hq : hasE L s with
   | false =>
    have hd : doneF (k, s, key, n, u') ((L, r, g, o, u) : Bk) = (4, L, r, g, o, u) := by unfold doneF; dsimp only; rw [if_neg h1, if_pos h2, if_neg (by rw [hq]; simp)]
    rw [hn hq, ite_t (by decide), hd]; rfl
   | true =>
    have hd : doneF (k, s, key, n, u') ((L, r, g, o, u) : Bk) = (0, L.take (L.findIdx fun e => e.1 == s) ++ L.drop ((L.findIdx fun e => e.1 == s) + 1), r, g, o, u) := by unfold doneF; dsimp only; rw [if_neg h1, if_pos h2, if_pos hq]
    obtain ⟨a1, a2⟩ := has_at hq
    rw [hi hq, ite_f (decide_eq_false (by omega)), ite_t (by simp [h2]), chk_eval (by rw [Bool.and_eq_true, decide_eq_true_eq, decide_eq_true_eq]; omega), w_succ a1 (by omega), Int.toNat_natCast, Int.toNat_natCast, List.drop_zero, List.take_of_length_le (Nat.le_refl _),
     chk_eval (by simp only [Vse.room, decide_eq_true_eq, List.length_take]; omega), chk_eval (by simp only [Bool.and_eq_true, decide_eq_true_eq]; omega), chk_eval (by simp only [Vse.room, decide_eq_true_eq, List.length_take, List.length_drop]; omega), hd]
    rfl
  rw [ite_f (by simp [h2])]
  by_cases h3 : k = 3
  ·rw [ite_t (by simp [h3])]
   cases hq : hasE L s with
   | false =>
    have hd : doneF (k, s, key, n, u') ((L, r, g, o, u) : Bk) = (4, L, r, g, o, u) := by unfold doneF; dsimp only; rw [if_neg h1, if_neg h2, if_pos h3, if_neg (by rw [hq]; simp)]
    rw [hn hq, ite_t (by decide), hd]; rfl
   | true =>
    have hd : doneF (k, s, key, n, u') ((L, r, g, o, u) : Bk) = (0, L.set (L.findIdx fun e => e.1 == s) (s, key, ()), r, g, o, u) := by unfold doneF; dsimp only; rw [if_neg h1, if_neg h2, if_pos h3, if_pos hq]
    obtain ⟨a1, a2⟩ := has_at hq
    have hky := ky_eq (key := key) hq
    rw [hky, hi hq, ite_f (decide_eq_false (by omega)), ite_f (by simp [h2]), chk_eval (inArr_of a1), hd]
    rfl
  rw [ite_f (by simp [h3])]
  by_cases h4 : k = 4
  ·rw [ite_t (by simp [h4])]
   cases hq : hasW r key with
   | true =>
    have hd : doneF (k, s, key, n, u') ((L, r, g, o, u) : Bk) = (5, L, r, g, o, u) := by unfold doneF; dsimp only; rw [if_neg h1, if_neg h2, if_neg h3, if_pos h4, if_pos hq]
    rw [ite_t rfl, hd]; rfl
   | false =>
    rw [ite_f rfl]
    by_cases h5 : r.length = 200
    ·have hd : doneF (k, s, key, n, u') ((L, r, g, o, u) : Bk) = (7, L, r, g, o, u) := by unfold doneF; dsimp only; rw [if_neg h1, if_neg h2, if_neg h3, if_pos h4, if_neg (by rw [hq]; simp), if_pos h5]
     rw [ite_t (decide_eq_true (by omega)), hd]; rfl
    ·have hd : doneF (k, s, key, n, u') ((L, r, g, o, u) : Bk) = (0, L, r ++ [key], g, o, u) := by unfold doneF; dsimp only; rw [if_neg h1, if_neg h2, if_neg h3, if_pos h4, if_neg (by rw [hq]; simp), if_neg h5]
     rw [ite_f (decide_eq_false (by omega)), chk_eval (by simp only [Vse.room, decide_eq_true_eq]; omega), hd]; rfl
  rw [ite_f (by simp [h4])]
  by_cases h5 : k = 5
  ·rw [ite_t (by simp [h5])]
   by_cases h6 : n ≤ g
   ·have hd : doneF (k, s, key, n, u') ((L, r, g, o, u) : Bk) = (5, L, r, g, o, u) := by unfold doneF; dsimp only; rw [if_neg h1, if_neg h2, if_neg h3, if_neg h4, if_pos h5, if_pos h6]
    rw [ite_t (decide_eq_true h6), hd]; rfl
   ·have hd : doneF (k, s, key, n, u') ((L, r, g, o, u) : Bk) = (0, L, r, n, key, ()) := by unfold doneF; dsimp only; rw [if_neg h1, if_neg h2, if_neg h3, if_neg h4, if_pos h5, if_neg h6]
    rw [ite_f (decide_eq_false h6), hd]; rfl
  ·have hd : doneF (k, s, key, n, u') ((L, r, g, o, u) : Bk) = (0, L, r, g, o, u) := by unfold doneF; dsimp only; rw [if_neg h1, if_neg h2, if_neg h3, if_neg h4, if_neg h5]
   rw [ite_f (by simp [h5]), hd]; rfl
def sAr (p : Bk → Bool) (f : Bk → Op → Bk × Int) : CSpec := .pos nAr (fun xs _ => p xs.1) fun xs _ => (((f xs.1 xs.2.1).1, (f xs.1 xs.2.1).2, ()), ())
theorem okAr : CSound Try.prog 57 (sAr smallB applyF) ∧ CLocal (sAr smallB applyF) :=
 pos_sound (L := L0) (C := ctx (cAr rtF idxE hasW)) (ctx_sound ⟨okRr, okAk, okDr, trivial⟩) Try.func57 (by kernel_rfl) (noLoopsL (by kernel_rfl)) fun xs hs hx hh hp => by
  obtain ⟨b, x, u⟩ := xs
  exact (tAr rtF idxE hasW b x).trans (TAr_eq b x hp)
abbrev mE2 : List ETy := [.box tBl, .box tBl]
def SS1 : RSpec := ⟨[2, 3, 5], 73, [.ptr 0 [], .ptr 1 [], i64], mE2, mE2, [], fun x => match x with | .ret => ([4], [.bool], [.dead, .dead]) | _ => ([2, 3], [.ptr 0 [], .ptr 1 []], mE2)⟩
def SS2 : RSpec := ⟨[2, 3, 6], 73, [.ptr 0 [], .ptr 1 [], i64], mE2, mE2, [], fun x => match x with | .ret => ([4], [.bool], [.dead, .dead]) | _ => ([], [], [.dead, .dead])⟩
noncomputable def bS1 : Code := loopAt Try.f58 0
noncomputable def bS2 : Code := loopAt Try.f58 1
def noS : Ex × St := (.ret, encS [4] [.bool] [.dead, .dead] 73 (false, ()) ())
def exS1 (a b : Bk) : Ex × St := (.exit 0, encS [2, 3] [.ptr 0 [], .ptr 1 []] mE2 73 ((), (), ()) (a, b, ()))
def exS2 : Ex × St := (.exit 2, encS [] [] [.dead, .dead] 73 () ())
def GS1 (a b : Bk) (i : Int) : Tr SS1.End :=
 .ite (decide (i < (a.1.length : Int))) (.chk (inArr i a.1.length) (.chk (inArr i b.1.length) (.ite (!eqT tEnt (a.1.getD i.toNat (dflt tEnt)) (b.1.getD i.toNat (dflt tEnt))) (.ret (.inr noS)) (.ret (.inl (((), (), w (i + 1), ()), (a, b, ()))))))) (.ret (.inr (exS1 a b)))
def GS2 (a b : Bk) (i : Int) : Tr SS2.End :=
 .ite (decide (i < (a.2.1.length : Int))) (.chk (inArr i a.2.1.length) (.chk (inArr i b.2.1.length) (.ite (!eqT w16 (a.2.1.getD i.toNat (dflt w16)) (b.2.1.getD i.toNat (dflt w16))) (.ret (.inr noS)) (.ret (.inl (((), (), w (i + 1), ()), (a, b, ()))))))) (.ret (.inr exS2))
theorem rS1 (a b : Bk) (i : Int) : (SS1.round (bodyK Try.prog (ctx []) L0 bS1) ((), (), i, ()) (a, b, ())).eval = (GS1 a b i).eval := by kernel_rfl
theorem rS2 (a b : Bk) (i : Int) : (SS2.round (bodyK Try.prog (ctx []) L0 bS2) ((), (), i, ()) (a, b, ())).eval = (GS2 a b i).eval := by kernel_rfl
theorem mS1 (a b : Bk) (hl : a.1.length ≤ 9223372036854775807) (hb : b.1.length = a.1.length) : ∀ (m k : Nat), k + m = a.1.length →
  SS1.many (bodyK Try.prog (ctx []) L0 bS1) (m + 1) ((), (), (k : Int), ()) (a, b, ()) = if samee (a.1.drop k) (b.1.drop k) = true then some (exS1 a b) else some noS
 | 0, k, h => by
  rw [List.drop_eq_nil_of_le (by omega), List.drop_eq_nil_of_le (by omega), if_pos (show samee [] [] = true from rfl)]
  refine rmany_inr ((rS1 a b _).trans ?_) 0
  unfold GS1
  rw [ite_f (decide_eq_false (by omega))]
  rfl
 | m + 1, k, h => by
  have h1 : k < a.1.length := by omega
  have h2 : k < b.1.length := by omega
  have e3 : samee (a.1.drop k) (b.1.drop k) = (eqT tEnt a.1[k] b.1[k] && samee (a.1.drop (k + 1)) (b.1.drop (k + 1))) := by rw [List.drop_eq_getElem_cons h1, List.drop_eq_getElem_cons h2]; rfl
  rw [e3]
  cases hq : eqT tEnt a.1[k] b.1[k] with
  | true =>
   rw [Bool.true_and]
   refine (rmany_inl (d := (((), (), ((k + 1 : Nat) : Int), ()), (a, b, ()))) ((rS1 a b _).trans ?_) (m + 1)).trans (mS1 a b hl hb m (k + 1) (by omega))
   unfold GS1
   rw [Int.toNat_natCast, ite_t (decide_eq_true (by omega)), chk_eval (inArr_of h1), chk_eval (inArr_of h2), getD_of h1, getD_of h2, ite_f (by rw [hq]; rfl), w_succ h1 hl]
   rfl
  | false =>
   rw [Bool.false_and, if_neg (by simp)]
   refine rmany_inr ((rS1 a b _).trans ?_) _
   unfold GS1
   rw [Int.toNat_natCast, ite_t (decide_eq_true (by omega)), chk_eval (inArr_of h1), chk_eval (inArr_of h2), getD_of h1, getD_of h2, ite_t (by rw [hq]; rfl)]
   rfl
theorem mS2 (a b : Bk) (hl : a.2.1.length ≤ 9223372036854775807) (hb : b.2.1.length = a.2.1.length) : ∀ (m k : Nat), k + m = a.2.1.length →
  SS2.many (bodyK Try.prog (ctx []) L0 bS2) (m + 1) ((), (), (k : Int), ()) (a, b, ()) = if samew (a.2.1.drop k) (b.2.1.drop k) = true then some exS2 else some noS
 | 0, k, h => by
  rw [List.drop_eq_nil_of_le (by omega), List.drop_eq_nil_of_le (by omega), if_pos (show samew [] [] = true from rfl)]
  refine rmany_inr ((rS2 a b _).trans ?_) 0
  unfold GS2
  rw [ite_f (decide_eq_false (by omega))]
  rfl
 | m + 1, k, h => by
  have h1 : k < a.2.1.length := by omega
  have h2 : k < b.2.1.length := by omega
  have e3 : samew (a.2.1.drop k) (b.2.1.drop k) = (eqT w16 a.2.1[k] b.2.1[k] && samew (a.2.1.drop (k + 1)) (b.2.1.drop (k + 1))) := by rw [List.drop_eq_getElem_cons h1, List.drop_eq_getElem_cons h2]; rfl
  rw [e3]
  cases hq : eqT w16 a.2.1[k] b.2.1[k] with
  | true =>
   rw [Bool.true_and]
   refine (rmany_inl (d := (((), (), ((k + 1 : Nat) : Int), ()), (a, b, ()))) ((rS2 a b _).trans ?_) (m + 1)).trans (mS2 a b hl hb m (k + 1) (by omega))
   unfold GS2
   rw [Int.toNat_natCast, ite_t (decide_eq_true (by omega)), chk_eval (inArr_of h1), chk_eval (inArr_of h2), getD_of h1, getD_of h2, ite_f (by rw [hq]; rfl), w_succ h1 hl]
   rfl
  | false =>
   rw [Bool.false_and, if_neg (by simp)]
   refine rmany_inr ((rS2 a b _).trans ?_) _
   unfold GS2
   rw [Int.toNat_natCast, ite_t (decide_eq_true (by omega)), chk_eval (inArr_of h1), chk_eval (inArr_of h2), getD_of h1, getD_of h2, ite_t (by rw [hq]; rfl)]
   rfl
abbrev Css := Bk → Bk → Int → Bool
def cS1 : Css := fun a b i => decide (i = 0) && (decide (a.1.length ≤ 9223372036854775807) && decide (b.1.length = a.1.length))
def cS2 : Css := fun a b i => decide (i = 0) && (decide (a.2.1.length ≤ 9223372036854775807) && decide (b.2.1.length = a.2.1.length))
def FS1 (c : Css) (f : List En → List En → Bool) (xs : HL SS1.Ts) (hs : HD SS1.Es) : Tr (Ex × St) := .chk (c hs.1 hs.2.1 xs.2.2.1) (.ite (f hs.1.1 hs.2.1.1) (.ret (exS1 hs.1 hs.2.1)) (.ret noS))
def FS2 (c : Css) (f : List (List Int) → List (List Int) → Bool) (xs : HL SS2.Ts) (hs : HD SS2.Es) : Tr (Ex × St) := .chk (c hs.1 hs.2.1 xs.2.2.1) (.ite (f hs.1.2.1 hs.2.1.2.1) (.ret exS2) (.ret noS))
def LS (c1 : Css) (f1 : List En → List En → Bool) (c2 : Css) (f2 : List (List Int) → List (List Int) → Bool) : Loops := fun j st => if j = 4 then SS1.fn (FS1 c1 f1) st else if j = 9 then SS2.fn (FS2 c2 f2) st else .fail
abbrev LSF : Loops := LS cS1 samee cS2 samew
theorem lS1 : LoopOK Try.prog LSF bS1 :=
 rloop_ok (L := LSF) (L' := L0) nil_sound (loopsOK_of (by kernel_rfl)) SS1 (F := FS1 cS1 samee) (i := 4) (by kernel_rfl) (fun _ => rfl) fun xs hs q h => by
  obtain ⟨u1, u2, i, u3⟩ := xs
  obtain ⟨a, b, u4⟩ := hs
  obtain ⟨h1, h2⟩ := Tr.chk_some h
  simp only [cS1, Bool.and_eq_true, decide_eq_true_eq] at h1
  obtain ⟨e1, e2, e3⟩ := h1
  have e1 : i = ((0 : Nat) : Int) := e1
  subst e1
  refine ⟨_, (mS1 a b e2 e3 a.1.length 0 (by omega)).trans ?_⟩
  rw [List.drop_zero, List.drop_zero]
  rcases Tr.ite_some h2 with ⟨hx, h3⟩ | ⟨hx, h3⟩
  ·have hx : samee a.1 b.1 = true := hx
   rw [if_pos hx]; exact congrArg some (Tr.ret_some h3)
  ·have hx : samee a.1 b.1 = false := hx
   rw [if_neg (by rw [hx]; simp)]; exact congrArg some (Tr.ret_some h3)
theorem lS2 : LoopOK Try.prog LSF bS2 :=
 rloop_ok (L := LSF) (L' := L0) nil_sound (loopsOK_of (by kernel_rfl)) SS2 (F := FS2 cS2 samew) (i := 9) (by kernel_rfl) (fun _ => rfl) fun xs hs q h => by
  obtain ⟨u1, u2, i, u3⟩ := xs
  obtain ⟨a, b, u4⟩ := hs
  obtain ⟨h1, h2⟩ := Tr.chk_some h
  simp only [cS2, Bool.and_eq_true, decide_eq_true_eq] at h1
  obtain ⟨e1, e2, e3⟩ := h1
  have e1 : i = ((0 : Nat) : Int) := e1
  subst e1
  refine ⟨_, (mS2 a b e2 e3 a.2.1.length 0 (by omega)).trans ?_⟩
  rw [List.drop_zero, List.drop_zero]
  rcases Tr.ite_some h2 with ⟨hx, h3⟩ | ⟨hx, h3⟩
  ·have hx : samew a.2.1 b.2.1 = true := hx
   rw [if_pos hx]; exact congrArg some (Tr.ret_some h3)
  ·have hx : samew a.2.1 b.2.1 = false := hx
   rw [if_neg (by rw [hx]; simp)]; exact congrArg some (Tr.ret_some h3)
def TS (c1 : Css) (f1 : List En → List En → Bool) (c2 : Css) (f2 : List (List Int) → List (List Int) → Bool) (a b : Bk) : Tr nSm.Out :=
 let R (x : Bool) : Tr nSm.Out := .ret ((x, ()), ())
 .ite (!decide ((a.1.length : Int) = (b.1.length : Int))) (R false) (.ite (!decide ((a.2.1.length : Int) = (b.2.1.length : Int))) (R false) (.ite (!decide (a.2.2.1 = b.2.2.1)) (R false) (.ite (!eqT w16 a.2.2.2.1 b.2.2.2.1) (R false)
  (.chk (c1 a b 0) (.ite (f1 a.1 b.1) (.chk (c2 a b 0) (.ite (f2 a.2.1 b.2.1) (R true) (R false))) (R false))))))
theorem tS (c1 : Css) (f1 : List En → List En → Bool) (c2 : Css) (f2 : List (List Int) → List (List Int) → Bool) (a b : Bk) : (fnP Try.prog (ctx []) (LS c1 f1 c2 f2) nSm Try.f58 (a, b, ()) ()).eval = (TS c1 f1 c2 f2 a b).eval := by kernel_rfl
theorem okSr : CSound Try.prog 58 (sSmB smF) ∧ CLocal (sSmB smF) :=
 pos_sound (L := LSF) nil_sound Try.func58 (by kernel_rfl) (loops2 (by kernel_rfl) lS1 lS2) fun xs hs hx hh hp => by
  obtain ⟨a, b, u⟩ := xs
  refine (tS cS1 samee cS2 samew a b).trans ?_
  have l1 : a.1.length ≤ 9223372036854775807 := hx.1.1.1
  have l2 : a.2.1.length ≤ 9223372036854775807 := hx.1.2.1.1
  show _ = some ((smF a b, ()), ())
  have hs1 := samee_iff a.1 b.1
  have hs2 := samew_iff a.2.1 b.2.1
  unfold TS smF
  dsimp only
  by_cases h1 : a.1.length = b.1.length
  ·rw [ite_f (by rw [decide_eq_true (show (a.1.length : Int) = (b.1.length : Int) by omega)]; rfl)]
   by_cases h2 : a.2.1.length = b.2.1.length
   ·rw [ite_f (by rw [decide_eq_true (show (a.2.1.length : Int) = (b.2.1.length : Int) by omega)]; rfl)]
    by_cases h3 : a.2.2.1 = b.2.2.1
    ·rw [ite_f (by rw [decide_eq_true h3]; rfl), decide_eq_true h3, Bool.true_and]
     have c1 : cS1 a b 0 = true := by unfold cS1; rw [decide_eq_true l1, decide_eq_true h1.symm]; rfl
     have c2 : cS2 a b 0 = true := by unfold cS2; rw [decide_eq_true l2, decide_eq_true h2.symm]; rfl
     rw [c1, c2]
     cases eqT w16 a.2.2.2.1 b.2.2.2.1 <;> cases samee a.1 b.1 <;> cases samew a.2.1 b.2.1 <;> rfl
    ·rw [ite_t (by rw [decide_eq_false h3]; rfl), decide_eq_false h3, Bool.false_and, Bool.and_false, Bool.and_false]; rfl
   ·rw [ite_t (by rw [decide_eq_false (show ¬ (a.2.1.length : Int) = (b.2.1.length : Int) by omega)]; rfl)]
    cases hs : samew a.2.1 b.2.1 with
    | true => exact absurd (congrArg List.length (hs2.1 hs)) h2
    | false => rw [Bool.false_and, Bool.and_false]; rfl
  ·rw [ite_t (by rw [decide_eq_false (show ¬ (a.1.length : Int) = (b.1.length : Int) by omega)]; rfl)]
   cases hs : samee a.1 b.1 with
   | true => exact absurd (congrArg List.length (hs1.1 hs)) h1
   | false => rw [Bool.false_and]; rfl
end Go.Proofs.Ytffdkniccaebmaa.Bok
end
section
set_option linter.unusedVariables false
set_option linter.unusedSimpArgs false
set_option maxRecDepth 100000
namespace Go.Proofs.Ytffdkniccaebmaa.Bok
open Go Vse Go.Proofs Gen
noncomputable def bD1 : Code := loopAt Try.f62 0
noncomputable def bD2 : Code := loopAt Try.f62 1
def SD1 : RSpec := ⟨[1, 3, 4], 57, [.ptr 0 [], .vc 1 1, i64], [.box tBl, .vec 1 tOp], [.box tBl], [.slot 3 tOp], fun _ => ([1, 3], [.ptr 0 [], .vc 1 1], [.box tBl, .vec 1 tOp])⟩
def SD2 : RSpec := ⟨[1, 3, 5], 57, [.ptr 0 [], .vc 1 2, i64], [.box tBl, .vec 2 tOp], [.box tBl, .vec 1 tOp], [], fun _ => ([1, 3], [.ptr 0 [], .vc 1 2], [.box tBl, .vec 2 tOp])⟩
def exD1 (b : Bk) (o : List Op) : Ex × St := (.exit 0, encS [1, 3] [.ptr 0 [], .vc 1 1] [.box tBl, .vec 1 tOp] 57 ((), (), ()) (b, o, ()))
def exD2 (b : Bk) (o : List Op) : Ex × St := (.exit 2, encS [1, 3] [.ptr 0 [], .vc 1 2] [.box tBl, .vec 2 tOp] 57 ((), (), ()) (b, o, ()))
def GD1 (b : Bk) (o : List Op) (i : Int) : Tr SD1.End :=
 .ite (decide (i < (b.1.length : Int))) (.chk (inArr i b.1.length) (.chk (inArr i b.1.length) (.chk (Vse.room (o.length + 1) 48) (.ret (.inl (((), (), w (i + 1), ()), (b, o ++ [addO (b.1.getD i.toNat (dflt tEnt))], ())))))))
  (.ret (.inr (exD1 b o)))
def GD2 (b : Bk) (o : List Op) (i : Int) : Tr SD2.End :=
 .ite (decide (i < (b.2.1.length : Int))) (.chk (inArr i b.2.1.length) (.chk (Vse.room (o.length + 1) 48) (.ret (.inl (((), (), w (i + 1), ()), (b, o ++ [revO (b.2.1.getD i.toNat (dflt w16))], ()))))))
  (.ret (.inr (exD2 b o)))
theorem rD1 (b : Bk) (o : List Op) (i : Int) : (SD1.round (bodyK Try.prog (ctx []) L0 bD1) ((), (), i, ()) (b, o, ())).eval = (GD1 b o i).eval := by kernel_rfl
theorem rD2 (b : Bk) (o : List Op) (i : Int) : (SD2.round (bodyK Try.prog (ctx []) L0 bD2) ((), (), i, ()) (b, o, ())).eval = (GD2 b o i).eval := by kernel_rfl
theorem mD1 (b : Bk) (hl : b.1.length ≤ 1000000) : ∀ (m k : Nat), k + m = b.1.length →
  SD1.many (bodyK Try.prog (ctx []) L0 bD1) (m + 1) ((), (), (k : Int), ()) (b, (b.1.take k).map addO, ()) = some (exD1 b (b.1.map addO))
 | 0, k, h => by
  rw [List.take_of_length_le (by omega)]
  refine rmany_inr ((rD1 b _ _).trans ?_) 0
  unfold GD1
  rw [ite_f (decide_eq_false (by omega))]
  rfl
 | m + 1, k, h => by
  have h1 : k < b.1.length := by omega
  have ht : (b.1.take k).map addO ++ [addO b.1[k]] = (b.1.take (k + 1)).map addO := by rw [List.take_add_one, List.getElem?_eq_getElem h1, List.map_append]; rfl
  refine (rmany_inl (d := (((), (), ((k + 1 : Nat) : Int), ()), (b, (b.1.take (k + 1)).map addO, ()))) ((rD1 b _ _).trans ?_) (m + 1)).trans (mD1 b hl m (k + 1) (by omega))
  unfold GD1
  rw [Int.toNat_natCast, getD_of h1, ite_t (decide_eq_true (by omega)), chk_eval (inArr_of h1), chk_eval (inArr_of h1), chk_eval (by simp only [Vse.room, decide_eq_true_eq, List.length_map, List.length_take]; omega), ht, w_succ h1 (by omega)]
  rfl
theorem mD2 (b : Bk) (o : List Op) (hl : o.length + b.2.1.length ≤ 2000000) : ∀ (m k : Nat), k + m = b.2.1.length →
  SD2.many (bodyK Try.prog (ctx []) L0 bD2) (m + 1) ((), (), (k : Int), ()) (b, o ++ (b.2.1.take k).map revO, ()) = some (exD2 b (o ++ b.2.1.map revO))
 | 0, k, h => by
  rw [List.take_of_length_le (by omega)]
  refine rmany_inr ((rD2 b _ _).trans ?_) 0
  unfold GD2
  rw [ite_f (decide_eq_false (by omega))]
  rfl
 | m + 1, k, h => by
  have h1 : k < b.2.1.length := by omega
  have ht : (o ++ (b.2.1.take k).map revO) ++ [revO b.2.1[k]] = o ++ (b.2.1.take (k + 1)).map revO := by rw [List.take_add_one, List.getElem?_eq_getElem h1, List.map_append, List.append_assoc]; rfl
  refine (rmany_inl (d := (((), (), ((k + 1 : Nat) : Int), ()), (b, o ++ (b.2.1.take (k + 1)).map revO, ()))) ((rD2 b _ _).trans ?_) (m + 1)).trans (mD2 b o hl m (k + 1) (by omega))
  unfold GD2
  rw [Int.toNat_natCast, getD_of h1, ite_t (decide_eq_true (by omega)), chk_eval (inArr_of h1), chk_eval (by simp only [Vse.room, decide_eq_true_eq, List.length_append, List.length_map, List.length_take]; omega), ht, w_succ h1 (by omega)]
  rfl
abbrev Cd := List Op → Bk → Int → Bool
def cD1 : Cd := fun o b i => decide (o.length = 0) && (decide (i = 0) && decide (b.1.length ≤ 1000000))
def cD2 : Cd := fun o b i => decide (i = 0) && decide (o.length + b.2.1.length ≤ 2000000)
def FD1 (c : Cd) (xs : HL SD1.Ts) (hs : HD SD1.Es) : Tr (Ex × St) := .chk (c hs.2.1 hs.1 xs.2.2.1) (.ret (exD1 hs.1 (hs.1.1.map addO)))
def FD2 (c : Cd) (xs : HL SD2.Ts) (hs : HD SD2.Es) : Tr (Ex × St) := .chk (c hs.2.1 hs.1 xs.2.2.1) (.ret (exD2 hs.1 (hs.2.1 ++ hs.1.2.1.map revO)))
def LD (c1 c2 : Cd) : Loops := fun j st => if j = 3 then SD1.fn (FD1 c1) st else if j = 7 then SD2.fn (FD2 c2) st else .fail
theorem lD1 : LoopOK Try.prog (LD cD1 cD2) bD1 :=
 rloop_ok (L := LD cD1 cD2) (L' := L0) nil_sound (loopsOK_of (by kernel_rfl)) SD1 (F := FD1 cD1) (i := 3) (by kernel_rfl) (fun _ => rfl) fun xs hs q h => by
  obtain ⟨u1, u2, i, u⟩ := xs
  obtain ⟨b, o, u3⟩ := hs
  obtain ⟨h1, h2⟩ := Tr.chk_some h
  simp only [cD1, Bool.and_eq_true, decide_eq_true_eq] at h1
  obtain ⟨e0, e2, e3⟩ := h1
  have e0 : o = ([] : List Op) := List.eq_nil_of_length_eq_zero e0
  have e2 : i = ((0 : Nat) : Int) := e2
  subst e0; subst e2
  exact ⟨_, (mD1 b e3 b.1.length 0 (by omega)).trans (congrArg some (Tr.ret_some h2))⟩
theorem lD2 : LoopOK Try.prog (LD cD1 cD2) bD2 :=
 rloop_ok (L := LD cD1 cD2) (L' := L0) nil_sound (loopsOK_of (by kernel_rfl)) SD2 (F := FD2 cD2) (i := 7) (by kernel_rfl) (fun _ => rfl) fun xs hs q h => by
  obtain ⟨u1, u2, i, u⟩ := xs
  obtain ⟨b, o, u3⟩ := hs
  obtain ⟨h1, h2⟩ := Tr.chk_some h
  simp only [cD2, Bool.and_eq_true, decide_eq_true_eq] at h1
  obtain ⟨e2, e3⟩ := h1
  have e2 : i = ((0 : Nat) : Int) := e2
  subst e2
  have := mD2 b o e3 b.2.1.length 0 (by omega)
  rw [List.take_zero, List.map_nil, List.append_nil] at this
  exact ⟨_, this.trans (congrArg some (Tr.ret_some h2))⟩
def TDs (c1 c2 : Cd) (b : Bk) : Tr nOp.Out :=
 let o := b.1.map addO ++ b.2.1.map revO
 .chk (c1 [] b 0) (.chk (c2 (b.1.map addO) b 0) (.ite (decide (b.2.2.1 > 0)) (.chk (Vse.room (o.length + 1) 48) (.ret (((), ()), (o ++ [(5, e0, b.2.2.2.1, b.2.2.1, ())], ())))) (.ret (((), ()), (o, ())))))
theorem tDs (c1 c2 : Cd) (b : Bk) : (fnP Try.prog (ctx []) (LD c1 c2) nOp Try.f62 (b, ()) ()).eval = (TDs c1 c2 b).eval := by kernel_rfl
theorem TDs_eq (b : Bk) (h : okB b = true) : (TDs cD1 cD2 b).eval = some (((), ()), (opsF b, ())) := by
 unfold okB at h
 simp only [Bool.and_eq_true, decide_eq_true_eq] at h
 unfold TDs opsF
 dsimp only
 rw [chk_eval (by unfold cD1; rw [decide_eq_true h.1]; rfl), chk_eval (by unfold cD2; rw [decide_eq_true (show (b.1.map addO).length + b.2.1.length ≤ 2000000 by rw [List.length_map]; omega)]; rfl)]
 by_cases hg : b.2.2.1 > 0
 ·rw [ite_t (decide_eq_true hg), if_pos hg, chk_eval (by simp only [Vse.room, decide_eq_true_eq, List.length_append, List.length_map]; omega)]; rfl
 ·rw [ite_f (decide_eq_false hg), if_neg hg, List.append_nil]; rfl
theorem okDs : CSound Try.prog 62 (sOs okB opsF) ∧ CLocal (sOs okB opsF) :=
 pos_sound (L := LD cD1 cD2) nil_sound Try.func62 (by kernel_rfl) (loops2 (by kernel_rfl) lD1 lD2) fun xs hs hx hh hp => by
  obtain ⟨b, u⟩ := xs
  exact (tDs cD1 cD2 b).trans (TDs_eq b hp)
abbrev tW (l k : Nat) : Ty := .prod (.vc l k) (.prod (.imm true false w16) (.prod i64 (.prod w16 .unit)))
abbrev tN : Ty := .prod .nils (.prod .nils (.prod i64 (.prod w16 .unit)))
def SOw : RSpec := ⟨[1, 2, 3, 4], 30, [.ptr 0 [], .ptr 1 [], .ptr 2 [], i64], [.box tB, .box tN, .box (tW 3 1), .vec 1 tEnt], [.box tB, .box tN, .box tB], [.pth 2 [.fld 0] tEnt], fun _ => ([2, 3], [.ptr 1 [], .ptr 2 []], [.dead, .box tN, .box (tW 3 1), .vec 1 tEnt])⟩
noncomputable def bOw : Code := loopAt Try.f59 0
abbrev z0 : tN.den := ((), (), 0, z16, ())
def owS (b : Bk) (o : List En) (r : List (List Int)) (g : Int) (ow : List Int) : HD SOw.Es := (b, z0, ((), r, g, ow, ()), o, ())
def exOw (o : List En) (r : List (List Int)) (g : Int) (ow : List Int) : Ex × St := (.exit 0, encS [2, 3] [.ptr 1 [], .ptr 2 []] [.dead, .box tN, .box (tW 3 1), .vec 1 tEnt] 30 ((), (), ()) (z0, ((), r, g, ow, ()), o, ()))
def GOw (b : Bk) (o : List En) (r : List (List Int)) (g : Int) (ow : List Int) (i : Int) : Tr SOw.End :=
 .ite (decide (i < (b.1.length : Int))) (.chk (inArr i b.1.length) (.chk (Vse.room (o.length + 1) 32) (.ret (.inl (((), (), (), w (i + 1), ()), owS b (o ++ [b.1.getD i.toNat (dflt tEnt)]) r g ow))))) (.ret (.inr (exOw o r g ow)))
theorem rOw (b : Bk) (o : List En) (r : List (List Int)) (g : Int) (ow : List Int) (i : Int) : (SOw.round (bodyK Try.prog (ctx []) L0 bOw) ((), (), (), i, ()) (owS b o r g ow)).eval = (GOw b o r g ow i).eval := by kernel_rfl
end Go.Proofs.Ytffdkniccaebmaa.Bok
end
section
set_option linter.unusedVariables false
set_option linter.unusedSimpArgs false
set_option maxRecDepth 100000
namespace Go.Proofs.Ytffdkniccaebmaa.Bok
open Go Vse Go.Proofs Gen
def cAw : List (Nat × CSpec) := [(41, Sto.newS), (68, sKo), (72, sDo), (74, sPk), (77, sBo), (63, sKy), (65, sDd hasW), (61, sOs okB opsF)]
theorem cAw_sound : CtxSound Try.prog (ctx cAw) ∧ CtxLocal (ctx cAw) := ctx_sound ⟨Sto.ok15, okKo, okDo, okPk, okBo, okKy, okDd, okOs, trivial⟩
theorem tAw : nrm (fnS Try.prog (ctx cAw) L0 [.bool] Try.f49 (mkArgs [] ())) = some (.v .bool true) := by kernel_rfl
def sUp (up : Bool) : CSpec := .slp1 [] (fun _ => true) .bool fun _ => up
theorem okAw : CSound Try.prog 49 (sUp true) ∧ CLocal (sUp true) :=
 slpE1 (L := L0) cAw_sound Try.func49 (by kernel_rfl) (noLoopsL (by kernel_rfl)) fun xs hx hp => tAw
end Go.Proofs.Ytffdkniccaebmaa.Bok
end
section
set_option linter.unusedVariables false
set_option linter.unusedSimpArgs false
set_option maxRecDepth 100000
namespace Go.Proofs.Ytffdkniccaebmaa.Bok
open Go Vse Go.Proofs Gen
theorem mOw (b : Bk) (r : List (List Int)) (g : Int) (ow : List Int) (hl : b.1.length ≤ 1000000) : ∀ (m k : Nat), k + m = b.1.length →
  SOw.many (bodyK Try.prog (ctx []) L0 bOw) (m + 1) ((), (), (), (k : Int), ()) (owS b (b.1.take k) r g ow) = some (exOw b.1 r g ow)
 | 0, k, h => by
  rw [List.take_of_length_le (by omega)]
  refine rmany_inr ((rOw b _ r g ow _).trans ?_) 0
  unfold GOw
  rw [ite_f (decide_eq_false (by omega))]
  rfl
 | m + 1, k, h => by
  have h1 : k < b.1.length := by omega
  have ht : b.1.take k ++ [b.1[k]] = b.1.take (k + 1) := by rw [List.take_add_one, List.getElem?_eq_getElem h1]; rfl
  refine (rmany_inl (d := (((), (), (), ((k + 1 : Nat) : Int), ()), owS b (b.1.take (k + 1)) r g ow)) ((rOw b _ r g ow _).trans ?_) (m + 1)).trans (mOw b r g ow hl m (k + 1) (by omega))
  unfold GOw
  rw [Int.toNat_natCast, getD_of h1, ite_t (decide_eq_true (by omega)), chk_eval (inArr_of h1), chk_eval (by simp only [Vse.room, decide_eq_true_eq, List.length_take]; omega), ht, w_succ h1 (by omega)]
  rfl
def cOw (b : Bk) (o : List En) (i : Int) : Bool := decide (o.length = 0) && (decide (i = 0) && decide (b.1.length ≤ 1000000))
def FOw (c : Bk → List En → Int → Bool) (xs : HL SOw.Ts) (hs : HD SOw.Es) : Tr (Ex × St) :=
 .chk (c hs.1 hs.2.2.2.1 xs.2.2.2.1 && smF ((([], [], 0, hs.2.1.2.2.2.1, ()) : Bk)) bk0 && decide (hs.2.1.2.2.1 = (0 : Int))) (.ret (exOw hs.1.1 hs.2.2.1.2.1 hs.2.2.1.2.2.1 hs.2.2.1.2.2.2.1))
def LOw (c : Bk → List En → Int → Bool) : Loops := fun j st => if j = 3 then SOw.fn (FOw c) st else .fail
theorem lOw : LoopOK Try.prog (LOw cOw) bOw :=
 rloop_ok (L := LOw cOw) (L' := L0) nil_sound (loopsOK_of (by kernel_rfl)) SOw (F := FOw cOw) (i := 3) (by kernel_rfl) (fun _ => rfl) fun xs hs q h => by
  obtain ⟨u1, u2, u3, i, u⟩ := xs
  obtain ⟨b, ⟨u4, u5, z1, z2, u6⟩, ⟨u7, r, g, ow, u8⟩, o, u9⟩ := hs
  obtain ⟨h1, h2⟩ := Tr.chk_some h
  simp only [cOw, Bool.and_eq_true, decide_eq_true_eq] at h1
  obtain ⟨⟨⟨e0, e1, e2⟩, e3⟩, e4⟩ := h1
  have e0 : o = ([] : List En) := List.eq_nil_of_length_eq_zero e0
  have e1 : i = ((0 : Nat) : Int) := e1
  have e3 : z2 = z16 := congrArg (·.2.2.2.1) ((sm_iff _ _).1 e3)
  have e4 : z1 = (0 : Int) := e4
  subst e0; subst e1; subst e3; subst e4
  exact ⟨_, (mOw b r g ow e2 b.1.length 0 (by omega)).trans (congrArg some (Tr.ret_some h2))⟩
abbrev nOw : PSpec := ⟨[tB], [tB], [], [], []⟩
theorem tOw (c : Bk → List En → Int → Bool) (b : Bk) : (fnP Try.prog (ctx []) (LOw c) nOw Try.f59 (b, ()) ()).eval = (.chk (c b [] 0 && smF ([], [], 0, z16, ()) bk0 && decide ((0 : Int) = 0)) (.ret ((b, ()), ())) : Tr nOw.Out).eval := by kernel_rfl
def sOw (p : Bk → Bool) : CSpec := .pos nOw (fun xs _ => p xs.1) fun xs _ => ((xs.1, ()), ())
theorem okOw : CSound Try.prog 59 (sOw okB) ∧ CLocal (sOw okB) :=
 pos_sound (L := LOw cOw) nil_sound Try.func59 (by kernel_rfl) (loops1 (by kernel_rfl) lOw) fun xs hs hx hh hp => by
  obtain ⟨b, u⟩ := xs
  have hp : okB b = true := hp
  unfold okB at hp
  simp only [Bool.and_eq_true, decide_eq_true_eq] at hp
  have hz : smF (([], [], 0, z16, ()) : Bk) bk0 = true := (sm_iff _ _).2 rfl
  exact (tOw cOw b).trans (chk_eval (by unfold cOw; rw [decide_eq_true hp.1, hz]; rfl) _)
abbrev tE : List ETy := [.dead, .dead, .box tB, .box tB]
def SB1 : RSpec := ⟨[0, 2, 7, 12, 13, 14], 199, [lOp, .str, .bool, .ptr 2 [], .ptr 3 [], i64], tE, [.box tOp, .box tOp, .box tN, .box tN], [], fun x => match x with | .exit _ => ([2, 7, 12, 13], [.str, .bool, .ptr 2 [], .ptr 3 []], tE) | _ => ([], [], [])⟩
noncomputable def bB1 : Code := loopAt Try.f10 0
noncomputable def bB2 : Code := loopAt Try.f10 1
def cB1 (P : Op → Rs) (R : Op → Bool) (sb : List Int → List Int → Bool) (p : Bk → Bool) (p2 : Bk → Bool) (A : Ab) (pw : Bk → Bool) (sm : Bk → Bk → Bool) : List (Nat × CSpec) :=
 [(52, sPu P), (53, sPu P), (35, .sl1 [bs, bs] .bool fun x => sb x.1 x.2.1), (54, sRt R), (55, sRt R), (56, sAp p A), (57, sAr p2 A), (59, sOw pw), (58, sSmB sm), (60, sSmB sm)]
end Go.Proofs.Ytffdkniccaebmaa.Bok
end
section
set_option linter.unusedVariables false
set_option linter.unusedSimpArgs false
set_option maxRecDepth 100000
namespace Go.Proofs.Ytffdkniccaebmaa.Bok
open Go Vse Go.Proofs Gen
def exB1 (nm : ByteArray) (up : Bool) (k r : Bk) : Ex × St := (.exit 0, encS [2, 7, 12, 13] [.str, .bool, .ptr 2 [], .ptr 3 []] tE 199 (nm, up, (), (), ()) (k, r, ()))
def GB1 (P : Op → Rs) (R : Op → Bool) (sb : List Int → List Int → Bool) (p : Bk → Bool) (p2 : Bk → Bool) (A : Ab) (pw : Bk → Bool) (sm : Bk → Bk → Bool) (l : List Op) (nm : ByteArray) (up : Bool) (k r : Bk) (i : Int) : Tr SB1.End :=
 let x := l.getD i.toNat (dflt tOp)
 .ite (decide (i < (l.length : Int))) (.chk (inArr i l.length) (.chk (inArr i l.length) (.ite (!sb (P x).1 (P x).1) .fail (.ite (!decide ((P x).2.1 = (P x).2.1)) .fail (.chk (inArr i l.length) (.ite (!(R x == R x)) .fail
  (.chk (inArr i l.length) (.chk (p k) (.chk (p2 r) (.chk (pw (A k x).1) (.ite (!sm (A k x).1 (A r x).1) .fail (.ite (!decide ((A k x).2 = (A r x).2)) .fail (.ite (!(sm k (A k x).1 == sm r (A r x).1)) .fail
   (.ret (.inl ((l, nm, up, (), (), w (i + 1), ()), ((A k x).1, (A r x).1, ()))))))))))))))))) (.ret (.inr (exB1 nm up k r)))
theorem rB1 (P : Op → Rs) (R : Op → Bool) (sb : List Int → List Int → Bool) (p : Bk → Bool) (p2 : Bk → Bool) (A : Ab) (pw : Bk → Bool) (sm : Bk → Bk → Bool) (l : List Op) (nm : ByteArray) (up : Bool) (k r : Bk) (i : Int) :
  (SB1.round (bodyK Try.prog (ctx (cB1 P R sb p p2 A pw sm)) L0 bB1) (l, nm, up, (), (), i, ()) (k, r, ())).eval = (GB1 P R sb p p2 A pw sm l nm up k r i).eval := by kernel_rfl
abbrev Cb1 := List Op → Bk → Bk → Int → Bool
def FB1 (c : Cb1) (f : List Op → Bk) (xs : HL SB1.Ts) (hs : HD SB1.Es) : Tr (Ex × St) := .chk (c xs.1 hs.1 hs.2.1 xs.2.2.2.2.2.1) (.ret (exB1 xs.2.1 xs.2.2.1 (f xs.1) (f xs.1)))
def cBt (up : Bool) (q1 q2 : List Int → Op × Int × Unit) (p : Bk → Bool) (os : Bk → List Op) (hd : Hw) : List (Nat × CSpec) :=
 [(49, sUp up), (50, sRd q1), (51, sRd q2), (61, sOs p os), (62, sOs p os), (63, sKy), (64, sKy), (65, sDd hd), (66, sDd hd)]
abbrev tE2 : List ETy := [.dead, .dead, .box tB, .box tB, .dead, .dead]
def SB2 : RSpec := ⟨[2, 7, 12, 13, 26, 27, 28], 199, [.str, .bool, .ptr 2 [], .ptr 3 [], lOp, lOp, i64], tE2, [.dead, .dead, .box tB, .box tB, .vec 0 tOp, .vec 0 tOp], [], fun x => match x with | .exit _ => ([2, 7, 12, 13], [.str, .bool, .ptr 2 [], .ptr 3 []], tE2) | _ => ([], [], [])⟩
def exB2 (nm : ByteArray) (up : Bool) (k r : Bk) : Ex × St := (.exit 2, encS [2, 7, 12, 13] [.str, .bool, .ptr 2 [], .ptr 3 []] tE2 199 (nm, up, (), (), ()) (k, r, ()))
def GB2 (l m : List Op) (nm : ByteArray) (up : Bool) (k r : Bk) (i : Int) : Tr SB2.End :=
 .ite (decide (i < (l.length : Int))) (.chk (inArr i l.length) (.chk (inArr i m.length) (.ite (!eqT tOp (l.getD i.toNat (dflt tOp)) (m.getD i.toNat (dflt tOp))) .fail
  (.ret (.inl ((nm, up, (), (), l, m, w (i + 1), ()), (k, r, ()))))))) (.ret (.inr (exB2 nm up k r)))
theorem rB2 (l m : List Op) (nm : ByteArray) (up : Bool) (k r : Bk) (i : Int) :
  (SB2.round (bodyK Try.prog (ctx []) L0 bB2) (nm, up, (), (), l, m, i, ()) (k, r, ())).eval = (GB2 l m nm up k r i).eval := by kernel_rfl
abbrev Cb2 := List Op → List Op → Int → Bool
def FB2 (c : Cb2) (xs : HL SB2.Ts) (hs : HD SB2.Es) : Tr (Ex × St) := .chk (c xs.2.2.2.2.1 xs.2.2.2.2.2.1 xs.2.2.2.2.2.2.1) (.ret (exB2 xs.1 xs.2.1 hs.1 hs.2.1))
def LBt (c : Cb1) (f : List Op → Bk) (c2 : Cb2) : Loops := fun j st => if j = 11 then SB1.fn (FB1 c f) st else if j = 31 then SB2.fn (FB2 c2) st else .fail
def TBt (up : Bool) (q1 q2 : List Int → Op × Int × Unit) (p : Bk → Bool) (os : Bk → List Op) (hd : Hw) (c : Cb1) (f : List Op → Bk) (c2 : Cb2) (l : List Op) (b : List Int) (nm : ByteArray) : Tr AV :=
 let z := f l
 let no : Tr AV := .ret (.v .bool false)
 .ite (decide ((l.length : Int) > 60)) (.ret (.v .bool up)) (.ite (decide ((b.length : Int) > 500)) (.ret (.v .bool up)) (.chk (okL b) (.chk (okL b) (.ite (!eqT tOp (q1 b).1 (q2 b).1) no (.ite (!decide ((q1 b).2.1 = (q2 b).2.1)) no
  (.chk (c l bk0 bk0 0) (.chk (p z) (.chk (p z) (.ite (!decide (((os z).length : Int) = ((os z).length : Int))) no (.chk (c2 (os z) (os z) 0)
   (.ite up (.ite (eqT w16 (keyF z nm).1 (keyF z nm).1) (.ite ((keyF z nm).2 == (keyF z nm).2) (.ret (.v .bool (hd z.2.1 (keyF z nm).1 == hd z.2.1 (keyF z nm).1))) no) no) no)))))))))))
theorem tBt (up : Bool) (q1 q2 : List Int → Op × Int × Unit) (p : Bk → Bool) (os : Bk → List Op) (hd : Hw) (c : Cb1) (f : List Op → Bk) (c2 : Cb2) (l : List Op) (b : List Int) (nm : ByteArray) :
  nrm (fnK Try.prog (ctx (cBt up q1 q2 p os hd)) (LBt c f c2) Try.f10 (mkArgs [lOp, bt, .str] (l, b, nm, ())) []) = (TBt up q1 q2 p os hd c f c2 l b nm).eval := by kernel_rfl
end Go.Proofs.Ytffdkniccaebmaa.Bok
end
section
set_option linter.unusedVariables false
set_option linter.unusedSimpArgs false
set_option maxRecDepth 100000
namespace Go.Proofs.Ytffdkniccaebmaa.Bok
open Go Vse Go.Proofs Gen
abbrev f1R : List Op → Bk := fun l => apAll l bk0
theorem ops_len {b : Bk} (h : Inv b) : (opsF b).length ≤ 251 := by
 have h1 := h.ln
 have h2 := h.rl
 have : (if b.2.2.1 > 0 then [((5, e0, b.2.2.2.1, b.2.2.1, ()) : Op)] else []).length ≤ 1 := by split <;> simp
 unfold opsF
 rw [List.length_append, List.length_append, List.length_map, List.length_map]; omega
end Go.Proofs.Ytffdkniccaebmaa.Bok
end
section
set_option linter.unusedVariables false
set_option linter.unusedSimpArgs false
set_option maxRecDepth 100000
namespace Go.Proofs.Ytffdkniccaebmaa.Bok
open Go Vse Go.Proofs Gen
open Fld (splitI splitG take1 take2 Bytes)
theorem splitG_bytes : ∀ (f : Nat) (b : List Int) (o : List (List Int)), Bytes b → (∀ p ∈ o, Bytes p) → ∀ p ∈ (splitG f b o).2, Bytes p
 | 0, b, o, hb, ho => ho
 | f + 1, b, o, hb, ho => by
  rw [splitG]
  cases decide (b.length > 0) with
  | false => exact ho
  | true =>
   cases decide (b.length < 2) with
   | true => exact ho
   | false =>
    cases decide (Fld.lenN b > 500) with
    | true => exact ho
    | false =>
     cases decide (o.length = 20) with
     | true => exact ho
     | false =>
      cases decide (Fld.lenN b > ((b.drop 2).length : Int)) with
      | true => exact ho
      | false =>
       refine splitG_bytes f _ _ (Fld.bytes_drop (Fld.bytes_drop hb 2) _) fun p hp => ?_
       rcases List.mem_append.1 hp with h | h
       ·exact ho p h
       ·rw [List.mem_singleton.1 h]
        exact fun x hx => Fld.bytes_drop hb 2 x (List.mem_of_mem_take hx)
theorem splitI_bytes {b : List Int} (hb : Bytes b) (k : Nat) : Bytes ((splitI b).1.getD k []) := by
 have h : ∀ p ∈ (splitI b).1, Bytes p := by
  unfold Fld.splitI
  dsimp only
  have := splitG_bytes (b.length + 1) b [] hb (fun p hp => by cases hp)
  cases decide ((splitG (b.length + 1) b []).1 = 0) with
  | true => exact this
  | false => exact fun p hp => by cases hp
 rw [List.getD_eq_getElem?_getD]
 cases hx : (splitI b).1[k]? with
 | none => exact fun x hx => by cases hx
 | some p => exact h p (List.mem_of_getElem? hx)
theorem tk_same {a : List Int} (h : Bytes a) : tk1 a = tk2 a := by
 unfold tk1 tk2
 rw [Fld.take_same h]
theorem rd_same {b : List Int} (hb : Bytes b) : rdT tk1 b = rdT tk2 b := by
 have h := tk_same (splitI_bytes (Fld.bytes_drop hb 1) 2)
 have ho : opB tk1 b = opB tk2 b := by unfold opB; rw [h]
 unfold rdT
 rw [ho, h]
theorem eqo_self (x : Op) : eqT tOp x x = true := (eqT_iff tOp x x (by decide)).2 rfl
theorem beq_self (b : Bool) : (b == b) = true := by cases b <;> rfl
abbrev cBt1 : List (Nat × CSpec) := cB1 putF rtF Fld.sameI okB smallB applyF okB smF
theorem cBt1_sound : CtxSound Try.prog (ctx cBt1) ∧ CtxLocal (ctx cBt1) := ctx_sound ⟨okPu, okPr, Fld.ok19, okRt, okRr, okAp, okAr, okOw, okSr, okSm, trivial⟩
theorem GB1_eq {l : List Op} (nm : ByteArray) (up : Bool) {b : Bk} {k : Nat} (hb : Inv b) (hk : k < l.length) (hl : l.length ≤ 60) :
  (GB1 putF rtF Fld.sameI okB smallB applyF okB smF l nm up b b (k : Int)).eval = some (.inl ((l, nm, up, (), (), ((k + 1 : Nat) : Int), ()), ((applyF b l[k]).1, (applyF b l[k]).1, ()))) := by
 have h2 : smallB b = true := by
  have := hb.ln
  have := hb.rl
  unfold smallB
  simp only [Bool.and_eq_true, decide_eq_true_eq]
  exact ⟨hb.ln, hb.rl⟩
 unfold GB1
 dsimp only
 have hi := inArr_of hk
 have hs := (show Fld.sameI (putF l[k]).1 (putF l[k]).1 = true from decide_eq_true rfl)
 rw [Int.toNat_natCast, getD_of hk, ite_t (decide_eq_true (by omega)), chk_eval hi, chk_eval hi, ite_f (by rw [hs]; rfl), ite_f (by rw [decide_eq_true rfl]; rfl), chk_eval hi, ite_f (by rw [beq_self]; rfl), chk_eval hi, chk_eval (inv_ok hb), chk_eval h2, chk_eval (inv_ok (inv_apply l[k] hb)),
  ite_f (by rw [(sm_iff _ _).2 rfl]; rfl), ite_f (by rw [decide_eq_true rfl]; rfl), ite_f (by rw [beq_self]; rfl), w_succ hk (by omega)]
 rfl
theorem mB1 (l : List Op) (nm : ByteArray) (up : Bool) (hl : l.length ≤ 60) : ∀ (m k : Nat) (b : Bk), k + m = l.length → Inv b →
  SB1.many (bodyK Try.prog (ctx cBt1) L0 bB1) (m + 1) (l, nm, up, (), (), (k : Int), ()) (b, b, ()) = some (exB1 nm up (apAll (l.drop k) b) (apAll (l.drop k) b))
 | 0, k, b, hk, hb => by
  rw [List.drop_eq_nil_of_le (by omega)]
  refine rmany_inr ((rB1 putF rtF Fld.sameI okB smallB applyF okB smF l nm up b b _).trans ?_) 0
  unfold GB1
  dsimp only
  rw [ite_f (decide_eq_false (by omega))]
  rfl
 | m + 1, k, b, hk, hb => by
  have h1 : k < l.length := by omega
  rw [List.drop_eq_getElem_cons h1]
  exact (rmany_inl ((rB1 putF rtF Fld.sameI okB smallB applyF okB smF l nm up b b _).trans (GB1_eq nm up hb h1 hl)) (m + 1)).trans (mB1 l nm up hl m (k + 1) _ (by omega) (inv_apply _ hb))
def cB1F : Cb1 := fun l k r i => decide (i = 0) && (smF k bk0 && (smF r bk0 && decide (l.length ≤ 60)))
open Classical in
noncomputable def cB2F : Cb2 := fun l m i => decide (i = 0) && (decide (l.length ≤ 1000000) && decide (l = m))
noncomputable abbrev LBtF : Loops := LBt cB1F f1R cB2F
theorem lB1 : LoopOK Try.prog LBtF bB1 :=
 rloop_ok (L := LBtF) (L' := L0) cBt1_sound (loopsOK_of (by kernel_rfl)) SB1 (F := FB1 cB1F f1R) (i := 11) (by kernel_rfl) (fun _ => rfl) fun xs hs q hq => by
  obtain ⟨l, nm, up, u1, u2, i, u3⟩ := xs
  obtain ⟨b, r, u4⟩ := hs
  obtain ⟨h1, h2⟩ := Tr.chk_some hq
  simp only [cB1F, Bool.and_eq_true, decide_eq_true_eq] at h1
  obtain ⟨e1, e2, e3, e4⟩ := h1
  have e1 : i = ((0 : Nat) : Int) := e1
  have e2 : b = bk0 := (sm_iff _ _).1 e2
  have e3 : r = bk0 := (sm_iff _ _).1 e3
  subst e1; subst e2; subst e3
  exact ⟨_, (mB1 l nm up e4 (List.length (α := Op) l) 0 bk0 (by omega) inv0).trans (congrArg some (Tr.ret_some h2))⟩
theorem mB2 (l : List Op) (nm : ByteArray) (up : Bool) (b r : Bk) (hl : l.length ≤ 1000000) : ∀ (m k : Nat), k + m = l.length →
  SB2.many (bodyK Try.prog (ctx []) L0 bB2) (m + 1) (nm, up, (), (), l, l, (k : Int), ()) (b, r, ()) = some (exB2 nm up b r)
 | 0, k, hk => by
  refine rmany_inr ((rB2 l l nm up b r _).trans ?_) 0
  unfold GB2
  rw [ite_f (decide_eq_false (by omega))]
  rfl
 | m + 1, k, hk => by
  have h1 : k < l.length := by omega
  refine (rmany_inl (d := ((nm, up, (), (), l, l, ((k + 1 : Nat) : Int), ()), (b, r, ()))) ((rB2 l l nm up b r _).trans ?_) (m + 1)).trans (mB2 l nm up b r hl m (k + 1) (by omega))
  unfold GB2
  rw [Int.toNat_natCast, getD_of h1, ite_t (decide_eq_true (by omega)), chk_eval (inArr_of h1), chk_eval (inArr_of h1), ite_f (by rw [eqo_self]; rfl), w_succ h1 (by omega)]
  rfl
theorem lB2 : LoopOK Try.prog LBtF bB2 :=
 rloop_ok (L := LBtF) (L' := L0) nil_sound (loopsOK_of (by kernel_rfl)) SB2 (F := FB2 cB2F) (i := 31) (by kernel_rfl) (fun _ => rfl) fun xs hs q hq => by
  obtain ⟨nm, up, u1, u2, l, m, i, u3⟩ := xs
  obtain ⟨b, r, u4⟩ := hs
  obtain ⟨h1, h2⟩ := Tr.chk_some hq
  simp only [cB2F, Bool.and_eq_true, decide_eq_true_eq] at h1
  obtain ⟨e1, e2, e3⟩ := h1
  have e1 : i = ((0 : Nat) : Int) := e1
  have e3 : l = m := e3
  subst e1; subst e3
  exact ⟨_, (mB2 l nm up b r e2 (List.length (α := Op) l) 0 (by omega)).trans (congrArg some (Tr.ret_some h2))⟩
theorem loops_Bt : loopsOf (bodyOf Try.f10) = [bB1, bB2] := by kernel_rfl
abbrev cBtF : List (Nat × CSpec) := cBt true (rdT tk1) (rdT tk2) okB opsF hasW
theorem cBt_sound : CtxSound Try.prog (ctx cBtF) ∧ CtxLocal (ctx cBtF) := ctx_sound ⟨okAw, okRd, okRe, okOs, okDs, okKy, okRk, okDd, okDr, trivial⟩
theorem TBt_true (l : List Op) {b : List Int} (hb : Bytes b) (nm : ByteArray) : (TBt true (rdT tk1) (rdT tk2) okB opsF hasW cB1F f1R cB2F l b nm).eval = some (.v .bool true) := by
 unfold TBt
 by_cases h : (l.length : Int) > 60
 ·rw [ite_t (decide_eq_true h)]; rfl
 rw [ite_f (decide_eq_false h)]
 by_cases h5 : (b.length : Int) > 500
 ·rw [ite_t (decide_eq_true h5)]; rfl
 have hI : Inv (f1R l) := inv_all l inv0
 have hl : (opsF (f1R l)).length ≤ 251 := ops_len hI
 have hs : smF bk0 bk0 = true := (sm_iff _ _).2 rfl
 have hL : okL b = true := decide_eq_true (by omega)
 rw [ite_f (decide_eq_false h5), chk_eval hL, chk_eval hL, rd_same hb, ite_f (by rw [eqo_self]; rfl), ite_f (by rw [decide_eq_true rfl]; rfl), chk_eval (by unfold cB1F; rw [hs, decide_eq_true (show l.length ≤ 60 by omega)]; rfl), chk_eval (inv_ok hI), chk_eval (inv_ok hI),
  ite_f (by rw [decide_eq_true rfl]; rfl), chk_eval (by unfold cB2F; rw [decide_eq_true (show (opsF (f1R l)).length ≤ 1000000 by omega), decide_eq_true rfl, decide_eq_true rfl]; rfl), ite_t rfl, ite_t (eqw_self _), ite_t (beq_self _), beq_self]
 rfl
end Go.Proofs.Ytffdkniccaebmaa.Bok
end
set_option linter.unusedVariables false
set_option maxRecDepth 100000
namespace Go.Proofs.Ytffdkniccaebmaa
open Go Vse Go.Proofs Go.ChangeShapes Go.WideShapes Go.ChangeAt Go.RowKit
theorem own15t : ownKnob Try.prog.godebug = none := by kernel_rfl
theorem laid15t : laidOutB Try.prog = true := by kernel_rfl
theorem bookTells_lifted (os : Os) (started : os.Started) (H : Type) (enc : TypeId × Value → H) :
  ReturnsInHanded {} Try.checked os 10 .any (Rows.bookTellsSpec.pre6 enc Try.prog Try.f10 Rows.bookTellsRow.domain false) (Rows.bookTellsSpec.post enc Try.prog Try.f10 false true false false) := by
 refine returnsInHanded_of_change_sized (C := Try.checked) own15t started (by kernel_rfl) Try.func10
  (ChangeSpec.witness6 (enc := enc) (C := Try.checked) false ⟨#[], #[.slice none 0 0, .slice none 0 0, .string ByteArray.empty], []⟩ 8 (by kernel_rfl) (by kernel_rfl) (by kernel_rfl) (by kernel_rfl)) ?_
 intro W base args ds gs before hval hW _ hsz _
 refine law_callsT (n := 8) (As := [Bok.lOp, Gen.bt, .str]) Bok.cBt_sound laid15t Try.func10 (by kernel_rfl) (loops2 Bok.loops_Bt Bok.lB1 Bok.lB2) (by kernel_rfl) (tb := 4) (by kernel_rfl) (by kernel_rfl)
  ⟨rfl, fun ds h => ?_⟩ (fun xs hx hz => ?_) hval hW hsz
 ·match ds, h with
  | [d1, d2, d3], _ => rfl
 ·exact (Bok.tBt true _ _ _ _ _ _ _ _ xs.1 xs.2.1 xs.2.2.1).trans (Bok.TBt_true xs.1 (Fld.bytes_ok hx.2.1) xs.2.2.1)
theorem bookTells_holds : Rows.BookTellsSaid :=
 OpenClaim.holds_of_wide 10 Try.f10 rfl rfl rfl rfl rfl rfl rfl ⟨rfl, rfl, rfl, rfl, rfl⟩ rfl rfl rfl rfl rfl (by kernel_rfl) Try.func10 (by kernel_rfl)
  (of_decide_eq_true (by kernel_rfl)) (by unfold Func.isWrapper; first | (rw [if_pos (by decide +kernel)]; kernel_rfl) | (rw [if_neg (by decide +kernel)]; exact ⟨rfl, rfl⟩))
  (fun os started H enc _ => bookTells_lifted os started H enc)
end Go.Proofs.Ytffdkniccaebmaa
#print axioms Go.Proofs.Ytffdkniccaebmaa.bookTells_holds

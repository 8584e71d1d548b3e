/- The statements of layer 16 (kdc) hold: two of them. No conditions but the given ones. Part 7. -/
import Derived.Test.YtaffancdidgkhaaZ6
import Derived.Test.YtaffancdidgkhaaRows
import Derived.ProofKit
import Derived.SizedLaws
set_option linter.unusedVariables false
set_option linter.unusedSimpArgs false
section
set_option linter.unusedVariables false
set_option linter.unusedSimpArgs false
set_option maxRecDepth 100000
namespace Go.Proofs.Ytaffancdidgkhaa.Kdc
open Go Vse Go.Proofs Gen
abbrev lEnt : Ty := .imm false false tEnt
abbrev En := ByteArray × List Int × Unit
abbrev nFq : PSpec := ⟨[tEnt, .ptr 0 []], [.bool], [.box .str], [.box .str], []⟩
theorem tFq (x : En) (s : ByteArray) : (fnP Try.prog (ctx []) L0 nFq Try.f102 (x, (), ()) (s, ())).eval = (.ret (((x.1 == s), ()), (s, ())) : Tr nFq.Out).eval := by kernel_rfl
def sFq : CSpec := .pos nFq (fun _ _ => true) fun xs hs => (((xs.1.1 == hs.1 : Bool), ()), hs)
theorem okFq : CSound Try.prog 102 sFq ∧ CLocal sFq :=
 pos_sound (L := L0) nil_sound Try.func102 (by kernel_rfl) (noLoopsL (by kernel_rfl)) fun xs hs hx hh hp => by
  obtain ⟨x, u, u'⟩ := xs
  obtain ⟨s, u''⟩ := hs
  exact tFq x s
abbrev fFq : Ty := .fn 102 (.prod (.ptr 0 []) .unit)
abbrev nIf : PSpec := ⟨[lEnt, fFq], [i64], [.box .str], [.box .str], []⟩
def SIf : RSpec := ⟨[0, 1, 7, 8], 19, [lEnt, fFq, i64, i64], [.box .str], [.box .str], [], fun x => match x with | .ret => ([4], [i64], [.box .str]) | _ => ([], [], [.box .str])⟩
def GIf (l : List En) (s : ByteArray) (n i : Int) : Tr SIf.End :=
 .ite (decide (i < n)) (.chk (inArr i l.length) (.ite ((l.getD i.toNat (dflt tEnt)).1 == s) (.ret (.inr (.ret, encS [4] [i64] [.box .str] 19 (i, ()) (s, ())))) (.ret (.inl ((l, ((), ()), n, w (i + 1), ()), (s, ()))))))
  (.ret (.inr (.exit 0, encS [] [] [.box .str] 19 () (s, ()))))
noncomputable def bIf : Code := loopAt Try.f101 0
theorem rIf (l : List En) (s : ByteArray) (n i : Int) : (SIf.round (bodyK Try.prog (ctx [(102, sFq)]) L0 bIf) (l, ((), ()), n, i, ()) (s, ())).eval = (GIf l s n i).eval := by kernel_rfl
def hasE (l : List En) (s : ByteArray) : Bool := l.any fun e => e.1 == s
def idxE (l : List En) (s : ByteArray) : Int := if hasE l s = true then (l.findIdx fun e => e.1 == s : Nat) else -1
def cIf (l : List En) (n i : Int) : Bool := decide (l.length ≤ 9223372036854775807) && (decide (n = (l.length : Int)) && decide (i = 0))
def FIf (c : List En → Int → Int → Bool) (h : List En → ByteArray → Bool) (ix : List En → ByteArray → Int) (xs : HL SIf.Ts) (hs : HD SIf.Es) : Tr (Ex × St) :=
 .chk (c xs.1 xs.2.2.1 xs.2.2.2.1) (.ite (h xs.1 hs.1) (.ret (.ret, encS [4] [i64] [.box .str] 19 (ix xs.1 hs.1, ()) hs)) (.ret (.exit 0, encS [] [] [.box .str] 19 () hs)))
def LIf (c : List En → Int → Int → Bool) (h : List En → ByteArray → Bool) (ix : List En → ByteArray → Int) : Loops := fun j st => if j = 2 then SIf.fn (FIf c h ix) st else .fail
theorem getD_of {α : Type} {l : List α} {k : Nat} (h : k < l.length) (d : α) : l.getD k d = l[k] := by
 rw [List.getD_eq_getElem?_getD, List.getElem?_eq_getElem h]; rfl
theorem inArr_of {k n : Nat} (h : k < n) : inArr (k : Int) n = true := by simp [inArr]; omega
theorem w_succ {k n : Nat} (h : k < n) (hn : n ≤ 9223372036854775807) : w ((k : Int) + 1) = ((k + 1 : Nat) : Int) := (w_id (by omega) (by omega)).trans (by omega)
theorem mIf (s : ByteArray) (l : List En) (hl : l.length ≤ 9223372036854775807) : ∀ (m k : Nat), k + m = l.length →
  SIf.many (bodyK Try.prog (ctx [(102, sFq)]) L0 bIf) (m + 1) (l, ((), ()), (l.length : Int), (k : Int), ()) (s, ()) = if hasE (l.drop k) s = true then some (.ret, encS [4] [i64] [.box .str] 19 (((k + (l.drop k).findIdx fun e => e.1 == s : Nat) : Int), ()) (s, ())) else some (.exit 0, encS [] [] [.box .str] 19 () (s, ()))
 | 0, k, h => by
  have e1 : l.drop k = [] := List.drop_eq_nil_of_le (by omega)
  rw [e1, if_neg (by simp [hasE])]
  refine rmany_inr ((rIf l s _ _).trans ?_) 0
  unfold GIf
  rw [ite_f (decide_eq_false (by omega))]
  rfl
 | m + 1, k, h => by
  have h1 : k < l.length := by omega
  have e2 : (l.drop k) = l[k] :: l.drop (k + 1) := List.drop_eq_getElem_cons h1
  cases hq : (l[k].1 == s) with
  | true =>
   have e3 : hasE (l.drop k) s = true := by simp only [hasE, e2, List.any_cons, hq, Bool.true_or]
   have e4 : ((l.drop k).findIdx fun e => e.1 == s) = 0 := by rw [e2, List.findIdx_cons, hq]; rfl
   rw [if_pos e3, e4]
   refine rmany_inr ((rIf l s _ _).trans ?_) _
   unfold GIf
   rw [Int.toNat_natCast, ite_t (decide_eq_true (by omega)), chk_eval (inArr_of h1), getD_of h1, ite_t hq]
   rfl
  | false =>
   have e3 : hasE (l.drop k) s = hasE (l.drop (k + 1)) s := by simp only [hasE, e2, List.any_cons, hq, Bool.false_or]
   have e4 : k + ((l.drop k).findIdx fun e => e.1 == s) = k + 1 + (l.drop (k + 1)).findIdx fun e => e.1 == s := by rw [e2, List.findIdx_cons, hq]; simp only [cond_false]; omega
   rw [e3, e4]
   refine (rmany_inl (d := ((l, ((), ()), (l.length : Int), ((k + 1 : Nat) : Int), ()), (s, ()))) ((rIf l s _ _).trans ?_) (m + 1)).trans (mIf s l hl m (k + 1) (by omega))
   unfold GIf
   rw [Int.toNat_natCast, ite_t (decide_eq_true (by omega)), chk_eval (inArr_of h1), getD_of h1, ite_f hq, w_succ h1 hl]
   rfl
theorem cFq_sound : CtxSound Try.prog (ctx [(102, sFq)]) ∧ CtxLocal (ctx [(102, sFq)]) := ctx_sound ⟨okFq, trivial⟩
theorem lIf : LoopOK Try.prog (LIf cIf hasE idxE) bIf :=
 rloop_ok (L := LIf cIf hasE idxE) (L' := L0) cFq_sound (loopsOK_of (by kernel_rfl)) SIf (F := FIf cIf hasE idxE) (i := 2) (by kernel_rfl) (fun _ => rfl) fun xs hs q h => by
  obtain ⟨l, u1, n, i, u⟩ := xs
  obtain ⟨s, u2⟩ := hs
  obtain ⟨h1, h2⟩ := Tr.chk_some h
  simp only [cIf, Bool.and_eq_true, decide_eq_true_eq] at h1
  obtain ⟨hl, e1, e2⟩ := h1
  have e1 : n = (List.length (α := En) l : Int) := e1
  have e2 : i = ((0 : Nat) : Int) := e2
  subst e1; subst e2
  refine ⟨List.length (α := En) l + 1, ?_⟩
  have := mIf s l hl (List.length (α := En) l) 0 (by omega)
  rw [List.drop_zero, Nat.zero_add] at this
  refine this.trans ?_
  rcases Tr.ite_some h2 with ⟨hx, h3⟩ | ⟨hx, h3⟩
  ·have hx : hasE l s = true := hx
   have := Tr.ret_some h3
   subst this
   rw [if_pos hx]
   simp only [idxE, if_pos hx]
  ·have hx : hasE l s = false := hx
   have := Tr.ret_some h3
   subst this
   rw [if_neg (by rw [hx]; simp)]
def TIf (c : List En → Int → Int → Bool) (h : List En → ByteArray → Bool) (ix : List En → ByteArray → Int) (l : List En) (s : ByteArray) : Tr nIf.Out :=
 .chk (c l (l.length : Int) 0) (.ite (h l s) (.ret ((ix l s, ()), (s, ()))) (.ret ((-1, ()), (s, ()))))
theorem tIf (c : List En → Int → Int → Bool) (h : List En → ByteArray → Bool) (ix : List En → ByteArray → Int) (l : List En) (s : ByteArray) :
  (fnP Try.prog (ctx [(102, sFq)]) (LIf c h ix) nIf Try.f101 (l, ((), ()), ()) (s, ())).eval = (TIf c h ix l s).eval := by kernel_rfl
def sIf (h : List En → ByteArray → Int) : CSpec := .pos nIf (fun _ _ => true) fun xs hs => ((h xs.1 hs.1, ()), hs)
theorem TIf_eq {l : List En} {s : ByteArray} (hl : l.length ≤ 9223372036854775807) : (TIf cIf hasE idxE l s).eval = some ((idxE l s, ()), (s, ())) := by
 unfold TIf
 rw [chk_eval (by simp [cIf, hl])]
 cases hq : hasE l s with
 | true => rw [ite_t rfl]; rfl
 | false => rw [ite_f rfl]; unfold idxE; rw [if_neg (by rw [hq]; simp)]; rfl
theorem okIf : CSound Try.prog 101 (sIf idxE) ∧ CLocal (sIf idxE) :=
 pos_sound (L := LIf cIf hasE idxE) cFq_sound Try.func101 (by kernel_rfl) (loops1 (by kernel_rfl) lIf) fun xs hs hx hh hp => by
  obtain ⟨l, u1, u⟩ := xs
  obtain ⟨s, u2⟩ := hs
  exact (tIf _ _ _ l s).trans (TIf_eq hx.1.1)
abbrev Bk := List En × List (List Int) × Int × List Int × Unit
def nFi : PSpec := ⟨[tB, .str], [i64], [], [], []⟩
theorem tFi (h : List En → ByteArray → Int) (b : Bk) (s : ByteArray) :
  (fnP Try.prog (ctx [(101, sIf h)]) L0 nFi Try.f68 (b, s, ()) ()).eval = (.ret ((h b.1 s, ()), ()) : Tr nFi.Out).eval := by kernel_rfl
def sFi (h : List En → ByteArray → Int) : CSpec := .pos nFi (fun _ _ => true) fun xs _ => ((h xs.1.1 xs.2.1, ()), ())
theorem okFi : CSound Try.prog 68 (sFi idxE) ∧ CLocal (sFi idxE) :=
 pos_sound (L := L0) (C := ctx [(101, sIf idxE)]) (ctx_sound ⟨okIf, trivial⟩) Try.func68 (by kernel_rfl) (noLoopsL (by kernel_rfl)) fun xs hs hx hh hp => by
  obtain ⟨b, s, u⟩ := xs
  exact tFi _ b s
abbrev nKy : PSpec := ⟨[tB, .str], [w16, .bool], [], [], []⟩
def zero16 : List Int := List.replicate 16 0
def TKy (h : List En → ByteArray → Int) (b : Bk) (s : ByteArray) : Tr nKy.Out :=
 .ite (decide (h b.1 s < 0)) (.ret ((zero16, false, ()), ())) (.chk (inArr (h b.1 s) b.1.length) (.ret (((b.1.getD (h b.1 s).toNat (dflt tEnt)).2.1, true, ()), ())))
theorem tKy (h : List En → ByteArray → Int) (b : Bk) (s : ByteArray) :
  (fnP Try.prog (ctx [(68, sFi h)]) L0 nKy Try.f32 (b, s, ()) ()).eval = (TKy h b s).eval := by kernel_rfl
def keyF (b : Bk) (s : ByteArray) : List Int × Bool := match b.1.find? fun e => e.1 == s with | some e => (e.2.1, true) | none => (zero16, false)
def sKy : CSpec := .pos nKy (fun _ _ => true) fun xs _ => (((keyF xs.1 xs.2.1).1, (keyF xs.1 xs.2.1).2, ()), ())
theorem find_has {l : List En} {s : ByteArray} : ∀ {l : List En}, hasE l s = true → ∃ (h : (l.findIdx fun e => e.1 == s) < l.length), l.find? (fun e => e.1 == s) = some l[l.findIdx fun e => e.1 == s] := by
 intro l h
 have h1 := List.findIdx_lt_length_of_exists (p := fun e : En => e.1 == s) (xs := l) (by simpa [hasE] using h)
 refine ⟨h1, ?_⟩
 rw [List.find?_eq_getElem?_findIdx, List.getElem?_eq_getElem h1]
theorem find_none {l : List En} {s : ByteArray} (h : hasE l s = false) : l.find? (fun e => e.1 == s) = none := by
 rw [List.find?_eq_none]
 intro x hx hs
 have : hasE l s = true := List.any_eq_true.2 ⟨x, hx, hs⟩
 rw [h] at this; cases this
theorem TKy_eq {b : Bk} {s : ByteArray} : (TKy idxE b s).eval = some (((keyF b s).1, (keyF b s).2, ()), ()) := by
 unfold TKy keyF
 cases hq : hasE b.1 s with
 | true =>
  obtain ⟨h1, h2⟩ := find_has (l := b.1) hq
  have e : idxE b.1 s = ((b.1.findIdx fun e => e.1 == s : Nat) : Int) := if_pos hq
  rw [e, ite_f (decide_eq_false (by omega)), chk_eval (inArr_of h1), Int.toNat_natCast, getD_of h1, h2]
  rfl
 | false =>
  have e : idxE b.1 s = -1 := if_neg (by rw [hq]; simp)
  rw [e, ite_t (by decide), find_none hq]
  rfl
theorem okKy : CSound Try.prog 32 sKy ∧ CLocal sKy :=
 pos_sound (L := L0) (C := ctx [(68, sFi idxE)]) (ctx_sound ⟨okFi, trivial⟩) Try.func32 (by kernel_rfl) (noLoopsL (by kernel_rfl)) fun xs hs hx hh hp => by
  obtain ⟨b, s, u⟩ := xs
  exact (tKy _ b s).trans TKy_eq
def SAk : RSpec := ⟨[1, 2, 5], 22, [.str, .ptr 0 [], i64], [.box tB], [.box tB], [], fun x => match x with | .ret => ([4], [i64], [.box tB]) | _ => ([], [], [.box tB])⟩
def GAk (b : Bk) (s : ByteArray) (i : Int) : Tr SAk.End :=
 .ite (decide (i < (b.1.length : Int))) (.chk (inArr i b.1.length) (.ite ((b.1.getD i.toNat (dflt tEnt)).1 == s) (.ret (.inr (.ret, encS [4] [i64] [.box tB] 22 (i, ()) (b, ())))) (.ret (.inl ((s, (), w (i + 1), ()), (b, ()))))))
  (.ret (.inr (.exit 0, encS [] [] [.box tB] 22 () (b, ()))))
noncomputable def bAk : Code := loopAt Try.f82 0
theorem rAk (b : Bk) (s : ByteArray) (i : Int) : (SAk.round (bodyK Try.prog (ctx []) L0 bAk) (s, (), i, ()) (b, ())).eval = (GAk b s i).eval := by kernel_rfl
theorem mAk (s : ByteArray) (b : Bk) (hl : b.1.length ≤ 9223372036854775807) : ∀ (m k : Nat), k + m = b.1.length →
  SAk.many (bodyK Try.prog (ctx []) L0 bAk) (m + 1) (s, (), (k : Int), ()) (b, ()) = if hasE (b.1.drop k) s = true then some (.ret, encS [4] [i64] [.box tB] 22 (((k + (b.1.drop k).findIdx fun e => e.1 == s : Nat) : Int), ()) (b, ())) else some (.exit 0, encS [] [] [.box tB] 22 () (b, ()))
 | 0, k, h => by
  have e1 : b.1.drop k = [] := List.drop_eq_nil_of_le (by omega)
  rw [e1, if_neg (by simp [hasE])]
  refine rmany_inr ((rAk b s _).trans ?_) 0
  unfold GAk
  rw [ite_f (decide_eq_false (by omega))]
  rfl
 | m + 1, k, h => by
  have h1 : k < b.1.length := by omega
  have e2 : (b.1.drop k) = b.1[k] :: b.1.drop (k + 1) := List.drop_eq_getElem_cons h1
  cases hq : (b.1[k].1 == s) with
  | true =>
   have e3 : hasE (b.1.drop k) s = true := by simp only [hasE, e2, List.any_cons, hq, Bool.true_or]
   have e4 : ((b.1.drop k).findIdx fun e => e.1 == s) = 0 := by rw [e2, List.findIdx_cons, hq]; rfl
   rw [if_pos e3, e4]
   refine rmany_inr ((rAk b s _).trans ?_) _
   unfold GAk
   rw [Int.toNat_natCast, ite_t (decide_eq_true (by omega)), chk_eval (inArr_of h1), getD_of h1, ite_t hq]
   rfl
  | false =>
   have e3 : hasE (b.1.drop k) s = hasE (b.1.drop (k + 1)) s := by simp only [hasE, e2, List.any_cons, hq, Bool.false_or]
   have e4 : k + ((b.1.drop k).findIdx fun e => e.1 == s) = k + 1 + (b.1.drop (k + 1)).findIdx fun e => e.1 == s := by rw [e2, List.findIdx_cons, hq]; simp only [cond_false]; omega
   rw [e3, e4]
   refine (rmany_inl (d := ((s, (), ((k + 1 : Nat) : Int), ()), (b, ()))) ((rAk b s _).trans ?_) (m + 1)).trans (mAk s b hl m (k + 1) (by omega))
   unfold GAk
   rw [Int.toNat_natCast, ite_t (decide_eq_true (by omega)), chk_eval (inArr_of h1), getD_of h1, ite_f hq, w_succ h1 hl]
   rfl
def cAk (l : List En) (i : Int) : Bool := decide (l.length ≤ 9223372036854775807) && decide (i = 0)
def FAk (c : List En → Int → Bool) (h : List En → ByteArray → Bool) (ix : List En → ByteArray → Int) (xs : HL SAk.Ts) (hs : HD SAk.Es) : Tr (Ex × St) :=
 .chk (c hs.1.1 xs.2.2.1) (.ite (h hs.1.1 xs.1) (.ret (.ret, encS [4] [i64] [.box tB] 22 (ix hs.1.1 xs.1, ()) hs)) (.ret (.exit 0, encS [] [] [.box tB] 22 () hs)))
def LAk (c : List En → Int → Bool) (h : List En → ByteArray → Bool) (ix : List En → ByteArray → Int) : Loops := fun j st => if j = 2 then SAk.fn (FAk c h ix) st else .fail
theorem lAk : LoopOK Try.prog (LAk cAk hasE idxE) bAk :=
 rloop_ok (L := LAk cAk hasE idxE) (L' := L0) nil_sound (loopsOK_of (by kernel_rfl)) SAk (F := FAk cAk hasE idxE) (i := 2) (by kernel_rfl) (fun _ => rfl) fun xs hs q h => by
  obtain ⟨s, u1, i, u⟩ := xs
  obtain ⟨b, u2⟩ := hs
  obtain ⟨h1, h2⟩ := Tr.chk_some h
  simp only [cAk, Bool.and_eq_true, decide_eq_true_eq] at h1
  obtain ⟨hl, e2⟩ := h1
  have e2 : i = ((0 : Nat) : Int) := e2
  subst e2
  refine ⟨List.length (α := En) b.1 + 1, ?_⟩
  have := mAk s b hl (List.length (α := En) b.1) 0 (by omega)
  rw [List.drop_zero, Nat.zero_add] at this
  refine this.trans ?_
  rcases Tr.ite_some h2 with ⟨hx, h3⟩ | ⟨hx, h3⟩
  ·have hx : hasE b.1 s = true := hx
   have := Tr.ret_some h3
   subst this
   rw [if_pos hx]
   simp only [idxE, if_pos hx]
  ·have hx : hasE b.1 s = false := hx
   have := Tr.ret_some h3
   subst this
   rw [if_neg (by rw [hx]; simp)]
def TAk (c : List En → Int → Bool) (h : List En → ByteArray → Bool) (ix : List En → ByteArray → Int) (b : Bk) (s : ByteArray) : Tr nFi.Out :=
 .chk (c b.1 0) (.ite (h b.1 s) (.ret ((ix b.1 s, ()), ())) (.ret ((-1, ()), ())))
theorem tAk (c : List En → Int → Bool) (h : List En → ByteArray → Bool) (ix : List En → ByteArray → Int) (b : Bk) (s : ByteArray) :
  (fnP Try.prog (ctx []) (LAk c h ix) nFi Try.f82 (b, s, ()) ()).eval = (TAk c h ix b s).eval := by kernel_rfl
theorem TAk_eq {b : Bk} {s : ByteArray} (hl : b.1.length ≤ 9223372036854775807) : (TAk cAk hasE idxE b s).eval = some ((idxE b.1 s, ()), ()) := by
 unfold TAk
 rw [chk_eval (by simp [cAk, hl])]
 cases hq : hasE b.1 s with
 | true => rw [ite_t rfl]; rfl
 | false => rw [ite_f rfl]; unfold idxE; rw [if_neg (by rw [hq]; simp)]; rfl
theorem okAk : CSound Try.prog 82 (sFi idxE) ∧ CLocal (sFi idxE) :=
 pos_sound (L := LAk cAk hasE idxE) nil_sound Try.func82 (by kernel_rfl) (loops1 (by kernel_rfl) lAk) fun xs hs hx hh hp => by
  obtain ⟨b, s, u⟩ := xs
  exact (tAk _ _ _ b s).trans (TAk_eq hx.1.1.1)
theorem tRk (h : List En → ByteArray → Int) (b : Bk) (s : ByteArray) :
  (fnP Try.prog (ctx [(82, sFi h)]) L0 nKy Try.f46 (b, s, ()) ()).eval = (TKy h b s).eval := by kernel_rfl
theorem okRk : CSound Try.prog 46 sKy ∧ CLocal sKy :=
 pos_sound (L := L0) (C := ctx [(82, sFi idxE)]) (ctx_sound ⟨okAk, trivial⟩) Try.func46 (by kernel_rfl) (noLoopsL (by kernel_rfl)) fun xs hs hx hh hp => by
  obtain ⟨b, s, u⟩ := xs
  exact (tRk _ b s).trans TKy_eq
end Go.Proofs.Ytaffancdidgkhaa.Kdc
end
section
set_option linter.unusedVariables false
set_option linter.unusedSimpArgs false
set_option maxRecDepth 100000
namespace Go.Proofs.Ytaffancdidgkhaa.Kdc
open Go Vse Go.Proofs Gen
abbrev tAsk : Ty := .prod .str (.prod bt (.prod bt (.prod w16 (.prod w16 .unit))))
abbrev nAs : PSpec := ⟨[tB, tN], [tAsk, i64], [], [], []⟩
abbrev Nt := Int × ByteArray × ByteArray × List Int × List Int × List Int × List Int × List Int × Unit
abbrev Kf := Bk → ByteArray → List Int × Bool
abbrev Rf := List Int → ByteArray → List Int → Int → Rl
def sK (K : Kf) : CSpec := .pos nKy (fun _ _ => true) fun xs _ => (((K xs.1 xs.2.1).1, (K xs.1 xs.2.1).2, ()), ())
def cAs (K : Kf) (R : Rf) (W : List Int → List Int × Int × Unit) (T : List Int → Int × Int × Unit) (N : ByteArray → Bool) : List (Nat × CSpec) :=
 [(32, sK K), (20, sPt R), (80, .sl [bs] [w16, i64] fun x => W x.1), (81, .sl [bs] [i64, i64] fun x => T x.1), (57, .sl1 [.str] .bool fun x => N x.1)]
abbrev sNs2 : ByteArray := ⟨#[110, 115, 50]⟩
abbrev Ask := ByteArray × List Int × List Int × List Int × List Int × Unit
def ask0 : Ask := (⟨#[]⟩, [], [], zero16, zero16, ())
def TAs (K : Kf) (R : Rf) (W : List Int → List Int × Int × Unit) (T : List Int → Int × Int × Unit) (N : ByteArray → Bool) (b : Bk) (n : Nt) : Tr nAs.Out :=
 .ite (!(K b n.2.2.1).2) (.ret ((ask0, (4 : Int), ()), ())) <|
 .ite ((R (K b n.2.2.1).1 sNs2 n.2.2.2.2.2.1 3).2.1 != 0) (.ret ((ask0, (R (K b n.2.2.1).1 sNs2 n.2.2.2.2.2.1 3).2.1, ()), ())) <|
 .chk (inArr 0 (R (K b n.2.2.1).1 sNs2 n.2.2.2.2.2.1 3).1.length) <| .chk (inArr 1 (R (K b n.2.2.1).1 sNs2 n.2.2.2.2.2.1 3).1.length) <| .chk (inArr 2 (R (K b n.2.2.1).1 sNs2 n.2.2.2.2.2.1 3).1.length) <|
 .ite (!N (bytesStr ((R (K b n.2.2.1).1 sNs2 n.2.2.2.2.2.1 3).1.getD 0 []))) (.ret ((ask0, (3 : Int), ()), ())) <|
 .ite ((W ((R (K b n.2.2.1).1 sNs2 n.2.2.2.2.2.1 3).1.getD 1 [])).2.1 != 0) (.ret ((ask0, (3 : Int), ()), ())) <|
 .ite ((T ((R (K b n.2.2.1).1 sNs2 n.2.2.2.2.2.1 3).1.getD 2 [])).2.1 != 0) (.ret ((ask0, (3 : Int), ()), ())) <|
 .ite (bytesStr ((R (K b n.2.2.1).1 sNs2 n.2.2.2.2.2.1 3).1.getD 0 []) == n.2.2.1) (.ret ((ask0, (1 : Int), ()), ())) <|
 .ite (!(K b (bytesStr ((R (K b n.2.2.1).1 sNs2 n.2.2.2.2.2.1 3).1.getD 0 []))).2) (.ret ((ask0, (4 : Int), ()), ()))
 (.ret (((bytesStr ((R (K b n.2.2.1).1 sNs2 n.2.2.2.2.2.1 3).1.getD 0 []), (R (K b n.2.2.1).1 sNs2 n.2.2.2.2.2.1 3).1.getD 1 [], (R (K b n.2.2.1).1 sNs2 n.2.2.2.2.2.1 3).1.getD 2 [], (K b (bytesStr ((R (K b n.2.2.1).1 sNs2 n.2.2.2.2.2.1 3).1.getD 0 []))).1, (K b n.2.2.1).1, ()), (0 : Int), ()), ()))
theorem tAs (K : Kf) (R : Rf) (W : List Int → List Int × Int × Unit) (T : List Int → Int × Int × Unit) (N : ByteArray → Bool) (b : Bk) (n : Nt) :
  (fnP Try.prog (ctx (cAs K R W T N)) L0 nAs Try.f45 (b, n, ()) ()).eval = (TAs K R W T N b n).eval := by kernel_rfl
abbrev tD : Ty := .ip true (.arr 3 w16)
abbrev nC1 : PSpec := ⟨[w16, .str, ls, tD], [bt], [], [], []⟩
abbrev Sdf := List Int → ByteArray → List Int → List (List Int) → List Int
theorem tC1 (F : Sdf) (key : List Int) (s : ByteArray) (l : List (List Int)) (d : List (List Int)) :
  (fnP Try.prog (ctx [(17, sSd F)]) L0 nC1 Try.f43 (key, s, l, d, ()) ()).eval = (.ret ((F key s (d.getD 1 []) l, ()), ()) : Tr nC1.Out).eval := by kernel_rfl
theorem tC2 (F : Sdf) (key : List Int) (s : ByteArray) (l : List (List Int)) (d : List (List Int)) :
  (fnP Try.prog (ctx [(17, sSd F)]) L0 nC1 Try.f44 (key, s, l, d, ()) ()).eval = (.ret ((F key s (d.getD 2 []) l, ()), ()) : Tr nC1.Out).eval := by kernel_rfl
def sC (i : Nat) (F : Sdf) : CSpec := .pos nC1 (fun _ _ => true) fun xs _ => ((F xs.1 xs.2.1 (xs.2.2.2.1.getD i []) xs.2.2.1, ()), ())
abbrev nAw : PSpec := ⟨[tB, tN, .arr 3 w16], [.str, tN, i64], [], [], []⟩
def kAw : Cut := ⟨0, [.box tB, .box tN, .box (.arr 3 w16), .box tN], [], [3, 4, 5, 6, 7, 8], [.ip true tB, .ip true tN, .ip true (.arr 3 w16), .str, .ptr 3 [], i64], [.dead, .dead, .dead, .box tN], 128⟩
abbrev Af := Bk → Nt → Ask × Int
def sAs (A : Af) : CSpec := .pos nAs (fun _ _ => true) fun xs _ => (((A xs.1 xs.2.1).1, (A xs.1 xs.2.1).2, ()), ())
def cAw (A : Af) (K : Kf) (F G : Sdf) : List (Nat × CSpec) := [(45, sAs A), (32, sK K), (43, sC 1 F), (44, sC 2 G)]
abbrev all16 (x : List Int) : List Int := (x.take 16).drop 0
def note0 : Nt := (0, ⟨#[]⟩, ⟨#[]⟩, zero16, zero16, [], [], [], ())
abbrev aErr (e : Int) : nAw.Out := ((⟨#[]⟩, note0, e, ()), ())
abbrev sNs3 : ByteArray := ⟨#[110, 115, 51]⟩
abbrev sNst : ByteArray := ⟨#[110, 115, 116]⟩
abbrev sK3b : ByteArray := ⟨#[107, 51, 98]⟩
abbrev sK3a : ByteArray := ⟨#[107, 51, 97]⟩
def TAw (A : Af) (K : Kf) (F G : Sdf) (b : Bk) (n : Nt) (d : List (List Int)) : Tr nAw.Out :=
 .ite (n.1 == 2)
  (.ite ((A b n).2 != 0) (.ret (aErr (A b n).2)) (.ret (((A b n).1.1, (3, ⟨#[]⟩, ⟨#[]⟩, zero16, n.2.2.2.2.1,
   F (A b n).1.2.2.2.1 sNs3 (d.getD 1 []) [strBytes n.2.2.1, (A b n).1.2.1, all16 (d.getD 0 []), (A b n).1.2.2.1],
   G (A b n).1.2.2.2.2.1 sNst (d.getD 2 []) [strBytes (A b n).1.1, all16 (d.getD 0 []), (A b n).1.2.2.1], [], ()), 0, ()), ())))
 (.ite (n.1 == 7)
  (.ite (n.2.1 == n.2.2.1) (.ret (aErr 1)) (.ite (!(K b n.2.1).2) (.ret (aErr 4)) (.ite (!(K b n.2.2.1).2) (.ret (aErr 4)) (.ret ((n.2.2.1, (8, ⟨#[]⟩, ⟨#[]⟩, zero16, zero16,
   F (K b n.2.2.1).1 sK3b (d.getD 1 []) [all16 n.2.2.2.2.1, strBytes n.2.1, all16 (d.getD 0 [])],
   G (K b n.2.1).1 sK3a (d.getD 2 []) [all16 n.2.2.2.1, strBytes n.2.2.1, all16 (d.getD 0 [])], [], ()), 0, ()), ())))))
  (.ret (aErr 13)))
theorem tAw (A : Af) (K : Kf) (F G : Sdf) (b : Bk) (n : Nt) (d : List (List Int)) :
  (fnPX Try.prog (runCut Try.prog (ctx (cAw A K F G)) L0 kAw 0 (bodyOf Try.f12)) nAw Try.f12 (b, n, d, ()) ()).eval = (TAw A K F G b n d).eval := by kernel_rfl
end Go.Proofs.Ytaffancdidgkhaa.Kdc
end
section
set_option linter.unusedVariables false
set_option linter.unusedSimpArgs false
set_option maxRecDepth 100000
namespace Go.Proofs.Ytaffancdidgkhaa.Kdc
open Go Vse Go.Proofs Gen
def kRw : Cut := ⟨2, [.box tB, .box tN, .box (.arr 3 w16), .box tN, .box tN, .box w16], [], [3, 4, 5, 6, 7, 8, 9, 10], [.ip true tB, .ip true tN, .ip true (.arr 3 w16), .str, .ptr 3 [], i64, .ip true tN, .ip true w16], [.dead, .dead, .dead, .box tN, .dead, .dead], 183⟩
def cRw (K : Kf) (R : Rf) (F : Sdf) (N : ByteArray → Bool) : List (Nat × CSpec) :=
 [(46, sK K), (21, sPt R), (18, sSd F), (25, .sl1 [.str] .bool fun x => N x.1)]
abbrev lOf (K : Kf) (R : Rf) (b : Bk) (n : Nt) : List (List Int) := (R (K b n.2.2.1).1 sNs2 n.2.2.2.2.2.1 3).1
def TRw (K : Kf) (R : Rf) (F : Sdf) (N : ByteArray → Bool) (b : Bk) (n : Nt) (d : List (List Int)) : Tr nAw.Out :=
 .ite (n.1 == 2)
  (.ite (!(K b n.2.2.1).2) (.ret (aErr 4)) <|
   .ite ((R (K b n.2.2.1).1 sNs2 n.2.2.2.2.2.1 3).2.1 != 0) (.ret (aErr (R (K b n.2.2.1).1 sNs2 n.2.2.2.2.2.1 3).2.1)) <|
   .chk (inArr 0 (lOf K R b n).length) <| .ite (!N (bytesStr ((lOf K R b n).getD 0 []))) (.ret (aErr 3)) <|
   .chk (inArr 1 (lOf K R b n).length) <| .ite ((((lOf K R b n).getD 1 []).length : Int) != 16) (.ret (aErr 3)) <|
   .chk (inArr 2 (lOf K R b n).length) <| .ite ((((lOf K R b n).getD 2 []).length : Int) != 8) (.ret (aErr 3)) <|
   .chk (inArr 0 (lOf K R b n).length) <| .ite (bytesStr ((lOf K R b n).getD 0 []) == n.2.2.1) (.ret (aErr 1)) <|
   .ite (!(K b (bytesStr ((lOf K R b n).getD 0 []))).2) (.ret (aErr 4)) <|
   .chk (inArr 1 (lOf K R b n).length) <| .chk (inArr 2 (lOf K R b n).length) <| .chk (inArr 0 (lOf K R b n).length) <| .chk (inArr 2 (lOf K R b n).length) <|
   .ret ((bytesStr ((lOf K R b n).getD 0 []), (3, ⟨#[]⟩, ⟨#[]⟩, zero16, n.2.2.2.2.1,
   F (K b (bytesStr ((lOf K R b n).getD 0 []))).1 sNs3 (d.getD 1 []) [strBytes n.2.2.1, (lOf K R b n).getD 1 [], all16 (d.getD 0 []), (lOf K R b n).getD 2 []],
   F (K b n.2.2.1).1 sNst (d.getD 2 []) [(lOf K R b n).getD 0 [], all16 (d.getD 0 []), (lOf K R b n).getD 2 []], [], ()), 0, ()), ()))
 (.ite (n.1 == 7)
  (.ite (n.2.1 == n.2.2.1) (.ret (aErr 1)) (.ite (!(K b n.2.1).2) (.ret (aErr 4)) (.ite (!(K b n.2.2.1).2) (.ret (aErr 4)) (.ret ((n.2.2.1, (8, ⟨#[]⟩, ⟨#[]⟩, zero16, zero16,
   F (K b n.2.2.1).1 sK3b (d.getD 1 []) [all16 n.2.2.2.2.1, strBytes n.2.1, all16 (d.getD 0 [])],
   F (K b n.2.1).1 sK3a (d.getD 2 []) [all16 n.2.2.2.1, strBytes n.2.2.1, all16 (d.getD 0 [])], [], ()), 0, ()), ())))))
  (.ret (aErr 13)))
theorem tRw (K : Kf) (R : Rf) (F : Sdf) (N : ByteArray → Bool) (b : Bk) (n : Nt) (d : List (List Int)) :
  (fnPX Try.prog (runCut Try.prog (ctx (cRw K R F N)) L0 kRw 2 (bodyOf Try.f13)) nAw Try.f13 (b, n, d, ()) ()).eval = (TRw K R F N b n d).eval := by kernel_rfl
end Go.Proofs.Ytaffancdidgkhaa.Kdc
end
section
set_option linter.unusedVariables false
set_option linter.unusedSimpArgs false
set_option maxRecDepth 100000
namespace Go.Proofs.Ytaffancdidgkhaa.Kdc
open Go Vse Go.Proofs Gen
abbrev tBo : Ty := .prod (.vc 3 0) (.prod (.imm true false w16) (.prod i64 (.prod w16 .unit)))
abbrev eOw : List ETy := [.box tB, .box tB, .box tBo, .vec 0 tEnt]
def SOw : RSpec := ⟨[1, 2, 3, 4], 30, [.ptr 0 [], .ptr 1 [], .ptr 2 [], i64], eOw, [.box tB, .box tB, .box tB], [.fld 2 0 tEnt], fun _ => ([2, 3], [.ptr 1 [], .ptr 2 []], eOw)⟩
noncomputable def bOw : Code := loopAt Try.f14 0
abbrev Bo := Unit × List (List Int) × Int × List Int × Unit
def GOw (b b0 : Bk) (o : Bo) (l : List En) (i : Int) : Tr SOw.End :=
 .ite (decide (i < (b.1.length : Int))) (.chk (inArr i b.1.length) (.chk (Vse.room (l.length + 1) 32) (.ret (.inl (((), (), (), w (i + 1), ()), (b, b0, o, l ++ [b.1.getD i.toNat (dflt tEnt)], ()))))))
  (.ret (.inr (.exit 0, encS [2, 3] [.ptr 1 [], .ptr 2 []] eOw 30 ((), (), ()) (b, b0, o, l, ()))))
theorem rOw (b b0 : Bk) (o : Bo) (l : List En) (i : Int) : (SOw.round (bodyK Try.prog (ctx []) L0 bOw) ((), (), (), i, ()) (b, b0, o, l, ())).eval = (GOw b b0 o l i).eval := by kernel_rfl
theorem mOw (b b0 : Bk) (o : Bo) (hl : b.1.length ≤ 1000) : ∀ (m k : Nat), k + m = b.1.length →
  SOw.many (bodyK Try.prog (ctx []) L0 bOw) (m + 1) ((), (), (), (k : Int), ()) (b, b0, o, b.1.take k, ()) = some (.exit 0, encS [2, 3] [.ptr 1 [], .ptr 2 []] eOw 30 ((), (), ()) (b, b0, o, b.1, ()))
 | 0, k, h => by
  have e1 : b.1.take k = b.1 := List.take_of_length_le (by omega)
  rw [e1]
  refine rmany_inr ((rOw b b0 o _ _).trans ?_) 0
  unfold GOw
  rw [ite_f (decide_eq_false (by omega))]
  rfl
 | m + 1, k, h => by
  have h1 : k < b.1.length := by omega
  have e2 : b.1.take k ++ [b.1[k]] = b.1.take (k + 1) := by rw [List.take_add_one, List.getElem?_eq_getElem h1]; rfl
  have hr : Vse.room ((b.1.take k).length + 1) 32 = true := by
   have : (b.1.take k).length ≤ b.1.length := by rw [List.length_take]; omega
   simp only [Vse.room, decide_eq_true_eq]; omega
  refine (rmany_inl (d := (((), (), (), ((k + 1 : Nat) : Int), ()), (b, b0, o, b.1.take (k + 1), ()))) ((rOw b b0 o _ _).trans ?_) (m + 1)).trans (mOw b b0 o hl m (k + 1) (by omega))
  unfold GOw
  rw [Int.toNat_natCast, ite_t (decide_eq_true (by omega)), chk_eval (inArr_of h1), chk_eval hr, getD_of h1, e2, w_succ h1 (by omega)]
  rfl
def cOw (b : Bk) (l : List En) (i : Int) : Bool := decide (b.1.length ≤ 1000) && (decide (l.length = 0) && decide (i = 0))
def FOw (c : Bk → List En → Int → Bool) (xs : HL SOw.Ts) (hs : HD SOw.Es) : Tr (Ex × St) :=
 .chk (c hs.1 hs.2.2.2.1 xs.2.2.2.1) (.ret (.exit 0, encS [2, 3] [.ptr 1 [], .ptr 2 []] eOw 30 ((), (), ()) (hs.1, hs.2.1, hs.2.2.1, hs.1.1, ())))
def LOw (c : Bk → List En → Int → Bool) : Loops := fun j st => if j = 3 then SOw.fn (FOw c) st else .fail
theorem lOw : LoopOK Try.prog (LOw cOw) bOw :=
 rloop_ok (L := LOw cOw) (L' := L0) nil_sound (loopsOK_of (by kernel_rfl)) SOw (F := FOw cOw) (i := 3) (by kernel_rfl) (fun _ => rfl) fun xs hs q h => by
  obtain ⟨u1, u2, u3, i, u⟩ := xs
  obtain ⟨b, b0, o, l, u4⟩ := hs
  obtain ⟨h1, h2⟩ := Tr.chk_some h
  simp only [cOw, Bool.and_eq_true, decide_eq_true_eq] at h1
  obtain ⟨hl, e1, e2⟩ := h1
  have e2 : i = ((0 : Nat) : Int) := e2
  have e1 : l = ([] : List En) := List.eq_nil_of_length_eq_zero e1
  subst e1; subst e2
  have := Tr.ret_some h2
  subst this
  have := mOw b b0 o hl (List.length (α := En) b.1) 0 (by omega)
  exact ⟨_, this⟩
abbrev nOw : PSpec := ⟨[tB], [tB], [], [], []⟩
theorem tOw (c : Bk → List En → Int → Bool) (b : Bk) : (fnP Try.prog (ctx []) (LOw c) nOw Try.f14 (b, ()) ()).eval = (.chk (c b [] 0) (.ret ((b, ()), ())) : Tr nOw.Out).eval := by kernel_rfl
def sOw : CSpec := .pos nOw (fun xs _ => decide (xs.1.1.length ≤ 1000)) fun xs _ => ((xs.1, ()), ())
theorem okOw : CSound Try.prog 14 sOw ∧ CLocal sOw :=
 pos_sound (L := LOw cOw) nil_sound Try.func14 (by kernel_rfl) (loops1 (by kernel_rfl) lOw) fun xs hs hx hh hp => by
  obtain ⟨b, u⟩ := xs
  exact (tOw _ b).trans (chk_eval (by simp only [cOw, Bool.and_eq_true, decide_eq_true_eq]; exact ⟨of_decide_eq_true hp, rfl, trivial⟩) _)
abbrev nSm : PSpec := ⟨[tN], [.bool], [], [], []⟩
def kRi (n : Nat) : Cut := ⟨n, [.box tN], [], [1, 2, 3], [.ptr 0 [], .bool, .str], [.box tN], 112⟩
abbrev Inf := ByteArray → Int → Bool
abbrev nHa : PSpec := ⟨[i64], [.str], [], [], []⟩
def sHaG (h : Int → ByteArray) : CSpec := .pos nHa (fun _ _ => true) fun xs _ => ((h xs.1, ()), ())
abbrev nIn : PSpec := ⟨[.str, u8], [.bool], [], [], []⟩
def sInG (i : Inf) : CSpec := .pos nIn (fun _ _ => true) fun xs _ => ((i xs.1 xs.2.1, ()), ())
def cRi (h : Int → ByteArray) (i : Inf) (N : ByteArray → Bool) : List (Nat × CSpec) :=
 [(78, sHaG h), (79, sInG i), (25, .sl1 [.str] .bool fun x => N x.1)]
abbrev RiO := (HL (kRi 0).Ts × HD (kRi 0).Es) ⊕ nSm.Out
def riOk (n : Nt) (r : Bool) (s : ByteArray) : Tr RiO := .ret (.inl (((), r, s, ()), (n, ())))
def riNo : Tr RiO := .ret (.inr ((false, ()), ()))
def riIf (a b : Bool) (k : Tr RiO) : Tr RiO := .ite a (.ite b riNo k) k
abbrev e0 : ByteArray := ⟨#[]⟩
def R1 (h : Int → ByteArray) (n : Nt) : Tr RiO := .ite (h n.1 == e0) riNo (riOk n false (h n.1))
def R2 (i : Inf) (N : ByteArray → Bool) (n : Nt) (r : Bool) (s : ByteArray) : Tr RiO :=
 .ite (i s 65 != (n.2.1 != e0)) riNo (.ite (i s 66 != (n.2.2.1 != e0)) riNo (riIf (n.2.1 != e0) (!N n.2.1) (riIf (n.2.2.1 != e0) (!N n.2.2.1) (riOk n r s))))
def R3 (i : Inf) (n : Nt) (r : Bool) (s : ByteArray) : Tr RiO := riIf (!i s 88) (!eqT w16 n.2.2.2.1 zero16) (riIf (!i s 89) (!eqT w16 n.2.2.2.2.1 zero16) (riOk n r s))
def R4 (i : Inf) (n : Nt) (r : Bool) (s : ByteArray) : Tr RiO :=
 riIf (!i s 80) (decide ((n.2.2.2.2.2.1.length : Int) > 0)) (riIf (!i s 81) (decide ((n.2.2.2.2.2.2.1.length : Int) > 0)) (riIf (!i s 82) (decide ((n.2.2.2.2.2.2.2.1.length : Int) > 0)) (riOk n r s)))
def R5 (n : Nt) : Tr nSm.Out := .ite (decide ((n.2.2.2.2.2.1.length : Int) ≤ 500)) (.ite (decide ((n.2.2.2.2.2.2.1.length : Int) ≤ 500)) (.ret ((decide ((n.2.2.2.2.2.2.2.1.length : Int) ≤ 500), ()), ())) (.ret ((false, ()), ()))) (.ret ((false, ()), ()))
abbrev stR (n : Nt) (r : Bool) (s : ByteArray) : St := encS [1, 2, 3] [.ptr 0 [], .bool, .str] [.box tN] 112 ((), r, s, ()) (n, ())
noncomputable abbrev bRi : Code := bodyOf Try.f42
theorem tR1 (h : Int → ByteArray) (i : Inf) (N : ByteArray → Bool) (n : Nt) : (hdC Try.prog (ctx (cRi h i N)) L0 nSm Try.f42 (kRi 2) bRi (begin_ Try.f42 (mkArgs [tN] (n, ())) [])).eval = (R1 h n).eval := by kernel_rfl
theorem tR2 (h : Int → ByteArray) (i : Inf) (N : ByteArray → Bool) (n : Nt) (r : Bool) (s : ByteArray) : (hdC Try.prog (ctx (cRi h i N)) L0 nSm Try.f42 (kRi 0) (restC 2 bRi) (stR n r s)).eval = (R2 i N n r s).eval := by kernel_rfl
theorem tR3 (h : Int → ByteArray) (i : Inf) (N : ByteArray → Bool) (n : Nt) (r : Bool) (s : ByteArray) : (hdC Try.prog (ctx (cRi h i N)) L0 nSm Try.f42 (kRi 0) (restC 0 (restC 2 bRi)) (stR n r s)).eval = (R3 i n r s).eval := by kernel_rfl
theorem tR4 (h : Int → ByteArray) (i : Inf) (N : ByteArray → Bool) (n : Nt) (r : Bool) (s : ByteArray) : (hdC Try.prog (ctx (cRi h i N)) L0 nSm Try.f42 (kRi 0) (restC 0 (restC 0 (restC 2 bRi))) (stR n r s)).eval = (R4 i n r s).eval := by kernel_rfl
theorem tR5 (h : Int → ByteArray) (i : Inf) (N : ByteArray → Bool) (n : Nt) (r : Bool) (s : ByteArray) : (stC Try.prog (ctx (cRi h i N)) L0 nSm Try.f42 [] (restC 0 (restC 0 (restC 0 (restC 2 bRi)))) (stR n r s)).eval = (R5 n).eval := by kernel_rfl
end Go.Proofs.Ytaffancdidgkhaa.Kdc
end
section
set_option linter.unusedVariables false
set_option linter.unusedSimpArgs false
set_option maxRecDepth 100000
namespace Go.Proofs.Ytaffancdidgkhaa.Kdc
open Go Vse Go.Proofs Gen
def g2 (i : Inf) (N : ByteArray → Bool) (n : Nt) (s : ByteArray) : Bool :=
 !(i s 65 != (n.2.1 != e0)) && !(i s 66 != (n.2.2.1 != e0)) && !((n.2.1 != e0) && !N n.2.1) && !((n.2.2.1 != e0) && !N n.2.2.1)
def g3 (i : Inf) (n : Nt) (s : ByteArray) : Bool := !(!i s 88 && !eqT w16 n.2.2.2.1 zero16) && !(!i s 89 && !eqT w16 n.2.2.2.2.1 zero16)
def g4 (i : Inf) (n : Nt) (s : ByteArray) : Bool :=
 !(!i s 80 && decide ((n.2.2.2.2.2.1.length : Int) > 0)) && !(!i s 81 && decide ((n.2.2.2.2.2.2.1.length : Int) > 0)) && !(!i s 82 && decide ((n.2.2.2.2.2.2.2.1.length : Int) > 0))
def g5 (n : Nt) : Bool := decide ((n.2.2.2.2.2.1.length : Int) ≤ 500) && decide ((n.2.2.2.2.2.2.1.length : Int) ≤ 500) && decide ((n.2.2.2.2.2.2.2.1.length : Int) ≤ 500)
def rightG (h : Int → ByteArray) (i : Inf) (N : ByteArray → Bool) (n : Nt) : Bool := !(h n.1 == e0) && (g2 i N n (h n.1) && (g3 i n (h n.1) && (g4 i n (h n.1) && g5 n)))
theorem R2_eval (i : Inf) (N : ByteArray → Bool) (n : Nt) (r : Bool) (s : ByteArray) : (R2 i N n r s).eval = bif g2 i N n s then (riOk n r s).eval else riNo.eval := by
 unfold R2 riIf g2
 cases (i s 65 != (n.2.1 != e0)) <;> cases (i s 66 != (n.2.2.1 != e0)) <;> cases (n.2.1 != e0) <;> cases (n.2.2.1 != e0) <;> cases N n.2.1 <;> cases N n.2.2.1 <;> rfl
theorem R3_eval (i : Inf) (n : Nt) (r : Bool) (s : ByteArray) : (R3 i n r s).eval = bif g3 i n s then (riOk n r s).eval else riNo.eval := by
 unfold R3 riIf g3
 cases i s 88 <;> cases i s 89 <;> cases eqT w16 n.2.2.2.1 zero16 <;> cases eqT w16 n.2.2.2.2.1 zero16 <;> rfl
theorem R4_eval (i : Inf) (n : Nt) (r : Bool) (s : ByteArray) : (R4 i n r s).eval = bif g4 i n s then (riOk n r s).eval else riNo.eval := by
 unfold R4 riIf g4
 cases i s 80 <;> cases i s 81 <;> cases i s 82 <;> cases decide ((n.2.2.2.2.2.1.length : Int) > 0) <;> cases decide ((n.2.2.2.2.2.2.1.length : Int) > 0) <;> cases decide ((n.2.2.2.2.2.2.2.1.length : Int) > 0) <;> rfl
theorem R5_eval (n : Nt) : (R5 n).eval = some ((g5 n, ()), ()) := by
 unfold R5 g5
 cases decide ((n.2.2.2.2.2.1.length : Int) ≤ 500) <;> cases decide ((n.2.2.2.2.2.2.1.length : Int) ≤ 500) <;> rfl
theorem tRi (h : Int → ByteArray) (i : Inf) (N : ByteArray → Bool) (n : Nt) :
  (stC Try.prog (ctx (cRi h i N)) L0 nSm Try.f42 [kRi 2, kRi 0, kRi 0, kRi 0] bRi (begin_ Try.f42 (mkArgs [tN] (n, ())) [])).eval = some ((rightG h i N n, ()), ()) := by
 unfold rightG
 cases h1 : (h n.1 == e0) with
 | true => exact st_inr ((tR1 h i N n).trans (ite_t h1 _ _))
 | false =>
  refine (st_inl (d := (((), false, h n.1, ()), (n, ()))) ((tR1 h i N n).trans (by unfold R1; rw [ite_f h1]; rfl))).trans ?_
  show (stC Try.prog (ctx (cRi h i N)) L0 nSm Try.f42 [kRi 0, kRi 0, kRi 0] (restC 2 bRi) (stR n false (h n.1))).eval = _
  cases h2 : g2 i N n (h n.1) with
  | false => exact st_inr ((tR2 h i N n _ _).trans ((R2_eval i N n _ _).trans (by rw [h2]; rfl)))
  | true =>
   refine (st_inl (d := (((), false, h n.1, ()), (n, ()))) ((tR2 h i N n _ _).trans ((R2_eval i N n _ _).trans (by rw [h2]; rfl)))).trans ?_
   show (stC Try.prog (ctx (cRi h i N)) L0 nSm Try.f42 [kRi 0, kRi 0] (restC 0 (restC 2 bRi)) (stR n false (h n.1))).eval = _
   cases h3 : g3 i n (h n.1) with
   | false => exact st_inr ((tR3 h i N n _ _).trans ((R3_eval i n _ _).trans (by rw [h3]; rfl)))
   | true =>
    refine (st_inl (d := (((), false, h n.1, ()), (n, ()))) ((tR3 h i N n _ _).trans ((R3_eval i n _ _).trans (by rw [h3]; rfl)))).trans ?_
    show (stC Try.prog (ctx (cRi h i N)) L0 nSm Try.f42 [kRi 0] (restC 0 (restC 0 (restC 2 bRi))) (stR n false (h n.1))).eval = _
    cases h4 : g4 i n (h n.1) with
    | false => exact st_inr ((tR4 h i N n _ _).trans ((R4_eval i n _ _).trans (by rw [h4]; rfl)))
    | true =>
     refine (st_inl (d := (((), false, h n.1, ()), (n, ()))) ((tR4 h i N n _ _).trans ((R4_eval i n _ _).trans (by rw [h4]; rfl)))).trans ?_
     exact (tR5 h i N n _ _).trans (R5_eval n)
def lHas : List ByteArray := [⟨#[]⟩, ⟨#[65, 88]⟩, ⟨#[66, 80, 89]⟩, ⟨#[80, 81, 89]⟩, ⟨#[81, 80]⟩, ⟨#[80]⟩, ⟨#[65, 88]⟩, ⟨#[65, 88, 66, 89]⟩, ⟨#[80, 81]⟩, ⟨#[80, 81, 82, 89]⟩, ⟨#[80]⟩, ⟨#[81, 88]⟩, ⟨#[89, 80]⟩, ⟨#[80]⟩, ⟨#[65, 88]⟩, ⟨#[80]⟩, ⟨#[65]⟩]
def hasF (n : Int) : ByteArray := if n < 1 then e0 else if (lHas.length : Int) ≤ n then e0 else lHas.getD n.toNat e0
def THa (n : Int) : Tr nHa.Out := .ite (decide (n < 1)) (.ret ((e0, ()), ())) (.ite (decide (n ≥ (lHas.length : Int))) (.ret ((e0, ()), ())) (.chk (inArr n lHas.length) (.ret ((lHas.getD n.toNat e0, ()), ()))))
theorem tHa (n : Int) : (fnP Try.prog (ctx []) L0 nHa Try.f78 (n, ()) ()).eval = (THa n).eval := by kernel_rfl
theorem THa_eq (n : Int) : (THa n).eval = some ((hasF n, ()), ()) := by
 unfold THa hasF
 by_cases h1 : n < 1
 ·rw [ite_t (decide_eq_true h1), if_pos h1]; rfl
 ·rw [ite_f (decide_eq_false h1), if_neg h1]
  by_cases h2 : (lHas.length : Int) ≤ n
  ·rw [ite_t (decide_eq_true h2), if_pos h2]; rfl
  ·rw [ite_f (decide_eq_false h2), if_neg h2, chk_eval (by simp only [inArr, Bool.and_eq_true, decide_eq_true_eq]; omega)]; rfl
theorem okHa : CSound Try.prog 78 (sHaG hasF) ∧ CLocal (sHaG hasF) :=
 pos_sound (L := L0) nil_sound Try.func78 (by kernel_rfl) (noLoopsL (by kernel_rfl)) fun xs hs hx hh hp => (tHa xs.1).trans (THa_eq xs.1)
def SIn : RSpec := ⟨[0, 1, 5], 17, [.str, u8, i64], [], [], [], fun x => match x with | .ret => ([4], [.bool], []) | _ => ([], [], [])⟩
noncomputable def bIn : Code := loopAt Try.f79 0
def GIn (s : ByteArray) (c i : Int) : Tr SIn.End :=
 .ite (decide (i < (s.size : Int))) (.chk (inArr i s.size) (.ite (decide (((s.data.getD i.toNat 0).toNat : Int) = c)) (.ret (.inr (.ret, encS [4] [.bool] [] 17 (true, ()) ()))) (.ret (.inl ((s, c, w (i + 1), ()), ())))))
  (.ret (.inr (.exit 0, encS [] [] [] 17 () ())))
theorem rIn (s : ByteArray) (c i : Int) : (SIn.round (bodyK Try.prog (ctx []) L0 bIn) (s, c, i, ()) ()).eval = (GIn s c i).eval := by kernel_rfl
def inF : Inf := fun s c => (strBytes s).any fun x => x == c
theorem mIn (s : ByteArray) (c : Int) (hl : s.size ≤ 9223372036854775807) : ∀ (m k : Nat), k + m = s.size →
  SIn.many (bodyK Try.prog (ctx []) L0 bIn) (m + 1) (s, c, (k : Int), ()) () = if ((strBytes s).drop k).any (fun x => x == c) = true then some (.ret, encS [4] [.bool] [] 17 (true, ()) ()) else some (.exit 0, encS [] [] [] 17 () ())
 | 0, k, h => by
  have e1 : (strBytes s).drop k = [] := List.drop_eq_nil_of_le (by rw [Fld.strBytes_length]; omega)
  rw [e1, if_neg (by simp)]
  refine rmany_inr ((rIn s c _).trans ?_) 0
  unfold GIn
  rw [ite_f (decide_eq_false (by omega))]
  rfl
 | m + 1, k, h => by
  have h1 : k < s.size := by omega
  have h1' : k < (strBytes s).length := by rw [Fld.strBytes_length]; exact h1
  have e2 : (strBytes s).drop k = (strBytes s)[k] :: (strBytes s).drop (k + 1) := List.drop_eq_getElem_cons h1'
  have e3 := Fld.strBytes_get s h1
  have e4 : (((strBytes s).drop k).any fun x => x == c) = (decide (((s.data.getD k 0).toNat : Int) = c) || ((strBytes s).drop (k + 1)).any fun x => x == c) := by rw [e2, List.any_cons, e3]; rfl
  rw [e4]
  by_cases hq : ((s.data.getD k 0).toNat : Int) = c
  ·rw [decide_eq_true hq, if_pos (by simp)]
   refine rmany_inr ((rIn s c _).trans ?_) _
   unfold GIn
   rw [Int.toNat_natCast, ite_t (decide_eq_true (by omega)), chk_eval (inArr_of h1), ite_t (decide_eq_true hq)]
   rfl
  ·rw [decide_eq_false hq, Bool.false_or]
   refine (rmany_inl (d := ((s, c, ((k + 1 : Nat) : Int), ()), ())) ((rIn s c _).trans ?_) (m + 1)).trans (mIn s c hl m (k + 1) (by omega))
   unfold GIn
   rw [Int.toNat_natCast, ite_t (decide_eq_true (by omega)), chk_eval (inArr_of h1), ite_f (decide_eq_false hq), w_succ h1 hl]
   rfl
def cIn (s : ByteArray) (i : Int) : Bool := decide (s.size ≤ 9223372036854775807) && decide (i = 0)
def FIn (c : ByteArray → Int → Bool) (f : Inf) (xs : HL SIn.Ts) (hs : HD SIn.Es) : Tr (Ex × St) :=
 .chk (c xs.1 xs.2.2.1) (.ite (f xs.1 xs.2.1) (.ret (.ret, encS [4] [.bool] [] 17 (true, ()) hs)) (.ret (.exit 0, encS [] [] [] 17 () hs)))
def LIn (c : ByteArray → Int → Bool) (f : Inf) : Loops := fun j st => if j = 2 then SIn.fn (FIn c f) st else .fail
theorem lIn : LoopOK Try.prog (LIn cIn inF) bIn :=
 rloop_ok (L := LIn cIn inF) (L' := L0) nil_sound (loopsOK_of (by kernel_rfl)) SIn (F := FIn cIn inF) (i := 2) (by kernel_rfl) (fun _ => rfl) fun xs hs q h => by
  obtain ⟨s, c, i, u⟩ := xs
  obtain ⟨h1, h2⟩ := Tr.chk_some h
  simp only [cIn, Bool.and_eq_true, decide_eq_true_eq] at h1
  obtain ⟨hl, e2⟩ := h1
  have e2 : i = ((0 : Nat) : Int) := e2
  subst e2
  refine ⟨ByteArray.size s + 1, ?_⟩
  have := mIn s c hl (ByteArray.size s) 0 (by omega)
  rw [List.drop_zero] at this
  refine this.trans ?_
  rcases Tr.ite_some h2 with ⟨hx, h3⟩ | ⟨hx, h3⟩
  ·have hx : (strBytes s).any (fun x => x == c) = true := hx
   rw [if_pos hx]
   exact congrArg some (Tr.ret_some h3)
  ·have hx : (strBytes s).any (fun x => x == c) = false := hx
   rw [if_neg (by rw [hx]; simp)]
   exact congrArg some (Tr.ret_some h3)
def TIn (c : ByteArray → Int → Bool) (f : Inf) (s : ByteArray) (x : Int) : Tr nIn.Out := .chk (c s 0) (.ite (f s x) (.ret ((true, ()), ())) (.ret ((false, ()), ())))
theorem tIn (c : ByteArray → Int → Bool) (f : Inf) (s : ByteArray) (x : Int) : (fnP Try.prog (ctx []) (LIn c f) nIn Try.f79 (s, x, ()) ()).eval = (TIn c f s x).eval := by kernel_rfl
theorem okIn : CSound Try.prog 79 (sInG inF) ∧ CLocal (sInG inF) :=
 pos_sound (L := LIn cIn inF) nil_sound Try.func79 (by kernel_rfl) (loops1 (by kernel_rfl) lIn) fun xs hs hx hh hp => by
  obtain ⟨s, x, u⟩ := xs
  refine (tIn _ _ s x).trans ?_
  have hs : ByteArray.size s ≤ 9223372036854775807 := hx.1
  show _ = some ((inF s x, ()), ())
  unfold TIn
  rw [chk_eval (by simp [cIn, hs])]
  cases hq : inF s x with
  | true => rw [ite_t rfl]; rfl
  | false => rw [ite_f rfl]; rfl
abbrev nameF : ByteArray → Bool := Fld.nameI
def rightF : Nt → Bool := rightG hasF inF nameF
def sNB (f : Nt → Bool) : CSpec := .pos nSm (fun _ _ => true) fun xs _ => ((f xs.1, ()), ())
theorem okRi : CSound Try.prog 42 (sNB rightF) ∧ CLocal (sNB rightF) :=
 pos_cuts (C := ctx (cRi hasF inF nameF)) (L := L0) (ctx_sound ⟨okHa, okIn, Fld.ok37, trivial⟩) [kRi 2, kRi 0, kRi 0, kRi 0] Try.func42 (c := bRi) (by kernel_rfl) (by kernel_rfl) (noLoopsL (by kernel_rfl)) fun xs hs hx hh hp => tRi hasF inF nameF xs.1
def smallF (n : Nt) : Bool := decide (w (w (w (w ((n.2.1.size : Int) + (n.2.2.1.size : Int)) + (n.2.2.2.2.2.1.length : Int)) + (n.2.2.2.2.2.2.1.length : Int)) + (n.2.2.2.2.2.2.2.1.length : Int)) ≤ 2000)
theorem tSm (n : Nt) : (fnP Try.prog (ctx []) L0 nSm Try.f41 (n, ()) ()).eval = (.ret ((smallF n, ()), ()) : Tr nSm.Out).eval := by kernel_rfl
theorem okSm : CSound Try.prog 41 (sNB smallF) ∧ CLocal (sNB smallF) :=
 pos_sound (L := L0) nil_sound Try.func41 (by kernel_rfl) (noLoopsL (by kernel_rfl)) fun xs hs hx hh hp => tSm xs.1
abbrev nSa : PSpec := ⟨[tN, tN], [.bool], [], [], []⟩
def TSa (sm : List Int → List Int → Bool) (a b : Nt) : Tr nSa.Out :=
 let no : Tr nSa.Out := .ret ((false, ()), ())
 .ite (decide (a.1 = b.1)) (.ite (a.2.1 == b.2.1) (.ite (a.2.2.1 == b.2.2.1) (.ite (eqT w16 a.2.2.2.1 b.2.2.2.1) (.ite (eqT w16 a.2.2.2.2.1 b.2.2.2.2.1) (.ite (sm a.2.2.2.2.2.1 b.2.2.2.2.2.1) (.ite (sm a.2.2.2.2.2.2.1 b.2.2.2.2.2.2.1)
  (.ret ((sm a.2.2.2.2.2.2.2.1 b.2.2.2.2.2.2.2.1, ()), ())) no) no) no) no) no) no) no
theorem tSa (sm : List Int → List Int → Bool) (a b : Nt) :
  (fnP Try.prog (ctx [(19, .sl1 [bs, bs] .bool fun x => sm x.1 x.2.1)]) L0 nSa Try.f15 (a, b, ()) ()).eval = (TSa sm a b).eval := by kernel_rfl
end Go.Proofs.Ytaffancdidgkhaa.Kdc
end
section
set_option linter.unusedVariables false
set_option linter.unusedSimpArgs false
set_option maxRecDepth 100000
namespace Go.Proofs.Ytaffancdidgkhaa.Kdc
open Go Vse Go.Proofs Gen
open Fld (putI splitI hd1 hd2 preB encL)
open Seal (sealF openF rsealF ropenF strP rsP Bytes badL)
open Ctr (B16)
theorem bytesStr_snoc (l : List Int) (x : Int) : bytesStr (l ++ [x]) = (bytesStr l).push (UInt8.ofNat x.toNat) := by unfold bytesStr; rw [List.foldl_append]; rfl
theorem strBytes_push (s : ByteArray) (c : UInt8) : strBytes (s.push c) = strBytes s ++ [(c.toNat : Int)] := by
 unfold strBytes
 rw [ByteArray.data_push, Array.toList_push, List.map_append]
 rfl
theorem strBytes_of (l : List Int) (h : Bytes l) : strBytes (bytesStr l) = l := by
 rw [← List.reverse_reverse l] at h ⊢
 generalize l.reverse = r at h ⊢
 induction r with
 | nil => rfl
 | cons x r ih =>
  rw [List.reverse_cons] at h ⊢
  have hx := h x (by simp)
  rw [bytesStr_snoc, strBytes_push, ih fun y hy => h y (List.mem_append_left _ hy)]
  have e : ((UInt8.ofNat x.toNat).toNat : Int) = x := by
   rw [UInt8.toNat_ofNat']
   omega
  rw [e]
theorem strBytes_bytes (s : ByteArray) : Bytes (strBytes s) := fun x hx => by
 unfold strBytes at hx
 obtain ⟨c, _, rfl⟩ := List.mem_map.1 hx
 have := c.toNat_lt
 omega
theorem encL_bytes : ∀ {l : List (List Int)} {b : List Int}, encL l = b → Bytes b → ∀ p ∈ l, Bytes p
 | [], _, _, _, p, hp => by cases hp
 | q :: l, b, e, hb, p, hp => by
  have e : hd1 q ++ q ++ encL l = b := e
  rcases List.mem_cons.1 hp with rfl | hp
  ·intro x hx; exact hb x (by rw [← e]; simp [hx])
  ·exact encL_bytes (l := l) rfl (fun x hx => hb x (by rw [← e]; simp [hx])) p hp
theorem split_bytes {b : List Int} {r : List (List Int)} (hb : Bytes b) (h : splitI b = (r, 0, ())) : ∀ p ∈ r, Bytes p := by
 unfold splitI at h
 cases hs : Fld.splitG (b.length + 1) b [] with
 | mk c r' =>
  rw [hs] at h
  simp only at h
  by_cases hc : c = 0
  ·subst hc
   simp only [decide_true, cond_true, Prod.mk.injEq, and_true] at h
   subst h
   obtain ⟨l, h1, h2, h3, h4⟩ := Fld.enc_split _ b [] r' hb (by omega) (by simp) hs
   simp only [List.nil_append] at h1
   subst h1
   exact encL_bytes h2 hb
  ·rw [decide_eq_false hc] at h
   simp only [cond_false, Prod.mk.injEq] at h
   exact absurd h.2.1 hc
theorem open_bytes {key b : List Int} {s : ByteArray} (hb : Bytes b) : Bytes (openF key s b).1 := by
 unfold openF Seal.withF
 split
 ·intro x hx; cases hx
 ·dsimp only
  unfold Seal.openK
  split
  ·intro x hx; cases hx
  ·split
   ·intro x hx; cases hx
   ·split
    ·rename_i h1 h2 _
     have hf : ((b.take (b.length - 32)).drop 16).length ≤ 1000000 := by rw [List.length_drop, List.length_take]; omega
     have ha : B16 (b.take 16) := ⟨Seal.bytes_take hb 16, by rw [List.length_take]; omega⟩
     show Bytes (Ctr.flX _ _ _)
     rw [Ctr.flX_eq ha hf]
     exact Seal.flip_bytes (Seal.hide_b16 _ _) ha (Seal.bytes_drop (Seal.bytes_take hb _) 16)
    ·intro x hx; cases hx
theorem parts_len {O : Of} {Q : Qf} {key : List Int} {s : ByteArray} {b : List Int} {many : Int} (h : (partsG O Q key s b many).2.1 = 0) : ((partsG O Q key s b many).1.length : Int) = many := by
 unfold partsG at h ⊢
 split at h
 ·split at h
  ·rename_i h1 h2
   rw [if_pos h1, if_pos h2]
   exact h2.2
  ·exact absurd h (by decide)
 ·rename_i h1
  exact absurd h h1
theorem parts_bytes {key : List Int} {s : ByteArray} {b : List Int} (hb : Bytes b) (many : Int) : ∀ p ∈ (partsF key s b many).1, Bytes p := by
 show ∀ p ∈ (partsG _ _ _ _ _ _).1, Bytes p
 unfold partsG
 split
 ·split
  ·rename_i h1 h2
   obtain ⟨h2, _⟩ := h2
   refine split_bytes (open_bytes (key := key) (s := s) hb) ?_
   exact Prod.ext rfl (Prod.ext h2 rfl)
  ·intro p hp; cases hp
 ·intro p hp; cases hp
theorem put_bytes {l : List (List Int)} (h : ∀ p ∈ l, Bytes p) : Bytes (putF l).1 := putF_bytes h
theorem encL_put {l : List (List Int)} (h20 : l.length ≤ 20) (h5 : ∀ p ∈ l, p.length ≤ 500) : putF l = (encL l, 0, ()) := by
 show putI hd1 l = _
 unfold Fld.putI
 rw [decide_eq_false (show ¬ (l.length : Int) > 20 by omega), Fld.putG_enc l [] h5]
 simp
theorem parts_sealed {key first : List Int} {s : ByteArray} {l : List (List Int)} (hs : ¬ badL s) (hf : B16 first) (hb : ∀ p ∈ l, Bytes p) (h20 : l.length ≤ 20) (h5 : ∀ p ∈ l, p.length ≤ 500)
  (hl : (encL l).length ≤ 1000) (many : Int) (hm : (l.length : Int) = many) : partsF key s (sealedF key s first l) many = (l, 0, ()) ∧ (sealedF key s first l).length = 48 + (encL l).length := by
 have e1 := encL_put h20 h5
 have hB : Bytes (encL l) := by have := put_bytes hb; rw [e1] at this; exact this
 have e2 : sealF key s first (encL l) = ((first ++ Ctr.flX (Seal.hideF key s) first (encL l)) ++ Mac.macF (Seal.codeF key s) (first ++ Ctr.flX (Seal.hideF key s) first (encL l)), 0, ()) := by
  unfold sealF Seal.withF Seal.sealK; rw [if_neg hs]; dsimp only; rw [if_neg (by omega)]
 have e3 : sealedF key s first l = (first ++ Ctr.flX (Seal.hideF key s) first (encL l)) ++ Mac.macF (Seal.codeF key s) (first ++ Ctr.flX (Seal.hideF key s) first (encL l)) := by
  show sealedG putF sealF _ _ _ _ = _
  unfold sealedG
  rw [e1]
  dsimp only
  rw [e2, if_pos rfl, if_pos rfl]
 have e4 : openF key s (sealedF key s first l) = (encL l, 0, ()) := by
  rw [e3]
  unfold openF Seal.withF
  rw [if_neg hs]
  exact Seal.open_seal (Seal.hide_b16 _ _) hf hB hl
 have e5 : splF (encL l) = (l, 0, ()) := Fld.put_split e1
 constructor
 ·show partsG openF splF _ _ _ _ = _
  unfold partsG
  rw [e4, if_pos rfl]
  dsimp only
  rw [e5, if_pos ⟨rfl, hm⟩]
 ·rw [e3, List.length_append, List.length_append, Seal.flX_len hf (by omega), Mac.macF_len, hf.2]; omega
def askF (b : Bk) (n : Nt) : Ask × Int :=
 if (keyF b n.2.2.1).2 = false then (ask0, 4) else
 if (partsF (keyF b n.2.2.1).1 sNs2 n.2.2.2.2.2.1 3).2.1 ≠ 0 then (ask0, (partsF (keyF b n.2.2.1).1 sNs2 n.2.2.2.2.2.1 3).2.1) else
 if nameF (bytesStr ((lOf keyF partsF b n).getD 0 [])) = false then (ask0, 3) else
 if ((lOf keyF partsF b n).getD 1 []).length ≠ 16 then (ask0, 3) else
 if ((lOf keyF partsF b n).getD 2 []).length ≠ 8 then (ask0, 3) else
 if (bytesStr ((lOf keyF partsF b n).getD 0 []) == n.2.2.1) = true then (ask0, 1) else
 if (keyF b (bytesStr ((lOf keyF partsF b n).getD 0 []))).2 = false then (ask0, 4) else
 ((bytesStr ((lOf keyF partsF b n).getD 0 []), (lOf keyF partsF b n).getD 1 [], (lOf keyF partsF b n).getD 2 [], (keyF b (bytesStr ((lOf keyF partsF b n).getD 0 []))).1, (keyF b n.2.2.1).1, ()), 0)
abbrev wordF (a : List Int) : List Int × Int × Unit := Fld.wordI a
abbrev takeF (a : List Int) : Int × Int × Unit := bif decide (List.length (α := Int) a = 8) then (Fld.take1 a, 0, ()) else (0, 3, ())
theorem TAs_eq (b : Bk) (n : Nt) : (TAs keyF partsF wordF takeF nameF b n).eval = some (((askF b n).1, (askF b n).2, ()), ()) := by
 unfold TAs askF
 by_cases h1 : (keyF b n.2.2.1).2 = false
 ·rw [if_pos h1, ite_t (by rw [h1]; rfl)]; rfl
 rw [if_neg h1, ite_f (by simpa using h1)]
 by_cases h2 : (partsF (keyF b n.2.2.1).1 sNs2 n.2.2.2.2.2.1 3).2.1 = 0
 case neg => rw [if_pos h2, ite_t (by simpa using h2)]; rfl
 have hl : ((lOf keyF partsF b n).length : Int) = 3 := parts_len h2
 rw [if_neg (by simpa using h2), ite_f (by simpa using h2)]
 show (Tr.chk (inArr 0 (lOf keyF partsF b n).length) (Tr.chk (inArr 1 (lOf keyF partsF b n).length) (Tr.chk (inArr 2 (lOf keyF partsF b n).length) _))).eval = _
 rw [chk_eval (by simp only [inArr, Bool.and_eq_true, decide_eq_true_eq]; omega), chk_eval (by simp only [inArr, Bool.and_eq_true, decide_eq_true_eq]; omega), chk_eval (by simp only [inArr, Bool.and_eq_true, decide_eq_true_eq]; omega)]
 show (Tr.ite (!nameF (bytesStr ((lOf keyF partsF b n).getD 0 []))) _ (Tr.ite ((wordF ((lOf keyF partsF b n).getD 1 [])).2.1 != 0) _ (Tr.ite ((takeF ((lOf keyF partsF b n).getD 2 [])).2.1 != 0) _ (Tr.ite (bytesStr ((lOf keyF partsF b n).getD 0 []) == n.2.2.1) _ (Tr.ite (!(keyF b (bytesStr ((lOf keyF partsF b n).getD 0 []))).2) _ _))))).eval = _
 by_cases h3 : nameF (bytesStr ((lOf keyF partsF b n).getD 0 [])) = false
 ·rw [if_pos h3, ite_t (by rw [h3]; rfl)]; rfl
 rw [if_neg h3, ite_f (by simpa using h3)]
 by_cases h4 : ((lOf keyF partsF b n).getD 1 []).length = 16
 case neg => rw [if_pos h4, ite_t (by unfold wordF Fld.wordI; rw [decide_eq_false h4]; rfl)]; rfl
 rw [if_neg (by simpa using h4), ite_f (by unfold wordF Fld.wordI; rw [decide_eq_true h4]; rfl)]
 by_cases h5 : ((lOf keyF partsF b n).getD 2 []).length = 8
 case neg => rw [if_pos h5, ite_t (by unfold takeF; rw [decide_eq_false h5]; rfl)]; rfl
 rw [if_neg (by simpa using h5), ite_f (by unfold takeF; rw [decide_eq_true h5]; rfl)]
 by_cases h6 : (bytesStr ((lOf keyF partsF b n).getD 0 []) == n.2.2.1) = true
 ·rw [if_pos h6, ite_t h6]; rfl
 rw [if_neg h6, ite_f (by simpa using h6)]
 by_cases h7 : (keyF b (bytesStr ((lOf keyF partsF b n).getD 0 []))).2 = false
 ·rw [if_pos h7, ite_t (by rw [h7]; rfl)]; rfl
 rw [if_neg h7, ite_f (by simpa using h7)]
 rfl
end Go.Proofs.Ytaffancdidgkhaa.Kdc
end
section
set_option linter.unusedVariables false
set_option linter.unusedSimpArgs false
set_option maxRecDepth 100000
namespace Go.Proofs.Ytaffancdidgkhaa.Kdc
open Go Vse Go.Proofs Gen
open Fld (putI splitI hd1 hd2 preB encL)
open Seal (sealF openF rsealF ropenF strP rsP Bytes badL)
open Ctr (B16)
abbrev Ds := List (List Int)
def ansG (A : Af) (K : Kf) (F : Sdf) (b : Bk) (n : Nt) (d : Ds) : ByteArray × Nt × Int :=
 if n.1 = 2 then
  if (A b n).2 ≠ 0 then (e0, note0, (A b n).2) else
  ((A b n).1.1, (3, e0, e0, zero16, n.2.2.2.2.1, F (A b n).1.2.2.2.1 sNs3 (d.getD 1 []) [strBytes n.2.2.1, (A b n).1.2.1, all16 (d.getD 0 []), (A b n).1.2.2.1],
   F (A b n).1.2.2.2.2.1 sNst (d.getD 2 []) [strBytes (A b n).1.1, all16 (d.getD 0 []), (A b n).1.2.2.1], [], ()), 0)
 else if n.1 = 7 then
  if (n.2.1 == n.2.2.1) = true then (e0, note0, 1) else if (K b n.2.1).2 = false ∨ (K b n.2.2.1).2 = false then (e0, note0, 4) else
  (n.2.2.1, (8, e0, e0, zero16, zero16, F (K b n.2.2.1).1 sK3b (d.getD 1 []) [all16 n.2.2.2.2.1, strBytes n.2.1, all16 (d.getD 0 [])],
   F (K b n.2.1).1 sK3a (d.getD 2 []) [all16 n.2.2.2.1, strBytes n.2.2.1, all16 (d.getD 0 [])], [], ()), 0)
 else (e0, note0, 13)
def ansF := ansG askF keyF sealedF
abbrev outA (x : ByteArray × Nt × Int) : nAw.Out := ((x.1, x.2.1, x.2.2, ()), ())
theorem TAw_eq (A : Af) (K : Kf) (F : Sdf) (b : Bk) (n : Nt) (d : Ds) : (TAw A K F F b n d).eval = some (outA (ansG A K F b n d)) := by
 unfold TAw ansG
 by_cases h1 : n.1 = 2
 ·rw [if_pos h1, ite_t (by simpa using h1)]
  by_cases h2 : (A b n).2 = 0
  ·rw [if_neg (by simpa using h2), ite_f (by simpa using h2)]; rfl
  ·rw [if_pos h2, ite_t (by simpa using h2)]; rfl
 rw [if_neg h1, ite_f (by simpa using h1)]
 by_cases h2 : n.1 = 7
 ·rw [if_pos h2, ite_t (by simpa using h2)]
  by_cases h3 : (n.2.1 == n.2.2.1) = true
  ·rw [if_pos h3, ite_t h3]; rfl
  rw [if_neg h3, ite_f (by simpa using h3)]
  cases h4 : (K b n.2.1).2 with
  | false => rw [if_pos (.inl rfl), ite_t (show (!false) = true from rfl)]; rfl
  | true =>
   rw [ite_f (show (!true) = false from rfl)]
   cases h5 : (K b n.2.2.1).2 with
   | false => rw [if_pos (.inr rfl), ite_t (show (!false) = true from rfl)]; rfl
   | true => rw [if_neg (by simp), ite_f (show (!true) = false from rfl)]; rfl
 ·rw [if_neg h2, ite_f (by simpa using h2)]; rfl
theorem ans_err {b : Bk} {n : Nt} {d : Ds} {x : Ask} {k : Int} (h1 : n.1 = 2) (hk : k ≠ 0) (ha : askF b n = (x, k)) : ansF b n d = (e0, note0, k) := by
 unfold ansF ansG
 rw [if_pos h1, ha, if_pos hk]
theorem TRw_eq {b : Bk} {n : Nt} {d : Ds} (hk : Bytes (d.getD 0 [])) (hd1 : B16 (d.getD 1 [])) (hd2 : B16 (d.getD 2 [])) (hx : Bytes n.2.2.2.1) (hy : Bytes n.2.2.2.2.1) (hP : Bytes n.2.2.2.2.2.1) :
  (TRw keyF partsRF sealedRF nameF b n d).eval = some (outA (ansF b n d)) := by
 have a16 : ∀ {x : List Int}, Bytes x → Bytes (all16 x) := fun h => Seal.bytes_drop (Seal.bytes_take h 16) 0
 have s := strBytes_bytes
 have c3 : ∀ {x y z : List Int}, Bytes x → Bytes y → Bytes z → ∀ p ∈ [x, y, z], Bytes p := fun h1 h2 h3 p hp => by
  simp only [List.mem_cons, List.not_mem_nil, or_false] at hp; rcases hp with rfl | rfl | rfl <;> assumption
 have c4 : ∀ {x y z u : List Int}, Bytes x → Bytes y → Bytes z → Bytes u → ∀ p ∈ [x, y, z, u], Bytes p := fun h1 h2 h3 h4 p hp => by
  simp only [List.mem_cons, List.not_mem_nil, or_false] at hp; rcases hp with rfl | rfl | rfl | rfl <;> assumption
 have eP : partsRF (keyF b n.2.2.1).1 sNs2 n.2.2.2.2.2.1 3 = partsF (keyF b n.2.2.1).1 sNs2 n.2.2.2.2.2.1 3 := (partsF_same hP 3).symm
 have eL : lOf keyF partsRF b n = lOf keyF partsF b n := congrArg Prod.fst eP
 have hb : ∀ k, Bytes ((lOf keyF partsF b n).getD k []) := fun k => by
  rw [List.getD_eq_getElem?_getD]
  cases h : (lOf keyF partsF b n)[k]? with
  | none => intro x hx; cases hx
  | some p => exact parts_bytes hP 3 p (List.mem_of_getElem? h)
 unfold TRw
 rw [eL, eP]
 by_cases h1 : n.1 = 2
 ·rw [ite_t (by simpa using h1)]
  by_cases q1 : (keyF b n.2.2.1).2 = false
  ·rw [ite_t (by rw [q1]; rfl), ans_err h1 (by decide) (show askF b n = (ask0, 4) by unfold askF; rw [if_pos q1])]; rfl
  rw [ite_f (by simpa using q1)]
  by_cases q2 : (partsF (keyF b n.2.2.1).1 sNs2 n.2.2.2.2.2.1 3).2.1 = 0
  case neg => rw [ite_t (by simpa using q2), ans_err h1 q2 (show askF b n = (ask0, _) by unfold askF; rw [if_neg q1, if_pos q2])]; rfl
  have hl : ((lOf keyF partsF b n).length : Int) = 3 := parts_len q2
  have i0 : inArr 0 (lOf keyF partsF b n).length = true := by simp only [inArr, Bool.and_eq_true, decide_eq_true_eq]; omega
  have i1 : inArr 1 (lOf keyF partsF b n).length = true := by simp only [inArr, Bool.and_eq_true, decide_eq_true_eq]; omega
  have i2 : inArr 2 (lOf keyF partsF b n).length = true := by simp only [inArr, Bool.and_eq_true, decide_eq_true_eq]; omega
  rw [ite_f (by simpa using q2), chk_eval i0]
  have nq2 := not_not_intro q2
  by_cases q3 : nameF (bytesStr ((lOf keyF partsF b n).getD 0 [])) = false
  ·rw [ite_t (by rw [q3]; rfl), ans_err h1 (by decide) (show askF b n = (ask0, 3) by unfold askF; rw [if_neg q1, if_neg nq2, if_pos q3])]; rfl
  rw [ite_f (by simpa using q3), chk_eval i1]
  by_cases q4 : ((lOf keyF partsF b n).getD 1 []).length = 16
  case neg => rw [ite_t (bne_iff_ne.2 (by omega)), ans_err h1 (by decide) (show askF b n = (ask0, 3) by unfold askF; rw [if_neg q1, if_neg nq2, if_neg q3, if_pos q4])]; rfl
  rw [ite_f (by rw [q4]; rfl), chk_eval i2]
  have nq4 := not_not_intro q4
  by_cases q5 : ((lOf keyF partsF b n).getD 2 []).length = 8
  case neg => rw [ite_t (bne_iff_ne.2 (by omega)), ans_err h1 (by decide) (show askF b n = (ask0, 3) by unfold askF; rw [if_neg q1, if_neg nq2, if_neg q3, if_neg nq4, if_pos q5])]; rfl
  rw [ite_f (by rw [q5]; rfl), chk_eval i0]
  have nq5 := not_not_intro q5
  by_cases q6 : (bytesStr ((lOf keyF partsF b n).getD 0 []) == n.2.2.1) = true
  ·rw [ite_t q6, ans_err h1 (by decide) (show askF b n = (ask0, 1) by unfold askF; rw [if_neg q1, if_neg nq2, if_neg q3, if_neg nq4, if_neg nq5, if_pos q6])]; rfl
  rw [ite_f (by simpa using q6)]
  by_cases q7 : (keyF b (bytesStr ((lOf keyF partsF b n).getD 0 []))).2 = false
  ·rw [ite_t (by rw [q7]; rfl), ans_err h1 (by decide) (show askF b n = (ask0, 4) by unfold askF; rw [if_neg q1, if_neg nq2, if_neg q3, if_neg nq4, if_neg nq5, if_neg q6, if_pos q7])]; rfl
  rw [ite_f (by simpa using q7), chk_eval i1, chk_eval i2, chk_eval i0, chk_eval i2]
  have ha : askF b n = ((bytesStr ((lOf keyF partsF b n).getD 0 []), (lOf keyF partsF b n).getD 1 [], (lOf keyF partsF b n).getD 2 [], (keyF b (bytesStr ((lOf keyF partsF b n).getD 0 []))).1, (keyF b n.2.2.1).1, ()), 0) := by
   unfold askF; rw [if_neg q1, if_neg nq2, if_neg q3, if_neg nq4, if_neg nq5, if_neg q6, if_neg q7]
  unfold ansF ansG
  rw [if_pos h1, ha, if_neg (not_not_intro rfl), strBytes_of _ (hb 0), sealed_same hd1 (c4 (s _) (hb 1) (a16 hk) (hb 2)), sealed_same hd2 (c3 (hb 0) (a16 hk) (hb 2))]
  rfl
 rw [ite_f (by simpa using h1)]
 unfold ansF ansG
 rw [if_neg h1]
 by_cases h2 : n.1 = 7
 ·rw [if_pos h2, ite_t (by simpa using h2)]
  by_cases h3 : (n.2.1 == n.2.2.1) = true
  ·rw [if_pos h3, ite_t h3]; rfl
  rw [if_neg h3, ite_f (by simpa using h3)]
  cases h4 : (keyF b n.2.1).2 with
  | false => rw [if_pos (.inl rfl), ite_t (show (!false) = true from rfl)]; rfl
  | true =>
   rw [ite_f (show (!true) = false from rfl)]
   cases h5 : (keyF b n.2.2.1).2 with
   | false => rw [if_pos (.inr rfl), ite_t (show (!false) = true from rfl)]; rfl
   | true =>
    rw [if_neg (by simp), ite_f (show (!true) = false from rfl), sealed_same hd1 (c3 (a16 hy) (s _) (a16 hk)), sealed_same hd2 (c3 (a16 hx) (s _) (a16 hk))]; rfl
 ·rw [if_neg h2, ite_f (by simpa using h2)]; rfl
def sAw (f : Bk → Nt → Ds → ByteArray × Nt × Int) : CSpec := .pos nAw (fun _ _ => true) fun xs _ => outA (f xs.1 xs.2.1 xs.2.2.1)
theorem okAs : CSound Try.prog 45 (sAs askF) ∧ CLocal (sAs askF) :=
 pos_sound (L := L0) (C := ctx (cAs keyF partsF wordF takeF nameF)) (ctx_sound ⟨okKy, okPt, Fld.ok31, Fld.ok29, Fld.ok36, trivial⟩) Try.func45 (by kernel_rfl) (noLoopsL (by kernel_rfl)) fun xs hs hx hh hp => by
  obtain ⟨b, n, u⟩ := xs
  exact (tAs keyF partsF wordF takeF nameF b n).trans (TAs_eq b n)
theorem okC1 : CSound Try.prog 43 (sC 1 sealedF) ∧ CLocal (sC 1 sealedF) :=
 pos_sound (L := L0) (C := ctx [(17, sSd sealedF)]) (ctx_sound ⟨okSd, trivial⟩) Try.func43 (by kernel_rfl) (noLoopsL (by kernel_rfl)) fun xs hs hx hh hp => by
  obtain ⟨key, s, l, d, u⟩ := xs
  exact tC1 sealedF key s l d
theorem okC2 : CSound Try.prog 44 (sC 2 sealedF) ∧ CLocal (sC 2 sealedF) :=
 pos_sound (L := L0) (C := ctx [(17, sSd sealedF)]) (ctx_sound ⟨okSd, trivial⟩) Try.func44 (by kernel_rfl) (noLoopsL (by kernel_rfl)) fun xs hs hx hh hp => by
  obtain ⟨key, s, l, d, u⟩ := xs
  exact tC2 sealedF key s l d
theorem okAw : CSound Try.prog 12 (sAw ansF) ∧ CLocal (sAw ansF) :=
 pos_cut (L := L0) (C := ctx (cAw askF keyF sealedF sealedF)) (ctx_sound ⟨okAs, okKy, okC1, okC2, trivial⟩) kAw Try.func12 (c := bodyOf Try.f12) (by kernel_rfl) (by kernel_rfl) (noLoopsL (by kernel_rfl)) fun xs hs hx hh hp => by
  obtain ⟨b, n, d, u⟩ := xs
  exact (tAw askF keyF sealedF sealedF b n d).trans (TAw_eq askF keyF sealedF b n d)
theorem d_ok {d : Ds} (h : (Ty.arr 3 w16).ok d) (i : Nat) (hi : i < 3) : B16 (d.getD i []) := by
 have e : i < d.length := by have := h.1; omega
 rw [getD_of e]
 exact b16_ok (h.2 _ (List.getElem_mem e))
theorem bt_ok {x : List Int} (h : bt.ok x) : Bytes x := fun y hy => byte_ok (h.2 y hy)
theorem okRw : CSound Try.prog 13 (sAw ansF) ∧ CLocal (sAw ansF) :=
 pos_cut (L := L0) (C := ctx (cRw keyF partsRF sealedRF nameF)) (ctx_sound ⟨okRk, okPr, okSr, Fld.ok37, trivial⟩) kRw Try.func13 (c := bodyOf Try.f13) (by kernel_rfl) (by kernel_rfl) (noLoopsL (by kernel_rfl)) fun xs hs hx hh hp => by
  obtain ⟨b, n, d, u⟩ := xs
  have hn := hx.2.1
  have hd := hx.2.2.1
  exact (tRw keyF partsRF sealedRF nameF b n d).trans (TRw_eq (d_ok hd 0 (by decide)).1 (d_ok hd 1 (by decide)) (d_ok hd 2 (by decide)) (b16_ok hn.2.2.2.1).1 (b16_ok hn.2.2.2.2.1).1 (bt_ok hn.2.2.2.2.2.1))
end Go.Proofs.Ytaffancdidgkhaa.Kdc
end
section
set_option linter.unusedVariables false
set_option linter.unusedSimpArgs false
set_option maxRecDepth 100000
namespace Go.Proofs.Ytaffancdidgkhaa.Kdc
open Go Vse Go.Proofs Gen
abbrev Anf := Bk → Nt → Ds → ByteArray × Nt × Int
def cAk2 (A : Anf) (R : Rf) (S : Sdf) : List (Nat × CSpec) := [(12, sAw A), (20, sPt R), (17, sSd S)]
abbrev nAk : PSpec := ⟨[], [.bool], [], [], []⟩
abbrev nSl : PSpec := ⟨[tB, tN], [.bool], [], [], []⟩
def kAk : Cut := ⟨1, [.vec 0 tEnt, .box tB], [], [0, 1], [.bool, .ptr 1 []], [.dead, .box tB], 99⟩
def b16k (x : Int) : List Int := (List.replicate 16 0).set 0 x
def bk2 : Bk := ([(⟨#[97, 110, 110]⟩, b16k 1, ()), (⟨#[98, 111, 98]⟩, b16k 2, ())], [], 0, zero16, ())
noncomputable abbrev bAk2 : Code := bodyOf Try.f10
theorem hAk (A : Anf) (R : Rf) (S : Sdf) : (hdC Try.prog (ctx (cAk2 A R S)) L0 nAk Try.f10 kAk bAk2 (begin_ Try.f10 [] [])).eval = some (.inl ((false, (), ()), (bk2, ()))) := by kernel_rfl
abbrev stAk : St := encS [0, 1] [.bool, .ptr 1 []] [.dead, .box tB] 99 (false, (), ()) (bk2, ())
abbrev sAnn : ByteArray := ⟨#[97, 110, 110]⟩
abbrev sBob : ByteArray := ⟨#[98, 111, 98]⟩
abbrev sX : ByteArray := ⟨#[120]⟩
def z3 : Ds := List.replicate 3 zero16
def n7 : Nt := (7, sAnn, sBob, b16k 3, b16k 4, [], [], [], ())
def n5 : Nt := (5, e0, e0, zero16, zero16, [], [], [], ())
def d567 : Ds := ((z3.set 0 (b16k 5)).set 1 (b16k 6)).set 2 (b16k 7)
def aNo : nAk.Out := ((false, ()), ())
def TAwk (A : Anf) (R : Rf) (S : Sdf) : Tr nAk.Out :=
 .ite ((A bk2 n7 d567).1 == sBob) (.ite ((A bk2 n7 d567).2.1.1 == 8) (.ite ((A bk2 n7 d567).2.2 == 0)
  (.ite ((R (b16k 2) sK3b (A bk2 n7 d567).2.1.2.2.2.2.2.1 3).2.1 == 0) (.ite (((R (b16k 2) sK3b (A bk2 n7 d567).2.1.2.2.2.2.2.1 3).1.length : Int) == 3)
   (.chk (inArr 1 (R (b16k 2) sK3b (A bk2 n7 d567).2.1.2.2.2.2.2.1 3).1.length) (.ite (bytesStr ((R (b16k 2) sK3b (A bk2 n7 d567).2.1.2.2.2.2.2.1 3).1.getD 1 []) == sAnn)
    (.ite ((A bk2 n5 z3).2.2 == 13) (.ite ((R (b16k 1) sX (S (b16k 1) sX (b16k 2) [[97], []]) 2).2.1 == 0) (.ret (((((R (b16k 1) sX (S (b16k 1) sX (b16k 2) [[97], []]) 2).1.length : Int) == 2 : Bool), ()), ()))
     (.ret aNo)) (.ret aNo)) (.ret aNo))) (.ret aNo)) (.ret aNo)) (.ret aNo)) (.ret aNo)) (.ret aNo)
theorem tAwk (A : Anf) (R : Rf) (S : Sdf) : (stC Try.prog (ctx (cAk2 A R S)) L0 nAk Try.f10 [] (restC 1 bAk2) stAk).eval = (TAwk A R S).eval := by kernel_rfl
def TSl (f g : Nt → Bool) (b : Bk) (n : Nt) : Tr nSl.Out :=
 .ite (decide ((b.1.length : Int) ≤ 60)) (.ite (decide ((b.2.1.length : Int) ≤ 60)) (.ite (f n) (.ret ((g n, ()), ())) (.ret ((false, ()), ()))) (.ret ((false, ()), ()))) (.ret ((false, ()), ()))
theorem tSl (f g : Nt → Bool) (b : Bk) (n : Nt) : (fnP Try.prog (ctx [(41, sNB f), (42, sNB g)]) L0 nSl Try.f11 (b, n, ()) ()).eval = (TSl f g b n).eval := by kernel_rfl
def sUp (f : Bool) : CSpec := .pos nAk (fun _ _ => true) fun _ _ => ((f, ()), ())
def sSl (f : Bk → Nt → Bool) : CSpec := .pos nSl (fun _ _ => true) fun xs _ => ((f xs.1 xs.2.1, ()), ())
def sOwG (p : Bk → Bool) : CSpec := .pos nOw (fun xs _ => p xs.1) fun xs _ => ((xs.1, ()), ())
def sSa (f : Nt → Nt → Bool) : CSpec := .pos nSa (fun _ _ => true) fun xs _ => ((f xs.1 xs.2.1, ()), ())
def cA3 (up : Bool) (sl : Bk → Nt → Bool) (A A2 : Anf) (p : Bk → Bool) (sa : Nt → Nt → Bool) : List (Nat × CSpec) :=
 [(10, sUp up), (11, sSl sl), (12, sAw A), (13, sAw A2), (14, sOwG p), (15, sSa sa)]
abbrev t2w : Ty := .arr 2 w16
def cS3 (up : Bool) (p : List (List Int) → Bool) (al : List (List Int) → HL [bt, i64]) (S S2 : Sdf) (R R2 : Rf) (sm : List Int → List Int → Bool) (sl : List (List Int) → List (List Int) → Bool) : List (Nat × CSpec) :=
 [(10, sUp up), (16, .slp [ls] (fun x => p x.1) [bt, i64] fun x => al x.1), (17, sSd S), (18, sSd S2), (20, sPt R), (21, sPt R2),
  (19, .sl1 [bs, bs] .bool fun x => sm x.1 x.2.1), (22, .sl1 [ls, ls] .bool fun x => sl x.1 x.2.1)]
def TA3 (up : Bool) (sl : Bk → Nt → Bool) (A A2 : Anf) (p : Bk → Bool) (sa : Nt → Nt → Bool) (b : Bk) (n : Nt) (d : Ds) : Tr AV :=
 .ite (!sl b n) (.ret (.v .bool up)) (.chk (p b) (.ite up (.ite ((A b n d).1 == (A2 b n d).1) (.ite (sa (A b n d).2.1 (A2 b n d).2.1) (.ret (.v .bool ((A b n d).2.2 == (A2 b n d).2.2))) (.ret (.v .bool false))) (.ret (.v .bool false))) (.ret (.v .bool false))))
theorem tA3 (up : Bool) (sl : Bk → Nt → Bool) (A A2 : Anf) (p : Bk → Bool) (sa : Nt → Nt → Bool) (b : Bk) (n : Nt) (d : Ds) :
  nrm (fnK Try.prog (ctx (cA3 up sl A A2 p sa)) L0 Try.f3 (mkArgs [tB, tN, .arr 3 w16] (b, n, d, ())) []) = (TA3 up sl A A2 p sa b n d).eval := by kernel_rfl
def SKs : RSpec := ⟨[1, 2, 3, 6, 7, 10, 13], 133, [.str, lt, .ptr 0 [], .bool, .bool, bt, i64], [.box t2w], [.box t2w], [], fun x => match x with | .ret => ([], [], []) | _ => ([1, 2, 3, 6, 7, 10], [.str, lt, .ptr 0 [], .bool, .bool, bt], [.box t2w])⟩
noncomputable def bKs : Code := loopAt Try.f4 0
abbrev outKs (s : ByteArray) (l : List (List Int)) (r0 u : Bool) (x : List Int) (k : Ds) : St := encS [1, 2, 3, 6, 7, 10] [.str, lt, .ptr 0 [], .bool, .bool, bt] [.box t2w] 133 (s, l, (), r0, u, x, ()) (k, ())
def GKs (R R2 : Rf) (sl : List (List Int) → List (List Int) → Bool) (s : ByteArray) (l : List (List Int)) (r0 u : Bool) (x : List Int) (k : Ds) (i : Int) : Tr SKs.End :=
 .ite (decide (i < (l.length : Int))) (.ite (decide (i < 3)) (.chk (inArr i l.length) (.chk (inArr i l.length)
  (.ite (!sl (R (k.getD 0 []) s (l.getD i.toNat []) i).1 (R2 (k.getD 0 []) s (l.getD i.toNat []) i).1) .fail (.ite ((R (k.getD 0 []) s (l.getD i.toNat []) i).2.1 != (R2 (k.getD 0 []) s (l.getD i.toNat []) i).2.1) .fail
   (.ret (.inl ((s, l, (), r0, u, x, w (i + 1), ()), (k, ()))))))))
  (.ret (.inr (.exit 0, outKs s l r0 u x k)))) (.ret (.inr (.exit 0, outKs s l r0 u x k)))
theorem rKs (up : Bool) (p : List (List Int) → Bool) (al : List (List Int) → HL [bt, i64]) (S S2 : Sdf) (R R2 : Rf) (sm : List Int → List Int → Bool) (sl : List (List Int) → List (List Int) → Bool)
  (s : ByteArray) (l : List (List Int)) (r0 u : Bool) (x : List Int) (k : Ds) (i : Int) :
  (SKs.round (bodyK Try.prog (ctx (cS3 up p al S S2 R R2 sm sl)) L0 bKs) (s, l, (), r0, u, x, i, ()) (k, ())).eval = (GKs R R2 sl s l r0 u x k i).eval := by kernel_rfl
def FKs (c : List (List Int) → Int → Ds → Bool) (xs : HL SKs.Ts) (hs : HD SKs.Es) : Tr (Ex × St) :=
 .chk (c xs.2.1 xs.2.2.2.2.2.2.1 hs.1) (.ret (.exit 0, outKs xs.1 xs.2.1 xs.2.2.2.1 xs.2.2.2.2.1 xs.2.2.2.2.2.1 hs.1))
def LKs (c : List (List Int) → Int → Ds → Bool) : Loops := fun j st => if j = 11 then SKs.fn (FKs c) st else .fail
def TS3 (c : List (List Int) → Int → Ds → Bool) (up : Bool) (p : List (List Int) → Bool) (al : List (List Int) → HL [bt, i64]) (S S2 : Sdf) (R R2 : Rf) (sm : List Int → List Int → Bool) (sl : List (List Int) → List (List Int) → Bool)
  (k : Ds) (s : ByteArray) (l : List (List Int)) : Tr AV :=
 .chk (p l) (.ite (decide ((s.size : Int) > 100)) (.ret (.v .bool up)) (.ite (decide ((al l).2.1 > 1500)) (.ret (.v .bool up))
  (.ite (!sm (S (k.getD 0 []) s (k.getD 1 []) l) (S2 (k.getD 0 []) s (k.getD 1 []) l)) (.ret (.v .bool false)) (.chk (c l 0 k) (.ite up
   (.ite (sl (R (k.getD 0 []) s (S (k.getD 0 []) s (k.getD 1 []) l) (l.length : Int)).1 (R2 (k.getD 0 []) s (S (k.getD 0 []) s (k.getD 1 []) l) (l.length : Int)).1)
    (.ret (.v .bool ((R (k.getD 0 []) s (S (k.getD 0 []) s (k.getD 1 []) l) (l.length : Int)).2.1 == (R2 (k.getD 0 []) s (S (k.getD 0 []) s (k.getD 1 []) l) (l.length : Int)).2.1))) (.ret (.v .bool false))) (.ret (.v .bool false)))))))
theorem tS3 (c : List (List Int) → Int → Ds → Bool) (up : Bool) (p : List (List Int) → Bool) (al : List (List Int) → HL [bt, i64]) (S S2 : Sdf) (R R2 : Rf) (sm : List Int → List Int → Bool) (sl : List (List Int) → List (List Int) → Bool)
  (k : Ds) (s : ByteArray) (l : List (List Int)) :
  nrm (fnK Try.prog (ctx (cS3 up p al S S2 R R2 sm sl)) (LKs c) Try.f4 (mkArgs [t2w, .str, lt] (k, s, l, ())) []) = (TS3 c up p al S S2 R R2 sm sl k s l).eval := by kernel_rfl
end Go.Proofs.Ytaffancdidgkhaa.Kdc
end
section
set_option linter.unusedVariables false
set_option linter.unusedSimpArgs false
set_option maxRecDepth 100000
namespace Go.Proofs.Ytaffancdidgkhaa.Kdc
open Go Vse Go.Proofs Gen
open Fld (putI splitI hd1 hd2 preB encL)
open Seal (sealF openF rsealF ropenF strP rsP Bytes badL)
open Ctr (B16)
theorem good_sK3b : ¬ badL sK3b := by
 rintro (h | h)
 ·exact absurd h (by decide)
 ·exact absurd h (by decide)
theorem good_sX : ¬ badL sX := by
 rintro (h | h)
 ·exact absurd h (by decide)
 ·exact absurd h (by decide)
theorem b16k_b16 (x : Int) (h : 0 ≤ x ∧ x < 256) : B16 (b16k x) := by
 refine ⟨fun y hy => ?_, by simp [b16k]⟩
 unfold b16k at hy
 rcases List.mem_or_eq_of_mem_set hy with hy | rfl
 ·have := List.eq_of_mem_replicate hy; omega
 ·exact h
abbrev P7 : List (List Int) := [all16 (b16k 4), strBytes sAnn, all16 (b16k 5)]
theorem ans7 : ansF bk2 n7 d567 = (sBob, (8, e0, e0, zero16, zero16, sealedF (b16k 2) sK3b (b16k 6) P7, sealedF (b16k 1) sK3a (b16k 7) [all16 (b16k 3), strBytes sBob, all16 (b16k 5)], [], ()), 0) := by
 unfold ansF ansG
 rw [if_neg (by decide), if_pos (by decide), if_neg (by decide), if_neg (by decide)]
 rfl
theorem ans5 : (ansF bk2 n5 z3).2.2 = 13 := by
 unfold ansF ansG
 rw [if_neg (by decide), if_neg (by decide)]
theorem parts7 : partsF (b16k 2) sK3b (sealedF (b16k 2) sK3b (b16k 6) P7) 3 = (P7, 0, ()) :=
 (parts_sealed (l := P7) good_sK3b (b16k_b16 6 (by decide)) (by decide) (by decide) (by decide) (by decide) 3 rfl).1
theorem partsX : partsF (b16k 1) sX (sealedF (b16k 1) sX (b16k 2) [[97], []]) 2 = ([[97], []], 0, ()) :=
 (parts_sealed (l := [[97], []]) good_sX (b16k_b16 2 (by decide)) (by decide) (by decide) (by decide) (by decide) 2 rfl).1
theorem TAwk_true : (TAwk ansF partsF sealedF).eval = some ((true, ()), ()) := by
 unfold TAwk
 rw [ans7]
 dsimp only
 rw [parts7, partsX, ans5]
 rfl
theorem okUp : CSound Try.prog 10 (sUp true) ∧ CLocal (sUp true) :=
 pos_cuts (L := L0) (C := ctx (cAk2 ansF partsF sealedF)) (ctx_sound ⟨okAw, okPt, okSd, trivial⟩) [kAk] Try.func10 (c := bAk2) (by kernel_rfl) (by kernel_rfl) (noLoopsL (by kernel_rfl)) fun xs hs hx hh hp =>
  (st_inl (hAk ansF partsF sealedF)).trans ((tAwk ansF partsF sealedF).trans TAwk_true)
def slF (b : Bk) (n : Nt) : Bool := decide ((b.1.length : Int) ≤ 60) && (decide ((b.2.1.length : Int) ≤ 60) && (smallF n && rightF n))
theorem okSl : CSound Try.prog 11 (sSl slF) ∧ CLocal (sSl slF) :=
 pos_sound (L := L0) (C := ctx [(41, sNB smallF), (42, sNB rightF)]) (ctx_sound ⟨okSm, okRi, trivial⟩) Try.func11 (by kernel_rfl) (noLoopsL (by kernel_rfl)) fun xs hs hx hh hp => by
  obtain ⟨b, n, u⟩ := xs
  refine (tSl smallF rightF b n).trans ?_
  show _ = some ((slF b n, ()), ())
  unfold TSl slF
  cases decide ((b.1.length : Int) ≤ 60) <;> cases decide ((b.2.1.length : Int) ≤ 60) <;> cases smallF n <;> rfl
theorem str_self (s : ByteArray) : (s == s) = true := (MapKept.bytes_beq s s).2 rfl
abbrev smF : List Int → List Int → Bool := Fld.sameI
def sameN (a b : Nt) : Bool := decide (a.1 = b.1) && ((a.2.1 == b.2.1) && ((a.2.2.1 == b.2.2.1) && (eqT w16 a.2.2.2.1 b.2.2.2.1 && (eqT w16 a.2.2.2.2.1 b.2.2.2.2.1 && (smF a.2.2.2.2.2.1 b.2.2.2.2.2.1 && (smF a.2.2.2.2.2.2.1 b.2.2.2.2.2.2.1 && smF a.2.2.2.2.2.2.2.1 b.2.2.2.2.2.2.2.1))))))
theorem okSa : CSound Try.prog 15 (sSa sameN) ∧ CLocal (sSa sameN) :=
 pos_sound (L := L0) (C := ctx [(19, .sl1 [bs, bs] .bool fun x => smF x.1 x.2.1)]) (ctx_sound ⟨Fld.ok19, trivial⟩) Try.func15 (by kernel_rfl) (noLoopsL (by kernel_rfl)) fun xs hs hx hh hp => by
  obtain ⟨a, b, u⟩ := xs
  refine (tSa smF a b).trans ?_
  show _ = some ((sameN a b, ()), ())
  unfold TSa sameN
  cases decide (a.1 = b.1) <;> cases (a.2.1 == b.2.1) <;> cases (a.2.2.1 == b.2.2.1) <;> cases eqT w16 a.2.2.2.1 b.2.2.2.1 <;> cases eqT w16 a.2.2.2.2.1 b.2.2.2.2.1 <;> cases smF a.2.2.2.2.2.1 b.2.2.2.2.2.1 <;> cases smF a.2.2.2.2.2.2.1 b.2.2.2.2.2.2.1 <;> rfl
theorem sm_self (a : List Int) : smF a a = true := decide_eq_true rfl
theorem eqW_self (x : List Int) : eqT w16 x x = true := (eqT_iff w16 x x (by decide)).2 rfl
theorem sameN_self (a : Nt) : sameN a a = true := by
 unfold sameN
 rw [decide_eq_true rfl, sm_self, sm_self, sm_self, eqW_self, eqW_self, str_self, str_self]
 rfl
theorem cA3_sound : CtxSound Try.prog (ctx (cA3 true slF ansF ansF (fun b => decide (b.1.length ≤ 1000)) sameN)) ∧ CtxLocal (ctx (cA3 true slF ansF ansF (fun b => decide (b.1.length ≤ 1000)) sameN)) :=
 ctx_sound ⟨okUp, okSl, okAw, okRw, okOw, okSa, trivial⟩
theorem TA3_true (b : Bk) (n : Nt) (d : Ds) : (TA3 true slF ansF ansF (fun b => decide (b.1.length ≤ 1000)) sameN b n d).eval = some (.v .bool true) := by
 unfold TA3
 cases hs : slF b n with
 | false => rw [ite_t (show (!false) = true from rfl)]; rfl
 | true =>
  have : b.1.length ≤ 1000 := by
   unfold slF at hs
   simp only [Bool.and_eq_true, decide_eq_true_eq] at hs
   omega
  rw [ite_f (show (!true) = false from rfl), chk_eval (decide_eq_true this), ite_t rfl, ite_t (str_self _), ite_t (sameN_self _)]
  simp [Tr.eval]
theorem sealed_bytes {key first : List Int} {s : ByteArray} {l : List (List Int)} (hf : B16 first) (hb : ∀ p ∈ l, Bytes p) : Bytes (sealedF key s first l) := by
 have e : Bytes ([] : List Int) := fun x hx => by cases hx
 show Bytes (sealedG putF sealF _ _ _ _)
 unfold sealedG
 split
 ·split
  ·unfold sealF Seal.withF
   split
   ·exact e
   ·dsimp only
    unfold Seal.sealK
    split
    ·exact e
    ·rename_i h1 h2 h3 h4
     have hB := put_bytes hb
     refine bytes_app (bytes_app hf.1 ?_) (Mac.bytes_mac _ _)
     rw [Ctr.flX_eq hf (by omega)]
     exact Seal.flip_bytes (Seal.hide_b16 _ _) hf hB
  ·exact e
 ·exact e
abbrev slF2 : List (List Int) → List (List Int) → Bool := Fld.sameL
theorem sl_self (a : List (List Int)) : slF2 a a = true := decide_eq_true rfl
abbrev allF (l : List (List Int)) : HL [bt, i64] := Fld.allI l
abbrev CS3 := ctx (cS3 true Fld.preAll allF sealedF sealedRF partsF partsRF smF slF2)
theorem cS3_sound : CtxSound Try.prog CS3 ∧ CtxLocal CS3 := ctx_sound ⟨okUp, Fld.ok24, okSd, okSr, okPt, okPr, Fld.ok19, Fld.ok33, trivial⟩
def goodL (l : List (List Int)) : Bool := l.all fun p => p.all fun x => decide (0 ≤ x ∧ x < 256)
theorem good_get {l : List (List Int)} (h : goodL l = true) (k : Nat) : Bytes (l.getD k []) := by
 rw [List.getD_eq_getElem?_getD]
 cases e : l[k]? with
 | none => intro x hx; cases hx
 | some p => intro x hx; exact of_decide_eq_true (List.all_eq_true.1 (List.all_eq_true.1 h p (List.mem_of_getElem? e)) x hx)
def cKs (l : List (List Int)) (i : Int) (k : Ds) : Bool := goodL l && (decide (l.length ≤ 9223372036854775807) && decide (i = 0))
theorem mKs (s : ByteArray) (l : List (List Int)) (r0 u : Bool) (x : List Int) (k : Ds) (hg : goodL l = true) (hl : l.length ≤ 9223372036854775807) : ∀ (m i : Nat), i + m = l.length →
  SKs.many (bodyK Try.prog CS3 L0 bKs) (m + 1) (s, l, (), r0, u, x, (i : Int), ()) (k, ()) = some (.exit 0, outKs s l r0 u x k)
 | 0, i, h => by
  refine rmany_inr ((rKs _ _ _ _ _ _ _ _ _ s l r0 u x k _).trans ?_) 0
  unfold GKs
  rw [ite_f (decide_eq_false (by omega))]
  rfl
 | m + 1, i, h => by
  have h1 : i < l.length := by omega
  by_cases h3 : i < 3
  ·refine (rmany_inl (d := ((s, l, (), r0, u, x, ((i + 1 : Nat) : Int), ()), (k, ()))) ((rKs _ _ _ _ _ _ _ _ _ s l r0 u x k _).trans ?_) (m + 1)).trans (mKs s l r0 u x k hg hl m (i + 1) (by omega))
   unfold GKs
   rw [Int.toNat_natCast, ← partsF_same (good_get hg i), ite_t (decide_eq_true (by omega)), ite_t (decide_eq_true (by omega)), chk_eval (inArr_of h1), chk_eval (inArr_of h1), ite_f (by rw [sl_self]; rfl), ite_f (by simp), w_succ h1 hl]
   rfl
  ·refine rmany_inr ((rKs _ _ _ _ _ _ _ _ _ s l r0 u x k _).trans ?_) _
   unfold GKs
   rw [ite_t (decide_eq_true (by omega)), ite_f (decide_eq_false (by omega))]
   rfl
theorem lKs : LoopOK Try.prog (LKs cKs) bKs :=
 rloop_ok (L := LKs cKs) (L' := L0) cS3_sound (loopsOK_of (by kernel_rfl)) SKs (F := FKs cKs) (i := 11) (by kernel_rfl) (fun _ => rfl) fun xs hs q h => by
  obtain ⟨s, l, u1, r0, u, x, i, u2⟩ := xs
  obtain ⟨k, u3⟩ := hs
  obtain ⟨h1, h2⟩ := Tr.chk_some h
  simp only [cKs, Bool.and_eq_true, decide_eq_true_eq] at h1
  obtain ⟨hg, hl, e2⟩ := h1
  have e2 : i = ((0 : Nat) : Int) := e2
  subst e2
  have := Tr.ret_some h2
  subst this
  have := mKs s l r0 u x k hg hl (List.length (α := List Int) l) 0 (by omega)
  exact ⟨_, this⟩
theorem TS3_true (k : Ds) (s : ByteArray) (l : List (List Int)) (hp : Fld.preAll l = true) (hg : goodL l = true) (hl : l.length ≤ 9223372036854775807) (hk : B16 (k.getD 1 [])) :
  (TS3 cKs true Fld.preAll allF sealedF sealedRF partsF partsRF smF slF2 k s l).eval = some (.v .bool true) := by
 unfold TS3
 rw [chk_eval hp]
 by_cases h1 : (s.size : Int) > 100
 ·rw [ite_t (decide_eq_true h1)]; rfl
 rw [ite_f (decide_eq_false h1)]
 by_cases h2 : (allF l).2.1 > 1500
 ·rw [ite_t (decide_eq_true h2)]; rfl
 have hb : ∀ p ∈ l, Bytes p := fun p hp x hx => of_decide_eq_true (List.all_eq_true.1 (List.all_eq_true.1 hg p hp) x hx)
 rw [ite_f (decide_eq_false h2), ← sealed_same hk hb, ite_f (by rw [sm_self]; rfl), chk_eval (by simp [cKs, hg, hl]), ite_t rfl, ← partsF_same (sealed_bytes hk hb), ite_t (sl_self _)]
 simp [Tr.eval]
theorem byte_wf {x : Int} (h : Ty.wf u8 x) : 0 ≤ x ∧ x < 256 := by
 have h : (Lit.int .u8 x).wf = true := h
 simp [Lit.wf, IntKind.min, IntKind.max, IntKind.signed, IntKind.bits] at h
 omega
theorem b16_wf {l : List Int} (h : Ty.wf w16 l) : B16 l := ⟨fun x hx => byte_wf (h.2 x hx), h.1⟩
theorem k1_wf {k : Ds} (h : Ty.wf t2w k) : B16 (k.getD 1 []) := by
 have e : 1 < k.length := by have := h.1; omega
 rw [getD_of e]
 exact b16_wf (h.2 _ (List.getElem_mem e))
theorem good_wf {l : List (List Int)} (h : Ty.wf lt l) : goodL l = true := List.all_eq_true.2 fun p hp => List.all_eq_true.2 fun x hx => decide_eq_true (byte_wf ((h.2 p hp).2 x hx))
theorem pre_sz {l : List (List Int)} (h : lt.sz l) : Fld.preAll l = true := List.all_eq_true.2 fun p hp => by
 have := (h.2 p hp).1
 simpa [Fld.short, reachBytes] using this
end Go.Proofs.Ytaffancdidgkhaa.Kdc
end
set_option linter.unusedVariables false
set_option maxRecDepth 100000
namespace Go.Proofs.Ytaffancdidgkhaa
open Go Vse Go.Proofs Go.ChangeShapes Go.WideShapes Go.ChangeAt Go.RowKit
theorem own16 : ownKnob Try.prog.godebug = none := by kernel_rfl
theorem laid16 : laidOutB Try.prog = true := by kernel_rfl
theorem kdcAnswers_lifted (os : Os) (started : os.Started) (H : Type) (enc : TypeId × Value → H) :
  ReturnsInHanded {} Try.checked os 3 .any (Rows.kdcAnswersSpec.pre6 enc Try.prog Try.f3 Rows.kdcAnswersRow.domain false) (Rows.kdcAnswersSpec.post enc Try.prog Try.f3 false true false false) := by
 refine returnsInHanded_of_change_sized (C := Try.checked) own16 started (by kernel_rfl) Try.func3
  (ChangeSpec.witness6 (enc := enc) (C := Try.checked) false ⟨#[], #[.agg (#[.slice none 0 0, .slice none 0 0, .int .i64 0] ++ Array.replicate 16 (.int .u8 0)), .agg (#[.int .i64 0, .string ⟨#[]⟩, .string ⟨#[]⟩] ++ Array.replicate 32 (.int .u8 0) ++ #[.slice none 0 0, .slice none 0 0, .slice none 0 0]), .agg (Array.replicate 48 (.int .u8 0))], []⟩ 8 (by kernel_rfl) (by kernel_rfl) (by kernel_rfl) (by kernel_rfl)) ?_
 intro W base args ds gs before hval hW _ hsz _
 refine law_callsT (n := 8) (As := [Kdc.tB, Kdc.tN, .arr 3 Kdc.w16]) (L := L0) Kdc.cA3_sound laid16 Try.func3 (by kernel_rfl) (noLoopsL (by kernel_rfl)) (by kernel_rfl) (tb := 4) (by kernel_rfl) (by kernel_rfl)
  ⟨rfl, fun ds h => ?_⟩ (fun xs hx hz => ?_) hval hW hsz
 ·match ds, h with
  | [d1, d2, d3], _ => rfl
 ·exact (Kdc.tA3 true Kdc.slF Kdc.ansF Kdc.ansF (fun b => decide (b.1.length ≤ 1000)) Kdc.sameN xs.1 xs.2.1 xs.2.2.1).trans (Kdc.TA3_true _ _ _)
theorem kdcAnswers_holds : Rows.KdcAnswersSaid :=
 OpenClaim.holds_of_wide 3 Try.f3 rfl rfl rfl rfl rfl rfl rfl ⟨rfl, rfl, rfl, rfl, rfl⟩ rfl rfl rfl rfl rfl (by kernel_rfl) Try.func3 (by kernel_rfl)
  (of_decide_eq_true (by kernel_rfl)) (by unfold Func.isWrapper; first | (rw [if_pos (by decide +kernel)]; kernel_rfl) | (rw [if_neg (by decide +kernel)]; exact ⟨rfl, rfl⟩))
  (fun os started H enc _ => kdcAnswers_lifted os started H enc)
theorem kdcSeals_lifted (os : Os) (started : os.Started) (H : Type) (enc : TypeId × Value → H) :
  ReturnsInHanded {} Try.checked os 4 .any (Rows.kdcSealsSpec.pre6 enc Try.prog Try.f4 Rows.kdcSealsRow.domain false) (Rows.kdcSealsSpec.post enc Try.prog Try.f4 false true false false) := by
 refine returnsInHanded_of_change_sized (C := Try.checked) own16 started (by kernel_rfl) Try.func4
  (ChangeSpec.witness6 (enc := enc) (C := Try.checked) false ⟨#[], #[.agg (Array.replicate 32 (.int .u8 0)), .string ⟨#[]⟩, .slice none 0 0], []⟩ 8 (by kernel_rfl) (by kernel_rfl) (by kernel_rfl) (by kernel_rfl)) ?_
 intro W base args ds gs before hval hW _ hsz _
 refine law_callsT (n := 8) (As := [Kdc.t2w, .str, Kdc.lt]) Kdc.cS3_sound laid16 Try.func4 (by kernel_rfl) (loops1 (by kernel_rfl) Kdc.lKs) (by kernel_rfl) (tb := 4) (by kernel_rfl) (by kernel_rfl)
  ⟨rfl, fun ds h => ?_⟩ (fun xs hx hz => ?_) hval hW hsz
 ·match ds, h with
  | [d1, d2, d3], _ => rfl
 ·exact (Kdc.tS3 Kdc.cKs _ _ _ _ _ _ _ _ _ xs.1 xs.2.1 xs.2.2.1).trans (Kdc.TS3_true xs.1 xs.2.1 xs.2.2.1 (Kdc.pre_sz hz.2.2.1) (Kdc.good_wf hx.2.2.1) hx.2.2.1.1 (Kdc.k1_wf hx.1))
theorem kdcSeals_holds : Rows.KdcSealsSaid :=
 OpenClaim.holds_of_wide 4 Try.f4 rfl rfl rfl rfl rfl rfl rfl ⟨rfl, rfl, rfl, rfl, rfl⟩ rfl rfl rfl rfl rfl (by kernel_rfl) Try.func4 (by kernel_rfl)
  (of_decide_eq_true (by kernel_rfl)) (by unfold Func.isWrapper; first | (rw [if_pos (by decide +kernel)]; kernel_rfl) | (rw [if_neg (by decide +kernel)]; exact ⟨rfl, rfl⟩))
  (fun os started H enc _ => kdcSeals_lifted os started H enc)
end Go.Proofs.Ytaffancdidgkhaa
#print axioms Go.Proofs.Ytaffancdidgkhaa.kdcAnswers_holds
#print axioms Go.Proofs.Ytaffancdidgkhaa.kdcSeals_holds

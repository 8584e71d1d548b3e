/- The statements of layer 15 (book) hold: BookDoes. No conditions but the given ones. Part 6. -/
import Derived.Test.YtffdkniccaebmaaZD5
import Derived.Shelf.SlicesE.Delete
import Derived.Shelf.SlicesE.Clone
import Derived.Shelf.GgSortFunc.RowK
import Derived.Deep.MidRow
set_option linter.unusedVariables false
set_option linter.unusedSimpArgs false
section
set_option linter.unusedVariables false
set_option linter.unusedSimpArgs false
set_option maxRecDepth 100000
namespace Go.Proofs.Ytffdkniccaebmaa.Bok
open Go Vse Go.Proofs Gen
abbrev w16 : Ty := .arr 16 u8
abbrev tEnt : Ty := .prod .str (.prod w16 .unit)
abbrev tBl : Ty := .prod (.imm false false tEnt) (.prod (.imm false false w16) (.prod i64 (.prod w16 .unit)))
abbrev tB : Ty := .prod (.imm true false tEnt) (.prod (.imm true false w16) (.prod i64 (.prod w16 .unit)))
abbrev lEnt : Ty := .imm false false tEnt
abbrev En := ByteArray × List Int × Unit
abbrev nFq : PSpec := ⟨[tEnt, .ptr 0 []], [.bool], [.box .str], [.box .str], []⟩
theorem tFq (x : En) (s : ByteArray) : (fnP Try.prog (ctx []) L0 nFq Try.f118 (x, (), ()) (s, ())).eval = (.ret (((x.1 == s), ()), (s, ())) : Tr nFq.Out).eval := by kernel_rfl
def sFq : CSpec := .pos nFq (fun _ _ => true) fun xs hs => (((xs.1.1 == hs.1 : Bool), ()), hs)
theorem okFq : CSound Try.prog 118 sFq ∧ CLocal sFq :=
 pos_sound (L := L0) nil_sound Try.func118 (by kernel_rfl) (noLoopsL (by kernel_rfl)) fun xs hs hx hh hp => by
  obtain ⟨x, u, u'⟩ := xs
  obtain ⟨s, u''⟩ := hs
  exact tFq x s
abbrev fFq : Ty := .fn 118 (.prod (.ptr 0 []) .unit)
abbrev nIf : PSpec := ⟨[lEnt, fFq], [i64], [.box .str], [.box .str], []⟩
def SIf : RSpec := ⟨[0, 1, 7, 8], 19, [lEnt, fFq, i64, i64], [.box .str], [.box .str], [], fun x => match x with | .ret => ([4], [i64], [.box .str]) | _ => ([], [], [.box .str])⟩
def GIf (l : List En) (s : ByteArray) (n i : Int) : Tr SIf.End :=
 .ite (decide (i < n)) (.chk (inArr i l.length) (.ite ((l.getD i.toNat (dflt tEnt)).1 == s) (.ret (.inr (.ret, encS [4] [i64] [.box .str] 19 (i, ()) (s, ())))) (.ret (.inl ((l, ((), ()), n, w (i + 1), ()), (s, ()))))))
  (.ret (.inr (.exit 0, encS [] [] [.box .str] 19 () (s, ()))))
noncomputable def bIf : Code := loopAt Try.f117 0
theorem rIf (l : List En) (s : ByteArray) (n i : Int) : (SIf.round (bodyK Try.prog (ctx [(118, sFq)]) L0 bIf) (l, ((), ()), n, i, ()) (s, ())).eval = (GIf l s n i).eval := by kernel_rfl
def hasE (l : List En) (s : ByteArray) : Bool := l.any fun e => e.1 == s
def idxE (l : List En) (s : ByteArray) : Int := if hasE l s = true then (l.findIdx fun e => e.1 == s : Nat) else -1
def cIf (l : List En) (n i : Int) : Bool := decide (l.length ≤ 9223372036854775807) && (decide (n = (l.length : Int)) && decide (i = 0))
def FIf (c : List En → Int → Int → Bool) (h : List En → ByteArray → Bool) (ix : List En → ByteArray → Int) (xs : HL SIf.Ts) (hs : HD SIf.Es) : Tr (Ex × St) :=
 .chk (c xs.1 xs.2.2.1 xs.2.2.2.1) (.ite (h xs.1 hs.1) (.ret (.ret, encS [4] [i64] [.box .str] 19 (ix xs.1 hs.1, ()) hs)) (.ret (.exit 0, encS [] [] [.box .str] 19 () hs)))
def LIf (c : List En → Int → Int → Bool) (h : List En → ByteArray → Bool) (ix : List En → ByteArray → Int) : Loops := fun j st => if j = 2 then SIf.fn (FIf c h ix) st else .fail
theorem getD_of {α : Type} {l : List α} {k : Nat} (h : k < l.length) (d : α) : l.getD k d = l[k] := by
 rw [List.getD_eq_getElem?_getD, List.getElem?_eq_getElem h]; rfl
theorem inArr_of {k n : Nat} (h : k < n) : inArr (k : Int) n = true := by simp [inArr]; omega
theorem w_succ {k n : Nat} (h : k < n) (hn : n ≤ 9223372036854775807) : w ((k : Int) + 1) = ((k + 1 : Nat) : Int) := (w_id (by omega) (by omega)).trans (by omega)
theorem mIf (s : ByteArray) (l : List En) (hl : l.length ≤ 9223372036854775807) : ∀ (m k : Nat), k + m = l.length →
  SIf.many (bodyK Try.prog (ctx [(118, sFq)]) L0 bIf) (m + 1) (l, ((), ()), (l.length : Int), (k : Int), ()) (s, ()) = if hasE (l.drop k) s = true then some (.ret, encS [4] [i64] [.box .str] 19 (((k + (l.drop k).findIdx fun e => e.1 == s : Nat) : Int), ()) (s, ())) else some (.exit 0, encS [] [] [.box .str] 19 () (s, ()))
 | 0, k, h => by
  have e1 : l.drop k = [] := List.drop_eq_nil_of_le (by omega)
  rw [e1, if_neg (by simp [hasE])]
  refine rmany_inr ((rIf l s _ _).trans ?_) 0
  unfold GIf
  rw [ite_f (decide_eq_false (by omega))]
  rfl
 | m + 1, k, h => by
  have h1 : k < l.length := by omega
  have e2 : (l.drop k) = l[k] :: l.drop (k + 1) := List.drop_eq_getElem_cons h1
  cases hq : (l[k].1 == s) with
  | true =>
   have e3 : hasE (l.drop k) s = true := by simp only [hasE, e2, List.any_cons, hq, Bool.true_or]
   have e4 : ((l.drop k).findIdx fun e => e.1 == s) = 0 := by rw [e2, List.findIdx_cons, hq]; rfl
   rw [if_pos e3, e4]
   refine rmany_inr ((rIf l s _ _).trans ?_) _
   unfold GIf
   rw [Int.toNat_natCast, ite_t (decide_eq_true (by omega)), chk_eval (inArr_of h1), getD_of h1, ite_t hq]
   rfl
  | false =>
   have e3 : hasE (l.drop k) s = hasE (l.drop (k + 1)) s := by simp only [hasE, e2, List.any_cons, hq, Bool.false_or]
   have e4 : k + ((l.drop k).findIdx fun e => e.1 == s) = k + 1 + (l.drop (k + 1)).findIdx fun e => e.1 == s := by rw [e2, List.findIdx_cons, hq]; simp only [cond_false]; omega
   rw [e3, e4]
   refine (rmany_inl (d := ((l, ((), ()), (l.length : Int), ((k + 1 : Nat) : Int), ()), (s, ()))) ((rIf l s _ _).trans ?_) (m + 1)).trans (mIf s l hl m (k + 1) (by omega))
   unfold GIf
   rw [Int.toNat_natCast, ite_t (decide_eq_true (by omega)), chk_eval (inArr_of h1), getD_of h1, ite_f hq, w_succ h1 hl]
   rfl
theorem cFq_sound : CtxSound Try.prog (ctx [(118, sFq)]) ∧ CtxLocal (ctx [(118, sFq)]) := ctx_sound ⟨okFq, trivial⟩
theorem lIf : LoopOK Try.prog (LIf cIf hasE idxE) bIf :=
 rloop_ok (L := LIf cIf hasE idxE) (L' := L0) cFq_sound (loopsOK_of (by kernel_rfl)) SIf (F := FIf cIf hasE idxE) (i := 2) (by kernel_rfl) (fun _ => rfl) fun xs hs q h => by
  obtain ⟨l, u1, n, i, u⟩ := xs
  obtain ⟨s, u2⟩ := hs
  obtain ⟨h1, h2⟩ := Tr.chk_some h
  simp only [cIf, Bool.and_eq_true, decide_eq_true_eq] at h1
  obtain ⟨hl, e1, e2⟩ := h1
  have e1 : n = (List.length (α := En) l : Int) := e1
  have e2 : i = ((0 : Nat) : Int) := e2
  subst e1; subst e2
  refine ⟨List.length (α := En) l + 1, ?_⟩
  have := mIf s l hl (List.length (α := En) l) 0 (by omega)
  rw [List.drop_zero, Nat.zero_add] at this
  refine this.trans ?_
  rcases Tr.ite_some h2 with ⟨hx, h3⟩ | ⟨hx, h3⟩
  ·have hx : hasE l s = true := hx
   have := Tr.ret_some h3
   subst this
   rw [if_pos hx]
   simp only [idxE, if_pos hx]
  ·have hx : hasE l s = false := hx
   have := Tr.ret_some h3
   subst this
   rw [if_neg (by rw [hx]; simp)]
def TIf (c : List En → Int → Int → Bool) (h : List En → ByteArray → Bool) (ix : List En → ByteArray → Int) (l : List En) (s : ByteArray) : Tr nIf.Out :=
 .chk (c l (l.length : Int) 0) (.ite (h l s) (.ret ((ix l s, ()), (s, ()))) (.ret ((-1, ()), (s, ()))))
theorem tIf (c : List En → Int → Int → Bool) (h : List En → ByteArray → Bool) (ix : List En → ByteArray → Int) (l : List En) (s : ByteArray) :
  (fnP Try.prog (ctx [(118, sFq)]) (LIf c h ix) nIf Try.f117 (l, ((), ()), ()) (s, ())).eval = (TIf c h ix l s).eval := by kernel_rfl
def sIf (h : List En → ByteArray → Int) : CSpec := .pos nIf (fun _ _ => true) fun xs hs => ((h xs.1 hs.1, ()), hs)
theorem TIf_eq {l : List En} {s : ByteArray} (hl : l.length ≤ 9223372036854775807) : (TIf cIf hasE idxE l s).eval = some ((idxE l s, ()), (s, ())) := by
 unfold TIf
 rw [chk_eval (by simp [cIf, hl])]
 cases hq : hasE l s with
 | true => rw [ite_t rfl]; rfl
 | false => rw [ite_f rfl]; unfold idxE; rw [if_neg (by rw [hq]; simp)]; rfl
theorem okIf : CSound Try.prog 117 (sIf idxE) ∧ CLocal (sIf idxE) :=
 pos_sound (L := LIf cIf hasE idxE) cFq_sound Try.func117 (by kernel_rfl) (loops1 (by kernel_rfl) lIf) fun xs hs hx hh hp => by
  obtain ⟨l, u1, u⟩ := xs
  obtain ⟨s, u2⟩ := hs
  exact (tIf _ _ _ l s).trans (TIf_eq hx.1.1)
abbrev Bk := List En × List (List Int) × Int × List Int × Unit
def nFi : PSpec := ⟨[tBl, .str], [i64], [], [], []⟩
theorem tFi (h : List En → ByteArray → Int) (b : Bk) (s : ByteArray) :
  (fnP Try.prog (ctx [(117, sIf h)]) L0 nFi Try.f106 (b, s, ()) ()).eval = (.ret ((h b.1 s, ()), ()) : Tr nFi.Out).eval := by kernel_rfl
def sFi (h : List En → ByteArray → Int) : CSpec := .pos nFi (fun _ _ => true) fun xs _ => ((h xs.1.1 xs.2.1, ()), ())
theorem okFi : CSound Try.prog 106 (sFi idxE) ∧ CLocal (sFi idxE) :=
 pos_sound (L := L0) (C := ctx [(117, sIf idxE)]) (ctx_sound ⟨okIf, trivial⟩) Try.func106 (by kernel_rfl) (noLoopsL (by kernel_rfl)) fun xs hs hx hh hp => by
  obtain ⟨b, s, u⟩ := xs
  exact tFi _ b s
abbrev nKy : PSpec := ⟨[tBl, .str], [w16, .bool], [], [], []⟩
def zero16 : List Int := List.replicate 16 0
def TKy (h : List En → ByteArray → Int) (b : Bk) (s : ByteArray) : Tr nKy.Out :=
 .ite (decide (h b.1 s < 0)) (.ret ((zero16, false, ()), ())) (.chk (inArr (h b.1 s) b.1.length) (.ret (((b.1.getD (h b.1 s).toNat (dflt tEnt)).2.1, true, ()), ())))
theorem tKy (h : List En → ByteArray → Int) (b : Bk) (s : ByteArray) :
  (fnP Try.prog (ctx [(106, sFi h)]) L0 nKy Try.f63 (b, s, ()) ()).eval = (TKy h b s).eval := by kernel_rfl
def keyF (b : Bk) (s : ByteArray) : List Int × Bool := match b.1.find? fun e => e.1 == s with | some e => (e.2.1, true) | none => (zero16, false)
def sKy : CSpec := .pos nKy (fun _ _ => true) fun xs _ => (((keyF xs.1 xs.2.1).1, (keyF xs.1 xs.2.1).2, ()), ())
theorem find_has {l : List En} {s : ByteArray} : ∀ {l : List En}, hasE l s = true → ∃ (h : (l.findIdx fun e => e.1 == s) < l.length), l.find? (fun e => e.1 == s) = some l[l.findIdx fun e => e.1 == s] := by
 intro l h
 have h1 := List.findIdx_lt_length_of_exists (p := fun e : En => e.1 == s) (xs := l) (by simpa [hasE] using h)
 refine ⟨h1, ?_⟩
 rw [List.find?_eq_getElem?_findIdx, List.getElem?_eq_getElem h1]
theorem find_none {l : List En} {s : ByteArray} (h : hasE l s = false) : l.find? (fun e => e.1 == s) = none := by
 rw [List.find?_eq_none]
 intro x hx hs
 have : hasE l s = true := List.any_eq_true.2 ⟨x, hx, hs⟩
 rw [h] at this; cases this
theorem TKy_eq {b : Bk} {s : ByteArray} : (TKy idxE b s).eval = some (((keyF b s).1, (keyF b s).2, ()), ()) := by
 unfold TKy keyF
 cases hq : hasE b.1 s with
 | true =>
  obtain ⟨h1, h2⟩ := find_has (l := b.1) hq
  have e : idxE b.1 s = ((b.1.findIdx fun e => e.1 == s : Nat) : Int) := if_pos hq
  rw [e, ite_f (decide_eq_false (by omega)), chk_eval (inArr_of h1), Int.toNat_natCast, getD_of h1, h2]
  rfl
 | false =>
  have e : idxE b.1 s = -1 := if_neg (by rw [hq]; simp)
  rw [e, ite_t (by decide), find_none hq]
  rfl
theorem okKy : CSound Try.prog 63 sKy ∧ CLocal sKy :=
 pos_sound (L := L0) (C := ctx [(106, sFi idxE)]) (ctx_sound ⟨okFi, trivial⟩) Try.func63 (by kernel_rfl) (noLoopsL (by kernel_rfl)) fun xs hs hx hh hp => by
  obtain ⟨b, s, u⟩ := xs
  exact (tKy _ b s).trans TKy_eq
def SAk : RSpec := ⟨[1, 2, 5], 22, [.str, .ptr 0 [], i64], [.box tBl], [.box tBl], [], fun x => match x with | .ret => ([4], [i64], [.box tBl]) | _ => ([], [], [.box tBl])⟩
def GAk (b : Bk) (s : ByteArray) (i : Int) : Tr SAk.End :=
 .ite (decide (i < (b.1.length : Int))) (.chk (inArr i b.1.length) (.ite ((b.1.getD i.toNat (dflt tEnt)).1 == s) (.ret (.inr (.ret, encS [4] [i64] [.box tBl] 22 (i, ()) (b, ())))) (.ret (.inl ((s, (), w (i + 1), ()), (b, ()))))))
  (.ret (.inr (.exit 0, encS [] [] [.box tBl] 22 () (b, ()))))
noncomputable def bAk : Code := loopAt Try.f103 0
theorem rAk (b : Bk) (s : ByteArray) (i : Int) : (SAk.round (bodyK Try.prog (ctx []) L0 bAk) (s, (), i, ()) (b, ())).eval = (GAk b s i).eval := by kernel_rfl
theorem mAk (s : ByteArray) (b : Bk) (hl : b.1.length ≤ 9223372036854775807) : ∀ (m k : Nat), k + m = b.1.length →
  SAk.many (bodyK Try.prog (ctx []) L0 bAk) (m + 1) (s, (), (k : Int), ()) (b, ()) = if hasE (b.1.drop k) s = true then some (.ret, encS [4] [i64] [.box tBl] 22 (((k + (b.1.drop k).findIdx fun e => e.1 == s : Nat) : Int), ()) (b, ())) else some (.exit 0, encS [] [] [.box tBl] 22 () (b, ()))
 | 0, k, h => by
  have e1 : b.1.drop k = [] := List.drop_eq_nil_of_le (by omega)
  rw [e1, if_neg (by simp [hasE])]
  refine rmany_inr ((rAk b s _).trans ?_) 0
  unfold GAk
  rw [ite_f (decide_eq_false (by omega))]
  rfl
 | m + 1, k, h => by
  have h1 : k < b.1.length := by omega
  have e2 : (b.1.drop k) = b.1[k] :: b.1.drop (k + 1) := List.drop_eq_getElem_cons h1
  cases hq : (b.1[k].1 == s) with
  | true =>
   have e3 : hasE (b.1.drop k) s = true := by simp only [hasE, e2, List.any_cons, hq, Bool.true_or]
   have e4 : ((b.1.drop k).findIdx fun e => e.1 == s) = 0 := by rw [e2, List.findIdx_cons, hq]; rfl
   rw [if_pos e3, e4]
   refine rmany_inr ((rAk b s _).trans ?_) _
   unfold GAk
   rw [Int.toNat_natCast, ite_t (decide_eq_true (by omega)), chk_eval (inArr_of h1), getD_of h1, ite_t hq]
   rfl
  | false =>
   have e3 : hasE (b.1.drop k) s = hasE (b.1.drop (k + 1)) s := by simp only [hasE, e2, List.any_cons, hq, Bool.false_or]
   have e4 : k + ((b.1.drop k).findIdx fun e => e.1 == s) = k + 1 + (b.1.drop (k + 1)).findIdx fun e => e.1 == s := by rw [e2, List.findIdx_cons, hq]; simp only [cond_false]; omega
   rw [e3, e4]
   refine (rmany_inl (d := ((s, (), ((k + 1 : Nat) : Int), ()), (b, ()))) ((rAk b s _).trans ?_) (m + 1)).trans (mAk s b hl m (k + 1) (by omega))
   unfold GAk
   rw [Int.toNat_natCast, ite_t (decide_eq_true (by omega)), chk_eval (inArr_of h1), getD_of h1, ite_f hq, w_succ h1 hl]
   rfl
def cAk (l : List En) (i : Int) : Bool := decide (l.length ≤ 9223372036854775807) && decide (i = 0)
def FAk (c : List En → Int → Bool) (h : List En → ByteArray → Bool) (ix : List En → ByteArray → Int) (xs : HL SAk.Ts) (hs : HD SAk.Es) : Tr (Ex × St) :=
 .chk (c hs.1.1 xs.2.2.1) (.ite (h hs.1.1 xs.1) (.ret (.ret, encS [4] [i64] [.box tBl] 22 (ix hs.1.1 xs.1, ()) hs)) (.ret (.exit 0, encS [] [] [.box tBl] 22 () hs)))
def LAk (c : List En → Int → Bool) (h : List En → ByteArray → Bool) (ix : List En → ByteArray → Int) : Loops := fun j st => if j = 2 then SAk.fn (FAk c h ix) st else .fail
theorem lAk : LoopOK Try.prog (LAk cAk hasE idxE) bAk :=
 rloop_ok (L := LAk cAk hasE idxE) (L' := L0) nil_sound (loopsOK_of (by kernel_rfl)) SAk (F := FAk cAk hasE idxE) (i := 2) (by kernel_rfl) (fun _ => rfl) fun xs hs q h => by
  obtain ⟨s, u1, i, u⟩ := xs
  obtain ⟨b, u2⟩ := hs
  obtain ⟨h1, h2⟩ := Tr.chk_some h
  simp only [cAk, Bool.and_eq_true, decide_eq_true_eq] at h1
  obtain ⟨hl, e2⟩ := h1
  have e2 : i = ((0 : Nat) : Int) := e2
  subst e2
  refine ⟨List.length (α := En) b.1 + 1, ?_⟩
  have := mAk s b hl (List.length (α := En) b.1) 0 (by omega)
  rw [List.drop_zero, Nat.zero_add] at this
  refine this.trans ?_
  rcases Tr.ite_some h2 with ⟨hx, h3⟩ | ⟨hx, h3⟩
  ·have hx : hasE b.1 s = true := hx
   have := Tr.ret_some h3
   subst this
   rw [if_pos hx]
   simp only [idxE, if_pos hx]
  ·have hx : hasE b.1 s = false := hx
   have := Tr.ret_some h3
   subst this
   rw [if_neg (by rw [hx]; simp)]
def TAk (c : List En → Int → Bool) (h : List En → ByteArray → Bool) (ix : List En → ByteArray → Int) (b : Bk) (s : ByteArray) : Tr nFi.Out :=
 .chk (c b.1 0) (.ite (h b.1 s) (.ret ((ix b.1 s, ()), ())) (.ret ((-1, ()), ())))
theorem tAk (c : List En → Int → Bool) (h : List En → ByteArray → Bool) (ix : List En → ByteArray → Int) (b : Bk) (s : ByteArray) :
  (fnP Try.prog (ctx []) (LAk c h ix) nFi Try.f103 (b, s, ()) ()).eval = (TAk c h ix b s).eval := by kernel_rfl
theorem TAk_eq {b : Bk} {s : ByteArray} (hl : b.1.length ≤ 9223372036854775807) : (TAk cAk hasE idxE b s).eval = some ((idxE b.1 s, ()), ()) := by
 unfold TAk
 rw [chk_eval (by simp [cAk, hl])]
 cases hq : hasE b.1 s with
 | true => rw [ite_t rfl]; rfl
 | false => rw [ite_f rfl]; unfold idxE; rw [if_neg (by rw [hq]; simp)]; rfl
theorem okAk : CSound Try.prog 103 (sFi idxE) ∧ CLocal (sFi idxE) :=
 pos_sound (L := LAk cAk hasE idxE) nil_sound Try.func103 (by kernel_rfl) (loops1 (by kernel_rfl) lAk) fun xs hs hx hh hp => by
  obtain ⟨b, s, u⟩ := xs
  exact (tAk _ _ _ b s).trans (TAk_eq hx.1.1.1)
end Go.Proofs.Ytffdkniccaebmaa.Bok
end
section
set_option linter.unusedVariables false
namespace Vse
open Go Go.ChangeShapes Go.Proofs Go.Sort Go.Shelf
section
variable {P : Program} {C : Ctx} {L : Loops} {g : G} {H : Heap} {w : World}
abbrev Cel := { v : Value // v.oneCell' = true }
instance : Inhabited Cel := ⟨⟨.bool false, rfl⟩⟩
def cutL {α : Type} (l : List α) (i j : Nat) : List α := l.take i ++ l.drop j
def CSpec.del (A : Ty) : CSpec :=
 ⟨0, fun vs _ => match vs with | .v (.vc e _) _ :: _ => [e] | _ => [], fun vs _ => match vs with | .v (.vc e _) _ :: _ => [e] | _ => [],
  fun vs es _ => match vs with
  | [.v (.vc e k) _, .v (.int .i64) i, .v (.int .i64) j] => match es with
   | [.vec k' a l] => if k = k' then (match castL ⟨a, l⟩ A with
    | some m => .chk (decide (0 ≤ i ∧ i < j ∧ j ≤ m.length)) (.ret (.v (.vc e (k + 1)) (), [(e, .vec (k + 1) A (cutL m i.toNat j.toNat))]))
    | none => .fail) else .fail
   | _ => .fail
  | _ => .fail⟩
theorem del_local (A : Ty) : CLocal (CSpec.del A) where
 same vs H H' h := ⟨rfl, rfl⟩
 turns vs H fr out h x hx := by
  simp only [CSpec.del] at h
  split at h
  ·split at h
   ·split at h
    ·split at h
     ·obtain ⟨_, h⟩ := Tr.chk_some h
      have := Tr.ret_some h
      subst this
      simp only [List.mem_singleton] at hx
      subst hx
      exact .inl (by simp [CSpec.del])
     ·exact (Tr.fail_some h).elim
    ·exact (Tr.fail_some h).elim
   ·exact (Tr.fail_some h).elim
  ·exact (Tr.fail_some h).elim
theorem repL_app {α : Type} {R : α → List Value → Prop} : ∀ {l m : List α} {vs us : List Value}, repL R l vs → repL R m us → repL R (l ++ m) (vs ++ us)
 | [], m, vs, us, h, h' => by rw [show vs = [] from h]; exact h'
 | x :: l, m, vs, us, ⟨c1, c2, e, r1, r2⟩, h' => by
  subst e
  exact ⟨c1, c2 ++ us, by simp, r1, repL_app r2 h'⟩
theorem nat_args {i j : Int} {n : Nat} (h : 0 ≤ i ∧ i < j ∧ j ≤ n) : ∃ a b : Nat, i = (a : Int) ∧ j = (b : Int) ∧ a < b ∧ b ≤ n := ⟨i.toNat, j.toNat, by omega, by omega, by omega, by omega⟩
end
end Vse
end
section
set_option linter.unusedVariables false
namespace Vse
open Go Go.ChangeShapes Go.Proofs Go.Shelf Go.RowKit Go.Lib Go.Sort
structure WLay (P : Program) (ρ : Ren) (ag : Bool) (k : Nat) : Prop where
 mixed : P.follows .mixedOrders = true
 f45 : Bears P (ρ.f 45) (SlBodyN.n45 ρ)
 t0 : P.underlying (ρ.t 0) = some (TypeDesc.tuple #[])
 a0 : ∀ w, (isAgg (ρ.t 0)).run P w = .ok false w
 z0 : ∀ w, (Go.sizeOf (ρ.t 0)).run P w = .ok 1 w
 v0 : ∀ w, (zeroValue (ρ.t 0)).run P w = .ok (Value.tuple #[]) w
 t3 : P.underlying (ρ.t 3) = some (TypeDesc.int IntKind.i64)
 a3 : ∀ w, (isAgg (ρ.t 3)).run P w = .ok false w
 z3 : ∀ w, (Go.sizeOf (ρ.t 3)).run P w = .ok 1 w
 v3 : ∀ w, (zeroValue (ρ.t 3)).run P w = .ok (Value.int IntKind.i64 0) w
 t4 : P.underlying (ρ.t 4) = some (TypeDesc.bool)
 a4 : ∀ w, (isAgg (ρ.t 4)).run P w = .ok false w
 z4 : ∀ w, (Go.sizeOf (ρ.t 4)).run P w = .ok 1 w
 v4 : ∀ w, (zeroValue (ρ.t 4)).run P w = .ok (Value.bool false) w
 t22 : P.underlying (ρ.t 22) = some (TypeDesc.slice (ρ.t 23))
 a22 : ∀ w, (isAgg (ρ.t 22)).run P w = .ok false w
 z22 : ∀ w, (Go.sizeOf (ρ.t 22)).run P w = .ok 1 w
 v22 : ∀ w, (zeroValue (ρ.t 22)).run P w = .ok (Value.slice none 0 0) w
 a23 : ∀ w, (isAgg (ρ.t 23)).run P w = .ok ag w
 z23 : ∀ w, (Go.sizeOf (ρ.t 23)).run P w = .ok k w
variable {P : Program} {ρ : Ren}
theorem zeroCells_len (zs : Array Value) (n : Nat) : (Builtin.zeroCells zs n).toList.length = n * zs.size := by simp [Builtin.zeroCells]
theorem zeroCells_one {zs : Array Value} (hz : 0 < zs.size) (h1 : ∀ v ∈ zs.toList, v.oneCell' = true) {n : Nat} : ∀ v ∈ (Builtin.zeroCells zs n).toList, v.oneCell' = true := fun v hv => by
 simp only [Builtin.zeroCells, Array.toList_map, List.mem_map] at hv
 obtain ⟨i, _, rfl⟩ := hv
 have : i % zs.size < zs.size := Nat.mod_lt _ hz
 rw [getElem!_pos zs _ this]
 exact h1 _ (by simp)
theorem run_clear_wide (w : World) (t e ty : TypeId) (z : Value) (zs : Array Value) (ht : P.underlying t = some (.slice e)) (hv : ∀ w, (zeroValue e).run P w = .ok z w) (hz : z.cells = zs) (h0 : 0 < zs.size) (h1 : ∀ v ∈ zs.toList, v.oneCell' = true) (b o n c : Nat) (hn : 0 < n)
  (hc : ∀ j, j < n * zs.size → (w.cell? ⟨b, o + j, none⟩).isSome = true) (hf : ∀ j, j < n * zs.size → w.frozen? ⟨b, o + j, none⟩ = false) :
  (Builtin.clear_ #[t] ty #[.slice (some ⟨b, o, none⟩) n c]).run P w = .ok (.tuple #[]) (w.setCells b o (Builtin.zeroCells zs n).toList) := by
 have hst := run_storeCells_cells (P := P) b o (Builtin.zeroCells zs n).toList 0 w (by rw [zeroCells_len]; simpa using hc) (by rw [zeroCells_len]; simpa using hf) (zeroCells_one h0 h1)
 simp only [Nat.add_zero] at hst
 obtain ⟨m, rfl⟩ : ∃ m, n = m + 1 := ⟨n - 1, by omega⟩
 simp [Builtin.clear_, run_underlying ht, hv, hz, hst]
theorem setMany_list (F : Array Value) (s : Nat) (vs : List Value) (h : s + vs.length ≤ F.size) : (setMany F s vs).toList = F.toList.take s ++ vs ++ F.toList.drop (s + vs.length) := by
 have hl : (F.toList.take s ++ vs ++ F.toList.drop (s + vs.length)).length = F.size := by simp; omega
 apply List.ext_getElem
 ·rw [Array.length_toList, size_setMany, hl]
 ·intro t h1 h2
  have ht : t < F.size := by rw [← hl]; exact h2
  have ht' : t < (setMany F s vs).size := by rw [size_setMany]; exact ht
  have e1 : (setMany F s vs).toList[t] = (setMany F s vs)[t]! := by rw [getElem!_pos _ t ht', Array.getElem_toList]
  rw [e1, get_setMany _ _ _ _ ht]
  by_cases a : t < s
  ·rw [if_neg (by omega), List.getElem_append_left (by simp; omega), List.getElem_append_left (by simp; omega), List.getElem_take, Array.getElem_toList, getElem!_pos _ t ht]
  ·by_cases b : t < s + vs.length
   ·rw [if_pos ⟨by omega, b⟩, List.getElem_append_left (by simp; omega), List.getElem_append_right (by simp; omega)]
    have : t - s < vs.length := by omega
    rw [getElem!_pos vs (t - s) this]
    congr 1
    simp; omega
   ·rw [if_neg (by omega), List.getElem_append_right (by simp; omega), List.getElem_drop, getElem!_pos _ t ht]
    simp only [Array.getElem_toList]
    congr 1
    simp; omega
set_option maxHeartbeats 4000000 in
set_option maxRecDepth 1000000 in
theorem wide_delete {ag : Bool} {k : Nat} (L : WLay P ρ ag k) (z : Value) (zs : Array Value) (v23 : ∀ w, (zeroValue (ρ.t 23)).run P w = .ok z w) (hz : z.cells = zs) (hzk : zs.size = k) (hk : 0 < k) (hz1 : ∀ v ∈ zs.toList, v.oneCell' = true)
  (i0 : TypeInfo) (hi0 : P.info? (ρ.t 23) = some i0) (hi1 : i0.size = k) (blk cap i j n : Nat) (us : List Value) (hus : us.length = n * k) (h1 : ∀ v ∈ us, v.oneCell' = true) (w : World)
  (hH : ∀ t (h : t < us.length), w.cell? ⟨blk, t, none⟩ = some us[t] ∧ w.frozen? ⟨blk, t, none⟩ = false) (hcap : n ≤ cap) (hm : cap ≤ 9223372036854775807) (hij : i < j) (hj : j ≤ n) :
  Calls P (ρ.f 45) #[.slice (some ⟨blk, 0, none⟩) n cap, .int .i64 i, .int .i64 j] w fun e w' => e = .returned (.slice (some ⟨blk, 0, none⟩) (n - (j - i)) cap) ∧
   w' = putRow id (Sort.ahead w 1) blk 0 (us.take (i * k) ++ us.drop (j * k) ++ (Builtin.zeroCells zs (j - i)).toList).toArray := by
 have mixed := L.mixed; have t0 := L.t0; have a0 := L.a0; have z0 := L.z0; have v0 := L.v0; have t3 := L.t3; have a3 := L.a3; have z3 := L.z3; have v3 := L.v3; have t4 := L.t4; have a4 := L.a4; have z4 := L.z4; have v4 := L.v4; have t22 := L.t22; have a22 := L.a22; have z22 := L.z22; have v22 := L.v22; have a23 := L.a23; have z23 := L.z23
 obtain ⟨news, hnews⟩ : ∃ news, news = us.drop (j * k) := ⟨_, rfl⟩
 have hjk : j * k ≤ n * k := Nat.mul_le_mul_right k hj
 have hlen : news.length = (n - j) * k := by rw [hnews, List.length_drop, hus, Nat.sub_mul]
 obtain ⟨A, hA, hsrc⟩ : ∃ A : Addr, (if cap = j then some (⟨blk, 0, none⟩ : Addr) else some ⟨blk, j * k, none⟩) = some A ∧ Hid (∀ t u, news[t]? = some u → w.drew.cell? (A.add t) = some u) := by
  by_cases h : cap = j
  ·refine ⟨⟨blk, 0, none⟩, by simp [h], fun t u hu => ?_⟩
   have h0 : news.length = 0 := by rw [hlen, show n - j = 0 by omega, Nat.zero_mul]
   rw [List.length_eq_zero_iff.1 h0] at hu
   simp at hu
  ·refine ⟨⟨blk, j * k, none⟩, by simp [h], fun t u hu => ?_⟩
   have ht : t < news.length := (List.getElem?_eq_some_iff.1 hu).1
   rw [hnews, List.getElem?_drop] at hu
   rw [Addr.add_lit]
   obtain ⟨h3, h4⟩ := List.getElem?_eq_some_iff.1 hu
   rw [← h4]
   exact (hH (j * k + t) h3).1
 have s1 : Hid (news.length = (n - j) * k) := hlen
 have s2 : Hid (∀ u ∈ news, u.oneCell' = true) := by
  intro u hu
  rw [hnews] at hu
  exact h1 u (List.mem_of_mem_drop hu)
 have hik : i * k + (n - j) * k ≤ n * k := by rw [← Nat.add_mul]; exact Nat.mul_le_mul_right k (by omega)
 have s3 : Hid (∀ t, t < news.length → (w.drew.cell? ⟨blk, 0 + i * k + t, none⟩).isSome = true ∧ w.drew.frozen? ⟨blk, 0 + i * k + t, none⟩ = false) := by
  intro t ht
  rw [hlen] at ht
  rw [Nat.zero_add]
  have h := hH (i * k + t) (by rw [hus]; omega)
  exact ⟨by show (w.cell? _).isSome = true; rw [h.1]; rfl, h.2⟩
 obtain ⟨W1, hW1⟩ : ∃ W1, W1 = w.drew.setCells blk (0 + i * k) news := ⟨_, rfl⟩
 have hcl : ∀ ty, (Builtin.clear_ #[ρ.t 22] ty #[.slice (some ⟨blk, (i + (n - j)) * k, none⟩) (n - (i + (n - j))) (cap - (i + (n - j)))]).run P W1 = .ok (.tuple #[]) (W1.setCells blk ((i + (n - j)) * k) (Builtin.zeroCells zs (n - (i + (n - j)))).toList) := by
  intro ty
  have hend : (i + (n - j)) * k + (n - (i + (n - j))) * k ≤ n * k := by rw [← Nat.add_mul]; exact Nat.mul_le_mul_right k (by omega)
  refine run_clear_wide W1 _ _ ty z zs t22 v23 hz (by omega) hz1 blk ((i + (n - j)) * k) _ _ (by omega) (fun t ht => ?_) (fun t ht => ?_)
  ·rw [hW1]
   refine World.isSome_setCells blk news _ _ _ ?_
   show (w.cell? _).isSome = true
   rw [hzk] at ht
   rw [(hH ((i + (n - j)) * k + t) (by rw [hus]; omega)).1]; rfl
  ·rw [hW1, World.frozen?_setCells]
   rw [hzk] at ht
   exact (hH ((i + (n - j)) * k + t) (by rw [hus]; omega)).2
 have hfin : W1.setCells blk ((i + (n - j)) * k) (Builtin.zeroCells zs (j - i)).toList = putRow id (Sort.ahead w 1) blk 0 (us.take (i * k) ++ us.drop (j * k) ++ (Builtin.zeroCells zs (j - i)).toList).toArray := by
  have hHo : Holds id (Sort.ahead w 1) blk 0 us.toArray := by
   intro t ht
   have ht' : t < us.length := by simpa using ht
   have := hH t ht'
   rw [Nat.zero_add, getElem!_pos _ t ht]
   exact this
  have e0 : w.drew = putRow id (Sort.ahead w 1) blk 0 us.toArray := (putRow_self id (Sort.ahead w 1) blk 0 us.toArray hHo).symm
  have hik0 : i * k ≤ us.length := by rw [hus]; exact Nat.mul_le_mul_right k (by omega)
  have hz2 : (Builtin.zeroCells zs (j - i)).toList.length = (j - i) * k := by rw [zeroCells_len, hzk]
  have e3 : (i + (n - j)) * k = i * k + (n - j) * k := Nat.add_mul _ _ _
  have e4 : i * k + (n - j) * k + (j - i) * k = n * k := by rw [← Nat.add_mul, ← Nat.add_mul]; congr 1; omega
  have l1 : i * k + news.length ≤ us.toArray.size := by rw [hlen, List.size_toArray, hus]; omega
  have l2 : (i + (n - j)) * k + (Builtin.zeroCells zs (j - i)).toList.length ≤ (setMany us.toArray (i * k) news).size := by rw [hz2, size_setMany, List.size_toArray, hus, e3]; omega
  have h5 := setCells_putRow (Sort.ahead w 1) blk 0 news (i * k) us.toArray l1
  have h6 := setCells_putRow (Sort.ahead w 1) blk 0 (Builtin.zeroCells zs (j - i)).toList ((i + (n - j)) * k) (setMany us.toArray (i * k) news) l2
  rw [Nat.zero_add] at h6
  rw [hW1, e0, h5, h6]
  congr 1
  apply Array.toList_inj.1
  rw [setMany_list _ _ _ l2, setMany_list _ _ _ l1, hz2]
  have hA : (us.toArray.toList.take (i * k) ++ news ++ us.toArray.toList.drop (i * k + news.length)).take ((i + (n - j)) * k) = us.take (i * k) ++ news := by
   rw [List.take_append_of_le_length (by simp; rw [hlen]; omega), List.take_of_length_le (by simp; rw [hlen]; omega)]
  have hB : (us.toArray.toList.take (i * k) ++ news ++ us.toArray.toList.drop (i * k + news.length)).drop ((i + (n - j)) * k + (j - i) * k) = [] := by
   apply List.drop_eq_nil_of_le
   simp
   rw [hlen]; omega
  rw [hA, hB, List.append_nil, hnews]
 have hW : Hid (W1 = w.drew.setCells blk (0 + i * k) news) := hW1
 have hic : i ≤ cap := by omega
 have hjc : j ≤ cap := by omega
 have X : Aside (W1.setCells blk ((i + (n - j)) * k) (Builtin.zeroCells zs (j - i)).toList = putRow id (Sort.ahead w 1) blk 0 (us.take (i * k) ++ us.drop (j * k) ++ (Builtin.zeroCells zs (j - i)).toList).toArray) := hfin
 have hne : ¬ i = j := by omega
 clear hfin hW1 hH hnews hlen hus h1 hjk hik
 obtain ⟨_, _, FG⟩ := L.f45
 go_enter FG, SlBodyN.n45_ntmps ρ
 go_wp2_with fail
 go_region_law_o (refine step_append_room rfl (.tmp 22) (.tmp 25) (ρ.t 22) rfl (ρ.t 23) i0 k t22 hi0 hi1 blk 0 i cap (by simp [Act.eval, Act.put]) A (n - j) (cap - j) news (by simp [Act.eval, Act.put]) s1.out hsrc.out s2.out (by omega) s3.out ?_; rw [← hW.out])
 go_wp2
 go_ret
 refine ⟨by rw [show n - (j - i) = i + (n - j) by omega]; rfl, ?_⟩
 rw [← X.out, show n - (i + (n - j)) = j - i by omega]
section
variable {P : Program} {C : Ctx} {L : Loops} {g : G} {H : Heap} {w : World}
theorem repL_nc {α : Type} {R : α → List Value → Prop} {k : Nat} (h1 : ∀ x cs, R x cs → cs.length = k) : ∀ {l : List α} {vs : List Value}, repL R l vs → vs.length = l.length * k
 | [], vs, h => by rw [show vs = [] from h]; simp
 | x :: l, vs, ⟨c1, c2, e, r1, r2⟩ => by
  rw [e, List.length_append, h1 _ _ r1, repL_nc h1 r2, List.length_cons, Nat.succ_mul, Nat.add_comm]
theorem repL_cutW {α : Type} {R : α → List Value → Prop} {k : Nat} (h1 : ∀ x cs, R x cs → cs.length = k) : ∀ {l : List α} {vs : List Value} (i : Nat), repL R l vs → repL R (l.take i) (vs.take (i * k)) ∧ repL R (l.drop i) (vs.drop (i * k))
 | l, vs, 0, h => ⟨by rw [Nat.zero_mul, List.take_zero, List.take_zero]; rfl, by rw [Nat.zero_mul, List.drop_zero, List.drop_zero]; exact h⟩
 | [], vs, i + 1, h => by rw [show vs = [] from h]; exact ⟨by rw [List.take_nil, List.take_nil]; rfl, by rw [List.drop_nil, List.drop_nil]; rfl⟩
 | x :: l, vs, i + 1, ⟨c1, c2, e, r1, r2⟩ => by
  have hc := h1 _ _ r1
  subst e
  obtain ⟨q1, q2⟩ := repL_cutW h1 i r2
  have e1 : (c1 ++ c2).take ((i + 1) * k) = c1 ++ c2.take (i * k) := by
   rw [Nat.succ_mul, List.take_append, List.take_of_length_le (by omega), hc, Nat.add_sub_cancel]
  have e2 : (c1 ++ c2).drop ((i + 1) * k) = c2.drop (i * k) := by
   rw [Nat.succ_mul, List.drop_append, List.drop_eq_nil_of_le (by omega), hc, Nat.add_sub_cancel, List.nil_append]
  rw [e1, e2]
  exact ⟨⟨c1, _, rfl, r1, q1⟩, q2⟩
theorem del_soundW {A : Ty} (hk0 : 0 < A.nc) {ρ : Ren} {ag : Bool} (hL : WLay P ρ ag A.nc) {z : Value} {zs : Array Value} (hzz : z.cells = zs) (hzk : zs.size = A.nc) (hzo : (zs.toList.all fun v => v.oneCell') = true) (hz : ∀ w, (zeroValue (ρ.t 23)).run P w = .ok z w) {i0 : TypeInfo} (hi0 : P.info? (ρ.t 23) = some i0) (hz1 : i0.size = A.nc)
  {kf : Nat} (hk : ρ.f 45 = kf) (henter : ∀ args w, (callFunc kf args).run P w = .ok (.enter kf args) w) : CSound P kf (CSpec.del A) ∧ CLocal (CSpec.del A) := by
 refine ⟨⟨henter, ?_⟩, del_local A⟩
 intro g H w vs rvs fr out hI hargs _ he
 simp only [CSpec.del] at he
 split at he
 ·rename_i e k u i j
  simp only [ents] at he
  split at he
  ·rename_i k' a l hes
   simp only [List.cons.injEq, and_true] at hes
   split at he
   ·rename_i hh
    subst hh
    split at he
    ·rename_i m hm
     have := castL_some hm
     simp only [Sigma.mk.injEq] at this
     obtain ⟨rfl, hml⟩ := this
     have hml := eq_of_heq hml
     subst hml
     obtain ⟨hp, he⟩ := Tr.chk_some he
     have := Tr.ret_some he
     subst this
     obtain ⟨i', j', hi', hj', hij, hj⟩ := nat_args (of_decide_eq_true hp)
     obtain ⟨r1, rs, rfl, hv1, r2, rs2, rfl, hv2, r3, rs3, rfl, hv3, hr4⟩ := hargs
     have hr4 : rs3 = [] := hr4
     subst hr4
     obtain ⟨rfl, _⟩ := TRep_int.1 ((VRep_v (by simp)).1 hv2)
     obtain ⟨rfl, _⟩ := TRep_int.1 ((VRep_v (by simp)).1 hv3)
     have hi' : i = (i' : Int) := hi'
     have hj' : j = (j' : Int) := hj'
     subst hi'; subst hj'
     have hE : getE H e = .vec k a l := hes
     have hlive : (getE H e).live = true := by rw [hE]; rfl
     have hent := hI.ent e
     rw [hE] at hent
     have hv := (VRep_v (by simp)).1 hv1
     simp only [TRep, Ty.agg, Ty.sk, Sk.agg, Bool.false_eq_true, if_false, Rep, G.vcr, hI.sh, hE, shp] at hv
     obtain ⟨_, _, hv⟩ := hv
     rcases hv trivial with ⟨_, h0, _⟩ | ⟨b, cap, hb, hsl, hcap, hcz⟩
     ·omega
     simp only [List.cons.injEq, and_true] at hsl
     subst hsl
     rcases hent with ⟨q1, _⟩ | ⟨b', cs, t, fz, us, r, q1, q2, q3, q4, q5, q6, q7⟩
     ·rw [hb] at q1; cases q1
     rw [hb] at q1
     cases q1
     have hlen := repL_nc (fun x cs h => Rep_length _ _ _ h) q6
     have hcel : ∀ v ∈ us, v.oneCell' = true := repL_cells (fun x cs h => Rep_cells a x cs h) q6
     have hH : ∀ t' (h : t' < us.length), w.cell? ⟨b, t', none⟩ = some us[t'] ∧ w.frozen? ⟨b, t', none⟩ = false := by
      intro t' ht2
      have hjc : t' < cs.size := by rw [← Array.length_toList, q5, List.length_append]; omega
      refine ⟨?_, ?_⟩
      ·simp only [World.cell?, q2, Option.isSome_none, Bool.false_eq_true, if_false]
       rw [Array.getElem?_eq_getElem hjc]
       have e1 : cs[t'] = cs.toList[t']'(by simpa using hjc) := (Array.getElem_toList (h := hjc)).symm
       rw [e1]
       simp only [q5]
       rw [List.getElem_append_left ht2]
      ·obtain ⟨lo, hi2⟩ := fz
       simp only [World.frozen?, q2]
       rcases q3 with h | h
       ·simp only at h
        simp; omega
       ·simp only at h
        simp; omega
     have hcon := wide_delete hL z zs hz hzz hzk hk0 (fun v hv => List.all_eq_true.1 hzo v hv) i0 hi0 hz1 b cap i' j' l.length us hlen hcel w hH hcap.1 hcap.2 hij hj
     rw [hk] at hcon
     refine hcon.mono ?_
     rintro ed w' ⟨rfl, rfl⟩
     have hI1 : HInv g H (Sort.ahead w 1) := hI.later (fun b o h => h) ⟨rfl, Nat.le_add_right _ _⟩
     have q2' : (Sort.ahead w 1).heap[b]? = some (.cells cs t fz) := q2
     have hle1 : j' * a.nc ≤ l.length * a.nc := Nat.mul_le_mul_right _ hj
     have hle2 : i' * a.nc ≤ j' * a.nc := Nat.mul_le_mul_right _ (Nat.le_of_lt hij)
     have hzl : (Builtin.zeroCells zs (j' - i')).toList.length = (j' - i') * a.nc := by rw [zeroCells_len, hzk]
     have hsub : (j' - i') * a.nc = j' * a.nc - i' * a.nc := Nat.sub_mul _ _ _
     generalize hF : (us.take (i' * a.nc) ++ us.drop (j' * a.nc) ++ (Builtin.zeroCells zs (j' - i')).toList) = F
     have hFl : F.length = us.length := by rw [← hF, hlen]; simp only [List.length_append, List.length_take, List.length_drop, hzl, hlen]; omega
     rw [setRow_put q2']
     have hFs : (F.toArray).size = us.length := by simp [hFl]
     have hcs' := putCells_list (F := F.toArray) q5 hFs
     have hsize : (putCells id 0 F.toArray cs).size = cs.size := by simp [putCells]
     obtain ⟨a1, a2⟩ := repL_cutW (fun x cs h => Rep_length _ _ _ h) i' q6
     obtain ⟨a3, a4⟩ := repL_cutW (fun x cs h => Rep_length _ _ _ h) j' q6
     obtain ⟨g', w1, w2, w3, w4, w5⟩ := hI1.setVec (k' := k + 1) (l' := cutL l i' j') (vs := us.take (i' * a.nc) ++ us.drop (j' * a.nc)) (r := (Builtin.zeroCells zs (j' - i')).toList ++ r) hE hb q2' (by rw [hsize]; exact q4) (by unfold thawed at q3 ⊢; rw [hsize]; exact q3) (.inl (Nat.lt_succ_self k))
      (by rw [hcs', ← List.append_assoc, ← hF]) (repL_app a1 a4) (fun v hv => by
       rcases List.mem_append.1 hv with hv | hv
       ·exact zeroCells_one (by omega) (fun v hv => List.all_eq_true.1 hzo v hv) v hv
       ·exact q7 v hv)
     have hcl : (cutL l i' j').length = l.length - (j' - i') := by unfold cutL; simp; omega
     refine ⟨_, g', rfl, w1, w2, (VRep_v (by simp)).2 (TRep_of_leaf rfl ?_)⟩
     simp only [Rep, G.vcr, w3]
     refine ⟨⟨_, rfl, rfl⟩, Nat.le_refl _, fun _ => .inr ⟨b, cap, w4, by rw [hcl], ⟨by omega, hcap.2⟩, by rw [w5]; exact hcz⟩⟩
    ·exact (Tr.fail_some he).elim
   ·exact (Tr.fail_some he).elim
  ·exact (Tr.fail_some he).elim
 ·exact (Tr.fail_some he).elim
end
end Vse
end
section
set_option linter.unusedVariables false
set_option linter.unusedSimpArgs false
set_option maxRecDepth 100000
namespace Go.Proofs.Ytffdkniccaebmaa.Bok
open Go Vse Go.Proofs Gen
open Jnl (enterF)
def samee (a b : List En) : Bool := eqList (eqT tEnt) a b
theorem samee_iff (a b : List En) : samee a b = true ↔ a = b := by
 induction a generalizing b with
 | nil => cases b with
  | nil => exact ⟨fun _ => rfl, fun _ => rfl⟩
  | cons y b => exact ⟨fun h => (by cases h), fun h => (by cases h)⟩
 | cons x a ih => cases b with
  | nil => exact ⟨fun h => (by cases h), fun h => (by cases h)⟩
  | cons y b =>
   have e : samee (x :: a) (y :: b) = (eqT tEnt x y && samee a b) := rfl
   rw [e, Bool.and_eq_true, ih, eqT_iff tEnt x y (by decide), List.cons.injEq]
def samew (a b : List (List Int)) : Bool := eqList (eqT w16) a b
theorem samew_iff (a b : List (List Int)) : samew a b = true ↔ a = b := by
 induction a generalizing b with
 | nil => cases b with
  | nil => exact ⟨fun _ => rfl, fun _ => rfl⟩
  | cons y b => exact ⟨fun h => (by cases h), fun h => (by cases h)⟩
 | cons x a ih => cases b with
  | nil => exact ⟨fun h => (by cases h), fun h => (by cases h)⟩
  | cons y b =>
   have e : samew (x :: a) (y :: b) = (eqT w16 x y && samew a b) := rfl
   rw [e, Bool.and_eq_true, ih, eqT_iff w16 x y (by decide), List.cons.injEq]
def cloe_ren : Go.Shelf.Ren := ⟨fun | 41 => 114 | n => n, fun | 22 => 105 | 23 => 182 | 4 => 4 | n => n, fun | n => n⟩
theorem cloe : Go.Proofs.SlLaysE0.n41 Try.prog cloe_ren := {
 mixed := by kernel_rfl
 f41 := ⟨Try.f114.name, by decide, Try.func114.trans (congrArg some (by kernel_rfl))⟩
 t4 := Try.underlying4
 a4 := Try.isAgg4
 z4 := Try.sizeOf4
 v4 := Try.zeroValue4
 t22 := Try.underlying105
 a22 := Try.isAgg105
 z22 := Try.sizeOf105
 v22 := Try.zeroValue105 }
abbrev nCe : PSpec := ⟨[.imm false true tEnt], [.vc 0 0], [], [.vec 0 tEnt], []⟩
theorem tCe (l : List En) : (fnP Try.prog (ctx []) L0 nCe Try.f114 (l, ()) ()).eval = (Tr.chk (Vse.room (0 + l.length) 32) (.ret (((), ()), (l, ()))) : Tr nCe.Out).eval := by kernel_rfl
def okCe (l : List En) : Bool := decide (l.length ≤ 1000000000000)
def sCe : CSpec := .cloneO tEnt okCe
def sPe (q : List En → Bool) : CSpec := .pos nCe (fun xs _ => q xs.1) fun xs _ => (((), ()), (xs.1, ()))
def clow_ren : Go.Shelf.Ren := ⟨fun | 41 => 115 | n => n, fun | 22 => 30 | 23 => 36 | 4 => 4 | n => n, fun | n => n⟩
theorem clow : Go.Proofs.SlLaysE0.n41 Try.prog clow_ren := {
 mixed := by kernel_rfl
 f41 := ⟨Try.f115.name, by decide, Try.func115.trans (congrArg some (by kernel_rfl))⟩
 t4 := Try.underlying4
 a4 := Try.isAgg4
 z4 := Try.sizeOf4
 v4 := Try.zeroValue4
 t22 := Try.underlying30
 a22 := Try.isAgg30
 z22 := Try.sizeOf30
 v22 := Try.zeroValue30 }
abbrev nCw : PSpec := ⟨[.imm false true w16], [.vc 0 0], [], [.vec 0 w16], []⟩
theorem tCw (l : List (List Int)) : (fnP Try.prog (ctx []) L0 nCw Try.f115 (l, ()) ()).eval = (Tr.chk (Vse.room (0 + l.length) 16) (.ret (((), ()), (l, ()))) : Tr nCw.Out).eval := by kernel_rfl
def okCw (l : List (List Int)) : Bool := decide (l.length ≤ 1000000000000)
def sCw : CSpec := .cloneO w16 okCw
def sPw (q : List (List Int) → Bool) : CSpec := .pos nCw (fun xs _ => q xs.1) fun xs _ => (((), ()), (xs.1, ()))
theorem kCe (q : List En → Bool) (p : Bool) (l : List En) (fr : Nat) : ((sPe q).core [.v (.imm p true tEnt) l] [] fr).eval = (Tr.chk (q l) (.ret (.v (.vc fr 0) (), [(fr, .vec 0 tEnt l)]))).eval := by
 have h : ∀ p, (sPe q).core [.v (.imm p true tEnt) l] [] fr = .chk (q l) (posOut nCe [] [] [fr] (putE [] []) fr (((), ()), (l, ()))) := fun p => by cases p <;> kernel_rfl
 rw [h]
 have e : posOut nCe [] [] [fr] (putE [] []) fr (((), ()), (l, ())) = .ret (.v (.vc fr 0) (), [(fr, .vec 0 tEnt l)]) := by
  unfold posOut
  simp [PSpec.news, rnOut, idxOf, nodupI, mem, turned, backV, backE, conv, Ty.rnT, ofHL, encH, getE, genY, liveY, genE, turned, Entry.inn, AV.inn, Ty.inn]
 rw [e]
theorem okPe : CSound Try.prog 114 (sPe okCe) :=
 (pos_sound (L := L0) nil_sound Try.func114 (by kernel_rfl) (noLoopsL (by kernel_rfl)) fun xs hs hx hh hp => by
  obtain ⟨l, u⟩ := xs
  have hp : List.length (α := En) l ≤ 1000000000000 := of_decide_eq_true hp
  exact (tCe l).trans (chk_eval (by simp only [Vse.room, decide_eq_true_eq]; omega) _)).1
theorem iCe (q : List En → Bool) (p : Bool) (l : List En) (H : Heap) : (sPe q).ids [.v (.imm p true tEnt) l] H = [] := by cases p <;> kernel_rfl
theorem nilCe (n c : Nat) (w : World) : Calls Try.prog 114 #[.slice none n c] w fun e w' => e = .returned (.slice none 0 0) ∧ w' = w := AnyE.slices_Clone_nil cloe n c w
theorem newCe : (sPe okCe).new = 1 := by kernel_rfl
theorem okCeS : CSound Try.prog 114 sCe ∧ CLocal sCe :=
 cloneO_sound (c := sPe okCe) okPe newCe (iCe _) (fun p l fr hp => (kCe okCe p l fr).trans (chk_eval hp _)) nilCe
theorem kCw (q : List (List Int) → Bool) (p : Bool) (l : List (List Int)) (fr : Nat) : ((sPw q).core [.v (.imm p true w16) l] [] fr).eval = (Tr.chk (q l) (.ret (.v (.vc fr 0) (), [(fr, .vec 0 w16 l)]))).eval := by
 have h : ∀ p, (sPw q).core [.v (.imm p true w16) l] [] fr = .chk (q l) (posOut nCw [] [] [fr] (putE [] []) fr (((), ()), (l, ()))) := fun p => by cases p <;> kernel_rfl
 rw [h]
 have e : posOut nCw [] [] [fr] (putE [] []) fr (((), ()), (l, ())) = .ret (.v (.vc fr 0) (), [(fr, .vec 0 w16 l)]) := by
  unfold posOut
  simp [PSpec.news, rnOut, idxOf, nodupI, mem, turned, backV, backE, conv, Ty.rnT, ofHL, encH, getE, genY, liveY, genE, turned, Entry.inn, AV.inn, Ty.inn]
 rw [e]
theorem okPw : CSound Try.prog 115 (sPw okCw) :=
 (pos_sound (L := L0) nil_sound Try.func115 (by kernel_rfl) (noLoopsL (by kernel_rfl)) fun xs hs hx hh hp => by
  obtain ⟨l, u⟩ := xs
  have hp : List.length (α := (List Int)) l ≤ 1000000000000 := of_decide_eq_true hp
  exact (tCw l).trans (chk_eval (by simp only [Vse.room, decide_eq_true_eq]; omega) _)).1
theorem iCw (q : List (List Int) → Bool) (p : Bool) (l : List (List Int)) (H : Heap) : (sPw q).ids [.v (.imm p true w16) l] H = [] := by cases p <;> kernel_rfl
theorem nilCw (n c : Nat) (w : World) : Calls Try.prog 115 #[.slice none n c] w fun e w' => e = .returned (.slice none 0 0) ∧ w' = w := AnyE.slices_Clone_nil clow n c w
theorem newCw : (sPw okCw).new = 1 := by kernel_rfl
theorem okCwS : CSound Try.prog 115 sCw ∧ CLocal sCw :=
 cloneO_sound (c := sPw okCw) okPw newCw (iCw _) (fun p l fr hp => (kCw okCw p l fr).trans (chk_eval hp _)) nilCw
def delE_ren : Go.Shelf.Ren := ⟨fun | 45 => 116 | n => n, fun | 22 => 105 | 23 => 182 | 3 => 3 | 4 => 4 | 0 => 0 | n => n, fun | n => n⟩
theorem delE : WLay Try.prog delE_ren true 17 := {
 mixed := by kernel_rfl
 f45 := ⟨Try.f116.name, by decide, Try.func116.trans (congrArg some (by kernel_rfl))⟩
 t0 := Try.underlying0
 a0 := Try.isAgg0
 z0 := Try.sizeOf0
 v0 := Try.zeroValue0
 t3 := Try.underlying3
 a3 := Try.isAgg3
 z3 := Try.sizeOf3
 v3 := Try.zeroValue3
 t4 := Try.underlying4
 a4 := Try.isAgg4
 z4 := Try.sizeOf4
 v4 := Try.zeroValue4
 t22 := Try.underlying105
 a22 := Try.isAgg105
 z22 := Try.sizeOf105
 v22 := Try.zeroValue105
 a23 := Try.isAgg182
 z23 := Try.sizeOf182 }
theorem okDel : CSound Try.prog 116 (CSpec.del tEnt) ∧ CLocal (CSpec.del tEnt) :=
 del_soundW (A := tEnt) (by decide) delE (zs := #[.string ⟨#[]⟩] ++ Array.replicate 16 (.int .u8 0)) rfl rfl (by kernel_rfl) (fun w => Try.zeroValue182 w) rfl rfl rfl (fun a w => enterF Try.func116 (by kernel_rfl) a w)
end Go.Proofs.Ytffdkniccaebmaa.Bok
end
section
set_option linter.unusedVariables false
set_option linter.unusedSimpArgs false
set_option maxRecDepth 100000
namespace Go.Proofs.Ytffdkniccaebmaa.Bok
open Go Vse Go.Proofs Gen
abbrev lw : Ty := .imm false false w16
def SIx : RSpec := ⟨[0, 3, 7, 8], 19, [lw, .ptr 0 [], i64, i64], [.box w16], [.box w16], [], fun x => match x with | .ret => ([4], [i64], [.box w16]) | _ => ([], [], [.box w16])⟩
noncomputable def bIx : Code := loopAt Try.f110 0
def GIx (l : List (List Int)) (s : List Int) (n i : Int) : Tr SIx.End :=
 .ite (decide (i < n)) (.chk (inArr i l.length) (.ite (eqT w16 s (l.getD i.toNat (dflt w16))) (.ret (.inr (.ret, encS [4] [i64] [.box w16] 19 (i, ()) (s, ())))) (.ret (.inl ((l, (), n, w (i + 1), ()), (s, ()))))))
  (.ret (.inr (.exit 0, encS [] [] [.box w16] 19 () (s, ()))))
theorem rIx (l : List (List Int)) (s : List Int) (n i : Int) : (SIx.round (bodyK Try.prog (ctx []) L0 bIx) (l, (), n, i, ()) (s, ())).eval = (GIx l s n i).eval := by kernel_rfl
def hasW (l : List (List Int)) (s : List Int) : Bool := l.any fun b => eqT w16 s b
def idxW (l : List (List Int)) (s : List Int) : Int := if hasW l s = true then (l.findIdx fun b => eqT w16 s b : Nat) else -1
theorem mIx (s : List Int) (l : List (List Int)) (hl : l.length ≤ 9223372036854775807) : ∀ (m k : Nat), k + m = l.length →
  SIx.many (bodyK Try.prog (ctx []) L0 bIx) (m + 1) (l, (), (l.length : Int), (k : Int), ()) (s, ()) = if hasW (l.drop k) s = true then some (.ret, encS [4] [i64] [.box w16] 19 (((k + (l.drop k).findIdx fun b => eqT w16 s b : Nat) : Int), ()) (s, ())) else some (.exit 0, encS [] [] [.box w16] 19 () (s, ()))
 | 0, k, h => by
  have e1 : l.drop k = [] := List.drop_eq_nil_of_le (by omega)
  rw [e1, if_neg (by simp [hasW])]
  refine rmany_inr ((rIx l s _ _).trans ?_) 0
  unfold GIx
  rw [ite_f (decide_eq_false (by omega))]
  rfl
 | m + 1, k, h => by
  have h1 : k < l.length := by omega
  have e2 : (l.drop k) = l[k] :: l.drop (k + 1) := List.drop_eq_getElem_cons h1
  cases hq : eqT w16 s l[k] with
  | true =>
   have e3 : hasW (l.drop k) s = true := by simp only [hasW, e2, List.any_cons, hq, Bool.true_or]
   have e4 : ((l.drop k).findIdx fun b => eqT w16 s b) = 0 := by rw [e2, List.findIdx_cons, hq]; rfl
   rw [if_pos e3, e4]
   refine rmany_inr ((rIx l s _ _).trans ?_) _
   unfold GIx
   rw [Int.toNat_natCast, ite_t (decide_eq_true (by omega)), chk_eval (inArr_of h1), getD_of h1, ite_t hq]
   rfl
  | false =>
   have e3 : hasW (l.drop k) s = hasW (l.drop (k + 1)) s := by simp only [hasW, e2, List.any_cons, hq, Bool.false_or]
   have e4 : k + ((l.drop k).findIdx fun b => eqT w16 s b) = k + 1 + (l.drop (k + 1)).findIdx fun b => eqT w16 s b := by rw [e2, List.findIdx_cons, hq]; simp only [cond_false]; omega
   rw [e3, e4]
   refine (rmany_inl (d := ((l, (), (l.length : Int), ((k + 1 : Nat) : Int), ()), (s, ()))) ((rIx l s _ _).trans ?_) (m + 1)).trans (mIx s l hl m (k + 1) (by omega))
   unfold GIx
   rw [Int.toNat_natCast, ite_t (decide_eq_true (by omega)), chk_eval (inArr_of h1), getD_of h1, ite_f hq, w_succ h1 hl]
   rfl
abbrev Cix := List (List Int) → Int → Int → Bool
abbrev Hw := List (List Int) → List Int → Bool
abbrev Iw := List (List Int) → List Int → Int
def cIx : Cix := fun l n i => decide (l.length ≤ 9223372036854775807) && (decide (n = (l.length : Int)) && decide (i = 0))
def FIx (c : Cix) (h : Hw) (ix : Iw) (xs : HL SIx.Ts) (hs : HD SIx.Es) : Tr (Ex × St) :=
 .chk (c xs.1 xs.2.2.1 xs.2.2.2.1) (.ite (h xs.1 hs.1) (.ret (.ret, encS [4] [i64] [.box w16] 19 (ix xs.1 hs.1, ()) hs)) (.ret (.exit 0, encS [] [] [.box w16] 19 () hs)))
def LIx (c : Cix) (h : Hw) (ix : Iw) : Loops := fun j st => if j = 2 then SIx.fn (FIx c h ix) st else .fail
theorem lIx : LoopOK Try.prog (LIx cIx hasW idxW) bIx :=
 rloop_ok (L := LIx cIx hasW idxW) (L' := L0) nil_sound (loopsOK_of (by kernel_rfl)) SIx (F := FIx cIx hasW idxW) (i := 2) (by kernel_rfl) (fun _ => rfl) fun xs hs q h => by
  obtain ⟨l, u1, n, i, u⟩ := xs
  obtain ⟨s, u2⟩ := hs
  obtain ⟨h1, h2⟩ := Tr.chk_some h
  simp only [cIx, Bool.and_eq_true, decide_eq_true_eq] at h1
  obtain ⟨hl, e1, e2⟩ := h1
  have e1 : n = (List.length (α := List Int) l : Int) := e1
  have e2 : i = ((0 : Nat) : Int) := e2
  subst e1; subst e2
  refine ⟨List.length (α := List Int) l + 1, ?_⟩
  have := mIx s l hl (List.length (α := List Int) l) 0 (by omega)
  rw [List.drop_zero, Nat.zero_add] at this
  refine this.trans ?_
  rcases Tr.ite_some h2 with ⟨hx, h3⟩ | ⟨hx, h3⟩
  ·have hx : hasW l s = true := hx
   have := Tr.ret_some h3
   subst this
   rw [if_pos hx]
   simp only [idxW, if_pos hx]
  ·have hx : hasW l s = false := hx
   have := Tr.ret_some h3
   subst this
   rw [if_neg (by rw [hx]; simp)]
def sIx (ix : Iw) : CSpec := .slp1 [lw, w16] (fun _ => true) i64 fun x => ix x.1 x.2.1
def TIx (c : Cix) (h : Hw) (ix : Iw) (l : List (List Int)) (s : List Int) : Tr AV := .chk (c l (l.length : Int) 0) (.ite (h l s) (.ret (.v i64 (ix l s))) (.ret (.v i64 (-1))))
theorem tIx (c : Cix) (h : Hw) (ix : Iw) (l : List (List Int)) (s : List Int) : nrm (fnS Try.prog (ctx []) (LIx c h ix) [i64] Try.f110 (mkArgs [lw, w16] (l, s, ()))) = (TIx c h ix l s).eval := by kernel_rfl
theorem okIx : CSound Try.prog 110 (sIx idxW) ∧ CLocal (sIx idxW) :=
 slpE1 (L := LIx cIx hasW idxW) nil_sound Try.func110 (by kernel_rfl) (loops1 (by kernel_rfl) lIx) fun xs hx hp => by
  obtain ⟨l, s, u⟩ := xs
  have hl : List.length (α := List Int) l ≤ 9223372036854775807 := hx.1.1
  refine (tIx cIx hasW idxW l s).trans ?_
  show _ = some (AV.v i64 (idxW l s))
  unfold TIx
  rw [chk_eval (by unfold cIx; rw [decide_eq_true hl]; simp)]
  cases hq : hasW l s with
  | true => rw [ite_t rfl]; rfl
  | false => rw [ite_f rfl]; unfold idxW; rw [if_neg (by rw [hq]; simp)]; rfl
def sCt (h : Hw) : CSpec := .slp1 [lw, w16] (fun _ => true) .bool fun x => h x.1 x.2.1
theorem tCt (ix : Iw) (l : List (List Int)) (s : List Int) : nrm (fnS Try.prog (ctx [(110, sIx ix)]) L0 [.bool] Try.f79 (mkArgs [lw, w16] (l, s, ()))) = some (.v .bool (decide (ix l s ≥ 0))) := by kernel_rfl
theorem idxW_has (l : List (List Int)) (s : List Int) : decide (idxW l s ≥ 0) = hasW l s := by
 unfold idxW
 cases hasW l s with
 | true => rw [if_pos rfl]; exact decide_eq_true (by omega)
 | false => rw [if_neg (by simp)]; rfl
theorem okCt : CSound Try.prog 79 (sCt hasW) ∧ CLocal (sCt hasW) :=
 slpE1 (L := L0) (C := ctx [(110, sIx idxW)]) (ctx_sound ⟨okIx, trivial⟩) Try.func79 (by kernel_rfl) (noLoopsL (by kernel_rfl)) fun xs hx hp => by
  obtain ⟨l, s, u⟩ := xs
  exact (tCt idxW l s).trans (by rw [idxW_has])
abbrev nDd : PSpec := ⟨[tBl, w16], [.bool], [], [], []⟩
def sDd (h : Hw) : CSpec := .pos nDd (fun _ _ => true) fun xs _ => ((h xs.1.2.1 xs.2.1, ()), ())
theorem tDd (h : Hw) (b : Bk) (s : List Int) : (fnP Try.prog (ctx [(79, sCt h)]) L0 nDd Try.f65 (b, s, ()) ()).eval = (.ret ((h b.2.1 s, ()), ()) : Tr nDd.Out).eval := by kernel_rfl
theorem okDd : CSound Try.prog 65 (sDd hasW) ∧ CLocal (sDd hasW) :=
 pos_sound (L := L0) (C := ctx [(79, sCt hasW)]) (ctx_sound ⟨okCt, trivial⟩) Try.func65 (by kernel_rfl) (noLoopsL (by kernel_rfl)) fun xs hs hx hh hp => tDd hasW xs.1 xs.2.1
abbrev tBo (l r k : Nat) : Ty := .prod (.vc l k) (.prod (.vc r k) (.prod i64 (.prod w16 .unit)))
abbrev bE (k : Nat) : List ETy := [.vec k tEnt, .vec k w16]
abbrev nCo : PSpec := ⟨[tBl], [tBo 0 1 0], [], bE 0, []⟩
def cCo (pe : List En → Bool) (pw : List (List Int) → Bool) : List (Nat × CSpec) := [(114, .cloneO tEnt pe), (115, .cloneO w16 pw)]
theorem tCo (pe : List En → Bool) (pw : List (List Int) → Bool) (b : Bk) :
  (fnP Try.prog (ctx (cCo pe pw)) L0 nCo Try.f101 (b, ()) ()).eval = (.chk (pe b.1) (.chk (pw b.2.1) (.ret ((((), (), b.2.2.1, b.2.2.2.1, ()), ()), (b.1, b.2.1, ())))) : Tr nCo.Out).eval := by kernel_rfl
def okB (b : Bk) : Bool := decide (b.1.length ≤ 1000000) && decide (b.2.1.length ≤ 1000000)
def sCo (p : Bk → Bool) : CSpec := .pos nCo (fun xs _ => p xs.1) fun xs _ => ((((), (), xs.1.2.2.1, xs.1.2.2.2.1, ()), ()), (xs.1.1, xs.1.2.1, ()))
theorem okCo : CSound Try.prog 101 (sCo okB) ∧ CLocal (sCo okB) :=
 pos_sound (L := L0) (C := ctx (cCo okCe okCw)) (ctx_sound ⟨okCeS, okCwS, trivial⟩) Try.func101 (by kernel_rfl) (noLoopsL (by kernel_rfl)) fun xs hs hx hh hp => by
  obtain ⟨b, u⟩ := xs
  have hp : okB b = true := hp
  unfold okB at hp
  simp only [Bool.and_eq_true, decide_eq_true_eq] at hp
  refine (tCo okCe okCw b).trans ?_
  rw [chk_eval (show okCe b.1 = true from decide_eq_true (by omega)), chk_eval (show okCw b.2.1 = true from decide_eq_true (by omega))]
  rfl
end Go.Proofs.Ytffdkniccaebmaa.Bok
end
section
set_option linter.unusedVariables false
set_option linter.unusedSimpArgs false
set_option maxRecDepth 100000
namespace Go.Proofs.Ytffdkniccaebmaa.Bok
open Go Vse Go.Proofs Gen
abbrev tOp : Ty := .prod i64 (.prod .str (.prod w16 (.prod i64 .unit)))
abbrev Op := Int × ByteArray × List Int × Int × Unit
abbrev bX (k : Nat) : List ETy := [.box (tBo 1 2 k), .vec k tEnt, .vec k w16]
abbrev nDn : PSpec := ⟨[.ptr 0 [], tOp], [i64], bX 0, bX 1, []⟩
abbrev Ie := List En → ByteArray → Int
def cDn (ix : Ie) (hd : Hw) : List (Nat × CSpec) := [(106, sFi ix), (65, sDd hd), (116, .del tEnt)]
def hdB (b : Bk) : HD (bX 0) := (((), (), b.2.2.1, b.2.2.2.1, ()), b.1, b.2.1, ())
def kyF (L : List En) (i : Int) (key : List Int) : List En := L.set i.toNat ((L.getD i.toNat (dflt tEnt)).1, key, ())
def GDn (ix : Ie) (hd : Hw) (b : Bk) (x : Op) : Tr (Int × Bk) :=
 let i := ix b.1 x.2.1
 let R (e : Int) (L : List En) (r : List (List Int)) (g : Int) (o : List Int) : Tr (Int × Bk) := .ret (e, L, r, g, o, ())
 let N (e : Int) : Tr (Int × Bk) := R e b.1 b.2.1 b.2.2.1 b.2.2.2.1
 let m5 : Tr (Int × Bk) := .ite (x.1 == 5) (.ite (decide (x.2.2.2.1 ≤ b.2.2.1)) (N 5) (R 0 b.1 b.2.1 x.2.2.2.1 x.2.2.1)) (N 0)
 let m4 : Tr (Int × Bk) := .ite (x.1 == 4) (.ite (hd b.2.1 x.2.2.1) (N 5) (.ite ((b.2.1.length : Int) == 200) (N 7) (.chk (Vse.room (b.2.1.length + 1) 16) (R 0 b.1 (b.2.1 ++ [x.2.2.1]) b.2.2.1 b.2.2.2.1)))) m5
 let K := kyF b.1 i x.2.2.1
 let m23 : Tr (Int × Bk) := .ite (decide (i < 0)) (N 4) (.chk (inArr i b.1.length) (.ite (x.1 == 2) (.chk (decide (0 ≤ i ∧ i < w (i + 1) ∧ w (i + 1) ≤ (K.length : Int))) (R 0 (cutL K i.toNat (w (i + 1)).toNat) b.2.1 b.2.2.1 b.2.2.2.1))
  (R 0 K b.2.1 b.2.2.1 b.2.2.2.1)))
 .ite (x.1 == 1) (.ite (decide (i ≥ 0)) (N 5) (.ite ((b.1.length : Int) == 50) (N 7) (.chk (Vse.room (b.1.length + 1) 32) (R 0 (b.1 ++ [(x.2.1, x.2.2.1, ())]) b.2.1 b.2.2.1 b.2.2.2.1)))) (.ite (x.1 == 2) (.ite (x.1 == 2) m23 m4) (.ite (x.1 == 3) m23 m4))
theorem tDn (ix : Ie) (hd : Hw) (b : Bk) (x : Op) : (fnP Try.prog (ctx (cDn ix hd)) L0 nDn Try.f102 ((), x, ()) (hdB b)).eval = ((GDn ix hd b x).bind fun r => (.ret ((r.1, ()), hdB r.2) : Tr nDn.Out)).eval := by kernel_rfl
end Go.Proofs.Ytffdkniccaebmaa.Bok
end
section
set_option linter.unusedVariables false
set_option linter.unusedSimpArgs false
set_option maxRecDepth 100000
namespace Go.Proofs.Ytffdkniccaebmaa.Bok
open Go Vse Go.Proofs Gen
def doneF (x : Op) (b : Bk) : Int × Bk :=
 if x.1 = 1 then (if hasE b.1 x.2.1 = true then (5, b) else if b.1.length = 50 then (7, b) else (0, b.1 ++ [(x.2.1, x.2.2.1, ())], b.2))
 else if x.1 = 2 then (if hasE b.1 x.2.1 = true then (0, b.1.take (b.1.findIdx fun e => e.1 == x.2.1) ++ b.1.drop ((b.1.findIdx fun e => e.1 == x.2.1) + 1), b.2) else (4, b))
 else if x.1 = 3 then (if hasE b.1 x.2.1 = true then (0, b.1.set (b.1.findIdx fun e => e.1 == x.2.1) (x.2.1, x.2.2.1, ()), b.2) else (4, b))
 else if x.1 = 4 then (if hasW b.2.1 x.2.2.1 = true then (5, b) else if b.2.1.length = 200 then (7, b) else (0, b.1, b.2.1 ++ [x.2.2.1], b.2.2))
 else if x.1 = 5 then (if x.2.2.2.1 ≤ b.2.2.1 then (5, b) else (0, b.1, b.2.1, x.2.2.2.1, x.2.2.1, ()))
 else (0, b)
theorem has_at {l : List En} {s : ByteArray} (h : hasE l s = true) : ∃ (hk : (l.findIdx fun e => e.1 == s) < l.length), l[l.findIdx fun e => e.1 == s].1 = s := by
 obtain ⟨h1, h2⟩ := find_has (l := l) (s := s) h
 refine ⟨h1, ?_⟩
 have := List.find?_some h2
 exact (MapKept.bytes_beq _ _).1 this
theorem ky_eq {l : List En} {s : ByteArray} {key : List Int} (h : hasE l s = true) : kyF l (idxE l s) key = l.set (l.findIdx fun e => e.1 == s) (s, key, ()) := by
 obtain ⟨h1, h2⟩ := has_at h
 have e : idxE l s = ((l.findIdx fun e => e.1 == s : Nat) : Int) := if_pos h
 unfold kyF
 rw [e, Int.toNat_natCast, getD_of h1, h2]
theorem cut_set {l : List En} (k : Nat) (x : En) : cutL (l.set k x) k (k + 1) = l.take k ++ l.drop (k + 1) := by
 unfold cutL
 rw [List.take_set_of_le (Nat.le_refl _), List.drop_set_of_lt (Nat.lt_succ_self k)]
theorem GDn_eq (x : Op) (b : Bk) (hb : okB b = true) : (GDn idxE hasW b x).eval = some (doneF x b) := by
 unfold okB at hb
 simp only [Bool.and_eq_true, decide_eq_true_eq] at hb
 obtain ⟨L, r, g, o, u⟩ := b
 obtain ⟨k, s, key, n, u'⟩ := x
 have hL : L.length ≤ 1000000 := hb.1
 have hr : r.length ≤ 1000000 := hb.2
 have m23 : ∀ {α : Type} (a c : Tr α) (d : Int → Tr α), hasE L s = true → True := fun _ _ _ _ => trivial
 have hi : hasE L s = true → idxE L s = ((L.findIdx fun e => e.1 == s : Nat) : Int) := fun h => if_pos h
 have hn : hasE L s = false → idxE L s = -1 := fun h => if_neg (by rw [h]; simp)
 unfold GDn doneF
 dsimp only
 by_cases h1 : k = 1
 ·rw [ite_t (by simp [h1]), if_pos h1]
  cases hq : hasE L s with
  | true => rw [hi hq, ite_t (decide_eq_true (by omega)), if_pos rfl]; rfl
  | false =>
   rw [hn hq, ite_f (by decide), if_neg (by simp)]
   by_cases h5 : L.length = 50
   ·rw [ite_t (by simp [h5]), if_pos h5]; rfl
   ·rw [ite_f (by simp; omega), if_neg h5, chk_eval (by simp only [Vse.room, decide_eq_true_eq]; omega)]; rfl
 rw [ite_f (by simp [h1]), if_neg h1]
 by_cases h2 : k = 2
 ·rw [ite_t (by simp [h2]), ite_t (by simp [h2]), if_pos h2]
  cases hq : hasE L s with
  | false => rw [hn hq, ite_t (by decide), if_neg (by simp)]; rfl
  | true =>
   obtain ⟨a1, a2⟩ := has_at hq
   have hky := ky_eq (key := key) hq
   rw [hky, hi hq, ite_f (decide_eq_false (by omega)), chk_eval (inArr_of a1), ite_t (by simp [h2]), w_succ a1 (by omega), chk_eval (by rw [List.length_set]; exact decide_eq_true (by omega)), if_pos rfl, Int.toNat_natCast, Int.toNat_natCast, cut_set]
   rfl
 rw [ite_f (by simp [h2]), if_neg h2]
 by_cases h3 : k = 3
 ·rw [ite_t (by simp [h3]), if_pos h3]
  cases hq : hasE L s with
  | false => rw [hn hq, ite_t (by decide), if_neg (by simp)]; rfl
  | true =>
   obtain ⟨a1, a2⟩ := has_at hq
   have hky := ky_eq (key := key) hq
   rw [hky, hi hq, ite_f (decide_eq_false (by omega)), chk_eval (inArr_of a1), ite_f (by simp [h2]), if_pos rfl]
   rfl
 rw [ite_f (by simp [h3]), if_neg h3]
 by_cases h4 : k = 4
 ·rw [ite_t (by simp [h4]), if_pos h4]
  cases hq : hasW r key with
  | true => rw [ite_t rfl, if_pos rfl]; rfl
  | false =>
   rw [ite_f rfl, if_neg (by simp)]
   by_cases h5 : r.length = 200
   ·rw [ite_t (by simp [h5]), if_pos h5]; rfl
   ·rw [ite_f (by simp; omega), if_neg h5, chk_eval (by simp only [Vse.room, decide_eq_true_eq]; omega)]; rfl
 rw [ite_f (by simp [h4]), if_neg h4]
 by_cases h5 : k = 5
 ·rw [ite_t (by simp [h5]), if_pos h5]
  by_cases h6 : n ≤ g
  ·rw [ite_t (decide_eq_true h6), if_pos h6]; rfl
  ·rw [ite_f (decide_eq_false h6), if_neg h6]; rfl
 ·rw [ite_f (by simp [h5]), if_neg h5]; rfl
def ofHd (h : HD (bX 0)) : Bk := (h.2.1, h.2.2.1, h.1.2.2.1, h.1.2.2.2.1, ())
def sDn (p : Bk → Bool) (f : Op → Bk → Int × Bk) : CSpec := .pos nDn (fun _ h => p (ofHd h)) fun xs h => (((f xs.2.1 (ofHd h)).1, ()), hdB (f xs.2.1 (ofHd h)).2)
theorem okDn : CSound Try.prog 102 (sDn okB doneF) ∧ CLocal (sDn okB doneF) :=
 pos_sound (L := L0) (C := ctx (cDn idxE hasW)) (ctx_sound ⟨okFi, okDd, okDel, trivial⟩) Try.func102 (by kernel_rfl) (noLoopsL (by kernel_rfl)) fun xs hs hx hh hp => by
  obtain ⟨u, x, u'⟩ := xs
  have hp : okB (ofHd hs) = true := hp
  refine (tDn idxE hasW (ofHd hs) x).trans ?_
  rw [Tr.eval_bind, GDn_eq x (ofHd hs) hp]
  rfl
end Go.Proofs.Ytffdkniccaebmaa.Bok
end
section
set_option linter.unusedVariables false
set_option linter.unusedSimpArgs false
set_option maxRecDepth 100000
namespace Go.Proofs.Ytffdkniccaebmaa.Bok
open Go Vse Go.Proofs Gen
abbrev Nf := ByteArray → Bool
def e0 : ByteArray := ⟨#[]⟩
def cRt (k : Nat) (N : Nf) : List (Nat × CSpec) := [(k, .sl1 [.str] .bool fun x => N x.1)]
def sRt (R : Op → Bool) : CSpec := .slp1 [tOp] (fun _ => true) .bool fun x => R x.1
abbrev Rs := List Int × Int × Unit
def cPu (rt pu nu : Nat) (R : Op → Bool) (P : List (List Int) → Rs) (U : Int → List Int) : List (Nat × CSpec) := [(rt, sRt R), (pu, .sl [ls] [bt, i64] fun x => P x.1), (nu, .sl1 [i64] bt fun x => U x.1)]
abbrev nPu : PSpec := ⟨[tOp], [bt, i64], [], [], []⟩
def cRd (rt sp wo ta : Nat) (R : Op → Bool) (pq : List Int → Bool) (Q : List Int → List (List Int) × Int × Unit) (W : List Int → Rs) (T : List Int → Int × Int × Unit) : List (Nat × CSpec) :=
 [(rt, sRt R), (sp, .slp [bs] (fun x => pq x.1) [lt, i64] fun x => Q x.1), (wo, .sl [bs] [w16, i64] fun x => W x.1), (ta, .sl [bs] [i64, i64] fun x => T x.1)]
abbrev nRd : PSpec := ⟨[bs], [tOp, i64], [], [], []⟩
def cAp (R : Op → Bool) (p : Bk → Bool) (f : Op → Bk → Int × Bk) : List (Nat × CSpec) := [(54, sRt R), (101, sCo p), (102, sDn p f)]
abbrev nAp : PSpec := ⟨[tBl, tOp], [tB, i64], [], [], []⟩
abbrev z16 : List Int := [0, 0, 0, 0, 0, 0, 0, 0, 0, 0, 0, 0, 0, 0, 0, 0]
def TRt (N : Nf) (x : Op) : Tr AV :=
 let R (b : Bool) : Tr AV := .ret (.v .bool b)
 let m1 : Tr AV := .ite (N x.2.1) (R (x.2.2.2.1 == 0)) (R false)
 let m2 : Tr AV := .ite (x.1 == 2) (.ite (N x.2.1) (R (eqT tOp x (2, x.2.1, z16, 0, ()))) (R false)) (.ite (x.1 == 4) (R (eqT tOp x (4, e0, x.2.2.1, 0, ()))) (.ite (x.1 == 5) (.ite (x.2.1 == e0) (.ite (decide (x.2.2.2.1 ≥ 1)) (R (decide (x.2.2.2.1 ≤ 2147483647))) (R false)) (R false)) (R false)))
 .ite (x.1 == 1) (.ite (x.1 == 1) m1 m2) (.ite (x.1 == 3) m1 m2)
theorem tRt (N : Nf) (x : Op) : nrm (fnS Try.prog (ctx (cRt 85 N)) L0 [.bool] Try.f54 (mkArgs [tOp] (x, ()))) = (TRt N x).eval := by kernel_rfl
def TRr (N : Nf) (x : Op) : Tr AV :=
 let R (b : Bool) : Tr AV := .ret (.v .bool b)
 let m5 : Tr AV := .ite (x.1 == 5) (.ite (decide (x.2.2.2.1 ≥ 1)) (R (decide (x.2.2.2.1 ≤ 2147483647))) (R false)) (R (x.2.2.2.1 == 0))
 let m2 : Tr AV := .ite (x.1 == 2) (.ite (!eqT w16 x.2.2.1 z16) (R false) m5) m5
 let m3 : Tr AV := .ite (decide (x.1 > 3)) (.ite (!(x.2.1 == e0)) (R false) m2) m2
 .ite (decide (x.1 < 1)) (R false) (.ite (decide (x.1 > 5)) (R false) (.ite (decide (x.1 ≤ 3)) (.ite (!N x.2.1) (R false) m3) m3))
theorem tRr (N : Nf) (x : Op) : nrm (fnS Try.prog (ctx (cRt 100 N)) L0 [.bool] Try.f55 (mkArgs [tOp] (x, ()))) = (TRr N x).eval := by kernel_rfl
def kPu (nt : Nat) : List Cut := [⟨0, [.box tOp], [], [1], [.ip true tOp], [.dead], nt⟩]
noncomputable abbrev bPu : Code := bodyOf Try.f52
noncomputable abbrev bPr : Code := bodyOf Try.f53
def TPu (R : Op → Bool) (P : List (List Int) → Rs) (U : Int → List Int) (x : Op) : Tr nPu.Out :=
 let q := P [strBytes x.2.1, (x.2.2.1.take 16).drop 0, U x.2.2.2.1]
 .ite (!R x) (.ret (([], 3, ()), ())) (.chk (Vse.room ([wb x.1].length + q.1.length) 1) (.ret (([wb x.1] ++ q.1, q.2.1, ()), ())))
theorem tPu (R : Op → Bool) (P : List (List Int) → Rs) (U : Int → List Int) (x : Op) :
  (stC Try.prog (ctx (cPu 54 37 83 R P U)) L0 nPu Try.f52 (kPu 29) bPu (begin_ Try.f52 (mkArgs [tOp] (x, ())) [])).eval = (TPu R P U x).eval := by kernel_rfl
def TPr (R : Op → Bool) (P : List (List Int) → Rs) (U : Int → List Int) (x : Op) : Tr nPu.Out :=
 let q := P [strBytes x.2.1, (x.2.2.1.take 16).drop 0, U x.2.2.2.1]
 .ite (!R x) (.ret (([], 3, ()), ())) (.chk (Vse.room ([wb x.1].length + q.1.length) 1) (.ret (([wb x.1] ++ q.1, 0, ()), ())))
theorem tPr (R : Op → Bool) (P : List (List Int) → Rs) (U : Int → List Int) (x : Op) :
  (stC Try.prog (ctx (cPu 55 98 99 R P U)) L0 nPu Try.f53 (kPu 28) bPr (begin_ Try.f53 (mkArgs [tOp] (x, ())) [])).eval = (TPr R P U x).eval := by kernel_rfl
def TAp (R : Op → Bool) (p : Bk → Bool) (f : Op → Bk → Int × Bk) (b : Bk) (x : Op) : Tr nAp.Out :=
 let O (b : Bk) (e : Int) : Tr nAp.Out := .ret (((b.1, b.2.1, b.2.2.1, b.2.2.2.1, ()), e, ()), ())
 .ite (!R x) (.chk (p b) (O b 3)) (.chk (p b) (.chk (p b) (.ite (!decide ((f x b).1 = 0)) (.chk (p b) (O b (f x b).1)) (O (f x b).2 0))))
theorem tAp (R : Op → Bool) (p : Bk → Bool) (f : Op → Bk → Int × Bk) (b : Bk) (x : Op) : (fnP Try.prog (ctx (cAp R p f)) L0 nAp Try.f56 (b, x, ()) ()).eval = (TAp R p f b x).eval := by kernel_rfl
end Go.Proofs.Ytffdkniccaebmaa.Bok
end
section
set_option linter.unusedVariables false
set_option linter.unusedSimpArgs false
set_option maxRecDepth 100000
namespace Go.Proofs.Ytffdkniccaebmaa.Bok
open Go Vse Go.Proofs Gen
def op0 : Op := (0, e0, z16, 0, ())
def cutR (b : List Int) : List Int := (b.take b.length).drop 1
def opR (Q : List Int → List (List Int) × Int × Unit) (W : List Int → Rs) (T : List Int → Int × Int × Unit) (b : List Int) : Op :=
 let l := (Q (cutR b)).1
 (w (b.getD 0 0), bytesStr (l.getD 0 []), (W (l.getD 1 [])).1, (T (l.getD 2 [])).1, ())
def TRd (R : Op → Bool) (pq : List Int → Bool) (Q : List Int → List (List Int) × Int × Unit) (W : List Int → Rs) (T : List Int → Int × Int × Unit) (b : List Int) : Tr nRd.Out :=
 let l := (Q (cutR b)).1
 let no : Tr nRd.Out := .ret ((op0, 3, ()), ())
 .ite (decide ((b.length : Int) = 0)) no (.chk (decide ((1 : Int) ≤ (b.length : Int)) && decide ((b.length : Int) ≤ (b.length : Int))) (.chk (pq (cutR b)) (.ite (!decide ((Q (cutR b)).2.1 = 0)) no (.ite (!decide ((l.length : Int) = 3)) no
  (.chk (inArr 1 l.length) (.chk (inArr 2 l.length) (.chk (inArr 0 b.length) (.chk (inArr 0 l.length) (.ite (!decide ((W (l.getD 1 [])).2.1 = 0)) no (.ite (!decide ((T (l.getD 2 [])).2.1 = 0)) no (.ite (!R (opR Q W T b)) no (.ret ((opR Q W T b, 0, ()), ())))))))))))))
theorem tRd (R : Op → Bool) (pq : List Int → Bool) (Q : List Int → List (List Int) × Int × Unit) (W : List Int → Rs) (T : List Int → Int × Int × Unit) (b : List Int) :
  (fnP Try.prog (ctx (cRd 54 38 84 82 R pq Q W T)) L0 nRd Try.f50 (b, ()) ()).eval = (TRd R pq Q W T b).eval := by kernel_rfl
theorem tRe (R : Op → Bool) (pq : List Int → Bool) (Q : List Int → List (List Int) × Int × Unit) (W : List Int → Rs) (T : List Int → Int × Int × Unit) (b : List Int) :
  (fnP Try.prog (ctx (cRd 55 95 96 97 R pq Q W T)) L0 nRd Try.f51 (b, ()) ()).eval = (TRd R pq Q W T b).eval := by kernel_rfl
abbrev nSm : PSpec := ⟨[tBl, tBl], [.bool], [], [], []⟩
abbrev lOp : Ty := .imm true false tOp
abbrev nOp : PSpec := ⟨[tBl], [.vc 0 0], [], [.vec 0 tOp], []⟩
noncomputable def bO1 : Code := loopAt Try.f61 0
noncomputable def bO2 : Code := loopAt Try.f61 1
def SO1 : RSpec := ⟨[1, 3, 9, 10, 11], 49, [.ptr 0 [], .vc 1 1, .imm false false tEnt, i64, i64], [.box tBl, .vec 1 tOp], [.box tBl], [.slot 3 tOp], fun _ => ([1, 3], [.ptr 0 [], .vc 1 1], [.box tBl, .vec 1 tOp])⟩
def addO (e : En) : Op := (1, e.1, e.2.1, 0, ())
def revO (x : List Int) : Op := (4, e0, x, 0, ())
def GO1 (b : Bk) (o : List Op) (l : List En) (n i : Int) : Tr SO1.End :=
 .ite (decide (i < n)) (.chk (inArr i l.length) (.chk (Vse.room (o.length + 1) 48) (.ret (.inl (((), (), l, n, w (i + 1), ()), (b, o ++ [addO (l.getD i.toNat (dflt tEnt))], ()))))))
  (.ret (.inr (.exit 0, encS [1, 3] [.ptr 0 [], .vc 1 1] [.box tBl, .vec 1 tOp] 49 ((), (), ()) (b, o, ()))))
theorem rO1 (b : Bk) (o : List Op) (l : List En) (n i : Int) : (SO1.round (bodyK Try.prog (ctx []) L0 bO1) ((), (), l, n, i, ()) (b, o, ())).eval = (GO1 b o l n i).eval := by kernel_rfl
def SO2 : RSpec := ⟨[1, 3, 25, 26, 27], 49, [.ptr 0 [], .vc 1 2, lw, i64, i64], [.box tBl, .vec 2 tOp], [.box tBl, .vec 1 tOp], [], fun _ => ([1, 3], [.ptr 0 [], .vc 1 2], [.box tBl, .vec 2 tOp])⟩
def GO2 (b : Bk) (o : List Op) (l : List (List Int)) (n i : Int) : Tr SO2.End :=
 .ite (decide (i < n)) (.chk (inArr i l.length) (.chk (Vse.room (o.length + 1) 48) (.ret (.inl (((), (), l, n, w (i + 1), ()), (b, o ++ [revO (l.getD i.toNat (dflt w16))], ()))))))
  (.ret (.inr (.exit 2, encS [1, 3] [.ptr 0 [], .vc 1 2] [.box tBl, .vec 2 tOp] 49 ((), (), ()) (b, o, ()))))
theorem rO2 (b : Bk) (o : List Op) (l : List (List Int)) (n i : Int) : (SO2.round (bodyK Try.prog (ctx []) L0 bO2) ((), (), l, n, i, ()) (b, o, ())).eval = (GO2 b o l n i).eval := by kernel_rfl
theorem mO1 (b : Bk) (l : List En) (hl : l.length ≤ 1000000) : ∀ (m k : Nat), k + m = l.length →
  SO1.many (bodyK Try.prog (ctx []) L0 bO1) (m + 1) ((), (), l, (l.length : Int), (k : Int), ()) (b, (l.take k).map addO, ()) = some (.exit 0, encS [1, 3] [.ptr 0 [], .vc 1 1] [.box tBl, .vec 1 tOp] 49 ((), (), ()) (b, l.map addO, ()))
 | 0, k, h => by
  rw [List.take_of_length_le (by omega)]
  refine rmany_inr ((rO1 b _ l _ _).trans ?_) 0
  unfold GO1
  rw [ite_f (decide_eq_false (by omega))]
  rfl
 | m + 1, k, h => by
  have h1 : k < l.length := by omega
  have ht : (l.take k).map addO ++ [addO l[k]] = (l.take (k + 1)).map addO := by rw [List.take_add_one, List.getElem?_eq_getElem h1, List.map_append]; rfl
  refine (rmany_inl (d := (((), (), l, (l.length : Int), ((k + 1 : Nat) : Int), ()), (b, (l.take (k + 1)).map addO, ()))) ((rO1 b _ l _ _).trans ?_) (m + 1)).trans (mO1 b l hl m (k + 1) (by omega))
  unfold GO1
  rw [Int.toNat_natCast, getD_of h1, ite_t (decide_eq_true (by omega)), chk_eval (inArr_of h1), chk_eval (by simp only [Vse.room, decide_eq_true_eq, List.length_map, List.length_take]; omega), ht, w_succ h1 (by omega)]
  rfl
theorem mO2 (b : Bk) (o : List Op) (l : List (List Int)) (hl : o.length + l.length ≤ 2000000) : ∀ (m k : Nat), k + m = l.length →
  SO2.many (bodyK Try.prog (ctx []) L0 bO2) (m + 1) ((), (), l, (l.length : Int), (k : Int), ()) (b, o ++ (l.take k).map revO, ()) = some (.exit 2, encS [1, 3] [.ptr 0 [], .vc 1 2] [.box tBl, .vec 2 tOp] 49 ((), (), ()) (b, o ++ l.map revO, ()))
 | 0, k, h => by
  rw [List.take_of_length_le (by omega)]
  refine rmany_inr ((rO2 b _ l _ _).trans ?_) 0
  unfold GO2
  rw [ite_f (decide_eq_false (by omega))]
  rfl
 | m + 1, k, h => by
  have h1 : k < l.length := by omega
  have ht : (o ++ (l.take k).map revO) ++ [revO l[k]] = o ++ (l.take (k + 1)).map revO := by rw [List.take_add_one, List.getElem?_eq_getElem h1, List.map_append, List.append_assoc]; rfl
  refine (rmany_inl (d := (((), (), l, (l.length : Int), ((k + 1 : Nat) : Int), ()), (b, o ++ (l.take (k + 1)).map revO, ()))) ((rO2 b _ l _ _).trans ?_) (m + 1)).trans (mO2 b o l hl m (k + 1) (by omega))
  unfold GO2
  rw [Int.toNat_natCast, getD_of h1, ite_t (decide_eq_true (by omega)), chk_eval (inArr_of h1), chk_eval (by simp only [Vse.room, decide_eq_true_eq, List.length_append, List.length_map, List.length_take]; omega), ht, w_succ h1 (by omega)]
  rfl
abbrev Co1 := List Op → List En → Int → Int → Bool
abbrev Co2 := List Op → List (List Int) → Int → Int → Bool
def cO1 : Co1 := fun o l n i => decide (o.length = 0) && (decide (n = (l.length : Int)) && (decide (i = 0) && decide (l.length ≤ 1000000)))
def cO2 : Co2 := fun o l n i => decide (n = (l.length : Int)) && (decide (i = 0) && decide (o.length + l.length ≤ 2000000))
def FO1 (c : Co1) (xs : HL SO1.Ts) (hs : HD SO1.Es) : Tr (Ex × St) := .chk (c hs.2.1 xs.2.2.1 xs.2.2.2.1 xs.2.2.2.2.1) (.ret (.exit 0, encS [1, 3] [.ptr 0 [], .vc 1 1] [.box tBl, .vec 1 tOp] 49 ((), (), ()) (hs.1, xs.2.2.1.map addO, ())))
def FO2 (c : Co2) (xs : HL SO2.Ts) (hs : HD SO2.Es) : Tr (Ex × St) := .chk (c hs.2.1 xs.2.2.1 xs.2.2.2.1 xs.2.2.2.2.1) (.ret (.exit 2, encS [1, 3] [.ptr 0 [], .vc 1 2] [.box tBl, .vec 2 tOp] 49 ((), (), ()) (hs.1, hs.2.1 ++ xs.2.2.1.map revO, ())))
def LOp (c1 : Co1) (c2 : Co2) : Loops := fun j st => if j = 3 then SO1.fn (FO1 c1) st else if j = 8 then SO2.fn (FO2 c2) st else .fail
theorem lO1 : LoopOK Try.prog (LOp cO1 cO2) bO1 :=
 rloop_ok (L := LOp cO1 cO2) (L' := L0) nil_sound (loopsOK_of (by kernel_rfl)) SO1 (F := FO1 cO1) (i := 3) (by kernel_rfl) (fun _ => rfl) fun xs hs q h => by
  obtain ⟨u1, u2, l, n, i, u⟩ := xs
  obtain ⟨b, o, u3⟩ := hs
  obtain ⟨h1, h2⟩ := Tr.chk_some h
  simp only [cO1, Bool.and_eq_true, decide_eq_true_eq] at h1
  obtain ⟨e0, e1, e2, e3⟩ := h1
  have e0 : o = ([] : List Op) := List.eq_nil_of_length_eq_zero e0
  have e1 : n = (List.length (α := En) l : Int) := e1
  have e2 : i = ((0 : Nat) : Int) := e2
  subst e0; subst e1; subst e2
  exact ⟨_, (mO1 b l e3 (List.length (α := En) l) 0 (by omega)).trans (congrArg some (Tr.ret_some h2))⟩
theorem lO2 : LoopOK Try.prog (LOp cO1 cO2) bO2 :=
 rloop_ok (L := LOp cO1 cO2) (L' := L0) nil_sound (loopsOK_of (by kernel_rfl)) SO2 (F := FO2 cO2) (i := 8) (by kernel_rfl) (fun _ => rfl) fun xs hs q h => by
  obtain ⟨u1, u2, l, n, i, u⟩ := xs
  obtain ⟨b, o, u3⟩ := hs
  obtain ⟨h1, h2⟩ := Tr.chk_some h
  simp only [cO2, Bool.and_eq_true, decide_eq_true_eq] at h1
  obtain ⟨e1, e2, e3⟩ := h1
  have e1 : n = (List.length (α := List Int) l : Int) := e1
  have e2 : i = ((0 : Nat) : Int) := e2
  subst e1; subst e2
  have := mO2 b o l e3 (List.length (α := List Int) l) 0 (by omega)
  rw [List.take_zero, List.map_nil, List.append_nil] at this
  exact ⟨_, this.trans (congrArg some (Tr.ret_some h2))⟩
def opsF (b : Bk) : List Op := b.1.map addO ++ b.2.1.map revO ++ if b.2.2.1 > 0 then [(5, e0, b.2.2.2.1, b.2.2.1, ())] else []
def TOs (c1 : Co1) (c2 : Co2) (b : Bk) : Tr nOp.Out :=
 let o := b.1.map addO ++ b.2.1.map revO
 .chk (c1 [] b.1 (b.1.length : Int) 0) (.chk (c2 (b.1.map addO) b.2.1 (b.2.1.length : Int) 0) (.ite (decide (b.2.2.1 > 0)) (.chk (Vse.room (o.length + 1) 48) (.ret (((), ()), (o ++ [(5, e0, b.2.2.2.1, b.2.2.1, ())], ())))) (.ret (((), ()), (o, ())))))
theorem tOs (c1 : Co1) (c2 : Co2) (b : Bk) : (fnP Try.prog (ctx []) (LOp c1 c2) nOp Try.f61 (b, ()) ()).eval = (TOs c1 c2 b).eval := by kernel_rfl
def sOs (p : Bk → Bool) (f : Bk → List Op) : CSpec := .pos nOp (fun xs _ => p xs.1) fun xs _ => (((), ()), (f xs.1, ()))
theorem TOs_eq (b : Bk) (h : okB b = true) : (TOs cO1 cO2 b).eval = some (((), ()), (opsF b, ())) := by
 unfold okB at h
 simp only [Bool.and_eq_true, decide_eq_true_eq] at h
 unfold TOs opsF
 dsimp only
 rw [chk_eval (by unfold cO1; rw [decide_eq_true h.1]; simp), chk_eval (by unfold cO2; rw [decide_eq_true (show (b.1.map addO).length + b.2.1.length ≤ 2000000 by rw [List.length_map]; omega)]; simp)]
 by_cases hg : b.2.2.1 > 0
 ·rw [ite_t (decide_eq_true hg), if_pos hg, chk_eval (by simp only [Vse.room, decide_eq_true_eq, List.length_append, List.length_map]; omega)]; rfl
 ·rw [ite_f (decide_eq_false hg), if_neg hg, List.append_nil]; rfl
theorem loops_Os : loopsOf (bodyOf Try.f61) = [bO1, bO2] := by kernel_rfl
theorem okOs : CSound Try.prog 61 (sOs okB opsF) ∧ CLocal (sOs okB opsF) :=
 pos_sound (L := LOp cO1 cO2) nil_sound Try.func61 (by kernel_rfl) (loops2 loops_Os lO1 lO2) fun xs hs hx hh hp => by
  obtain ⟨b, u⟩ := xs
  exact (tOs cO1 cO2 b).trans (TOs_eq b hp)
end Go.Proofs.Ytffdkniccaebmaa.Bok
end
section
set_option linter.unusedVariables false
set_option linter.unusedSimpArgs false
set_option maxRecDepth 100000
namespace Go.Proofs.Ytffdkniccaebmaa.Bok
open Go Vse Go.Proofs Gen
open Fld (nameI encL putI hd1 hd2 num1 num2 splitI wordI take1 take2 Bytes)
def rtF (x : Op) : Bool :=
 if x.1 = 1 then nameI x.2.1 && decide (x.2.2.2.1 = 0)
 else if x.1 = 3 then nameI x.2.1 && decide (x.2.2.2.1 = 0)
 else if x.1 = 2 then nameI x.2.1 && (eqT w16 x.2.2.1 z16 && decide (x.2.2.2.1 = 0))
 else if x.1 = 4 then (x.2.1 == e0) && decide (x.2.2.2.1 = 0)
 else if x.1 = 5 then (x.2.1 == e0) && (decide (x.2.2.2.1 ≥ 1) && decide (x.2.2.2.1 ≤ 2147483647))
 else false
theorem beq_int (x y : Int) : (x == y) = decide (x = y) := rfl
theorem str_self (s : ByteArray) : (s == s) = true := (MapKept.bytes_beq s s).2 rfl
theorem eqw_self (x : List Int) : eqT w16 x x = true := (eqT_iff w16 x x (by decide)).2 rfl
theorem eq_op2 (k : Int) (s : ByteArray) (key : List Int) (n : Int) : eqT tOp (k, s, key, n, ()) (2, s, z16, 0, ()) = (decide (k = 2) && (eqT w16 key z16 && decide (n = 0))) := by
 show (decide (k = 2) && ((s == s) && (eqT w16 key z16 && (decide (n = 0) && true)))) = _
 rw [str_self, Bool.true_and, Bool.and_true]
theorem eq_op4 (k : Int) (s : ByteArray) (key : List Int) (n : Int) : eqT tOp (k, s, key, n, ()) (4, e0, key, 0, ()) = (decide (k = 4) && ((s == e0) && decide (n = 0))) := by
 show (decide (k = 4) && ((s == e0) && (eqT w16 key key && (decide (n = 0) && true)))) = _
 rw [eqw_self, Bool.true_and, Bool.and_true]
theorem TRt_eq (x : Op) : (TRt nameI x).eval = some (.v .bool (rtF x)) := by
 obtain ⟨k, s, key, n, u⟩ := x
 unfold TRt rtF
 dsimp only
 by_cases h1 : k = 1
 ·rw [ite_t (by simp [h1]), ite_t (by simp [h1]), if_pos h1]
  cases nameI s <;> rfl
 rw [ite_f (by simp [h1]), if_neg h1]
 by_cases h3 : k = 3
 ·rw [ite_t (by simp [h3]), if_pos h3]
  cases nameI s <;> rfl
 rw [ite_f (by simp [h3]), if_neg h3]
 by_cases h2 : k = 2
 ·rw [ite_t (by simp [h2]), if_pos h2, eq_op2, decide_eq_true h2, Bool.true_and]
  cases nameI s <;> rfl
 rw [ite_f (by simp [h2]), if_neg h2]
 by_cases h4 : k = 4
 ·rw [ite_t (by simp [h4]), if_pos h4, eq_op4, decide_eq_true h4, Bool.true_and]; rfl
 rw [ite_f (by simp [h4]), if_neg h4]
 by_cases h5 : k = 5
 ·rw [ite_t (by simp [h5]), if_pos h5]
  cases (s == e0) with
  | false => rfl
  | true =>
   cases decide (n ≥ 1) <;> rfl
 ·rw [ite_f (by simp [h5]), if_neg h5]; rfl
theorem TRr_eq (x : Op) : (TRr nameI x).eval = some (.v .bool (rtF x)) := by
 obtain ⟨k, s, key, n, u⟩ := x
 have key1 : ∀ (a b c d e : Bool), (TRr (fun _ => a) (1, s, key, n, ())).eval = some (.v .bool (a && decide (n = 0))) := fun a b c d e => by cases a <;> rfl
 have key3 : ∀ (a : Bool), (TRr (fun _ => a) (3, s, key, n, ())).eval = some (.v .bool (a && decide (n = 0))) := fun a => by cases a <;> rfl
 unfold rtF
 dsimp only
 by_cases h1 : k = 1
 ·subst h1
  rw [if_pos rfl]
  show (TRr (fun _ => nameI s) (1, s, key, n, ())).eval = _
  cases nameI s <;> rfl
 rw [if_neg h1]
 by_cases h3 : k = 3
 ·subst h3
  rw [if_pos rfl]
  show (TRr (fun _ => nameI s) (3, s, key, n, ())).eval = _
  cases nameI s <;> rfl
 rw [if_neg h3]
 by_cases h2 : k = 2
 ·subst h2
  rw [if_pos rfl]
  unfold TRr
  dsimp only
  generalize eqT w16 key z16 = e
  generalize nameI s = a
  cases a <;> cases e <;> rfl
 rw [if_neg h2]
 by_cases h4 : k = 4
 ·subst h4
  rw [if_pos rfl]
  unfold TRr
  dsimp only
  generalize (s == e0) = a
  cases a <;> rfl
 rw [if_neg h4]
 by_cases h5 : k = 5
 ·subst h5
  rw [if_pos rfl]
  unfold TRr
  dsimp only
  generalize (s == e0) = a
  generalize decide (n ≥ 1) = c
  cases a <;> cases c <;> rfl
 ·rw [if_neg h5]
  unfold TRr
  dsimp only
  by_cases h6 : k < 1
  ·rw [ite_t (decide_eq_true h6)]; rfl
  ·rw [ite_f (decide_eq_false h6), ite_t (decide_eq_true (by omega))]; rfl
theorem okRt : CSound Try.prog 54 (sRt rtF) ∧ CLocal (sRt rtF) :=
 slpE1 (L := L0) (C := ctx (cRt 85 nameI)) (ctx_sound ⟨Fld.ok36, trivial⟩) Try.func54 (by kernel_rfl) (noLoopsL (by kernel_rfl)) fun xs hx hp => (tRt nameI xs.1).trans (TRt_eq xs.1)
theorem okRr : CSound Try.prog 55 (sRt rtF) ∧ CLocal (sRt rtF) :=
 slpE1 (L := L0) (C := ctx (cRt 100 nameI)) (ctx_sound ⟨Fld.ok37, trivial⟩) Try.func55 (by kernel_rfl) (noLoopsL (by kernel_rfl)) fun xs hx hp => (tRr nameI xs.1).trans (TRr_eq xs.1)
def partsP (x : Op) : List (List Int) := [strBytes x.2.1, x.2.2.1, num1 x.2.2.2.1]
theorem putI_enc {l : List (List Int)} (h : ∀ p ∈ l, p.length ≤ 500) (hn : l.length ≤ 20) : putI hd1 l = (encL l, 0, ()) := by
 unfold Fld.putI
 rw [decide_eq_false (show ¬ (l.length : Int) > 20 by omega), Fld.putG_enc l [] h]
 rfl
theorem num1_len (n : Int) : (num1 n).length = 8 := rfl
def putF (x : Op) : Rs := if rtF x = true then ([wb x.1] ++ encL (partsP x), 0, ()) else ([], 3, ())
theorem rt_name {x : Op} (h : rtF x = true) : x.2.1.size ≤ 20 := by
 obtain ⟨k, s, key, n, u⟩ := x
 have hn : nameI s = true → s.size ≤ 20 := fun h => by
  unfold Fld.nameI at h
  simp only [Bool.and_eq_true, decide_eq_true_eq] at h
  exact h.2.2
 have he : (s == e0) = true → s.size ≤ 20 := fun h => by rw [(MapKept.bytes_beq s e0).1 h]; decide
 unfold rtF at h
 dsimp only at h ⊢
 split at h
 ·exact hn (Bool.and_eq_true _ _ ▸ h).1
 split at h
 ·exact hn (Bool.and_eq_true _ _ ▸ h).1
 split at h
 ·exact hn (Bool.and_eq_true _ _ ▸ h).1
 split at h
 ·exact he (Bool.and_eq_true _ _ ▸ h).1
 split at h
 ·exact he (Bool.and_eq_true _ _ ▸ h).1
 ·cases h
theorem strBytes_len (s : ByteArray) : (strBytes s).length = s.size := by simp [strBytes]
theorem encL_len3 (a b c : List Int) : (encL [a, b, c]).length = 6 + a.length + b.length + c.length := by
 unfold Fld.encL Fld.encL Fld.encL Fld.encL
 simp only [List.length_append, List.length_nil]
 have : ∀ p, (hd1 p).length = 2 := fun p => rfl
 rw [this, this, this]
 omega
theorem parts_ok {x : Op} (h : rtF x = true) (hk : x.2.2.1.length = 16) : putI hd1 (partsP x) = (encL (partsP x), 0, ()) := by
 have := rt_name h
 refine putI_enc (fun p hp => ?_) (show 3 ≤ 20 by decide)
 unfold partsP at hp
 simp only [List.mem_cons, List.not_mem_nil, or_false] at hp
 rcases hp with rfl | rfl | rfl
 ·rw [strBytes_len]; omega
 ·omega
 ·rw [num1_len]; omega
theorem TPu_eq {x : Op} (hk : x.2.2.1.length = 16) : (TPu rtF (putI hd1) num1 x).eval = some (putF x, ()) := by
 unfold TPu putF
 dsimp only
 cases h : rtF x with
 | false => rw [ite_t (show (!false) = true from rfl), if_neg (by simp)]; rfl
 | true =>
  have hp := parts_ok h hk
  have hn := rt_name h
  have ht : (x.2.2.1.take 16).drop 0 = x.2.2.1 := by rw [List.drop_zero]; exact List.take_of_length_le (by omega)
  have hp' : putI hd1 [strBytes x.2.1, x.2.2.1, num1 x.2.2.2.1] = (encL (partsP x), 0, ()) := hp
  have hl : (encL (partsP x)).length = 6 + (strBytes x.2.1).length + x.2.2.1.length + (num1 x.2.2.2.1).length := encL_len3 _ _ _
  rw [strBytes_len, num1_len] at hl
  rw [ite_f (show (!true) = false from rfl), if_pos rfl, ht, hp', chk_eval (by simp only [Vse.room, decide_eq_true_eq, List.length_cons, List.length_nil]; omega)]
  rfl
theorem TPr_eq {x : Op} (hk : x.2.2.1.length = 16) : (TPr rtF (putI hd2) num1 x).eval = some (putF x, ()) := by
 unfold TPr putF
 dsimp only
 cases h : rtF x with
 | false => rw [ite_t (show (!false) = true from rfl), if_neg (by simp)]; rfl
 | true =>
  have hp := parts_ok h hk
  have hn := rt_name h
  have ht : (x.2.2.1.take 16).drop 0 = x.2.2.1 := by rw [List.drop_zero]; exact List.take_of_length_le (by omega)
  have hp' : putI hd2 [strBytes x.2.1, x.2.2.1, num1 x.2.2.2.1] = (encL (partsP x), 0, ()) := by rw [← Fld.putI_same]; exact hp
  have hl : (encL (partsP x)).length = 6 + (strBytes x.2.1).length + x.2.2.1.length + (num1 x.2.2.2.1).length := encL_len3 _ _ _
  rw [strBytes_len, num1_len] at hl
  rw [ite_f (show (!true) = false from rfl), if_pos rfl, ht, hp', chk_eval (by simp only [Vse.room, decide_eq_true_eq, List.length_cons, List.length_nil]; omega)]
  rfl
def sPu (f : Op → Rs) : CSpec := .pos nPu (fun _ _ => true) fun xs _ => (f xs.1, ())
theorem okPu : CSound Try.prog 52 (sPu putF) ∧ CLocal (sPu putF) :=
 pos_cuts (L := L0) (C := ctx (cPu 54 37 83 rtF (putI hd1) num1)) (ctx_sound ⟨okRt, Fld.ok25, Fld.ok34, trivial⟩) (kPu 29) Try.func52 (c := bPu) (by kernel_rfl) (by kernel_rfl) (noLoopsL (by kernel_rfl)) fun xs hs hx hh hp => by
  obtain ⟨x, u⟩ := xs
  exact (tPu rtF (putI hd1) num1 x).trans (TPu_eq hx.1.2.2.1.1)
theorem num_fun : (fun n => num2 (wu n)) = num1 := funext fun n => (Fld.num_same n).symm
theorem okPr : CSound Try.prog 53 (sPu putF) ∧ CLocal (sPu putF) :=
 pos_cuts (L := L0) (C := ctx (cPu 55 98 99 rtF (putI hd2) fun n => num2 (wu n))) (ctx_sound ⟨okRr, Fld.ok26, Fld.ok35, trivial⟩) (kPu 28) Try.func53 (c := bPr) (by kernel_rfl) (by kernel_rfl) (noLoopsL (by kernel_rfl)) fun xs hs hx hh hp => by
  obtain ⟨x, u⟩ := xs
  refine (tPr rtF (putI hd2) (fun n => num2 (wu n)) x).trans ?_
  rw [num_fun]
  exact TPr_eq hx.1.2.2.1.1
abbrev Tk := List Int → Int × Int × Unit
def tk1 : Tk := fun a => bif decide (a.length = 8) then (take1 a, 0, ()) else (0, 3, ())
def tk2 : Tk := fun a => bif decide (a.length = 8) then (w (take2 a), 0, ()) else (0, 3, ())
def opB (T : Tk) (b : List Int) : Op := ((b.getD 0 0), bytesStr ((splitI (b.drop 1)).1.getD 0 []), (wordI ((splitI (b.drop 1)).1.getD 1 [])).1, (T ((splitI (b.drop 1)).1.getD 2 [])).1, ())
def rdT (T : Tk) (b : List Int) : Op × Int × Unit :=
 if b.length = 0 then (op0, 3, ()) else
 if (splitI (b.drop 1)).2.1 = 0 ∧ (splitI (b.drop 1)).1.length = 3 ∧ (wordI ((splitI (b.drop 1)).1.getD 1 [])).2.1 = 0 ∧ (T ((splitI (b.drop 1)).1.getD 2 [])).2.1 = 0 ∧ rtF (opB T b) = true then (opB T b, 0, ()) else (op0, 3, ())
theorem TRd_eq (T : Tk) {b : List Int} (hb : Bytes b) (hl : b.length ≤ 140737488355328) : (TRd rtF Fld.preB splitI wordI T b).eval = some (rdT T b, ()) := by
 unfold TRd rdT
 have hc : cutR b = b.drop 1 := by unfold cutR; rw [List.take_of_length_le (Nat.le_refl _)]
 have ho : opR splitI wordI T b = opB T b := by
  have h0 := Fld.bytes_get hb 0
  unfold opR opB
  rw [hc, w_id (by omega) (by omega)]
 dsimp only
 rw [hc, ho]
 by_cases h0 : b.length = 0
 ·rw [ite_t (decide_eq_true (by omega)), if_pos h0]; rfl
 have hd : (b.drop 1).length = b.length - 1 := List.length_drop
 rw [ite_f (decide_eq_false (by omega)), if_neg h0, chk_eval (by rw [Bool.and_eq_true, decide_eq_true_eq, decide_eq_true_eq]; omega), chk_eval (show Fld.preB (b.drop 1) = true from decide_eq_true (by omega))]
 generalize splitI (b.drop 1) = q
 obtain ⟨l, e, u⟩ := q
 dsimp only
 by_cases h1 : e = (0 : Int)
 ·rw [ite_f (by rw [decide_eq_true h1]; rfl)]
  by_cases h2 : List.length (α := List Int) l = 3
  ·have h3 : ((List.length (α := List Int) l : Nat) : Int) = 3 := by omega
   rw [ite_f (by rw [decide_eq_true h3]; rfl), chk_eval (show inArr 1 _ = true from inArr_of (k := 1) (by omega)), chk_eval (show inArr 2 _ = true from inArr_of (k := 2) (by omega)), chk_eval (show inArr 0 _ = true from inArr_of (k := 0) (by omega)), chk_eval (show inArr 0 _ = true from inArr_of (k := 0) (by omega))]
   by_cases h4 : (wordI (List.getD l 1 [])).2.1 = 0
   ·rw [ite_f (by rw [decide_eq_true h4]; rfl)]
    by_cases h5 : (T (List.getD l 2 [])).2.1 = 0
    ·rw [ite_f (by rw [decide_eq_true h5]; rfl)]
     cases h6 : rtF (opB T b) with
     | true => rw [ite_f (show (!true) = false from rfl), if_pos ⟨h1, h2, h4, h5, rfl⟩]; rfl
     | false => rw [ite_t (show (!false) = true from rfl), if_neg (fun h => by cases h.2.2.2.2)]; rfl
    ·rw [ite_t (by rw [decide_eq_false h5]; rfl), if_neg (fun h => h5 h.2.2.2.1)]; rfl
   ·rw [ite_t (by rw [decide_eq_false h4]; rfl), if_neg (fun h => h4 h.2.2.1)]; rfl
  ·rw [ite_t (by rw [decide_eq_false (by omega)]; rfl), if_neg (fun h => h2 h.2.1)]; rfl
 ·rw [ite_t (by rw [decide_eq_false h1]; rfl), if_neg (fun h => h1 h.1)]; rfl
def okL (b : List Int) : Bool := decide (b.length ≤ 140737488355328)
def sRd (f : List Int → Op × Int × Unit) : CSpec := .pos nRd (fun xs _ => okL xs.1) fun xs _ => (f xs.1, ())
theorem okRd : CSound Try.prog 50 (sRd (rdT tk1)) ∧ CLocal (sRd (rdT tk1)) :=
 pos_sound (L := L0) (C := ctx (cRd 54 38 84 82 rtF Fld.preB splitI wordI tk1)) (ctx_sound ⟨okRt, Fld.ok27, Fld.ok31, Fld.ok29, trivial⟩) Try.func50 (by kernel_rfl) (noLoopsL (by kernel_rfl)) fun xs hs hx hh hp => by
  obtain ⟨b, u⟩ := xs
  exact (tRd rtF Fld.preB splitI wordI tk1 b).trans (TRd_eq tk1 (Fld.bytes_ok hx.1) (of_decide_eq_true hp))
theorem okRe : CSound Try.prog 51 (sRd (rdT tk2)) ∧ CLocal (sRd (rdT tk2)) :=
 pos_sound (L := L0) (C := ctx (cRd 55 95 96 97 rtF Fld.preB splitI wordI tk2)) (ctx_sound ⟨okRr, Fld.ok28, Fld.ok32, Fld.ok30, trivial⟩) Try.func51 (by kernel_rfl) (noLoopsL (by kernel_rfl)) fun xs hs hx hh hp => by
  obtain ⟨b, u⟩ := xs
  exact (tRe rtF Fld.preB splitI wordI tk2 b).trans (TRd_eq tk2 (Fld.bytes_ok hx.1) (of_decide_eq_true hp))
abbrev Ab := Bk → Op → Bk × Int
def applyF (b : Bk) (x : Op) : Bk × Int := if rtF x = true then (if (doneF x b).1 = 0 then ((doneF x b).2, 0) else (b, (doneF x b).1)) else (b, 3)
theorem TAp_eq {b : Bk} (x : Op) (hb : okB b = true) : (TAp rtF okB doneF b x).eval = some (((applyF b x).1, (applyF b x).2, ()), ()) := by
 unfold TAp applyF
 dsimp only
 cases h : rtF x with
 | false => rw [ite_t (show (!false) = true from rfl), chk_eval hb, if_neg (by simp)]; rfl
 | true =>
  rw [ite_f (show (!true) = false from rfl), chk_eval hb, chk_eval hb, if_pos rfl]
  by_cases h0 : (doneF x b).1 = 0
  ·rw [ite_f (by rw [decide_eq_true h0]; rfl), if_pos h0]; rfl
  ·rw [ite_t (by rw [decide_eq_false h0]; rfl), if_neg h0, chk_eval hb]; rfl
def sAp (p : Bk → Bool) (f : Bk → Op → Bk × Int) : CSpec := .pos nAp (fun xs _ => p xs.1) fun xs _ => (((f xs.1 xs.2.1).1, (f xs.1 xs.2.1).2, ()), ())
theorem okAp : CSound Try.prog 56 (sAp okB applyF) ∧ CLocal (sAp okB applyF) :=
 pos_sound (L := L0) (C := ctx (cAp rtF okB doneF)) (ctx_sound ⟨okRt, okCo, okDn, trivial⟩) Try.func56 (by kernel_rfl) (noLoopsL (by kernel_rfl)) fun xs hs hx hh hp => by
  obtain ⟨b, x, u⟩ := xs
  exact (tAp rtF okB doneF b x).trans (TAp_eq x hp)
def smF (a b : Bk) : Bool := samee a.1 b.1 && (samew a.2.1 b.2.1 && (decide (a.2.2.1 = b.2.2.1) && eqT w16 a.2.2.2.1 b.2.2.2.1))
theorem sm_iff (a b : Bk) : smF a b = true ↔ a = b := by
 obtain ⟨L, r, g, o, u⟩ := a
 obtain ⟨L', r', g', o', u'⟩ := b
 unfold smF
 simp only [Bool.and_eq_true, samee_iff, samew_iff, decide_eq_true_eq]
 rw [eqT_iff w16 o o' (by decide)]
 constructor
 ·rintro ⟨rfl, rfl, rfl, rfl⟩; rfl
 ·intro h; cases h; exact ⟨rfl, rfl, rfl, rfl⟩
def sSmB (f : Bk → Bk → Bool) : CSpec := .pos nSm (fun _ _ => true) fun x _ => ((f x.1 x.2.1, ()), ())
end Go.Proofs.Ytffdkniccaebmaa.Bok
end
section
set_option linter.unusedVariables false
set_option linter.unusedSimpArgs false
set_option maxRecDepth 100000
namespace Go.Proofs.Ytffdkniccaebmaa.Bok
open Go Vse Go.Proofs Gen
abbrev dE : List ETy := [.box tBl, .box w16]
def SDr : RSpec := ⟨[2, 3, 5], 20, [.ptr 0 [], .ptr 1 [], i64], dE, dE, [], fun x => match x with | .ret => ([4], [.bool], [.dead, .dead]) | _ => ([], [], [.dead, .dead])⟩
noncomputable def bDr : Code := loopAt Try.f66 0
def GDr (b : Bk) (s : List Int) (i : Int) : Tr SDr.End :=
 .ite (decide (i < (b.2.1.length : Int))) (.chk (inArr i b.2.1.length) (.ite (eqT w16 (b.2.1.getD i.toNat (dflt w16)) s) (.ret (.inr (.ret, encS [4] [.bool] [.dead, .dead] 20 (true, ()) ()))) (.ret (.inl (((), (), w (i + 1), ()), (b, s, ()))))))
  (.ret (.inr (.exit 0, encS [] [] [.dead, .dead] 20 () ())))
theorem rDr (b : Bk) (s : List Int) (i : Int) : (SDr.round (bodyK Try.prog (ctx []) L0 bDr) ((), (), i, ()) (b, s, ())).eval = (GDr b s i).eval := by kernel_rfl
def hasR (l : List (List Int)) (s : List Int) : Bool := l.any fun b => eqT w16 b s
theorem mDr (b : Bk) (s : List Int) (hl : b.2.1.length ≤ 9223372036854775807) : ∀ (m k : Nat), k + m = b.2.1.length →
  SDr.many (bodyK Try.prog (ctx []) L0 bDr) (m + 1) ((), (), (k : Int), ()) (b, s, ()) = if hasR (b.2.1.drop k) s = true then some (.ret, encS [4] [.bool] [.dead, .dead] 20 (true, ()) ()) else some (.exit 0, encS [] [] [.dead, .dead] 20 () ())
 | 0, k, h => by
  rw [List.drop_eq_nil_of_le (by omega), if_neg (by simp [hasR])]
  refine rmany_inr ((rDr b s _).trans ?_) 0
  unfold GDr
  rw [ite_f (decide_eq_false (by omega))]
  rfl
 | m + 1, k, h => by
  have h1 : k < b.2.1.length := by omega
  have e2 := List.drop_eq_getElem_cons h1
  cases hq : eqT w16 b.2.1[k] s with
  | true =>
   rw [if_pos (show hasR (b.2.1.drop k) s = true by unfold hasR; rw [e2, List.any_cons, hq, Bool.true_or])]
   refine rmany_inr ((rDr b s _).trans ?_) _
   unfold GDr
   rw [Int.toNat_natCast, ite_t (decide_eq_true (by omega)), chk_eval (inArr_of h1), getD_of h1, ite_t hq]
   rfl
  | false =>
   have e3 : hasR (b.2.1.drop k) s = hasR (b.2.1.drop (k + 1)) s := by unfold hasR; rw [e2, List.any_cons, hq, Bool.false_or]
   rw [e3]
   refine (rmany_inl (d := (((), (), ((k + 1 : Nat) : Int), ()), (b, s, ()))) ((rDr b s _).trans ?_) (m + 1)).trans (mDr b s hl m (k + 1) (by omega))
   unfold GDr
   rw [Int.toNat_natCast, ite_t (decide_eq_true (by omega)), chk_eval (inArr_of h1), getD_of h1, ite_f hq, w_succ h1 hl]
   rfl
def cDr (b : Bk) (i : Int) : Bool := decide (b.2.1.length ≤ 9223372036854775807) && decide (i = 0)
def FDr (c : Bk → Int → Bool) (h : Hw) (xs : HL SDr.Ts) (hs : HD SDr.Es) : Tr (Ex × St) :=
 .chk (c hs.1 xs.2.2.1) (.ite (h hs.1.2.1 hs.2.1) (.ret (.ret, encS [4] [.bool] [.dead, .dead] 20 (true, ()) ())) (.ret (.exit 0, encS [] [] [.dead, .dead] 20 () ())))
def LDr (c : Bk → Int → Bool) (h : Hw) : Loops := fun j st => if j = 2 then SDr.fn (FDr c h) st else .fail
theorem lDr : LoopOK Try.prog (LDr cDr hasR) bDr :=
 rloop_ok (L := LDr cDr hasR) (L' := L0) nil_sound (loopsOK_of (by kernel_rfl)) SDr (F := FDr cDr hasR) (i := 2) (by kernel_rfl) (fun _ => rfl) fun xs hs q h => by
  obtain ⟨u1, u2, i, u3⟩ := xs
  obtain ⟨b, s, u4⟩ := hs
  obtain ⟨h1, h2⟩ := Tr.chk_some h
  simp only [cDr, Bool.and_eq_true, decide_eq_true_eq] at h1
  obtain ⟨hl, e2⟩ := h1
  have e2 : i = ((0 : Nat) : Int) := e2
  subst e2
  refine ⟨_, (mDr b s hl b.2.1.length 0 (by omega)).trans ?_⟩
  rw [List.drop_zero]
  rcases Tr.ite_some h2 with ⟨hx, h3⟩ | ⟨hx, h3⟩
  ·have hx : hasR b.2.1 s = true := hx
   rw [if_pos hx]; exact congrArg some (Tr.ret_some h3)
  ·have hx : hasR b.2.1 s = false := hx
   rw [if_neg (by rw [hx]; simp)]; exact congrArg some (Tr.ret_some h3)
def TDr (c : Bk → Int → Bool) (h : Hw) (b : Bk) (s : List Int) : Tr nDd.Out := .chk (c b 0) (.ite (h b.2.1 s) (.ret ((true, ()), ())) (.ret ((false, ()), ())))
theorem tDr (c : Bk → Int → Bool) (h : Hw) (b : Bk) (s : List Int) : (fnP Try.prog (ctx []) (LDr c h) nDd Try.f66 (b, s, ()) ()).eval = (TDr c h b s).eval := by kernel_rfl
theorem hasR_eq (l : List (List Int)) (s : List Int) : hasR l s = hasW l s := by
 unfold hasR hasW
 induction l with
 | nil => rfl
 | cons b l ih =>
  rw [List.any_cons, List.any_cons, ih]
  have : eqT w16 b s = eqT w16 s b := by
   cases h : eqT w16 s b with
   | true => exact (eqT_iff w16 b s (by decide)).2 ((eqT_iff w16 s b (by decide)).1 h).symm
   | false =>
    cases h2 : eqT w16 b s with
    | false => rfl
    | true => rw [(eqT_iff w16 s b (by decide)).2 ((eqT_iff w16 b s (by decide)).1 h2).symm] at h; cases h
  rw [this]
theorem okDr : CSound Try.prog 66 (sDd hasW) ∧ CLocal (sDd hasW) :=
 pos_sound (L := LDr cDr hasR) nil_sound Try.func66 (by kernel_rfl) (loops1 (by kernel_rfl) lDr) fun xs hs hx hh hp => by
  obtain ⟨b, s, u⟩ := xs
  refine (tDr cDr hasR b s).trans ?_
  unfold TDr
  rw [chk_eval (by unfold cDr; rw [decide_eq_true hx.1.2.1.1]; rfl), hasR_eq]
  show _ = some ((hasW b.2.1 s, ()), ())
  cases hasW b.2.1 s <;> rfl
def cAr (R : Op → Bool) (ix : Ie) (hd : Hw) : List (Nat × CSpec) := [(55, sRt R), (103, sFi ix), (66, sDd hd)]
abbrev nAr : PSpec := ⟨[tB, tOp], [tB, i64], [], [], []⟩
def TAr (R : Op → Bool) (ix : Ie) (hd : Hw) (b : Bk) (x : Op) : Tr nAr.Out :=
 let i := ix b.1 x.2.1
 let M (e : Int) (L : List En) (r : List (List Int)) (g : Int) (o : List Int) : Tr nAr.Out := .ret (((L, r, g, o, ()), e, ()), ())
 let N (e : Int) : Tr nAr.Out := M e b.1 b.2.1 b.2.2.1 b.2.2.2.1
 let m5 : Tr nAr.Out := .ite (x.1 == 5) (.ite (decide (x.2.2.2.1 ≤ b.2.2.1)) (N 5) (M 0 b.1 b.2.1 x.2.2.2.1 x.2.2.1)) (N 0)
 let m4 : Tr nAr.Out := .ite (x.1 == 4) (.ite (hd b.2.1 x.2.2.1) (N 5) (.ite (decide ((b.2.1.length : Int) ≥ 200)) (N 7) (.chk (Vse.room (b.2.1.length + 1) 16) (M 0 b.1 (b.2.1 ++ [x.2.2.1]) b.2.2.1 b.2.2.2.1)))) m5
 let A := b.1.take i.toNat
 let B := (b.1.take b.1.length).drop (w (i + 1)).toNat
 let m23 : Tr nAr.Out := .ite (decide (i < 0)) (N 4) (.ite (x.1 == 2) (.chk (decide (0 ≤ i) && decide (i ≤ (b.1.length : Int))) (.chk (Vse.room (0 + (A.drop 0).length) 32) (.chk (decide (0 ≤ w (i + 1)) && (decide (w (i + 1) ≤ (b.1.length : Int)) && decide ((b.1.length : Int) ≤ (b.1.length : Int)))) (.chk (Vse.room ((A.drop 0).length + B.length) 32) (M 0 (A.drop 0 ++ B) b.2.1 b.2.2.1 b.2.2.2.1)))))
  (.chk (inArr i b.1.length) (M 0 (kyF b.1 i x.2.2.1) b.2.1 b.2.2.1 b.2.2.2.1)))
 .ite (!R x) (N 3) (.chk (Vse.room (0 + b.1.length) 32) (.chk (Vse.room (0 + b.2.1.length) 16)
  (.ite (x.1 == 1) (.ite (decide (i ≥ 0)) (N 5) (.ite (decide ((b.1.length : Int) ≥ 50)) (N 7) (.chk (Vse.room (b.1.length + 1) 32) (M 0 (b.1 ++ [(x.2.1, x.2.2.1, ())]) b.2.1 b.2.2.1 b.2.2.2.1)))) (.ite (x.1 == 2) (.ite (x.1 == 2) m23 m4) (.ite (x.1 == 3) m23 m4)))))
theorem tAr (R : Op → Bool) (ix : Ie) (hd : Hw) (b : Bk) (x : Op) : (fnP Try.prog (ctx (cAr R ix hd)) L0 nAr Try.f57 (b, x, ()) ()).eval = (TAr R ix hd b x).eval := by kernel_rfl
end Go.Proofs.Ytffdkniccaebmaa.Bok
end
section
set_option linter.unusedVariables false
set_option linter.unusedSimpArgs false
set_option maxRecDepth 100000
namespace Go.Proofs.Ytffdkniccaebmaa.Bok
open Go Vse Go.Proofs Gen
open Jnl (jT JD RJ Hop oE nOk sRc nRc)
open Sto (stT D)
abbrev kO (k : Nat) : List ETy := [.box (.prod (.ptr 1 []) (.prod (tBo 2 3 k) .unit)), .box (jT 4 5 k), .vec k tEnt, .vec k w16, .box (stT 6 k), .vec k bt, .vec k u8]
abbrev kR (k : Nat) : List ETy := [.box (.prod (.ptr 1 []) (.prod tB .unit)), .box (jT 2 3 k), .box (stT 4 k), .vec k bt, .vec k u8]
def hdO (h : JD) (b : Bk) : HD (kO 0) := (((), ((), (), b.2.2.1, b.2.2.2.1, ()), ()), h.1, b.1, b.2.1, h.2.1, h.2.2.1, h.2.2.2.1, ())
def hdR (h : JD) (b : Bk) : HD (kR 0) := (((), b, ()), h.1, h.2.1, h.2.2.1, h.2.2.2.1, ())
abbrev nDk : PSpec := ⟨[.ptr 0 [.fld 1], tOp], [i64], kO 0, kO 1, []⟩
theorem tDk (ix : Ie) (hd : Hw) (h : JD) (b : Bk) (x : Op) : (fnP Try.prog (ctx (cDn ix hd)) L0 nDk Try.f102 ((), x, ()) (hdO h b)).eval = ((GDn ix hd b x).bind fun r => (.ret ((r.1, ()), hdO h r.2) : Tr nDk.Out)).eval := by kernel_rfl
abbrev Aj := List Int → JD → Bool
abbrev Fj := List Int → JD → RJ
def cDo (p : Bk → Bool) (A : Bk → Op → Bk × Int) (P : Op → Rs) (pa : Aj) (ad : Fj) : List (Nat × CSpec) :=
 [(56, sAp p A), (52, sPu P), (45, .pos (Jnl.nJ [bs] [i64] 1) (fun xs h => pa xs.2.1 h) fun xs h => ad xs.2.1 h)]
abbrev nDo : PSpec := ⟨[.ptr 0 [], tOp], [i64], kR 0, kR 1, []⟩
def TDo (p : Bk → Bool) (A : Bk → Op → Bk × Int) (P : Op → Rs) (pa : Aj) (ad : Fj) (h : JD) (b : Bk) (x : Op) : Tr (Int × JD × Bk) :=
 .chk (p b) (.ite (!decide ((A b x).2 = 0)) (.ret ((A b x).2, h, b)) (.ite (!decide ((P x).2.1 = 0)) (.ret ((P x).2.1, h, b)) (.chk (pa (P x).1 h) (.ite (!decide ((ad (P x).1 h).1.1 = 0)) (.ret ((ad (P x).1 h).1.1, (ad (P x).1 h).2, b)) (.ret (0, (ad (P x).1 h).2, (A b x).1))))))
theorem tDo (p : Bk → Bool) (A : Bk → Op → Bk × Int) (P : Op → Rs) (pa : Aj) (ad : Fj) (h : JD) (b : Bk) (x : Op) :
  (fnP Try.prog (ctx (cDo p A P pa ad)) L0 nDo Try.f72 ((), x, ()) (hdR h b)).eval = ((TDo p A P pa ad h b x).bind fun r => (.ret ((r.1, ()), hdR r.2.1 r.2.2) : Tr nDo.Out)).eval := by kernel_rfl
abbrev nBo : PSpec := ⟨[.ptr 0 []], [tB], kR 0, kR 0, []⟩
theorem tBo' (p : Bk → Bool) (h : JD) (b : Bk) : (fnP Try.prog (ctx [(101, sCo p)]) L0 nBo Try.f77 ((), ()) (hdR h b)).eval = (.chk (p b) (.ret ((b, ()), hdR h b)) : Tr nBo.Out).eval := by kernel_rfl
def ofK (h : HD (kO 0)) : Bk := (h.2.2.1, h.2.2.2.1, h.1.2.1.2.2.1, h.1.2.1.2.2.2.1, ())
def jOf (h : HD (kO 0)) : JD := (h.2.1, h.2.2.2.2.1, h.2.2.2.2.2.1, h.2.2.2.2.2.2.1, ())
def sDk (p : Bk → Bool) (f : Op → Bk → Int × Bk) : CSpec := .pos nDk (fun _ h => p (ofK h)) fun xs h => (((f xs.2.1 (ofK h)).1, ()), hdO (jOf h) (f xs.2.1 (ofK h)).2)
abbrev tK (B : Ty) : Ty := .prod (.ptr 2 []) (.prod B .unit)
abbrev gE : List ETy := [.box (stT 1 2), .vec 2 u8, .box (jT 0 3 2), .vec 2 bt]
abbrev xE : List ETy := gE ++ [.box (tK tB), .dead]
abbrev rE : List ETy := [.box (stT 1 2), .vec 2 u8, .dead, .dead, .dead, .dead]
abbrev lbt : Ty := .imm true false bt
def SKo : RSpec := ⟨[6, 26, 27, 28], 49, [.ptr 4 [], lbt, i64, i64], gE ++ [.box (tK (tBo 6 7 1)), .dead, .vec 1 tEnt, .vec 1 w16],
 [.box (stT 1 1), .vec 1 u8, .box (jT 0 3 1), .vec 1 bt, .box (tK (.prod .nils (.prod .nils (.prod i64 (.prod w16 .unit))))), .vec 0 bt], [.pth 4 [.fld 1, .fld 0] tEnt, .pth 4 [.fld 1, .fld 1] w16],
 fun x => match x with | .ret => ([2, 3], [.nilp, i64], rE) | _ => ([6], [.ptr 4 []], xE)⟩
noncomputable def bKo : Code := loopAt Try.f68 0
def kst (h : JD) (b : Bk) : HD SKo.Es := (h.2.1, h.2.2.2.1, h.1, h.2.2.1, ((), ((), (), b.2.2.1, b.2.2.2.1, ()), ()), b.1, b.2.1, ())
def exK (h : JD) (b : Bk) : Ex × St := (.exit 0, encS [6] [.ptr 4 []] xE 49 ((), ()) (h.2.1, h.2.2.2.1, h.1, h.2.2.1, ((), b, ()), ()))
def erK (h : JD) : Ex × St := (.ret, encS [2, 3] [.nilp, i64] rE 49 ((), 9, ()) (h.2.1, h.2.2.2.1, ()))
abbrev Rf := List Int → Op × Int × Unit
def cKo (rd : Rf) (p : Bk → Bool) (f : Op → Bk → Int × Bk) : List (Nat × CSpec) := [(50, sRd rd), (102, sDk p f)]
def GKo (rd : Rf) (p : Bk → Bool) (f : Op → Bk → Int × Bk) (l : List (List Int)) (h : JD) (b : Bk) (n i : Int) : Tr SKo.End :=
 let x := l.getD i.toNat []
 .ite (decide (i < n)) (.chk (inArr i l.length) (.chk (okL x) (.ite (!decide ((rd x).2.1 = 0)) (.ret (.inr (erK h))) (.chk (p b) (.ite (!decide ((f (rd x).1 b).1 = 0)) (.ret (.inr (erK h))) (.ret (.inl (((), l, n, w (i + 1), ()), kst h (f (rd x).1 b).2))))))))
  (.ret (.inr (exK h b)))
theorem rKo (rd : Rf) (p : Bk → Bool) (f : Op → Bk → Int × Bk) (l : List (List Int)) (h : JD) (b : Bk) (n i : Int) :
  (SKo.round (bodyK Try.prog (ctx (cKo rd p f)) L0 bKo) ((), l, n, i, ()) (kst h b)).eval = (GKo rd p f l h b n i).eval := by kernel_rfl
end Go.Proofs.Ytffdkniccaebmaa.Bok
end
section
set_option linter.unusedVariables false
set_option linter.unusedSimpArgs false
set_option maxRecDepth 100000
namespace Go.Proofs.Ytffdkniccaebmaa.Bok
open Go Vse Go.Proofs Gen
open Jnl (jT JD RJ Hop oE nOk sRc nRc)
open Sto (stT D)
abbrev LL := List (List Int)
abbrev Cko := LL → Bk → Int → Int → Bool
def FKo (c : Cko) (bad : LL → Bool) (bk : LL → Bk) (xs : HL SKo.Ts) (hs : HD SKo.Es) : Tr (Ex × St) :=
 let h : JD := (hs.2.2.1, hs.1, hs.2.2.2.1, hs.2.1, ())
 let b : Bk := (hs.2.2.2.2.2.1, hs.2.2.2.2.2.2.1, hs.2.2.2.2.1.2.1.2.2.1, hs.2.2.2.2.1.2.1.2.2.2.1, ())
 .chk (c xs.2.1 b xs.2.2.1 xs.2.2.2.1) (.ite (bad xs.2.1) (.ret (erK h)) (.ret (exK h (bk xs.2.1))))
def LKo (c : Cko) (bad : LL → Bool) (bk : LL → Bk) : Loops := fun j st => if j = 6 then SKo.fn (FKo c bad bk) st else .fail
abbrev kE : List ETy := Sto.sE 1 ++ [.box (jT 0 3 1), .vec 1 bt, .box (tK tB)]
abbrev nKo : PSpec := ⟨[.ptr 0 []], [.ptr 4 [], i64], Sto.sE 0, kE, []⟩
abbrev HK := HD kE
def hK (h : Hop) (b : Bk) : HK := (h.1, h.2.1, h.2.2.1, h.2.2.2.1, ((), b, ()), ())
def bk0 : Bk := ([], [], 0, z16, ())
def cKp (p : D → Bool) (f : D → Hop) (pr : LL → Bool) : List (Nat × CSpec) :=
 [(42, .pos nOk (fun _ d => p d) fun _ d => (((), 0, ()), f d)), (48, .pos nRc (fun _ h => pr h.2.2.1) fun _ h => (((), ()), (h.1, h.2.1, h.2.2.1, h.2.2.2.1, h.2.2.1, ())))]
def TKo (p : D → Bool) (f : D → Hop) (pr : LL → Bool) (c : Cko) (bad : LL → Bool) (bk : LL → Bk) (d : D) : Tr nKo.Out :=
 let l := (f d).2.2.2.1
 .chk (p d) (.chk (pr l) (.chk (c l bk0 (l.length : Int) 0) (.ite (bad l) .fail (.ret (((), 0, ()), hK (f d) (bk l))))))
theorem tKo (p : D → Bool) (f : D → Hop) (pr : LL → Bool) (c : Cko) (bad : LL → Bool) (bk : LL → Bk) (d : D) : (fnP Try.prog (ctx (cKp p f pr)) (LKo c bad bk) nKo Try.f68 ((), ()) d).eval = (TKo p f pr c bad bk d).eval := by kernel_rfl
noncomputable def bPk : Code := loopAt Try.f74 0
abbrev pE : List ETy := kR 0 ++ [.dead, .vec 0 bt]
def SPk : RSpec := ⟨[0, 3, 12, 13, 14], 37, [.ptr 0 [], .vc 6 0, lOp, i64, i64], pE, kR 0 ++ [.vec 0 tOp], [.slot 3 bt], fun x => match x with | .ret => ([2], [i64], kR 0 ++ [.dead]) | _ => ([0, 3], [.ptr 0 [], .vc 6 0], pE)⟩
def hdP (h : JD) (b : Bk) (o : LL) : HD pE := (((), b, ()), h.1, h.2.1, h.2.2.1, h.2.2.2.1, o, ())
def GPk (P : Op → Rs) (h : JD) (b : Bk) (o : LL) (l : List Op) (n i : Int) : Tr SPk.End :=
 let x := l.getD i.toNat (dflt tOp)
 .ite (decide (i < n)) (.chk (inArr i l.length) (.ite (!decide ((P x).2.1 = 0)) (.ret (.inr (.ret, encS [2] [i64] (kR 0 ++ [.dead]) 37 ((P x).2.1, ()) (hdR h b)))) (.chk (Vse.room (o.length + 1) 24) (.ret (.inl (((), (), l, n, w (i + 1), ()), hdP h b (o ++ [(P x).1])))))))
  (.ret (.inr (.exit 0, encS [0, 3] [.ptr 0 [], .vc 6 0] pE 37 ((), (), ()) (hdP h b o))))
theorem rPk (P : Op → Rs) (h : JD) (b : Bk) (o : LL) (l : List Op) (n i : Int) : (SPk.round (bodyK Try.prog (ctx [(52, sPu P)]) L0 bPk) ((), (), l, n, i, ()) (hdP h b o)).eval = (GPk P h b o l n i).eval := by kernel_rfl
abbrev Cpk := LL → List Op → Int → Int → Bool
def FPk (c : Cpk) (f : List Op → LL) (xs : HL SPk.Ts) (hs : HD SPk.Es) : Tr (Ex × St) :=
 let h : JD := (hs.2.1, hs.2.2.1, hs.2.2.2.1, hs.2.2.2.2.1, ())
 .chk (c hs.2.2.2.2.2.1 xs.2.2.1 xs.2.2.2.1 xs.2.2.2.2.1) (.ret (.exit 0, encS [0, 3] [.ptr 0 [], .vc 6 0] pE 37 ((), (), ()) (hdP h hs.1.2.1 (f xs.2.2.1))))
def LPk (c : Cpk) (f : List Op → LL) : Loops := fun j st => if j = 3 then SPk.fn (FPk c f) st else .fail
abbrev nPk : PSpec := ⟨[.ptr 0 []], [i64], kR 0, kR 1, []⟩
def cPk (p : Bk → Bool) (os : Bk → List Op) (P : Op → Rs) (po : LL → Bool) (on : LL → JD → RJ) : List (Nat × CSpec) :=
 [(61, sOs p os), (52, sPu P), (44, .pos (Jnl.nJ [Gen.ls] [i64] 1) (fun xs _ => po xs.2.1) fun xs h => on xs.2.1 h)]
def TPk (p : Bk → Bool) (os : Bk → List Op) (c : Cpk) (f : List Op → LL) (po : LL → Bool) (on : LL → JD → RJ) (h : JD) (b : Bk) : Tr nPk.Out :=
 .chk (p b) (.chk (c [] (os b) ((os b).length : Int) 0) (.chk (po (f (os b))) (.ret (((on (f (os b)) h).1.1, ()), hdR (on (f (os b)) h).2 b))))
theorem tPk (p : Bk → Bool) (os : Bk → List Op) (P : Op → Rs) (c : Cpk) (f : List Op → LL) (po : LL → Bool) (on : LL → JD → RJ) (h : JD) (b : Bk) :
  (fnP Try.prog (ctx (cPk p os P po on)) (LPk c f) nPk Try.f74 ((), ()) (hdR h b)).eval = (TPk p os c f po on h b).eval := by kernel_rfl
end Go.Proofs.Ytffdkniccaebmaa.Bok
end
section
set_option linter.unusedVariables false
set_option linter.unusedSimpArgs false
set_option maxRecDepth 100000
namespace Go.Proofs.Ytffdkniccaebmaa.Bok
open Go Vse Go.Proofs Gen
open Jnl (jT JD RJ Hop oE nOk sRc nRc addF addP onF onP opP opOk opF okR)
open Sto (stT D)
theorem done_len (x : Op) (b : Bk) : (doneF x b).2.1.length ≤ b.1.length + 1 ∧ (doneF x b).2.2.1.length ≤ b.2.1.length + 1 := by
 unfold doneF
 split
 ·split
  ·exact ⟨Nat.le_succ _, Nat.le_succ _⟩
  split
  ·exact ⟨Nat.le_succ _, Nat.le_succ _⟩
  ·exact ⟨by rw [List.length_append]; exact Nat.le_refl _, Nat.le_succ _⟩
 split
 ·split
  ·refine ⟨?_, Nat.le_succ _⟩
   show (_ ++ _ : List En).length ≤ _
   rw [List.length_append, List.length_take, List.length_drop]; omega
  ·exact ⟨Nat.le_succ _, Nat.le_succ _⟩
 split
 ·split
  ·refine ⟨?_, Nat.le_succ _⟩
   show (List.set _ _ _ : List En).length ≤ _
   rw [List.length_set]; exact Nat.le_succ _
  ·exact ⟨Nat.le_succ _, Nat.le_succ _⟩
 split
 ·split
  ·exact ⟨Nat.le_succ _, Nat.le_succ _⟩
  split
  ·exact ⟨Nat.le_succ _, Nat.le_succ _⟩
  ·exact ⟨Nat.le_succ _, by show (_ ++ _ : List (List Int)).length ≤ _; rw [List.length_append]; exact Nat.le_refl _⟩
 split
 ·split
  ·exact ⟨Nat.le_succ _, Nat.le_succ _⟩
  ·exact ⟨Nat.le_succ _, Nat.le_succ _⟩
 ·exact ⟨Nat.le_succ _, Nat.le_succ _⟩
theorem okDk : CSound Try.prog 102 (sDk okB doneF) ∧ CLocal (sDk okB doneF) :=
 pos_sound (L := L0) (C := ctx (cDn idxE hasW)) (ctx_sound ⟨okFi, okDd, okDel, trivial⟩) Try.func102 (by kernel_rfl) (noLoopsL (by kernel_rfl)) fun xs hs hx hh hp => by
  obtain ⟨u, x, u'⟩ := xs
  have hp : okB (ofK hs) = true := hp
  refine (tDk idxE hasW (jOf hs) (ofK hs) x).trans ?_
  rw [Tr.eval_bind, GDn_eq x (ofK hs) hp]
  rfl
abbrev rd1 : Rf := rdT tk1
def reb : LL → Bk → Option Bk
 | [], b => some b
 | x :: l, b => if (rd1 x).2.1 = 0 ∧ (doneF (rd1 x).1 b).1 = 0 then reb l (doneF (rd1 x).1 b).2 else none
def outK (h : JD) : Option Bk → Ex × St
 | some b => exK h b
 | none => erK h
theorem mKo (h : JD) (l : LL) (hl : l.length ≤ 400000) (ha : l.all okL = true) : ∀ (m k : Nat) (b : Bk), k + m = l.length → b.1.length + m ≤ 1000000 → b.2.1.length + m ≤ 1000000 →
  SKo.many (bodyK Try.prog (ctx (cKo rd1 okB doneF)) L0 bKo) (m + 1) ((), l, (l.length : Int), (k : Int), ()) (kst h b) = some (outK h (reb (l.drop k) b))
 | 0, k, b, hk, h1, h2 => by
  rw [List.drop_eq_nil_of_le (by omega)]
  refine rmany_inr ((rKo rd1 okB doneF l h b _ _).trans ?_) 0
  unfold GKo
  dsimp only
  rw [ite_f (decide_eq_false (by omega))]
  rfl
 | m + 1, k, b, hk, h1, h2 => by
  have hk1 : k < l.length := by omega
  have hc : okL l[k] = true := List.all_eq_true.1 ha _ (List.getElem_mem hk1)
  have hb : okB b = true := by unfold okB; rw [decide_eq_true (show b.1.length ≤ 1000000 by omega), decide_eq_true (show b.2.1.length ≤ 1000000 by omega)]; rfl
  have hd := List.drop_eq_getElem_cons hk1
  obtain ⟨d1, d2⟩ := done_len (rd1 l[k]).1 b
  rw [hd, reb]
  by_cases he : (rd1 l[k]).2.1 = 0
  ·by_cases hf : (doneF (rd1 l[k]).1 b).1 = 0
   ·rw [if_pos ⟨he, hf⟩]
    refine (rmany_inl (d := (((), l, (l.length : Int), ((k + 1 : Nat) : Int), ()), kst h (doneF (rd1 l[k]).1 b).2)) ((rKo rd1 okB doneF l h b _ _).trans ?_) (m + 1)).trans (mKo h l hl ha m (k + 1) _ (by omega) (by omega) (by omega))
    unfold GKo
    dsimp only
    rw [Int.toNat_natCast, getD_of hk1, ite_t (decide_eq_true (by omega)), chk_eval (inArr_of hk1), chk_eval hc, ite_f (by rw [decide_eq_true he]; rfl), chk_eval hb, ite_f (by rw [decide_eq_true hf]; rfl), w_succ hk1 (by omega)]
    rfl
   ·rw [if_neg (fun hh => hf hh.2)]
    refine rmany_inr ((rKo rd1 okB doneF l h b _ _).trans ?_) _
    unfold GKo
    dsimp only
    rw [Int.toNat_natCast, getD_of hk1, ite_t (decide_eq_true (by omega)), chk_eval (inArr_of hk1), chk_eval hc, ite_f (by rw [decide_eq_true he]; rfl), chk_eval hb, ite_t (by rw [decide_eq_false hf]; rfl)]
    rfl
  ·rw [if_neg (fun hh => he hh.1)]
   refine rmany_inr ((rKo rd1 okB doneF l h b _ _).trans ?_) _
   unfold GKo
   dsimp only
   rw [Int.toNat_natCast, getD_of hk1, ite_t (decide_eq_true (by omega)), chk_eval (inArr_of hk1), chk_eval hc, ite_t (by rw [decide_eq_false he]; rfl)]
   rfl
def cKoF : Cko := fun l b n i => decide (n = (l.length : Int)) && (decide (i = 0) && (smF b bk0 && (decide (l.length ≤ 400000) && l.all okL)))
def badB (l : LL) : Bool := (reb l bk0).isNone
def bkF (l : LL) : Bk := (reb l bk0).getD bk0
theorem cKo_sound : CtxSound Try.prog (ctx (cKo rd1 okB doneF)) ∧ CtxLocal (ctx (cKo rd1 okB doneF)) := ctx_sound ⟨okRd, okDk, trivial⟩
theorem lKo : LoopOK Try.prog (LKo cKoF badB bkF) bKo :=
 rloop_ok (L := LKo cKoF badB bkF) (L' := L0) cKo_sound (loopsOK_of (by kernel_rfl)) SKo (F := FKo cKoF badB bkF) (i := 6) (by kernel_rfl) (fun _ => rfl) fun xs hs q hq => by
  obtain ⟨u1, l, n, i, u2⟩ := xs
  obtain ⟨sb, by_, jb, rs, ⟨u3, ⟨u4, u5, g, o, u6⟩, u7⟩, L, R, u8⟩ := hs
  obtain ⟨h1, h2⟩ := Tr.chk_some hq
  simp only [cKoF, Bool.and_eq_true, decide_eq_true_eq] at h1
  obtain ⟨e1, e2, e3, e4, e5⟩ := h1
  have e1 : n = (List.length (α := List Int) l : Int) := e1
  have e2 : i = ((0 : Nat) : Int) := e2
  have e3 : ((L, R, g, o, ()) : Bk) = bk0 := (sm_iff _ _).1 e3
  have eL : L = ([] : List En) := congrArg (·.1) e3
  have eR : R = ([] : LL) := congrArg (·.2.1) e3
  have eg : g = (0 : Int) := congrArg (·.2.2.1) e3
  have eo : o = z16 := congrArg (·.2.2.2.1) e3
  subst e1; subst e2; subst eL; subst eR; subst eg; subst eo
  refine ⟨_, (mKo (jb, sb, rs, by_, ()) l e4 e5 (List.length (α := List Int) l) 0 bk0 (by omega) (by show 0 + _ ≤ _; omega) (by show 0 + _ ≤ _; omega)).trans ?_⟩
  rw [List.drop_zero]
  rcases Tr.ite_some h2 with ⟨hx, h3⟩ | ⟨hx, h3⟩
  ·have hx : badB l = true := hx
   unfold badB at hx
   rw [Option.isNone_iff_eq_none.1 hx]
   exact congrArg some (Tr.ret_some h3)
  ·have hx : badB l = false := hx
   unfold badB at hx
   have h3 := Tr.ret_some h3
   cases hs : reb l bk0 with
   | none => rw [hs] at hx; cases hx
   | some p =>
    rw [← h3]
    show some (exK (jb, sb, rs, by_, ()) p) = some (exK (jb, sb, rs, by_, ()) (bkF l))
    rw [show bkF l = p by unfold bkF; rw [hs]; rfl]
def jF (d : D) : Hop := (opF d).2
def koP (d : D) : Bool := (opP d && opOk d) && (okR (jF d).2.2.2.1 && (decide ((jF d).2.2.2.1.length ≤ 400000) && !badB (jF d).2.2.2.1))
def koF (d : D) : HK := hK (jF d) (bkF (jF d).2.2.2.1)
theorem TKo_eq {d : D} (hp : koP d = true) : (TKo (fun d => opP d && opOk d) jF okR cKoF badB bkF d).eval = some (((), 0, ()), koF d) := by
 unfold koP at hp
 rw [Bool.and_eq_true, Bool.and_eq_true (okR _), Bool.and_eq_true (decide _), Bool.not_eq_true', decide_eq_true_eq] at hp
 obtain ⟨h1, h2, h3, h4⟩ := hp
 have h5 : (jF d).2.2.2.1.all okL = true := by unfold okR at h2; rw [Bool.and_eq_true] at h2; exact h2.2
 have h6 : cKoF (jF d).2.2.2.1 bk0 ((jF d).2.2.2.1.length : Int) 0 = true := by
  unfold cKoF
  rw [h5, decide_eq_true h3, (sm_iff bk0 bk0).2 rfl]; simp
 unfold TKo
 dsimp only
 rw [chk_eval h1, chk_eval h2, chk_eval h6, ite_f h4]
 rfl
def sKo : CSpec := .pos nKo (fun _ d => koP d) fun _ d => (((), 0, ()), koF d)
theorem okKo : CSound Try.prog 68 sKo ∧ CLocal sKo :=
 pos_sound (L := LKo cKoF badB bkF) (C := ctx (cKp (fun d => opP d && opOk d) jF okR)) (ctx_sound ⟨Jnl.okOk, Jnl.okRc, trivial⟩) Try.func68 (by kernel_rfl) (loops1 (by kernel_rfl) lKo) fun xs hs hx hh hp => (tKo _ jF okR cKoF badB bkF hs).trans (TKo_eq hp)
def jR (h : HD (kR 0)) : JD := (h.2.1, h.2.2.1, h.2.2.2.1, h.2.2.2.2.1, ())
def bR (h : HD (kR 0)) : Bk := h.1.2.1
def doF (h : JD) (b : Bk) (x : Op) : Int × JD × Bk :=
 if (applyF b x).2 = 0 then (if (addF (putF x).1 h).1.1 = 0 then (0, (addF (putF x).1 h).2, (applyF b x).1) else ((addF (putF x).1 h).1.1, (addF (putF x).1 h).2, b)) else ((applyF b x).2, h, b)
def doP (h : JD) (b : Bk) (x : Op) : Bool := okB b && (!decide ((applyF b x).2 = 0) || addP (putF x).1 h)
theorem apply_rt {b : Bk} {x : Op} (h : (applyF b x).2 = 0) : rtF x = true := by
 unfold applyF at h
 cases hr : rtF x with
 | true => rfl
 | false => rw [hr, if_neg (by simp)] at h; cases h
theorem TDo_eq (h : JD) (b : Bk) (x : Op) (hp : doP h b x = true) : (TDo okB applyF putF addP addF h b x).eval = some (doF h b x) := by
 unfold doP at hp
 rw [Bool.and_eq_true] at hp
 unfold TDo doF
 rw [chk_eval hp.1]
 by_cases h0 : (applyF b x).2 = 0
 ·have hr := apply_rt h0
  have hp2 : (putF x).2.1 = 0 := by unfold putF; rw [if_pos hr]
  have ha : addP (putF x).1 h = true := by have := hp.2; rw [decide_eq_true h0] at this; exact this
  rw [ite_f (by rw [decide_eq_true h0]; rfl), if_pos h0, ite_f (by rw [decide_eq_true hp2]; rfl), chk_eval ha]
  by_cases h1 : (addF (putF x).1 h).1.1 = 0
  ·rw [ite_f (by rw [decide_eq_true h1]; rfl), if_pos h1]; rfl
  ·rw [ite_t (by rw [decide_eq_false h1]; rfl), if_neg h1]; rfl
 ·rw [ite_t (by rw [decide_eq_false h0]; rfl), if_neg h0]; rfl
def sDo : CSpec := .pos nDo (fun xs h => doP (jR h) (bR h) xs.2.1) fun xs h => (((doF (jR h) (bR h) xs.2.1).1, ()), hdR (doF (jR h) (bR h) xs.2.1).2.1 (doF (jR h) (bR h) xs.2.1).2.2)
theorem okDo : CSound Try.prog 72 sDo ∧ CLocal sDo :=
 pos_sound (L := L0) (C := ctx (cDo okB applyF putF addP addF)) (ctx_sound ⟨okAp, okPu, Jnl.okAd, trivial⟩) Try.func72 (by kernel_rfl) (noLoopsL (by kernel_rfl)) fun xs hs hx hh hp => by
  obtain ⟨u, x, u'⟩ := xs
  refine (tDo okB applyF putF addP addF (jR hs) (bR hs) x).trans ?_
  rw [Tr.eval_bind, TDo_eq (jR hs) (bR hs) x hp]
  rfl
def sBo : CSpec := .pos nBo (fun _ h => okB (bR h)) fun _ h => ((bR h, ()), h)
theorem okBo : CSound Try.prog 77 sBo ∧ CLocal sBo :=
 pos_sound (L := L0) (C := ctx [(101, sCo okB)]) (ctx_sound ⟨okCo, trivial⟩) Try.func77 (by kernel_rfl) (noLoopsL (by kernel_rfl)) fun xs hs hx hh hp => (tBo' okB (jR hs) (bR hs)).trans (chk_eval hp _)
def cPkF : Cpk := fun o l n i => decide (o.length = 0) && (decide (n = (l.length : Int)) && (decide (i = 0) && (decide (l.length ≤ 400000) && l.all rtF)))
abbrev putL (l : List Op) : LL := l.map fun x => (putF x).1
theorem put_rt {x : Op} (h : rtF x = true) : (putF x).2.1 = 0 := by unfold putF; rw [if_pos h]
theorem mPk (h : JD) (b : Bk) (l : List Op) (hl : l.length ≤ 400000) (ha : l.all rtF = true) : ∀ (m k : Nat), k + m = l.length →
  SPk.many (bodyK Try.prog (ctx [(52, sPu putF)]) L0 bPk) (m + 1) ((), (), l, (l.length : Int), (k : Int), ()) (hdP h b (putL (l.take k))) = some (.exit 0, encS [0, 3] [.ptr 0 [], .vc 6 0] pE 37 ((), (), ()) (hdP h b (putL l)))
 | 0, k, hk => by
  rw [List.take_of_length_le (by omega)]
  refine rmany_inr ((rPk putF h b _ l _ _).trans ?_) 0
  unfold GPk
  dsimp only
  rw [ite_f (decide_eq_false (by omega))]
  rfl
 | m + 1, k, hk => by
  have h1 : k < l.length := by omega
  have hr : rtF l[k] = true := List.all_eq_true.1 ha _ (List.getElem_mem h1)
  have ht : putL (l.take k) ++ [(putF l[k]).1] = putL (l.take (k + 1)) := by unfold putL; rw [List.take_add_one, List.getElem?_eq_getElem h1, List.map_append]; rfl
  refine (rmany_inl (d := (((), (), l, (l.length : Int), ((k + 1 : Nat) : Int), ()), hdP h b (putL (l.take (k + 1))))) ((rPk putF h b _ l _ _).trans ?_) (m + 1)).trans (mPk h b l hl ha m (k + 1) (by omega))
  unfold GPk
  dsimp only
  rw [Int.toNat_natCast, getD_of h1, ite_t (decide_eq_true (by omega)), chk_eval (inArr_of h1), ite_f (by rw [decide_eq_true (put_rt hr)]; rfl), chk_eval (by simp only [Vse.room, decide_eq_true_eq, putL, List.length_map, List.length_take]; omega), ht, w_succ h1 (by omega)]
  rfl
theorem lPk : LoopOK Try.prog (LPk cPkF putL) bPk :=
 rloop_ok (L := LPk cPkF putL) (L' := L0) (ctx_sound (l := [(52, sPu putF)]) ⟨okPu, trivial⟩) (loopsOK_of (by kernel_rfl)) SPk (F := FPk cPkF putL) (i := 3) (by kernel_rfl) (fun _ => rfl) fun xs hs q hq => by
  obtain ⟨u1, u2, l, n, i, u3⟩ := xs
  obtain ⟨⟨u4, b, u5⟩, jb, sb, rs, by_, o, u6⟩ := hs
  obtain ⟨h1, h2⟩ := Tr.chk_some hq
  simp only [cPkF, Bool.and_eq_true, decide_eq_true_eq] at h1
  obtain ⟨e0, e1, e2, e3, e4⟩ := h1
  have e0 : o = ([] : LL) := List.eq_nil_of_length_eq_zero e0
  have e1 : n = (List.length (α := Op) l : Int) := e1
  have e2 : i = ((0 : Nat) : Int) := e2
  subst e0; subst e1; subst e2
  exact ⟨_, (mPk (jb, sb, rs, by_, ()) b l e3 e4 (List.length (α := Op) l) 0 (by omega)).trans (congrArg some (Tr.ret_some h2))⟩
def pkP (b : Bk) : Bool := okB b && (decide ((opsF b).length ≤ 400000) && (opsF b).all rtF)
def pkF (h : JD) (b : Bk) : RJ := onF (putL (opsF b)) h
theorem TPk_eq (h : JD) (b : Bk) (hp : pkP b = true) : (TPk okB opsF cPkF putL onP onF h b).eval = some (((pkF h b).1.1, ()), hdR (pkF h b).2 b) := by
 unfold pkP at hp
 rw [Bool.and_eq_true, Bool.and_eq_true (decide _), decide_eq_true_eq] at hp
 obtain ⟨h1, h2, h3⟩ := hp
 unfold TPk
 rw [chk_eval h1, chk_eval (by unfold cPkF; rw [h3, decide_eq_true h2]; simp), chk_eval (show onP (putL (opsF b)) = true by unfold onP putL; rw [List.length_map]; exact decide_eq_true (by omega))]
 rfl
def sPk : CSpec := .pos nPk (fun _ h => pkP (bR h)) fun _ h => (((pkF (jR h) (bR h)).1.1, ()), hdR (pkF (jR h) (bR h)).2 (bR h))
theorem okPk : CSound Try.prog 74 sPk ∧ CLocal sPk :=
 pos_sound (L := LPk cPkF putL) (C := ctx (cPk okB opsF putF onP onF)) (ctx_sound ⟨okOs, okPu, Jnl.okOn, trivial⟩) Try.func74 (by kernel_rfl) (loops1 (by kernel_rfl) lPk) fun xs hs hx hh hp => (tPk okB opsF putF cPkF putL onP onF (jR hs) (bR hs)).trans (TPk_eq (jR hs) (bR hs) hp)
end Go.Proofs.Ytffdkniccaebmaa.Bok
end
section
set_option linter.unusedVariables false
set_option linter.unusedSimpArgs false
set_option maxRecDepth 100000
namespace Go.Proofs.Ytffdkniccaebmaa.Bok
open Go Vse Go.Proofs Gen
open Fld (nameI)
theorem hasE_iff {l : List En} {s : ByteArray} : hasE l s = true ↔ s ∈ l.map (·.1) := by
 unfold hasE
 rw [List.any_eq_true, List.mem_map]
 constructor
 ·rintro ⟨e, he, h⟩; exact ⟨e, he, (MapKept.bytes_beq _ _).1 h⟩
 ·rintro ⟨e, he, h⟩; exact ⟨e, he, (MapKept.bytes_beq _ _).2 h⟩
theorem hasW_iff {l : List (List Int)} {s : List Int} : hasW l s = true ↔ s ∈ l := by
 unfold hasW
 rw [List.any_eq_true]
 constructor
 ·rintro ⟨b, hb, h⟩; rw [(eqT_iff w16 s b (by decide)).1 h]; exact hb
 ·intro h; exact ⟨s, h, eqw_self s⟩
structure Inv (b : Bk) : Prop where
 nd : (b.1.map (·.1)).Nodup
 nm : ∀ e ∈ b.1, nameI e.1 = true
 ln : b.1.length ≤ 50
 rd : b.2.1.Nodup
 rl : b.2.1.length ≤ 200
 g0 : 0 ≤ b.2.2.1
 g1 : b.2.2.1 ≤ 2147483647
 gz : b.2.2.1 = 0 → b.2.2.2.1 = z16
theorem inv0 : Inv bk0 := ⟨List.nodup_nil, fun e he => (by cases he), by decide, List.nodup_nil, by decide, by decide, by decide, fun _ => rfl⟩
theorem inv_ok {b : Bk} (h : Inv b) : okB b = true := by
 unfold okB
 have := h.ln
 have := h.rl
 rw [decide_eq_true (show b.1.length ≤ 1000000 by omega), decide_eq_true (show b.2.1.length ≤ 1000000 by omega)]; rfl
theorem rt_nm {x : Op} (h : rtF x = true) (h1 : x.1 = 1 ∨ x.1 = 2 ∨ x.1 = 3) : nameI x.2.1 = true := by
 unfold rtF at h
 split at h
 ·rw [Bool.and_eq_true] at h; exact h.1
 split at h
 ·rw [Bool.and_eq_true] at h; exact h.1
 split at h
 ·rw [Bool.and_eq_true] at h; exact h.1
 ·rename_i a b c
  rcases h1 with h1 | h1 | h1
  ·exact absurd h1 a
  ·exact absurd h1 c
  ·exact absurd h1 b
theorem rt_gen {x : Op} (h : rtF x = true) (h1 : x.1 = 5) : 1 ≤ x.2.2.2.1 ∧ x.2.2.2.1 ≤ 2147483647 := by
 obtain ⟨k, s, key, n, u⟩ := x
 have h1 : k = 5 := h1
 subst h1
 have h : ((s == e0) && (decide (n ≥ 1) && decide (n ≤ 2147483647))) = true := h
 simp only [Bool.and_eq_true, decide_eq_true_eq] at h
 exact ⟨h.2.1, h.2.2⟩
theorem nodup_snoc {α : Type} {l : List α} {x : α} (h : l.Nodup) (hx : x ∉ l) : (l ++ [x]).Nodup :=
 List.nodup_append.2 ⟨h, List.nodup_cons.2 ⟨by simp, List.nodup_nil⟩, fun a ha b hb hab => hx (by rw [List.mem_singleton.1 hb] at hab; rw [← hab]; exact ha)⟩
theorem inv_done {b : Bk} {x : Op} (h : Inv b) (hr : rtF x = true) : Inv (doneF x b).2 := by
 obtain ⟨L, r, g, o, u⟩ := b
 obtain ⟨k, s, key, n, u'⟩ := x
 unfold doneF
 dsimp only
 split
 ·rename_i h1
  split
  ·exact h
  split
  ·exact h
  ·rename_i h2 h3
   have hn : s ∉ L.map (·.1) := fun hm => h2 (hasE_iff.2 hm)
   have hln : L.length ≤ 50 := h.ln
   refine ⟨?_, ?_, ?_, h.rd, h.rl, h.g0, h.g1, h.gz⟩
   ·show ((L ++ [(s, key, ())]).map (·.1)).Nodup
    rw [List.map_append]
    exact nodup_snoc h.nd hn
   ·intro e he
    rcases List.mem_append.1 he with he | he
    ·exact h.nm e he
    ·rw [List.mem_singleton.1 he]; exact rt_nm hr (.inl h1)
   ·show (L ++ [(s, key, ())]).length ≤ 50
    rw [List.length_append, List.length_singleton]; omega
 split
 ·split
  ·have hsub : (L.take (L.findIdx fun e => e.1 == s) ++ L.drop ((L.findIdx fun e => e.1 == s) + 1)).Sublist L := by
    generalize (L.findIdx fun e => e.1 == s) = i
    have h1 : (L.drop (i + 1)).Sublist (L.drop i) := by
     rw [show L.drop (i + 1) = (L.drop i).drop 1 by rw [List.drop_drop]]
     exact List.drop_sublist _ _
    have h2 := List.Sublist.append (List.Sublist.refl (L.take i)) h1
    rwa [List.take_append_drop] at h2
   refine ⟨?_, ?_, ?_, h.rd, h.rl, h.g0, h.g1, h.gz⟩
   ·exact (hsub.map (·.1)).nodup h.nd
   ·intro e he; exact h.nm e (hsub.subset he)
   ·exact Nat.le_trans hsub.length_le h.ln
  ·exact h
 split
 ·split
  ·rename_i hq
   obtain ⟨a1, a2⟩ := has_at hq
   have hm : (L.set (L.findIdx fun e => e.1 == s) (s, key, ())).map (·.1) = L.map (·.1) := by
    rw [List.map_set]
    have e1 : (L.map (·.1))[L.findIdx fun e => e.1 == s]? = some s := by
     rw [List.getElem?_map, List.getElem?_eq_getElem a1, Option.map_some, a2]
    refine List.ext_getElem? fun i => ?_
    rw [List.getElem?_set]
    split
    ·rename_i hi
     subst hi
     rw [if_pos (by rw [List.length_map]; exact a1), e1]
    ·rfl
   refine ⟨?_, ?_, ?_, h.rd, h.rl, h.g0, h.g1, h.gz⟩
   ·show ((L.set _ _).map (·.1)).Nodup
    rw [hm]; exact h.nd
   ·intro e he
    rcases List.mem_or_eq_of_mem_set he with he | he
    ·exact h.nm e he
    ·rw [he]
     have := h.nm _ (List.getElem_mem a1)
     rw [a2] at this
     exact this
   ·show (L.set _ _).length ≤ 50
    rw [List.length_set]; exact h.ln
  ·exact h
 split
 ·split
  ·exact h
  split
  ·exact h
  ·rename_i h2 h3
   have hn : key ∉ r := fun hm => h2 (hasW_iff.2 hm)
   have hrl : r.length ≤ 200 := h.rl
   refine ⟨h.nd, h.nm, h.ln, nodup_snoc h.rd hn, ?_, h.g0, h.g1, h.gz⟩
   show (r ++ [key]).length ≤ 200
   rw [List.length_append, List.length_singleton]; omega
 split
 ·rename_i h5
  split
  ·exact h
  ·rename_i h6
   have := rt_gen hr h5
   have h61 : 1 ≤ n := this.1
   have h62 : n ≤ 2147483647 := this.2
   exact ⟨h.nd, h.nm, h.ln, h.rd, h.rl, by show 0 ≤ n; omega, h62, fun h0 => by have h0 : n = 0 := h0; omega⟩
 ·exact h
def apAll : List Op → Bk → Bk
 | [], b => b
 | x :: l, b => apAll l (applyF b x).1
def allOk : List Op → Bk → Bool
 | [], _ => true
 | x :: l, b => decide ((applyF b x).2 = 0) && allOk l (applyF b x).1
theorem apAll_append : ∀ (l m : List Op) (b : Bk), apAll (l ++ m) b = apAll m (apAll l b)
 | [], m, b => rfl
 | x :: l, m, b => apAll_append l m _
theorem allOk_append : ∀ (l m : List Op) (b : Bk), allOk (l ++ m) b = (allOk l b && allOk m (apAll l b))
 | [], m, b => by show allOk m b = (true && allOk m b); rw [Bool.true_and]
 | x :: l, m, b => by
  show (decide _ && allOk (l ++ m) _) = ((decide _ && allOk l _) && allOk m _)
  rw [allOk_append l m, Bool.and_assoc]; rfl
theorem rt_add {e : En} (h : nameI e.1 = true) : rtF (addO e) = true := by
 unfold rtF addO
 dsimp only
 rw [if_pos rfl, h]; rfl
theorem rt_rev (x : List Int) : rtF (revO x) = true := rfl
theorem ap_add {e : En} {b : Bk} (h : nameI e.1 = true) (hn : e.1 ∉ b.1.map (·.1)) (hl : b.1.length < 50) : applyF b (addO e) = ((b.1 ++ [e], b.2), 0) := by
 have hd : doneF (addO e) b = (0, b.1 ++ [e], b.2) := by
  unfold doneF addO
  dsimp only
  rw [if_pos rfl, if_neg (fun h => hn (hasE_iff.1 h)), if_neg (by omega)]
 unfold applyF
 rw [if_pos (rt_add h), hd]
 rfl
theorem ap_rev {x : List Int} {b : Bk} (hn : x ∉ b.2.1) (hl : b.2.1.length < 200) : applyF b (revO x) = ((b.1, b.2.1 ++ [x], b.2.2), 0) := by
 have hd : doneF (revO x) b = (0, b.1, b.2.1 ++ [x], b.2.2) := by
  unfold doneF revO
  dsimp only
  rw [if_neg (by decide), if_neg (by decide), if_neg (by decide), if_pos rfl, if_neg (fun h => hn (hasW_iff.1 h)), if_neg (by omega)]
 unfold applyF
 rw [if_pos (rt_rev x), hd]
 rfl
theorem ops_add : ∀ (L L0 : List En) (t : List (List Int) × Int × List Int × Unit), ((L0 ++ L).map (·.1)).Nodup → (∀ e ∈ L, nameI e.1 = true) → (L0 ++ L).length ≤ 50 →
  allOk (L.map addO) (L0, t) = true ∧ apAll (L.map addO) (L0, t) = (L0 ++ L, t)
 | [], L0, t, _, _, _ => ⟨rfl, by rw [List.append_nil]; rfl⟩
 | e :: L, L0, t, hd, hn, hl => by
  have e1 : L0 ++ e :: L = (L0 ++ [e]) ++ L := by rw [List.append_assoc]; rfl
  have hl' : L0.length < 50 := by rw [List.length_append, List.length_cons] at hl; omega
  have hne : e.1 ∉ L0.map (·.1) := fun hm => by
   rw [List.map_append] at hd
   exact (List.nodup_append.1 hd).2.2 _ hm e.1 (List.mem_map.2 ⟨e, List.mem_cons_self .., rfl⟩) rfl
  have ha := ap_add (b := (L0, t)) (hn e (List.mem_cons_self ..)) hne hl'
  obtain ⟨q1, q2⟩ := ops_add L (L0 ++ [e]) t (by rw [← e1]; exact hd) (fun x hx => hn x (List.mem_cons_of_mem _ hx)) (by rw [← e1]; exact hl)
  refine ⟨?_, ?_⟩
  ·show (decide ((applyF (L0, t) (addO e)).2 = 0) && allOk (L.map addO) (applyF (L0, t) (addO e)).1) = true
   rw [ha]
   exact q1
  ·show apAll (L.map addO) (applyF (L0, t) (addO e)).1 = _
   rw [ha, e1]
   exact q2
theorem ops_rev (L : List En) (t : Int × List Int × Unit) : ∀ (r r0 : List (List Int)), (r0 ++ r).Nodup → (r0 ++ r).length ≤ 200 →
  allOk (r.map revO) (L, r0, t) = true ∧ apAll (r.map revO) (L, r0, t) = (L, r0 ++ r, t)
 | [], r0, _, _ => ⟨rfl, by rw [List.append_nil]; rfl⟩
 | x :: r, r0, hd, hl => by
  have e1 : r0 ++ x :: r = (r0 ++ [x]) ++ r := by rw [List.append_assoc]; rfl
  have hl' : r0.length < 200 := by rw [List.length_append, List.length_cons] at hl; omega
  have hne : x ∉ r0 := fun hm => (List.nodup_append.1 hd).2.2 _ hm x (List.mem_cons_self ..) rfl
  have ha := ap_rev (b := (L, r0, t)) hne hl'
  obtain ⟨q1, q2⟩ := ops_rev L t r (r0 ++ [x]) (by rw [← e1]; exact hd) (by rw [← e1]; exact hl)
  refine ⟨?_, ?_⟩
  ·show (decide ((applyF (L, r0, t) (revO x)).2 = 0) && allOk (r.map revO) (applyF (L, r0, t) (revO x)).1) = true
   rw [ha]
   exact q1
  ·show apAll (r.map revO) (applyF (L, r0, t) (revO x)).1 = _
   rw [ha, e1]
   exact q2
theorem ops_make {b : Bk} (h : Inv b) : allOk (opsF b) bk0 = true ∧ apAll (opsF b) bk0 = b := by
 obtain ⟨L, r, g, o, u⟩ := b
 obtain ⟨a1, a2⟩ := ops_add L [] ([], 0, z16, ()) (by rw [List.nil_append]; exact h.nd) h.nm (by rw [List.nil_append]; exact h.ln)
 obtain ⟨b1, b2⟩ := ops_rev L (0, z16, ()) r [] (by rw [List.nil_append]; exact h.rd) (by rw [List.nil_append]; exact h.rl)
 rw [List.nil_append] at a2 b2
 have hg0 : 0 ≤ g := h.g0
 have hg1 : g ≤ 2147483647 := h.g1
 have hgz : g = 0 → o = z16 := h.gz
 have a1 : allOk (L.map addO) bk0 = true := a1
 have a2 : apAll (L.map addO) bk0 = (L, [], 0, z16, ()) := a2
 have e1 : apAll (L.map addO ++ r.map revO) bk0 = (L, r, 0, z16, ()) := by rw [apAll_append, a2, b2]
 have e2 : allOk (L.map addO ++ r.map revO) bk0 = true := by rw [allOk_append, a1, a2, b1]; rfl
 unfold opsF
 dsimp only
 generalize L.map addO ++ r.map revO = W at e1 e2
 rw [allOk_append, apAll_append, e1, e2]
 by_cases hg : g > 0
 ·rw [if_pos hg]
  have hr : rtF ((5, e0, o, g, ()) : Op) = true := by
   show ((e0 == e0) && (decide (g ≥ 1) && decide (g ≤ 2147483647))) = true
   rw [str_self, decide_eq_true (show g ≥ 1 by omega), decide_eq_true hg1]; rfl
  have hd : doneF (5, e0, o, g, ()) ((L, r, 0, z16, ()) : Bk) = (0, L, r, g, o, ()) := by
   unfold doneF
   dsimp only
   rw [if_neg (by decide), if_neg (by decide), if_neg (by decide), if_neg (by decide), if_pos rfl, if_neg (by omega)]
  have ha : applyF ((L, r, 0, z16, ()) : Bk) (5, e0, o, g, ()) = ((L, r, g, o, ()), 0) := by
   unfold applyF
   rw [if_pos hr, hd]
   rfl
  refine ⟨?_, ?_⟩
  ·show (true && (decide ((applyF ((L, r, 0, z16, ()) : Bk) (5, e0, o, g, ())).2 = 0) && true)) = true
   rw [ha]; rfl
  ·show (applyF ((L, r, 0, z16, ()) : Bk) (5, e0, o, g, ())).1 = _
   rw [ha]
 ·have h0 : g = 0 := by omega
  rw [if_neg hg]
  refine ⟨rfl, ?_⟩
  show ((L, r, 0, z16, ()) : Bk) = (L, r, g, o, ())
  rw [h0, hgz h0]
theorem ops_rt {b : Bk} (h : Inv b) : (opsF b).all rtF = true := by
 have hg1 := h.g1
 unfold opsF
 rw [List.all_append, List.all_append, Bool.and_eq_true, Bool.and_eq_true]
 refine ⟨⟨?_, ?_⟩, ?_⟩
 ·rw [List.all_map]; exact List.all_eq_true.2 fun e he => rt_add (h.nm e he)
 ·rw [List.all_map]; exact List.all_eq_true.2 fun x hx => rt_rev x
 ·split
  ·rename_i hg
   show (((e0 == e0) && (decide (b.2.2.1 ≥ 1) && decide (b.2.2.1 ≤ 2147483647))) && true) = true
   rw [str_self, decide_eq_true (show b.2.2.1 ≥ 1 by omega), decide_eq_true hg1]; rfl
  ·rfl
end Go.Proofs.Ytffdkniccaebmaa.Bok
end
section
set_option linter.unusedVariables false
set_option linter.unusedSimpArgs false
set_option maxRecDepth 100000
namespace Go.Proofs.Ytffdkniccaebmaa.Bok
open Go Vse Go.Proofs Gen
def smallB (b : Bk) : Bool := decide (b.1.length ≤ 50) && decide (b.2.1.length ≤ 200)
theorem TAr_eq (b : Bk) (x : Op) (hb : smallB b = true) : (TAr rtF idxE hasW b x).eval = some (((applyF b x).1, (applyF b x).2, ()), ()) := by
 unfold smallB at hb
 simp only [Bool.and_eq_true, decide_eq_true_eq] at hb
 obtain ⟨L, r, g, o, u⟩ := b
 obtain ⟨k, s, key, n, u'⟩ := x
 have hL : L.length ≤ 50 := hb.1
 have hr : r.length ≤ 200 := hb.2
 have hi : hasE L s = true → idxE L s = ((L.findIdx fun e => e.1 == s : Nat) : Int) := fun h => if_pos h
 have hn : hasE L s = false → idxE L s = -1 := fun h => if_neg (by rw [h]; simp)
 unfold TAr applyF
 dsimp only
 cases hrt : rtF (k, s, key, n, u') with
 | false => rw [ite_t (show (!false) = true from rfl), if_neg (by simp)]; rfl
 | true =>
  rw [ite_f (show (!true) = false from rfl), if_pos rfl, chk_eval (by simp only [Vse.room, decide_eq_true_eq]; omega), chk_eval (by simp only [Vse.room, decide_eq_true_eq]; omega)]
  by_cases h1 : k = 1
  ·rw [ite_t (by simp [h1])]
   cases hq : hasE L s with
   | true =>
    have hd : doneF (k, s, key, n, u') ((L, r, g, o, u) : Bk) = (5, L, r, g, o, u) := by unfold doneF; dsimp only; rw [if_pos h1, if_pos hq]
    rw [hi hq, ite_t (decide_eq_true (by omega)), hd]; rfl
   | false =>
    rw [hn hq, ite_f (by decide)]
    by_cases h5 : L.length = 50
    ·have hd : doneF (k, s, key, n, u') ((L, r, g, o, u) : Bk) = (7, L, r, g, o, u) := by unfold doneF; dsimp only; rw [if_pos h1, if_neg (by rw [hq]; simp), if_pos h5]
     rw [ite_t (decide_eq_true (by omega)), hd]; rfl
    ·have hd : doneF (k, s, key, n, u') ((L, r, g, o, u) : Bk) = (0, L ++ [(s, key, ())], r, g, o, u) := by unfold doneF; dsimp only; rw [if_pos h1, if_neg (by rw [hq]; simp), if_neg h5]
     rw [ite_f (decide_eq_false (by omega)), chk_eval (by simp only [Vse.room, decide_eq_true_eq]; omega), hd]; rfl
  rw [ite_f (by simp [h1])]
  by_cases h2 : k = 2
  ·rw [ite_t (by simp [h2]), ite_t (by simp [h2])]
   cases hq : hasE L s with
   | false =>
    have hd : doneF (k, s, key, n, u') ((L, r, g, o, u) : Bk) = (4, L, r, g, o, u) := by unfold doneF; dsimp only; rw [if_neg h1, if_pos h2, if_neg (by rw [hq]; simp)]
    rw [hn hq, ite_t (by decide), hd]; rfl
   | true =>
    have hd : doneF (k, s, key, n, u') ((L, r, g, o, u) : Bk) = (0, L.take (L.findIdx fun e => e.1 == s) ++ L.drop ((L.findIdx fun e => e.1 == s) + 1), r, g, o, u) := by unfold doneF; dsimp only; rw [if_neg h1, if_pos h2, if_pos hq]
    obtain ⟨a1, a2⟩ := has_at hq
    rw [hi hq, ite_f (decide_eq_false (by omega)), ite_t (by simp [h2]), chk_eval (by rw [Bool.and_eq_true, decide_eq_true_eq, decide_eq_true_eq]; omega), w_succ a1 (by omega), Int.toNat_natCast, Int.toNat_natCast, List.drop_zero, List.take_of_length_le (Nat.le_refl _),
     chk_eval (by simp only [Vse.room, decide_eq_true_eq, List.length_take]; omega), chk_eval (by simp only [Bool.and_eq_true, decide_eq_true_eq]; omega), chk_eval (by simp only [Vse.room, decide_eq_true_eq, List.length_take, List.length_drop]; omega), hd]
    rfl
  rw [ite_f (by simp [h2])]
  by_cases h3 : k = 3
  ·rw [ite_t (by simp [h3])]
   cases hq : hasE L s with
   | false =>
    have hd : doneF (k, s, key, n, u') ((L, r, g, o, u) : Bk) = (4, L, r, g, o, u) := by unfold doneF; dsimp only; rw [if_neg h1, if_neg h2, if_pos h3, if_neg (by rw [hq]; simp)]
    rw [hn hq, ite_t (by decide), hd]; rfl
   | true =>
    have hd : doneF (k, s, key, n, u') ((L, r, g, o, u) : Bk) = (0, L.set (L.findIdx fun e => e.1 == s) (s, key, ()), r, g, o, u) := by unfold doneF; dsimp only; rw [if_neg h1, if_neg h2, if_pos h3, if_pos hq]
    obtain ⟨a1, a2⟩ := has_at hq
    have hky := ky_eq (key := key) hq
    rw [hky, hi hq, ite_f (decide_eq_false (by omega)), ite_f (by simp [h2]), chk_eval (inArr_of a1), hd]
    rfl
  rw [ite_f (by simp [h3])]
  by_cases h4 : k = 4
  ·rw [ite_t (by simp [h4])]
   cases hq : hasW r key with
   | true =>
    have hd : doneF (k, s, key, n, u') ((L, r, g, o, u) : Bk) = (5, L, r, g, o, u) := by unfold doneF; dsimp only; rw [if_neg h1, if_neg h2, if_neg h3, if_pos h4, if_pos hq]
    rw [ite_t rfl, hd]; rfl
   | false =>
    rw [ite_f rfl]
    by_cases h5 : r.length = 200
    ·have hd : doneF (k, s, key, n, u') ((L, r, g, o, u) : Bk) = (7, L, r, g, o, u) := by unfold doneF; dsimp only; rw [if_neg h1, if_neg h2, if_neg h3, if_pos h4, if_neg (by rw [hq]; simp), if_pos h5]
     rw [ite_t (decide_eq_true (by omega)), hd]; rfl
    ·have hd : doneF (k, s, key, n, u') ((L, r, g, o, u) : Bk) = (0, L, r ++ [key], g, o, u) := by unfold doneF; dsimp only; rw [if_neg h1, if_neg h2, if_neg h3, if_pos h4, if_neg (by rw [hq]; simp), if_neg h5]
     rw [ite_f (decide_eq_false (by omega)), chk_eval (by simp only [Vse.room, decide_eq_true_eq]; omega), hd]; rfl
  rw [ite_f (by simp [h4])]
  by_cases h5 : k = 5
  ·rw [ite_t (by simp [h5])]
   by_cases h6 : n ≤ g
   ·have hd : doneF (k, s, key, n, u') ((L, r, g, o, u) : Bk) = (5, L, r, g, o, u) := by unfold doneF; dsimp only; rw [if_neg h1, if_neg h2, if_neg h3, if_neg h4, if_pos h5, if_pos h6]
    rw [ite_t (decide_eq_true h6), hd]; rfl
   ·have hd : doneF (k, s, key, n, u') ((L, r, g, o, u) : Bk) = (0, L, r, n, key, ()) := by unfold doneF; dsimp only; rw [if_neg h1, if_neg h2, if_neg h3, if_neg h4, if_pos h5, if_neg h6]
    rw [ite_f (decide_eq_false h6), hd]; rfl
  ·have hd : doneF (k, s, key, n, u') ((L, r, g, o, u) : Bk) = (0, L, r, g, o, u) := by unfold doneF; dsimp only; rw [if_neg h1, if_neg h2, if_neg h3, if_neg h4, if_neg h5]
   rw [ite_f (by simp [h5]), hd]; rfl
def sAr (p : Bk → Bool) (f : Bk → Op → Bk × Int) : CSpec := .pos nAr (fun xs _ => p xs.1) fun xs _ => (((f xs.1 xs.2.1).1, (f xs.1 xs.2.1).2, ()), ())
theorem okAr : CSound Try.prog 57 (sAr smallB applyF) ∧ CLocal (sAr smallB applyF) :=
 pos_sound (L := L0) (C := ctx (cAr rtF idxE hasW)) (ctx_sound ⟨okRr, okAk, okDr, trivial⟩) Try.func57 (by kernel_rfl) (noLoopsL (by kernel_rfl)) fun xs hs hx hh hp => by
  obtain ⟨b, x, u⟩ := xs
  exact (tAr rtF idxE hasW b x).trans (TAr_eq b x hp)
abbrev mE2 : List ETy := [.box tBl, .box tBl]
def SS1 : RSpec := ⟨[2, 3, 5], 73, [.ptr 0 [], .ptr 1 [], i64], mE2, mE2, [], fun x => match x with | .ret => ([4], [.bool], [.dead, .dead]) | _ => ([2, 3], [.ptr 0 [], .ptr 1 []], mE2)⟩
def SS2 : RSpec := ⟨[2, 3, 6], 73, [.ptr 0 [], .ptr 1 [], i64], mE2, mE2, [], fun x => match x with | .ret => ([4], [.bool], [.dead, .dead]) | _ => ([], [], [.dead, .dead])⟩
noncomputable def bS1 : Code := loopAt Try.f58 0
noncomputable def bS2 : Code := loopAt Try.f58 1
def noS : Ex × St := (.ret, encS [4] [.bool] [.dead, .dead] 73 (false, ()) ())
def exS1 (a b : Bk) : Ex × St := (.exit 0, encS [2, 3] [.ptr 0 [], .ptr 1 []] mE2 73 ((), (), ()) (a, b, ()))
def exS2 : Ex × St := (.exit 2, encS [] [] [.dead, .dead] 73 () ())
def GS1 (a b : Bk) (i : Int) : Tr SS1.End :=
 .ite (decide (i < (a.1.length : Int))) (.chk (inArr i a.1.length) (.chk (inArr i b.1.length) (.ite (!eqT tEnt (a.1.getD i.toNat (dflt tEnt)) (b.1.getD i.toNat (dflt tEnt))) (.ret (.inr noS)) (.ret (.inl (((), (), w (i + 1), ()), (a, b, ()))))))) (.ret (.inr (exS1 a b)))
def GS2 (a b : Bk) (i : Int) : Tr SS2.End :=
 .ite (decide (i < (a.2.1.length : Int))) (.chk (inArr i a.2.1.length) (.chk (inArr i b.2.1.length) (.ite (!eqT w16 (a.2.1.getD i.toNat (dflt w16)) (b.2.1.getD i.toNat (dflt w16))) (.ret (.inr noS)) (.ret (.inl (((), (), w (i + 1), ()), (a, b, ()))))))) (.ret (.inr exS2))
theorem rS1 (a b : Bk) (i : Int) : (SS1.round (bodyK Try.prog (ctx []) L0 bS1) ((), (), i, ()) (a, b, ())).eval = (GS1 a b i).eval := by kernel_rfl
theorem rS2 (a b : Bk) (i : Int) : (SS2.round (bodyK Try.prog (ctx []) L0 bS2) ((), (), i, ()) (a, b, ())).eval = (GS2 a b i).eval := by kernel_rfl
theorem mS1 (a b : Bk) (hl : a.1.length ≤ 9223372036854775807) (hb : b.1.length = a.1.length) : ∀ (m k : Nat), k + m = a.1.length →
  SS1.many (bodyK Try.prog (ctx []) L0 bS1) (m + 1) ((), (), (k : Int), ()) (a, b, ()) = if samee (a.1.drop k) (b.1.drop k) = true then some (exS1 a b) else some noS
 | 0, k, h => by
  rw [List.drop_eq_nil_of_le (by omega), List.drop_eq_nil_of_le (by omega), if_pos (show samee [] [] = true from rfl)]
  refine rmany_inr ((rS1 a b _).trans ?_) 0
  unfold GS1
  rw [ite_f (decide_eq_false (by omega))]
  rfl
 | m + 1, k, h => by
  have h1 : k < a.1.length := by omega
  have h2 : k < b.1.length := by omega
  have e3 : samee (a.1.drop k) (b.1.drop k) = (eqT tEnt a.1[k] b.1[k] && samee (a.1.drop (k + 1)) (b.1.drop (k + 1))) := by rw [List.drop_eq_getElem_cons h1, List.drop_eq_getElem_cons h2]; rfl
  rw [e3]
  cases hq : eqT tEnt a.1[k] b.1[k] with
  | true =>
   rw [Bool.true_and]
   refine (rmany_inl (d := (((), (), ((k + 1 : Nat) : Int), ()), (a, b, ()))) ((rS1 a b _).trans ?_) (m + 1)).trans (mS1 a b hl hb m (k + 1) (by omega))
   unfold GS1
   rw [Int.toNat_natCast, ite_t (decide_eq_true (by omega)), chk_eval (inArr_of h1), chk_eval (inArr_of h2), getD_of h1, getD_of h2, ite_f (by rw [hq]; rfl), w_succ h1 hl]
   rfl
  | false =>
   rw [Bool.false_and, if_neg (by simp)]
   refine rmany_inr ((rS1 a b _).trans ?_) _
   unfold GS1
   rw [Int.toNat_natCast, ite_t (decide_eq_true (by omega)), chk_eval (inArr_of h1), chk_eval (inArr_of h2), getD_of h1, getD_of h2, ite_t (by rw [hq]; rfl)]
   rfl
theorem mS2 (a b : Bk) (hl : a.2.1.length ≤ 9223372036854775807) (hb : b.2.1.length = a.2.1.length) : ∀ (m k : Nat), k + m = a.2.1.length →
  SS2.many (bodyK Try.prog (ctx []) L0 bS2) (m + 1) ((), (), (k : Int), ()) (a, b, ()) = if samew (a.2.1.drop k) (b.2.1.drop k) = true then some exS2 else some noS
 | 0, k, h => by
  rw [List.drop_eq_nil_of_le (by omega), List.drop_eq_nil_of_le (by omega), if_pos (show samew [] [] = true from rfl)]
  refine rmany_inr ((rS2 a b _).trans ?_) 0
  unfold GS2
  rw [ite_f (decide_eq_false (by omega))]
  rfl
 | m + 1, k, h => by
  have h1 : k < a.2.1.length := by omega
  have h2 : k < b.2.1.length := by omega
  have e3 : samew (a.2.1.drop k) (b.2.1.drop k) = (eqT w16 a.2.1[k] b.2.1[k] && samew (a.2.1.drop (k + 1)) (b.2.1.drop (k + 1))) := by rw [List.drop_eq_getElem_cons h1, List.drop_eq_getElem_cons h2]; rfl
  rw [e3]
  cases hq : eqT w16 a.2.1[k] b.2.1[k] with
  | true =>
   rw [Bool.true_and]
   refine (rmany_inl (d := (((), (), ((k + 1 : Nat) : Int), ()), (a, b, ()))) ((rS2 a b _).trans ?_) (m + 1)).trans (mS2 a b hl hb m (k + 1) (by omega))
   unfold GS2
   rw [Int.toNat_natCast, ite_t (decide_eq_true (by omega)), chk_eval (inArr_of h1), chk_eval (inArr_of h2), getD_of h1, getD_of h2, ite_f (by rw [hq]; rfl), w_succ h1 hl]
   rfl
  | false =>
   rw [Bool.false_and, if_neg (by simp)]
   refine rmany_inr ((rS2 a b _).trans ?_) _
   unfold GS2
   rw [Int.toNat_natCast, ite_t (decide_eq_true (by omega)), chk_eval (inArr_of h1), chk_eval (inArr_of h2), getD_of h1, getD_of h2, ite_t (by rw [hq]; rfl)]
   rfl
abbrev Css := Bk → Bk → Int → Bool
def cS1 : Css := fun a b i => decide (i = 0) && (decide (a.1.length ≤ 9223372036854775807) && decide (b.1.length = a.1.length))
def cS2 : Css := fun a b i => decide (i = 0) && (decide (a.2.1.length ≤ 9223372036854775807) && decide (b.2.1.length = a.2.1.length))
def FS1 (c : Css) (f : List En → List En → Bool) (xs : HL SS1.Ts) (hs : HD SS1.Es) : Tr (Ex × St) := .chk (c hs.1 hs.2.1 xs.2.2.1) (.ite (f hs.1.1 hs.2.1.1) (.ret (exS1 hs.1 hs.2.1)) (.ret noS))
def FS2 (c : Css) (f : List (List Int) → List (List Int) → Bool) (xs : HL SS2.Ts) (hs : HD SS2.Es) : Tr (Ex × St) := .chk (c hs.1 hs.2.1 xs.2.2.1) (.ite (f hs.1.2.1 hs.2.1.2.1) (.ret exS2) (.ret noS))
def LS (c1 : Css) (f1 : List En → List En → Bool) (c2 : Css) (f2 : List (List Int) → List (List Int) → Bool) : Loops := fun j st => if j = 4 then SS1.fn (FS1 c1 f1) st else if j = 9 then SS2.fn (FS2 c2 f2) st else .fail
abbrev LSF : Loops := LS cS1 samee cS2 samew
theorem lS1 : LoopOK Try.prog LSF bS1 :=
 rloop_ok (L := LSF) (L' := L0) nil_sound (loopsOK_of (by kernel_rfl)) SS1 (F := FS1 cS1 samee) (i := 4) (by kernel_rfl) (fun _ => rfl) fun xs hs q h => by
  obtain ⟨u1, u2, i, u3⟩ := xs
  obtain ⟨a, b, u4⟩ := hs
  obtain ⟨h1, h2⟩ := Tr.chk_some h
  simp only [cS1, Bool.and_eq_true, decide_eq_true_eq] at h1
  obtain ⟨e1, e2, e3⟩ := h1
  have e1 : i = ((0 : Nat) : Int) := e1
  subst e1
  refine ⟨_, (mS1 a b e2 e3 a.1.length 0 (by omega)).trans ?_⟩
  rw [List.drop_zero, List.drop_zero]
  rcases Tr.ite_some h2 with ⟨hx, h3⟩ | ⟨hx, h3⟩
  ·have hx : samee a.1 b.1 = true := hx
   rw [if_pos hx]; exact congrArg some (Tr.ret_some h3)
  ·have hx : samee a.1 b.1 = false := hx
   rw [if_neg (by rw [hx]; simp)]; exact congrArg some (Tr.ret_some h3)
theorem lS2 : LoopOK Try.prog LSF bS2 :=
 rloop_ok (L := LSF) (L' := L0) nil_sound (loopsOK_of (by kernel_rfl)) SS2 (F := FS2 cS2 samew) (i := 9) (by kernel_rfl) (fun _ => rfl) fun xs hs q h => by
  obtain ⟨u1, u2, i, u3⟩ := xs
  obtain ⟨a, b, u4⟩ := hs
  obtain ⟨h1, h2⟩ := Tr.chk_some h
  simp only [cS2, Bool.and_eq_true, decide_eq_true_eq] at h1
  obtain ⟨e1, e2, e3⟩ := h1
  have e1 : i = ((0 : Nat) : Int) := e1
  subst e1
  refine ⟨_, (mS2 a b e2 e3 a.2.1.length 0 (by omega)).trans ?_⟩
  rw [List.drop_zero, List.drop_zero]
  rcases Tr.ite_some h2 with ⟨hx, h3⟩ | ⟨hx, h3⟩
  ·have hx : samew a.2.1 b.2.1 = true := hx
   rw [if_pos hx]; exact congrArg some (Tr.ret_some h3)
  ·have hx : samew a.2.1 b.2.1 = false := hx
   rw [if_neg (by rw [hx]; simp)]; exact congrArg some (Tr.ret_some h3)
def TS (c1 : Css) (f1 : List En → List En → Bool) (c2 : Css) (f2 : List (List Int) → List (List Int) → Bool) (a b : Bk) : Tr nSm.Out :=
 let R (x : Bool) : Tr nSm.Out := .ret ((x, ()), ())
 .ite (!decide ((a.1.length : Int) = (b.1.length : Int))) (R false) (.ite (!decide ((a.2.1.length : Int) = (b.2.1.length : Int))) (R false) (.ite (!decide (a.2.2.1 = b.2.2.1)) (R false) (.ite (!eqT w16 a.2.2.2.1 b.2.2.2.1) (R false)
  (.chk (c1 a b 0) (.ite (f1 a.1 b.1) (.chk (c2 a b 0) (.ite (f2 a.2.1 b.2.1) (R true) (R false))) (R false))))))
theorem tS (c1 : Css) (f1 : List En → List En → Bool) (c2 : Css) (f2 : List (List Int) → List (List Int) → Bool) (a b : Bk) : (fnP Try.prog (ctx []) (LS c1 f1 c2 f2) nSm Try.f58 (a, b, ()) ()).eval = (TS c1 f1 c2 f2 a b).eval := by kernel_rfl
theorem okSr : CSound Try.prog 58 (sSmB smF) ∧ CLocal (sSmB smF) :=
 pos_sound (L := LSF) nil_sound Try.func58 (by kernel_rfl) (loops2 (by kernel_rfl) lS1 lS2) fun xs hs hx hh hp => by
  obtain ⟨a, b, u⟩ := xs
  refine (tS cS1 samee cS2 samew a b).trans ?_
  have l1 : a.1.length ≤ 9223372036854775807 := hx.1.1.1
  have l2 : a.2.1.length ≤ 9223372036854775807 := hx.1.2.1.1
  show _ = some ((smF a b, ()), ())
  have hs1 := samee_iff a.1 b.1
  have hs2 := samew_iff a.2.1 b.2.1
  unfold TS smF
  dsimp only
  by_cases h1 : a.1.length = b.1.length
  ·rw [ite_f (by rw [decide_eq_true (show (a.1.length : Int) = (b.1.length : Int) by omega)]; rfl)]
   by_cases h2 : a.2.1.length = b.2.1.length
   ·rw [ite_f (by rw [decide_eq_true (show (a.2.1.length : Int) = (b.2.1.length : Int) by omega)]; rfl)]
    by_cases h3 : a.2.2.1 = b.2.2.1
    ·rw [ite_f (by rw [decide_eq_true h3]; rfl), decide_eq_true h3, Bool.true_and]
     have c1 : cS1 a b 0 = true := by unfold cS1; rw [decide_eq_true l1, decide_eq_true h1.symm]; rfl
     have c2 : cS2 a b 0 = true := by unfold cS2; rw [decide_eq_true l2, decide_eq_true h2.symm]; rfl
     rw [c1, c2]
     cases eqT w16 a.2.2.2.1 b.2.2.2.1 <;> cases samee a.1 b.1 <;> cases samew a.2.1 b.2.1 <;> rfl
    ·rw [ite_t (by rw [decide_eq_false h3]; rfl), decide_eq_false h3, Bool.false_and, Bool.and_false, Bool.and_false]; rfl
   ·rw [ite_t (by rw [decide_eq_false (show ¬ (a.2.1.length : Int) = (b.2.1.length : Int) by omega)]; rfl)]
    cases hs : samew a.2.1 b.2.1 with
    | true => exact absurd (congrArg List.length (hs2.1 hs)) h2
    | false => rw [Bool.false_and, Bool.and_false]; rfl
  ·rw [ite_t (by rw [decide_eq_false (show ¬ (a.1.length : Int) = (b.1.length : Int) by omega)]; rfl)]
   cases hs : samee a.1 b.1 with
   | true => exact absurd (congrArg List.length (hs1.1 hs)) h1
   | false => rw [Bool.false_and]; rfl
end Go.Proofs.Ytffdkniccaebmaa.Bok
end
section
set_option linter.unusedVariables false
set_option linter.unusedSimpArgs false
set_option maxRecDepth 100000
namespace Go.Proofs.Ytffdkniccaebmaa.Bok
open Go Vse Go.Proofs Gen
noncomputable def bD1 : Code := loopAt Try.f62 0
noncomputable def bD2 : Code := loopAt Try.f62 1
def SD1 : RSpec := ⟨[1, 3, 4], 57, [.ptr 0 [], .vc 1 1, i64], [.box tBl, .vec 1 tOp], [.box tBl], [.slot 3 tOp], fun _ => ([1, 3], [.ptr 0 [], .vc 1 1], [.box tBl, .vec 1 tOp])⟩
def SD2 : RSpec := ⟨[1, 3, 5], 57, [.ptr 0 [], .vc 1 2, i64], [.box tBl, .vec 2 tOp], [.box tBl, .vec 1 tOp], [], fun _ => ([1, 3], [.ptr 0 [], .vc 1 2], [.box tBl, .vec 2 tOp])⟩
def exD1 (b : Bk) (o : List Op) : Ex × St := (.exit 0, encS [1, 3] [.ptr 0 [], .vc 1 1] [.box tBl, .vec 1 tOp] 57 ((), (), ()) (b, o, ()))
def exD2 (b : Bk) (o : List Op) : Ex × St := (.exit 2, encS [1, 3] [.ptr 0 [], .vc 1 2] [.box tBl, .vec 2 tOp] 57 ((), (), ()) (b, o, ()))
def GD1 (b : Bk) (o : List Op) (i : Int) : Tr SD1.End :=
 .ite (decide (i < (b.1.length : Int))) (.chk (inArr i b.1.length) (.chk (inArr i b.1.length) (.chk (Vse.room (o.length + 1) 48) (.ret (.inl (((), (), w (i + 1), ()), (b, o ++ [addO (b.1.getD i.toNat (dflt tEnt))], ())))))))
  (.ret (.inr (exD1 b o)))
def GD2 (b : Bk) (o : List Op) (i : Int) : Tr SD2.End :=
 .ite (decide (i < (b.2.1.length : Int))) (.chk (inArr i b.2.1.length) (.chk (Vse.room (o.length + 1) 48) (.ret (.inl (((), (), w (i + 1), ()), (b, o ++ [revO (b.2.1.getD i.toNat (dflt w16))], ()))))))
  (.ret (.inr (exD2 b o)))
theorem rD1 (b : Bk) (o : List Op) (i : Int) : (SD1.round (bodyK Try.prog (ctx []) L0 bD1) ((), (), i, ()) (b, o, ())).eval = (GD1 b o i).eval := by kernel_rfl
theorem rD2 (b : Bk) (o : List Op) (i : Int) : (SD2.round (bodyK Try.prog (ctx []) L0 bD2) ((), (), i, ()) (b, o, ())).eval = (GD2 b o i).eval := by kernel_rfl
theorem mD1 (b : Bk) (hl : b.1.length ≤ 1000000) : ∀ (m k : Nat), k + m = b.1.length →
  SD1.many (bodyK Try.prog (ctx []) L0 bD1) (m + 1) ((), (), (k : Int), ()) (b, (b.1.take k).map addO, ()) = some (exD1 b (b.1.map addO))
 | 0, k, h => by
  rw [List.take_of_length_le (by omega)]
  refine rmany_inr ((rD1 b _ _).trans ?_) 0
  unfold GD1
  rw [ite_f (decide_eq_false (by omega))]
  rfl
 | m + 1, k, h => by
  have h1 : k < b.1.length := by omega
  have ht : (b.1.take k).map addO ++ [addO b.1[k]] = (b.1.take (k + 1)).map addO := by rw [List.take_add_one, List.getElem?_eq_getElem h1, List.map_append]; rfl
  refine (rmany_inl (d := (((), (), ((k + 1 : Nat) : Int), ()), (b, (b.1.take (k + 1)).map addO, ()))) ((rD1 b _ _).trans ?_) (m + 1)).trans (mD1 b hl m (k + 1) (by omega))
  unfold GD1
  rw [Int.toNat_natCast, getD_of h1, ite_t (decide_eq_true (by omega)), chk_eval (inArr_of h1), chk_eval (inArr_of h1), chk_eval (by simp only [Vse.room, decide_eq_true_eq, List.length_map, List.length_take]; omega), ht, w_succ h1 (by omega)]
  rfl
theorem mD2 (b : Bk) (o : List Op) (hl : o.length + b.2.1.length ≤ 2000000) : ∀ (m k : Nat), k + m = b.2.1.length →
  SD2.many (bodyK Try.prog (ctx []) L0 bD2) (m + 1) ((), (), (k : Int), ()) (b, o ++ (b.2.1.take k).map revO, ()) = some (exD2 b (o ++ b.2.1.map revO))
 | 0, k, h => by
  rw [List.take_of_length_le (by omega)]
  refine rmany_inr ((rD2 b _ _).trans ?_) 0
  unfold GD2
  rw [ite_f (decide_eq_false (by omega))]
  rfl
 | m + 1, k, h => by
  have h1 : k < b.2.1.length := by omega
  have ht : (o ++ (b.2.1.take k).map revO) ++ [revO b.2.1[k]] = o ++ (b.2.1.take (k + 1)).map revO := by rw [List.take_add_one, List.getElem?_eq_getElem h1, List.map_append, List.append_assoc]; rfl
  refine (rmany_inl (d := (((), (), ((k + 1 : Nat) : Int), ()), (b, o ++ (b.2.1.take (k + 1)).map revO, ()))) ((rD2 b _ _).trans ?_) (m + 1)).trans (mD2 b o hl m (k + 1) (by omega))
  unfold GD2
  rw [Int.toNat_natCast, getD_of h1, ite_t (decide_eq_true (by omega)), chk_eval (inArr_of h1), chk_eval (by simp only [Vse.room, decide_eq_true_eq, List.length_append, List.length_map, List.length_take]; omega), ht, w_succ h1 (by omega)]
  rfl
abbrev Cd := List Op → Bk → Int → Bool
def cD1 : Cd := fun o b i => decide (o.length = 0) && (decide (i = 0) && decide (b.1.length ≤ 1000000))
def cD2 : Cd := fun o b i => decide (i = 0) && decide (o.length + b.2.1.length ≤ 2000000)
def FD1 (c : Cd) (xs : HL SD1.Ts) (hs : HD SD1.Es) : Tr (Ex × St) := .chk (c hs.2.1 hs.1 xs.2.2.1) (.ret (exD1 hs.1 (hs.1.1.map addO)))
def FD2 (c : Cd) (xs : HL SD2.Ts) (hs : HD SD2.Es) : Tr (Ex × St) := .chk (c hs.2.1 hs.1 xs.2.2.1) (.ret (exD2 hs.1 (hs.2.1 ++ hs.1.2.1.map revO)))
def LD (c1 c2 : Cd) : Loops := fun j st => if j = 3 then SD1.fn (FD1 c1) st else if j = 7 then SD2.fn (FD2 c2) st else .fail
theorem lD1 : LoopOK Try.prog (LD cD1 cD2) bD1 :=
 rloop_ok (L := LD cD1 cD2) (L' := L0) nil_sound (loopsOK_of (by kernel_rfl)) SD1 (F := FD1 cD1) (i := 3) (by kernel_rfl) (fun _ => rfl) fun xs hs q h => by
  obtain ⟨u1, u2, i, u⟩ := xs
  obtain ⟨b, o, u3⟩ := hs
  obtain ⟨h1, h2⟩ := Tr.chk_some h
  simp only [cD1, Bool.and_eq_true, decide_eq_true_eq] at h1
  obtain ⟨e0, e2, e3⟩ := h1
  have e0 : o = ([] : List Op) := List.eq_nil_of_length_eq_zero e0
  have e2 : i = ((0 : Nat) : Int) := e2
  subst e0; subst e2
  exact ⟨_, (mD1 b e3 b.1.length 0 (by omega)).trans (congrArg some (Tr.ret_some h2))⟩
theorem lD2 : LoopOK Try.prog (LD cD1 cD2) bD2 :=
 rloop_ok (L := LD cD1 cD2) (L' := L0) nil_sound (loopsOK_of (by kernel_rfl)) SD2 (F := FD2 cD2) (i := 7) (by kernel_rfl) (fun _ => rfl) fun xs hs q h => by
  obtain ⟨u1, u2, i, u⟩ := xs
  obtain ⟨b, o, u3⟩ := hs
  obtain ⟨h1, h2⟩ := Tr.chk_some h
  simp only [cD2, Bool.and_eq_true, decide_eq_true_eq] at h1
  obtain ⟨e2, e3⟩ := h1
  have e2 : i = ((0 : Nat) : Int) := e2
  subst e2
  have := mD2 b o e3 b.2.1.length 0 (by omega)
  rw [List.take_zero, List.map_nil, List.append_nil] at this
  exact ⟨_, this.trans (congrArg some (Tr.ret_some h2))⟩
def TDs (c1 c2 : Cd) (b : Bk) : Tr nOp.Out :=
 let o := b.1.map addO ++ b.2.1.map revO
 .chk (c1 [] b 0) (.chk (c2 (b.1.map addO) b 0) (.ite (decide (b.2.2.1 > 0)) (.chk (Vse.room (o.length + 1) 48) (.ret (((), ()), (o ++ [(5, e0, b.2.2.2.1, b.2.2.1, ())], ())))) (.ret (((), ()), (o, ())))))
theorem tDs (c1 c2 : Cd) (b : Bk) : (fnP Try.prog (ctx []) (LD c1 c2) nOp Try.f62 (b, ()) ()).eval = (TDs c1 c2 b).eval := by kernel_rfl
theorem TDs_eq (b : Bk) (h : okB b = true) : (TDs cD1 cD2 b).eval = some (((), ()), (opsF b, ())) := by
 unfold okB at h
 simp only [Bool.and_eq_true, decide_eq_true_eq] at h
 unfold TDs opsF
 dsimp only
 rw [chk_eval (by unfold cD1; rw [decide_eq_true h.1]; rfl), chk_eval (by unfold cD2; rw [decide_eq_true (show (b.1.map addO).length + b.2.1.length ≤ 2000000 by rw [List.length_map]; omega)]; rfl)]
 by_cases hg : b.2.2.1 > 0
 ·rw [ite_t (decide_eq_true hg), if_pos hg, chk_eval (by simp only [Vse.room, decide_eq_true_eq, List.length_append, List.length_map]; omega)]; rfl
 ·rw [ite_f (decide_eq_false hg), if_neg hg, List.append_nil]; rfl
theorem okDs : CSound Try.prog 62 (sOs okB opsF) ∧ CLocal (sOs okB opsF) :=
 pos_sound (L := LD cD1 cD2) nil_sound Try.func62 (by kernel_rfl) (loops2 (by kernel_rfl) lD1 lD2) fun xs hs hx hh hp => by
  obtain ⟨b, u⟩ := xs
  exact (tDs cD1 cD2 b).trans (TDs_eq b hp)
abbrev tW (l k : Nat) : Ty := .prod (.vc l k) (.prod (.imm true false w16) (.prod i64 (.prod w16 .unit)))
abbrev tN : Ty := .prod .nils (.prod .nils (.prod i64 (.prod w16 .unit)))
def SOw : RSpec := ⟨[1, 2, 3, 4], 30, [.ptr 0 [], .ptr 1 [], .ptr 2 [], i64], [.box tB, .box tN, .box (tW 3 1), .vec 1 tEnt], [.box tB, .box tN, .box tB], [.pth 2 [.fld 0] tEnt], fun _ => ([2, 3], [.ptr 1 [], .ptr 2 []], [.dead, .box tN, .box (tW 3 1), .vec 1 tEnt])⟩
noncomputable def bOw : Code := loopAt Try.f59 0
abbrev z0 : tN.den := ((), (), 0, z16, ())
def owS (b : Bk) (o : List En) (r : List (List Int)) (g : Int) (ow : List Int) : HD SOw.Es := (b, z0, ((), r, g, ow, ()), o, ())
def exOw (o : List En) (r : List (List Int)) (g : Int) (ow : List Int) : Ex × St := (.exit 0, encS [2, 3] [.ptr 1 [], .ptr 2 []] [.dead, .box tN, .box (tW 3 1), .vec 1 tEnt] 30 ((), (), ()) (z0, ((), r, g, ow, ()), o, ()))
def GOw (b : Bk) (o : List En) (r : List (List Int)) (g : Int) (ow : List Int) (i : Int) : Tr SOw.End :=
 .ite (decide (i < (b.1.length : Int))) (.chk (inArr i b.1.length) (.chk (Vse.room (o.length + 1) 32) (.ret (.inl (((), (), (), w (i + 1), ()), owS b (o ++ [b.1.getD i.toNat (dflt tEnt)]) r g ow))))) (.ret (.inr (exOw o r g ow)))
theorem rOw (b : Bk) (o : List En) (r : List (List Int)) (g : Int) (ow : List Int) (i : Int) : (SOw.round (bodyK Try.prog (ctx []) L0 bOw) ((), (), (), i, ()) (owS b o r g ow)).eval = (GOw b o r g ow i).eval := by kernel_rfl
end Go.Proofs.Ytffdkniccaebmaa.Bok
end
section
set_option linter.unusedVariables false
set_option linter.unusedSimpArgs false
set_option maxRecDepth 100000
namespace Go.Proofs.Ytffdkniccaebmaa.Bok
open Go Vse Go.Proofs Gen
def cAw : List (Nat × CSpec) := [(41, Sto.newS), (68, sKo), (72, sDo), (74, sPk), (77, sBo), (63, sKy), (65, sDd hasW), (61, sOs okB opsF)]
theorem cAw_sound : CtxSound Try.prog (ctx cAw) ∧ CtxLocal (ctx cAw) := ctx_sound ⟨Sto.ok15, okKo, okDo, okPk, okBo, okKy, okDd, okOs, trivial⟩
theorem tAw : nrm (fnS Try.prog (ctx cAw) L0 [.bool] Try.f49 (mkArgs [] ())) = some (.v .bool true) := by kernel_rfl
def sUp (up : Bool) : CSpec := .slp1 [] (fun _ => true) .bool fun _ => up
theorem okAw : CSound Try.prog 49 (sUp true) ∧ CLocal (sUp true) :=
 slpE1 (L := L0) cAw_sound Try.func49 (by kernel_rfl) (noLoopsL (by kernel_rfl)) fun xs hx hp => tAw
end Go.Proofs.Ytffdkniccaebmaa.Bok
end
section
set_option linter.unusedVariables false
set_option linter.unusedSimpArgs false
set_option maxRecDepth 100000
namespace Go.Proofs.Ytffdkniccaebmaa.Bok
open Go Vse Go.Proofs Gen
theorem mOw (b : Bk) (r : List (List Int)) (g : Int) (ow : List Int) (hl : b.1.length ≤ 1000000) : ∀ (m k : Nat), k + m = b.1.length →
  SOw.many (bodyK Try.prog (ctx []) L0 bOw) (m + 1) ((), (), (), (k : Int), ()) (owS b (b.1.take k) r g ow) = some (exOw b.1 r g ow)
 | 0, k, h => by
  rw [List.take_of_length_le (by omega)]
  refine rmany_inr ((rOw b _ r g ow _).trans ?_) 0
  unfold GOw
  rw [ite_f (decide_eq_false (by omega))]
  rfl
 | m + 1, k, h => by
  have h1 : k < b.1.length := by omega
  have ht : b.1.take k ++ [b.1[k]] = b.1.take (k + 1) := by rw [List.take_add_one, List.getElem?_eq_getElem h1]; rfl
  refine (rmany_inl (d := (((), (), (), ((k + 1 : Nat) : Int), ()), owS b (b.1.take (k + 1)) r g ow)) ((rOw b _ r g ow _).trans ?_) (m + 1)).trans (mOw b r g ow hl m (k + 1) (by omega))
  unfold GOw
  rw [Int.toNat_natCast, getD_of h1, ite_t (decide_eq_true (by omega)), chk_eval (inArr_of h1), chk_eval (by simp only [Vse.room, decide_eq_true_eq, List.length_take]; omega), ht, w_succ h1 (by omega)]
  rfl
def cOw (b : Bk) (o : List En) (i : Int) : Bool := decide (o.length = 0) && (decide (i = 0) && decide (b.1.length ≤ 1000000))
def FOw (c : Bk → List En → Int → Bool) (xs : HL SOw.Ts) (hs : HD SOw.Es) : Tr (Ex × St) :=
 .chk (c hs.1 hs.2.2.2.1 xs.2.2.2.1 && smF ((([], [], 0, hs.2.1.2.2.2.1, ()) : Bk)) bk0 && decide (hs.2.1.2.2.1 = (0 : Int))) (.ret (exOw hs.1.1 hs.2.2.1.2.1 hs.2.2.1.2.2.1 hs.2.2.1.2.2.2.1))
def LOw (c : Bk → List En → Int → Bool) : Loops := fun j st => if j = 3 then SOw.fn (FOw c) st else .fail
theorem lOw : LoopOK Try.prog (LOw cOw) bOw :=
 rloop_ok (L := LOw cOw) (L' := L0) nil_sound (loopsOK_of (by kernel_rfl)) SOw (F := FOw cOw) (i := 3) (by kernel_rfl) (fun _ => rfl) fun xs hs q h => by
  obtain ⟨u1, u2, u3, i, u⟩ := xs
  obtain ⟨b, ⟨u4, u5, z1, z2, u6⟩, ⟨u7, r, g, ow, u8⟩, o, u9⟩ := hs
  obtain ⟨h1, h2⟩ := Tr.chk_some h
  simp only [cOw, Bool.and_eq_true, decide_eq_true_eq] at h1
  obtain ⟨⟨⟨e0, e1, e2⟩, e3⟩, e4⟩ := h1
  have e0 : o = ([] : List En) := List.eq_nil_of_length_eq_zero e0
  have e1 : i = ((0 : Nat) : Int) := e1
  have e3 : z2 = z16 := congrArg (·.2.2.2.1) ((sm_iff _ _).1 e3)
  have e4 : z1 = (0 : Int) := e4
  subst e0; subst e1; subst e3; subst e4
  exact ⟨_, (mOw b r g ow e2 b.1.length 0 (by omega)).trans (congrArg some (Tr.ret_some h2))⟩
abbrev nOw : PSpec := ⟨[tB], [tB], [], [], []⟩
theorem tOw (c : Bk → List En → Int → Bool) (b : Bk) : (fnP Try.prog (ctx []) (LOw c) nOw Try.f59 (b, ()) ()).eval = (.chk (c b [] 0 && smF ([], [], 0, z16, ()) bk0 && decide ((0 : Int) = 0)) (.ret ((b, ()), ())) : Tr nOw.Out).eval := by kernel_rfl
def sOw (p : Bk → Bool) : CSpec := .pos nOw (fun xs _ => p xs.1) fun xs _ => ((xs.1, ()), ())
theorem okOw : CSound Try.prog 59 (sOw okB) ∧ CLocal (sOw okB) :=
 pos_sound (L := LOw cOw) nil_sound Try.func59 (by kernel_rfl) (loops1 (by kernel_rfl) lOw) fun xs hs hx hh hp => by
  obtain ⟨b, u⟩ := xs
  have hp : okB b = true := hp
  unfold okB at hp
  simp only [Bool.and_eq_true, decide_eq_true_eq] at hp
  have hz : smF (([], [], 0, z16, ()) : Bk) bk0 = true := (sm_iff _ _).2 rfl
  exact (tOw cOw b).trans (chk_eval (by unfold cOw; rw [decide_eq_true hp.1, hz]; rfl) _)
end Go.Proofs.Ytffdkniccaebmaa.Bok
end
section
set_option linter.unusedVariables false
set_option linter.unusedSimpArgs false
set_option maxRecDepth 100000
namespace Go.Proofs.Ytffdkniccaebmaa.Bok
open Go Vse Go.Proofs Gen
theorem ops_len {b : Bk} (h : Inv b) : (opsF b).length ≤ 251 := by
 have h1 := h.ln
 have h2 := h.rl
 have : (if b.2.2.1 > 0 then [((5, e0, b.2.2.2.1, b.2.2.1, ()) : Op)] else []).length ≤ 1 := by split <;> simp
 unfold opsF
 rw [List.length_append, List.length_append, List.length_map, List.length_map]; omega
end Go.Proofs.Ytffdkniccaebmaa.Bok
end
section
set_option linter.unusedVariables false
set_option linter.unusedSimpArgs false
set_option maxRecDepth 100000
namespace Go.Proofs.Ytffdkniccaebmaa.Bok
open Go Vse Go.Proofs Gen
open Fld (splitI splitG take1 take2 Bytes)
theorem splitG_bytes : ∀ (f : Nat) (b : List Int) (o : List (List Int)), Bytes b → (∀ p ∈ o, Bytes p) → ∀ p ∈ (splitG f b o).2, Bytes p
 | 0, b, o, hb, ho => ho
 | f + 1, b, o, hb, ho => by
  rw [splitG]
  cases decide (b.length > 0) with
  | false => exact ho
  | true =>
   cases decide (b.length < 2) with
   | true => exact ho
   | false =>
    cases decide (Fld.lenN b > 500) with
    | true => exact ho
    | false =>
     cases decide (o.length = 20) with
     | true => exact ho
     | false =>
      cases decide (Fld.lenN b > ((b.drop 2).length : Int)) with
      | true => exact ho
      | false =>
       refine splitG_bytes f _ _ (Fld.bytes_drop (Fld.bytes_drop hb 2) _) fun p hp => ?_
       rcases List.mem_append.1 hp with h | h
       ·exact ho p h
       ·rw [List.mem_singleton.1 h]
        exact fun x hx => Fld.bytes_drop hb 2 x (List.mem_of_mem_take hx)
theorem splitI_bytes {b : List Int} (hb : Bytes b) (k : Nat) : Bytes ((splitI b).1.getD k []) := by
 have h : ∀ p ∈ (splitI b).1, Bytes p := by
  unfold Fld.splitI
  dsimp only
  have := splitG_bytes (b.length + 1) b [] hb (fun p hp => by cases hp)
  cases decide ((splitG (b.length + 1) b []).1 = 0) with
  | true => exact this
  | false => exact fun p hp => by cases hp
 rw [List.getD_eq_getElem?_getD]
 cases hx : (splitI b).1[k]? with
 | none => exact fun x hx => by cases hx
 | some p => exact h p (List.mem_of_getElem? hx)
theorem tk_same {a : List Int} (h : Bytes a) : tk1 a = tk2 a := by
 unfold tk1 tk2
 rw [Fld.take_same h]
theorem rd_same {b : List Int} (hb : Bytes b) : rdT tk1 b = rdT tk2 b := by
 have h := tk_same (splitI_bytes (Fld.bytes_drop hb 1) 2)
 have ho : opB tk1 b = opB tk2 b := by unfold opB; rw [h]
 unfold rdT
 rw [ho, h]
end Go.Proofs.Ytffdkniccaebmaa.Bok
end
section
set_option linter.unusedVariables false
set_option linter.unusedSimpArgs false
set_option maxRecDepth 100000
namespace Go.Proofs.Ytffdkniccaebmaa.Bok
open Go Vse Go.Proofs Gen
open Jnl (jT JD RJ Hop)
open Sto (stT D R0)
abbrev n2 : Ty := .arr 2 i64
abbrev tAct : Ty := .prod i64 (.prod i64 (.prod tOp .unit))
abbrev Act := Int × Int × Op × Unit
abbrev lAct : Ty := .imm true false tAct
abbrev Dk := JD → Bk → Op → Int × JD × Bk
abbrev Kk := JD → Bk → RJ
end Go.Proofs.Ytffdkniccaebmaa.Bok
end
section
set_option linter.unusedVariables false
namespace Go.Proofs.Ytffdkniccaebmaa.Sto
open Go Vse Go.Proofs Fld
structure Inv (d : D) : Prop where
 s0 : 0 ≤ d.sure
 s1 : d.sure ≤ (d.b.length : Int)
 b1 : (d.b.length : Int) ≤ d.room
 r1 : d.room ≤ 1048576
 f0 : -1 ≤ d.fuse
 f1 : d.fuse ≤ 9223372036854775807
structure OkX (x : Ox) : Prop where
 n0 : -9223372036854775808 ≤ x.2.1
 n1 : x.2.1 ≤ 9223372036854775807
 b1 : x.2.2.1.length ≤ 2000
theorem maxI_eq (x y : Int) : maxI x y = max x y := by unfold maxI; omega
theorem minI_eq (x y : Int) : minI x y = min x y := by unfold minI; omega
@[simp] theorem b_mk (b : List Int) (s r f : Int) (dn : Bool) : (mk b s r f dn).b = b := rfl
@[simp] theorem sure_mk (b : List Int) (s r f : Int) (dn : Bool) : (mk b s r f dn).sure = s := rfl
@[simp] theorem room_mk (b : List Int) (s r f : Int) (dn : Bool) : (mk b s r f dn).room = r := rfl
@[simp] theorem fuse_mk (b : List Int) (s r f : Int) (dn : Bool) : (mk b s r f dn).fuse = f := rfl
@[simp] theorem down_mk (b : List Int) (s r f : Int) (dn : Bool) : (mk b s r f dn).down = dn := rfl
theorem room_of {n : Nat} (h : n ≤ 2000000) : Vse.room n 1 = true := by simp only [Vse.room, decide_eq_true_eq]; omega
theorem inv_mk {b : List Int} {s r f : Int} {dn : Bool} (h1 : 0 ≤ s) (h2 : s ≤ (b.length : Int)) (h3 : (b.length : Int) ≤ r) (h4 : r ≤ 1048576) (h5 : -1 ≤ f) (h6 : f ≤ 9223372036854775807) : Inv (mk b s r f dn) := ⟨h1, h2, h3, h4, h5, h6⟩
theorem rdy_ways (m : Int) {d : D} (h : Inv d) : (rdyF m d = er 8 (mk d.b d.sure d.room d.fuse true) ∧ powF d = ((false, ()), mk d.b d.sure d.room d.fuse true)) ∨
  ∃ f, -1 ≤ f ∧ f ≤ 9223372036854775807 ∧ rdyF m d = er (if m > d.room then 7 else 0) (mk d.b d.sure d.room f false) ∧ powF d = ((true, ()), mk d.b d.sure d.room f false) := by
 have f0 := h.f0
 have f1 := h.f1
 by_cases hd : d.down = true ∨ d.fuse = 0
 ·exact .inl ⟨by simp only [rdyF, if_pos hd], by simp only [powF, if_pos hd]⟩
 ·have hdn : d.down = false := by
   cases hx : d.down with
   | true => exact absurd (.inl hx) hd
   | false => rfl
  have hf : d.fuse ≠ 0 := fun h => hd (.inr h)
  by_cases h1 : d.fuse = -1
  ·refine .inr ⟨d.fuse, f0, f1, by simp only [rdyF, if_neg hd, if_pos h1], ?_⟩
   have hp : powF d = ((true, ()), mk d.b d.sure d.room (if d.fuse > 0 then w (d.fuse - 1) else d.fuse) d.down) := if_neg hd
   rw [hp, hdn, if_neg (show ¬ d.fuse > 0 by omega)]
  ·refine .inr ⟨d.fuse - 1, by omega, by omega, ?_, ?_⟩
   ·simp only [rdyF, if_neg hd, if_neg h1]
    rw [w_id (by omega) (by omega)]
   ·have hp : powF d = ((true, ()), mk d.b d.sure d.room (if d.fuse > 0 then w (d.fuse - 1) else d.fuse) d.down) := if_neg hd
    rw [hp, hdn, if_pos (show d.fuse > 0 by omega), w_id (by omega) (by omega)]
theorem app_same {x : List Int} (hx : x.length ≤ 2000) {d : D} (h : Inv d) : appF rdyF x d = rappF powF x d ∧ Inv (appF rdyF x d).2 ∧ appP rdyF x d = true ∧ rappP powF x d = true := by
 have b1 := h.b1
 have r1 := h.r1
 have hb : d.b.length ≤ 1048576 := by omega
 have hw : w ((d.b.length : Int) + x.length) = (d.b.length : Int) + x.length := w_id (by omega) (by omega)
 rcases rdy_ways (w ((d.b.length : Int) + x.length)) h with ⟨e1, e2⟩ | ⟨f, f0, f1, e1, e2⟩
 ·refine ⟨?_, ?_, ?_, ?_⟩
  ·simp only [appF, rappF, e1, e2, er]; rfl
  ·simp only [appF, e1, er]; exact inv_mk h.s0 h.s1 h.b1 h.r1 h.f0 h.f1
  ·simp only [appP, fits, e1, er, b_mk]; exact room_of (by omega)
  ·simp only [rappP, fits, e2, b_mk]; exact room_of (by omega)
 ·have q1 : appP rdyF x d = true := by simp only [appP, fits, e1, er, b_mk]; exact room_of (by omega)
  have q2 : rappP powF x d = true := by simp only [rappP, fits, e2, b_mk]; exact room_of (by omega)
  simp only [appF, rappF, e1, e2, er, b_mk, room_mk, if_true]
  rw [hw]
  by_cases hr : (d.b.length : Int) + x.length > d.room
  ·simp only [if_pos hr]
   exact ⟨rfl, inv_mk h.s0 h.s1 h.b1 h.r1 f0 f1, q1, q2⟩
  ·simp only [if_neg hr, if_true]
   refine ⟨trivial, ?_, q1, q2⟩
   have s1 := h.s1
   refine ⟨h.s0, ?_, ?_, h.r1, f0, f1⟩ <;> show _ ≤ _
   ·show d.sure ≤ ((d.b ++ x).length : Int); rw [List.length_append]; omega
   ·show ((d.b ++ x).length : Int) ≤ d.room; rw [List.length_append]; omega
theorem sync_same {d : D} (h : Inv d) : syncF rdyF d = rsyncF powF d ∧ Inv (syncF rdyF d).2 := by
 have b1 := h.b1
 have hr : ¬ (0 : Int) > d.room := by omega
 rcases rdy_ways 0 h with ⟨e1, e2⟩ | ⟨f, f0, f1, e1, e2⟩
 ·refine ⟨?_, ?_⟩
  ·simp only [syncF, rsyncF, e1, e2, er]; rfl
  ·simp only [syncF, e1, er]; exact inv_mk h.s0 h.s1 h.b1 h.r1 h.f0 h.f1
 ·simp only [syncF, rsyncF, e1, e2, er, if_neg hr, if_true]
  exact ⟨trivial, inv_mk (by simp) (by simp) h.b1 h.r1 f0 f1⟩
theorem fuse_inv {n : Int} (h1 : n ≤ 9223372036854775807) {d : D} (h : Inv d) : Inv (fuseF n d).2 := by
 simp only [fuseF, maxI_eq]
 exact inv_mk h.s0 h.s1 h.b1 h.r1 (by omega) (by omega)
theorem crash_at {n : Int} (h0 : -9223372036854775808 ≤ n) (h1 : n ≤ 9223372036854775807) {d : D} (h : Inv d) : crashS n d = d.sure + min (max n 0) ((d.b.length : Int) - d.sure) := by
 have s0 := h.s0
 have s1 := h.s1
 have b1 := h.b1
 have r1 := h.r1
 simp only [crashS, maxI_eq, minI_eq]
 rw [w_id (x := (d.b.length : Int) - d.sure) (by omega) (by omega), w_id (by omega) (by omega)]
theorem crash_same {n : Int} (h0 : -9223372036854775808 ≤ n) (h1 : n ≤ 9223372036854775807) {d : D} (h : Inv d) : (crashF n d).2 = (rcrashF n d).2 ∧ Inv (crashF n d).2 ∧ crashP n d = true ∧ rcrashP n d = true := by
 have s0 := h.s0
 have s1 := h.s1
 have b1 := h.b1
 have r1 := h.r1
 have hs := crash_at h0 h1 h
 have hl : ((d.b.take (crashS n d).toNat).length : Int) = crashS n d := by rw [List.length_take, hs]; omega
 have hw : w ((d.b.length : Int) - d.sure) = (d.b.length : Int) - d.sure := w_id (by omega) (by omega)
 have key : rcrB n d = d.b.take (crashS n d).toNat ∧ rcrashP n d = true := by
  simp only [rcrB, rcrashP, rcrS, hw, maxI_eq]
  by_cases hc : n < (d.b.length : Int) - d.sure
  ·rw [w_id (x := d.sure + max n 0) (by omega) (by omega)]
   have e : crashS n d = d.sure + max n 0 := by rw [hs]; omega
   rw [decide_eq_true hc, e]
   refine ⟨rfl, ?_⟩
   simp only [Bool.not_true, Bool.false_or, Bool.and_eq_true, decide_eq_true_eq]
   omega
  ·have e : crashS n d = d.b.length := by rw [hs]; omega
   rw [decide_eq_false hc, e]
   refine ⟨?_, rfl⟩
   simp
 refine ⟨?_, ?_, ?_, key.2⟩
 ·simp only [crashF, rcrashF, key.1, hl]
 ·simp only [crashF]
  exact inv_mk (by omega) (by omega) (by omega) h.r1 (by omega) (by omega)
 ·simp only [crashP, Bool.and_eq_true, decide_eq_true_eq]; omega
end Go.Proofs.Ytffdkniccaebmaa.Sto
end
section
set_option linter.unusedVariables false
set_option linter.unusedSimpArgs false
set_option maxRecDepth 100000
namespace Go.Proofs.Ytffdkniccaebmaa.Jnl
open Go Vse Go.Proofs Gen
open Sto (stT D R1 R0 rdyF appF syncF repF appP Ox er mk)
open Fld (lenN or_bytes Bytes bytes_get bytes_drop)
theorem hd14_eq {b : List Int} (h : b.length ≤ 1000) : hd14 b = [(b.length : Int) / 256, (b.length : Int) % 256] := by
 unfold hd14
 have e : shrI .i64 (b.length : Int) 8 = (b.length : Int) / 256 := by
  show (b.length : Int).fdiv (2 ^ 8) = _
  rw [Int.fdiv_eq_ediv_of_nonneg _ (by decide)]; rfl
 rw [e]
 show [Fld.wb ((b.length : Int) / 256), Fld.wb (b.length : Int)] = _
 rw [Fld.wb_mod, Fld.wb_mod]
 congr 1
 omega
theorem cons_two {l : List Int} {x y : Int} (h : l = [x, y]) (X : List Int) : l ++ X = x :: y :: X := by rw [h]; rfl
theorem laid_cons {b : List Int} (h : b.length ≤ 1000) : ∃ X : List Int, laidF b = (b.length : Int) / 256 :: (b.length : Int) % 256 :: X := by
 unfold laidF
 generalize (Sha.shaF (hd14 b ++ b)).take 8 ++ b = X
 exact ⟨X, cons_two (hd14_eq h) X⟩
theorem lenN_two (x y : Int) (X : List Int) : lenN (x :: y :: X) = 256 * x + y := rfl
theorem lenN_laid {b : List Int} (h : b.length ≤ 1000) (t : List Int) : lenN (laidF b ++ t) = (b.length : Int) := by
 obtain ⟨X, e⟩ := laid_cons h
 rw [e, List.cons_append, List.cons_append, lenN_two]
 omega
theorem lenN_part {b : List Int} (h : b.length ≤ 1000) {k : Nat} (hk : 2 ≤ k) : lenN ((laidF b).take k) = (b.length : Int) := by
 obtain ⟨X, e⟩ := laid_cons h
 obtain ⟨j, rfl⟩ : ∃ j, k = j + 2 := ⟨k - 2, by omega⟩
 rw [e, List.take_succ_cons, List.take_succ_cons, lenN_two]
 omega
theorem take_laid (b t : List Int) : (laidF b ++ t).take (10 + b.length) = laidF b := List.take_left' (laid_len b)
theorem drop_laid (b t : List Int) : (laidF b ++ t).drop (10 + b.length) = t := List.drop_left' (laid_len b)
theorem drop10 (b : List Int) : (laidF b).drop 10 = b := by
 unfold laidF
 rw [← List.append_assoc]
 refine List.drop_left' ?_
 rw [List.length_append, List.length_take, shaF_len] <;> rfl
theorem recF_laid {b : List Int} (h : b.length ≤ 1000) (t : List Int) : recF (laidF b ++ t) = b := by
 unfold recF
 rw [lenN_laid h, Int.toNat_natCast, take_laid, drop10]
theorem scan_laid {b : List Int} (h : b.length ≤ 1000) (m : Nat) (t : List Int) : scan (m + 1) (laidF b ++ t) = (match scan m t with
  | some q => some (b :: q.1, q.2)
  | none => none) := by
 have hl : (laidF b ++ t).length = 10 + b.length + t.length := by rw [List.length_append, laid_len]
 rw [scan, if_pos (by omega), lenN_laid h, if_neg (by omega), Int.toNat_natCast, if_neg (by omega), recF_laid h, take_laid, drop_laid, if_pos rfl] <;> (cases scan m t <;> rfl)
theorem scan_part {b : List Int} (h : b.length ≤ 1000) {k : Nat} (hk : k < 10 + b.length) (m : Nat) : scan m ((laidF b).take k) = some ([], (laidF b).take k) := by
 have hl : ((laidF b).take k).length = k := by rw [List.length_take, laid_len]; omega
 cases m with
 | zero => rfl
 | succ m =>
  rw [scan]
  by_cases h2 : k < 2
  ·rw [if_neg (by omega)]
  ·rw [if_pos (by omega), lenN_part h (by omega), if_neg (by omega), Int.toNat_natCast, if_pos (by omega)]
theorem scan_al : ∀ (su : List (List Int)) (t : List Int) (m : Nat), (∀ b ∈ su, b.length ≤ 1000) → scan m t = some ([], t) → scan (su.length + m) (alF su ++ t) = some (su, t)
 | [], t, m, _, h => by rw [show ([] : List (List Int)).length + m = m from Nat.zero_add m, al_nil]; exact h
 | b :: su, t, m, hs, h => by
  rw [al_cons, List.append_assoc, show (b :: su).length + m = (su.length + m) + 1 by rw [List.length_cons]; omega, scan_laid (hs b (List.mem_cons_self ..)), scan_al su t m (fun c hc => hs c (List.mem_cons_of_mem _ hc)) h]
theorem al_ge : ∀ (su : List (List Int)), su.length ≤ (alF su).length
 | [] => Nat.zero_le _
 | b :: su => by have := al_ge su; rw [al_cons, List.length_append, laid_len, List.length_cons]; omega
theorem read_al {su : List (List Int)} {t : List Int} (hs : ∀ b ∈ su, b.length ≤ 1000) (ht : ∀ m, scan m t = some ([], t)) :
  badF (alF su ++ t) = false ∧ reF (alF su ++ t) = su ∧ tlF (alF su ++ t) = t := by
 have hl : (alF su ++ t).length = su.length + ((alF su ++ t).length - su.length) := by have := al_ge su; rw [List.length_append]; omega
 have e : scan (alF su ++ t).length (alF su ++ t) = some (su, t) := by
  rw [hl]; exact scan_al su t _ hs (ht _)
 unfold badF reF tlF
 rw [e]
 exact ⟨rfl, rfl, rfl⟩
theorem scan_nil (m : Nat) : scan m [] = some ([], []) := by cases m <;> rfl
structure Go (h : JD) (su : List (List Int)) (N : Nat) : Prop where
 br : h.1.2.2.1 = false
 b : (stD h).b = alF su
 sure : (stD h).sure = ((alF su).length : Int)
 room : (stD h).room = 1048576
 f0 : -1 ≤ (stD h).fuse
 f1 : (stD h).fuse ≤ 9223372036854775807
 rc : h.2.2.1 = su
 ok : ∀ b ∈ su, b.length ≤ 1000
 len : (alF su).length + 2 * N ≤ 4000
structure En (d : D) (su wy : List (List Int)) : Prop where
 b : d.b = alF su ∨ ∃ b : List Int, wy = su ++ [b] ∧ b.length ≤ 1000 ∧ d.b = alF su ++ laidF b
 sure : d.sure = ((alF su).length : Int)
 room : d.room = 1048576
 ok : ∀ b ∈ su, b.length ≤ 1000
 len : (alF su).length ≤ 4000
theorem addF_down {b : List Int} {h : JD} (h0 : h.1.2.2.1 = false) (h1 : ¬ (b.length : Int) > 1000) {d : D} (e : appF rdyF (laidF b) (stD h) = er 8 d) : addF b h = ej 8 (putS true d h.2.2.1) := by
 unfold addF
 rw [if_neg (by rw [h0]; simp), if_neg h1, e]
 rfl
theorem addF_sync {b : List Int} {h : JD} (h0 : h.1.2.2.1 = false) (h1 : ¬ (b.length : Int) > 1000) {d d2 : D} (e : appF rdyF (laidF b) (stD h) = er 0 d) (e2 : syncF rdyF d = er 8 d2) : addF b h = ej 8 (putS true d2 h.2.2.1) := by
 unfold addF
 rw [if_neg (by rw [h0]; simp), if_neg h1, e]
 show (if (syncF rdyF d).1.1 = 0 then ej 0 (putS false (syncF rdyF d).2 (h.2.2.1 ++ [b])) else ej (syncF rdyF d).1.1 (putS (broke (syncF rdyF d).1.1) (syncF rdyF d).2 h.2.2.1)) = _
 rw [e2]
 rfl
theorem addF_ok {b : List Int} {h : JD} (h0 : h.1.2.2.1 = false) (h1 : ¬ (b.length : Int) > 1000) {d d2 : D} (e : appF rdyF (laidF b) (stD h) = er 0 d) (e2 : syncF rdyF d = er 0 d2) : addF b h = ej 0 (putS false d2 (h.2.2.1 ++ [b])) := by
 unfold addF
 rw [if_neg (by rw [h0]; simp), if_neg h1, e]
 show (if (syncF rdyF d).1.1 = 0 then ej 0 (putS false (syncF rdyF d).2 (h.2.2.1 ++ [b])) else ej (syncF rdyF d).1.1 (putS (broke (syncF rdyF d).1.1) (syncF rdyF d).2 h.2.2.1)) = _
 rw [e2]
 rfl
end Go.Proofs.Ytffdkniccaebmaa.Jnl
end
section
set_option linter.unusedVariables false
set_option linter.unusedSimpArgs false
set_option maxRecDepth 100000
namespace Go.Proofs.Ytffdkniccaebmaa.Bok
open Go Vse Go.Proofs Gen
open Jnl (JD RJ Hop addF addP onF onP opP opOk opF okR alF laidF laid_len al_snoc al_ge al_le al_nil stD putS bigF broke ej addF_down addF_sync addF_ok scan scan_nil scan_part read_al cutB tlF badF reF)
open Sto (stT D rdyF appF syncF repF appP er mk crashF crashP crashS)
structure Go (h : JD) (su : LL) : Prop where
 br : h.1.2.2.1 = false
 b : (stD h).b = alF su
 sure : (stD h).sure = ((alF su).length : Int)
 room : (stD h).room = 1048576
 f0 : -1 ≤ (stD h).fuse
 f1 : (stD h).fuse ≤ 9223372036854775807
 rc : h.2.2.1 = su
 ok : ∀ b ∈ su, b.length ≤ 1000
 len : (alF su).length ≤ 200000
structure Eb (d : D) (su wy : LL) : Prop where
 b : d.b = alF su ∨ ∃ b : List Int, wy = su ++ [b] ∧ b.length ≤ 1000 ∧ d.b = alF su ++ laidF b
 sure : d.sure = ((alF su).length : Int)
 room : d.room = 1048576
 f0 : -1 ≤ d.fuse
 f1 : d.fuse ≤ 9223372036854775807
 ok : ∀ b ∈ su, b.length ≤ 1000
 len : (alF su).length ≤ 200000
structure Opn (d : D) (rs : LL) (t : List Int) : Prop where
 b : d.b = alF rs ++ t
 sc : ∀ m, scan m t = some ([], t)
 ok : ∀ b ∈ rs, b.length ≤ 1000
 room : d.room = 1048576
 fu : d.fuse = -1
 dn : d.down = false
 le : d.b.length ≤ 400000
theorem rep_ok {d : D} (hf : d.fuse = -1) (hd : d.down = false) {x : List Int} (hx : (x.length : Int) ≤ d.room) : repF rdyF x d = er 0 (mk x x.length d.room (-1) false) := by
 unfold Sto.repF
 have e : rdyF x.length d = er 0 (mk d.b d.sure d.room (-1) false) := by
  unfold Sto.rdyF
  rw [if_neg (by rw [hf, hd]; simp), if_neg (by omega), if_pos hf, hf]
 rw [e]
 rfl
def dOf (h : Hop) : D := (h.1, h.2.1, ())
theorem okR_of {rs : LL} (h : ∀ b ∈ rs, b.length ≤ 1000) (hl : rs.length ≤ 400000) : okR rs = true := by
 unfold Jnl.okR
 rw [decide_eq_true (by omega), Bool.true_and]
 exact List.all_eq_true.2 fun b hb => decide_eq_true (by have := h b hb; omega)
end Go.Proofs.Ytffdkniccaebmaa.Bok
end
section
set_option linter.unusedVariables false
set_option linter.unusedSimpArgs false
set_option maxRecDepth 100000
namespace Go.Proofs.Ytffdkniccaebmaa.Bok
open Go Vse Go.Proofs Gen
open Fld (nameI encL putI hd1 num1 splitI wordI take1 Bytes)
theorem bytesStr_snoc (l : List Int) (x : Int) : bytesStr (l ++ [x]) = (bytesStr l).push (UInt8.ofNat x.toNat) := by unfold bytesStr; rw [List.foldl_append]; rfl
theorem strBytes_push (s : ByteArray) (c : UInt8) : strBytes (s.push c) = strBytes s ++ [(c.toNat : Int)] := by
 unfold strBytes
 rw [ByteArray.data_push, Array.toList_push, List.map_append]
 rfl
theorem strBytes_of (l : List Int) (h : Bytes l) : strBytes (bytesStr l) = l := by
 rw [← List.reverse_reverse l] at h ⊢
 generalize l.reverse = r at h ⊢
 induction r with
 | nil => rfl
 | cons x r ih =>
  rw [List.reverse_cons] at h ⊢
  have hx := h x (by simp)
  rw [bytesStr_snoc, strBytes_push, ih fun y hy => h y (List.mem_append_left _ hy)]
  have e : ((UInt8.ofNat x.toNat).toNat : Int) = x := by
   rw [UInt8.toNat_ofNat']
   omega
  rw [e]
theorem strBytes_bytes (s : ByteArray) : Bytes (strBytes s) := fun x hx => by
 unfold strBytes at hx
 obtain ⟨c, _, rfl⟩ := List.mem_map.1 hx
 have := c.toNat_lt
 omega
theorem str_str (s : ByteArray) : bytesStr (strBytes s) = s := by
 have h := strBytes_of (strBytes s) (strBytes_bytes s)
 generalize bytesStr (strBytes s) = t at h ⊢
 unfold strBytes at h
 have h2 := (List.map_inj_right (fun (x y : UInt8) (e : (x.toNat : Int) = (y.toNat : Int)) => UInt8.toNat_inj.1 (by omega))).1 h
 obtain ⟨⟨a⟩⟩ := s
 obtain ⟨⟨b⟩⟩ := t
 simp only at h2
 rw [h2]
theorem rt_kind {x : Op} (h : rtF x = true) : (1 ≤ x.1 ∧ x.1 ≤ 5) ∧ 0 ≤ x.2.2.2.1 ∧ x.2.2.2.1 ≤ 2147483647 := by
 obtain ⟨k, s, key, n, u⟩ := x
 unfold rtF at h
 dsimp only at h ⊢
 split at h
 ·rename_i h1; simp only [Bool.and_eq_true, decide_eq_true_eq] at h; omega
 split at h
 ·rename_i h1; simp only [Bool.and_eq_true, decide_eq_true_eq] at h; omega
 split at h
 ·rename_i h1; simp only [Bool.and_eq_true, decide_eq_true_eq] at h; omega
 split at h
 ·rename_i h1; simp only [Bool.and_eq_true, decide_eq_true_eq] at h; omega
 split at h
 ·rename_i h1; simp only [Bool.and_eq_true, decide_eq_true_eq] at h; omega
 ·cases h
theorem rd_put {x : Op} (h : rtF x = true) (hk : x.2.2.1.length = 16) : rd1 (putF x).1 = (x, 0, ()) := by
 obtain ⟨⟨k1, k2⟩, n1, n2⟩ := rt_kind h
 have e1 : (putF x).1 = wb x.1 :: encL (partsP x) := by unfold putF; rw [if_pos h]; rfl
 have hs : splitI (encL (partsP x)) = (partsP x, 0, ()) := Fld.put_split (parts_ok h hk)
 have hw : wb x.1 = x.1 := by rw [show wb x.1 = x.1 % 256 from Fld.wb_mod x.1]; omega
 have ho : opB tk1 (wb x.1 :: encL (partsP x)) = x := by
  obtain ⟨k, s, key, n, u⟩ := x
  unfold opB
  rw [List.drop_succ_cons, List.drop_zero, hs]
  show ((wb k, bytesStr (strBytes s), (wordI key).1, (tk1 (num1 n)).1, ()) : Op) = (k, s, key, n, ())
  have e2 : (wordI key).1 = key := by unfold Fld.wordI; rw [decide_eq_true hk]; rfl
  have e3 : (tk1 (num1 n)).1 = n := by
   show take1 (num1 n) = n
   have hn1 : 0 ≤ n := n1
   have hn2 : n ≤ 2147483647 := n2
   exact Fld.take_num n ⟨by omega, by omega⟩
  rw [str_str, e2, e3, hw]
 show rdT tk1 (putF x).1 = _
 rw [e1]
 unfold rdT
 rw [if_neg (by rw [List.length_cons]; omega), List.drop_succ_cons, List.drop_zero, hs, ho]
 refine if_pos ⟨rfl, rfl, ?_, rfl, h⟩
 show (wordI x.2.2.1).2.1 = 0
 unfold Fld.wordI
 rw [decide_eq_true hk]; rfl
theorem put_len {x : Op} (h : rtF x = true) (hk : x.2.2.1.length = 16) : (putF x).1.length ≤ 51 := by
 have hn := rt_name h
 have hl : (encL (partsP x)).length = 6 + (strBytes x.2.1).length + x.2.2.1.length + (num1 x.2.2.2.1).length := encL_len3 _ _ _
 rw [strBytes_len, num1_len] at hl
 unfold putF
 rw [if_pos h]
 show ([wb x.1] ++ encL (partsP x)).length ≤ 51
 rw [List.length_append, List.length_singleton]; omega
structure Kl (b : Bk) : Prop where
 e : ∀ x ∈ b.1, x.2.1.length = 16
 r : ∀ x ∈ b.2.1, x.length = 16
 o : b.2.2.2.1.length = 16
theorem kl0 : Kl bk0 := ⟨fun x hx => (by cases hx), fun x hx => (by cases hx), rfl⟩
theorem kl_done {b : Bk} {x : Op} (h : Kl b) (hk : x.2.2.1.length = 16) : Kl (doneF x b).2 := by
 obtain ⟨L, r, g, o, u⟩ := b
 unfold doneF
 split
 ·split
  ·exact h
  split
  ·exact h
  ·refine ⟨fun y hy => ?_, h.r, h.o⟩
   rcases List.mem_append.1 hy with hy | hy
   ·exact h.e y hy
   ·rw [List.mem_singleton.1 hy]; exact hk
 split
 ·split
  ·refine ⟨fun y hy => ?_, h.r, h.o⟩
   rcases List.mem_append.1 hy with hy | hy
   ·exact h.e y (List.mem_of_mem_take hy)
   ·exact h.e y (List.mem_of_mem_drop hy)
  ·exact h
 split
 ·split
  ·refine ⟨fun y hy => ?_, h.r, h.o⟩
   rcases List.mem_or_eq_of_mem_set hy with hy | hy
   ·exact h.e y hy
   ·rw [hy]; exact hk
  ·exact h
 split
 ·split
  ·exact h
  split
  ·exact h
  ·refine ⟨h.e, fun y hy => ?_, h.o⟩
   rcases List.mem_append.1 hy with hy | hy
   ·exact h.r y hy
   ·rw [List.mem_singleton.1 hy]; exact hk
 split
 ·split
  ·exact h
  ·exact ⟨h.e, h.r, hk⟩
 ·exact h
theorem kl_apply {b : Bk} {x : Op} (h : Kl b) (hk : x.2.2.1.length = 16) : Kl (applyF b x).1 := by
 unfold applyF
 split
 ·split
  ·exact kl_done h hk
  ·exact h
 ·exact h
theorem kl_ops {b : Bk} (h : Kl b) : ∀ x ∈ opsF b, x.2.2.1.length = 16 := fun x hx => by
 unfold opsF at hx
 rcases List.mem_append.1 hx with hx | hx
 ·rcases List.mem_append.1 hx with hx | hx
  ·obtain ⟨e, he, rfl⟩ := List.mem_map.1 hx; exact h.e e he
  ·obtain ⟨e, he, rfl⟩ := List.mem_map.1 hx; exact h.r e he
 ·split at hx
  ·rw [List.mem_singleton.1 hx]; exact h.o
  ·cases hx
theorem ap_done {b : Bk} {x : Op} (h : (applyF b x).2 = 0) : (doneF x b).1 = 0 ∧ (applyF b x).1 = (doneF x b).2 := by
 have hr := apply_rt h
 unfold applyF at h ⊢
 rw [if_pos hr] at h ⊢
 by_cases h0 : (doneF x b).1 = 0
 ·rw [if_pos h0]; exact ⟨h0, rfl⟩
 ·rw [if_neg h0] at h; exact absurd h h0
theorem reb_cons {x : Op} {b : Bk} (l : LL) (h : (applyF b x).2 = 0) (hk : x.2.2.1.length = 16) : reb ((putF x).1 :: l) b = reb l (applyF b x).1 := by
 obtain ⟨h1, h2⟩ := ap_done h
 rw [reb, rd_put (apply_rt h) hk, if_pos ⟨rfl, h1⟩, h2]
theorem reb_snoc : ∀ (l : LL) {x : Op} {b b2 : Bk}, reb l b = some b2 → (applyF b2 x).2 = 0 → x.2.2.1.length = 16 → reb (l ++ [(putF x).1]) b = some (applyF b2 x).1
 | [], x, b, b2, h, ha, hk => by
  have h : some b = some b2 := h
  cases h
  rw [List.nil_append, reb_cons [] ha hk]
  rfl
 | y :: l, x, b, b2, h, ha, hk => by
  rw [reb] at h
  split at h
  ·rename_i h1
   rw [List.cons_append, reb, if_pos h1]
   exact reb_snoc l h ha hk
  ·cases h
theorem reb_ops : ∀ (l : List Op) (b : Bk), allOk l b = true → (∀ x ∈ l, x.2.2.1.length = 16) → reb (putL l) b = some (apAll l b)
 | [], b, _, _ => rfl
 | x :: l, b, h, hk => by
  have h : (decide ((applyF b x).2 = 0) && allOk l (applyF b x).1) = true := h
  rw [Bool.and_eq_true, decide_eq_true_eq] at h
  show reb ((putF x).1 :: putL l) b = some (apAll l (applyF b x).1)
  rw [reb_cons _ h.1 (hk x (List.mem_cons_self ..))]
  exact reb_ops l _ h.2 fun y hy => hk y (List.mem_cons_of_mem _ hy)
theorem al_putL : ∀ (l : List Op), (∀ x ∈ l, rtF x = true) → (∀ x ∈ l, x.2.2.1.length = 16) → (Jnl.alF (putL l)).length ≤ 61 * l.length
 | [], _, _ => Nat.le_refl _
 | x :: l, h, hk => by
  have h1 := put_len (h x (List.mem_cons_self ..)) (hk x (List.mem_cons_self ..))
  have h2 := al_putL l (fun y hy => h y (List.mem_cons_of_mem _ hy)) (fun y hy => hk y (List.mem_cons_of_mem _ hy))
  show (Jnl.alF ((putF x).1 :: putL l)).length ≤ _
  rw [Jnl.al_cons, List.length_append, Jnl.laid_len, List.length_cons]
  omega
end Go.Proofs.Ytffdkniccaebmaa.Bok
end
section
set_option linter.unusedVariables false
set_option linter.unusedSimpArgs false
set_option maxRecDepth 100000
namespace Go.Proofs.Ytffdkniccaebmaa.Bok
open Go Vse Go.Proofs Gen
open Jnl (JD RJ Hop addF addP onF onP opP opOk opF okR alF laidF laid_len al_snoc al_ge stD)
open Sto (stT D rdyF appF syncF repF appP er mk crashF crashP crashS fuseF)
structure Gk (h : JD) (su : Bk) (N : Nat) : Prop where
 inv : Inv su
 kl : Kl su
 go : ∃ rs, Go h rs ∧ reb rs bk0 = some su ∧ (alF rs).length + 61 * N ≤ 20000
abbrev opA (a : Act) : Op := a.2.2.1
theorem inv_reb : ∀ (l : LL) {b b2 : Bk}, Inv b → reb l b = some b2 → Inv b2
 | [], b, b2, h, e => by have e : some b = some b2 := e; cases e; exact h
 | x :: l, b, b2, h, e => by
  rw [reb] at e
  split at e
  ·rename_i h1
   by_cases hr : rtF (rd1 x).1 = true
   ·exact inv_reb l (inv_done h hr) e
   ·exfalso
    have h1 := h1.1
    have : rd1 x = rdT tk1 x := rfl
    unfold rdT at this
    split at this
    ·rw [this] at h1; cases h1
    split at this
    ·rename_i h3
     rw [this] at hr
     exact hr h3.2.2.2.2
    ·rw [this] at h1; cases h1
  ·cases e
theorem int_wf {n : Int} (h : i64.wf n) : -9223372036854775808 ≤ n ∧ n ≤ 9223372036854775807 := by
 have h : (Lit.int .i64 n).wf = true := h
 simp [Lit.wf, IntKind.min, IntKind.max, IntKind.signed, IntKind.bits] at h
 omega
theorem su_16 {l : List Act} (hx : Ty.wf lAct l) : ∀ a ∈ l, (opA a).2.2.1.length = 16 := fun a ha => (hx.2 a ha).2.2.1.2.2.1.1
end Go.Proofs.Ytffdkniccaebmaa.Bok
end
section
set_option linter.unusedVariables false
set_option linter.unusedSimpArgs false
set_option maxRecDepth 100000
namespace Go.Proofs.Ytffdkniccaebmaa.Bok
open Go Vse Go.Proofs Gen
open Jnl (jT JD RJ Hop stD putS nLd sLd)
open Sto (stT D R1 R0 rdyF appF syncF repF appP sS sE powF rappF rsyncF rrepF rappP crashF crashP fuseF)
def invB (d : D) : Bool := decide (0 ≤ d.sure) && (decide (d.sure ≤ (d.b.length : Int)) && (decide ((d.b.length : Int) ≤ d.room) && (decide (d.room ≤ 1048576) && (decide (-1 ≤ d.fuse) && decide (d.fuse ≤ 9223372036854775807)))))
theorem invB_iff (d : D) : invB d = true ↔ Sto.Inv d := by
 unfold invB
 simp only [Bool.and_eq_true, decide_eq_true_eq]
 exact ⟨fun ⟨a, b, c, e, f, g⟩ => ⟨a, b, c, e, f, g⟩, fun h => ⟨h.s0, h.s1, h.b1, h.r1, h.f0, h.f1⟩⟩
def sRa : CSpec := .pos (sS [bs] [i64]) (fun xs d => decide (List.length (α := Int) xs.2.1 ≤ 2000) && invB d) fun xs d => appF rdyF xs.2.1 d
def sRs : CSpec := .pos (sS [] [i64]) (fun _ d => invB d) fun _ d => syncF rdyF d
def sRp : CSpec := .pos (sS [bs] [i64]) (fun xs d => decide (List.length (α := Int) xs.2.1 ≤ 2000000) && invB d) fun xs d => repF rdyF xs.2.1 d
def sRf : CSpec := .pos (sS [i64] []) (fun _ _ => true) fun xs d => fuseF xs.2.1 d
def sRc' : CSpec := .pos (sS [i64] []) (fun xs d => decide (-9223372036854775808 ≤ xs.2.1) && (decide (xs.2.1 ≤ 9223372036854775807) && invB d)) fun xs d => crashF xs.2.1 d
theorem rep_same' {x : List Int} {d : D} (h : Sto.Inv d) : repF rdyF x d = rrepF powF x d := by
 rcases Sto.rdy_ways x.length h with ⟨e1, e2⟩ | ⟨f, f0, f1, e1, e2⟩
 ·simp only [Sto.repF, Sto.rrepF, e1, e2, Sto.er]; rfl
 ·simp only [Sto.repF, Sto.rrepF, e1, e2, Sto.er, Sto.room_mk, if_true]
  by_cases hr : (x.length : Int) > d.room
  ·simp only [if_pos hr]; rfl
  ·simp only [if_neg hr, if_true]
theorem okRa : CSound Try.prog 121 sRa ∧ CLocal sRa :=
 pos_sound Sto.c64_sound Try.func121 (by kernel_rfl) (Sto.noL (by kernel_rfl)) fun xs hs _ _ hp => by
  have hp : (decide (List.length (α := Int) xs.2.1 ≤ 2000) && invB hs) = true := hp
  rw [Bool.and_eq_true, decide_eq_true_eq, invB_iff] at hp
  obtain ⟨q1, q2, q3, q4⟩ := Sto.app_same hp.1 hp.2
  exact ((Sto.k52 powF xs.2.1 hs).trans (Sto.rapp_eq powF xs.2.1 hs q4)).trans (congrArg some q1.symm)
theorem okRs : CSound Try.prog 123 sRs ∧ CLocal sRs :=
 pos_sound Sto.c64_sound Try.func123 (by kernel_rfl) (Sto.noL (by kernel_rfl)) fun xs hs _ _ hp =>
  ((Sto.k53 powF hs).trans (Sto.rsync_eq powF hs)).trans (congrArg some (Sto.sync_same ((invB_iff hs).1 hp)).1.symm)
theorem okRp : CSound Try.prog 120 sRp ∧ CLocal sRp :=
 pos_sound Sto.c64_sound Try.func120 (by kernel_rfl) (Sto.noL (by kernel_rfl)) fun xs hs _ _ hp => by
  have hp : (decide (List.length (α := Int) xs.2.1 ≤ 2000000) && invB hs) = true := hp
  rw [Bool.and_eq_true, decide_eq_true_eq, invB_iff] at hp
  exact ((Sto.k54 powF xs.2.1 hs).trans (Sto.rrep_eq powF xs.2.1 hs (Sto.room_of hp.1))).trans (congrArg some (rep_same' hp.2).symm)
theorem okRf : CSound Try.prog 70 sRf ∧ CLocal sRf := pos_sound nil_sound Try.func70 (by kernel_rfl) (Sto.noL (by kernel_rfl)) fun xs hs _ _ hp => Sto.k55 xs.2.1 hs
theorem okRc' : CSound Try.prog 71 sRc' ∧ CLocal sRc' :=
 pos_sound nil_sound Try.func71 (by kernel_rfl) (Sto.noL (by kernel_rfl)) fun xs hs _ _ hp => by
  have hp : (decide (-9223372036854775808 ≤ xs.2.1) && (decide (xs.2.1 ≤ 9223372036854775807) && invB hs)) = true := hp
  rw [Bool.and_eq_true, Bool.and_eq_true, decide_eq_true_eq, decide_eq_true_eq, invB_iff] at hp
  obtain ⟨q1, q2, q3, q4⟩ := Sto.crash_same hp.1 hp.2.1 hp.2.2
  have e : crashF xs.2.1 hs = Sto.rcrashF xs.2.1 hs := Prod.ext rfl q1
  exact ((Sto.k56 xs.2.1 hs).trans (Sto.rcrash_eq xs.2.1 hs q4)).trans (congrArg some e.symm)
def cLr (ps : List Int → Bool) (S : List Int → List Int) : List (Nat × CSpec) := [(129, .slp1 [bs] (fun x => ps x.1) Jnl.d32 fun x => S x.1)]
noncomputable abbrev bLr : Code := bodyOf Try.f122
def kLr : List Cut := [⟨1, [.vec 0 u8], [], [0, 3], [bs, .vc 0 0], [.vec 0 u8], 25⟩, ⟨0, [.vec 0 u8, .dead, .dead, .dead, .box Jnl.d32], [], [0, 3, 4], [bs, .vc 0 0, .ip true Jnl.d32], [.vec 0 u8, .dead, .dead, .dead, .dead], 25⟩]
def hdr (b : List Int) : List Int := [wb (w ((b.length : Int).tdiv 256)), wb ((b.length : Int).tmod 256)]
def TLr (ps : List Int → Bool) (S : List Int → List Int) (b : List Int) : Tr nLd.Out :=
 let c := [] ++ hdr b ++ b
 .chk (Vse.room (([] ++ hdr b).length + b.length) 1) (.chk (ps c) (.chk (Vse.room ((hdr b).length + (((S c).take 8).drop 0).length) 1) (.chk (Vse.room ((hdr b ++ ((S c).take 8).drop 0).length + b.length) 1) (.ret (((hdr b ++ ((S c).take 8).drop 0) ++ b, ()), ())))))
theorem tLr (ps : List Int → Bool) (S : List Int → List Int) (b : List Int) : (stC Try.prog (ctx (cLr ps S)) L0 nLd Try.f122 kLr bLr (begin_ Try.f122 (mkArgs [bs] (b, ())) [])).eval = (TLr ps S b).eval := by kernel_rfl
theorem hdr_eq {b : List Int} (h : b.length ≤ 1000) : hdr b = Jnl.hd14 b := by
 rw [Jnl.hd14_eq h]
 unfold hdr
 have e1 : (b.length : Int).tdiv 256 = (b.length : Int) / 256 := Int.tdiv_eq_ediv_of_nonneg (by omega)
 have e2 : (b.length : Int).tmod 256 = (b.length : Int) % 256 := Int.tmod_eq_emod_of_nonneg (by omega)
 have e3 : ∀ x : Int, 0 ≤ x → x < 256 → wb x = x := fun x h0 h1 => by rw [show wb x = x % 256 from Fld.wb_mod x]; omega
 rw [e1, e2, w_id (by omega) (by omega), e3 _ (by omega) (by omega), e3 _ (by omega) (by omega)]
def okLr (b : List Int) : Bool := decide (b.length ≤ 1000)
theorem hd14_bytes (b : List Int) : Fld.Bytes (Jnl.hd14 b) := fun x hx => by
 have e3 : ∀ y : Int, 0 ≤ wb y ∧ wb y < 256 := fun y => by rw [show wb y = y % 256 from Fld.wb_mod y]; omega
 unfold Jnl.hd14 at hx
 simp only [List.mem_cons, List.not_mem_nil, or_false] at hx
 rcases hx with rfl | rfl
 ·exact e3 _
 ·exact e3 _
theorem TLr_eq {b : List Int} (hp : okLr b = true) (hb : Fld.Bytes b) : (TLr Sha.filledP Sha.rsumF b).eval = some ((Jnl.laidF b, ()), ()) := by
 have hl : b.length ≤ 1000 := of_decide_eq_true hp
 have hh : (Jnl.hd14 b).length = 2 := rfl
 have hc : ([] ++ Jnl.hd14 b ++ b : List Int) = Jnl.hd14 b ++ b := rfl
 have hcl : (Jnl.hd14 b ++ b).length = 2 + b.length := by rw [List.length_append, hh]
 have hcb : Fld.Bytes (Jnl.hd14 b ++ b) := fun x hx => by
  rcases List.mem_append.1 hx with h | h
  ·exact hd14_bytes b x h
  ·exact hb x h
 have hS : Sha.rsumF (Jnl.hd14 b ++ b) = Sha.shaF (Jnl.hd14 b ++ b) := (Sha.sums_same hcb (by rw [hcl]; omega)).symm
 unfold TLr
 rw [hdr_eq hl]
 dsimp only
 rw [hc, hS]
 have h8 : (((Sha.shaF (Jnl.hd14 b ++ b)).take 8).drop 0).length = 8 := by rw [List.drop_zero, List.length_take, Jnl.shaF_len]; rfl
 rw [chk_eval (by simp only [Vse.room, decide_eq_true_eq, List.nil_append]; omega), chk_eval (show Sha.filledP (Jnl.hd14 b ++ b) = true from decide_eq_true (by omega)),
  chk_eval (by simp only [Vse.room, decide_eq_true_eq]; omega), chk_eval (by rw [List.length_append]; simp only [Vse.room, decide_eq_true_eq]; omega), List.drop_zero]
 unfold Jnl.laidF
 rw [List.append_assoc]
 rfl
theorem okLy : CSound Try.prog 122 (sLd okLr Jnl.laidF) ∧ CLocal (sLd okLr Jnl.laidF) :=
 pos_cuts (L := L0) (C := ctx (cLr Sha.filledP Sha.rsumF)) (ctx_sound ⟨Sha.ok17, trivial⟩) kLr Try.func122 (c := bLr) (by kernel_rfl) (by kernel_rfl) (noLoopsL (by kernel_rfl)) fun xs hs hx hh hp => by
  obtain ⟨b, u⟩ := xs
  exact (tLr Sha.filledP Sha.rsumF b).trans (TLr_eq hp (Fld.bytes_ok hx.1))
end Go.Proofs.Ytffdkniccaebmaa.Bok
end
section
set_option linter.unusedVariables false
set_option linter.unusedSimpArgs false
set_option maxRecDepth 100000
namespace Go.Proofs.Ytffdkniccaebmaa.Bok
open Go Vse Go.Proofs Gen
open Jnl (jT JD RJ Hop stD putS nLd sLd laidF laid_len badF reF tlF scan recF tl_le)
open Sto (stT D R1 R0 rdyF appF syncF repF appP sS sE powF rappF rsyncF rrepF rappP crashF crashP fuseF)
open Fld (lenN Bytes bytes_get bytes_drop)
noncomputable def bSc : Code := loopAt Try.f119 0
def SSc : RSpec := ⟨[0, 5, 6], 67, [bs, .vc 0 0, i64], [.vec 0 bt], [], [.slot 5 bt], fun _ => ([5, 6], [.vc 0 0, i64], [.vec 0 bt])⟩
def cSc (pl : List Int → Bool) (ld : List Int → List Int) (sm : List Int → List Int → Bool) : List (Nat × CSpec) :=
 [(122, sLd pl ld), (35, .sl1 [bs, bs] .bool fun x => sm x.1 x.2.1)]
def outSc (e : Ex) (i : Int) (o : LL) : Ex × St := (e, encS [5, 6] [.vc 0 0, i64] [.vec 0 bt] 67 ((), i, ()) (o, ()))
def mSc (b : List Int) (i : Int) : Int := w (w (256 * w (b.getD i.toNat 0)) + w (b.getD (w (i + 1)).toNat 0))
def eSc (b : List Int) (i : Int) : Int := w (w (i + 10) + mSc b i)
def oneSc (b : List Int) (i : Int) : List Int := [] ++ (b.take (eSc b i).toNat).drop (w (i + 10)).toNat
def GSc (pl : List Int → Bool) (ld : List Int → List Int) (sm : List Int → List Int → Bool) (b : List Int) (o : LL) (i : Int) : Tr SSc.End :=
 let bad : Tr SSc.End := .ret (.inr (outSc .ret i o))
 let in3 : Tr SSc.End := .ite (!sm (ld (oneSc b i)) ((b.take (eSc b i).toNat).drop i.toNat)) bad (.chk (Vse.room (o.length + 1) 24) (.ret (.inl ((b, (), eSc b i, ()), (o ++ [oneSc b i], ())))))
 let in2 : Tr SSc.End := .chk (decide (0 ≤ w (i + 10)) && (decide (w (i + 10) ≤ eSc b i) && decide (eSc b i ≤ (b.length : Int)))) (.chk (Vse.room (0 + ((b.take (eSc b i).toNat).drop (w (i + 10)).toNat).length) 1) (.chk (pl (oneSc b i))
  (.chk (decide (0 ≤ i) && (decide (i ≤ eSc b i) && decide (eSc b i ≤ (b.length : Int)))) in3)))
 .ite (decide (w ((b.length : Int) - i) ≥ 2)) (.chk (inArr i b.length) (.chk (inArr (w (i + 1)) b.length) (.ite (decide (mSc b i > 1000)) bad (.ite (decide (w ((b.length : Int) - i) < w (10 + mSc b i))) (.ret (.inr (outSc (.exit 0) i o))) in2)))) (.ret (.inr (outSc (.exit 0) i o)))
theorem rSc (pl : List Int → Bool) (ld : List Int → List Int) (sm : List Int → List Int → Bool) (b : List Int) (o : LL) (i : Int) :
  (SSc.round (bodyK Try.prog (ctx (cSc pl ld sm)) L0 bSc) (b, (), i, ()) (o, ())).eval = (GSc pl ld sm b o i).eval := by kernel_rfl
theorem lenN_in {r : List Int} (h : Bytes r) : 0 ≤ lenN r ∧ lenN r < 65536 := Jnl.lenN_pos h
theorem mSc_eq {b : List Int} (hb : Bytes b) {k : Nat} (hk : k + 1 < b.length) (hl : b.length ≤ 2000000) : mSc b (k : Int) = lenN (b.drop k) := by
 have h0 := bytes_get hb k
 have h1 := bytes_get hb (k + 1)
 unfold mSc Fld.lenN
 rw [Fld.getD_drop, Fld.getD_drop, Nat.add_zero, Int.toNat_natCast, w_id (x := (k : Int) + 1) (by omega) (by omega), show ((k : Int) + 1).toNat = k + 1 by omega,
  w_id (x := b.getD k 0) (by omega) (by omega), w_id (x := b.getD (k + 1) 0) (by omega) (by omega), w_id (x := 256 * b.getD k 0) (by omega) (by omega), w_id (by omega) (by omega)]
abbrev smE : List Int → List Int → Bool := Fld.sameI
theorem mScF {b : List Int} (hb : Bytes b) (hl : b.length ≤ 2000000) : ∀ (m k : Nat) (o : LL) (q : LL × List Int), k ≤ b.length → b.length - k ≤ m → o.length + (b.length - k) ≤ 4000000 → scan m (b.drop k) = some q →
  SSc.many (bodyK Try.prog (ctx (cSc okLr laidF smE)) L0 bSc) (m + 1) (b, (), (k : Int), ()) (o, ()) = some (outSc (.exit 0) ((b.length - q.2.length : Nat) : Int) (o ++ q.1))
 | 0, k, o, q, hk, hm, ho, hq => by
  have hq : some (([] : LL), b.drop k) = some q := hq
  cases hq
  have hz : (b.drop k).length = 0 := by rw [List.length_drop]; omega
  have e : ((b.length - (b.drop k).length : Nat) : Int) = (k : Int) := by omega
  show _ = some (outSc (.exit 0) ((b.length - (b.drop k).length : Nat) : Int) (o ++ []))
  rw [e, List.append_nil]
  refine rmany_inr ((rSc okLr laidF smE b o k).trans ?_) 0
  unfold GSc
  dsimp only
  rw [w_id (x := (b.length : Int) - k) (by omega) (by omega), ite_f (decide_eq_false (by omega))]
  rfl
 | m + 1, k, o, q, hk, hm, ho, hq => by
  have hr : (b.drop k).length = b.length - k := List.length_drop
  have hrb := bytes_drop hb k
  have hn := lenN_in hrb
  have hw : w ((b.length : Int) - k) = ((b.length - k : Nat) : Int) := by rw [w_id (by omega) (by omega)]; omega
  rw [scan] at hq
  by_cases h2 : (b.drop k).length ≥ 2
  ·rw [if_pos h2] at hq
   have hM := mSc_eq hb (k := k) (by omega) hl
   have i1 : inArr (k : Int) b.length = true := inArr_of (by omega)
   have i2 : inArr (w ((k : Int) + 1)) b.length = true := by rw [w_id (by omega) (by omega)]; exact inArr_of (k := k + 1) (by omega)
   have hR := rSc okLr laidF smE b o k
   by_cases h3 : lenN (b.drop k) > 1000
   ·rw [if_pos h3] at hq; cases hq
   rw [if_neg h3] at hq
   have hw10 : w (10 + mSc b k) = ((10 + (lenN (b.drop k)).toNat : Nat) : Int) := by rw [hM, w_id (by omega) (by omega)]; omega
   by_cases h4 : (b.drop k).length < 10 + (lenN (b.drop k)).toNat
   ·rw [if_pos h4] at hq
    cases hq
    have e : ((b.length - (b.drop k).length : Nat) : Int) = (k : Int) := by omega
    show _ = some (outSc (.exit 0) ((b.length - (b.drop k).length : Nat) : Int) (o ++ []))
    rw [e, List.append_nil]
    refine rmany_inr (hR.trans ?_) _
    unfold GSc
    dsimp only
    rw [hw, hw10, hM, ite_t (decide_eq_true (by omega)), chk_eval i1, chk_eval i2, ite_f (decide_eq_false h3), ite_t (decide_eq_true (by omega))]
    rfl
   ·rw [if_neg h4] at hq
    by_cases h5 : laidF (recF (b.drop k)) = (b.drop k).take (10 + (lenN (b.drop k)).toNat)
    ·rw [if_pos h5] at hq
     have hw1 : w ((k : Int) + 10) = ((k + 10 : Nat) : Int) := by rw [w_id (by omega) (by omega)]; omega
     have hE : eSc b k = ((k + (10 + (lenN (b.drop k)).toNat) : Nat) : Int) := by unfold eSc; rw [hw1, hM, w_id (by omega) (by omega)]; omega
     have hT : (b.take (k + (10 + (lenN (b.drop k)).toNat))).drop k = (b.drop k).take (10 + (lenN (b.drop k)).toNat) := by
      rw [List.take_drop]
     have hO : oneSc b k = recF (b.drop k) := by
      unfold oneSc Jnl.recF
      rw [hE, hw1, Int.toNat_natCast, Int.toNat_natCast, ← hT, List.drop_drop]
      rfl
     have hOl : (recF (b.drop k)).length ≤ 1000 := by unfold Jnl.recF; rw [List.length_drop, List.length_take]; omega
     have hX : ((b.take (k + (10 + (lenN (b.drop k)).toNat))).drop (k + 10)).length ≤ 1000 := by rw [List.length_drop, List.length_take]; omega
     have hd : (b.drop k).drop (10 + (lenN (b.drop k)).toNat) = b.drop (k + (10 + (lenN (b.drop k)).toNat)) := List.drop_drop
     cases hs : scan m ((b.drop k).drop (10 + (lenN (b.drop k)).toNat)) with
     | none => rw [hs] at hq; cases hq
     | some p =>
      rw [hs] at hq
      cases hq
      rw [hd] at hs
      have step : (GSc okLr laidF smE b o k).eval = some (.inl ((b, (), ((k + (10 + (lenN (b.drop k)).toNat) : Nat) : Int), ()), (o ++ [recF (b.drop k)], ()))) := by
       unfold GSc
       dsimp only
       rw [hw, hw10, hM, hO, hE, hw1, ite_t (decide_eq_true (by omega)), chk_eval i1, chk_eval i2, ite_f (decide_eq_false h3), ite_f (decide_eq_false (by omega)),
        chk_eval (by simp only [Bool.and_eq_true, decide_eq_true_eq]; omega), chk_eval (by rw [Int.toNat_natCast, Int.toNat_natCast]; simp only [Vse.room, decide_eq_true_eq]; omega), chk_eval (show okLr (recF (b.drop k)) = true from decide_eq_true hOl),
        chk_eval (by simp only [Bool.and_eq_true, decide_eq_true_eq]; omega), Int.toNat_natCast, Int.toNat_natCast, hT, ite_f (by rw [show smE (laidF (recF (b.drop k))) ((b.drop k).take (10 + (lenN (b.drop k)).toNat)) = true from decide_eq_true h5]; rfl),
        chk_eval (by simp only [Vse.room, decide_eq_true_eq]; omega)]
       rfl
      refine (rmany_inl (hR.trans step) (m + 1)).trans ((mScF hb hl m _ (o ++ [recF (b.drop k)]) p (by omega) (by omega) (by rw [List.length_append, List.length_singleton]; omega) hs).trans ?_)
      rw [List.append_assoc]
      rfl
    ·rw [if_neg h5] at hq; cases hq
  ·rw [if_neg h2] at hq
   cases hq
   have e : ((b.length - (b.drop k).length : Nat) : Int) = (k : Int) := by omega
   show _ = some (outSc (.exit 0) ((b.length - (b.drop k).length : Nat) : Int) (o ++ []))
   rw [e, List.append_nil]
   refine rmany_inr ((rSc okLr laidF smE b o k).trans ?_) _
   unfold GSc
   dsimp only
   rw [hw, ite_f (decide_eq_false (by omega))]
   rfl
def cScF (b : List Int) (o : LL) (i : Int) : Bool := decide (i = 0) && (decide (o.length = 0) && (decide (b.length ≤ 2000000) && (Jnl.byB b && !badF b)))
def FSc (c : List Int → LL → Int → Bool) (re : List Int → LL) (tl : List Int → List Int) (xs : HL SSc.Ts) (hs : HD SSc.Es) : Tr (Ex × St) := .chk (c xs.1 hs.1 xs.2.2.1) (.ret (outSc (.exit 0) ((xs.1.length - (tl xs.1).length : Nat) : Int) (re xs.1)))
def LSc (c : List Int → LL → Int → Bool) (re : List Int → LL) (tl : List Int → List Int) : Loops := fun j st => if j = 3 then SSc.fn (FSc c re tl) st else .fail
theorem cSc_sound : CtxSound Try.prog (ctx (cSc okLr laidF smE)) ∧ CtxLocal (ctx (cSc okLr laidF smE)) := ctx_sound ⟨okLy, Fld.ok19, trivial⟩
theorem lSc : LoopOK Try.prog (LSc cScF reF tlF) bSc :=
 rloop_ok (L := LSc cScF reF tlF) (L' := L0) cSc_sound (loopsOK_of (by kernel_rfl)) SSc (F := FSc cScF reF tlF) (i := 3) (by kernel_rfl) (fun _ => rfl) fun xs hs q hq => by
  obtain ⟨b, u1, i, u2⟩ := xs
  obtain ⟨o, u3⟩ := hs
  obtain ⟨h1, h2⟩ := Tr.chk_some hq
  simp only [cScF, Bool.and_eq_true, Bool.not_eq_true', decide_eq_true_eq] at h1
  obtain ⟨e1, e2, e3, e4, e5⟩ := h1
  have e1 : i = ((0 : Nat) : Int) := e1
  have e2 : o = ([] : LL) := List.eq_nil_of_length_eq_zero e2
  have e3 : List.length (α := Int) b ≤ 2000000 := e3
  subst e1; subst e2
  unfold Jnl.badF at e5
  cases hs : scan (List.length (α := Int) b) b with
  | none => rw [hs] at e5; cases e5
  | some p =>
   refine ⟨_, (mScF (Jnl.by_Bytes e4) e3 (List.length (α := Int) b) 0 [] p (Nat.zero_le _) (by omega) (by show 0 + _ ≤ _; omega) hs).trans ?_⟩
   rw [← Tr.ret_some h2]
   show some (outSc (.exit 0) _ _) = some (outSc (.exit 0) ((List.length (α := Int) b - (tlF b).length : Nat) : Int) (reF b))
   rw [show tlF b = p.2 by unfold Jnl.tlF; rw [hs], show reF b = p.1 by unfold Jnl.reF; rw [hs]]
   rfl
abbrev nSc : PSpec := ⟨[bs], [.vc 0 0, i64, .bool], [], [.vec 0 bt], []⟩
theorem tSc (pl : List Int → Bool) (ld : List Int → List Int) (sm : List Int → List Int → Bool) (c : List Int → LL → Int → Bool) (re : List Int → LL) (tl : List Int → List Int) (b : List Int) :
  (fnP Try.prog (ctx (cSc pl ld sm)) (LSc c re tl) nSc Try.f119 (b, ()) ()).eval = (.chk (c b [] 0) (.ret (((), ((b.length - (tl b).length : Nat) : Int), false, ()), (re b, ()))) : Tr nSc.Out).eval := by kernel_rfl
end Go.Proofs.Ytffdkniccaebmaa.Bok
end
section
set_option linter.unusedVariables false
set_option linter.unusedSimpArgs false
set_option maxRecDepth 100000
namespace Go.Proofs.Ytffdkniccaebmaa.Bok
open Go Vse Go.Proofs Gen
open Jnl (jT JD RJ Hop stD putS nLd sLd laidF laid_len badF reF tlF scan recF tl_le oE nOk hop opP opOk opF cutB)
open Sto (stT D R1 R0 rdyF appF syncF repF appP sS sE powF rappF rsyncF rrepF rappP crashF crashP fuseF)
open Fld (lenN Bytes bytes_get bytes_drop)
def okSb (b : List Int) : Bool := decide (b.length ≤ 2000000) && !badF b
def sSc (p : List Int → Bool) (re : List Int → LL) (tl : List Int → List Int) : CSpec := .pos nSc (fun xs _ => p xs.1) fun xs _ => (((), ((List.length (α := Int) xs.1 - (tl xs.1).length : Nat) : Int), false, ()), (re xs.1, ()))
theorem okScn : CSound Try.prog 119 (sSc okSb reF tlF) ∧ CLocal (sSc okSb reF tlF) :=
 pos_sound (L := LSc cScF reF tlF) cSc_sound Try.func119 (by kernel_rfl) (loops1 (by kernel_rfl) lSc) fun xs hs hx hh hp => by
  obtain ⟨b, u⟩ := xs
  have hp : okSb b = true := hp
  unfold okSb at hp
  rw [Bool.and_eq_true] at hp
  exact (tSc okLr laidF smE cScF reF tlF b).trans (chk_eval (by unfold cScF; rw [hp.1, hp.2, Jnl.Bytes_by (Fld.bytes_ok hx.1)]; rfl) _)
noncomputable def cPw : List (Nat × CSpec) := [(128, CSpec.ent Try.prog (ctx []) L0 5 1 Try.f128)]
theorem cPw_sound : CtxSound Try.prog (ctx cPw) ∧ CtxLocal (ctx cPw) :=
 ctx_sound ⟨ent_sound (L := L0) nil_sound Try.func128 (by kernel_rfl) (Sto.noL (by kernel_rfl)) 5 1 (by decide), trivial⟩
noncomputable def sRe : CSpec := CSpec.ent Try.prog (ctx cPw) L0 5 3 Try.f120
theorem okRe' : CSound Try.prog 120 sRe ∧ CLocal sRe :=
 ent_sound (L := L0) cPw_sound Try.func120 (by kernel_rfl) (Sto.noL (by kernel_rfl)) 5 3 (by decide)
noncomputable def cOr (ps : List Int → Bool) (re : List Int → LL) (tl : List Int → List Int) : List (Nat × CSpec) := [(119, sSc ps re tl), (120, sRe)]
def TOr (ps : List Int → Bool) (re : List Int → LL) (tl : List Int → List Int) (d : D) : Tr nOk.Out :=
 let n : Nat := d.2.1.length - (tl d.2.1).length
 let x := d.2.1.take n
 let go (f : Int) (dn : Bool) : Tr nOk.Out := .ite (decide ((x.length : Int) > d.1.2.2.1)) .fail (.chk (Vse.room (0 + x.length) 1) (.ret (((), 0, ()), (((), (x.length : Int), d.1.2.2.1, f, dn, ()), [] ++ x, ((), (), false, ()), re d.2.1, ()))))
 .chk (ps d.2.1) (.ite (decide ((n : Int) < (d.2.1.length : Int))) (.chk (decide (0 ≤ (n : Int)) && decide ((n : Int) ≤ (d.2.1.length : Int))) (.ite d.1.2.2.2.2.1 .fail (.ite (d.1.2.2.2.1 == 0) .fail (.ite (decide (d.1.2.2.2.1 > 0)) (go (w (d.1.2.2.2.1 - 1)) d.1.2.2.2.2.1) (go d.1.2.2.2.1 d.1.2.2.2.2.1)))))
  (.ret (((), 0, ()), hop d false (re d.2.1))))
theorem tOr (ps : List Int → Bool) (re : List Int → LL) (tl : List Int → List Int) (d : D) : (fnP Try.prog (ctx (cOr ps re tl)) L0 nOk Try.f107 ((), ()) d).eval = (TOr ps re tl d).eval := by kernel_rfl
def oprP (d : D) : Bool := (opP d && opOk d) && invB d
theorem TOr_eq {d : D} (hp : oprP d = true) : (TOr okSb reF tlF d).eval = some (opF d) := by
 unfold oprP at hp
 rw [Bool.and_eq_true, Bool.and_eq_true, invB_iff] at hp
 obtain ⟨⟨h1, h2⟩, hI⟩ := hp
 have hl : d.b.length ≤ 2000000 := of_decide_eq_true h1
 unfold Jnl.opOk at h2
 rw [Bool.and_eq_true, Bool.not_eq_true', Bool.or_eq_true, decide_eq_true_eq, decide_eq_true_eq] at h2
 have ht := tl_le d.b
 have hps : okSb d.2.1 = true := by
  unfold okSb
  rw [decide_eq_true (show d.2.1.length ≤ 2000000 from hl)]
  show (true && !badF d.b) = true
  rw [h2.1]; rfl
 unfold TOr Jnl.opF
 dsimp only
 rw [chk_eval hps]
 by_cases h0 : (tlF d.b).length = 0
 ·have c0 : ¬ (((d.2.1.length - (tlF d.2.1).length : Nat) : Int) < (d.2.1.length : Int)) := by
   have h0 : (tlF d.2.1).length = 0 := h0
   omega
  rw [if_pos h0, ite_f (decide_eq_false c0)]
  rfl
 ·have h3 := h2.2.resolve_left h0
  have c0 : (((d.2.1.length - (tlF d.2.1).length : Nat) : Int) < (d.2.1.length : Int)) := by
   have h0 : ¬ (tlF d.2.1).length = 0 := h0
   have ht : (tlF d.2.1).length ≤ d.2.1.length := ht
   omega
  rw [if_neg h0, ite_t (decide_eq_true c0), chk_eval (by rw [Bool.and_eq_true, decide_eq_true_eq, decide_eq_true_eq]; omega)]
  change (Tr.ite d.down .fail (.ite (d.fuse == 0) .fail (.ite (decide (d.fuse > 0)) (.ite (decide (((cutB d.b).length : Int) > d.room)) .fail (.chk (Vse.room (0 + (cutB d.b).length) 1) (.ret (((), 0, ()), (((), ((cutB d.b).length : Int), d.room, w (d.fuse - 1), d.down, ()), cutB d.b, ((), (), false, ()), reF d.b, ())))))
   (.ite (decide (((cutB d.b).length : Int) > d.room)) .fail (.chk (Vse.room (0 + (cutB d.b).length) 1) (.ret (((), 0, ()), (((), ((cutB d.b).length : Int), d.room, d.fuse, d.down, ()), cutB d.b, ((), (), false, ()), reF d.b, ()))))))) : Tr nOk.Out).eval = _
  have hc : (cutB d.b).length ≤ 2000000 := by unfold Jnl.cutB; rw [List.length_take]; omega
  have hrm : Vse.room (0 + (cutB d.b).length) 1 = true := by simp only [Vse.room, decide_eq_true_eq]; omega
  generalize cutB d.b = x at h3 hc hrm ⊢
  have hr : ¬ (d.down = true ∨ d.fuse = 0) := fun h => by
   unfold Sto.repF Sto.rdyF at h3
   rw [if_pos h] at h3
   have h3 : (8 : Int) = 0 := h3
   omega
  have hf0 := hI.f0
  have hf1 := hI.f1
  have hdn : d.down = false := by cases hd : d.down with | true => exact absurd (.inl hd) hr | false => rfl
  have hfz : d.fuse ≠ 0 := fun h => hr (.inr h)
  have hxr : ¬ (x.length : Int) > d.room := fun h => by
   unfold Sto.repF Sto.rdyF at h3
   rw [if_neg hr, if_pos h] at h3
   have h3 : (7 : Int) = 0 := h3
   omega
  have hrep : repF rdyF x d = Sto.er 0 (Sto.mk x x.length d.room (if d.fuse = -1 then d.fuse else w (d.fuse - 1)) false) := by
   unfold Sto.repF Sto.rdyF
   rw [if_neg hr, if_neg hxr]
   rfl
  rw [hrep, hdn, ite_f rfl, ite_f (by rw [beq_int]; exact decide_eq_false hfz)]
  by_cases hp : d.fuse > 0
  ·rw [ite_t (decide_eq_true hp), ite_f (decide_eq_false hxr), chk_eval hrm, if_neg (by omega)]; rfl
  ·rw [ite_f (decide_eq_false hp), ite_f (decide_eq_false hxr), chk_eval hrm, if_pos (by omega)]; rfl
def sOr : CSpec := .pos nOk (fun _ d => oprP d) fun _ d => opF d
theorem okOr : CSound Try.prog 107 sOr ∧ CLocal sOr :=
 pos_sound (L := L0) (C := ctx (cOr okSb reF tlF)) (ctx_sound ⟨okScn, okRe', trivial⟩) Try.func107 (by kernel_rfl) (noLoopsL (by kernel_rfl)) fun xs hs hx hh hp => (tOr okSb reF tlF hs).trans (TOr_eq hp)
end Go.Proofs.Ytffdkniccaebmaa.Bok
end
section
set_option linter.unusedVariables false
set_option linter.unusedSimpArgs false
set_option maxRecDepth 100000
namespace Go.Proofs.Ytffdkniccaebmaa.Bok
open Go Vse Go.Proofs Gen
open Jnl (jT jE JD RJ Hop stD putS nJ nLd sLd laidF laid_len bigF alF al_nil al_cons al_snoc al_le addF onF broke ej)
open Sto (stT D R1 R0 rdyF appF syncF repF appP sS sE powF)
open Fld (lenN Bytes bytes_get bytes_drop)
def cAdr (pl : List Int → Bool) (ld : List Int → List Int) (pa : List Int → D → Bool) (ap : List Int → D → R1) (ps : D → Bool) (sy : D → R1) : List (Nat × CSpec) :=
 [(122, sLd pl ld), (121, .pos (sS [bs] [i64]) (fun xs d => pa xs.2.1 d) fun xs d => ap xs.2.1 d), (123, .pos (sS [] [i64]) (fun _ d => ps d) fun _ d => sy d)]
def TAdr (pl : List Int → Bool) (ld : List Int → List Int) (pa : List Int → D → Bool) (ap : List Int → D → R1) (ps : D → Bool) (sy : D → R1) (b : List Int) (h : JD) : Tr (nJ [bs] [i64] 1).Out :=
 let q := ap (ld b) (stD h)
 let q2 := sy q.2
 let fin (d : D) : Tr (nJ [bs] [i64] 1).Out := .chk (Vse.room (0 + h.2.2.1.length) 24) (.chk (Vse.room (0 + b.length) 1) (.chk (Vse.room (h.2.2.1.length + 1) 24) (.ret ((0, ()), putS h.1.2.2.1 d (h.2.2.1 ++ [b])))))
 .ite h.1.2.2.1 (.ret ((8, ()), h)) (.ite (decide ((b.length : Int) > 1000)) (.ret ((7, ()), h)) (.chk (pl b) (.chk (pa (ld b) (stD h)) (.ite (decide (q.1.1 = 0)) (.chk (ps q.2) (.ite (!decide (q2.1.1 = 0)) (.ret ((q2.1.1, ()), putS (q2.1.1 != 7) q2.2 h.2.2.1)) (fin q2.2)))
  (.ite (!decide (q.1.1 = 0)) (.ret ((q.1.1, ()), putS (q.1.1 != 7) q.2 h.2.2.1)) (fin q.2))))))
theorem tAdr (pl : List Int → Bool) (ld : List Int → List Int) (pa : List Int → D → Bool) (ap : List Int → D → R1) (ps : D → Bool) (sy : D → R1) (b : List Int) (h : JD) :
  (fnP Try.prog (ctx (cAdr pl ld pa ap ps sy)) L0 (nJ [bs] [i64] 1) Try.f108 ((), b, ()) h).eval = (TAdr pl ld pa ap ps sy b h).eval := by kernel_rfl
def adP (b : List Int) (h : JD) : Bool := decide ((b.length : Int) > 1000) || (invB (stD h) && decide (h.2.2.1.length ≤ 1000000))
abbrev paF : List Int → D → Bool := fun x d => decide (x.length ≤ 2000) && invB d
theorem broke_ne {e : Int} (h : e ≠ 0) : broke e = (e != 7) := by
 unfold Jnl.broke
 rw [show (e != 0) = true from by simp [bne, beq_int, h], Bool.true_and]
theorem TAdr_eq {b : List Int} {h : JD} (hp : adP b h = true) : (TAdr okLr laidF paF (appF rdyF) invB (syncF rdyF) b h).eval = some (addF b h) := by
 unfold TAdr Jnl.addF
 dsimp only
 cases h0 : h.1.2.2.1 with
 | true => rw [ite_t rfl, if_pos rfl]; rfl
 | false =>
  rw [ite_f rfl, if_neg (by simp)]
  by_cases h1 : (b.length : Int) > 1000
  ·rw [ite_t (decide_eq_true h1), if_pos h1]; rfl
  ·rw [ite_f (decide_eq_false h1), if_neg h1]
   unfold adP at hp
   rw [decide_eq_false h1, Bool.false_or, Bool.and_eq_true, decide_eq_true_eq, invB_iff] at hp
   have hl := laid_len b
   have hI2 := (Sto.app_same (x := laidF b) (by omega) hp.1).2.1
   rw [chk_eval (show okLr b = true from decide_eq_true (by omega)), chk_eval (show paF (laidF b) (stD h) = true by unfold paF; rw [(invB_iff _).2 hp.1, decide_eq_true (show (laidF b).length ≤ 2000 by omega)]; rfl)]
   generalize appF rdyF (laidF b) (stD h) = q at hI2 ⊢
   by_cases h2 : q.1.1 = 0
   ·rw [ite_t (decide_eq_true h2), if_pos h2, chk_eval ((invB_iff _).2 hI2)]
    generalize syncF rdyF q.2 = q2
    by_cases h3 : q2.1.1 = 0
    ·rw [ite_f (by rw [decide_eq_true h3]; rfl), if_pos h3, chk_eval (by simp only [Vse.room, decide_eq_true_eq]; omega), chk_eval (by simp only [Vse.room, decide_eq_true_eq]; omega), chk_eval (by simp only [Vse.room, decide_eq_true_eq]; omega)]
     rfl
    ·rw [ite_t (by rw [decide_eq_false h3]; rfl), if_neg h3, broke_ne h3]; rfl
   ·rw [ite_f (decide_eq_false h2), if_neg h2, ite_t (by rw [decide_eq_false h2]; rfl), broke_ne h2]; rfl
def sAy : CSpec := .pos (nJ [bs] [i64] 1) (fun xs h => adP xs.2.1 h) fun xs h => addF xs.2.1 h
theorem okAy : CSound Try.prog 108 sAy ∧ CLocal sAy :=
 pos_sound (L := L0) (C := ctx (cAdr okLr laidF paF (appF rdyF) invB (syncF rdyF))) (ctx_sound ⟨okLy, okRa, okRs, trivial⟩) Try.func108 (by kernel_rfl) (noLoopsL (by kernel_rfl)) fun xs hs hx hh hp => by
  obtain ⟨u1, b, u⟩ := xs
  exact (tAdr okLr laidF paF (appF rdyF) invB (syncF rdyF) b hs).trans (TAdr_eq hp)
end Go.Proofs.Ytffdkniccaebmaa.Bok
end
section
set_option linter.unusedVariables false
set_option linter.unusedSimpArgs false
set_option maxRecDepth 100000
namespace Go.Proofs.Ytffdkniccaebmaa.Bok
open Go Vse Go.Proofs Gen
open Jnl (jT jE JD RJ Hop stD putS nJ nLd sLd laidF laid_len bigF alF al_nil al_cons al_snoc al_le addF onF broke ej)
open Sto (stT D R1 R0 rdyF appF syncF repF appP sS sE powF)
open Fld (lenN Bytes bytes_get bytes_drop)
noncomputable def bNl : Code := loopAt Try.f109 0
abbrev jD2 : List ETy := jE 0 ++ [.vec 0 u8, .vec 0 bt]
def SNl : RSpec := ⟨[0, 1, 5, 6, 7], 59, [.ptr 0 [], Gen.ls, .vc 4 0, .vc 5 0, i64], jD2, jE 0, [.slot 5 u8, .slot 6 bt], fun x => match x with | .ret => ([4], [i64], jE 0 ++ [.dead, .dead]) | _ => ([0, 5, 6], [.ptr 0 [], .vc 4 0, .vc 5 0], jD2)⟩
def cNl (pl : List Int → Bool) (ld : List Int → List Int) (pr : List Int → D → Bool) (rp : List Int → D → R1) : List (Nat × CSpec) :=
 [(122, sLd pl ld), (120, .pos (sS [bs] [i64]) (fun xs d => pr xs.2.1 d) fun xs d => rp xs.2.1 d)]
def hdN (h : JD) (o : List Int) (v : LL) : HD jD2 := (h.1, h.2.1, h.2.2.1, h.2.2.2.1, o, v, ())
def exN (h : JD) (o : List Int) (v : LL) : Ex × St := (.exit 0, encS [0, 5, 6] [.ptr 0 [], .vc 4 0, .vc 5 0] jD2 59 ((), (), (), ()) (hdN h o v))
def erN (h : JD) : Ex × St := (.ret, encS [4] [i64] (jE 0 ++ [.dead, .dead]) 59 ((7 : Int), ()) h)
def GNl (pl : List Int → Bool) (ld : List Int → List Int) (h : JD) (l : LL) (o : List Int) (v : LL) (i : Int) : Tr SNl.End :=
 let x := l.getD i.toNat []
 .ite (decide (i < (l.length : Int))) (.chk (inArr i l.length) (.ite (decide ((x.length : Int) > 1000)) (.ret (.inr (erN h))) (.chk (inArr i l.length) (.chk (pl x) (.chk (Vse.room (o.length + (ld x).length) 1) (.chk (inArr i l.length) (.chk (Vse.room (0 + x.length) 1) (.chk (Vse.room (v.length + 1) 24)
  (.ret (.inl (((), l, (), (), w (i + 1), ()), hdN h (o ++ ld x) (v ++ [[] ++ x]))))))))))))
  (.ret (.inr (exN h o v)))
theorem rNl (pl : List Int → Bool) (ld : List Int → List Int) (pr : List Int → D → Bool) (rp : List Int → D → R1) (h : JD) (l : LL) (o : List Int) (v : LL) (i : Int) :
  (SNl.round (bodyK Try.prog (ctx (cNl pl ld pr rp)) L0 bNl) ((), l, (), (), i, ()) (hdN h o v)).eval = (GNl pl ld h l o v i).eval := by kernel_rfl
abbrev cNlS : List (Nat × CSpec) := cNl okLr laidF (fun x d => decide (x.length ≤ 2000000) && invB d) (repF rdyF)
theorem cNl_sound : CtxSound Try.prog (ctx cNlS) ∧ CtxLocal (ctx cNlS) := ctx_sound ⟨okLy, okRp, trivial⟩
theorem mNl (h : JD) (l : LL) (hl : l.length ≤ 1000000) : ∀ (m k : Nat), k + m = l.length → (alF (l.take k)).length ≤ 1010 * k →
  SNl.many (bodyK Try.prog (ctx cNlS) L0 bNl) (m + 1) ((), l, (), (), (k : Int), ()) (hdN h (alF (l.take k)) (l.take k)) = if bigF (l.drop k) = true then some (erN h) else some (exN h (alF l) l)
 | 0, k, hk, ho => by
  rw [List.take_of_length_le (by omega), List.drop_eq_nil_of_le (by omega), if_neg (by simp [Jnl.bigF])]
  refine rmany_inr ((rNl okLr laidF _ _ h l (alF l) l _).trans ?_) 0
  unfold GNl
  dsimp only
  rw [ite_f (decide_eq_false (by omega))]
  rfl
 | m + 1, k, hk, ho => by
  have h1 : k < l.length := by omega
  have ht : l.take (k + 1) = l.take k ++ [l[k]] := by rw [List.take_add_one, List.getElem?_eq_getElem h1]; rfl
  have hd := List.drop_eq_getElem_cons h1
  by_cases hb : (l[k].length : Int) > 1000
  ·rw [if_pos (by rw [hd]; unfold Jnl.bigF; rw [List.any_cons, decide_eq_true hb]; rfl)]
   refine rmany_inr ((rNl okLr laidF _ _ h l _ _ _).trans ?_) _
   unfold GNl
   dsimp only
   rw [Int.toNat_natCast, getD_of h1, ite_t (decide_eq_true (by omega)), chk_eval (inArr_of h1), ite_t (decide_eq_true hb)]
   rfl
  ·have e1 : bigF (l.drop k) = bigF (l.drop (k + 1)) := by rw [hd]; unfold Jnl.bigF; rw [List.any_cons, decide_eq_false hb, Bool.false_or]
   have e2 : (alF (l.take (k + 1))).length ≤ 1010 * (k + 1) := by rw [ht, al_snoc, List.length_append, laid_len]; omega
   rw [e1]
   refine (rmany_inl (d := (((), l, (), (), ((k + 1 : Nat) : Int), ()), hdN h (alF (l.take (k + 1))) (l.take (k + 1)))) ((rNl okLr laidF _ _ h l _ _ _).trans ?_) (m + 1)).trans (mNl h l hl m (k + 1) (by omega) e2)
   have hi := inArr_of h1
   unfold GNl
   dsimp only
   rw [Int.toNat_natCast, getD_of h1, ite_t (decide_eq_true (by omega)), chk_eval hi, ite_f (decide_eq_false hb), chk_eval hi, chk_eval (show okLr l[k] = true from decide_eq_true (by omega)),
    chk_eval (by rw [laid_len]; simp only [Vse.room, decide_eq_true_eq]; omega), chk_eval hi, chk_eval (by simp only [Vse.room, decide_eq_true_eq]; omega), chk_eval (by simp only [Vse.room, decide_eq_true_eq, List.length_take]; omega), w_succ h1 (by omega), ht, al_snoc]
   rfl
abbrev Cnl := List Int → LL → LL → Int → Bool
def cNlF : Cnl := fun o v l i => decide (o.length = 0) && (decide (v.length = 0) && (decide (i = 0) && decide (l.length ≤ 1000000)))
def FNl (c : Cnl) (bg : LL → Bool) (al : LL → List Int) (xs : HL SNl.Ts) (hs : HD SNl.Es) : Tr (Ex × St) :=
 let h : JD := (hs.1, hs.2.1, hs.2.2.1, hs.2.2.2.1, ())
 .chk (c hs.2.2.2.2.1 hs.2.2.2.2.2.1 xs.2.1 xs.2.2.2.2.1) (.ite (bg xs.2.1) (.ret (erN h)) (.ret (exN h (al xs.2.1) xs.2.1)))
def LNl (c : Cnl) (bg : LL → Bool) (al : LL → List Int) : Loops := fun j st => if j = 6 then SNl.fn (FNl c bg al) st else .fail
theorem lNl : LoopOK Try.prog (LNl cNlF bigF alF) bNl :=
 rloop_ok (L := LNl cNlF bigF alF) (L' := L0) cNl_sound (loopsOK_of (by kernel_rfl)) SNl (F := FNl cNlF bigF alF) (i := 6) (by kernel_rfl) (fun _ => rfl) fun xs hs q hq => by
  obtain ⟨u1, l, u2, u3, i, u4⟩ := xs
  obtain ⟨a, b, c, d, o, v, u5⟩ := hs
  obtain ⟨h1, h2⟩ := Tr.chk_some hq
  simp only [cNlF, Bool.and_eq_true, decide_eq_true_eq] at h1
  obtain ⟨e1, e2, e3, hl⟩ := h1
  have e1 : o = ([] : List Int) := List.eq_nil_of_length_eq_zero e1
  have e2 : v = ([] : LL) := List.eq_nil_of_length_eq_zero e2
  have e3 : i = ((0 : Nat) : Int) := e3
  subst e1; subst e2; subst e3
  refine ⟨_, (mNl (a, b, c, d, ()) l hl (List.length (α := List Int) l) 0 (by omega) (Nat.zero_le _)).trans ?_⟩
  rw [List.drop_zero]
  rcases Tr.ite_some h2 with ⟨hx, h3⟩ | ⟨hx, h3⟩
  ·have hx : bigF l = true := hx
   rw [if_pos hx]
   exact congrArg some (Tr.ret_some h3)
  ·have hx : bigF l = false := hx
   rw [if_neg (by rw [hx]; simp)]
   exact congrArg some (Tr.ret_some h3)
def TNl (c : Cnl) (bg : LL → Bool) (al : LL → List Int) (pr : List Int → D → Bool) (rp : List Int → D → R1) (l : LL) (h : JD) : Tr (nJ [Gen.ls] [i64] 1).Out :=
 let q := rp (al l) (stD h)
 .ite h.1.2.2.1 (.ret (((8 : Int), ()), h)) (.chk (c [] [] l 0) (.ite (bg l) (.ret (((7 : Int), ()), h)) (.chk (pr (al l) (stD h)) (.ite (!decide (q.1.1 = 0)) (.ret ((q.1.1, ()), putS (q.1.1 != 7) q.2 h.2.2.1)) (.ret (((0 : Int), ()), putS h.1.2.2.1 q.2 l))))))
theorem tNlr (c : Cnl) (bg : LL → Bool) (al : LL → List Int) (pl : List Int → Bool) (ld : List Int → List Int) (pr : List Int → D → Bool) (rp : List Int → D → R1) (l : LL) (h : JD) :
  (fnP Try.prog (ctx (cNl pl ld pr rp)) (LNl c bg al) (nJ [Gen.ls] [i64] 1) Try.f109 ((), l, ()) h).eval = (TNl c bg al pr rp l h).eval := by kernel_rfl
def onP' (l : LL) (h : JD) : Bool := decide (l.length ≤ 1000) && invB (stD h)
theorem TNl_eq {l : LL} {h : JD} (hp : onP' l h = true) : (TNl cNlF bigF alF (fun x d => decide (x.length ≤ 2000000) && invB d) (repF rdyF) l h).eval = some (onF l h) := by
 unfold onP' at hp
 rw [Bool.and_eq_true, decide_eq_true_eq] at hp
 unfold TNl Jnl.onF
 dsimp only
 cases h0 : h.1.2.2.1 with
 | true => rw [ite_t rfl, if_pos rfl]; rfl
 | false =>
  rw [ite_f rfl, if_neg (by simp), chk_eval (by unfold cNlF; rw [decide_eq_true (show l.length ≤ 1000000 by omega)]; simp)]
  cases hb : bigF l with
  | true => rw [ite_t rfl, if_pos rfl]; rfl
  | false =>
   have ha := al_le l hb
   rw [ite_f rfl, if_neg (by simp), chk_eval (by rw [hp.2, decide_eq_true (show (alF l).length ≤ 2000000 by omega)]; rfl)]
   generalize repF rdyF (alF l) (stD h) = q
   by_cases h2 : q.1.1 = 0
   ·rw [ite_f (by rw [decide_eq_true h2]; rfl), if_pos h2]
    rfl
   ·rw [ite_t (by rw [decide_eq_false h2]; rfl), if_neg h2, broke_ne h2]; rfl
def sNy : CSpec := .pos (nJ [Gen.ls] [i64] 1) (fun xs h => onP' xs.2.1 h) fun xs h => onF xs.2.1 h
theorem okNy : CSound Try.prog 109 sNy ∧ CLocal sNy :=
 pos_sound (L := LNl cNlF bigF alF) cNl_sound Try.func109 (by kernel_rfl) (loops1 (by kernel_rfl) lNl) fun xs hs hx hh hp => by
  obtain ⟨u1, l, u⟩ := xs
  exact (tNlr cNlF bigF alF okLr laidF _ (repF rdyF) l hs).trans (TNl_eq hp)
end Go.Proofs.Ytffdkniccaebmaa.Bok
end
section
set_option linter.unusedVariables false
set_option linter.unusedSimpArgs false
set_option maxRecDepth 100000
namespace Go.Proofs.Ytffdkniccaebmaa.Bok
open Go Vse Go.Proofs Gen
open Jnl (jT jE JD RJ Hop stD putS nJ oE nOk addF onF)
open Sto (stT D sE)
abbrev kY (k : Nat) : List ETy := [.box (.prod tB (.prod (.ptr 1 []) .unit)), .box (jT 2 3 k), .box (stT 4 k), .vec k bt, .vec k u8]
def hdY (h : JD) (b : Bk) : HD (kY 0) := ((b, (), ()), h.1, h.2.1, h.2.2.1, h.2.2.2.1, ())
def cDr' (p : Bk → Bool) (A : Ab) (P : Op → Rs) (pa : Aj) (ad : Fj) : List (Nat × CSpec) :=
 [(57, sAr p A), (53, sPu P), (108, .pos (nJ [bs] [i64] 1) (fun xs h => pa xs.2.1 h) fun xs h => ad xs.2.1 h)]
abbrev nDy : PSpec := ⟨[.ptr 0 [], tOp], [i64], kY 0, kY 1, []⟩
def TDy (p : Bk → Bool) (A : Ab) (P : Op → Rs) (pa : Aj) (ad : Fj) (h : JD) (b : Bk) (x : Op) : Tr (Int × JD × Bk) :=
 .chk (p b) (.ite (!decide ((A b x).2 = 0)) (.ret ((A b x).2, h, b)) (.chk (pa (P x).1 h) (.ite (!decide ((ad (P x).1 h).1.1 = 0)) (.ret ((ad (P x).1 h).1.1, (ad (P x).1 h).2, b)) (.ret (0, (ad (P x).1 h).2, (A b x).1)))))
theorem tDy (p : Bk → Bool) (A : Ab) (P : Op → Rs) (pa : Aj) (ad : Fj) (h : JD) (b : Bk) (x : Op) :
  (fnP Try.prog (ctx (cDr' p A P pa ad)) L0 nDy Try.f73 ((), x, ()) (hdY h b)).eval = ((TDy p A P pa ad h b x).bind fun r => (.ret ((r.1, ()), hdY r.2.1 r.2.2) : Tr nDy.Out)).eval := by kernel_rfl
noncomputable def bPy : Code := loopAt Try.f75 0
abbrev pY : List ETy := kY 0 ++ [.dead, .vec 0 bt]
def SPy : RSpec := ⟨[0, 3, 4, 5], 37, [.ptr 0 [], lOp, .vc 6 0, i64], pY, kY 0 ++ [.vec 0 tOp], [.slot 4 bt], fun _ => ([0, 4], [.ptr 0 [], .vc 6 0], pY)⟩
def hdQ (h : JD) (b : Bk) (o : LL) : HD pY := ((b, (), ()), h.1, h.2.1, h.2.2.1, h.2.2.2.1, o, ())
def exPy (h : JD) (b : Bk) (o : LL) : Ex × St := (.exit 0, encS [0, 4] [.ptr 0 [], .vc 6 0] pY 37 ((), (), ()) (hdQ h b o))
def GPy (P : Op → Rs) (h : JD) (b : Bk) (o : LL) (l : List Op) (i : Int) : Tr SPy.End :=
 let x := l.getD i.toNat (dflt tOp)
 .ite (decide (i < (l.length : Int))) (.chk (inArr i l.length) (.chk (Vse.room (o.length + 1) 24) (.ret (.inl (((), l, (), w (i + 1), ()), hdQ h b (o ++ [(P x).1])))))) (.ret (.inr (exPy h b o)))
theorem rPy (P : Op → Rs) (h : JD) (b : Bk) (o : LL) (l : List Op) (i : Int) : (SPy.round (bodyK Try.prog (ctx [(53, sPu P)]) L0 bPy) ((), l, (), i, ()) (hdQ h b o)).eval = (GPy P h b o l i).eval := by kernel_rfl
abbrev Cpy := LL → List Op → Int → Bool
def FPy (c : Cpy) (f : List Op → LL) (xs : HL SPy.Ts) (hs : HD SPy.Es) : Tr (Ex × St) :=
 let h : JD := (hs.2.1, hs.2.2.1, hs.2.2.2.1, hs.2.2.2.2.1, ())
 .chk (c hs.2.2.2.2.2.1 xs.2.1 xs.2.2.2.1) (.ret (exPy h hs.1.1 (f xs.2.1)))
def LPy (c : Cpy) (f : List Op → LL) : Loops := fun j st => if j = 4 then SPy.fn (FPy c f) st else .fail
abbrev nPy : PSpec := ⟨[.ptr 0 []], [i64], kY 0, kY 1, []⟩
def cPy (p : Bk → Bool) (os : Bk → List Op) (P : Op → Rs) (po : LL → JD → Bool) (on : LL → JD → RJ) : List (Nat × CSpec) :=
 [(62, sOs p os), (53, sPu P), (109, .pos (nJ [Gen.ls] [i64] 1) (fun xs h => po xs.2.1 h) fun xs h => on xs.2.1 h)]
def TPy (p : Bk → Bool) (os : Bk → List Op) (c : Cpy) (f : List Op → LL) (po : LL → JD → Bool) (on : LL → JD → RJ) (h : JD) (b : Bk) : Tr nPy.Out :=
 .chk (p b) (.chk (c [] (os b) 0) (.chk (po (f (os b)) h) (.ret (((on (f (os b)) h).1.1, ()), hdY (on (f (os b)) h).2 b))))
theorem tPy (p : Bk → Bool) (os : Bk → List Op) (P : Op → Rs) (c : Cpy) (f : List Op → LL) (po : LL → JD → Bool) (on : LL → JD → RJ) (h : JD) (b : Bk) :
  (fnP Try.prog (ctx (cPy p os P po on)) (LPy c f) nPy Try.f75 ((), ()) (hdY h b)).eval = (TPy p os c f po on h b).eval := by kernel_rfl
end Go.Proofs.Ytffdkniccaebmaa.Bok
end
section
set_option linter.unusedVariables false
set_option linter.unusedSimpArgs false
set_option maxRecDepth 100000
namespace Go.Proofs.Ytffdkniccaebmaa.Bok
open Go Vse Go.Proofs Gen
open Jnl (jT jE JD RJ Hop stD putS nJ oE nOk addF onF opF hop)
open Sto (stT D sE)
noncomputable def bRo : Code := loopAt Try.f69 0
abbrev yE : List ETy := [.box (stT 1 1), .vec 1 u8, .box (jT 0 3 1), .vec 1 bt, .box (.prod tB (.prod (.ptr 2 []) .unit))]
abbrev yE0 : List ETy := [.box (stT 1 1), .vec 1 u8, .box (jT 0 3 1), .vec 1 bt, .box (.prod tN (.prod (.ptr 2 []) .unit))]
def SRo : RSpec := ⟨[4, 6, 7], 61, [.ptr 2 [], .ptr 4 [], i64], yE, yE0, [], fun _ => ([6], [.ptr 4 []], yE)⟩
def yS (h : Hop) (b : Bk) : HD yE := (h.1, h.2.1, h.2.2.1, h.2.2.2.1, (b, (), ()), ())
def outR (e : Ex) (h : Hop) (b : Bk) : Ex × St := (e, encS [6] [.ptr 4 []] yE 61 ((), ()) (yS h b))
def cRo (rd : Rf) (p : Bk → Bool) (A : Ab) : List (Nat × CSpec) := [(51, sRd rd), (57, sAr p A)]
def GRo (rd : Rf) (p : Bk → Bool) (A : Ab) (h : Hop) (b : Bk) (i : Int) : Tr SRo.End :=
 let l := h.2.2.2.1
 let x := l.getD i.toNat []
 .ite (decide (i < (l.length : Int))) (.chk (inArr i l.length) (.chk (okL x) (.ite (!decide ((rd x).2.1 = 0)) (.ret (.inr (outR .ret h b))) (.chk (p b) (.ite (!decide ((A b (rd x).1).2 = 0)) (.ret (.inr (outR .ret h b))) (.ret (.inl (((), (), w (i + 1), ()), yS h (A b (rd x).1).1))))))))
  (.ret (.inr (outR (.exit 0) h b)))
theorem rRo (rd : Rf) (p : Bk → Bool) (A : Ab) (h : Hop) (b : Bk) (i : Int) : (SRo.round (bodyK Try.prog (ctx (cRo rd p A)) L0 bRo) ((), (), i, ()) (yS h b)).eval = (GRo rd p A h b i).eval := by kernel_rfl
abbrev rd2 : Rf := rdT tk2
theorem rd_rt {x : List Int} (h : (rd1 x).2.1 = 0) : rtF (rd1 x).1 = true := by
 have e : rd1 x = rdT tk1 x := rfl
 unfold rdT at e
 split at e
 ·rw [e] at h; cases h
 split at e
 ·rename_i h3
  rw [e]
  exact h3.2.2.2.2
 ·rw [e] at h; cases h
theorem apd {b : Bk} {x : Op} (h : rtF x = true) (h0 : (doneF x b).1 = 0) : applyF b x = ((doneF x b).2, 0) := by unfold applyF; rw [if_pos h, if_pos h0]
theorem inv_small {b : Bk} (h : Inv b) : smallB b = true := by
 unfold smallB
 simp only [Bool.and_eq_true, decide_eq_true_eq]
 exact ⟨h.ln, h.rl⟩
theorem mRo (h : Hop) (hl : h.2.2.2.1.length ≤ 400000) (ha : h.2.2.2.1.all okL = true) (hy : h.2.2.2.1.all Jnl.byB = true) (b' : Bk) : ∀ (m k : Nat) (b : Bk), k + m = h.2.2.2.1.length → Inv b → reb (h.2.2.2.1.drop k) b = some b' →
  SRo.many (bodyK Try.prog (ctx (cRo rd2 smallB applyF)) L0 bRo) (m + 1) ((), (), (k : Int), ()) (yS h b) = some (outR (.exit 0) h b')
 | 0, k, b, hk, hb, hr => by
  rw [List.drop_eq_nil_of_le (by omega)] at hr
  have hr : some b = some b' := hr
  cases hr
  refine rmany_inr ((rRo rd2 smallB applyF h b' _).trans ?_) 0
  unfold GRo
  dsimp only
  rw [ite_f (decide_eq_false (by omega))]
  rfl
 | m + 1, k, b, hk, hb, hr => by
  have hk1 : k < h.2.2.2.1.length := by omega
  have hc : okL h.2.2.2.1[k] = true := List.all_eq_true.1 ha _ (List.getElem_mem hk1)
  have hby : Fld.Bytes h.2.2.2.1[k] := Jnl.by_Bytes (List.all_eq_true.1 hy _ (List.getElem_mem hk1))
  have hd := List.drop_eq_getElem_cons hk1
  rw [hd, reb] at hr
  split at hr
  ·rename_i h1
   have e2 : rd2 h.2.2.2.1[k] = rd1 h.2.2.2.1[k] := (rd_same hby).symm
   have ert := rd_rt h1.1
   have eap := apd (b := b) ert h1.2
   have hI := inv_done hb ert
   refine (rmany_inl (d := (((), (), ((k + 1 : Nat) : Int), ()), yS h (doneF (rd1 h.2.2.2.1[k]).1 b).2)) ((rRo rd2 smallB applyF h b _).trans ?_) (m + 1)).trans (mRo h hl ha hy b' m (k + 1) _ (by omega) hI hr)
   unfold GRo
   dsimp only
   rw [Int.toNat_natCast, getD_of hk1, ite_t (decide_eq_true (by omega)), chk_eval (inArr_of hk1), chk_eval hc, e2, ite_f (by rw [decide_eq_true h1.1]; rfl), chk_eval (inv_small hb), eap, ite_f (show (!decide ((0 : Int) = 0)) = false from rfl), w_succ hk1 (by omega)]
   rfl
  ·cases hr
abbrev Cro := LL → Bk → Int → Bool
def cRoF : Cro := fun l b i => decide (i = 0) && (smF b bk0 && (decide (l.length ≤ 400000) && (l.all okL && (l.all Jnl.byB && !badB l))))
def FRo (c : Cro) (bk : LL → Bk) (xs : HL SRo.Ts) (hs : HD SRo.Es) : Tr (Ex × St) :=
 let h : Hop := (hs.1, hs.2.1, hs.2.2.1, hs.2.2.2.1, ())
 .chk (c h.2.2.2.1 hs.2.2.2.2.1.1 xs.2.2.1) (.ret (outR (.exit 0) h (bk h.2.2.2.1)))
def LRo (c : Cro) (bk : LL → Bk) : Loops := fun j st => if j = 6 then SRo.fn (FRo c bk) st else .fail
theorem cRo_sound : CtxSound Try.prog (ctx (cRo rd2 smallB applyF)) ∧ CtxLocal (ctx (cRo rd2 smallB applyF)) := ctx_sound ⟨okRe, okAr, trivial⟩
theorem lRo : LoopOK Try.prog (LRo cRoF bkF) bRo :=
 rloop_ok (L := LRo cRoF bkF) (L' := L0) cRo_sound (loopsOK_of (by kernel_rfl)) SRo (F := FRo cRoF bkF) (i := 6) (by kernel_rfl) (fun _ => rfl) fun xs hs q hq => by
  obtain ⟨u1, u2, i, u3⟩ := xs
  obtain ⟨sb, by_, jb, rs, ⟨b, u4, u5⟩, u6⟩ := hs
  obtain ⟨h1, h2⟩ := Tr.chk_some hq
  simp only [cRoF, Bool.and_eq_true, Bool.not_eq_true', decide_eq_true_eq] at h1
  obtain ⟨e1, e2, e3, e4, e5, e6⟩ := h1
  have e1 : i = ((0 : Nat) : Int) := e1
  have e2 : b = bk0 := (sm_iff _ _).1 e2
  subst e1; subst e2
  unfold badB at e6
  cases hs : reb rs bk0 with
  | none => rw [hs] at e6; cases e6
  | some p =>
   refine ⟨_, (mRo (sb, by_, jb, rs, ()) e3 e4 e5 p (List.length (α := List Int) rs) 0 bk0 (by show 0 + List.length (α := List Int) rs = List.length (α := List Int) rs; omega) inv0 hs).trans ?_⟩
   rw [← Tr.ret_some h2]
   show some (outR (.exit 0) (sb, by_, jb, rs, ()) p) = some (outR (.exit 0) (sb, by_, jb, rs, ()) (bkF rs))
   rw [show bkF rs = p by unfold bkF; rw [hs]; rfl]
abbrev nRo : PSpec := ⟨[.ptr 0 []], [.ptr 4 [], i64], sE 0, yE, []⟩
def cRp (p : D → Bool) (f : D → Hop) : List (Nat × CSpec) := [(107, .pos nOk (fun _ d => p d) fun _ d => (((), 0, ()), f d))]
def TRo (p : D → Bool) (f : D → Hop) (c : Cro) (bk : LL → Bk) (d : D) : Tr nRo.Out := .chk (p d) (.chk (c (f d).2.2.2.1 bk0 0) (.ret (((), 0, ()), yS (f d) (bk (f d).2.2.2.1))))
theorem tRo (p : D → Bool) (f : D → Hop) (c : Cro) (bk : LL → Bk) (d : D) : (fnP Try.prog (ctx (cRp p f)) (LRo c bk) nRo Try.f69 ((), ()) d).eval = (TRo p f c bk d).eval := by kernel_rfl
end Go.Proofs.Ytffdkniccaebmaa.Bok
end

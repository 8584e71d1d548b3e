/- The statements of layer 10 (note) hold: NoteBack. No conditions but the given ones. Part 5. -/
import Derived.Test.YtpafadpfpfgfjaaI4
import Derived.Test.YtpafadpfpfgfjaaRows
import Derived.ProofKit
import Derived.SizedLaws
set_option linter.unusedVariables false
set_option linter.unusedSimpArgs false
section
set_option linter.unusedVariables false
set_option linter.unusedSimpArgs false
set_option maxRecDepth 100000
namespace Go.Proofs.Ytpafadpfpfgfjaa.Nte
open Go Vse Go.Proofs Gen
open Kdc (w16 tN Nt zero16 note0 e0 nameF hasF lHas w_succ inArr_of getD_of nSm)
def mdS : List Int → Nat → Nt → List (List Int) → Nt × Bool
 | [], _, n, _ => (n, true)
 | c :: cs, i, n, l => if okF c (l.getD i []) = true then mdS cs (i + 1) (setF n c (l.getD i [])) l else (note0, false)
def madeF (k : Int) (l : List (List Int)) : Nt × Bool :=
 if (hasF k == e0) = true then (note0, false) else if (l.length : Int) = ((hasF k).size : Int) then mdS (strBytes (hasF k)) 0 (no0 k) l else (note0, false)
theorem preF_ok {c : Int} {b : List Int} (h : okC b = true) : preF c b = true := by
 unfold preF
 split
 ·rfl
 split
 ·rfl
 split
 ·rfl
 split
 ·rfl
 ·exact h
def kindA : List AV → Int
 | .v (.int .i64) x :: _ => x
 | _ => 0
theorem cMd_sound (k : Int) : CtxSound Try.prog (ctx (cMd k (hasF k))) ∧ CtxLocal (ctx (cMd k (hasF k))) := ctx_sound ⟨okHa k, okParted, okSetName, okSetWord, okSetBlob, trivial⟩
theorem lMd (k : Int) : LoopOK Try.prog (LMd k (hasF k)) bMd := runLoopK_ok (L' := L0) (n := 6) (cMd_sound k) (loopsOK_of (by kernel_rfl)) (i := 6) (by kernel_rfl) (fun _ => rfl)
theorem loops_Md : loopsOf (bodyOf Try.f59) = [bMd] := by kernel_rfl
theorem size_str (s : ByteArray) : (strBytes s).length = s.size := Fld.strBytes_length s
abbrev fBg : Ty := .fn 61 .unit
abbrev nB1 : PSpec := ⟨[bt], [.bool], [], [], []⟩
def big1 (b : List Int) : Bool := decide ((b.length : Int) > 500)
theorem okB1 : CSound Try.prog 61 (.pos nB1 (fun _ _ => true) fun xs _ => ((big1 xs.1, ()), ())) ∧ CLocal (.pos nB1 (fun _ _ => true) fun xs _ => ((big1 xs.1, ()), ())) :=
 pos_sound (L := L0) nil_sound Try.func61 (by kernel_rfl) (noLoopsL (by kernel_rfl)) fun xs hs hx hh hp =>
  (show ∀ b : List Int, (fnP Try.prog (ctx []) L0 nB1 Try.f61 (b, ()) ()).eval = (.ret ((big1 b, ()), ()) : Tr nB1.Out).eval from fun b => by kernel_rfl) xs.1
def cBg : List (Nat × CSpec) := [(61, .pos nB1 (fun _ _ => true) fun xs _ => ((big1 xs.1, ()), ()))]
theorem cBg_sound : CtxSound Try.prog (ctx cBg) ∧ CtxLocal (ctx cBg) := ctx_sound ⟨okB1, trivial⟩
abbrev nIb : PSpec := ⟨[Gen.ls, fBg], [i64], [], [], []⟩
def SBg : RSpec := ⟨[0, 1, 7, 8], 19, [Gen.ls, fBg, i64, i64], [], [], [], fun x => match x with | .ret => ([4], [i64], []) | _ => ([], [], [])⟩
noncomputable def bBg : Code := loopAt Try.f89 0
def GBg (l : List (List Int)) (n i : Int) : Tr SBg.End :=
 .ite (decide (i < n)) (.chk (inArr i l.length) (.ite (big1 (l.getD i.toNat [])) (.ret (.inr (.ret, encS [4] [i64] [] 19 (i, ()) ()))) (.ret (.inl ((l, (), n, w (i + 1), ()), ())))))
  (.ret (.inr (.exit 0, encS [] [] [] 19 () ())))
theorem rBg (l : List (List Int)) (n i : Int) : (SBg.round (bodyK Try.prog (ctx cBg) L0 bBg) (l, (), n, i, ()) ()).eval = (GBg l n i).eval := by kernel_rfl
def hasB (l : List (List Int)) : Bool := l.any big1
def idxB (l : List (List Int)) : Int := if hasB l = true then (l.findIdx big1 : Nat) else -1
def cB2 (l : List (List Int)) (n i : Int) : Bool := decide (l.length ≤ 9223372036854775807) && (decide (n = (l.length : Int)) && decide (i = 0))
def FBg (c : List (List Int) → Int → Int → Bool) (h : List (List Int) → Bool) (ix : List (List Int) → Int) (xs : HL SBg.Ts) (hs : HD SBg.Es) : Tr (Ex × St) :=
 .chk (c xs.1 xs.2.2.1 xs.2.2.2.1) (.ite (h xs.1) (.ret (.ret, encS [4] [i64] [] 19 (ix xs.1, ()) ())) (.ret (.exit 0, encS [] [] [] 19 () ())))
def LBg (c : List (List Int) → Int → Int → Bool) (h : List (List Int) → Bool) (ix : List (List Int) → Int) : Loops := fun j st => if j = 2 then SBg.fn (FBg c h ix) st else .fail
theorem mBg (l : List (List Int)) (hl : l.length ≤ 9223372036854775807) : ∀ (m k : Nat), k + m = l.length →
  SBg.many (bodyK Try.prog (ctx cBg) L0 bBg) (m + 1) (l, (), (l.length : Int), (k : Int), ()) () = if hasB (l.drop k) = true then some (.ret, encS [4] [i64] [] 19 (((k + (l.drop k).findIdx big1 : Nat) : Int), ()) ()) else some (.exit 0, encS [] [] [] 19 () ())
 | 0, k, h => by
  have e1 : l.drop k = [] := List.drop_eq_nil_of_le (by omega)
  rw [e1, if_neg (by simp [hasB])]
  refine rmany_inr ((rBg l _ _).trans ?_) 0
  unfold GBg
  rw [ite_f (decide_eq_false (by omega))]
  rfl
 | m + 1, k, h => by
  have h1 : k < l.length := by omega
  have e2 : (l.drop k) = l[k] :: l.drop (k + 1) := List.drop_eq_getElem_cons h1
  cases hq : big1 l[k] with
  | true =>
   have e3 : hasB (l.drop k) = true := by simp only [hasB, e2, List.any_cons, hq, Bool.true_or]
   have e4 : (l.drop k).findIdx big1 = 0 := by rw [e2, List.findIdx_cons, hq]; rfl
   rw [if_pos e3, e4]
   refine rmany_inr ((rBg l _ _).trans ?_) _
   unfold GBg
   rw [Int.toNat_natCast, ite_t (decide_eq_true (by omega)), chk_eval (inArr_of h1), getD_of h1, ite_t hq]
   rfl
  | false =>
   have e3 : hasB (l.drop k) = hasB (l.drop (k + 1)) := by simp only [hasB, e2, List.any_cons, hq, Bool.false_or]
   have e4 : k + (l.drop k).findIdx big1 = k + 1 + (l.drop (k + 1)).findIdx big1 := by rw [e2, List.findIdx_cons, hq]; simp only [cond_false]; omega
   rw [e3, e4]
   refine (rmany_inl (d := ((l, (), (l.length : Int), ((k + 1 : Nat) : Int), ()), ())) ((rBg l _ _).trans ?_) (m + 1)).trans (mBg l hl m (k + 1) (by omega))
   unfold GBg
   rw [Int.toNat_natCast, ite_t (decide_eq_true (by omega)), chk_eval (inArr_of h1), getD_of h1, ite_f hq, w_succ h1 hl]
   rfl
theorem lBg : LoopOK Try.prog (LBg cB2 hasB idxB) bBg :=
 rloop_ok (L := LBg cB2 hasB idxB) (L' := L0) cBg_sound (loopsOK_of (by kernel_rfl)) SBg (F := FBg cB2 hasB idxB) (i := 2) (by kernel_rfl) (fun _ => rfl) fun xs hs q h => by
  obtain ⟨l, u1, n, i, u⟩ := xs
  obtain ⟨h1, h2⟩ := Tr.chk_some h
  simp only [cB2, Bool.and_eq_true, decide_eq_true_eq] at h1
  obtain ⟨hl, hn, e2⟩ := h1
  have e2 : i = ((0 : Nat) : Int) := e2
  have hn : n = ((List.length (α := List Int) l : Nat) : Int) := hn
  subst e2; subst hn
  refine ⟨List.length (α := List Int) l + 1, ?_⟩
  have := mBg l hl (List.length (α := List Int) l) 0 (by omega)
  rw [List.drop_zero] at this
  refine this.trans ?_
  rcases Tr.ite_some h2 with ⟨hx, h3⟩ | ⟨hx, h3⟩
  ·have hx : hasB l = true := hx
   have e : ((0 + List.findIdx (α := List Int) big1 l : Nat) : Int) = idxB l := by unfold idxB; rw [if_pos hx, Nat.zero_add]
   rw [if_pos hx, e]
   exact congrArg some (Tr.ret_some h3)
  ·have hx : hasB l = false := hx
   rw [if_neg (by rw [hx]; simp)]
   exact congrArg some (Tr.ret_some h3)
def TIb (c : List (List Int) → Int → Int → Bool) (h : List (List Int) → Bool) (ix : List (List Int) → Int) (l : List (List Int)) : Tr nIb.Out := .chk (c l (l.length : Int) 0) (.ite (h l) (.ret ((ix l, ()), ())) (.ret (((-1 : Int), ()), ())))
theorem tIb (c : List (List Int) → Int → Int → Bool) (h : List (List Int) → Bool) (ix : List (List Int) → Int) (l : List (List Int)) :
  (fnP Try.prog (ctx cBg) (LBg c h ix) nIb Try.f89 (l, (), ()) ()).eval = (TIb c h ix l).eval := by kernel_rfl
def sIb (ix : List (List Int) → Int) : CSpec := .pos nIb (fun _ _ => true) fun xs _ => ((ix xs.1, ()), ())
theorem okIb : CSound Try.prog 89 (sIb idxB) ∧ CLocal (sIb idxB) :=
 pos_sound (L := LBg cB2 hasB idxB) cBg_sound Try.func89 (by kernel_rfl) (loops1 (by kernel_rfl) lBg) fun xs hs hx hh hp => by
  obtain ⟨l, u1, u⟩ := xs
  have hl : List.length (α := List Int) l ≤ 9223372036854775807 := hx.1.1
  refine (tIb cB2 hasB idxB l).trans ?_
  show _ = some ((idxB l, ()), ())
  unfold TIb
  rw [chk_eval (by unfold cB2; rw [decide_eq_true hl]; simp)]
  cases h : hasB l with
  | true => rw [ite_t rfl]; rfl
  | false => rw [ite_f rfl]; unfold idxB; rw [if_neg (by rw [h]; simp)]; rfl
abbrev nCf : PSpec := ⟨[Gen.ls, fBg], [.bool], [], [], []⟩
def sCf (h : List (List Int) → Bool) : CSpec := .pos nCf (fun _ _ => true) fun xs _ => ((h xs.1, ()), ())
theorem okCf : CSound Try.prog 60 (sCf hasB) ∧ CLocal (sCf hasB) :=
 pos_sound (L := L0) (C := ctx [(89, sIb idxB)]) (ctx_sound ⟨okIb, trivial⟩) Try.func60 (by kernel_rfl) (noLoopsL (by kernel_rfl)) fun xs hs hx hh hp => by
  obtain ⟨l, u1, u⟩ := xs
  refine ((show ∀ (ix : List (List Int) → Int) (l : List (List Int)), (fnP Try.prog (ctx [(89, sIb ix)]) L0 nCf Try.f60 (l, (), ()) ()).eval = (.ret ((decide (ix l ≥ 0), ()), ()) : Tr nCf.Out).eval from fun ix l => by kernel_rfl) idxB l).trans ?_
  show some ((decide (idxB l ≥ 0), ()), ()) = some ((hasB l, ()), ())
  unfold idxB
  cases h : hasB l with
  | true => rw [if_pos rfl, decide_eq_true (by omega)]
  | false => rw [if_neg (by simp), decide_eq_false (by omega)]
end Go.Proofs.Ytpafadpfpfgfjaa.Nte
end
section
set_option linter.unusedVariables false
set_option linter.unusedSimpArgs false
set_option maxRecDepth 100000
namespace Go.Proofs.Ytpafadpfpfgfjaa.Nte
open Go Vse Go.Proofs Gen
open Kdc (w16 tN Nt zero16 note0 e0 nameF hasF lHas w_succ inArr_of getD_of nSm sameN)
def rightN (n : Nt) : Bool := (madeF n.1 (partsN n)).2 && (sameN n (madeF n.1 (partsN n)).1 && !hasB (partsN n))
def sRi (p f : Nt → Bool) : CSpec := .pos nSm (fun xs _ => p xs.1) fun xs _ => ((f xs.1, ()), ())
open Kdc (Bk Ds Rs Sdf Rf sUp sNB)
end Go.Proofs.Ytpafadpfpfgfjaa.Nte
end
section
set_option linter.unusedVariables false
set_option linter.unusedSimpArgs false
set_option maxRecDepth 100000
namespace Go.Proofs.Ytpafadpfpfgfjaa.Nte
open Go Vse Go.Proofs Gen
open Kdc (w16 tN Nt zero16 note0 e0 nameF hasF lHas w_succ inArr_of getD_of nSm sameN strBytes_of Bk Ds str_self sameN_self)
open Seal (Bytes badL)
open Ctr (B16)
open Fld (encL hd1)
theorem word_b16 {x : List Int} (h : x.length = 16) : wordF x = (x, 0, ()) := by
 show Fld.wordI x = _
 unfold Fld.wordI
 rw [decide_eq_true h]; rfl
theorem big_of {l : List (List Int)} (h : ∀ p ∈ l, p.length ≤ 500) : hasB l = false := by
 unfold hasB
 rw [List.any_eq_false]
 intro p hp hh
 have := h p hp
 have hh : ((p.length : Int) > 500) := of_decide_eq_true hh
 omega
end Go.Proofs.Ytpafadpfpfgfjaa.Nte
end
section
set_option linter.unusedVariables false
set_option linter.unusedSimpArgs false
set_option maxRecDepth 100000
namespace Go.Proofs.Ytpafadpfpfgfjaa.Nte
open Go Vse Go.Proofs Gen
open Kdc (w16 tN Nt zero16 note0 e0 nameF hasF lHas w_succ inArr_of getD_of nSm sameN strBytes_of Bk Ds str_self sameN_self)
open Seal (Bytes badL)
open Ctr (B16)
abbrev smI : List Int → List Int → Bool := fun a b => Fld.sameI a b
section
variable {b : Bk} {n : Nt} {d : Ds}
theorem same_t {a : List Int} : smI a a = true := decide_eq_true rfl
end
end Go.Proofs.Ytpafadpfpfgfjaa.Nte
end
section
set_option linter.unusedVariables false
set_option linter.unusedSimpArgs false
set_option maxRecDepth 100000
namespace Go.Proofs.Ytpafadpfpfgfjaa.Nte
open Go Vse Go.Proofs Gen
open Kdc (w16 tN Nt zero16 note0 e0 nameF hasF lHas w_succ inArr_of getD_of nSm sameN strBytes_of sNB)
def preL : List Int → Nat → List (List Int) → Bool
 | [], _, _ => true
 | c :: cs, i, l => preF c (l.getD i []) && preL cs (i + 1) l
theorem TMs_eq2 {l : List (List Int)} : ∀ (cs : List Int) (i : Nat) (n : Nt), preL cs i l = true → i + cs.length ≤ l.length → (TMs cs i n l).eval = some (((mdS cs i n l).1, (mdS cs i n l).2, ()), ())
 | [], i, n, _, h => rfl
 | c :: cs, i, n, hl, h => by
  have h1 : i < l.length := by simp only [List.length_cons] at h; omega
  have hl : (preF c (l.getD i []) && preL cs (i + 1) l) = true := hl
  rw [Bool.and_eq_true] at hl
  unfold TMs mdS
  rw [chk_eval (inArr_of h1), chk_eval hl.1]
  cases ho : okF c (l.getD i []) with
  | true => rw [ite_f (show (!true) = false from rfl), if_pos rfl]; exact TMs_eq2 cs (i + 1) _ hl.2 (by simp only [List.length_cons] at h; omega)
  | false => rw [ite_t (show (!false) = true from rfl), if_neg (by simp)]; rfl
def preMd (k : Int) (l : List (List Int)) : Bool := preL (strBytes (hasF k)) 0 l
def sMd2 (p : Int → List (List Int) → Bool) (f : Int → List (List Int) → Nt × Bool) : CSpec := .pos nMd (fun xs _ => p xs.1 xs.2.1) fun xs _ => (((f xs.1 xs.2.1).1, (f xs.1 xs.2.1).2, ()), ())
theorem okMd2 : CSound Try.prog 59 (sMd2 preMd madeF) ∧ CLocal (sMd2 preMd madeF) :=
 pos_soundX (fnX := fun vs H => fnK Try.prog (ctx (cMd (kindA vs) (hasF (kindA vs)))) (LMd (kindA vs) (hasF (kindA vs))) Try.f59 vs H) (fun args w => callFunc_enter Try.func59 (by kernel_rfl) (c := bodyOf Try.f59) (by kernel_rfl) args w)
  (fun {g H H' w vs rvs v} hI hargs he => fn_sound (cMd_sound (kindA vs)).1 (cMd_sound (kindA vs)).2 Try.func59 (c := bodyOf Try.f59) (by kernel_rfl) (loopsOK_all fun b hb => by
   rw [loops_Md, List.mem_singleton] at hb
   subst hb
   exact lMd (kindA vs)) hI hargs (fnK_ok he))
  fun xs hs hx hh hp => by
   obtain ⟨k, l, u⟩ := xs
   have hp : preL (strBytes (hasF k)) 0 l = true := hp
   refine (qMd (hasF k) (has_mem k) k k l).trans ?_
   show _ = some (((madeF k l).1, (madeF k l).2, ()), ())
   unfold TMd madeF
   rw [chk_eval (decide_eq_true rfl)]
   cases h1 : (hasF k == e0) with
   | true => rw [ite_t rfl, if_pos rfl]; rfl
   | false =>
    rw [ite_f rfl, if_neg (by simp)]
    by_cases h2 : (List.length (α := List Int) l : Int) = ((hasF k).size : Int)
    ·rw [ite_f (by simp [h2]), if_pos h2]
     exact TMs_eq2 _ 0 _ hp (by rw [size_str]; omega)
    ·rw [ite_t (by simp [h2]), if_neg h2]; rfl
def cRi2 (pp : Nt → List (List Int)) (pm : Int → List (List Int) → Bool) (md : Int → List (List Int) → Nt × Bool) (sm : Nt → Nt → Bool) (h : List (List Int) → Bool) : List (Nat × CSpec) :=
 [(58, sPs pp), (59, sMd2 pm md), (18, Kdc.sSa sm), (60, sCf h)]
def TRi2 (pp : Nt → List (List Int)) (pm : Int → List (List Int) → Bool) (md : Int → List (List Int) → Nt × Bool) (sm : Nt → Nt → Bool) (h : List (List Int) → Bool) (n : Nt) : Tr nSm.Out :=
 .chk (pm n.1 (pp n)) (.ite (md n.1 (pp n)).2 (.ite (sm n (md n.1 (pp n)).1) (.ret ((!h (pp n), ()), ())) (.ret ((false, ()), ()))) (.ret ((false, ()), ())))
theorem tRi2 (pp : Nt → List (List Int)) (pm : Int → List (List Int) → Bool) (md : Int → List (List Int) → Nt × Bool) (sm : Nt → Nt → Bool) (h : List (List Int) → Bool) (n : Nt) :
  (fnP Try.prog (ctx (cRi2 pp pm md sm h)) L0 nSm Try.f23 (n, ()) ()).eval = (TRi2 pp pm md sm h n).eval := by kernel_rfl
def preN2 (n : Nt) : Bool := okC n.2.2.2.2.2.1 && (okC n.2.2.2.2.2.2.1 && okC n.2.2.2.2.2.2.2.1)
theorem preL_map {g : Int → List Int} (h : ∀ c, preF c (g c) = true) : ∀ (cs ds : List Int), preL cs ds.length ((ds ++ cs).map g) = true
 | [], ds => rfl
 | c :: cs, ds => by
  have e1 : ((ds ++ c :: cs).map g).getD ds.length [] = g c := by
   rw [List.getD_eq_getElem?_getD, List.getElem?_map, List.getElem?_append_right (Nat.le_refl _), Nat.sub_self]; rfl
  have e2 := preL_map h cs (ds ++ [c])
  rw [List.length_append, List.length_singleton, List.append_assoc] at e2
  show (preF c (((ds ++ c :: cs).map g).getD ds.length []) && preL cs (ds.length + 1) ((ds ++ c :: cs).map g)) = true
  rw [e1, h c, Bool.true_and]
  exact e2
theorem pre_parts {n : Nt} (h : preN2 n = true) : preMd n.1 (partsN n) = true := by
 unfold preN2 at h
 simp only [Bool.and_eq_true] at h
 refine preL_map (g := getF n) (fun c => ?_) _ []
 unfold preF getF
 by_cases h1 : c = 65
 ·rw [if_pos h1]
 rw [if_neg h1, if_neg h1]
 by_cases h2 : c = 66
 ·rw [if_pos h2]
 rw [if_neg h2, if_neg h2]
 by_cases h3 : c = 88
 ·rw [if_pos h3]
 rw [if_neg h3, if_neg h3]
 by_cases h4 : c = 89
 ·rw [if_pos h4]
 rw [if_neg h4, if_neg h4]
 by_cases h5 : c = 80
 ·rw [if_pos h5]; exact h.1
 rw [if_neg h5]
 by_cases h6 : c = 81
 ·rw [if_pos h6]; exact h.2.1
 rw [if_neg h6]; exact h.2.2
theorem okRi2 : CSound Try.prog 23 (sRi preN2 rightN) ∧ CLocal (sRi preN2 rightN) :=
 pos_sound (L := L0) (C := ctx (cRi2 partsN preMd madeF sameN hasB)) (ctx_sound ⟨okPs, okMd2, Gst.okSaN, okCf, trivial⟩) Try.func23 (by kernel_rfl) (noLoopsL (by kernel_rfl)) fun xs hs hx hh hp => by
  obtain ⟨n, u⟩ := xs
  refine (tRi2 partsN preMd madeF sameN hasB n).trans ?_
  show _ = some ((rightN n, ()), ())
  unfold TRi2 rightN
  rw [chk_eval (pre_parts hp)]
  cases (madeF n.1 (partsN n)).2 with
  | false => rw [ite_f rfl]; rfl
  | true =>
   rw [ite_t rfl]
   cases sameN n (madeF n.1 (partsN n)).1 with
   | false => rw [ite_f rfl]; rfl
   | true => rw [ite_t rfl]; rfl
abbrev nPu : PSpec := ⟨[tN], [bt, i64], [], [], []⟩
abbrev nRd : PSpec := ⟨[bt], [tN, i64], [], [], []⟩
abbrev Puf := List (List Int) → HL [bt, i64]
abbrev Spf := List Int → HL [Gen.lt, i64]
def cPu (pr ri : Nt → Bool) (pp : Nt → List (List Int)) (pu : Puf) : List (Nat × CSpec) := [(23, sRi pr ri), (58, sPs pp), (43, .sl [Gen.ls] [bt, i64] fun x => pu x.1)]
def cRd (pb : List Int → Bool) (sp : Spf) (pm : Int → List (List Int) → Bool) (md : Int → List (List Int) → Nt × Bool) : List (Nat × CSpec) := [(44, .slp [bs] (fun x => pb x.1) [Gen.lt, i64] fun x => sp x.1), (59, sMd2 pm md)]
def TPu (pr ri : Nt → Bool) (pp : Nt → List (List Int)) (pu : Puf) (n : Nt) : Tr nPu.Out :=
 .chk (pr n) (.ite (!ri n) (.ret (([], (3 : Int), ()), ())) (.ite ((pu (pp n)).2.1 != 0) (.ret (([], (3 : Int), ()), ())) (.chk (Vse.room (1 + (pu (pp n)).1.length) 1) (.ret (([IntKind.u8.wrap n.1] ++ (pu (pp n)).1, (0 : Int), ()), ())))))
theorem tPu (pr ri : Nt → Bool) (pp : Nt → List (List Int)) (pu : Puf) (n : Nt) : (fnP Try.prog (ctx (cPu pr ri pp pu)) L0 nPu Try.f36 (n, ()) ()).eval = (TPu pr ri pp pu n).eval := by kernel_rfl
abbrev tail1 (b : List Int) : List Int := (b.take b.length).drop 1
def TRd (pb : List Int → Bool) (sp : Spf) (pm : Int → List (List Int) → Bool) (md : Int → List (List Int) → Nt × Bool) (b : List Int) : Tr nRd.Out :=
 let k := IntKind.i64.wrap (b.getD 0 0)
 let l := sp (tail1 b)
 .ite (decide ((b.length : Int) = 0)) (.ret ((note0, (3 : Int), ()), ())) (.chk (decide ((1 : Int) ≤ (b.length : Int)) && decide ((b.length : Int) ≤ (b.length : Int))) (.chk (pb (tail1 b)) (.chk (inArr 0 b.length) (.chk (pm k l.1)
  (.ite (l.2.1 != 0) (.ret ((note0, (3 : Int), ()), ())) (.ite (!(md k l.1).2) (.ret ((note0, (3 : Int), ()), ())) (.ret (((md k l.1).1, (0 : Int), ()), ()))))))))
theorem tRd (pb : List Int → Bool) (sp : Spf) (pm : Int → List (List Int) → Bool) (md : Int → List (List Int) → Nt × Bool) (b : List Int) : (fnP Try.prog (ctx (cRd pb sp pm md)) L0 nRd Try.f38 (b, ()) ()).eval = (TRd pb sp pm md b).eval := by kernel_rfl
end Go.Proofs.Ytpafadpfpfgfjaa.Nte
end
section
set_option linter.unusedVariables false
set_option linter.unusedSimpArgs false
set_option maxRecDepth 100000
namespace Go.Proofs.Ytpafadpfpfgfjaa.Nte
open Go Vse Go.Proofs Gen
open Kdc (w16 tN Nt zero16 note0 e0 nameF hasF lHas w_succ inArr_of getD_of nSm sameN strBytes_of sNB)
open Fld (putI splitI encL hd1 Bytes)
theorem encL_len : ∀ l : List (List Int), (∀ p ∈ l, p.length ≤ 500) → (encL l).length ≤ 502 * l.length
 | [], _ => by simp [encL]
 | p :: r, h => by
  have := encL_len r fun q hq => h q (by simp [hq])
  have hp := h p (by simp)
  have hh : (hd1 p).length = 2 := rfl
  simp only [encL, List.length_append, List.length_cons, hh]
  omega
theorem has_len (k : Int) : (strBytes (hasF k)).length ≤ 4 := (by decide +kernel : ∀ s ∈ lHas, (strBytes s).length ≤ 4) _ (has_mem k)
theorem parts_len (n : Nt) : (partsN n).length ≤ 4 := by
 unfold partsN
 rw [List.length_map]; exact has_len _
theorem right_short {n : Nt} (h : rightN n = true) : ∀ p ∈ partsN n, p.length ≤ 500 := fun p hp => by
 unfold rightN at h
 simp only [Bool.and_eq_true, Bool.not_eq_true'] at h
 have h := h.2.2
 unfold hasB at h
 rw [List.any_eq_false] at h
 have := h p hp
 unfold big1 at this
 have : ¬ ((p.length : Int) > 500) := fun hh => this (decide_eq_true hh)
 omega
theorem right_put {n : Nt} (h : rightN n = true) : putI hd1 (partsN n) = (encL (partsN n), 0, ()) := Kdc.encL_put (by have := parts_len n; omega) (right_short h)
def putN (n : Nt) : List Int × Int := if rightN n = true then ([wb n.1] ++ encL (partsN n), 0) else ([], 3)
def sPu (p : Nt → Bool) (f : Nt → List Int × Int) : CSpec := .pos nPu (fun xs _ => p xs.1) fun xs _ => (((f xs.1).1, (f xs.1).2, ()), ())
theorem okPu : CSound Try.prog 36 (sPu preN2 putN) ∧ CLocal (sPu preN2 putN) :=
 pos_sound (L := L0) (C := ctx (cPu preN2 rightN partsN (fun l => putI hd1 l))) (ctx_sound ⟨okRi2, okPs, Fld.ok25, trivial⟩) Try.func36 (by kernel_rfl) (noLoopsL (by kernel_rfl)) fun xs hs hx hh hp => by
  obtain ⟨n, u⟩ := xs
  refine (tPu preN2 rightN partsN (fun l => putI hd1 l) n).trans ?_
  show _ = some (((putN n).1, (putN n).2, ()), ())
  unfold TPu putN
  rw [chk_eval hp]
  cases h : rightN n with
  | false => rw [ite_t (show (!false) = true from rfl), if_neg (by simp)]; rfl
  | true =>
   have hl := encL_len _ (right_short h)
   have hn := parts_len n
   rw [ite_f (show (!true) = false from rfl), if_pos rfl]
   dsimp only
   rw [right_put h, ite_f (by rfl), chk_eval (by simp only [Vse.room, decide_eq_true_eq]; omega)]
   rfl
def readN (b : List Int) : Nt × Int :=
 if b.length = 0 then (note0, 3) else if (splitI (b.drop 1)).2.1 ≠ 0 then (note0, 3) else if (madeF (b.getD 0 0) (splitI (b.drop 1)).1).2 = false then (note0, 3) else ((madeF (b.getD 0 0) (splitI (b.drop 1)).1).1, 0)
theorem split_small {b : List Int} (hb : Bytes b) : ∀ p ∈ (splitI b).1, p.length ≤ 500 := by
 unfold splitI
 cases hs : Fld.splitG (b.length + 1) b [] with
 | mk c r' =>
  dsimp only
  by_cases hc : c = 0
  ·subst hc
   simp only [decide_true, cond_true]
   obtain ⟨l, h1, h2, h3, h4⟩ := Fld.enc_split _ b [] r' hb (by omega) (by simp) hs
   simp only [List.nil_append] at h1
   subst h1
   exact h3
  ·rw [decide_eq_false hc]
   simp only [cond_false]
   intro p hp; cases hp
theorem preL_all : ∀ (cs : List Int) (i : Nat) (l : List (List Int)), (∀ p ∈ l, p.length ≤ 500) → preL cs i l = true
 | [], i, l, h => rfl
 | c :: cs, i, l, h => by
  have hc : okC (l.getD i []) = true := by
   rw [List.getD_eq_getElem?_getD]
   cases e : l[i]? with
   | none => rfl
   | some p => exact decide_eq_true (by have := h p (List.mem_of_getElem? e); show p.length ≤ _; omega)
  show (preF c (l.getD i []) && preL cs (i + 1) l) = true
  rw [preF_ok hc, preL_all cs (i + 1) l h]; rfl
theorem bt_bytes {b : List Int} (h : Ty.ok bt b) : Bytes b := Fld.bytes_ok h
def sRd (p : List Int → Bool) (f : List Int → Nt × Int) : CSpec := .pos nRd (fun xs _ => p xs.1) fun xs _ => (((f xs.1).1, (f xs.1).2, ()), ())
theorem okRd : CSound Try.prog 38 (sRd okC readN) ∧ CLocal (sRd okC readN) :=
 pos_sound (L := L0) (C := ctx (cRd Fld.preB (fun b => splitI b) preMd madeF)) (ctx_sound ⟨Fld.ok27, okMd2, trivial⟩) Try.func38 (by kernel_rfl) (noLoopsL (by kernel_rfl)) fun xs hs hx hh hp => by
  obtain ⟨b, u⟩ := xs
  have hb : Bytes b := bt_bytes hx.1
  have hl : List.length (α := Int) b ≤ 140737488355328 := of_decide_eq_true hp
  refine (tRd Fld.preB (fun b => splitI b) preMd madeF b).trans ?_
  show _ = some (((readN b).1, (readN b).2, ()), ())
  unfold TRd readN
  dsimp only
  have et : tail1 b = List.drop (α := Int) 1 b := by show (List.take (α := Int) (List.length (α := Int) b) b).drop 1 = _; rw [List.take_length]
  have ek : IntKind.i64.wrap (List.getD (α := Int) b 0 0) = List.getD (α := Int) b 0 0 := by
   have := Fld.bytes_get hb 0
   exact w_id (by omega) (by omega)
  rw [et, ek]
  by_cases h0 : List.length (α := Int) b = 0
  ·rw [ite_t (decide_eq_true (by omega)), if_pos h0]; rfl
  have hm : preMd (List.getD (α := Int) b 0 0) (splitI (List.drop (α := Int) 1 b)).1 = true := preL_all _ _ _ (split_small (Fld.bytes_drop hb 1))
  rw [ite_f (decide_eq_false (by omega)), if_neg h0, chk_eval (by simp; omega), chk_eval (show Fld.preB (List.drop (α := Int) 1 b) = true from decide_eq_true (by rw [List.length_drop]; omega)), chk_eval (by simp only [inArr, Bool.and_eq_true, decide_eq_true_eq]; omega), chk_eval hm]
  by_cases h1 : (splitI (List.drop (α := Int) 1 b)).2.1 = 0
  ·rw [ite_f (by rw [h1]; rfl), if_neg (not_not_intro h1)]
   cases h2 : (madeF (List.getD (α := Int) b 0 0) (splitI (List.drop (α := Int) 1 b)).1).2 with
   | false => rw [ite_t (show (!false) = true from rfl), if_pos rfl]; rfl
   | true => rw [ite_f (show (!true) = false from rfl), if_neg (by simp)]; rfl
  ·rw [ite_t (by rw [bne_iff_ne]; exact h1), if_pos h1]; rfl
def cA10 (p ri : Nt → Bool) (pu : Nt → List Int × Int) (q : List Int → Bool) (rd : List Int → Nt × Int) (sm : Nt → Nt → Bool) : List (Nat × CSpec) :=
 [(36, sPu p pu), (38, sRd q rd), (18, Kdc.sSa sm), (23, sRi p ri)]
def cNb (up : Bool) (sl : Nt → Bool) (s1 : List Int → List Int → Bool) (p ri : Nt → Bool) (pu : Nt → List Int × Int) (q : List Int → Bool) (rd : List Int → Nt × Int) (sm : Nt → Nt → Bool) : List (Nat × CSpec) :=
 [(34, Kdc.sUp up), (35, sNB sl), (26, .sl1 [bs, bs] .bool fun x => s1 x.1 x.2.1)] ++ cA10 p ri pu q rd sm
end Go.Proofs.Ytpafadpfpfgfjaa.Nte
end
section
set_option linter.unusedVariables false
set_option linter.unusedSimpArgs false
set_option maxRecDepth 100000
namespace Go.Proofs.Ytpafadpfpfgfjaa.Nte
open Go Vse Go.Proofs Gen
open Kdc (w16 tN Nt zero16 note0 e0 nameF hasF lHas w_succ inArr_of getD_of nSm sameN sameN_self strBytes_of sNB)
open Fld (putI splitI encL hd1 Bytes)
def Ltr (c : Int) : Prop := c = 65 ∨ c = 66 ∨ c = 88 ∨ c = 89 ∨ c = 80 ∨ c = 81 ∨ c = 82
instance (c : Int) : Decidable (Ltr c) := inferInstanceAs (Decidable (_ ∨ _ ∨ _ ∨ _ ∨ _ ∨ _ ∨ _))
theorem has_ltr (k : Int) : (∀ c ∈ strBytes (hasF k), Ltr c) ∧ (strBytes (hasF k)).Nodup := (by decide +kernel : ∀ s ∈ lHas, (∀ c ∈ strBytes s, Ltr c) ∧ (strBytes s).Nodup) _ (has_mem k)
theorem word_back {b : List Int} (h : ((wordF b).2.1 == 0) = true) : part16 (wordF b).1 = b := by
 by_cases hl : b.length = 16
 ·rw [word_b16 hl]
  show (b.drop 0).take 16 = b
  rw [List.drop_zero, List.take_of_length_le (by omega)]
 ·have : wordF b = (Fld.z16, 3, ()) := by
   show Fld.wordI b = _
   unfold Fld.wordI
   rw [decide_eq_false hl]; rfl
  rw [this] at h
  cases h
theorem get_set {n : Nt} {c : Int} {b : List Int} (hc : Ltr c) (ho : okF c b = true) (hb : Bytes b) : getF (setF n c b) c = b := by
 rcases hc with rfl | rfl | rfl | rfl | rfl | rfl | rfl
 ·exact strBytes_of b hb
 ·exact strBytes_of b hb
 ·exact word_back ho
 ·exact word_back ho
 ·rfl
 ·rfl
 ·rfl
theorem get_other {n : Nt} {c c' : Int} {b : List Int} (hc : Ltr c) (hc' : Ltr c') (hne : c' ≠ c) : getF (setF n c b) c' = getF n c' := by
 rcases hc with rfl | rfl | rfl | rfl | rfl | rfl | rfl <;> rcases hc' with rfl | rfl | rfl | rfl | rfl | rfl | rfl <;> first | rfl | exact absurd rfl hne
theorem kind_set {n : Nt} {c : Int} {b : List Int} (hc : Ltr c) : (setF n c b).1 = n.1 := by
 rcases hc with rfl | rfl | rfl | rfl | rfl | rfl | rfl <;> rfl
theorem md_parts {l : List (List Int)} (hb : ∀ i, Bytes (l.getD i [])) : ∀ (cs : List Int) (i : Nat) (n m : Nt), mdS cs i n l = (m, true) → (∀ c ∈ cs, Ltr c) → cs.Nodup →
  m.1 = n.1 ∧ (∀ c', Ltr c' → c' ∉ cs → getF m c' = getF n c') ∧ cs.map (getF m) = (List.range' i cs.length).map fun j => l.getD j []
 | [], i, n, m, h, _, _ => by
  have h : (n, true) = (m, true) := h
  cases h
  exact ⟨rfl, fun _ _ _ => rfl, rfl⟩
 | c :: cs, i, n, m, h, hl, hn => by
  unfold mdS at h
  split at h
  ·rename_i ho
   have hc := hl c List.mem_cons_self
   obtain ⟨hn1, hn2⟩ := List.nodup_cons.1 hn
   obtain ⟨q1, q2, q3⟩ := md_parts hb cs (i + 1) _ m h (fun c' hc' => hl c' (List.mem_cons_of_mem _ hc')) hn2
   refine ⟨q1.trans (kind_set hc), fun c' h1 h2 => ?_, ?_⟩
   ·rw [q2 c' h1 (fun hh => h2 (List.mem_cons_of_mem _ hh))]
    exact get_other hc h1 (fun hh => h2 (by rw [hh]; exact List.mem_cons_self))
   ·rw [List.map_cons, q2 c hc hn1, get_set hc ho (hb i), q3, List.length_cons, List.range'_succ, List.map_cons]
  ·cases h
theorem range_getD (l : List (List Int)) : (List.range' 0 l.length).map (fun j => l.getD j []) = l := by
 apply List.ext_getElem
 ·simp
 ·intro j h1 h2
  simp only [List.getElem_map, List.getElem_range', Nat.zero_add, Nat.one_mul]
  exact getD_of h2 []
theorem has_kind {k : Int} (h : hasF k ≠ e0) : 1 ≤ k ∧ k ≤ 16 := by
 have e : (lHas.length : Int) = 17 := by decide
 unfold hasF at h
 by_cases h1 : k < 1
 ·rw [if_pos h1] at h; exact absurd rfl h
 rw [if_neg h1] at h
 by_cases h2 : (lHas.length : Int) ≤ k
 ·rw [if_pos h2] at h; exact absurd rfl h
 omega
theorem right_kind {n : Nt} (h : rightN n = true) : 1 ≤ n.1 ∧ n.1 ≤ 16 := by
 apply has_kind
 intro he
 unfold rightN at h
 simp only [Bool.and_eq_true] at h
 have h := h.1
 unfold madeF at h
 rw [he, if_pos (by decide)] at h
 cases h
theorem wb_small {k : Int} (h : 0 ≤ k ∧ k < 256) : wb k = k := by
 show IntKind.u8.wrap k = k
 simp [IntKind.wrap, IntKind.signed, IntKind.bits]
 omega
theorem read_put {n : Nt} (h : rightN n = true) : (readN (putN n).1).2 = 0 ∧ sameN n (readN (putN n).1).1 = true := by
 have hk := right_kind h
 have hp := Fld.put_split (right_put h)
 have h' := h
 unfold rightN at h'
 simp only [Bool.and_eq_true] at h'
 obtain ⟨m1, m2, _⟩ := h'
 have e : readN (putN n).1 = ((madeF n.1 (partsN n)).1, 0) := by
  unfold putN
  rw [if_pos h]
  show readN ([wb n.1] ++ encL (partsN n)) = _
  unfold readN
  rw [if_neg (by simp)]
  rw [show ([wb n.1] ++ encL (partsN n)).drop 1 = encL (partsN n) from rfl, hp, show ([wb n.1] ++ encL (partsN n)).getD 0 0 = wb n.1 from rfl, wb_small (by omega)]
  rw [if_neg (not_not_intro rfl), if_neg (by rw [m1]; simp)]
 rw [e]
 exact ⟨rfl, m2⟩
theorem put_read {b : List Int} (hb : Bytes b) (h : (readN b).2 = 0) : putN (readN b).1 = (b, 0) ∧ rightN (readN b).1 = true := by
 unfold readN at h ⊢
 split at h
 ·cases h
 rename_i h0
 rw [if_neg h0]
 split at h
 ·cases h
 rename_i h1
 rw [if_neg h1]
 split at h
 ·cases h
 rename_i h2
 rw [if_neg h2]
 have h1 : (splitI (b.drop 1)).2.1 = 0 := Decidable.of_not_not h1
 have h2 : (madeF (b.getD 0 0) (splitI (b.drop 1)).1).2 = true := by simpa using h2
 have hk := Fld.bytes_get hb 0
 have hB := Fld.bytes_drop hb 1
 have hs : splitI (b.drop 1) = ((splitI (b.drop 1)).1, 0, ()) := by
  rw [← h1]
 generalize hl : (splitI (b.drop 1)).1 = l at h2 hs ⊢
 generalize hkk : b.getD 0 0 = k at h2 hk ⊢
 have hlb : ∀ p ∈ l, Bytes p := Kdc.split_bytes hB hs
 have hl5 : ∀ p ∈ l, p.length ≤ 500 := by rw [← hl]; exact split_small hB
 have hg : ∀ i, Bytes (l.getD i []) := fun i => by
  rw [List.getD_eq_getElem?_getD]
  cases e : l[i]? with
  | none => intro x hx; cases hx
  | some p => exact hlb p (List.mem_of_getElem? e)
 have hput := Fld.split_put hB hs
 have hm : ∃ m, madeF k l = (m, true) ∧ m.1 = k ∧ partsN m = l := by
  unfold madeF at h2 ⊢
  split at h2
  ·cases h2
  rename_i g1
  rw [if_neg g1]
  split at h2
  ·rename_i g2
   rw [if_pos g2]
   obtain ⟨a1, a2⟩ := has_ltr k
   generalize hr : mdS (strBytes (hasF k)) 0 (no0 k) l = r at h2 ⊢
   obtain ⟨m, t⟩ := r
   have h2 : t = true := h2
   subst h2
   obtain ⟨q1, _, q3⟩ := md_parts hg _ 0 _ m hr a1 a2
   refine ⟨m, rfl, q1, ?_⟩
   have q1 : m.1 = k := q1
   unfold partsN
   rw [q1, q3, size_str, show (hasF k).size = l.length by omega]
   exact range_getD l
  ·cases h2
 obtain ⟨m, e1, e2, e3⟩ := hm
 rw [e1]
 have hr : rightN m = true := by
  unfold rightN
  rw [e2, e3, e1, big_of hl5]
  show (true && (sameN m m && !false)) = true
  rw [sameN_self]; rfl
 refine ⟨?_, hr⟩
 show putN m = _
 unfold putN
 rw [if_pos hr, e3, e2, wb_small hk]
 have : encL l = b.drop 1 := by
  have h4 := right_put hr
  rw [e3, hput] at h4
  exact (congrArg (fun x => x.1) h4).symm
 rw [this, ← hkk]
 have : [b.getD 0 0] ++ b.drop 1 = b := by
  cases b with
  | nil => exact absurd rfl h0
  | cons x r => rfl
 rw [this]
theorem set_short {n : Nt} {c : Int} {b : List Int} (hb : b.length ≤ 500) (h : preN2 n = true) : preN2 (setF n c b) = true := by
 have hc : okC b = true := decide_eq_true (by omega)
 unfold preN2 at h
 simp only [Bool.and_eq_true] at h
 obtain ⟨h1, h2, h3⟩ := h
 have mk : ∀ m : Nt, okC m.2.2.2.2.2.1 = true → okC m.2.2.2.2.2.2.1 = true → okC m.2.2.2.2.2.2.2.1 = true → preN2 m = true := fun m a1 a2 a3 => by unfold preN2; rw [a1, a2, a3]; rfl
 unfold setF
 split
 ·exact mk _ h1 h2 h3
 split
 ·exact mk _ h1 h2 h3
 split
 ·exact mk _ h1 h2 h3
 split
 ·exact mk _ h1 h2 h3
 split
 ·exact mk _ hc h2 h3
 split
 ·exact mk _ h1 hc h3
 ·exact mk _ h1 h2 hc
theorem md_short {l : List (List Int)} (hb : ∀ p ∈ l, p.length ≤ 500) : ∀ (cs : List Int) (i : Nat) (n : Nt), preN2 n = true → preN2 (mdS cs i n l).1 = true
 | [], i, n, h => h
 | c :: cs, i, n, h => by
  unfold mdS
  split
  ·refine md_short hb cs (i + 1) _ (set_short ?_ h)
   rw [List.getD_eq_getElem?_getD]
   cases e : l[i]? with
   | none => simp
   | some p => exact hb p (List.mem_of_getElem? e)
  ·decide +kernel
theorem read_short {b : List Int} (hb : Bytes b) : preN2 (readN b).1 = true := by
 have h0 : preN2 note0 = true := by decide +kernel
 unfold readN
 split
 ·exact h0
 split
 ·exact h0
 split
 ·exact h0
 ·show preN2 (madeF _ _).1 = true
  unfold madeF
  split
  ·exact h0
  split
  ·exact md_short (split_small (Fld.bytes_drop hb 1)) _ 0 _ rfl
  ·exact h0
theorem read_err {b : List Int} (h : (readN b).2 ≠ 0) : (readN b).1 = note0 := by
 unfold readN at h ⊢
 split
 ·rfl
 rename_i h0
 rw [if_neg h0] at h
 split
 ·rfl
 rename_i h1
 rw [if_neg h1] at h
 split
 ·rfl
 rename_i h2
 rw [if_neg h2] at h
 exact absurd rfl h
end Go.Proofs.Ytpafadpfpfgfjaa.Nte
end
section
set_option linter.unusedVariables false
set_option linter.unusedSimpArgs false
set_option maxRecDepth 100000
namespace Go.Proofs.Ytpafadpfpfgfjaa.Nte
open Go Vse Go.Proofs Gen
open Kdc (w16 tN Nt zero16 note0 e0 nameF hasF lHas w_succ inArr_of getD_of nSm sameN sameN_self strBytes_of sNB nAk b16k smallF)
abbrev Puf2 := Nt → List Int × Int
abbrev Rdf := List Int → Nt × Int
abbrev sBob : ByteArray := ⟨#[98, 111, 98]⟩
def n1W : Nt := (2, e0, sBob, zero16, b16k 7, [120, 121], [], [], ())
def n2W : Nt := (2, sBob, e0, zero16, zero16, [], [], [], ())
section
variable (p ri : Nt → Bool) (pu : Puf2) (q : List Int → Bool) (rd : Rdf) (sm : Nt → Nt → Bool)
def TA10 : Tr nAk.Out :=
 let no : Tr nAk.Out := .ret ((false, ()), ())
 let x := (pu n1W).1
 .chk (p n1W) (.chk (q x) (.chk (p n2W) (.ite ((pu n1W).2 == 0) (.ite ((x.length : Int) == 28) (.chk (inArr 0 x.length) (.ite (x.getD 0 0 == 2) (.chk (inArr 2 x.length) (.ite (x.getD 2 0 == 3) (.ite ((rd x).2 == 0) (.ite (sm n1W (rd x).1) (.chk (p n1W) (.ite (ri n1W)
  (.ite ((pu n2W).2 == 3) (.ret ((!sm n1W note0, ()), ())) no) no)) no) no) no)) no)) no) no)))
theorem tA10 : (fnP Try.prog (ctx (cA10 p ri pu q rd sm)) L0 nAk Try.f34 () ()).eval = (TA10 p ri pu q rd sm).eval := by kernel_rfl
def TNbT (up : Bool) (s1 : List Int → List Int → Bool) (b : List Int) : Tr AV :=
 let no : Tr AV := .ret (.v .bool false)
 let m := rd b
 .chk (q b) (.ite (m.2 != 0) (.ite up (.ret (.v .bool (sm m.1 note0))) no) (.chk (p m.1) (.ite up (.ite ((pu m.1).2 == 0) (.ite (s1 b (pu m.1).1) (.chk (p m.1) (.ret (.v .bool (ri m.1)))) no) no) no)))
def TNb (up : Bool) (sl : Nt → Bool) (s1 : List Int → List Int → Bool) (n : Nt) (b : List Int) : Tr AV :=
 let no : Tr AV := .ret (.v .bool false)
 .ite (!sl n) (.ret (.v .bool up)) (.ite (decide ((b.length : Int) > 2000)) (.ret (.v .bool up)) (.chk (p n) (.chk (p n) (.ite (!(((pu n).2 == 0) == ri n)) no (.ite ((pu n).2 == 0)
  (.chk (q (pu n).1) (.ite ((rd (pu n).1).2 != 0) no (.ite (!sm n (rd (pu n).1).1) no (TNbT p ri pu q rd sm up s1 b)))) (TNbT p ri pu q rd sm up s1 b))))))
theorem tNb (up : Bool) (sl : Nt → Bool) (s1 : List Int → List Int → Bool) (n : Nt) (b : List Int) :
  nrm (fnK Try.prog (ctx (cNb up sl s1 p ri pu q rd sm)) L0 Try.f9 (mkArgs [tN, bt] (n, b, ())) []) = (TNb p ri pu q rd sm up sl s1 n b).eval := by kernel_rfl
end
end Go.Proofs.Ytpafadpfpfgfjaa.Nte
end
section
set_option linter.unusedVariables false
set_option linter.unusedSimpArgs false
set_option maxRecDepth 100000
namespace Go.Proofs.Ytpafadpfpfgfjaa.Nte
open Go Vse Go.Proofs Gen
open Kdc (w16 tN Nt zero16 note0 e0 nameF hasF lHas w_succ inArr_of getD_of nSm sameN sameN_self strBytes_of sNB nAk b16k smallF)
open Fld (putI splitI encL hd1 Bytes)
theorem TA10_true : (TA10 preN2 rightN putN okC readN sameN).eval = some ((true, ()), ()) := by kernel_rfl
theorem cA10_sound : CtxSound Try.prog (ctx (cA10 preN2 rightN putN okC readN sameN)) ∧ CtxLocal (ctx (cA10 preN2 rightN putN okC readN sameN)) := ctx_sound ⟨okPu, okRd, Gst.okSaN, okRi2, trivial⟩
theorem okUp10 : CSound Try.prog 34 (Kdc.sUp true) ∧ CLocal (Kdc.sUp true) :=
 pos_sound (L := L0) cA10_sound Try.func34 (by kernel_rfl) (noLoopsL (by kernel_rfl)) fun xs hs hx hh hp => (tA10 preN2 rightN putN okC readN sameN).trans TA10_true
theorem put_short {n : Nt} (h : rightN n = true) : okC (putN n).1 = true ∧ (putN n).2 = 0 := by
 unfold putN
 rw [if_pos h]
 have h1 := encL_len _ (right_short h)
 have h2 := parts_len n
 refine ⟨decide_eq_true ?_, rfl⟩
 show ([wb n.1] ++ encL (partsN n)).length ≤ _
 rw [List.length_append, List.length_singleton]
 omega
theorem TNbT_true {b : List Int} (hb : Bytes b) (hl : okC b = true) : (TNbT preN2 rightN putN okC readN sameN true smI b).eval = some (.v .bool true) := by
 unfold TNbT
 dsimp only
 rw [chk_eval hl]
 by_cases h : (readN b).2 = 0
 ·obtain ⟨h1, h2⟩ := put_read hb h
  rw [ite_f (by rw [h]; rfl), chk_eval (read_short hb), ite_t rfl, h1, ite_t (by rfl), ite_t (by exact same_t), chk_eval (read_short hb), h2]
  rfl
 ·rw [ite_t (by rw [bne_iff_ne]; exact h), ite_t rfl, read_err h, sameN_self]
  rfl
theorem TNb_true {n : Nt} {b : List Int} (hp : preN2 n = true) (hb : Bytes b) (hl : okC b = true) : (TNb preN2 rightN putN okC readN sameN true smallF smI n b).eval = some (.v .bool true) := by
 unfold TNb
 dsimp only
 cases hs : smallF n with
 | false => rw [ite_t (show (!false) = true from rfl)]; rfl
 | true =>
  rw [ite_f (show (!true) = false from rfl)]
  by_cases h2 : ((b.length : Int) > 2000)
  ·rw [ite_t (decide_eq_true h2)]; rfl
  rw [ite_f (decide_eq_false h2), chk_eval hp, chk_eval hp]
  cases hr : rightN n with
  | false =>
   have e : (putN n).2 = 3 := by unfold putN; rw [if_neg (by rw [hr]; simp)]
   rw [e, ite_f (by rfl), ite_f (by rfl)]
   exact TNbT_true hb hl
  | true =>
   obtain ⟨s1, s2⟩ := put_short hr
   obtain ⟨r1, r2⟩ := read_put hr
   rw [s2, ite_f (by rfl), ite_t (by rfl), chk_eval s1, ite_f (by rw [r1]; rfl), ite_f (by rw [r2]; rfl)]
   exact TNbT_true hb hl
theorem cNb_sound : CtxSound Try.prog (ctx (cNb true smallF smI preN2 rightN putN okC readN sameN)) ∧ CtxLocal (ctx (cNb true smallF smI preN2 rightN putN okC readN sameN)) :=
 ctx_sound ⟨okUp10, Kdc.okSm, Fld.ok19, okPu, okRd, Gst.okSaN, okRi2, trivial⟩
theorem okC_sz {l : List Int} (h : Ty.sz bt l) : okC l = true := decide_eq_true (by
 have := h.1
 simp only [reachBytes] at this
 omega)
theorem Nb_law (n : Nt) (b : List Int) (hn : Ty.sz tN n) (hb : Ty.sz bt b) (hw : Ty.wf bt b) : nrm (fnK Try.prog (ctx (cNb true smallF smI preN2 rightN putN okC readN sameN)) L0 Try.f9 (mkArgs [tN, bt] (n, b, ())) []) = some (.v .bool true) := by
 refine (tNb preN2 rightN putN okC readN sameN true smallF smI n b).trans (TNb_true ?_ (fun x hx => Kdc.byte_wf (hw.2 x hx)) (okC_sz hb))
 unfold preN2
 rw [okC_sz hn.2.2.2.2.2.1, okC_sz hn.2.2.2.2.2.2.1, okC_sz hn.2.2.2.2.2.2.2.1]
 rfl
end Go.Proofs.Ytpafadpfpfgfjaa.Nte
end
set_option linter.unusedVariables false
set_option maxRecDepth 100000
namespace Go.Proofs.Ytpafadpfpfgfjaa
open Go Vse Go.Proofs Go.ChangeShapes Go.WideShapes Go.ChangeAt Go.RowKit
theorem own10 : ownKnob Try.prog.godebug = none := by kernel_rfl
theorem laid10 : laidOutB Try.prog = true := by kernel_rfl
theorem noteBack_lifted (os : Os) (started : os.Started) (H : Type) (enc : TypeId × Value → H) :
  ReturnsInHanded {} Try.checked os 9 .any (Rows.noteBackSpec.pre6 enc Try.prog Try.f9 Rows.noteBackRow.domain false) (Rows.noteBackSpec.post enc Try.prog Try.f9 false true false false) := by
 refine returnsInHanded_of_change_sized (C := Try.checked) own10 started (by kernel_rfl) Try.func9
  (ChangeSpec.witness6 (enc := enc) (C := Try.checked) false ⟨#[], #[.agg (#[.int .i64 0, .string ⟨#[]⟩, .string ⟨#[]⟩] ++ Array.replicate 32 (.int .u8 0) ++ #[.slice none 0 0, .slice none 0 0, .slice none 0 0]), .slice none 0 0], []⟩ 8 (by kernel_rfl) (by kernel_rfl) (by kernel_rfl) (by kernel_rfl)) ?_
 intro W base args ds gs before hval hW _ hsz _
 refine law_callsT (n := 8) (As := [Kdc.tN, Gen.bt]) (L := L0) Nte.cNb_sound laid10 Try.func9 (by kernel_rfl) (noLoopsL (by kernel_rfl)) (by kernel_rfl) (tb := 4) (by kernel_rfl) (by kernel_rfl)
  ⟨rfl, fun ds h => ?_⟩ (fun xs hx hz => ?_) hval hW hsz
 ·match ds, h with
  | [d1, d2], _ => rfl
 ·exact Nte.Nb_law xs.1 xs.2.1 hz.1 hz.2.1 hx.2.1
theorem noteBack_holds : Rows.NoteBackSaid :=
 OpenClaim.holds_of_wide 9 Try.f9 rfl rfl rfl rfl rfl rfl rfl ⟨rfl, rfl, rfl, rfl, rfl⟩ rfl rfl rfl rfl rfl (by kernel_rfl) Try.func9 (by kernel_rfl)
  (of_decide_eq_true (by kernel_rfl)) (by unfold Func.isWrapper; first | (rw [if_pos (by decide +kernel)]; kernel_rfl) | (rw [if_neg (by decide +kernel)]; exact ⟨rfl, rfl⟩))
  (fun os started H enc _ => noteBack_lifted os started H enc)
end Go.Proofs.Ytpafadpfpfgfjaa
#print axioms Go.Proofs.Ytpafadpfpfgfjaa.noteBack_holds

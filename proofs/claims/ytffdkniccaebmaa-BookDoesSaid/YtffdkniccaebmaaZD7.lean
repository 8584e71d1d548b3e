/- The statements of layer 15 (book) hold: BookDoes. No conditions but the given ones. Part 7. -/
import Derived.Test.YtffdkniccaebmaaZD6
import Derived.Test.YtffdkniccaebmaaRows
import Derived.ProofKit
import Derived.SizedLaws
set_option linter.unusedVariables false
set_option linter.unusedSimpArgs false
section
set_option linter.unusedVariables false
set_option linter.unusedSimpArgs false
set_option maxRecDepth 100000
namespace Go.Proofs.Ytffdkniccaebmaa.Bok
open Go Vse Go.Proofs Gen
open Jnl (jT jE JD RJ Hop stD putS nJ oE nOk addF onF opF hop opP opOk okR scan recF reF tlF)
open Sto (stT D sE)
def jY (h : HD (kY 0)) : JD := (h.2.1, h.2.2.1, h.2.2.2.1, h.2.2.2.2.1, ())
def bY (h : HD (kY 0)) : Bk := h.1.1
def yDoP (h : JD) (b : Bk) (x : Op) : Bool := smallB b && (!decide ((applyF b x).2 = 0) || adP (putF x).1 h)
theorem TDy_eq (h : JD) (b : Bk) (x : Op) (hp : yDoP h b x = true) : (TDy smallB applyF putF adP addF h b x).eval = some (doF h b x) := by
 unfold yDoP at hp
 rw [Bool.and_eq_true] at hp
 unfold TDy doF
 rw [chk_eval hp.1]
 by_cases h0 : (applyF b x).2 = 0
 ·have ha : adP (putF x).1 h = true := by have := hp.2; rw [decide_eq_true h0] at this; exact this
  rw [ite_f (by rw [decide_eq_true h0]; rfl), if_pos h0, chk_eval ha]
  by_cases h1 : (addF (putF x).1 h).1.1 = 0
  ·rw [ite_f (by rw [decide_eq_true h1]; rfl), if_pos h1]; rfl
  ·rw [ite_t (by rw [decide_eq_false h1]; rfl), if_neg h1]; rfl
 ·rw [ite_t (by rw [decide_eq_false h0]; rfl), if_neg h0]; rfl
def sDy : CSpec := .pos nDy (fun xs h => yDoP (jY h) (bY h) xs.2.1) fun xs h => (((doF (jY h) (bY h) xs.2.1).1, ()), hdY (doF (jY h) (bY h) xs.2.1).2.1 (doF (jY h) (bY h) xs.2.1).2.2)
theorem okDy : CSound Try.prog 73 sDy ∧ CLocal sDy :=
 pos_sound (L := L0) (C := ctx (cDr' smallB applyF putF adP addF)) (ctx_sound ⟨okAr, okPr, okAy, trivial⟩) Try.func73 (by kernel_rfl) (noLoopsL (by kernel_rfl)) fun xs hs hx hh hp => by
  obtain ⟨u, x, u'⟩ := xs
  refine (tDy smallB applyF putF adP addF (jY hs) (bY hs) x).trans ?_
  rw [Tr.eval_bind, TDy_eq (jY hs) (bY hs) x hp]
  rfl
def cPyF : Cpy := fun o l i => decide (o.length = 0) && (decide (i = 0) && decide (l.length ≤ 400000))
theorem mPy (h : JD) (b : Bk) (l : List Op) (hl : l.length ≤ 400000) : ∀ (m k : Nat), k + m = l.length →
  SPy.many (bodyK Try.prog (ctx [(53, sPu putF)]) L0 bPy) (m + 1) ((), l, (), (k : Int), ()) (hdQ h b (putL (l.take k))) = some (exPy h b (putL l))
 | 0, k, hk => by
  rw [List.take_of_length_le (by omega)]
  refine rmany_inr ((rPy putF h b _ l _).trans ?_) 0
  unfold GPy
  dsimp only
  rw [ite_f (decide_eq_false (by omega))]
  rfl
 | m + 1, k, hk => by
  have h1 : k < l.length := by omega
  have ht : putL (l.take k) ++ [(putF l[k]).1] = putL (l.take (k + 1)) := by unfold putL; rw [List.take_add_one, List.getElem?_eq_getElem h1, List.map_append]; rfl
  refine (rmany_inl (d := (((), l, (), ((k + 1 : Nat) : Int), ()), hdQ h b (putL (l.take (k + 1))))) ((rPy putF h b _ l _).trans ?_) (m + 1)).trans (mPy h b l hl m (k + 1) (by omega))
  unfold GPy
  dsimp only
  rw [Int.toNat_natCast, getD_of h1, ite_t (decide_eq_true (by omega)), chk_eval (inArr_of h1), chk_eval (by simp only [Vse.room, decide_eq_true_eq, putL, List.length_map, List.length_take]; omega), ht, w_succ h1 (by omega)]
  rfl
theorem lPy : LoopOK Try.prog (LPy cPyF putL) bPy :=
 rloop_ok (L := LPy cPyF putL) (L' := L0) (ctx_sound (l := [(53, sPu putF)]) ⟨okPr, trivial⟩) (loopsOK_of (by kernel_rfl)) SPy (F := FPy cPyF putL) (i := 4) (by kernel_rfl) (fun _ => rfl) fun xs hs q hq => by
  obtain ⟨u1, l, u2, i, u3⟩ := xs
  obtain ⟨⟨b, u4, u5⟩, jb, sb, rs, by_, o, u6⟩ := hs
  obtain ⟨h1, h2⟩ := Tr.chk_some hq
  simp only [cPyF, Bool.and_eq_true, decide_eq_true_eq] at h1
  obtain ⟨e0, e2, e3⟩ := h1
  have e0 : o = ([] : LL) := List.eq_nil_of_length_eq_zero e0
  have e2 : i = ((0 : Nat) : Int) := e2
  subst e0; subst e2
  exact ⟨_, (mPy (jb, sb, rs, by_, ()) b l e3 (List.length (α := Op) l) 0 (by omega)).trans (congrArg some (Tr.ret_some h2))⟩
def yPkP (h : JD) (b : Bk) : Bool := okB b && (decide ((opsF b).length ≤ 1000) && invB (stD h))
theorem TPy_eq (h : JD) (b : Bk) (hp : yPkP h b = true) : (TPy okB opsF cPyF putL onP' onF h b).eval = some (((pkF h b).1.1, ()), hdY (pkF h b).2 b) := by
 unfold yPkP at hp
 rw [Bool.and_eq_true, Bool.and_eq_true (decide _), decide_eq_true_eq] at hp
 obtain ⟨h1, h2, h3⟩ := hp
 unfold TPy
 rw [chk_eval h1, chk_eval (by unfold cPyF; rw [decide_eq_true (show (opsF b).length ≤ 400000 by omega)]; simp), chk_eval (by unfold onP' putL; rw [List.length_map, decide_eq_true h2, h3]; rfl)]
 rfl
def sPy : CSpec := .pos nPy (fun _ h => yPkP (jY h) (bY h)) fun _ h => (((pkF (jY h) (bY h)).1.1, ()), hdY (pkF (jY h) (bY h)).2 (bY h))
theorem okPy : CSound Try.prog 75 sPy ∧ CLocal sPy :=
 pos_sound (L := LPy cPyF putL) (C := ctx (cPy okB opsF putF onP' onF)) (ctx_sound ⟨okDs, okPr, okNy, trivial⟩) Try.func75 (by kernel_rfl) (loops1 (by kernel_rfl) lPy) fun xs hs hx hh hp => (tPy okB opsF putF cPyF putL onP' onF (jY hs) (bY hs)).trans (TPy_eq (jY hs) (bY hs) hp)
theorem scan_bytes : ∀ (n : Nat) (r : List Int) (q : LL × List Int), scan n r = some q → Fld.Bytes r → ∀ p ∈ q.1, Fld.Bytes p
 | 0, r, q, h, hb => by
  have h : some (([] : LL), r) = some q := h
  cases h; exact fun p hp => by cases hp
 | n + 1, r, q, h, hb => by
  rw [scan] at h
  split at h
  ·split at h
   ·cases h
   ·split at h
    ·cases h; exact fun p hp => by cases hp
    ·split at h
     ·split at h
      ·rename_i q' hq
       cases h
       intro p hp
       rcases List.mem_cons.1 hp with e | e
       ·rw [e]
        exact fun x hx => hb x (List.mem_of_mem_take (List.mem_of_mem_drop hx))
       ·exact scan_bytes n _ q' hq (Fld.bytes_drop hb _) p e
      ·cases h
     ·cases h
  ·cases h; exact fun p hp => by cases hp
theorem re_bytes {b : List Int} (hb : Fld.Bytes b) : (reF b).all Jnl.byB = true := by
 refine List.all_eq_true.2 fun p hp => Jnl.Bytes_by ?_
 unfold Jnl.reF at hp
 cases hs : scan b.length b with
 | none => rw [hs] at hp; cases hp
 | some q => rw [hs] at hp; exact scan_bytes _ _ _ hs hb p hp
def yoP (d : D) : Bool := koP d && invB d
def yoF (d : D) : HD yE := yS (jF d) (bkF (jF d).2.2.2.1)
theorem jF_re (d : D) : (jF d).2.2.2.1 = reF d.b := by
 unfold jF Jnl.opF
 split <;> rfl
theorem TRo_eq {d : D} (hp : yoP d = true) (hb : Fld.Bytes d.b) : (TRo oprP jF cRoF bkF d).eval = some (((), 0, ()), yoF d) := by
 unfold yoP koP at hp
 rw [Bool.and_eq_true, Bool.and_eq_true, Bool.and_eq_true (okR _), Bool.and_eq_true (decide _), Bool.not_eq_true', decide_eq_true_eq] at hp
 obtain ⟨⟨h1, h2, h3, h4⟩, h5⟩ := hp
 have h6 : (jF d).2.2.2.1.all okL = true := by unfold Jnl.okR at h2; rw [Bool.and_eq_true] at h2; exact h2.2
 have h7 : (jF d).2.2.2.1.all Jnl.byB = true := by rw [jF_re]; exact re_bytes hb
 have h8 : cRoF (jF d).2.2.2.1 bk0 0 = true := by
  unfold cRoF
  rw [h6, h7, h4, decide_eq_true h3, (sm_iff bk0 bk0).2 rfl]; simp
 unfold TRo
 rw [chk_eval (show oprP d = true by unfold oprP; rw [h1, h5]; rfl), chk_eval h8]
 rfl
def sRo : CSpec := .pos nRo (fun _ d => yoP d) fun _ d => (((), 0, ()), yoF d)
theorem okRo : CSound Try.prog 69 sRo ∧ CLocal sRo :=
 pos_sound (L := LRo cRoF bkF) (C := ctx (cRp oprP jF)) (ctx_sound ⟨okOr, trivial⟩) Try.func69 (by kernel_rfl) (loops1 (by kernel_rfl) lRo) fun xs hs hx hh hp => by
  have hb : Fld.Bytes (Sto.D.b hs) := fun x hx => Jnl.u8_ok (hh.2.1 x hx)
  exact (tRo oprP jF cRoF bkF hs).trans (TRo_eq hp hb)
end Go.Proofs.Ytffdkniccaebmaa.Bok
end
section
set_option linter.unusedVariables false
set_option linter.unusedSimpArgs false
set_option maxRecDepth 100000
namespace Go.Proofs.Ytffdkniccaebmaa.Bok
open Go Vse Go.Proofs Gen
open Jnl (jT jE JD RJ Hop stD putS nJ oE nOk addF onF opF hop)
open Sto (stT D sE R0)
noncomputable def bBd : Code := loopAt Try.f12 0
def cBd (up : Bool) (pk : D → Bool) (f : D → HK) (py : D → Bool) (fy : D → HD yE) : List (Nat × CSpec) :=
 [(49, sUp up), (41, Sto.newS), (67, Sto.newS), (68, .pos nKo (fun _ d => pk d) fun _ d => (((), 0, ()), f d)), (69, .pos nRo (fun _ d => py d) fun _ d => (((), 0, ()), fy d))]
abbrev bdE0 : List ETy := [.box (stT 1 1), .vec 1 u8, .box (stT 3 1), .vec 1 u8, .box (jT 0 5 1), .vec 1 bt, .box (.prod (.ptr 4 []) (.prod tB .unit)), .box (jT 2 8 1), .vec 1 bt, .box (.prod tB (.prod (.ptr 7 []) .unit))]
abbrev bdE : List ETy := [.box (stT 1 2), .vec 2 u8, .box (stT 3 2), .vec 2 u8, .dead, .dead, .dead, .dead, .dead, .dead, .box (.prod (.ptr 11 []) (.prod tB .unit)), .box (jT 0 12 2), .vec 2 bt, .box (.prod tB (.prod (.ptr 14 []) .unit)), .box (jT 2 15 2), .vec 2 bt]
abbrev bdX : List ETy := [.dead, .dead, .dead, .dead, .dead, .dead, .dead, .dead, .dead, .dead]
def SBd : RSpec := ⟨[1, 5, 6, 8, 10, 11, 12, 13, 14], 171, [lAct, .bool, .ptr 0 [], .ptr 2 [], .ptr 10 [], i64, .ptr 13 [], i64, i64], bdE, bdE0, [], fun x => match x with | .exit _ => ([5, 11, 13], [.bool, i64, i64], bdX) | _ => ([], [], [])⟩
def bdS (h1 : JD) (b1 : Bk) (h2 : JD) (b2 : Bk) : HD SBd.Es := (h1.2.1, h1.2.2.2.1, h2.2.1, h2.2.2.2.1, ((), b1, ()), h1.1, h1.2.2.1, (b2, (), ()), h2.1, h2.2.2.1, ())
abbrev Pd := JD → Bk → Op → Bool
abbrev Pp := JD → Bk → Bool
structure Bd where
 fu : Int → D → R0
 pc1 : Int → D → Bool
 pc2 : Int → D → Bool
 cr : Int → D → R0
 pd1 : Pd
 pd2 : Pd
 dk : Dk
 pp1 : Bk → Bool
 pp2 : Pp
 pk : Kk
 po1 : D → Bool
 po2 : D → Bool
 op1 : D → HK
 op2 : D → HD yE
 pB : Bk → Bool
 pw : Bk → Bool
 sb : List Int → List Int → Bool
 sm : Bk → Bk → Bool
def cBdl (Z : Bd) : List (Nat × CSpec) :=
 [(43, .pos (Sto.sS [i64] []) (fun _ _ => true) fun xs d => Z.fu xs.2.1 d), (70, .pos (Sto.sS [i64] []) (fun _ _ => true) fun xs d => Z.fu xs.2.1 d),
  (46, .pos (Sto.sS [i64] []) (fun xs d => Z.pc1 xs.2.1 d) fun xs d => Z.cr xs.2.1 d), (71, .pos (Sto.sS [i64] []) (fun xs d => Z.pc2 xs.2.1 d) fun xs d => Z.cr xs.2.1 d),
  (72, .pos nDo (fun xs h => Z.pd1 (jR h) (bR h) xs.2.1) fun xs h => (((Z.dk (jR h) (bR h) xs.2.1).1, ()), hdR (Z.dk (jR h) (bR h) xs.2.1).2.1 (Z.dk (jR h) (bR h) xs.2.1).2.2)),
  (73, .pos nDy (fun xs h => Z.pd2 (jY h) (bY h) xs.2.1) fun xs h => (((Z.dk (jY h) (bY h) xs.2.1).1, ()), hdY (Z.dk (jY h) (bY h) xs.2.1).2.1 (Z.dk (jY h) (bY h) xs.2.1).2.2)),
  (74, .pos nPk (fun _ h => Z.pp1 (bR h)) fun _ h => (((Z.pk (jR h) (bR h)).1.1, ()), hdR (Z.pk (jR h) (bR h)).2 (bR h))),
  (75, .pos nPy (fun _ h => Z.pp2 (jY h) (bY h)) fun _ h => (((Z.pk (jY h) (bY h)).1.1, ()), hdY (Z.pk (jY h) (bY h)).2 (bY h))),
  (68, .pos nKo (fun _ d => Z.po1 d) fun _ d => (((), 0, ()), Z.op1 d)), (69, .pos nRo (fun _ d => Z.po2 d) fun _ d => (((), 0, ()), Z.op2 d)),
  (76, Sto.s20), (35, .sl1 [bs, bs] .bool fun x => Z.sb x.1 x.2.1), (77, .pos nBo (fun _ h => Z.pB (bR h)) fun _ h => ((bR h, ()), h)), (59, sOw Z.pw), (58, sSmB Z.sm)]
def setD (d : D) (h : JD) : JD := (h.1, d.1, h.2.2.1, d.2.1, ())
def kJ (K : HK) : JD := (K.2.2.1, K.1, K.2.2.2.1, K.2.1, ())
def kB (K : HK) : Bk := K.2.2.2.2.1.2.1
def yJ (Y : HD yE) : JD := (Y.2.2.1, Y.1, Y.2.2.2.1, Y.2.1, ())
def yB (Y : HD yE) : Bk := Y.2.2.2.2.1.1
def nxB (l : List Act) (up : Bool) (i : Int) (g h : Int) (h1 : JD) (b1 : Bk) (h2 : JD) (b2 : Bk) : Tr SBd.End := .ret (.inl ((l, up, (), (), (), g, (), h, w (i + 1), ()), bdS h1 b1 h2 b2))
def eB (Z : Bd) (l : List Act) (up : Bool) (i : Int) (g h : Int) (h1 : JD) (b1 : Bk) (h2 : JD) (b2 : Bk) : Tr SBd.End :=
 .chk (Vse.room (stD h1).b.length 1) (.ite (!decide (g = h)) .fail (.ite (!Z.sb (stD h1).b (stD h2).b) .fail (.chk (Z.pB b1) (.chk (Z.pw b1) (.ite (!Z.sm b1 b2) .fail (nxB l up i g h h1 b1 h2 b2))))))
def rB (Z : Bd) (l : List Act) (up : Bool) (i : Int) (a : Act) (h1 : JD) (b1 : Bk) (h2 : JD) (b2 : Bk) : Tr SBd.End :=
 .ite (a.1 == 0) (.chk (Z.pd1 h1 b1 a.2.2.1) (.chk (Z.pd2 h2 b2 a.2.2.1) (eB Z l up i (Z.dk h1 b1 a.2.2.1).1 (Z.dk h2 b2 a.2.2.1).1 (Z.dk h1 b1 a.2.2.1).2.1 (Z.dk h1 b1 a.2.2.1).2.2 (Z.dk h2 b2 a.2.2.1).2.1 (Z.dk h2 b2 a.2.2.1).2.2)))
  (.ite (a.1 == 1) (.chk (Z.pp1 b1) (.chk (Z.pp2 h2 b2) (eB Z l up i (Z.pk h1 b1).1.1 (Z.pk h2 b2).1.1 (Z.pk h1 b1).2 b1 (Z.pk h2 b2).2 b2)))
   (.chk (Z.po1 (stD h1)) (.chk (Z.po2 (stD h2)) (eB Z l up i 0 0 (kJ (Z.op1 (stD h1))) (kB (Z.op1 (stD h1))) (yJ (Z.op2 (stD h2))) (yB (Z.op2 (stD h2)))))))
def exBd (up : Bool) (g h : Int) : Ex × St := (.exit 0, encS [5, 11, 13] [.bool, i64, i64] bdX 171 (up, g, h, ()) ())
def GBd (Z : Bd) (l : List Act) (up : Bool) (h1 : JD) (b1 : Bk) (h2 : JD) (b2 : Bk) (g h i : Int) : Tr SBd.End :=
 let a : Act := l.getD i.toNat (dflt tAct)
 .ite (decide (i < (l.length : Int))) (.chk (inArr i l.length) (.ite (a.1 == 2) (nxB l up i g h (setD (Z.fu a.2.1 (stD h1)).2 h1) b1 (setD (Z.fu a.2.1 (stD h2)).2 h2) b2)
  (.ite (a.1 == 3) (.chk (Z.pc1 a.2.1 (stD h1)) (.chk (Z.pc2 a.2.1 (stD h2)) (rB Z l up i a (setD (Z.cr a.2.1 (stD h1)).2 h1) b1 (setD (Z.cr a.2.1 (stD h2)).2 h2) b2))) (rB Z l up i a h1 b1 h2 b2)))) (.ret (.inr (exBd up g h)))
theorem rBd (Z : Bd) (l : List Act) (up : Bool) (h1 : JD) (b1 : Bk) (h2 : JD) (b2 : Bk) (g h i : Int) :
  (SBd.round (bodyK Try.prog (ctx (cBdl Z)) L0 bBd) (l, up, (), (), (), g, (), h, i, ()) (bdS h1 b1 h2 b2)).eval = (GBd Z l up h1 b1 h2 b2 g h i).eval := by kernel_rfl
end Go.Proofs.Ytffdkniccaebmaa.Bok
end
section
set_option linter.unusedVariables false
set_option linter.unusedSimpArgs false
set_option maxRecDepth 100000
namespace Go.Proofs.Ytffdkniccaebmaa.Bok
open Go Vse Go.Proofs Gen
open Jnl (jT jE JD RJ Hop stD putS nJ oE nOk addF onF opF hop)
open Sto (stT D sE R0)
abbrev Cbd := List Act → JD → Bk → JD → Bk → Int → Int → Int → Bool
abbrev Rg := List Act → JD → Bk → Int
def FBd (c : Cbd) (rg : Rg) (xs : HL SBd.Ts) (hs : HD SBd.Es) : Tr (Ex × St) :=
 let h1 : JD := (hs.2.2.2.2.2.1, hs.1, hs.2.2.2.2.2.2.1, hs.2.1, ())
 let b1 : Bk := hs.2.2.2.2.1.2.1
 let h2 : JD := (hs.2.2.2.2.2.2.2.2.1, hs.2.2.1, hs.2.2.2.2.2.2.2.2.2.1, hs.2.2.2.1, ())
 .chk (c xs.1 h1 b1 h2 hs.2.2.2.2.2.2.2.1.1 xs.2.2.2.2.2.1 xs.2.2.2.2.2.2.2.1 xs.2.2.2.2.2.2.2.2.1) (.ret (exBd xs.2.1 (rg xs.1 h1 b1) (rg xs.1 h1 b1)))
def LBd (c : Cbd) (rg : Rg) : Loops := fun j st => if j = 13 then SBd.fn (FBd c rg) st else .fail
def TBd (up : Bool) (pk : D → Bool) (f : D → HK) (py : D → Bool) (fy : D → HD yE) (c : Cbd) (rg : Rg) (n : Int) (l : List Act) : Tr AV :=
 let d : D := (Sto.newF n).2
 let no : Tr AV := .ret (.v .bool false)
 let A : Tr AV := .chk (pk d) (.chk (py d) (.chk (c l (kJ (f d)) (kB (f d)) (yJ (fy d)) (yB (fy d)) 0 0 0) (.ite up (.ret (.v .bool (decide (rg l (kJ (f d)) (kB (f d)) = rg l (kJ (f d)) (kB (f d)))))) no)))
 .ite (decide ((l.length : Int) > 30)) (.ret (.v .bool up)) (.ite (Sto.okRoom n) (.chk (Sto.okRoom n) (.ite (Sto.okRoom n) (.chk (Sto.okRoom n) A) (.chk (!Sto.okRoom n) no)))
  (.chk (!Sto.okRoom n) (.ite (Sto.okRoom n) (.chk (Sto.okRoom n) no) (.chk (!Sto.okRoom n) (.ret (.v .bool up))))))
theorem tBd (up : Bool) (pk : D → Bool) (f : D → HK) (py : D → Bool) (fy : D → HD yE) (c : Cbd) (rg : Rg) (n : Int) (l : List Act) :
  nrm (fnK Try.prog (ctx (cBd up pk f py fy)) (LBd c rg) Try.f12 (mkArgs [i64, lAct] (n, l, ())) []) = (TBd up pk f py fy c rg n l).eval := by kernel_rfl
end Go.Proofs.Ytffdkniccaebmaa.Bok
end
section
set_option linter.unusedVariables false
set_option linter.unusedSimpArgs false
set_option maxRecDepth 100000
namespace Go.Proofs.Ytffdkniccaebmaa.Bok
open Go Vse Go.Proofs Gen
open Jnl (JD RJ Hop hop addF addP onF onP opP opOk opF okR alF laidF laid_len al_snoc al_ge al_le al_nil stD putS bigF broke ej scan scan_nil scan_part read_al cutB tlF badF reF)
open Sto (stT D rdyF appF syncF repF appP er mk crashF crashP crashS fuseF)
theorem rdy_down (m : Int) {d : D} (h : d.down = true) : rdyF m d = er 8 (mk d.b d.sure d.room d.fuse true) := by unfold Sto.rdyF; rw [if_pos (.inl h)]
theorem rdy3 (m : Int) {d : D} (hI : Sto.Inv d) : rdyF m d = er 8 (mk d.b d.sure d.room d.fuse true) ∨ (d.down = false ∧ ∃ f, rdyF m d = er (if m > d.room then 7 else 0) (mk d.b d.sure d.room f false)) := by
 cases hd : d.down with
 | true => exact .inl (rdy_down m hd)
 | false =>
  rcases Sto.rdy_ways m hI with ⟨e, _⟩ | ⟨f, _, _, e, _⟩
  ·exact .inl e
  ·exact .inr ⟨rfl, f, e⟩
theorem app3 {x : List Int} {d : D} (hx : x.length ≤ 2000) (hI : Sto.Inv d) : appF rdyF x d = er 8 (mk d.b d.sure d.room d.fuse true) ∨
  (d.down = false ∧ ∃ f, appF rdyF x d = er 7 (mk d.b d.sure d.room f false) ∨ appF rdyF x d = er 0 (mk (d.b ++ x) d.sure d.room f false)) := by
 unfold Sto.appF
 rcases rdy3 (Fld.w ((d.b.length : Int) + x.length)) hI with e | ⟨hd, f, e⟩
 ·left; rw [e]; rfl
 ·right
  refine ⟨hd, f, ?_⟩
  rw [e]
  by_cases hr : Fld.w ((d.b.length : Int) + x.length) > d.room
  ·left; rw [if_pos hr]; rfl
  ·right; rw [if_neg hr]; rfl
theorem sync3 {d : D} (hI : Sto.Inv d) : syncF rdyF d = er 8 (mk d.b d.sure d.room d.fuse true) ∨ (d.down = false ∧ ∃ f, syncF rdyF d = er 0 (mk d.b d.b.length d.room f false)) := by
 have h1 := hI.b1
 unfold Sto.syncF
 rcases rdy3 0 hI with e | ⟨hd, f, e⟩
 ·left; rw [e]; rfl
 ·right
  refine ⟨hd, f, ?_⟩
  rw [e, if_neg (show ¬ (0 : Int) > d.room by omega)]
  rfl
theorem rep3 {x : List Int} {d : D} (hI : Sto.Inv d) : repF rdyF x d = er 8 (mk d.b d.sure d.room d.fuse true) ∨
  (d.down = false ∧ ∃ f, repF rdyF x d = er 7 (mk d.b d.sure d.room f false) ∨ repF rdyF x d = er 0 (mk x x.length d.room f false)) := by
 unfold Sto.repF
 rcases rdy3 (x.length : Int) hI with e | ⟨hd, f, e⟩
 ·left; rw [e]; rfl
 ·right
  refine ⟨hd, f, ?_⟩
  rw [e]
  by_cases hr : (x.length : Int) > d.room
  ·left; rw [if_pos hr]; rfl
  ·right; rw [if_neg hr]; rfl
theorem rep_inv {x : List Int} {d : D} (h : Sto.Inv d) : Sto.Inv (repF rdyF x d).2 := by
 have b1 := h.b1
 rcases Sto.rdy_ways x.length h with ⟨e1, e2⟩ | ⟨f, f0, f1, e1, e2⟩
 ·simp only [Sto.repF, e1, er]; exact Sto.inv_mk h.s0 h.s1 h.b1 h.r1 h.f0 h.f1
 ·simp only [Sto.repF, e1, er, Sto.room_mk, if_true]
  by_cases hr : (x.length : Int) > d.room
  ·simp only [if_pos hr]
   exact Sto.inv_mk h.s0 h.s1 h.b1 h.r1 f0 f1
  ·simp only [if_neg hr, if_true]
   exact Sto.inv_mk (by simp) (by simp) (by omega) h.r1 f0 f1
structure Sk (d : D) (p q : LL) : Prop where
 I : Sto.Inv d
 b : d.b = alF q
 s : d.sure = ((alF p).length : Int)
 pq : q = p ∨ (d.down = true ∧ ∃ b : List Int, q = p ++ [b] ∧ b.length ≤ 1000)
structure Okl (l : LL) (N : Nat) : Prop where
 bk : ∃ b, reb l bk0 = some b ∧ Kl b
 ok : ∀ x ∈ l, x.length ≤ 1000
 len : (alF l).length + 61 * N ≤ 20000
theorem okl_mono {l : LL} {N : Nat} (h : Okl l (N + 1)) : Okl l N := ⟨h.bk, h.ok, by have := h.len; omega⟩
def Wk (h : JD) (kb : Bk) (N : Nat) : Prop :=
 ∃ p q : LL, Sk (stD h) p q ∧ Okl p N ∧ Okl q N ∧ ((h.1.2.2.1 = false ∧ h.2.2.1 = q) ∨ (h.1.2.2.1 = true ∧ (h.2.2.1 = q ∨ h.2.2.1 = p))) ∧ reb h.2.2.1 bk0 = some kb
theorem wk_mono {h : JD} {kb : Bk} {N : Nat} (hw : Wk h kb (N + 1)) : Wk h kb N := by
 obtain ⟨p, q, h1, h2, h3, h4, h5⟩ := hw
 exact ⟨p, q, h1, okl_mono h2, okl_mono h3, h4, h5⟩
theorem wk_rec {h : JD} {kb : Bk} {N : Nat} (hw : Wk h kb N) : Inv kb ∧ Kl kb ∧ Okl h.2.2.1 N := by
 obtain ⟨p, q, h1, h2, h3, h4, h5⟩ := hw
 have ho : Okl h.2.2.1 N := by
  rcases h4 with ⟨_, e⟩ | ⟨_, e | e⟩
  ·rw [e]; exact h3
  ·rw [e]; exact h3
  ·rw [e]; exact h2
 obtain ⟨b, e1, e2⟩ := ho.bk
 have : b = kb := by rw [h5] at e1; exact (Option.some.inj e1).symm
 subst this
 exact ⟨inv_reb _ inv0 h5, e2, ho⟩
theorem wk_inv {h : JD} {kb : Bk} {N : Nat} (hw : Wk h kb N) : Sto.Inv (stD h) := by
 obtain ⟨p, q, h1, _⟩ := hw
 exact h1.I
theorem okl_cnt {l : LL} {N : Nat} (h : Okl l N) : l.length ≤ 20000 := by
 have := al_ge l
 have := h.len
 omega
end Go.Proofs.Ytffdkniccaebmaa.Bok
end
section
set_option linter.unusedVariables false
set_option linter.unusedSimpArgs false
set_option maxRecDepth 100000
namespace Go.Proofs.Ytffdkniccaebmaa.Bok
open Go Vse Go.Proofs Gen
open Jnl (JD RJ Hop hop addF addP onF onP opP opOk opF okR alF laidF laid_len al_snoc al_ge al_le al_nil stD putS bigF broke ej scan scan_nil scan_part read_al cutB tlF badF reF)
open Sto (stT D rdyF appF syncF repF appP er mk crashF crashP crashS fuseF)
theorem wk_do {h : JD} {kb : Bk} {x : Op} {N : Nat} (hw : Wk h kb (N + 1)) (hk : x.2.2.1.length = 16) : doP h kb x = true ∧ yDoP h kb x = true ∧ Wk (doF h kb x).2.1 (doF h kb x).2.2 N := by
 obtain ⟨hI, hkl, hor⟩ := wk_rec hw
 have hSI := wk_inv hw
 have hcnt := okl_cnt hor
 by_cases h0 : (applyF kb x).2 = 0
 ·have hr := apply_rt h0
  have hp := put_len hr hk
  have hll := laid_len (putF x).1
  obtain ⟨q1, q2, q3, q4⟩ := Sto.app_same (x := laidF (putF x).1) (by omega) hSI
  refine ⟨?_, ?_, ?_⟩
  ·unfold doP Jnl.addP
   rw [inv_ok hI, q3, decide_eq_true (show h.2.2.1.length ≤ 1000000 by omega)]; simp
  ·unfold yDoP adP
   rw [inv_small hI, (invB_iff _).2 hSI, decide_eq_true (show h.2.2.1.length ≤ 1000000 by omega)]; simp
  ·have hdo : doF h kb x = if (addF (putF x).1 h).1.1 = 0 then (0, (addF (putF x).1 h).2, (applyF kb x).1) else ((addF (putF x).1 h).1.1, (addF (putF x).1 h).2, kb) := by unfold doF; rw [if_pos h0]
   have hsn : ∀ l : LL, reb l bk0 = some kb → reb (l ++ [(putF x).1]) bk0 = some (applyF kb x).1 := fun l hl => reb_snoc l hl h0 hk
   generalize (putF x).1 = b at hp hll q2 hdo hsn ⊢
   have bad : ∀ (e : Int) (h2 : JD), e ≠ 0 → addF b h = ej e h2 → doF h kb x = (e, h2, kb) := fun e h2 he ha => by
    rw [hdo, ha]
    exact if_neg he
   have good : ∀ (h2 : JD), addF b h = ej 0 h2 → doF h kb x = (0, h2, (applyF kb x).1) := fun h2 ha => by
    rw [hdo, ha]
    exact if_pos rfl
   have hw' := wk_mono hw
   obtain ⟨p, q, s1, s2, s3, s4, s5⟩ := hw
   cases hbr : h.1.2.2.1 with
   | true =>
    rw [bad 8 h (by decide) (by unfold Jnl.addF; rw [if_pos hbr])]
    exact hw'
   | false =>
    have hq : h.2.2.1 = q := by
     rcases s4 with ⟨_, e⟩ | ⟨e, _⟩
     ·exact e
     ·rw [hbr] at e; cases e
    have hb1 : ¬ (b.length : Int) > 1000 := by omega
    rcases app3 (x := laidF b) (by omega) hSI with e | ⟨hd, f, e | e⟩
    ·rw [e] at q2
     rw [bad 8 _ (by decide) (Jnl.addF_down hbr hb1 e)]
     refine ⟨p, q, ⟨q2, s1.b, s1.s, ?_⟩, okl_mono s2, okl_mono s3, .inr ⟨rfl, .inl hq⟩, s5⟩
     rcases s1.pq with e | ⟨_, e⟩
     ·exact .inl e
     ·exact .inr ⟨rfl, e⟩
    ·have hpq : q = p := by
      rcases s1.pq with e | ⟨e, _⟩
      ·exact e
      ·rw [hd] at e; cases e
     rw [e] at q2
     rw [bad 7 (putS false (mk (stD h).b (stD h).sure (stD h).room f false) h.2.2.1) (by decide) (by
      unfold Jnl.addF
      rw [if_neg (by rw [hbr]; simp), if_neg hb1, e]
      rfl)]
     exact ⟨p, q, ⟨q2, s1.b, s1.s, .inl hpq⟩, okl_mono s2, okl_mono s3, .inl ⟨rfl, hq⟩, s5⟩
    ·have hpq : q = p := by
      rcases s1.pq with e | ⟨e, _⟩
      ·exact e
      ·rw [hd] at e; cases e
     rw [e] at q2
     have hrb : reb (p ++ [b]) bk0 = some (applyF kb x).1 := hsn p (by rw [← hpq, ← hq]; exact s5)
     have hO : Okl (p ++ [b]) N := by
      refine ⟨⟨_, hrb, kl_apply hkl hk⟩, fun y hy => ?_, ?_⟩
      ·rcases List.mem_append.1 hy with hy | hy
       ·exact s2.ok y hy
       ·rw [List.mem_singleton.1 hy]; omega
      ·have := s2.len
       rw [al_snoc, List.length_append, hll]
       omega
     have hbs : (stD h).b ++ laidF b = alF (p ++ [b]) := by rw [s1.b, hpq, al_snoc]
     have hI2 : Sto.Inv (mk ((stD h).b ++ laidF b) (stD h).sure (stD h).room f false) := q2
     have q5 := (Sto.sync_same hI2).2
     rcases sync3 hI2 with e2 | ⟨_, f2, e2⟩
     ·rw [e2] at q5
      rw [bad 8 _ (by decide) (Jnl.addF_sync hbr hb1 e e2)]
      refine ⟨p, p ++ [b], ⟨q5, hbs, s1.s, .inr ⟨rfl, b, rfl, by omega⟩⟩, okl_mono s2, hO, .inr ⟨rfl, .inr ?_⟩, s5⟩
      show h.2.2.1 = p
      rw [hq, hpq]
     ·rw [e2] at q5
      rw [good _ (Jnl.addF_ok hbr hb1 e e2)]
      refine ⟨p ++ [b], p ++ [b], ⟨q5, hbs, ?_, .inl rfl⟩, hO, hO, .inl ⟨rfl, ?_⟩, ?_⟩
      ·show (((stD h).b ++ laidF b).length : Int) = _
       rw [hbs]
      ·show h.2.2.1 ++ [b] = p ++ [b]
       rw [hq, hpq]
      ·show reb (h.2.2.1 ++ [b]) bk0 = _
       rw [hq, hpq]
       exact hrb
 ·have hdo : doF h kb x = ((applyF kb x).2, h, kb) := by unfold doF; rw [if_neg h0]
  refine ⟨?_, ?_, ?_⟩
  ·unfold doP; rw [inv_ok hI, decide_eq_false h0]; rfl
  ·unfold yDoP; rw [inv_small hI, decide_eq_false h0]; rfl
  ·rw [hdo]; exact wk_mono hw
end Go.Proofs.Ytffdkniccaebmaa.Bok
end
section
set_option linter.unusedVariables false
set_option linter.unusedSimpArgs false
set_option maxRecDepth 100000
namespace Go.Proofs.Ytffdkniccaebmaa.Bok
open Go Vse Go.Proofs Gen
open Jnl (JD RJ Hop hop addF addP onF onP opP opOk opF okR alF laidF laid_len al_snoc al_ge al_le al_nil stD putS bigF broke ej scan scan_nil scan_part read_al cutB tlF badF reF)
open Sto (stT D rdyF appF syncF repF appP er mk crashF crashP crashS fuseF)
theorem wk_pk {h : JD} {kb : Bk} {N : Nat} (hN : N ≤ 30) (hw : Wk h kb (N + 1)) : pkP kb = true ∧ yPkP h kb = true ∧ Wk (pkF h kb).2 kb N := by
 obtain ⟨hI, hkl, hor⟩ := wk_rec hw
 have hSI := wk_inv hw
 have hl := ops_len hI
 have hrt := ops_rt hI
 have hk := kl_ops hkl
 have hrt' : ∀ x ∈ opsF kb, rtF x = true := fun x hx => List.all_eq_true.1 hrt x hx
 have hal := al_putL (opsF kb) hrt' hk
 obtain ⟨o1, o2⟩ := ops_make hI
 have hreb : reb (putL (opsF kb)) bk0 = some kb := by rw [reb_ops _ _ o1 hk, o2]
 have hc : ∀ c ∈ putL (opsF kb), c.length ≤ 1000 := fun c hc => by
  obtain ⟨x, hx, rfl⟩ := List.mem_map.1 hc
  have := put_len (hrt' x hx) (hk x hx)
  omega
 refine ⟨by unfold pkP; rw [inv_ok hI, hrt, decide_eq_true (show (opsF kb).length ≤ 400000 by omega)]; rfl, by unfold yPkP; rw [inv_ok hI, (invB_iff _).2 hSI, decide_eq_true (show (opsF kb).length ≤ 1000 by omega)]; rfl, ?_⟩
 unfold pkF
 generalize putL (opsF kb) = l at hal hreb hc ⊢
 have hO : Okl l N := ⟨⟨kb, hreb, hkl⟩, hc, by omega⟩
 have hbg : bigF l = false := by
  unfold Jnl.bigF
  rw [List.any_eq_false]
  intro c hcm
  have := hc c hcm
  rw [decide_eq_false (show ¬ ((c.length : Int) > 1000) by omega)]; simp
 have hw' := wk_mono hw
 have hri := rep_inv (x := alF l) hSI
 obtain ⟨p, q, s1, s2, s3, s4, s5⟩ := hw
 cases hbr : h.1.2.2.1 with
 | true =>
  have e : onF l h = ej 8 h := by unfold Jnl.onF; rw [if_pos hbr]
  rw [e]
  exact hw'
 | false =>
  have hq : h.2.2.1 = q := by
   rcases s4 with ⟨_, e⟩ | ⟨e, _⟩
   ·exact e
   ·rw [hbr] at e; cases e
  have hon : onF l h = if (repF rdyF (alF l) (stD h)).1.1 = 0 then ej 0 (putS false (repF rdyF (alF l) (stD h)).2 l)
    else ej (repF rdyF (alF l) (stD h)).1.1 (putS (broke (repF rdyF (alF l) (stD h)).1.1) (repF rdyF (alF l) (stD h)).2 h.2.2.1) := by
   unfold Jnl.onF
   rw [if_neg (by rw [hbr]; simp), hbg, if_neg (by simp)]
  rcases rep3 (x := alF l) hSI with e | ⟨hd, f, e | e⟩
  ·rw [e] at hri hon
   have hon : onF l h = ej 8 (putS true (mk (stD h).b (stD h).sure (stD h).room (stD h).fuse true) h.2.2.1) := hon
   rw [hon]
   refine ⟨p, q, ⟨hri, s1.b, s1.s, ?_⟩, okl_mono s2, okl_mono s3, .inr ⟨rfl, .inl hq⟩, s5⟩
   rcases s1.pq with e | ⟨_, e⟩
   ·exact .inl e
   ·exact .inr ⟨rfl, e⟩
  ·have hpq : q = p := by
    rcases s1.pq with e | ⟨e, _⟩
    ·exact e
    ·rw [hd] at e; cases e
   rw [e] at hri hon
   have hon : onF l h = ej 7 (putS false (mk (stD h).b (stD h).sure (stD h).room f false) h.2.2.1) := hon
   rw [hon]
   exact ⟨p, q, ⟨hri, s1.b, s1.s, .inl hpq⟩, okl_mono s2, okl_mono s3, .inl ⟨rfl, hq⟩, s5⟩
  ·rw [e] at hri hon
   have hon : onF l h = ej 0 (putS false (mk (alF l) (alF l).length (stD h).room f false) l) := hon
   rw [hon]
   exact ⟨l, l, ⟨hri, rfl, rfl, .inl rfl⟩, hO, hO, .inl ⟨rfl, rfl⟩, hreb⟩
structure Op3 (d : D) (rs : LL) (t : List Int) : Prop where
 I : Sto.Inv d
 b : d.b = alF rs ++ t
 sc : ∀ m, scan m t = some ([], t)
 ok : t = [] ∨ (d.fuse = -1 ∧ d.down = false)
theorem op3 {d : D} {rs : LL} {t : List Int} {N : Nat} (h : Op3 d rs t) (ho : Okl rs N) : koP d = true ∧ yoP d = true ∧ ∃ kb, koF d = hK (jF d) kb ∧ yoF d = yS (jF d) kb ∧ reb rs bk0 = some kb ∧ (jF d).2.2.2.1 = rs ∧ (jF d).2.2.1 = ((), (), false, ()) ∧
  (t = [] → dOf (jF d) = d) ∧ (t ≠ [] → dOf (jF d) = mk (alF rs) (alF rs).length d.room (-1) false) := by
 obtain ⟨h1, h2, h3⟩ := read_al ho.ok h.sc
 rw [← h.b] at h1 h2 h3
 have hb := h.b
 have hb1 := h.I.b1
 have hr1 := h.I.r1
 have hlen : d.b.length = (alF rs).length + t.length := by rw [hb, List.length_append]
 have hcut : cutB d.b = alF rs := by
  unfold Jnl.cutB
  rw [h3, hlen, Nat.add_sub_cancel, hb]
  exact List.take_left' rfl
 obtain ⟨kb, hkb, _⟩ := ho.bk
 have hre : (jF d).2.2.2.1 = rs := by rw [jF_re, h2]
 have hcnt := okl_cnt ho
 have hopk : (opP d && opOk d) = true := by
  unfold Jnl.opP Jnl.opOk
  rw [decide_eq_true (show d.b.length ≤ 2000000 by omega), h1, h3]
  rcases h.ok with e | ⟨e1, e2⟩
  ·rw [e]; rfl
  ·rw [hcut, rep_ok e1 e2 (x := alF rs) (by omega), show (decide ((er 0 (mk (alF rs) (alF rs).length d.room (-1) false)).1.1 = 0)) = true from rfl, Bool.or_true]
   rfl
 have hko : koP d = true := by
  unfold koP badB
  rw [hopk, hre, okR_of ho.ok (by omega), decide_eq_true (show rs.length ≤ 400000 by omega), hkb]; rfl
 have hbk : bkF rs = kb := by unfold bkF; rw [hkb]; rfl
 refine ⟨hko, by unfold yoP; rw [hko, (invB_iff d).2 h.I]; rfl, kb, by unfold koF; rw [hre, hbk], by unfold yoF; rw [hre, hbk], hkb, hre, ?_, fun ht => ?_, fun ht => ?_⟩
 ·unfold jF Jnl.opF
  split <;> rfl
 ·unfold jF Jnl.opF
  rw [h3, if_pos (by rw [ht]; rfl)]
  rfl
 ·rcases h.ok with e | ⟨e1, e2⟩
  ·exact absurd e ht
  ·unfold jF Jnl.opF
   rw [h3, if_neg (fun hh => ht (List.eq_nil_of_length_eq_zero hh)), hcut, rep_ok e1 e2 (x := alF rs) (by omega)]
   rfl
end Go.Proofs.Ytffdkniccaebmaa.Bok
end
section
set_option linter.unusedVariables false
set_option linter.unusedSimpArgs false
set_option maxRecDepth 100000
namespace Go.Proofs.Ytffdkniccaebmaa.Bok
open Go Vse Go.Proofs Gen
open Jnl (JD RJ Hop hop alF laidF laid_len al_snoc al_ge stD scan scan_nil scan_part)
open Sto (stT D mk crashF crashP crashS fuseF)
theorem wk_op {d : D} {rs : LL} {t : List Int} {N : Nat} (h : Op3 d rs t) (ho : Okl rs N) (hs : t = [] → ∃ p, Okl p N ∧ Sk d p rs) :
  koP d = true ∧ yoP d = true ∧ yJ (yoF d) = kJ (koF d) ∧ yB (yoF d) = kB (koF d) ∧ Wk (kJ (koF d)) (kB (koF d)) N := by
 obtain ⟨a1, a2, kb, a3, a4, a5, a6, a7, a8, a9⟩ := op3 h ho
 have hst : stD (kJ (hK (jF d) kb)) = dOf (jF d) := rfl
 refine ⟨a1, a2, by rw [a3, a4]; rfl, by rw [a3, a4]; rfl, ?_⟩
 rw [a3]
 have hbr : (kJ (hK (jF d) kb)).1.2.2.1 = false := by
  show (jF d).2.2.1.2.2.1 = false
  rw [a7]
 have hrc : (kJ (hK (jF d) kb)).2.2.1 = rs := a6
 have hre : reb (kJ (hK (jF d) kb)).2.2.1 bk0 = some (kB (hK (jF d) kb)) := by rw [hrc]; exact a5
 by_cases ht : t = []
 ·obtain ⟨p, p1, p2⟩ := hs ht
  exact ⟨p, rs, by rw [hst, a8 ht]; exact p2, p1, ho, .inl ⟨hbr, hrc⟩, hre⟩
 ·have hb1 := h.I.b1
  have hr1 := h.I.r1
  have hlen : d.b.length = (alF rs).length + t.length := by rw [h.b, List.length_append]
  refine ⟨rs, rs, ?_, ho, ho, .inl ⟨hbr, hrc⟩, hre⟩
  rw [hst, a9 ht]
  exact ⟨Sto.inv_mk (by omega) (by omega) (by omega) hr1 (by omega) (by omega), rfl, rfl, .inl rfl⟩
theorem wk_open {h : JD} {kb : Bk} {N : Nat} (hw : Wk h kb N) : koP (stD h) = true ∧ yoP (stD h) = true ∧ yJ (yoF (stD h)) = kJ (koF (stD h)) ∧ yB (yoF (stD h)) = kB (koF (stD h)) ∧ Wk (kJ (koF (stD h))) (kB (koF (stD h))) N := by
 obtain ⟨p, q, s1, s2, s3, s4, s5⟩ := hw
 exact wk_op (t := []) ⟨s1.I, by rw [List.append_nil]; exact s1.b, scan_nil, .inl rfl⟩ s3 fun _ => ⟨p, s2, s1⟩
theorem wk_crash {h : JD} {kb : Bk} {N : Nat} (hw : Wk h kb N) {n : Int} (h0 : -9223372036854775808 ≤ n) (h1 : n ≤ 9223372036854775807) :
  crashP n (stD h) = true ∧ koP (crashF n (stD h)).2 = true ∧ yoP (crashF n (stD h)).2 = true ∧ yJ (yoF (crashF n (stD h)).2) = kJ (koF (crashF n (stD h)).2) ∧ yB (yoF (crashF n (stD h)).2) = kB (koF (crashF n (stD h)).2) ∧
   Wk (kJ (koF (crashF n (stD h)).2)) (kB (koF (crashF n (stD h)).2)) N := by
 obtain ⟨p, q, s1, s2, s3, s4, s5⟩ := hw
 generalize stD h = d at s1 ⊢
 have hI := s1.I
 obtain ⟨_, c2, c3, _⟩ := Sto.crash_same h0 h1 hI
 have hs := Sto.crash_at h0 h1 hI
 rw [s1.s] at hs
 have hcb : (crashF n d).2.b = d.b.take (crashS n d).toNat := rfl
 have hcs : (crashF n d).2.sure = crashS n d := rfl
 have fin : ∀ (rs : LL) (t : List Int), Okl rs N → d.b.take (crashS n d).toNat = alF rs ++ t → (∀ m, scan m t = some ([], t)) → (t = [] → crashS n d = ((alF rs).length : Int)) →
   koP (crashF n d).2 = true ∧ yoP (crashF n d).2 = true ∧ yJ (yoF (crashF n d).2) = kJ (koF (crashF n d).2) ∧ yB (yoF (crashF n d).2) = kB (koF (crashF n d).2) ∧ Wk (kJ (koF (crashF n d).2)) (kB (koF (crashF n d).2)) N := by
  intro rs t ho hb hsc hz
  refine wk_op ⟨c2, hb, hsc, .inr ⟨rfl, rfl⟩⟩ ho fun ht => ⟨rs, ho, c2, ?_, ?_, .inl rfl⟩
  ·rw [hcb, hb, ht, List.append_nil]
  ·rw [hcs, hz ht]
 refine ⟨c3, ?_⟩
 rcases s1.pq with e | ⟨_, b, e, hb⟩
 ·have hbp : d.b = alF p := by rw [s1.b, e]
  rw [hbp] at hs
  refine fin p [] s2 ?_ scan_nil fun _ => by omega
  rw [hbp, List.append_nil]
  exact List.take_of_length_le (by omega)
 ·have hbp : d.b = alF p ++ laidF b := by rw [s1.b, e, al_snoc]
  have hdl : d.b.length = (alF p).length + (10 + b.length) := by rw [hbp, List.length_append, laid_len]
  rw [hdl] at hs
  have hk : ∃ k : Nat, (crashS n d).toNat = (alF p).length + k ∧ k ≤ 10 + b.length := ⟨(crashS n d).toNat - (alF p).length, by omega, by omega⟩
  obtain ⟨k, hk1, hk2⟩ := hk
  have htk : d.b.take (crashS n d).toNat = alF p ++ (laidF b).take k := by
   rw [hk1, hbp, List.take_append, List.take_of_length_le (by omega), Nat.add_sub_cancel_left]
  by_cases hkk : k < 10 + b.length
  ·refine fin p ((laidF b).take k) s2 htk (scan_part hb hkk) fun hz => ?_
   have : ((laidF b).take k).length = 0 := by rw [hz]; rfl
   rw [List.length_take, laid_len] at this
   omega
  ·refine fin q [] s3 ?_ scan_nil fun _ => ?_
   ·rw [htk, List.take_of_length_le (by rw [laid_len]; omega), e, al_snoc, List.append_nil]
   ·rw [e, al_snoc, List.length_append, laid_len]
    omega
theorem wk_fuse {h : JD} {kb : Bk} {N : Nat} (hw : Wk h kb N) {n : Int} (h1 : n ≤ 9223372036854775807) : Wk (setD (fuseF n (stD h)).2 h) kb N := by
 obtain ⟨p, q, s1, s2, s3, s4, s5⟩ := hw
 exact ⟨p, q, ⟨Sto.fuse_inv h1 s1.I, s1.b, s1.s, s1.pq⟩, s2, s3, s4, s5⟩
end Go.Proofs.Ytffdkniccaebmaa.Bok
end
section
set_option linter.unusedVariables false
set_option linter.unusedSimpArgs false
set_option maxRecDepth 100000
namespace Go.Proofs.Ytffdkniccaebmaa.Bok
open Go Vse Go.Proofs Gen
open Jnl (JD RJ Hop stD)
open Sto (stT D mk crashF crashP crashS fuseF)
def rcP (n : Int) (d : D) : Bool := decide (-9223372036854775808 ≤ n) && (decide (n ≤ 9223372036854775807) && invB d)
abbrev ZF : Bd := ⟨fuseF, crashP, rcP, crashF, doP, yDoP, doF, pkP, yPkP, pkF, koP, yoP, koF, yoF, okB, okB, Fld.sameI, smF⟩
theorem cBdl_sound : CtxSound Try.prog (ctx (cBdl ZF)) ∧ CtxLocal (ctx (cBdl ZF)) :=
 ctx_sound ⟨Sto.ok22, okRf, Sto.ok21, okRc', okDo, okDy, okPk, okPy, okKo, okRo, Sto.ok20, Fld.ok19, okBo, okOw, okSr, trivial⟩
def opn (d : D) : JD × Bk × Int := (kJ (koF d), kB (koF d), 0)
def stepB (a : Act) (s : JD × Bk × Int) : JD × Bk × Int :=
 if a.1 = 2 then (setD (fuseF a.2.1 (stD s.1)).2 s.1, s.2.1, s.2.2)
 else if a.1 = 3 then opn (crashF a.2.1 (stD s.1)).2
 else if a.1 = 0 then ((doF s.1 s.2.1 (opA a)).2.1, (doF s.1 s.2.1 (opA a)).2.2, (doF s.1 s.2.1 (opA a)).1)
 else if a.1 = 1 then ((pkF s.1 s.2.1).2, s.2.1, (pkF s.1 s.2.1).1.1)
 else opn (stD s.1)
def runB : List Act → JD × Bk × Int → JD × Bk × Int
 | [], s => s
 | a :: l, s => runB l (stepB a s)
def okA (a : Act) : Prop := (-9223372036854775808 ≤ a.2.1 ∧ a.2.1 ≤ 9223372036854775807) ∧ (opA a).2.2.1.length = 16
theorem eB_eq {l : List Act} (up : Bool) (i g : Int) {h : JD} {kb : Bk} {N : Nat} (hw : Wk h kb N) : (eB ZF l up i g g h kb h kb).eval = some (.inl ((l, up, (), (), (), g, (), g, w (i + 1), ()), bdS h kb h kb)) := by
 obtain ⟨hI, _, _⟩ := wk_rec hw
 have hS := wk_inv hw
 have b1 := hS.b1
 have r1 := hS.r1
 unfold eB nxB
 rw [chk_eval (by simp only [Vse.room, decide_eq_true_eq]; omega), ite_f (by rw [decide_eq_true rfl]; rfl), ite_f (by rw [show ZF.sb (stD h).b (stD h).b = true from decide_eq_true rfl]; rfl), chk_eval (show ZF.pB kb = true from inv_ok hI), chk_eval (show ZF.pw kb = true from inv_ok hI),
  ite_f (by rw [show ZF.sm kb kb = true from (sm_iff _ _).2 rfl]; rfl)]
 rfl
theorem rB_open {l : List Act} (up : Bool) (i : Int) {a : Act} (h0 : a.1 ≠ 0) (h1 : a.1 ≠ 1) {h : JD} {kb : Bk} {N : Nat}
  (o1 : koP (stD h) = true) (o2 : yoP (stD h) = true) (o3 : yJ (yoF (stD h)) = kJ (koF (stD h))) (o4 : yB (yoF (stD h)) = kB (koF (stD h))) (hw : Wk (kJ (koF (stD h))) (kB (koF (stD h))) N) :
  (rB ZF l up i a h kb h kb).eval = some (.inl ((l, up, (), (), (), 0, (), 0, w (i + 1), ()), bdS (kJ (koF (stD h))) (kB (koF (stD h))) (kJ (koF (stD h))) (kB (koF (stD h))))) := by
 unfold rB
 rw [beq_int, beq_int, ite_f (decide_eq_false h0), ite_f (decide_eq_false h1), chk_eval (show ZF.po1 (stD h) = true from o1), chk_eval (show ZF.po2 (stD h) = true from o2)]
 show (eB ZF l up i 0 0 (kJ (koF (stD h))) (kB (koF (stD h))) (yJ (yoF (stD h))) (yB (yoF (stD h)))).eval = _
 rw [o3, o4]
 exact eB_eq up i 0 hw
theorem GBd_eq {l : List Act} (up : Bool) {h : JD} {kb : Bk} (g : Int) {k N : Nat} (hN : N ≤ 30) (hk : k < l.length) (hl : l.length ≤ 30) (ha : okA l[k]) (hw : Wk h kb (N + 1)) :
  (GBd ZF l up h kb h kb g g (k : Int)).eval = some (.inl ((l, up, (), (), (), (stepB l[k] (h, kb, g)).2.2, (), (stepB l[k] (h, kb, g)).2.2, ((k + 1 : Nat) : Int), ()), bdS (stepB l[k] (h, kb, g)).1 (stepB l[k] (h, kb, g)).2.1 (stepB l[k] (h, kb, g)).1 (stepB l[k] (h, kb, g)).2.1)) ∧
   Wk (stepB l[k] (h, kb, g)).1 (stepB l[k] (h, kb, g)).2.1 N := by
 obtain ⟨⟨n0, n1⟩, h16⟩ := ha
 have hws : w ((k : Int) + 1) = ((k + 1 : Nat) : Int) := w_succ hk (by omega)
 unfold GBd
 dsimp only
 rw [Int.toNat_natCast, getD_of hk, ite_t (decide_eq_true (by omega)), chk_eval (inArr_of hk), beq_int, beq_int]
 generalize l[k] = a at n0 n1 h16 ⊢
 by_cases h2 : a.1 = 2
 ·have e : stepB a (h, kb, g) = (setD (fuseF a.2.1 (stD h)).2 h, kb, g) := if_pos h2
  rw [ite_t (decide_eq_true h2), e]
  refine ⟨?_, wk_mono (wk_fuse hw n1)⟩
  unfold nxB
  rw [hws]
  rfl
 ·rw [ite_f (decide_eq_false h2)]
  by_cases h3 : a.1 = 3
  ·have e : stepB a (h, kb, g) = opn (crashF a.2.1 (stD h)).2 := by unfold stepB; rw [if_neg h2, if_pos h3]
   obtain ⟨c1, c2, c3, c4, c5, c6⟩ := wk_crash (wk_mono hw) n0 n1
   rw [ite_t (decide_eq_true h3), e, chk_eval (show ZF.pc1 a.2.1 (stD h) = true from c1), chk_eval (show ZF.pc2 a.2.1 (stD h) = true by
    show rcP a.2.1 (stD h) = true
    unfold rcP
    rw [decide_eq_true n0, decide_eq_true n1, (invB_iff _).2 (wk_inv hw)]; rfl)]
   refine ⟨?_, c6⟩
   have := rB_open (l := l) up (k : Int) (a := a) (kb := kb) (N := N) (h := setD (crashF a.2.1 (stD h)).2 h) (by omega) (by omega) c2 c3 c4 c5 c6
   rw [hws] at this
   exact this
  ·rw [ite_f (decide_eq_false h3)]
   by_cases h0 : a.1 = 0
   ·have e : stepB a (h, kb, g) = ((doF h kb (opA a)).2.1, (doF h kb (opA a)).2.2, (doF h kb (opA a)).1) := by unfold stepB; rw [if_neg h2, if_neg h3, if_pos h0]
    obtain ⟨d1, d2, d3⟩ := wk_do hw h16
    rw [e]
    refine ⟨?_, d3⟩
    unfold rB
    rw [beq_int, ite_t (decide_eq_true h0), chk_eval (show ZF.pd1 h kb a.2.2.1 = true from d1), chk_eval (show ZF.pd2 h kb a.2.2.1 = true from d2)]
    have := eB_eq (l := l) up (k : Int) (doF h kb (opA a)).1 d3
    rw [hws] at this
    exact this
   ·by_cases h1 : a.1 = 1
    ·have e : stepB a (h, kb, g) = ((pkF h kb).2, kb, (pkF h kb).1.1) := by unfold stepB; rw [if_neg h2, if_neg h3, if_neg h0, if_pos h1]
     obtain ⟨d1, d2, d3⟩ := wk_pk hN hw
     rw [e]
     refine ⟨?_, d3⟩
     unfold rB
     rw [beq_int, beq_int, ite_f (decide_eq_false h0), ite_t (decide_eq_true h1), chk_eval (show ZF.pp1 kb = true from d1), chk_eval (show ZF.pp2 h kb = true from d2)]
     have := eB_eq (l := l) up (k : Int) (pkF h kb).1.1 d3
     rw [hws] at this
     exact this
    ·have e : stepB a (h, kb, g) = opn (stD h) := by unfold stepB; rw [if_neg h2, if_neg h3, if_neg h0, if_neg h1]
     obtain ⟨c2, c3, c4, c5, c6⟩ := wk_open (wk_mono hw)
     rw [e]
     refine ⟨?_, c6⟩
     have := rB_open (l := l) up (k : Int) (a := a) (kb := kb) h0 h1 c2 c3 c4 c5 c6
     rw [hws] at this
     exact this
theorem mBd (l : List Act) (up : Bool) (hl : l.length ≤ 30) (ha : ∀ a ∈ l, okA a) : ∀ (m k : Nat) (h : JD) (kb : Bk) (g : Int), k + m = l.length → Wk h kb m →
  SBd.many (bodyK Try.prog (ctx (cBdl ZF)) L0 bBd) (m + 1) (l, up, (), (), (), g, (), g, (k : Int), ()) (bdS h kb h kb) = some (exBd up (runB (l.drop k) (h, kb, g)).2.2 (runB (l.drop k) (h, kb, g)).2.2)
 | 0, k, h, kb, g, hk, hw => by
  rw [List.drop_eq_nil_of_le (by omega)]
  refine rmany_inr ((rBd ZF l up h kb h kb g g _).trans ?_) 0
  unfold GBd
  dsimp only
  rw [ite_f (decide_eq_false (by omega))]
  rfl
 | m + 1, k, h, kb, g, hk, hw => by
  have h1 : k < l.length := by omega
  obtain ⟨e1, e2⟩ := GBd_eq up g (show m ≤ 30 by omega) h1 hl (ha _ (List.getElem_mem h1)) hw
  rw [List.drop_eq_getElem_cons h1, runB]
  exact (rmany_inl ((rBd ZF l up h kb h kb g g _).trans e1) (m + 1)).trans (mBd l up hl ha m (k + 1) _ _ _ (by omega) e2)
end Go.Proofs.Ytffdkniccaebmaa.Bok
end
section
set_option linter.unusedVariables false
set_option linter.unusedSimpArgs false
set_option maxRecDepth 100000
namespace Go.Proofs.Ytffdkniccaebmaa.Bok
open Go Vse Go.Proofs Gen
open Jnl (JD RJ Hop stD scan_nil)
open Sto (stT D mk)
def PBd (l : List Act) (h1 : JD) (b1 : Bk) (h2 : JD) (b2 : Bk) (g h i : Int) : Prop := h2 = h1 ∧ b2 = b1 ∧ g = 0 ∧ h = 0 ∧ i = 0 ∧ l.length ≤ 30 ∧ (∀ a ∈ l, okA a) ∧ Wk h1 b1 l.length
open Classical in
noncomputable def cBdF : Cbd := fun l h1 b1 h2 b2 g h i => decide (PBd l h1 b1 h2 b2 g h i)
theorem cBdF_iff {l : List Act} {h1 : JD} {b1 : Bk} {h2 : JD} {b2 : Bk} {g h i : Int} : cBdF l h1 b1 h2 b2 g h i = true ↔ PBd l h1 b1 h2 b2 g h i := by
 unfold cBdF
 exact @decide_eq_true_iff _ (_)
abbrev rgF : Rg := fun l h b => (runB l (h, b, 0)).2.2
theorem lBd : LoopOK Try.prog (LBd cBdF rgF) bBd :=
 rloop_ok (L := LBd cBdF rgF) (L' := L0) cBdl_sound (loopsOK_of (by kernel_rfl)) SBd (F := FBd cBdF rgF) (i := 13) (by kernel_rfl) (fun _ => rfl) fun xs hs q hq => by
  obtain ⟨l, up, u1, u2, u3, g, u4, h, i, u5⟩ := xs
  obtain ⟨sb1, by1, sb2, by2, ⟨u6, b1, u7⟩, jb1, rs1, ⟨b2, u8, u9⟩, jb2, rs2, u10⟩ := hs
  obtain ⟨h1, h2⟩ := Tr.chk_some hq
  have hP : PBd l (jb1, sb1, rs1, by1, ()) b1 (jb2, sb2, rs2, by2, ()) b2 g h i := cBdF_iff.1 h1
  obtain ⟨e1, e2, e3, e4, e5, e6, e7, e8⟩ := hP
  have x1 : jb2 = jb1 := congrArg (·.1) e1
  have x2 : sb2 = sb1 := congrArg (·.2.1) e1
  have x3 : rs2 = rs1 := congrArg (·.2.2.1) e1
  have x4 : by2 = by1 := congrArg (·.2.2.2.1) e1
  have e3 : g = (0 : Int) := e3
  have e4 : h = (0 : Int) := e4
  have e5 : i = ((0 : Nat) : Int) := e5
  subst x1; subst x2; subst x3; subst x4; subst e2; subst e3; subst e4; subst e5
  exact ⟨_, (mBd l up e6 e7 (List.length (α := Act) l) 0 (jb2, sb2, rs2, by2, ()) b2 0 (by omega) e8).trans (congrArg some (Tr.ret_some h2))⟩
theorem loops_Bd : loopsOf (bodyOf Try.f12) = [bBd] := by kernel_rfl
abbrev cBdF' : List (Nat × CSpec) := cBd true koP koF yoP yoF
theorem cBd_sound : CtxSound Try.prog (ctx cBdF') ∧ CtxLocal (ctx cBdF') := ctx_sound ⟨okAw, Sto.ok15, Sto.ok16, okKo, okRo, trivial⟩
theorem TBd_true {l : List Act} (n : Int) (ha : ∀ a ∈ l, okA a) : (TBd true koP koF yoP yoF cBdF rgF n l).eval = some (.v .bool true) := by
 unfold TBd
 dsimp only
 by_cases h : (l.length : Int) > 30
 ·rw [ite_t (decide_eq_true h)]; rfl
 rw [ite_f (decide_eq_false h)]
 cases hr : Sto.okRoom n with
 | false => rfl
 | true =>
  have hr' := hr
  unfold Sto.okRoom at hr'
  rw [Bool.and_eq_true, decide_eq_true_eq, decide_eq_true_eq] at hr'
  have hd : (Sto.newF n).2 = mk [] 0 n (-1) false := rfl
  have ho : Okl [] l.length := ⟨⟨bk0, rfl, kl0⟩, fun x hx => (by cases hx), by show 0 + 61 * l.length ≤ 20000; omega⟩
  have hI : Sto.Inv (mk [] 0 n (-1) false) := Sto.inv_mk (by decide) (by decide) (by show ((0 : Nat) : Int) ≤ n; omega) (by omega) (by decide) (by decide)
  have hop : Op3 (Sto.newF n).2 [] [] := ⟨hI, rfl, scan_nil, .inl rfl⟩
  obtain ⟨o1, o2, o3, o4, o5⟩ := wk_op hop ho fun _ => ⟨[], ho, hI, rfl, rfl, .inl rfl⟩
  have hc : cBdF l (kJ (koF (Sto.newF n).2)) (kB (koF (Sto.newF n).2)) (yJ (yoF (Sto.newF n).2)) (yB (yoF (Sto.newF n).2)) 0 0 0 = true :=
   cBdF_iff.2 ⟨o3, o4, rfl, rfl, rfl, by omega, ha, o5⟩
  rw [ite_t rfl, chk_eval rfl, ite_t rfl, chk_eval rfl, chk_eval o1, chk_eval o2, chk_eval hc, ite_t rfl, decide_eq_true rfl]
  rfl
theorem bd_ok {l : List Act} (hx : Ty.wf lAct l) : ∀ a ∈ l, okA a := fun a ha => ⟨int_wf (hx.2 a ha).2.1, su_16 hx a ha⟩
end Go.Proofs.Ytffdkniccaebmaa.Bok
end
set_option linter.unusedVariables false
set_option maxRecDepth 100000
namespace Go.Proofs.Ytffdkniccaebmaa
open Go Vse Go.Proofs Go.ChangeShapes Go.WideShapes Go.ChangeAt Go.RowKit
theorem own15d : ownKnob Try.prog.godebug = none := by kernel_rfl
theorem laid15d : laidOutB Try.prog = true := by kernel_rfl
theorem bookDoes_lifted (os : Os) (started : os.Started) (H : Type) (enc : TypeId × Value → H) :
  ReturnsInHanded {} Try.checked os 12 .any (Rows.bookDoesSpec.pre6 enc Try.prog Try.f12 Rows.bookDoesRow.domain false) (Rows.bookDoesSpec.post enc Try.prog Try.f12 false true false false) := by
 refine returnsInHanded_of_change_sized (C := Try.checked) own15d started (by kernel_rfl) Try.func12
  (ChangeSpec.witness6 (enc := enc) (C := Try.checked) false ⟨#[], #[.int .i64 0, .slice none 0 0], []⟩ 8 (by kernel_rfl) (by kernel_rfl) (by kernel_rfl) (by kernel_rfl)) ?_
 intro W base args ds gs before hval hW _ hsz _
 refine law_callsT (n := 8) (As := [Gen.i64, Bok.lAct]) Bok.cBd_sound laid15d Try.func12 (by kernel_rfl) (loops1 Bok.loops_Bd Bok.lBd) (by kernel_rfl) (tb := 4) (by kernel_rfl) (by kernel_rfl)
  ⟨rfl, fun ds h => ?_⟩ (fun xs hx hz => ?_) hval hW hsz
 ·match ds, h with
  | [d1, d2], _ => rfl
 ·exact (Bok.tBd true _ _ _ _ _ _ xs.1 xs.2.1).trans (Bok.TBd_true xs.1 (Bok.bd_ok hx.2.1))
theorem bookDoes_holds : Rows.BookDoesSaid :=
 OpenClaim.holds_of_wide 12 Try.f12 rfl rfl rfl rfl rfl rfl rfl ⟨rfl, rfl, rfl, rfl, rfl⟩ rfl rfl rfl rfl rfl (by kernel_rfl) Try.func12 (by kernel_rfl)
  (of_decide_eq_true (by kernel_rfl)) (by unfold Func.isWrapper; first | (rw [if_pos (by decide +kernel)]; kernel_rfl) | (rw [if_neg (by decide +kernel)]; exact ⟨rfl, rfl⟩))
  (fun os started H enc _ => bookDoes_lifted os started H enc)
end Go.Proofs.Ytffdkniccaebmaa
#print axioms Go.Proofs.Ytffdkniccaebmaa.bookDoes_holds

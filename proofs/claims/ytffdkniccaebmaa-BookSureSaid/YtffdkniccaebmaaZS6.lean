/- The statements of layer 15 (book) hold: BookSure. No conditions but the given ones. Part 6. -/
import Derived.Test.YtffdkniccaebmaaZS5
import Derived.Test.YtffdkniccaebmaaRows
import Derived.ProofKit
import Derived.SizedLaws
set_option linter.unusedVariables false
set_option linter.unusedSimpArgs false
section
set_option linter.unusedVariables false
set_option linter.unusedSimpArgs false
set_option maxRecDepth 100000
namespace Go.Proofs.Ytffdkniccaebmaa.Bok
open Go Vse Go.Proofs Gen
open Jnl (JD RJ Hop addF addP onF onP opP opOk opF okR alF laidF laid_len al_snoc al_ge stD)
open Sto (stT D rdyF appF syncF repF appP er mk crashF crashP crashS fuseF)
structure Gk (h : JD) (su : Bk) (N : Nat) : Prop where
 inv : Inv su
 kl : Kl su
 go : ∃ rs, Go h rs ∧ reb rs bk0 = some su ∧ (alF rs).length + 61 * N ≤ 20000
def Ek (d : D) (su wy : Bk) : Prop := ∃ rs wrs, Eb d rs wrs ∧ reb rs bk0 = some su ∧ (wrs = rs ∨ reb wrs bk0 = some wy)
theorem gk_ek {h : JD} {su wy : Bk} {N : Nat} (hg : Gk h su N) : Ek (stD h) su wy := by
 obtain ⟨rs, h1, h2, _⟩ := hg.go
 exact ⟨rs, rs, go_en h1, h2, .inl rfl⟩
theorem do_step {h : JD} {su : Bk} {x : Op} {N : Nat} (hg : Gk h su (N + 1)) (hk : x.2.2.1.length = 16) : doP h su x = true ∧
  (((applyF su x).2 ≠ 0 ∧ doF h su x = ((applyF su x).2, h, su)) ∨ ((applyF su x).2 = 0 ∧ (∃ h', doF h su x = (0, h', (applyF su x).1) ∧ Gk h' (applyF su x).1 N)) ∨
   ((applyF su x).2 = 0 ∧ ∃ h', doF h su x = (8, h', su) ∧ Ek (stD h') su (applyF su x).1)) := by
 obtain ⟨rs, h1, h2, h3⟩ := hg.go
 have hb := inv_ok hg.inv
 by_cases h0 : (applyF su x).2 = 0
 ·have hr := apply_rt h0
  have hp := put_len hr hk
  obtain ⟨a1, a2⟩ := add_step (b := (putF x).1) h1 (by omega) (by omega)
  refine ⟨by unfold doP; rw [hb, a1, Bool.or_true]; rfl, ?_⟩
  rcases a2 with ⟨e0, e1⟩ | ⟨e0, e1⟩
  ·right; left
   refine ⟨h0, _, ?_, inv_apply x hg.inv, kl_apply hg.kl hk, rs ++ [(putF x).1], e1, reb_snoc rs h2 h0 hk, ?_⟩
   ·unfold doF; rw [if_pos h0, if_pos e0]
   ·rw [al_snoc, List.length_append, laid_len]; omega
  ·right; right
   refine ⟨h0, (addF (putF x).1 h).2, ?_, rs, rs ++ [(putF x).1], e1, h2, .inr (reb_snoc rs h2 h0 hk)⟩
   unfold doF; rw [if_pos h0, if_neg (by rw [e0]; decide), e0]
 ·refine ⟨by unfold doP; rw [hb, decide_eq_false h0]; rfl, .inl ⟨h0, ?_⟩⟩
  unfold doF; rw [if_neg h0]
theorem ops_len {b : Bk} (h : Inv b) : (opsF b).length ≤ 251 := by
 have h1 := h.ln
 have h2 := h.rl
 have : (if b.2.2.1 > 0 then [((5, e0, b.2.2.2.1, b.2.2.1, ()) : Op)] else []).length ≤ 1 := by split <;> simp
 unfold opsF
 rw [List.length_append, List.length_append, List.length_map, List.length_map]; omega
theorem pk_step {h : JD} {su : Bk} {N : Nat} (hN : N ≤ 30) (hg : Gk h su (N + 1)) : pkP su = true ∧ (((pkF h su).1.1 = 0 ∧ Gk (pkF h su).2 su N) ∨ ((pkF h su).1.1 = 8 ∧ Ek (stD (pkF h su).2) su su)) := by
 obtain ⟨rs, h1, h2, h3⟩ := hg.go
 have hl := ops_len hg.inv
 have hrt := ops_rt hg.inv
 have hk := kl_ops hg.kl
 have hrt' : ∀ x ∈ opsF su, rtF x = true := fun x hx => List.all_eq_true.1 hrt x hx
 have hal := al_putL (opsF su) hrt' hk
 obtain ⟨o1, o2⟩ := ops_make hg.inv
 have hreb : reb (putL (opsF su)) bk0 = some su := by rw [reb_ops _ _ o1 hk, o2]
 have hc : ∀ c ∈ putL (opsF su), c.length ≤ 1000 := fun c hc => by
  obtain ⟨x, hx, rfl⟩ := List.mem_map.1 hc
  have := put_len (hrt' x hx) (hk x hx)
  omega
 refine ⟨by unfold pkP; rw [inv_ok hg.inv, hrt, decide_eq_true (show (opsF su).length ≤ 400000 by omega)]; rfl, ?_⟩
 rcases on_step (l := putL (opsF su)) (wy := rs) h1 hc (by omega) with ⟨e0, e1⟩ | ⟨e0, e1⟩
 ·left
  exact ⟨e0, hg.inv, hg.kl, putL (opsF su), e1, hreb, by omega⟩
 ·right
  exact ⟨e0, rs, rs, e1, h2, .inl rfl⟩
abbrev opA (a : Act) : Op := a.2.2.1
def runS : List Act → JD → Bk → Bk → Bool → JD × Bk × Bk
 | [], h, su, wy, _ => (h, su, wy)
 | a :: l, h, su, wy, dn => if dn = true then (h, su, wy) else
   if a.1 = 1 then runS l (pkF h su).2 su su ((pkF h su).1.1 == 8)
   else if (applyF su (opA a)).2 = 0 then (if (doF h su (opA a)).1 = 0 then runS l (doF h su (opA a)).2.1 (applyF su (opA a)).1 (applyF su (opA a)).1 false else runS l (doF h su (opA a)).2.1 su (applyF su (opA a)).1 true)
   else runS l h su wy false
theorem run_end : ∀ (l : List Act) (h : JD) (su wy : Bk) (dn : Bool), l.length ≤ 30 → (∀ a ∈ l, (opA a).2.2.1.length = 16) → ((dn = true ∧ Ek (stD h) su wy) ∨ (dn = false ∧ Gk h su l.length)) →
  Ek (stD (runS l h su wy dn).1) (runS l h su wy dn).2.1 (runS l h su wy dn).2.2
 | [], h, su, wy, dn, _, _, hh => by
  rw [runS]
  rcases hh with ⟨_, hh⟩ | ⟨_, hh⟩
  ·exact hh
  ·exact gk_ek hh
 | a :: l, h, su, wy, dn, hl, hk, hh => by
  have hl' : l.length ≤ 30 := by rw [List.length_cons] at hl; omega
  have hk' : ∀ a ∈ l, (opA a).2.2.1.length = 16 := fun b hb => hk b (List.mem_cons_of_mem _ hb)
  have hka := hk a (List.mem_cons_self ..)
  rw [runS]
  rcases hh with ⟨hd, hh⟩ | ⟨hd, hh⟩
  ·rw [if_pos hd]; exact hh
  ·rw [if_neg (by rw [hd]; simp)]
   have hh : Gk h su (l.length + 1) := hh
   by_cases h1 : a.1 = 1
   ·rw [if_pos h1]
    rcases (pk_step hl' hh).2 with ⟨e0, e1⟩ | ⟨e0, e1⟩
    ·exact run_end l _ _ _ _ hl' hk' (.inr ⟨by rw [e0]; rfl, e1⟩)
    ·exact run_end l _ _ _ _ hl' hk' (.inl ⟨by rw [e0]; rfl, e1⟩)
   ·rw [if_neg h1]
    rcases (do_step hh hka).2 with ⟨e0, e1⟩ | ⟨e0, h', e1, e2⟩ | ⟨e0, h', e1, e2⟩
    ·rw [if_neg e0]
     obtain ⟨rs, g1, g2, g3⟩ := hh.go
     exact run_end l _ _ _ _ hl' hk' (.inr ⟨rfl, hh.inv, hh.kl, rs, g1, g2, by omega⟩)
    ·rw [if_pos e0, e1, if_pos rfl]
     exact run_end l _ _ _ _ hl' hk' (.inr ⟨rfl, e2⟩)
    ·rw [if_pos e0, e1, if_neg (show ¬ ((8 : Int) = 0) by decide)]
     exact run_end l _ _ _ _ hl' hk' (.inl ⟨rfl, e2⟩)
theorem cSu_sound : CtxSound Try.prog (ctx (cSu okB applyF doP doF pkP pkF)) ∧ CtxLocal (ctx (cSu okB applyF doP doF pkP pkF)) := ctx_sound ⟨okAp, okDo, okPk, trivial⟩
theorem GSu_eq {l : List Act} (up : Bool) (n : List Int) {h : JD} {su : Bk} (wy : Bk) {k N : Nat} (hN : N ≤ 30) (hk : k < l.length) (hl : l.length ≤ 30) (h16 : (opA l[k]).2.2.1.length = 16) (hg : Gk h su (N + 1)) :
  (GSu okB applyF doP doF pkP pkF l up n h su su wy false (k : Int)).eval =
   some (.inl (if l[k].1 = 1 then ((l, (), up, (), (), (), (), ((pkF h su).1.1 == 8), ((k + 1 : Nat) : Int), ()), uS n (pkF h su).2 su su su)
    else if (applyF su (opA l[k])).2 = 0 then (if (doF h su (opA l[k])).1 = 0 then ((l, (), up, (), (), (), (), false, ((k + 1 : Nat) : Int), ()), uS n (doF h su (opA l[k])).2.1 (applyF su (opA l[k])).1 (applyF su (opA l[k])).1 (applyF su (opA l[k])).1)
     else ((l, (), up, (), (), (), (), true, ((k + 1 : Nat) : Int), ()), uS n (doF h su (opA l[k])).2.1 su su (applyF su (opA l[k])).1))
    else ((l, (), up, (), (), (), (), false, ((k + 1 : Nat) : Int), ()), uS n h su su wy))) := by
 unfold GSu
 dsimp only
 rw [Int.toNat_natCast, getD_of hk, ite_t (decide_eq_true (by omega)), ite_t (show (!false) = true from rfl), chk_eval (inArr_of hk), beq_int]
 unfold nxS
 rw [w_succ hk (by omega)]
 by_cases h1 : l[k].1 = 1
 ·rw [ite_t (decide_eq_true h1), chk_eval (pk_step hN hg).1, if_pos h1]; rfl
 ·rw [ite_f (decide_eq_false h1), if_neg h1, chk_eval (inv_ok hg.inv)]
  obtain ⟨d1, d2⟩ := do_step (x := opA l[k]) hg h16
  rw [chk_eval d1]
  rcases d2 with ⟨e0, e1⟩ | ⟨e0, h', e1, e2⟩ | ⟨e0, h', e1, e2⟩
  ·rw [ite_t (by rw [decide_eq_false e0]; rfl), if_neg e0, ite_f (by rw [e1, decide_eq_true rfl]; rfl), e1]; rfl
  ·rw [ite_f (by rw [decide_eq_true e0]; rfl), if_pos e0, e1]; rfl
  ·rw [ite_f (by rw [decide_eq_true e0]; rfl), if_pos e0, e1]; rfl
theorem mSu (l : List Act) (up : Bool) (n : List Int) (hl : l.length ≤ 30) (h16 : ∀ a ∈ l, (opA a).2.2.1.length = 16) : ∀ (m k : Nat) (h : JD) (su wy : Bk) (dn : Bool), k + m = l.length → (dn = true ∨ (dn = false ∧ Gk h su m)) →
  SSu.many (bodyK Try.prog (ctx (cSu okB applyF doP doF pkP pkF)) L0 bSu) (m + 1) (l, (), up, (), (), (), (), dn, (k : Int), ()) (uS n h su su wy) =
   some (exS up n (stD (runS (l.drop k) h su wy dn).1) (runS (l.drop k) h su wy dn).2.1 (runS (l.drop k) h su wy dn).2.2)
 | 0, k, h, su, wy, dn, hk, hh => by
  rw [List.drop_eq_nil_of_le (by omega), runS]
  refine rmany_inr ((rSu _ _ _ _ _ _ l up n h su su wy dn k).trans ?_) 0
  unfold GSu
  dsimp only
  rw [ite_f (decide_eq_false (by omega))]
  rfl
 | m + 1, k, h, su, wy, dn, hk, hh => by
  have h1 : k < l.length := by omega
  have hd := List.drop_eq_getElem_cons h1
  rcases hh with hh | ⟨hn, hg⟩
  ·subst hh
   rw [hd, runS, if_pos rfl]
   refine rmany_inr ((rSu _ _ _ _ _ _ l up n h su su wy true k).trans ?_) _
   unfold GSu
   dsimp only
   rw [ite_t (decide_eq_true (by omega)), ite_f (show (!true) = false from rfl)]
   rfl
  ·subst hn
   have hka := h16 _ (List.getElem_mem h1)
   have hG := GSu_eq up n wy (show m ≤ 30 by omega) h1 hl hka hg
   have hR := (rSu okB applyF doP doF pkP pkF l up n h su su wy false k).trans hG
   have hwk : ∀ {h2 : JD} {s2 : Bk}, Gk h2 s2 (m + 1) → Gk h2 s2 m := fun hx => by
    obtain ⟨rs, g1, g2, g3⟩ := hx.go
    exact ⟨hx.inv, hx.kl, rs, g1, g2, by omega⟩
   rw [hd, runS, if_neg (by simp)]
   by_cases ha : l[k].1 = 1
   ·rw [if_pos ha] at hR ⊢
    refine (rmany_inl hR (m + 1)).trans (mSu l up n hl h16 m (k + 1) _ _ _ _ (by omega) ?_)
    rcases (pk_step (show m ≤ 30 by omega) hg).2 with ⟨e0, e1⟩ | ⟨e0, e1⟩
    ·exact .inr ⟨by rw [e0]; rfl, e1⟩
    ·exact .inl (by rw [e0]; rfl)
   ·rw [if_neg ha] at hR ⊢
    rcases (do_step hg hka).2 with ⟨e0, e1⟩ | ⟨e0, h', e1, e2⟩ | ⟨e0, h', e1, e2⟩
    ·rw [if_neg e0] at hR ⊢
     exact (rmany_inl hR (m + 1)).trans (mSu l up n hl h16 m (k + 1) _ _ _ _ (by omega) (.inr ⟨rfl, hwk hg⟩))
    ·rw [if_pos e0] at hR ⊢
     have e3 : (doF h su (opA l[k])).1 = 0 := by rw [e1]
     rw [if_pos e3] at hR ⊢
     refine (rmany_inl hR (m + 1)).trans (mSu l up n hl h16 m (k + 1) _ _ _ _ (by omega) (.inr ⟨rfl, ?_⟩))
     rw [e1]; exact e2
    ·rw [if_pos e0] at hR ⊢
     have e3 : ¬ (doF h su (opA l[k])).1 = 0 := by rw [e1]; show ¬ ((8 : Int) = 0); decide
     rw [if_neg e3] at hR ⊢
     exact (rmany_inl hR (m + 1)).trans (mSu l up n hl h16 m (k + 1) _ _ _ _ (by omega) (.inl rfl))
def isG (h : JD) : Bool := !h.1.2.2.1 && (decide ((stD h).b.length = 0) && (decide ((stD h).sure = 0) && (decide ((stD h).room = 1048576) && (decide (-1 ≤ (stD h).fuse) && (decide ((stD h).fuse ≤ 9223372036854775807) && decide (h.2.2.1.length = 0))))))
theorem isG_go {h : JD} (hg : isG h = true) {N : Nat} (hN : N ≤ 30) : Gk h bk0 N := by
 unfold isG at hg
 simp only [Bool.and_eq_true, Bool.not_eq_true', decide_eq_true_eq] at hg
 obtain ⟨h1, h2, h3, h4, h5, h6, h7⟩ := hg
 have hb : (stD h).b = [] := List.eq_nil_of_length_eq_zero h2
 exact ⟨inv0, kl0, [], ⟨h1, hb, h3, h4, h5, h6, List.eq_nil_of_length_eq_zero h7, fun b hb => (by cases hb), by decide⟩, rfl, by show 0 + 61 * N ≤ 20000; omega⟩
def cSuF : Csu := fun l kb su wy dn i h => smF kb bk0 && (smF su bk0 && (smF wy bk0 && (!dn && (decide (i = 0) && (isG h && (decide (l.length ≤ 30) && l.all fun a => decide ((opA a).2.2.1.length = 16)))))))
abbrev LSuF : Loops := LSu cSuF (fun l h => stD (runS l h bk0 bk0 false).1) (fun l h => (runS l h bk0 bk0 false).2.1) (fun l h => (runS l h bk0 bk0 false).2.2)
theorem all16 {l : List Act} (h : (l.all fun a => decide ((opA a).2.2.1.length = 16)) = true) : ∀ a ∈ l, (opA a).2.2.1.length = 16 := fun a ha => of_decide_eq_true (List.all_eq_true.1 h a ha)
theorem lSu : LoopOK Try.prog LSuF bSu :=
 rloop_ok (L := LSuF) (L' := L0) cSu_sound (loopsOK_of (by kernel_rfl)) SSu (F := FSu cSuF (fun l h => stD (runS l h bk0 bk0 false).1) (fun l h => (runS l h bk0 bk0 false).2.1) (fun l h => (runS l h bk0 bk0 false).2.2)) (i := 13) (by kernel_rfl) (fun _ => rfl) fun xs hs q hq => by
  obtain ⟨l, u1, up, u2, u3, u4, u5, dn, i, u6⟩ := xs
  obtain ⟨n, sb, by_, jb, rs, ⟨u7, kb, u8⟩, su, wy, u9⟩ := hs
  obtain ⟨h1, h2⟩ := Tr.chk_some hq
  simp only [cSuF, Bool.and_eq_true, Bool.not_eq_true', decide_eq_true_eq] at h1
  obtain ⟨e0, e1, e2, e3, e4, hg, hl, h16⟩ := h1
  have e0 : kb = bk0 := (sm_iff _ _).1 e0
  have e1 : su = bk0 := (sm_iff _ _).1 e1
  have e2 : wy = bk0 := (sm_iff _ _).1 e2
  have e3 : dn = false := e3
  have e4 : i = ((0 : Nat) : Int) := e4
  subst e0; subst e1; subst e2; subst e3; subst e4
  have hl : List.length (α := Act) l ≤ 30 := hl
  refine ⟨_, (mSu l up n hl (all16 h16) (List.length (α := Act) l) 0 (jb, sb, rs, by_, ()) bk0 bk0 false (by omega) (.inr ⟨rfl, isG_go hg hl⟩)).trans (congrArg some (Tr.ret_some h2))⟩
theorem cSv_sound : CtxSound Try.prog (ctx (cSv true koP koF fuseF crashP crashF okB smF)) ∧ CtxLocal (ctx (cSv true koP koF fuseF crashP crashF okB smF)) := ctx_sound ⟨okAw, Sto.ok15, okKo, Sto.ok22, Sto.ok21, okBo, okSm, trivial⟩
theorem inv_reb : ∀ (l : LL) {b b2 : Bk}, Inv b → reb l b = some b2 → Inv b2
 | [], b, b2, h, e => by have e : some b = some b2 := e; cases e; exact h
 | x :: l, b, b2, h, e => by
  rw [reb] at e
  split at e
  ·rename_i h1
   by_cases hr : rtF (rd1 x).1 = true
   ·exact inv_reb l (inv_done h hr) e
   ·exfalso
    have h1 := h1.1
    have : rd1 x = rdT tk1 x := rfl
    unfold rdT at this
    split at this
    ·rw [this] at h1; cases h1
    split at this
    ·rename_i h3
     rw [this] at hr
     exact hr h3.2.2.2.2
    ·rw [this] at h1; cases h1
  ·cases e
theorem TSu_true {l : List Act} {n : List Int} (h16 : ∀ a ∈ l, (opA a).2.2.1.length = 16) (hn : ∀ k, -9223372036854775808 ≤ n.getD k 0 ∧ n.getD k 0 ≤ 9223372036854775807) :
  (TSu true koP koF fuseF crashP crashF okB smF cSuF (fun l h => stD (runS l h bk0 bk0 false).1) (fun l h => (runS l h bk0 bk0 false).2.1) (fun l h => (runS l h bk0 bk0 false).2.2) l n).eval = some (.v .bool true) := by
 unfold TSu
 dsimp only
 by_cases h0 : (l.length : Int) > 30
 ·rw [ite_t (decide_eq_true h0)]; rfl
 have hl : l.length ≤ 30 := by omega
 have hOp0 : Opn (Sto.newF 1048576).2 [] [] := ⟨rfl, Jnl.scan_nil, fun b hb => (by cases hb), rfl, rfl, rfl, by decide⟩
 obtain ⟨p0, p1, p2, p3, p4, p5, p6, p7⟩ := op_open hOp0
 obtain ⟨k0, k1⟩ := ko_open hOp0 (b := bk0) rfl
 have p7 : (dOf (jF (Sto.newF 1048576).2)).sure = 0 := by
  rcases p7 with ⟨p7, _⟩ | p7
  ·exact p7
  ·rw [p7]; rfl
 rw [ite_f (decide_eq_false h0), chk_eval k0, k1]
 generalize jF (Sto.newF 1048576).2 = F0 at p1 p2 p3 p4 p5 p6 p7
 obtain ⟨n0, n1⟩ := hn 0
 obtain ⟨m0, m1⟩ := hn 1
 have hfu : (fuseF (n.getD 0 0) (dOf F0)).2 = mk (dOf F0).b (dOf F0).sure (dOf F0).room (max (n.getD 0 0) (-1)) (dOf F0).down := by
  have := Sto.maxI_eq (n.getD 0 0) (-1)
  show mk (dOf F0).b (dOf F0).sure (dOf F0).room (maxI (n.getD 0 0) (-1)) (dOf F0).down = _
  rw [this]
 change (Tr.chk (cSuF l bk0 bk0 bk0 false 0 (F0.2.2.1, (fuseF (n.getD 0 0) (dOf F0)).2.1, F0.2.2.2.1, (fuseF (n.getD 0 0) (dOf F0)).2.2.1, ())) _).eval = _
 generalize hH : ((F0.2.2.1, (fuseF (n.getD 0 0) (dOf F0)).2.1, F0.2.2.2.1, (fuseF (n.getD 0 0) (dOf F0)).2.2.1, ()) : JD) = H0
 have hH' : (((hK F0 bk0).2.2.1, (fuseF (n.getD 0 0) ((hK F0 bk0).1, (hK F0 bk0).2.1, ())).2.1, (hK F0 bk0).2.2.2.1, (fuseF (n.getD 0 0) ((hK F0 bk0).1, (hK F0 bk0).2.1, ())).2.2.1, ()) : JD) = H0 := hH
 rw [hH']
 have hst : stD H0 = (fuseF (n.getD 0 0) (dOf F0)).2 := by rw [← hH]; rfl
 have hG : isG H0 = true := by
  unfold isG
  rw [hst, hfu]
  have e1 : H0.1.2.2.1 = false := by rw [← hH]; show F0.2.2.1.2.2.1 = false; rw [p6]
  have e2 : H0.2.2.1.length = 0 := by rw [← hH]; show F0.2.2.2.1.length = 0; rw [p1]; rfl
  rw [e1, decide_eq_true e2, Sto.b_mk, Sto.sure_mk, Sto.room_mk, Sto.fuse_mk, p2, p7, p3, decide_eq_true (show (-1 : Int) ≤ max (n.getD 0 0) (-1) by omega), decide_eq_true (show max (n.getD 0 0) (-1) ≤ 9223372036854775807 by omega)]
  rfl
 have hE := run_end l H0 bk0 bk0 false hl h16 (.inr ⟨rfl, isG_go hG hl⟩)
 have hs0 : smF bk0 bk0 = true := (sm_iff _ _).2 rfl
 have h16' : (l.all fun a => decide ((opA a).2.2.1.length = 16)) = true := List.all_eq_true.2 fun a ha => decide_eq_true (h16 a ha)
 rw [chk_eval (show cSuF l bk0 bk0 bk0 false 0 H0 = true by unfold cSuF; rw [hG, hs0, decide_eq_true hl, h16']; rfl)]
 generalize runS l H0 bk0 bk0 false = R at hE
 obtain ⟨rs, wrs, q1, q2, q3⟩ := hE
 obtain ⟨hc, rs', t, hrs, hop⟩ := en_crash q1 m0 m1
 rw [chk_eval hc]
 generalize (crashF (n.getD 1 0) (stD R.1)).2 = d3 at hop
 have fin : ∀ b3, reb rs' bk0 = some b3 → (b3 = R.2.1 ∨ b3 = R.2.2) → (Tr.chk (koP d3) (.ite true (.chk (okB (koF d3).2.2.2.2.1.2.1) (.ite (smF (koF d3).2.2.2.2.1.2.1 R.2.1) (.ret (.v .bool true)) (.chk (okB (koF d3).2.2.2.2.1.2.1) (.ret (.v .bool (smF (koF d3).2.2.2.2.1.2.1 R.2.2)))))) (.ret (.v .bool false))) : Tr AV).eval = some (.v .bool true) := by
  intro b3 hb3 hor
  obtain ⟨z1, z2⟩ := ko_open hop hb3
  have hI := inv_ok (inv_reb rs' inv0 hb3)
  rw [chk_eval z1, z2, ite_t rfl]
  change (Tr.chk (okB b3) (.ite (smF b3 R.2.1) (.ret (.v .bool true)) (.chk (okB b3) (.ret (.v .bool (smF b3 R.2.2))))) : Tr AV).eval = _
  rw [chk_eval hI]
  rcases hor with e | e
  ·rw [ite_t ((sm_iff _ _).2 e)]; rfl
  ·cases smF b3 R.2.1 with
   | true => rw [ite_t rfl]; rfl
   | false => rw [ite_f rfl, chk_eval hI, (sm_iff _ _).2 e]; rfl
 rcases hrs with e | e
 ·subst e; exact fin R.2.1 q2 (.inl rfl)
 ·rcases q3 with e3 | e3
  ·rw [e, e3] at fin; exact fin R.2.1 q2 (.inl rfl)
  ·rw [e] at fin; exact fin R.2.2 e3 (.inr rfl)
theorem int_wf {n : Int} (h : i64.wf n) : -9223372036854775808 ≤ n ∧ n ≤ 9223372036854775807 := by
 have h : (Lit.int .i64 n).wf = true := h
 simp [Lit.wf, IntKind.min, IntKind.max, IntKind.signed, IntKind.bits] at h
 omega
theorem su_n {n : List Int} (hx : Ty.wf n2 n) (k : Nat) : -9223372036854775808 ≤ n.getD k 0 ∧ n.getD k 0 ≤ 9223372036854775807 := by
 rw [List.getD_eq_getElem?_getD]
 cases h : n[k]? with
 | none => simp
 | some x => exact int_wf (hx.2 x (List.mem_of_getElem? h))
theorem su_16 {l : List Act} (hx : Ty.wf lAct l) : ∀ a ∈ l, (opA a).2.2.1.length = 16 := fun a ha => (hx.2 a ha).2.2.1.2.2.1.1
end Go.Proofs.Ytffdkniccaebmaa.Bok
end
set_option linter.unusedVariables false
set_option maxRecDepth 100000
namespace Go.Proofs.Ytffdkniccaebmaa
open Go Vse Go.Proofs Go.ChangeShapes Go.WideShapes Go.ChangeAt Go.RowKit
theorem own15s : ownKnob Try.prog.godebug = none := by kernel_rfl
theorem laid15s : laidOutB Try.prog = true := by kernel_rfl
theorem bookSure_lifted (os : Os) (started : os.Started) (H : Type) (enc : TypeId × Value → H) :
  ReturnsInHanded {} Try.checked os 13 .any (Rows.bookSureSpec.pre6 enc Try.prog Try.f13 Rows.bookSureRow.domain false) (Rows.bookSureSpec.post enc Try.prog Try.f13 false true false false) := by
 refine returnsInHanded_of_change_sized (C := Try.checked) own15s started (by kernel_rfl) Try.func13
  (ChangeSpec.witness6 (enc := enc) (C := Try.checked) false ⟨#[], #[.slice none 0 0, .agg (Array.replicate 2 (.int .i64 0))], []⟩ 8 (by kernel_rfl) (by kernel_rfl) (by kernel_rfl) (by kernel_rfl)) ?_
 intro W base args ds gs before hval hW _ hsz _
 refine law_callsT (n := 8) (As := [Bok.lAct, Bok.n2]) Bok.cSv_sound laid15s Try.func13 (by kernel_rfl) (loops1 (by kernel_rfl) Bok.lSu) (by kernel_rfl) (tb := 4) (by kernel_rfl) (by kernel_rfl)
  ⟨rfl, fun ds h => ?_⟩ (fun xs hx hz => ?_) hval hW hsz
 ·match ds, h with
  | [d1, d2], _ => rfl
 ·exact (Bok.tSu true _ _ _ _ _ _ _ _ _ _ _ xs.1 xs.2.1).trans (Bok.TSu_true (Bok.su_16 hx.1) (Bok.su_n hx.2.1))
theorem bookSure_holds : Rows.BookSureSaid :=
 OpenClaim.holds_of_wide 13 Try.f13 rfl rfl rfl rfl rfl rfl rfl ⟨rfl, rfl, rfl, rfl, rfl⟩ rfl rfl rfl rfl rfl (by kernel_rfl) Try.func13 (by kernel_rfl)
  (of_decide_eq_true (by kernel_rfl)) (by unfold Func.isWrapper; first | (rw [if_pos (by decide +kernel)]; kernel_rfl) | (rw [if_neg (by decide +kernel)]; exact ⟨rfl, rfl⟩))
  (fun os started H enc _ => bookSure_lifted os started H enc)
end Go.Proofs.Ytffdkniccaebmaa
#print axioms Go.Proofs.Ytffdkniccaebmaa.bookSure_holds

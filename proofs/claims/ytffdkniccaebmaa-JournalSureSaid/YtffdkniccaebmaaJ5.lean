/- Records that are kept (layer 14, journal): what its functions make. -/
import Derived.Test.YtffdkniccaebmaaJ4
import Derived.Test.YtffdkniccaebmaaE55
set_option linter.unusedVariables false
set_option linter.unusedSimpArgs false
set_option maxRecDepth 100000
namespace Go.Proofs.Ytffdkniccaebmaa.Jnl
open Go Vse Go.Proofs Gen
open Sto (stT D R1 R0 rdyF appF syncF repF appP)
open Fld (lenN or_bytes Bytes bytes_get bytes_drop)

/-! a record as bytes -/

theorem outL_len (s : List Int) : ∀ (m i : Nat) (q : List Int), (Sha.outL s i m q).length = q.length
  | 0, i, q => rfl
  | m + 1, i, q => by rw [Sha.outL, outL_len s m, List.length_set]
theorem shaF_len (b : List Int) : (Sha.shaF b).length = 32 := by
  rw [Sha.shaF_hash]
  unfold Sha.sumH Sha.outF
  rw [outL_len]
  rfl
def laidF (b : List Int) : List Int := hd14 b ++ ((Sha.shaF (hd14 b ++ b)).take 8 ++ b)
theorem laid_len (b : List Int) : (laidF b).length = 10 + b.length := by
  unfold laidF
  rw [List.length_append, List.length_append, List.length_take, shaF_len]
  show 2 + (min 8 32 + b.length) = _
  omega
def okLd (b : List Int) : Bool := decide (b.length ≤ 1000000000)
theorem TLd_eq (b : List Int) (h : okLd b = true) : (TLd preCo flat Sha.shaP Sha.shaF b).eval = some ((laidF b, ()), ()) := by
  have hb : b.length ≤ 1000000000 := of_decide_eq_true h
  have e0 : (hd14 b).length = 2 := rfl
  have e1 : flat [hd14 b, b] = hd14 b ++ b := by unfold flat; simp
  have e2 : flat [hd14 b, ((Sha.shaF (hd14 b ++ b)).take 8).drop 0, b] = laidF b := by unfold flat laidF; simp
  unfold TLd
  rw [e1]
  dsimp only
  rw [e2]
  rw [chk_eval (by unfold preCo; rw [e1, List.length_append, e0, decide_eq_true (by omega), decide_eq_true (by omega)]; rfl)]
  rw [chk_eval (show Sha.shaP (hd14 b ++ b) = true from decide_eq_true (by rw [List.length_append, e0]; omega))]
  rw [chk_eval (by unfold preCo; rw [e2, laid_len, decide_eq_true (by omega), decide_eq_true (by omega)]; rfl)]
  rfl
theorem okLa : CSound Try.prog 88 (sLd okLd laidF) ∧ CLocal (sLd okLd laidF) :=
  pos_cuts (L := L0) (C := ctx (cLd preCo flat Sha.shaP Sha.shaF)) (ctx_sound ⟨okCo, Sha.ok16, trivial⟩) kLd Try.func88 (c := bLd) (by kernel_rfl) (by kernel_rfl) (noLoopsL (by kernel_rfl)) fun xs hs hx hh hp => by
    obtain ⟨b, u⟩ := xs
    exact (tLd preCo flat Sha.shaP Sha.shaF b).trans (TLd_eq b hp)

/-! records copied -/

def okR (l : List (List Int)) : Bool := decide (l.length ≤ 1000000000000) && l.all okC
def cCpF : Ccp := fun o l n i => okR l && (decide (o.length = 0) && (decide (n = (l.length : Int)) && decide (i = 0)))
theorem cCp_sound : CtxSound Try.prog (ctx (cCp okC)) ∧ CtxLocal (ctx (cCp okC)) := ctx_sound ⟨okClS, trivial⟩
theorem mCp (l : List (List Int)) (hl : l.length ≤ 1000000000000) (ha : l.all okC = true) : ∀ (m k : Nat), k + m = l.length →
    SCp.many (bodyK Try.prog (ctx (cCp okC)) L0 bCp) (m + 1) ((), l, (l.length : Int), (k : Int), ()) (l.take k, ()) = some (.exit 0, encS [3] [.vc 0 0] [.vec 0 bt] 19 ((), ()) (l, ()))
  | 0, k, h => by
    rw [List.take_of_length_le (by omega)]
    refine rmany_inr ((rCp okC l l _ _).trans ?_) 0
    unfold GCp
    rw [ite_f (decide_eq_false (by omega))]
    rfl
  | m + 1, k, h => by
    have h1 : k < l.length := by omega
    have hc : okC l[k] = true := List.all_eq_true.1 ha _ (List.getElem_mem h1)
    have ht : l.take k ++ [l[k]] = l.take (k + 1) := by rw [List.take_add_one, List.getElem?_eq_getElem h1]; rfl
    refine (rmany_inl (d := (((), l, (l.length : Int), ((k + 1 : Nat) : Int), ()), (l.take (k + 1), ()))) ((rCp okC (l.take k) l _ _).trans ?_) (m + 1)).trans (mCp l hl ha m (k + 1) (by omega))
    unfold GCp
    rw [Int.toNat_natCast, getD_of h1, ite_t (decide_eq_true (by omega)), chk_eval (inArr_of h1), chk_eval hc, chk_eval (by simp only [Vse.room, decide_eq_true_eq, List.length_take]; omega), ht, w_succ h1 (by omega)]
    rfl
theorem lCp : LoopOK Try.prog (LCp cCpF) bCp :=
  rloop_ok (L := LCp cCpF) (L' := L0) cCp_sound (loopsOK_of (by kernel_rfl)) SCp (F := FCp cCpF) (i := 3) (by kernel_rfl) (fun _ => rfl) fun xs hs q h => by
    obtain ⟨u1, l, n, i, u⟩ := xs
    obtain ⟨o, u2⟩ := hs
    obtain ⟨h1, h2⟩ := Tr.chk_some h
    simp only [cCpF, okR, Bool.and_eq_true, decide_eq_true_eq] at h1
    obtain ⟨⟨hl, ha⟩, e1, hn, e3⟩ := h1
    have e1 : o = ([] : List (List Int)) := List.eq_nil_of_length_eq_zero e1
    have hn : n = ((List.length (α := List Int) l : Nat) : Int) := hn
    have e3 : i = ((0 : Nat) : Int) := e3
    subst e1; subst hn; subst e3
    exact ⟨_, (mCp l hl ha (List.length (α := List Int) l) 0 (by omega)).trans (congrArg some (Tr.ret_some h2))⟩
theorem okCp : CSound Try.prog 91 (sCp okR) ∧ CLocal (sCp okR) :=
  pos_sound (L := LCp cCpF) cCp_sound Try.func91 (by kernel_rfl) (loops1 (by kernel_rfl) lCp) fun xs hs hx hh hp => by
    obtain ⟨l, u⟩ := xs
    have hp : okR l = true := hp
    exact (tCp okC cCpF l).trans (chk_eval (by unfold cCpF; rw [hp]; simp) _)
def sRc : CSpec := .pos nRc (fun _ h => okR h.2.2.1) fun _ h => (((), ()), (h.1, h.2.1, h.2.2.1, h.2.2.2.1, h.2.2.1, ()))
theorem okRc : CSound Try.prog 48 sRc ∧ CLocal sRc :=
  pos_sound (L := L0) (C := ctx [(91, sCp okR)]) (ctx_sound ⟨okCp, trivial⟩) Try.func48 (by kernel_rfl) (noLoopsL (by kernel_rfl)) fun xs hs hx hh hp => (tRc okR hs).trans (chk_eval hp _)

/-! one more, these alone -/

theorem TDi_eq (e : Int) (h : JD) : (TDi e h).eval = some ((e, ()), (((), (), broke e, ()), h.2)) := by
  unfold TDi broke
  by_cases he : e = (0 : Int)
  · rw [ite_f (by rw [decide_eq_true he]; rfl), show (e != 0) = false by rw [he]; rfl]; rfl
  · rw [ite_t (by rw [decide_eq_false he]; rfl), Sto.nt he]; rfl
theorem okDi : CSound Try.prog 90 sDi ∧ CLocal sDi :=
  pos_sound (L := L0) nil_sound Try.func90 (by kernel_rfl) (noLoopsL (by kernel_rfl)) fun xs hs hx hh hp => (tDi xs.2.1 hs).trans (TDi_eq xs.2.1 hs)

abbrev RJ := (Int × Unit) × JD
def ej (e : Int) (h : JD) : RJ := ((e, ()), h)
def addF (b : List Int) (h : JD) : RJ :=
  if h.1.2.2.1 = true then ej 8 h else if (b.length : Int) > 1000 then ej 7 h else
    if (appF rdyF (laidF b) (stD h)).1.1 = 0 then
      (if (syncF rdyF (appF rdyF (laidF b) (stD h)).2).1.1 = 0 then ej 0 (putS false (syncF rdyF (appF rdyF (laidF b) (stD h)).2).2 (h.2.2.1 ++ [b]))
       else ej (syncF rdyF (appF rdyF (laidF b) (stD h)).2).1.1 (putS (broke (syncF rdyF (appF rdyF (laidF b) (stD h)).2).1.1) (syncF rdyF (appF rdyF (laidF b) (stD h)).2).2 h.2.2.1))
    else ej (appF rdyF (laidF b) (stD h)).1.1 (putS (broke (appF rdyF (laidF b) (stD h)).1.1) (appF rdyF (laidF b) (stD h)).2 h.2.2.1)
def addP (b : List Int) (h : JD) : Bool := decide ((b.length : Int) > 1000) || (appP rdyF (laidF b) (stD h) && decide (h.2.2.1.length ≤ 1000000))
theorem TAd_eq (b : List Int) (h : JD) (hp : addP b h = true) : (TAd okLd laidF (appP rdyF) (appF rdyF) (syncF rdyF) okC b h).eval = some (addF b h) := by
  unfold TAd addF
  dsimp only
  cases h0 : h.1.2.2.1 with
  | true => rw [ite_t rfl, if_pos rfl]; rfl
  | false =>
    rw [ite_f rfl, if_neg (by simp)]
    by_cases h1 : (b.length : Int) > 1000
    · rw [ite_t (decide_eq_true h1), if_pos h1]; rfl
    · rw [ite_f (decide_eq_false h1), if_neg h1]
      unfold addP at hp
      rw [decide_eq_false h1, Bool.false_or, Bool.and_eq_true, decide_eq_true_eq] at hp
      rw [chk_eval (show okLd b = true from decide_eq_true (by omega)), chk_eval hp.1]
      generalize appF rdyF (laidF b) (stD h) = q
      by_cases h2 : q.1.1 = 0
      · rw [ite_f (by simp [h2]), if_pos h2]
        generalize syncF rdyF q.2 = q2
        by_cases h3 : q2.1.1 = 0
        · rw [ite_f (by simp [h3]), if_pos h3, chk_eval (show okC b = true from decide_eq_true (by omega)), chk_eval (by simp only [Vse.room, decide_eq_true_eq]; omega), h3]
          rfl
        · rw [ite_t (by simp [h3]), if_neg h3]; rfl
      · rw [ite_t (by simp [h2]), if_neg h2]; rfl
def sAd : CSpec := .pos (nJ [bs] [i64] 1) (fun xs h => addP xs.2.1 h) fun xs h => addF xs.2.1 h
theorem okAd : CSound Try.prog 45 sAd ∧ CLocal sAd :=
  pos_sound (L := L0) (C := ctx (cAd okLd laidF (appP rdyF) (appF rdyF) (syncF rdyF) okC)) (ctx_sound ⟨okLa, Sto.ok48, Sto.ok49, okDi, okClS, trivial⟩) Try.func45 (by kernel_rfl) (noLoopsL (by kernel_rfl)) fun xs hs hx hh hp => by
    obtain ⟨u1, b, u⟩ := xs
    exact (tAd okLd laidF (appP rdyF) (appF rdyF) (syncF rdyF) okC b hs).trans (TAd_eq b hs hp)
end Go.Proofs.Ytffdkniccaebmaa.Jnl

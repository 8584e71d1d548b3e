/- Records that are kept (layer 14, journal): sizes, records that are the same, the law's own trial. -/
import Derived.Test.YtffdkniccaebmaaJ7
set_option linter.unusedVariables false
set_option linter.unusedSimpArgs false
set_option maxRecDepth 100000
namespace Go.Proofs.Ytffdkniccaebmaa.Jnl
open Go Vse Go.Proofs Gen
open Sto (stT D R1 R0 rdyF appF syncF repF appP Ox)
open Fld (lenN or_bytes Bytes bytes_get bytes_drop)

abbrev ob : Ty := .imm false false Sto.opT
def SSz : RSpec := ⟨[0, 3, 4], 26, [ob, i64, i64], [], [], [], fun _ => ([3], [i64], [])⟩
noncomputable def bSz : Code := loopAt Try.f40 0
def GSz (l : List Ox) (n i : Int) : Tr SSz.End :=
  let out : Tr SSz.End := .ret (.inr (.exit 0, encS [3] [i64] [] 26 (n, ()) ()))
  .ite (decide (i < (l.length : Int))) (.ite (decide (n < 100000)) (.chk (inArr i l.length) (.ret (.inl ((l, w (w (n + w (2 * ((l.getD i.toNat Sto.x0).2.2.1.length : Int))) + 10), w (i + 1), ()), ())))) out) out
theorem rSz (l : List Ox) (n i : Int) : (SSz.round (bodyK Try.prog (ctx []) L0 bSz) (l, n, i, ()) ()).eval = (GSz l n i).eval := by kernel_rfl
/-- the size that is told -/
def szJ : List Ox → Int → Int
  | [], n => n
  | x :: l, n => if n < 100000 then szJ l (w (w (n + w (2 * (x.2.2.1.length : Int))) + 10)) else n
theorem mSz (l : List Ox) (hl : l.length ≤ 9223372036854775807) : ∀ (m k : Nat) (n : Int), k + m = l.length →
    SSz.many (bodyK Try.prog (ctx []) L0 bSz) (m + 1) (l, n, (k : Int), ()) () = some (.exit 0, encS [3] [i64] [] 26 (szJ (l.drop k) n, ()) ())
  | 0, k, n, h => by
    rw [List.drop_eq_nil_of_le (by omega)]
    refine rmany_inr ((rSz l n k).trans ?_) 0
    unfold GSz
    rw [ite_f (decide_eq_false (by omega))]
    rfl
  | m + 1, k, n, h => by
    have h1 : k < l.length := by omega
    rw [List.drop_eq_getElem_cons h1]
    by_cases hn : n < 100000
    · rw [szJ, if_pos hn]
      refine (rmany_inl (d := ((l, w (w (n + w (2 * (l[k].2.2.1.length : Int))) + 10), ((k + 1 : Nat) : Int), ()), ())) ((rSz l n k).trans ?_) (m + 1)).trans (mSz l hl m (k + 1) _ (by omega))
      unfold GSz
      rw [Int.toNat_natCast, getD_of h1, ite_t (decide_eq_true (by omega)), ite_t (decide_eq_true hn), chk_eval (inArr_of h1), w_succ h1 hl]
      rfl
    · rw [szJ, if_neg hn]
      refine rmany_inr ((rSz l n k).trans ?_) _
      unfold GSz
      rw [ite_t (decide_eq_true (by omega)), ite_f (decide_eq_false hn)]
      rfl
def cSz (l : List Ox) (n i : Int) : Bool := decide (n = 0) && (decide (i = 0) && decide (l.length ≤ 9223372036854775807))
def FSz (c : List Ox → Int → Int → Bool) (f : List Ox → Int) (xs : HL SSz.Ts) (hs : HD SSz.Es) : Tr (Ex × St) := .chk (c xs.1 xs.2.1 xs.2.2.1) (.ret (.exit 0, encS [3] [i64] [] 26 (f xs.1, ()) ()))
def LSz (c : List Ox → Int → Int → Bool) (f : List Ox → Int) : Loops := fun j st => if j = 3 then SSz.fn (FSz c f) st else .fail
def szF (l : List Ox) : Int := szJ l 0
theorem lSz : LoopOK Try.prog (LSz cSz szF) bSz :=
  rloop_ok (L := LSz cSz szF) (L' := L0) nil_sound (loopsOK_of (by kernel_rfl)) SSz (F := FSz cSz szF) (i := 3) (by kernel_rfl) (fun _ => rfl) fun xs hs q h => by
    obtain ⟨l, n, i, u⟩ := xs
    obtain ⟨h1, h2⟩ := Tr.chk_some h
    simp only [cSz, Bool.and_eq_true, decide_eq_true_eq] at h1
    obtain ⟨e1, e2, e3⟩ := h1
    have e1 : n = (0 : Int) := e1
    have e2 : i = ((0 : Nat) : Int) := e2
    subst e1; subst e2
    exact ⟨_, (mSz l e3 (List.length (α := Ox) l) 0 0 (by omega)).trans (congrArg some (Tr.ret_some h2))⟩
def sSz (f : List Ox → Int) : CSpec := .slp1 [ob] (fun _ => true) i64 fun x => f x.1
theorem tSz (c : List Ox → Int → Int → Bool) (f : List Ox → Int) (l : List Ox) : nrm (fnS Try.prog (ctx []) (LSz c f) [i64] Try.f40 (mkArgs [ob] (l, ()))) = (Tr.chk (c l 0 0) (.ret (.v i64 (f l))) : Tr AV).eval := by kernel_rfl
theorem okSz : CSound Try.prog 40 (sSz szF) ∧ CLocal (sSz szF) :=
  slpE1 (L := LSz cSz szF) nil_sound Try.func40 (by kernel_rfl) (loops1 (by kernel_rfl) lSz) fun xs hx hp => by
    obtain ⟨l, u⟩ := xs
    have hl : List.length (α := Ox) l ≤ 9223372036854775807 := hx.1.1
    exact (tSz cSz szF l).trans (chk_eval (by unfold cSz; rw [decide_eq_true hl]; rfl) _)

/-! records that are the same -/

def sSm (f : List (List Int) → List (List Int) → Bool) : CSpec := .slp1 [Gen.ls, Gen.ls] (fun _ => true) .bool fun x => f x.1 x.2.1
theorem tSm (f : List (List Int) → List (List Int) → Bool) (a b : List (List Int)) : nrm (fnS Try.prog (ctx [(94, .sl1 [Gen.ls, Gen.ls] .bool fun x => f x.1 x.2.1)]) L0 [.bool] Try.f47 (mkArgs [Gen.ls, Gen.ls] (a, b, ()))) = some (.v .bool (f a b)) := by kernel_rfl
theorem okSm : CSound Try.prog 47 (sSm Fld.sameL) ∧ CLocal (sSm Fld.sameL) :=
  slpE1 (L := L0) (ctx_sound (l := [(94, Fld.s33)]) ⟨Fld.ok33, trivial⟩) Try.func47 (by kernel_rfl) (noLoopsL (by kernel_rfl)) fun xs hx hp => tSm Fld.sameL xs.1 xs.2.1

/-! the law's own trial -/

def cAk : List (Nat × CSpec) := [(41, Sto.newS), (42, sOp), (45, sAd), (43, Sto.s22), (46, Sto.s21), (48, sRc), (76, Sto.s20)]
theorem cAk_sound : CtxSound Try.prog (ctx cAk) ∧ CtxLocal (ctx cAk) := ctx_sound ⟨Sto.ok15, okOp, okAd, Sto.ok22, Sto.ok21, okRc, Sto.ok20, trivial⟩
def sUp (up : Bool) : CSpec := .slp1 [] (fun _ => true) .bool fun _ => up
theorem tAk : nrm (fnS Try.prog (ctx cAk) L0 [.bool] Try.f39 (mkArgs [] ())) = some (.v .bool true) := by kernel_rfl
theorem okAk : CSound Try.prog 39 (sUp true) ∧ CLocal (sUp true) :=
  slpE1 (L := L0) cAk_sound Try.func39 (by kernel_rfl) (noLoopsL (by kernel_rfl)) fun xs hx hp => tAk
end Go.Proofs.Ytffdkniccaebmaa.Jnl

/- Spans swept (layer 7, sweep): spans; ends, compared and sorted. -/
import Derived.Test.YtmolcddccjgliaaU1
import Derived.Test.YtmolcddccjgliaaQ3
set_option linter.unusedVariables false
set_option maxRecDepth 100000
namespace Go.Proofs.Ytmolcddccjgliaa.Sweep
open Go Vse Go.Proofs Gen

abbrev tS : Ty := .prod (.int .i64) (.prod (.int .i64) .unit)
abbrev ss : Ty := .imm false false tS

/-! spans -/

abbrev F : Int := 1152921504606846976
def clampF (x : tS.den) : tS.den := (minI (maxI x.1 (-F)) F, minI (maxI x.2.1 (-F)) F, ())
def rightF (x : tS.den) : Bool := eqT tS x (clampF x) && decide (x.1 ≤ x.2.1)
def hasF (x : tS.den) (t : Int) : Bool := decide (t ≥ x.1) && decide (t ≤ x.2.1)
def hullF (a b : tS.den) : tS.den := (minI a.1 b.1, maxI a.2.1 b.2.1, ())
def widthF (x : tS.den) : Int := w (x.2.1 - x.1)
def rRightF (x : tS.den) : Bool := decide (x.1 ≥ -F) && (decide (x.2.1 ≤ F) && decide (x.1 ≤ x.2.1))
def rHasF (x : tS.den) (t : Int) : Bool := decide (x.1 ≤ t) && decide (t ≤ x.2.1)

def s47 : CSpec := .fn1 [tS] (tS) fun x => clampF x.1
def s39 : CSpec := .fn1 [tS] (.bool) fun x => rightF x.1
def s17 : CSpec := .fn1 [tS, i64] (.bool) fun x => hasF x.1 x.2.1
def s19 : CSpec := .fn1 [tS] (i64) fun x => widthF x.1
def s18 : CSpec := .fn1 [tS, tS] (tS) fun x => hullF x.1 x.2.1
def s16 : CSpec := .fn1 [tS] (.bool) fun x => rRightF x.1
def s38 : CSpec := .fn1 [tS, i64] (.bool) fun x => rHasF x.1 x.2.1
theorem ok47 : CSound Try.prog 47 s47 ∧ CLocal s47 := fn_ok1 nil_sound Try.func47 (by kernel_rfl) (fun xs _ => by kernel_rfl) (fun xs _ => by kernel_rfl)
theorem ok17 : CSound Try.prog 17 s17 ∧ CLocal s17 := fn_ok1 nil_sound Try.func17 (by kernel_rfl) (fun xs _ => by kernel_rfl) (fun xs _ => by kernel_rfl)
theorem ok19 : CSound Try.prog 19 s19 ∧ CLocal s19 := fn_ok1 nil_sound Try.func19 (by kernel_rfl) (fun xs _ => by kernel_rfl) (fun xs _ => by kernel_rfl)
theorem ok18 : CSound Try.prog 18 s18 ∧ CLocal s18 := fn_ok1 nil_sound Try.func18 (by kernel_rfl) (fun xs _ => by kernel_rfl) (fun xs _ => by kernel_rfl)
theorem ok16 : CSound Try.prog 16 s16 ∧ CLocal s16 := fn_ok1 nil_sound Try.func16 (by kernel_rfl) (fun xs _ => by kernel_rfl) (fun xs _ => by kernel_rfl)
theorem ok38 : CSound Try.prog 38 s38 ∧ CLocal s38 := fn_ok1 nil_sound Try.func38 (by kernel_rfl) (fun xs _ => by kernel_rfl) (fun xs _ => by kernel_rfl)
theorem C1_sound : CtxSound Try.prog (ctx [(47, s47)]) ∧ CtxLocal (ctx [(47, s47)]) := ctx_sound ⟨ok47, trivial⟩
theorem ok39 : CSound Try.prog 39 s39 ∧ CLocal s39 := fn_ok1 C1_sound Try.func39 (by kernel_rfl) (fun xs _ => by kernel_rfl) (fun xs _ => by kernel_rfl)

/-! ends, compared -/

theorem nan64 (x : Int) : (fnK Try.prog (ctx []) L0 Try.f59 (mkArgs [i64] (x, ())) []).fold1 .bool = (x != x) := by kernel_rfl
theorem nan (x : Int) : (fnK Try.prog (ctx []) L0 Try.f60 (mkArgs [i64] (x, ())) []).fold1 .bool = (x != x) := by kernel_rfl
def s59 : CSpec := .fn1 [i64] .bool fun _ => false
theorem ok59 : CSound Try.prog 59 s59 ∧ CLocal s59 := fn_ok1 nil_sound Try.func59 (by kernel_rfl) (fun xs _ => by kernel_rfl) (fun xs _ => (nan64 xs.1).trans (bne_self_eq_false _))
theorem ok60 : CSound Try.prog 60 s59 ∧ CLocal s59 := fn_ok1 nil_sound Try.func60 (by kernel_rfl) (fun xs _ => by kernel_rfl) (fun xs _ => (nan xs.1).trans (bne_self_eq_false _))
def cmpB (x y : Int) : Int := bif decide (x < y) then -1 else bif decide (x > y) then 1 else 0
def s53 : CSpec := .fn1 [i64, i64] i64 fun x => cmpB x.1 x.2.1
theorem C59_sound : CtxSound Try.prog (ctx [(59, s59)]) ∧ CtxLocal (ctx [(59, s59)]) := ctx_sound ⟨ok59, trivial⟩
theorem C60_sound : CtxSound Try.prog (ctx [(60, s59)]) ∧ CtxLocal (ctx [(60, s59)]) := ctx_sound ⟨ok60, trivial⟩
theorem ok53 : CSound Try.prog 53 s53 ∧ CLocal s53 := fn_ok1 C59_sound Try.func53 (by kernel_rfl) (fun xs _ => by kernel_rfl) (fun xs _ => by kernel_rfl)
theorem ok54 : CSound Try.prog 54 s53 ∧ CLocal s53 := fn_ok1 C60_sound Try.func54 (by kernel_rfl) (fun xs _ => by kernel_rfl) (fun xs _ => by kernel_rfl)

abbrev is : Ty := .imm false false i64
noncomputable def bOr : Code := loopAt Try.f52 0
def SOr : RSpec := ⟨[3, 6, 7, 8], 18, [i64, is, i64, i64], [], [], [], fun x => match x with | .ret => ([2], [i64], []) | _ => ([3], [i64], [])⟩
def GOr (z : Int) (l : List Int) (n i : Int) : Tr SOr.End :=
  .ite (decide (i < n)) (.chk (inArr i l.length) (.ite (l.getD i.toNat 0 != z) (.ret (.inr (.ret, encS [2] [i64] [] 18 (l.getD i.toNat 0, ()) ()))) (.ret (.inl ((z, l, n, w (i + 1), ()), ())))))
    (.ret (.inr (.exit 0, encS [3] [i64] [] 18 (z, ()) ())))
theorem rOr (z : Int) (l : List Int) (n i : Int) : (SOr.round (bodyK Try.prog (ctx []) L0 bOr) (z, l, n, i, ()) ()).eval = (GOr z l n i).eval := by kernel_rfl
def FOr (c : Int → List Int → Int → Int → Bool) (xs : HL SOr.Ts) (hs : HD SOr.Es) : Tr (Ex × St) :=
  .chk (c xs.1 xs.2.1 xs.2.2.1 xs.2.2.2.1) (.ite (xs.2.1.getD 0 0 != 0) (.ret (.ret, encS [2] [i64] [] 18 (xs.2.1.getD 0 0, ()) ())) (.ite (xs.2.1.getD 1 0 != 0) (.ret (.ret, encS [2] [i64] [] 18 (xs.2.1.getD 1 0, ()) ())) (.ret (.exit 0, encS [3] [i64] [] 18 (0, ()) ()))))
def LOr (c : Int → List Int → Int → Int → Bool) : Loops := fun j st => if j = 3 then SOr.fn (FOr c) st else .fail
def TOr (c : Int → List Int → Int → Int → Bool) (l : List Int) : Tr AV := .chk (c 0 l (l.length : Int) 0) (.ite (l.getD 0 0 != 0) (.ret (.v i64 (l.getD 0 0))) (.ite (l.getD 1 0 != 0) (.ret (.v i64 (l.getD 1 0))) (.ret (.v i64 0))))
theorem tOr (c : Int → List Int → Int → Int → Bool) (l : List Int) : nrm (fnS Try.prog (ctx []) (LOr c) [i64] Try.f52 (mkArgs [is] (l, ()))) = (TOr c l).eval := by kernel_rfl
def cOr (z : Int) (l : List Int) (n i : Int) : Bool := decide (z = 0) && (decide (l.length = 2) && (decide (n = 2) && decide (i = 0)))
theorem lOr : LoopOK Try.prog (LOr cOr) bOr :=
  rloop_ok (L := LOr cOr) (L' := L0) nil_sound (loopsOK_of (by kernel_rfl)) SOr (F := FOr cOr) (i := 3) (by kernel_rfl) (fun _ => rfl) fun xs hs r h => by
    obtain ⟨z, l, n, i, u⟩ := xs
    obtain ⟨h1, h2⟩ := Tr.chk_some h
    simp only [cOr, Bool.and_eq_true, decide_eq_true_eq] at h1
    obtain ⟨e1, e2, e3, e4⟩ := h1
    have e1 : z = (0 : Int) := e1
    have e3 : n = (2 : Int) := e3
    have e4 : i = (0 : Int) := e4
    subst e1; subst e3; subst e4
    match l, e2 with
    | [a, b], _ =>
      have h2 : (Tr.ite (a != 0) (.ret (Ex.ret, encS [2] [i64] [] 18 (a, ()) ())) (.ite (b != 0) (.ret (.ret, encS [2] [i64] [] 18 (b, ()) ())) (.ret (.exit 0, encS [3] [i64] [] 18 (0, ()) ()))) : Tr (Ex × St)).eval = some r := h2
      by_cases ha : (a != 0) = true
      · rw [ite_t ha] at h2
        have hA : ([a, b].getD (Int.toNat 0) 0 != 0) = true := ha
        refine ⟨1, (rmany_inr ((rOr 0 [a, b] 2 0).trans ?_) 0).trans h2⟩
        unfold GOr
        rw [ite_t (by rfl), chk_eval (by rfl), ite_t hA]
        rfl
      · rw [ite_f (Bool.eq_false_iff.2 ha)] at h2
        have hA : ([a, b].getD (Int.toNat 0) 0 != 0) = false := Bool.eq_false_iff.2 ha
        have r0 := rmany_inl (S := SOr) (d := (((0 : Int), [a, b], (2 : Int), (1 : Int), ()), ())) ((rOr 0 [a, b] 2 0).trans (by
          unfold GOr
          rw [ite_t (by rfl), chk_eval (by rfl), ite_f hA]
          rfl)) 2
        by_cases hb : (b != 0) = true
        · rw [ite_t hb] at h2
          have hB : ([a, b].getD (Int.toNat 1) 0 != 0) = true := hb
          refine ⟨3, r0.trans ((rmany_inr ((rOr 0 [a, b] 2 1).trans ?_) 1).trans h2)⟩
          unfold GOr
          rw [ite_t (by rfl), chk_eval (by rfl), ite_t hB]
          rfl
        · rw [ite_f (Bool.eq_false_iff.2 hb)] at h2
          have hB : ([a, b].getD (Int.toNat 1) 0 != 0) = false := Bool.eq_false_iff.2 hb
          have r1 := rmany_inl (S := SOr) (d := (((0 : Int), [a, b], (2 : Int), (2 : Int), ()), ())) ((rOr 0 [a, b] 2 1).trans (by
            unfold GOr
            rw [ite_t (by rfl), chk_eval (by rfl), ite_f hB]
            rfl)) 1
          refine ⟨3, r0.trans (r1.trans ((rmany_inr ((rOr 0 [a, b] 2 2).trans ?_) 0).trans h2))⟩
          unfold GOr
          rw [ite_f (by rfl)]
          rfl

def orF (l : List Int) : Int := if l.getD 0 0 != 0 then l.getD 0 0 else l.getD 1 0
def s52 : CSpec := .slp1 [is] (fun x => decide (List.length (α := Int) x.1 = 2)) i64 fun x => orF x.1
theorem ok52 : CSound Try.prog 52 s52 ∧ CLocal s52 :=
  slpE1 (L := LOr cOr) nil_sound Try.func52 (by kernel_rfl) (loops1 (by kernel_rfl) lOr) fun xs hx hp => by
    obtain ⟨l, u⟩ := xs
    have hl : List.length (α := Int) l = 2 := of_decide_eq_true hp
    refine (tOr cOr l).trans ?_
    have : (TOr cOr l).eval = some (.v i64 (orF l)) := by
      unfold TOr orF
      rw [chk_eval (by simp only [cOr, hl]; rfl)]
      by_cases ha : (l.getD 0 0 != 0) = true
      · rw [ite_t ha, if_pos ha]; rfl
      · rw [ite_f (Bool.eq_false_iff.2 ha), if_neg ha]
        by_cases hb : (l.getD 1 0 != 0) = true
        · rw [ite_t hb]; rfl
        · have : l.getD 1 0 = 0 := by simpa using hb
          rw [ite_f (Bool.eq_false_iff.2 hb), this]; rfl
    exact this

/-! the function by which ends are sorted -/

def cE (K K' : Int → Int → Int) (O : List Int → Int) (p : List Int → Bool) : List (Nat × CSpec) := [(53, .fn1 [i64, i64] i64 fun x => K x.1 x.2.1), (54, .fn1 [i64, i64] i64 fun x => K' x.1 x.2.1), (52, .slp1 [is] (fun x => p x.1) i64 fun x => O x.1)]
theorem tE (K K' : Int → Int → Int) (O : List Int → Int) (p : List Int → Bool) (x y : Int × Int) :
    nrm (fnK Try.prog (ctx (cE K K' O p)) L0 Try.f51 (mkArgs [tP, tP] (toP x, toP y, ())) []) = (.chk (p [K x.1 y.1, K' y.2 x.2]) (.ret (.v i64 (O [K x.1 y.1, K' y.2 x.2]))) : Tr AV).eval := by kernel_rfl
theorem cE_sound : CtxSound Try.prog (ctx (cE cmpB cmpB orF fun l => decide (l.length = 2))) ∧ CtxLocal (ctx (cE cmpB cmpB orF fun l => decide (l.length = 2))) := ctx_sound ⟨ok53, ok54, ok52, trivial⟩

theorem cmpB_eq (x y : Int) : cmpB x y = cmpI x y := by
  unfold cmpB cmpI
  by_cases h1 : x < y
  · simp [h1]
  · by_cases h2 : x > y
    · have : y < x := h2
      simp [h1, this]
    · have : ¬ y < x := h2
      simp [h1, this]
theorem orF_eq (x y : Int × Int) : orF [cmpB x.1 y.1, cmpB y.2 x.2] = cmpE x y := by
  unfold orF cmpE
  rw [cmpB_eq, cmpB_eq]
  simp

theorem cmp_ok (x y : Pr) : nrm (fnK Try.prog (ctx (cE cmpB cmpB orF fun l => decide (l.length = 2))) L0 Try.f51 (mkArgs [tP, tP] (toP x.1, toP y.1, ())) []) = some (.v (.int .i64) (cmpE x.1 y.1)) := by
  refine (tE _ _ _ _ x.1 y.1).trans ((chk_eval (by rfl) _).trans ?_)
  rw [orF_eq]
  rfl

end Go.Proofs.Ytmolcddccjgliaa.Sweep

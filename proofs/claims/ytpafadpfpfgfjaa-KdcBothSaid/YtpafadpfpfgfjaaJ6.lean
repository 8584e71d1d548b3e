/- The statements of layer 16 (kdc) hold: KdcBoth. No conditions but the given ones. Part 6. -/
import Derived.Test.YtpafadpfpfgfjaaJ5
import Derived.Shelf.Bytes.SlClone
import Derived.Shelf.SlicesE.Clone
import Derived.Shelf.SlicesE.Delete
import Derived.Test.YtpafadpfpfgfjaaRows
import Derived.ProofKit
import Derived.SizedLaws
set_option linter.unusedVariables false
set_option linter.unusedSimpArgs false
section
set_option linter.unusedVariables false
set_option linter.unusedSimpArgs false
set_option maxRecDepth 100000
namespace Go.Proofs.Ytpafadpfpfgfjaa.Kdc
open Go Vse Go.Proofs Gen
def g2 (i : Inf) (N : ByteArray → Bool) (n : Nt) (s : ByteArray) : Bool :=
 !(i s 65 != (n.2.1 != e0)) && !(i s 66 != (n.2.2.1 != e0)) && !((n.2.1 != e0) && !N n.2.1) && !((n.2.2.1 != e0) && !N n.2.2.1)
def g3 (i : Inf) (n : Nt) (s : ByteArray) : Bool := !(!i s 88 && !eqT w16 n.2.2.2.1 zero16) && !(!i s 89 && !eqT w16 n.2.2.2.2.1 zero16)
def g4 (i : Inf) (n : Nt) (s : ByteArray) : Bool :=
 !(!i s 80 && decide ((n.2.2.2.2.2.1.length : Int) > 0)) && !(!i s 81 && decide ((n.2.2.2.2.2.2.1.length : Int) > 0)) && !(!i s 82 && decide ((n.2.2.2.2.2.2.2.1.length : Int) > 0))
def g5 (n : Nt) : Bool := decide ((n.2.2.2.2.2.1.length : Int) ≤ 500) && decide ((n.2.2.2.2.2.2.1.length : Int) ≤ 500) && decide ((n.2.2.2.2.2.2.2.1.length : Int) ≤ 500)
def rightG (h : Int → ByteArray) (i : Inf) (N : ByteArray → Bool) (n : Nt) : Bool := !(h n.1 == e0) && (g2 i N n (h n.1) && (g3 i n (h n.1) && (g4 i n (h n.1) && g5 n)))
theorem R2_eval (i : Inf) (N : ByteArray → Bool) (n : Nt) (r : Bool) (s : ByteArray) : (R2 i N n r s).eval = bif g2 i N n s then (riOk n r s).eval else riNo.eval := by
 unfold R2 riIf g2
 cases (i s 65 != (n.2.1 != e0)) <;> cases (i s 66 != (n.2.2.1 != e0)) <;> cases (n.2.1 != e0) <;> cases (n.2.2.1 != e0) <;> cases N n.2.1 <;> cases N n.2.2.1 <;> rfl
theorem R3_eval (i : Inf) (n : Nt) (r : Bool) (s : ByteArray) : (R3 i n r s).eval = bif g3 i n s then (riOk n r s).eval else riNo.eval := by
 unfold R3 riIf g3
 cases i s 88 <;> cases i s 89 <;> cases eqT w16 n.2.2.2.1 zero16 <;> cases eqT w16 n.2.2.2.2.1 zero16 <;> rfl
theorem R4_eval (i : Inf) (n : Nt) (r : Bool) (s : ByteArray) : (R4 i n r s).eval = bif g4 i n s then (riOk n r s).eval else riNo.eval := by
 unfold R4 riIf g4
 cases i s 80 <;> cases i s 81 <;> cases i s 82 <;> cases decide ((n.2.2.2.2.2.1.length : Int) > 0) <;> cases decide ((n.2.2.2.2.2.2.1.length : Int) > 0) <;> cases decide ((n.2.2.2.2.2.2.2.1.length : Int) > 0) <;> rfl
theorem R5_eval (n : Nt) : (R5 n).eval = some ((g5 n, ()), ()) := by
 unfold R5 g5
 cases decide ((n.2.2.2.2.2.1.length : Int) ≤ 500) <;> cases decide ((n.2.2.2.2.2.2.1.length : Int) ≤ 500) <;> rfl
theorem tRi (h : Int → ByteArray) (i : Inf) (N : ByteArray → Bool) (n : Nt) :
  (stC Try.prog (ctx (cRi h i N)) L0 nSm Try.f41 [kRi 2, kRi 0, kRi 0, kRi 0] bRi (begin_ Try.f41 (mkArgs [tN] (n, ())) [])).eval = some ((rightG h i N n, ()), ()) := by
 unfold rightG
 cases h1 : (h n.1 == e0) with
 | true => exact st_inr ((tR1 h i N n).trans (ite_t h1 _ _))
 | false =>
  refine (st_inl (d := (((), false, h n.1, ()), (n, ()))) ((tR1 h i N n).trans (by unfold R1; rw [ite_f h1]; rfl))).trans ?_
  show (stC Try.prog (ctx (cRi h i N)) L0 nSm Try.f41 [kRi 0, kRi 0, kRi 0] (restC 2 bRi) (stR n false (h n.1))).eval = _
  cases h2 : g2 i N n (h n.1) with
  | false => exact st_inr ((tR2 h i N n _ _).trans ((R2_eval i N n _ _).trans (by rw [h2]; rfl)))
  | true =>
   refine (st_inl (d := (((), false, h n.1, ()), (n, ()))) ((tR2 h i N n _ _).trans ((R2_eval i N n _ _).trans (by rw [h2]; rfl)))).trans ?_
   show (stC Try.prog (ctx (cRi h i N)) L0 nSm Try.f41 [kRi 0, kRi 0] (restC 0 (restC 2 bRi)) (stR n false (h n.1))).eval = _
   cases h3 : g3 i n (h n.1) with
   | false => exact st_inr ((tR3 h i N n _ _).trans ((R3_eval i n _ _).trans (by rw [h3]; rfl)))
   | true =>
    refine (st_inl (d := (((), false, h n.1, ()), (n, ()))) ((tR3 h i N n _ _).trans ((R3_eval i n _ _).trans (by rw [h3]; rfl)))).trans ?_
    show (stC Try.prog (ctx (cRi h i N)) L0 nSm Try.f41 [kRi 0] (restC 0 (restC 0 (restC 2 bRi))) (stR n false (h n.1))).eval = _
    cases h4 : g4 i n (h n.1) with
    | false => exact st_inr ((tR4 h i N n _ _).trans ((R4_eval i n _ _).trans (by rw [h4]; rfl)))
    | true =>
     refine (st_inl (d := (((), false, h n.1, ()), (n, ()))) ((tR4 h i N n _ _).trans ((R4_eval i n _ _).trans (by rw [h4]; rfl)))).trans ?_
     exact (tR5 h i N n _ _).trans (R5_eval n)
def lHas : List ByteArray := [⟨#[]⟩, ⟨#[65, 88]⟩, ⟨#[66, 80, 89]⟩, ⟨#[80, 81, 89]⟩, ⟨#[81, 80]⟩, ⟨#[80]⟩, ⟨#[65, 88]⟩, ⟨#[65, 88, 66, 89]⟩, ⟨#[80, 81]⟩, ⟨#[80, 81, 82, 89]⟩, ⟨#[80]⟩, ⟨#[81, 88]⟩, ⟨#[89, 80]⟩, ⟨#[80]⟩, ⟨#[65, 88]⟩, ⟨#[80]⟩, ⟨#[65]⟩]
def hasF (n : Int) : ByteArray := if n < 1 then e0 else if (lHas.length : Int) ≤ n then e0 else lHas.getD n.toNat e0
def THa (n : Int) : Tr nHa.Out := .ite (decide (n < 1)) (.ret ((e0, ()), ())) (.ite (decide (n ≥ (lHas.length : Int))) (.ret ((e0, ()), ())) (.chk (inArr n lHas.length) (.ret ((lHas.getD n.toNat e0, ()), ()))))
theorem tHa (n : Int) : (fnP Try.prog (ctx []) L0 nHa Try.f73 (n, ()) ()).eval = (THa n).eval := by kernel_rfl
theorem THa_eq (n : Int) : (THa n).eval = some ((hasF n, ()), ()) := by
 unfold THa hasF
 by_cases h1 : n < 1
 ·rw [ite_t (decide_eq_true h1), if_pos h1]; rfl
 ·rw [ite_f (decide_eq_false h1), if_neg h1]
  by_cases h2 : (lHas.length : Int) ≤ n
  ·rw [ite_t (decide_eq_true h2), if_pos h2]; rfl
  ·rw [ite_f (decide_eq_false h2), if_neg h2, chk_eval (by simp only [inArr, Bool.and_eq_true, decide_eq_true_eq]; omega)]; rfl
theorem okHa : CSound Try.prog 73 (sHaG hasF) ∧ CLocal (sHaG hasF) :=
 pos_sound (L := L0) nil_sound Try.func73 (by kernel_rfl) (noLoopsL (by kernel_rfl)) fun xs hs hx hh hp => (tHa xs.1).trans (THa_eq xs.1)
def SIn : RSpec := ⟨[0, 1, 5], 17, [.str, u8, i64], [], [], [], fun x => match x with | .ret => ([4], [.bool], []) | _ => ([], [], [])⟩
noncomputable def bIn : Code := loopAt Try.f77 0
def GIn (s : ByteArray) (c i : Int) : Tr SIn.End :=
 .ite (decide (i < (s.size : Int))) (.chk (inArr i s.size) (.ite (decide (((s.data.getD i.toNat 0).toNat : Int) = c)) (.ret (.inr (.ret, encS [4] [.bool] [] 17 (true, ()) ()))) (.ret (.inl ((s, c, w (i + 1), ()), ())))))
  (.ret (.inr (.exit 0, encS [] [] [] 17 () ())))
theorem rIn (s : ByteArray) (c i : Int) : (SIn.round (bodyK Try.prog (ctx []) L0 bIn) (s, c, i, ()) ()).eval = (GIn s c i).eval := by kernel_rfl
def inF : Inf := fun s c => (strBytes s).any fun x => x == c
theorem mIn (s : ByteArray) (c : Int) (hl : s.size ≤ 9223372036854775807) : ∀ (m k : Nat), k + m = s.size →
  SIn.many (bodyK Try.prog (ctx []) L0 bIn) (m + 1) (s, c, (k : Int), ()) () = if ((strBytes s).drop k).any (fun x => x == c) = true then some (.ret, encS [4] [.bool] [] 17 (true, ()) ()) else some (.exit 0, encS [] [] [] 17 () ())
 | 0, k, h => by
  have e1 : (strBytes s).drop k = [] := List.drop_eq_nil_of_le (by rw [Fld.strBytes_length]; omega)
  rw [e1, if_neg (by simp)]
  refine rmany_inr ((rIn s c _).trans ?_) 0
  unfold GIn
  rw [ite_f (decide_eq_false (by omega))]
  rfl
 | m + 1, k, h => by
  have h1 : k < s.size := by omega
  have h1' : k < (strBytes s).length := by rw [Fld.strBytes_length]; exact h1
  have e2 : (strBytes s).drop k = (strBytes s)[k] :: (strBytes s).drop (k + 1) := List.drop_eq_getElem_cons h1'
  have e3 := Fld.strBytes_get s h1
  have e4 : (((strBytes s).drop k).any fun x => x == c) = (decide (((s.data.getD k 0).toNat : Int) = c) || ((strBytes s).drop (k + 1)).any fun x => x == c) := by rw [e2, List.any_cons, e3]; rfl
  rw [e4]
  by_cases hq : ((s.data.getD k 0).toNat : Int) = c
  ·rw [decide_eq_true hq, if_pos (by simp)]
   refine rmany_inr ((rIn s c _).trans ?_) _
   unfold GIn
   rw [Int.toNat_natCast, ite_t (decide_eq_true (by omega)), chk_eval (inArr_of h1), ite_t (decide_eq_true hq)]
   rfl
  ·rw [decide_eq_false hq, Bool.false_or]
   refine (rmany_inl (d := ((s, c, ((k + 1 : Nat) : Int), ()), ())) ((rIn s c _).trans ?_) (m + 1)).trans (mIn s c hl m (k + 1) (by omega))
   unfold GIn
   rw [Int.toNat_natCast, ite_t (decide_eq_true (by omega)), chk_eval (inArr_of h1), ite_f (decide_eq_false hq), w_succ h1 hl]
   rfl
def cIn (s : ByteArray) (i : Int) : Bool := decide (s.size ≤ 9223372036854775807) && decide (i = 0)
def FIn (c : ByteArray → Int → Bool) (f : Inf) (xs : HL SIn.Ts) (hs : HD SIn.Es) : Tr (Ex × St) :=
 .chk (c xs.1 xs.2.2.1) (.ite (f xs.1 xs.2.1) (.ret (.ret, encS [4] [.bool] [] 17 (true, ()) hs)) (.ret (.exit 0, encS [] [] [] 17 () hs)))
def LIn (c : ByteArray → Int → Bool) (f : Inf) : Loops := fun j st => if j = 2 then SIn.fn (FIn c f) st else .fail
theorem lIn : LoopOK Try.prog (LIn cIn inF) bIn :=
 rloop_ok (L := LIn cIn inF) (L' := L0) nil_sound (loopsOK_of (by kernel_rfl)) SIn (F := FIn cIn inF) (i := 2) (by kernel_rfl) (fun _ => rfl) fun xs hs q h => by
  obtain ⟨s, c, i, u⟩ := xs
  obtain ⟨h1, h2⟩ := Tr.chk_some h
  simp only [cIn, Bool.and_eq_true, decide_eq_true_eq] at h1
  obtain ⟨hl, e2⟩ := h1
  have e2 : i = ((0 : Nat) : Int) := e2
  subst e2
  refine ⟨ByteArray.size s + 1, ?_⟩
  have := mIn s c hl (ByteArray.size s) 0 (by omega)
  rw [List.drop_zero] at this
  refine this.trans ?_
  rcases Tr.ite_some h2 with ⟨hx, h3⟩ | ⟨hx, h3⟩
  ·have hx : (strBytes s).any (fun x => x == c) = true := hx
   rw [if_pos hx]
   exact congrArg some (Tr.ret_some h3)
  ·have hx : (strBytes s).any (fun x => x == c) = false := hx
   rw [if_neg (by rw [hx]; simp)]
   exact congrArg some (Tr.ret_some h3)
def TIn (c : ByteArray → Int → Bool) (f : Inf) (s : ByteArray) (x : Int) : Tr nIn.Out := .chk (c s 0) (.ite (f s x) (.ret ((true, ()), ())) (.ret ((false, ()), ())))
theorem tIn (c : ByteArray → Int → Bool) (f : Inf) (s : ByteArray) (x : Int) : (fnP Try.prog (ctx []) (LIn c f) nIn Try.f77 (s, x, ()) ()).eval = (TIn c f s x).eval := by kernel_rfl
theorem okIn : CSound Try.prog 77 (sInG inF) ∧ CLocal (sInG inF) :=
 pos_sound (L := LIn cIn inF) nil_sound Try.func77 (by kernel_rfl) (loops1 (by kernel_rfl) lIn) fun xs hs hx hh hp => by
  obtain ⟨s, x, u⟩ := xs
  refine (tIn _ _ s x).trans ?_
  have hs : ByteArray.size s ≤ 9223372036854775807 := hx.1
  show _ = some ((inF s x, ()), ())
  unfold TIn
  rw [chk_eval (by simp [cIn, hs])]
  cases hq : inF s x with
  | true => rw [ite_t rfl]; rfl
  | false => rw [ite_f rfl]; rfl
abbrev nameF : ByteArray → Bool := Fld.nameI
def rightF : Nt → Bool := rightG hasF inF nameF
def sNB (f : Nt → Bool) : CSpec := .pos nSm (fun _ _ => true) fun xs _ => ((f xs.1, ()), ())
theorem okRi : CSound Try.prog 41 (sNB rightF) ∧ CLocal (sNB rightF) :=
 pos_cuts (C := ctx (cRi hasF inF nameF)) (L := L0) (ctx_sound ⟨okHa, okIn, Fld.ok37, trivial⟩) [kRi 2, kRi 0, kRi 0, kRi 0] Try.func41 (c := bRi) (by kernel_rfl) (by kernel_rfl) (noLoopsL (by kernel_rfl)) fun xs hs hx hh hp => tRi hasF inF nameF xs.1
def smallF (n : Nt) : Bool := decide (w (w (w (w ((n.2.1.size : Int) + (n.2.2.1.size : Int)) + (n.2.2.2.2.2.1.length : Int)) + (n.2.2.2.2.2.2.1.length : Int)) + (n.2.2.2.2.2.2.2.1.length : Int)) ≤ 2000)
theorem tSm (n : Nt) : (fnP Try.prog (ctx []) L0 nSm Try.f35 (n, ()) ()).eval = (.ret ((smallF n, ()), ()) : Tr nSm.Out).eval := by kernel_rfl
theorem okSm : CSound Try.prog 35 (sNB smallF) ∧ CLocal (sNB smallF) :=
 pos_sound (L := L0) nil_sound Try.func35 (by kernel_rfl) (noLoopsL (by kernel_rfl)) fun xs hs hx hh hp => tSm xs.1
abbrev nSa : PSpec := ⟨[tN, tN], [.bool], [], [], []⟩
def TSa (sm : List Int → List Int → Bool) (a b : Nt) : Tr nSa.Out :=
 let no : Tr nSa.Out := .ret ((false, ()), ())
 .ite (decide (a.1 = b.1)) (.ite (a.2.1 == b.2.1) (.ite (a.2.2.1 == b.2.2.1) (.ite (eqT w16 a.2.2.2.1 b.2.2.2.1) (.ite (eqT w16 a.2.2.2.2.1 b.2.2.2.2.1) (.ite (sm a.2.2.2.2.2.1 b.2.2.2.2.2.1) (.ite (sm a.2.2.2.2.2.2.1 b.2.2.2.2.2.2.1)
  (.ret ((sm a.2.2.2.2.2.2.2.1 b.2.2.2.2.2.2.2.1, ()), ())) no) no) no) no) no) no) no
end Go.Proofs.Ytpafadpfpfgfjaa.Kdc
end
section
set_option linter.unusedVariables false
namespace Vse
open Go Go.ChangeShapes Go.Proofs Go.Shelf
section
variable {P : Program} {C : Ctx} {L : Loops}
theorem clone_sound (hC : CtxSound P C ∧ CtxLocal C) {k : Nat} {fn : Func} (hf : P.funcs[k]? = some fn) {A : Ty} (hA : A.still true = true) (hA' : A.still false = true)
  (hside : ((fn.name == "runtime.NumGoroutine") == false && fn.body.isSome) = true)
  (hl : ∀ b ∈ loopsOf (bodyOf fn), LoopOK P L b)
  (hn : ∀ (n c : Nat) (w : World), Calls P k #[.slice none n c] w fun e w' => e = .returned (.slice none 0 0) ∧ w' = w)
  {pre : List A.den → Bool} (h1 : ∀ l : List A.den, pre l = true → nrm (fnS P C L [.imm true false A] fn (mkArgs [.imm true true A] (l, ()))) = some (.v (.imm true false A) l)) :
  CSound P k (CSpec.slp1 [.imm true false A] (fun xs => pre xs.1) (.imm true false A) fun xs => xs.1) ∧ CLocal (CSpec.slp1 [.imm true false A] (fun xs => pre xs.1) (.imm true false A) fun xs => xs.1) := by
 simp only [Bool.and_eq_true, beq_iff_eq] at hside
 obtain ⟨hname, hb⟩ := hside
 obtain ⟨body, hb⟩ := Option.isSome_iff_exists.1 hb
 have hl : LoopsOK P L body := by
  refine loopsOK_all ?_
  unfold bodyOf at hl
  rw [hb] at hl
  exact hl
 have hAs : ([Ty.imm true false A].all fun A => A.still false) = true := by simp [Ty.still, hA']
 refine ⟨⟨fun args w => callFunc_enter hf hname hb args w, ?_⟩, slp_local _ _ _ _⟩
 intro g H w vs rvs fr out hI hargs _ he
 simp only [CSpec.slp1, CSpec.slp] at he
 rw [takeE_takeAs] at he
 split at he
 ·rename_i xs hxs
  obtain ⟨hp, he⟩ := Tr.chk_some he
  have := Tr.ret_some he
  subst this
  have hargs' := takeAs_rep hI hAs hargs hxs
  obtain ⟨l, u⟩ := xs
  obtain ⟨r, rs, rfl, hv, hr⟩ := hargs'
  have hr : rs = [] := hr
  subst hr
  have hv := (VRep_v (by simp)).1 hv
  simp only [TRep, Ty.agg, Ty.sk, Sk.agg, Bool.false_eq_true, if_false, Rep, List.cons.injEq, and_true] at hv
  obtain ⟨pv, cap, rfl, hcap, _, hne⟩ := hv
  cases pv with
  | none =>
   have hl0 : l = [] := by
    cases l with
    | nil => rfl
    | cons a t => obtain ⟨_, _, h, _⟩ := hne (by simp); cases h
   subst hl0
   refine (hn _ _ w).mono ?_
   rintro e w' ⟨rfl, rfl⟩
   refine ⟨_, g, rfl, G.le.refl g, hI, ?_⟩
   show VRep g (.v (.imm true false A) []) (.slice none 0 0)
   refine (VRep_v (by simp)).2 ?_
   simp only [TRep, Ty.agg, Ty.sk, Sk.agg, Bool.false_eq_true, if_false, Rep, List.cons.injEq, and_true]
   exact ⟨none, 0, rfl, ⟨Nat.le_refl _, Nat.zero_le _⟩, by simp, fun h => absurd rfl h⟩
  | some ad =>
   have hargs2 : argsRep (g.lend H w) (mkArgs [.imm true true A] (l, ())) [.slice (some ad) l.length cap] := by
    refine ⟨_, _, rfl, (VRep_v (by simp)).2 ?_, rfl⟩
    simp only [TRep, Ty.agg, Ty.sk, Sk.agg, Bool.false_eq_true, if_false, Rep, List.cons.injEq, and_true]
    exact ⟨some ad, cap, rfl, hcap, by simp, hne⟩
   obtain ⟨H', h5⟩ := nrm_some (h1 l hp)
   obtain ⟨r, h6, h7⟩ := Tr.bind_some h5
   have h7 := Tr.ret_some h7
   refine (fn_sound hC.1 hC.2 hf hb hl (lend_inv hI) hargs2 (fnK_ok h6)).mono ?_
   rintro e w' ⟨rv, g', rfl, hle, hI', hv⟩
   obtain ⟨g1, s1, s2, s3⟩ := sealR_rep [.imm true false A] (r := r) hI' hv
   rw [h7] at s2 s3
   obtain ⟨g'', q1, q2, q3⟩ := lend_back hI (hle.trans s1) s2
   exact ⟨rv, g'', rfl, q1, q2, still_VRep q3 (ofHL_still (Rs := [.imm true false A]) (by simp [stillL, Ty.still, hA]) (l, ())) s3⟩
 ·exact (Tr.fail_some he).elim
end
end Vse
end
section
set_option linter.unusedVariables false
set_option linter.unusedSimpArgs false
set_option maxRecDepth 100000
namespace Go.Proofs.Ytpafadpfpfgfjaa.Nte
open Go Vse Go.Proofs Gen
open Kdc (w16 lt tN Nt zero16 note0 e0 all16 nameF hasF w_succ inArr_of getD_of)
abbrev iN : Ty := .ip true tN
abbrev part16 (x : List Int) : List Int := (x.drop 0).take 16
def cloB_ren : Go.Shelf.Ren := ⟨fun | 41 => 80 | n => n, fun | 22 => 34 | 23 => 5 | 4 => 4 | n => n, fun | n => n⟩
theorem cloB : Go.Proofs.SlLaysE0.n41 Try.prog cloB_ren := {
 mixed := by kernel_rfl
 f41 := ⟨Try.f80.name, by decide, Try.func80.trans (congrArg some (by kernel_rfl))⟩
 t4 := Try.underlying4
 a4 := Try.isAgg4
 z4 := Try.sizeOf4
 v4 := Try.zeroValue4
 t22 := Try.underlying34
 a22 := Try.isAgg34
 z22 := Try.sizeOf34
 v22 := Try.zeroValue34 }
theorem tClS (l : List Int) : nrm (fnS Try.prog (ctx []) L0 [bt] Try.f80 (mkArgs [.imm true true u8] (l, ()))) = (Tr.chk (Vse.room (0 + l.length) 1) (.ret (.v bt l)) : Tr AV).eval := by kernel_rfl
def okC (l : List Int) : Bool := decide (l.length ≤ 140737488355328)
def sClS : CSpec := .slp1 [bt] (fun xs => okC xs.1) bt fun xs => xs.1
theorem okClS : CSound Try.prog 80 sClS ∧ CLocal sClS :=
 clone_sound (A := u8) nil_sound Try.func80 rfl rfl (by kernel_rfl) (noLoopsL (by kernel_rfl)) (fun n c w => AnyE.slices_Clone_nil cloB n c w) fun l hl => (tClS l).trans (chk_eval (by
  have := of_decide_eq_true hl
  simp [Vse.room]; omega) _)
abbrev nGf (T : Ty) : PSpec := ⟨[iN], [.ip true T], [], [], []⟩
abbrev nPf (m : Nat) : PSpec := ⟨[.ptr 0 []], [.ptr 0 [.fld m]], [.box tN], [.box tN], []⟩
def sGf (T : Ty) (f : Nt → T.den) : CSpec := .pos (nGf T) (fun _ _ => true) fun xs _ => ((f xs.1, ()), ())
def sPf (m : Nat) : CSpec := .pos (nPf m) (fun _ _ => true) fun xs hs => (((), ()), hs)
theorem okGA : CSound Try.prog 113 (sGf .str fun n => n.2.1) ∧ CLocal (sGf .str fun n => n.2.1) :=
 pos_sound (L := L0) nil_sound Try.func113 (by kernel_rfl) (noLoopsL (by kernel_rfl)) fun xs hs hx hh hp => (show ∀ n : Nt, (fnP Try.prog (ctx []) L0 (nGf .str) Try.f113 (n, ()) ()).eval = (.ret ((n.2.1, ()), ()) : Tr (nGf .str).Out).eval from fun n => by kernel_rfl) xs.1
theorem okPA : CSound Try.prog 113 (sPf 1) ∧ CLocal (sPf 1) :=
 pos_sound (L := L0) nil_sound Try.func113 (by kernel_rfl) (noLoopsL (by kernel_rfl)) fun xs hs hx hh hp => (show ∀ n : Nt, (fnP Try.prog (ctx []) L0 (nPf 1) Try.f113 ((), ()) (n, ())).eval = (.ret (((), ()), (n, ())) : Tr (nPf 1).Out).eval from fun n => by kernel_rfl) hs.1
theorem okGB : CSound Try.prog 114 (sGf .str fun n => n.2.2.1) ∧ CLocal (sGf .str fun n => n.2.2.1) :=
 pos_sound (L := L0) nil_sound Try.func114 (by kernel_rfl) (noLoopsL (by kernel_rfl)) fun xs hs hx hh hp => (show ∀ n : Nt, (fnP Try.prog (ctx []) L0 (nGf .str) Try.f114 (n, ()) ()).eval = (.ret ((n.2.2.1, ()), ()) : Tr (nGf .str).Out).eval from fun n => by kernel_rfl) xs.1
theorem okPB : CSound Try.prog 114 (sPf 2) ∧ CLocal (sPf 2) :=
 pos_sound (L := L0) nil_sound Try.func114 (by kernel_rfl) (noLoopsL (by kernel_rfl)) fun xs hs hx hh hp => (show ∀ n : Nt, (fnP Try.prog (ctx []) L0 (nPf 2) Try.f114 ((), ()) (n, ())).eval = (.ret (((), ()), (n, ())) : Tr (nPf 2).Out).eval from fun n => by kernel_rfl) hs.1
theorem okGX : CSound Try.prog 116 (sGf w16 fun n => n.2.2.2.1) ∧ CLocal (sGf w16 fun n => n.2.2.2.1) :=
 pos_sound (L := L0) nil_sound Try.func116 (by kernel_rfl) (noLoopsL (by kernel_rfl)) fun xs hs hx hh hp => (show ∀ n : Nt, (fnP Try.prog (ctx []) L0 (nGf w16) Try.f116 (n, ()) ()).eval = (.ret ((n.2.2.2.1, ()), ()) : Tr (nGf w16).Out).eval from fun n => by kernel_rfl) xs.1
theorem okPX : CSound Try.prog 116 (sPf 3) ∧ CLocal (sPf 3) :=
 pos_sound (L := L0) nil_sound Try.func116 (by kernel_rfl) (noLoopsL (by kernel_rfl)) fun xs hs hx hh hp => (show ∀ n : Nt, (fnP Try.prog (ctx []) L0 (nPf 3) Try.f116 ((), ()) (n, ())).eval = (.ret (((), ()), (n, ())) : Tr (nPf 3).Out).eval from fun n => by kernel_rfl) hs.1
theorem okGY : CSound Try.prog 117 (sGf w16 fun n => n.2.2.2.2.1) ∧ CLocal (sGf w16 fun n => n.2.2.2.2.1) :=
 pos_sound (L := L0) nil_sound Try.func117 (by kernel_rfl) (noLoopsL (by kernel_rfl)) fun xs hs hx hh hp => (show ∀ n : Nt, (fnP Try.prog (ctx []) L0 (nGf w16) Try.f117 (n, ()) ()).eval = (.ret ((n.2.2.2.2.1, ()), ()) : Tr (nGf w16).Out).eval from fun n => by kernel_rfl) xs.1
theorem okPY : CSound Try.prog 117 (sPf 4) ∧ CLocal (sPf 4) :=
 pos_sound (L := L0) nil_sound Try.func117 (by kernel_rfl) (noLoopsL (by kernel_rfl)) fun xs hs hx hh hp => (show ∀ n : Nt, (fnP Try.prog (ctx []) L0 (nPf 4) Try.f117 ((), ()) (n, ())).eval = (.ret (((), ()), (n, ())) : Tr (nPf 4).Out).eval from fun n => by kernel_rfl) hs.1
theorem okGP : CSound Try.prog 119 (sGf bt fun n => n.2.2.2.2.2.1) ∧ CLocal (sGf bt fun n => n.2.2.2.2.2.1) :=
 pos_sound (L := L0) nil_sound Try.func119 (by kernel_rfl) (noLoopsL (by kernel_rfl)) fun xs hs hx hh hp => (show ∀ n : Nt, (fnP Try.prog (ctx []) L0 (nGf bt) Try.f119 (n, ()) ()).eval = (.ret ((n.2.2.2.2.2.1, ()), ()) : Tr (nGf bt).Out).eval from fun n => by kernel_rfl) xs.1
theorem okPP : CSound Try.prog 119 (sPf 5) ∧ CLocal (sPf 5) :=
 pos_sound (L := L0) nil_sound Try.func119 (by kernel_rfl) (noLoopsL (by kernel_rfl)) fun xs hs hx hh hp => (show ∀ n : Nt, (fnP Try.prog (ctx []) L0 (nPf 5) Try.f119 ((), ()) (n, ())).eval = (.ret (((), ()), (n, ())) : Tr (nPf 5).Out).eval from fun n => by kernel_rfl) hs.1
theorem okGQ : CSound Try.prog 120 (sGf bt fun n => n.2.2.2.2.2.2.1) ∧ CLocal (sGf bt fun n => n.2.2.2.2.2.2.1) :=
 pos_sound (L := L0) nil_sound Try.func120 (by kernel_rfl) (noLoopsL (by kernel_rfl)) fun xs hs hx hh hp => (show ∀ n : Nt, (fnP Try.prog (ctx []) L0 (nGf bt) Try.f120 (n, ()) ()).eval = (.ret ((n.2.2.2.2.2.2.1, ()), ()) : Tr (nGf bt).Out).eval from fun n => by kernel_rfl) xs.1
theorem okPQ : CSound Try.prog 120 (sPf 6) ∧ CLocal (sPf 6) :=
 pos_sound (L := L0) nil_sound Try.func120 (by kernel_rfl) (noLoopsL (by kernel_rfl)) fun xs hs hx hh hp => (show ∀ n : Nt, (fnP Try.prog (ctx []) L0 (nPf 6) Try.f120 ((), ()) (n, ())).eval = (.ret (((), ()), (n, ())) : Tr (nPf 6).Out).eval from fun n => by kernel_rfl) hs.1
theorem okGR : CSound Try.prog 121 (sGf bt fun n => n.2.2.2.2.2.2.2.1) ∧ CLocal (sGf bt fun n => n.2.2.2.2.2.2.2.1) :=
 pos_sound (L := L0) nil_sound Try.func121 (by kernel_rfl) (noLoopsL (by kernel_rfl)) fun xs hs hx hh hp => (show ∀ n : Nt, (fnP Try.prog (ctx []) L0 (nGf bt) Try.f121 (n, ()) ()).eval = (.ret ((n.2.2.2.2.2.2.2.1, ()), ()) : Tr (nGf bt).Out).eval from fun n => by kernel_rfl) xs.1
theorem okPR : CSound Try.prog 121 (sPf 7) ∧ CLocal (sPf 7) :=
 pos_sound (L := L0) nil_sound Try.func121 (by kernel_rfl) (noLoopsL (by kernel_rfl)) fun xs hs hx hh hp => (show ∀ n : Nt, (fnP Try.prog (ctx []) L0 (nPf 7) Try.f121 ((), ()) (n, ())).eval = (.ret (((), ()), (n, ())) : Tr (nPf 7).Out).eval from fun n => by kernel_rfl) hs.1
abbrev nNg (k : Nat) : PSpec := ⟨[iN, .ptr 0 []], [bt], [.box (.fn k .unit)], [.box (.fn k .unit)], []⟩
abbrev nNs (k : Nat) : PSpec := ⟨[.ptr 0 [], bt, .ptr 1 []], [.bool], [.box tN, .box (.fn k .unit)], [.box tN, .box (.fn k .unit)], []⟩
def sNg (k : Nat) (f : Nt → List Int) : CSpec := .pos (nNg k) (fun _ _ => true) fun xs hs => ((f xs.1, ()), hs)
def sNs (k : Nat) (p : List Int → Bool) (ok : List Int → Bool) (f : Nt → List Int → Nt) : CSpec := .pos (nNs k) (fun xs _ => p xs.2.1) fun xs hs => ((ok xs.2.1, ()), (f hs.1 xs.2.1, hs.2))
def firstFn : List Entry → Option Nat
 | .box (.fn k _) _ :: _ => some k
 | _ :: l => firstFn l
 | [] => none
def selFn (k : Nat) : List AV → List Entry → Option Bool := fun _ es => match firstFn es with
 | some j => some (decide (j = k))
 | none => none
abbrev yes1 : List Int → Bool := fun _ => true
abbrev wordF : List Int → HL [w16, i64] := fun a => Fld.wordI a
def getA (n : Nt) : List Int := strBytes n.2.1
def setA (n : Nt) (b : List Int) : Nt := (n.1, bytesStr b, n.2.2)
theorem okNgA : CSound Try.prog 134 (sNg 113 getA) ∧ CLocal (sNg 113 getA) :=
 pos_sound (L := L0) (C := ctx [(113, sGf .str fun n => n.2.1)]) (ctx_sound ⟨okGA, trivial⟩) Try.func134 (by kernel_rfl) (noLoopsL (by kernel_rfl)) fun xs hs hx hh hp =>
  (show ∀ n : Nt, (fnP Try.prog (ctx [(113, sGf .str fun n => n.2.1)]) L0 (nNg 113) Try.f134 (n, (), ()) ((), ())).eval = (.ret ((getA n, ()), ((), ())) : Tr (nNg 113).Out).eval from fun n => by kernel_rfl) xs.1
theorem tNsA (n : Nt) (b : List Int) : (fnP Try.prog (ctx [(113, sPf 1), (48, .sl1 [.str] .bool fun x => nameF x.1)]) L0 (nNs 113) Try.f135 ((), b, (), ()) (n, (), ())).eval = (.ret ((nameF (bytesStr b), ()), (setA n b, (), ())) : Tr (nNs 113).Out).eval := by kernel_rfl
abbrev okA : List Int → Bool := fun b => nameF (bytesStr b)
theorem okNsA : CSound Try.prog 135 (sNs 113 yes1 okA setA) ∧ CLocal (sNs 113 yes1 okA setA) :=
 pos_sound (L := L0) (C := ctx [(113, sPf 1), (48, .sl1 [.str] .bool fun x => nameF x.1)]) (ctx_sound ⟨okPA, Fld.ok36, trivial⟩) Try.func135 (by kernel_rfl) (noLoopsL (by kernel_rfl)) fun xs hs hx hh hp => (tNsA hs.1 xs.2.1).trans rfl
def getB (n : Nt) : List Int := strBytes n.2.2.1
def setB (n : Nt) (b : List Int) : Nt := (n.1, n.2.1, bytesStr b, n.2.2.2)
theorem okNgB : CSound Try.prog 134 (sNg 114 getB) ∧ CLocal (sNg 114 getB) :=
 pos_sound (L := L0) (C := ctx [(114, sGf .str fun n => n.2.2.1)]) (ctx_sound ⟨okGB, trivial⟩) Try.func134 (by kernel_rfl) (noLoopsL (by kernel_rfl)) fun xs hs hx hh hp =>
  (show ∀ n : Nt, (fnP Try.prog (ctx [(114, sGf .str fun n => n.2.2.1)]) L0 (nNg 114) Try.f134 (n, (), ()) ((), ())).eval = (.ret ((getB n, ()), ((), ())) : Tr (nNg 114).Out).eval from fun n => by kernel_rfl) xs.1
theorem tNsB (n : Nt) (b : List Int) : (fnP Try.prog (ctx [(114, sPf 2), (48, .sl1 [.str] .bool fun x => nameF x.1)]) L0 (nNs 114) Try.f135 ((), b, (), ()) (n, (), ())).eval = (.ret ((nameF (bytesStr b), ()), (setB n b, (), ())) : Tr (nNs 114).Out).eval := by kernel_rfl
abbrev okB : List Int → Bool := fun b => nameF (bytesStr b)
theorem okNsB : CSound Try.prog 135 (sNs 114 yes1 okB setB) ∧ CLocal (sNs 114 yes1 okB setB) :=
 pos_sound (L := L0) (C := ctx [(114, sPf 2), (48, .sl1 [.str] .bool fun x => nameF x.1)]) (ctx_sound ⟨okPB, Fld.ok36, trivial⟩) Try.func135 (by kernel_rfl) (noLoopsL (by kernel_rfl)) fun xs hs hx hh hp => (tNsB hs.1 xs.2.1).trans rfl
def getX (n : Nt) : List Int := part16 n.2.2.2.1
def setX (n : Nt) (b : List Int) : Nt := (n.1, n.2.1, n.2.2.1, (wordF b).1, n.2.2.2.2)
theorem okNgX : CSound Try.prog 136 (sNg 116 getX) ∧ CLocal (sNg 116 getX) :=
 pos_sound (L := L0) (C := ctx [(116, sGf w16 fun n => n.2.2.2.1)]) (ctx_sound ⟨okGX, trivial⟩) Try.func136 (by kernel_rfl) (noLoopsL (by kernel_rfl)) fun xs hs hx hh hp =>
  (show ∀ n : Nt, (fnP Try.prog (ctx [(116, sGf w16 fun n => n.2.2.2.1)]) L0 (nNg 116) Try.f136 (n, (), ()) ((), ())).eval = (.ret ((getX n, ()), ((), ())) : Tr (nNg 116).Out).eval from fun n => by kernel_rfl) xs.1
theorem tNsX (n : Nt) (b : List Int) : (fnP Try.prog (ctx [(116, sPf 3), (79, .sl [bs] [w16, i64] fun x => wordF x.1)]) L0 (nNs 116) Try.f137 ((), b, (), ()) (n, (), ())).eval = (.ret (((wordF b).2.1 == 0, ()), (setX n b, (), ())) : Tr (nNs 116).Out).eval := by kernel_rfl
abbrev okX : List Int → Bool := fun b => (wordF b).2.1 == 0
theorem okNsX : CSound Try.prog 137 (sNs 116 yes1 okX setX) ∧ CLocal (sNs 116 yes1 okX setX) :=
 pos_sound (L := L0) (C := ctx [(116, sPf 3), (79, .sl [bs] [w16, i64] fun x => wordF x.1)]) (ctx_sound ⟨okPX, Fld.ok31, trivial⟩) Try.func137 (by kernel_rfl) (noLoopsL (by kernel_rfl)) fun xs hs hx hh hp => (tNsX hs.1 xs.2.1).trans rfl
def getY (n : Nt) : List Int := part16 n.2.2.2.2.1
def setY (n : Nt) (b : List Int) : Nt := (n.1, n.2.1, n.2.2.1, n.2.2.2.1, (wordF b).1, n.2.2.2.2.2)
theorem okNgY : CSound Try.prog 136 (sNg 117 getY) ∧ CLocal (sNg 117 getY) :=
 pos_sound (L := L0) (C := ctx [(117, sGf w16 fun n => n.2.2.2.2.1)]) (ctx_sound ⟨okGY, trivial⟩) Try.func136 (by kernel_rfl) (noLoopsL (by kernel_rfl)) fun xs hs hx hh hp =>
  (show ∀ n : Nt, (fnP Try.prog (ctx [(117, sGf w16 fun n => n.2.2.2.2.1)]) L0 (nNg 117) Try.f136 (n, (), ()) ((), ())).eval = (.ret ((getY n, ()), ((), ())) : Tr (nNg 117).Out).eval from fun n => by kernel_rfl) xs.1
theorem tNsY (n : Nt) (b : List Int) : (fnP Try.prog (ctx [(117, sPf 4), (79, .sl [bs] [w16, i64] fun x => wordF x.1)]) L0 (nNs 117) Try.f137 ((), b, (), ()) (n, (), ())).eval = (.ret (((wordF b).2.1 == 0, ()), (setY n b, (), ())) : Tr (nNs 117).Out).eval := by kernel_rfl
abbrev okY : List Int → Bool := fun b => (wordF b).2.1 == 0
theorem okNsY : CSound Try.prog 137 (sNs 117 yes1 okY setY) ∧ CLocal (sNs 117 yes1 okY setY) :=
 pos_sound (L := L0) (C := ctx [(117, sPf 4), (79, .sl [bs] [w16, i64] fun x => wordF x.1)]) (ctx_sound ⟨okPY, Fld.ok31, trivial⟩) Try.func137 (by kernel_rfl) (noLoopsL (by kernel_rfl)) fun xs hs hx hh hp => (tNsY hs.1 xs.2.1).trans rfl
def getP (n : Nt) : List Int := n.2.2.2.2.2.1
def setP (n : Nt) (b : List Int) : Nt := (n.1, n.2.1, n.2.2.1, n.2.2.2.1, n.2.2.2.2.1, b, n.2.2.2.2.2.2)
theorem okNgP : CSound Try.prog 138 (sNg 119 getP) ∧ CLocal (sNg 119 getP) :=
 pos_sound (L := L0) (C := ctx [(119, sGf bt fun n => n.2.2.2.2.2.1)]) (ctx_sound ⟨okGP, trivial⟩) Try.func138 (by kernel_rfl) (noLoopsL (by kernel_rfl)) fun xs hs hx hh hp =>
  (show ∀ n : Nt, (fnP Try.prog (ctx [(119, sGf bt fun n => n.2.2.2.2.2.1)]) L0 (nNg 119) Try.f138 (n, (), ()) ((), ())).eval = (.ret ((getP n, ()), ((), ())) : Tr (nNg 119).Out).eval from fun n => by kernel_rfl) xs.1
theorem tNsP (n : Nt) (b : List Int) : (fnP Try.prog (ctx [(119, sPf 5), (80, sClS)]) L0 (nNs 119) Try.f139 ((), b, (), ()) (n, (), ())).eval = (.chk (okC b) (.ret ((true, ()), (setP n b, (), ()))) : Tr (nNs 119).Out).eval := by kernel_rfl
abbrev okP : List Int → Bool := yes1
theorem okNsP : CSound Try.prog 139 (sNs 119 okC okP setP) ∧ CLocal (sNs 119 okC okP setP) :=
 pos_sound (L := L0) (C := ctx [(119, sPf 5), (80, sClS)]) (ctx_sound ⟨okPP, okClS, trivial⟩) Try.func139 (by kernel_rfl) (noLoopsL (by kernel_rfl)) fun xs hs hx hh hp => (tNsP hs.1 xs.2.1).trans (chk_eval hp _)
def getQ (n : Nt) : List Int := n.2.2.2.2.2.2.1
def setQ (n : Nt) (b : List Int) : Nt := (n.1, n.2.1, n.2.2.1, n.2.2.2.1, n.2.2.2.2.1, n.2.2.2.2.2.1, b, n.2.2.2.2.2.2.2)
theorem okNgQ : CSound Try.prog 138 (sNg 120 getQ) ∧ CLocal (sNg 120 getQ) :=
 pos_sound (L := L0) (C := ctx [(120, sGf bt fun n => n.2.2.2.2.2.2.1)]) (ctx_sound ⟨okGQ, trivial⟩) Try.func138 (by kernel_rfl) (noLoopsL (by kernel_rfl)) fun xs hs hx hh hp =>
  (show ∀ n : Nt, (fnP Try.prog (ctx [(120, sGf bt fun n => n.2.2.2.2.2.2.1)]) L0 (nNg 120) Try.f138 (n, (), ()) ((), ())).eval = (.ret ((getQ n, ()), ((), ())) : Tr (nNg 120).Out).eval from fun n => by kernel_rfl) xs.1
theorem tNsQ (n : Nt) (b : List Int) : (fnP Try.prog (ctx [(120, sPf 6), (80, sClS)]) L0 (nNs 120) Try.f139 ((), b, (), ()) (n, (), ())).eval = (.chk (okC b) (.ret ((true, ()), (setQ n b, (), ()))) : Tr (nNs 120).Out).eval := by kernel_rfl
abbrev okQ : List Int → Bool := yes1
theorem okNsQ : CSound Try.prog 139 (sNs 120 okC okQ setQ) ∧ CLocal (sNs 120 okC okQ setQ) :=
 pos_sound (L := L0) (C := ctx [(120, sPf 6), (80, sClS)]) (ctx_sound ⟨okPQ, okClS, trivial⟩) Try.func139 (by kernel_rfl) (noLoopsL (by kernel_rfl)) fun xs hs hx hh hp => (tNsQ hs.1 xs.2.1).trans (chk_eval hp _)
def getR (n : Nt) : List Int := n.2.2.2.2.2.2.2.1
def setR (n : Nt) (b : List Int) : Nt := (n.1, n.2.1, n.2.2.1, n.2.2.2.1, n.2.2.2.2.1, n.2.2.2.2.2.1, n.2.2.2.2.2.2.1, b, n.2.2.2.2.2.2.2.2)
theorem okNgR : CSound Try.prog 138 (sNg 121 getR) ∧ CLocal (sNg 121 getR) :=
 pos_sound (L := L0) (C := ctx [(121, sGf bt fun n => n.2.2.2.2.2.2.2.1)]) (ctx_sound ⟨okGR, trivial⟩) Try.func138 (by kernel_rfl) (noLoopsL (by kernel_rfl)) fun xs hs hx hh hp =>
  (show ∀ n : Nt, (fnP Try.prog (ctx [(121, sGf bt fun n => n.2.2.2.2.2.2.2.1)]) L0 (nNg 121) Try.f138 (n, (), ()) ((), ())).eval = (.ret ((getR n, ()), ((), ())) : Tr (nNg 121).Out).eval from fun n => by kernel_rfl) xs.1
theorem tNsR (n : Nt) (b : List Int) : (fnP Try.prog (ctx [(121, sPf 7), (80, sClS)]) L0 (nNs 121) Try.f139 ((), b, (), ()) (n, (), ())).eval = (.chk (okC b) (.ret ((true, ()), (setR n b, (), ()))) : Tr (nNs 121).Out).eval := by kernel_rfl
abbrev okR : List Int → Bool := yes1
theorem okNsR : CSound Try.prog 139 (sNs 121 okC okR setR) ∧ CLocal (sNs 121 okC okR setR) :=
 pos_sound (L := L0) (C := ctx [(121, sPf 7), (80, sClS)]) (ctx_sound ⟨okPR, okClS, trivial⟩) Try.func139 (by kernel_rfl) (noLoopsL (by kernel_rfl)) fun xs hs hx hh hp => (tNsR hs.1 xs.2.1).trans (chk_eval hp _)
abbrev tPt (a b : Nat) : Ty := .prod (.fn a (.prod (.ptr 0 []) .unit)) (.prod (.fn b (.prod (.ptr 0 []) .unit)) .unit)
abbrev nNm (k a b : Nat) : PSpec := ⟨[.fn k .unit], [tPt a b], [], [.box (.fn k .unit)], []⟩
abbrev nPt (k a b : Nat) : PSpec := ⟨[.int .i32], [tPt a b], [], [.box (.fn k .unit)], []⟩
def sNm (k a b : Nat) : CSpec := .pos (nNm k a b) (fun _ _ => true) fun _ _ => (((((), ()), ((), ()), ()), ()), ((), ()))
def sPt (k a b : Nat) (c : Int) : CSpec := .pos (nPt k a b) (fun xs _ => decide (xs.1 = c)) fun _ _ => (((((), ()), ((), ()), ()), ()), ((), ()))
def selC (x : Int) : List AV → List Entry → Option Bool := fun vs _ => match vs with
 | [.v (.int .i32) c] => some (decide (c = x))
 | _ => none
theorem okNmA : CSound Try.prog 112 (sNm 113 134 135) ∧ CLocal (sNm 113 134 135) :=
 pos_sound (L := L0) nil_sound Try.func112 (by kernel_rfl) (noLoopsL (by kernel_rfl)) fun xs hs hx hh hp => by kernel_rfl
theorem okNmB : CSound Try.prog 112 (sNm 114 134 135) ∧ CLocal (sNm 114 134 135) :=
 pos_sound (L := L0) nil_sound Try.func112 (by kernel_rfl) (noLoopsL (by kernel_rfl)) fun xs hs hx hh hp => by kernel_rfl
theorem okNmX : CSound Try.prog 115 (sNm 116 136 137) ∧ CLocal (sNm 116 136 137) :=
 pos_sound (L := L0) nil_sound Try.func115 (by kernel_rfl) (noLoopsL (by kernel_rfl)) fun xs hs hx hh hp => by kernel_rfl
theorem okNmY : CSound Try.prog 115 (sNm 117 136 137) ∧ CLocal (sNm 117 136 137) :=
 pos_sound (L := L0) nil_sound Try.func115 (by kernel_rfl) (noLoopsL (by kernel_rfl)) fun xs hs hx hh hp => by kernel_rfl
theorem okNmP : CSound Try.prog 118 (sNm 119 138 139) ∧ CLocal (sNm 119 138 139) :=
 pos_sound (L := L0) nil_sound Try.func118 (by kernel_rfl) (noLoopsL (by kernel_rfl)) fun xs hs hx hh hp => by kernel_rfl
theorem okNmQ : CSound Try.prog 118 (sNm 120 138 139) ∧ CLocal (sNm 120 138 139) :=
 pos_sound (L := L0) nil_sound Try.func118 (by kernel_rfl) (noLoopsL (by kernel_rfl)) fun xs hs hx hh hp => by kernel_rfl
theorem okNmR : CSound Try.prog 118 (sNm 121 138 139) ∧ CLocal (sNm 121 138 139) :=
 pos_sound (L := L0) nil_sound Try.func118 (by kernel_rfl) (noLoopsL (by kernel_rfl)) fun xs hs hx hh hp => by kernel_rfl
theorem okPtA : CSound Try.prog 88 (sPt 113 134 135 65) ∧ CLocal (sPt 113 134 135 65) :=
 pos_sound (L := L0) (C := ctx [(112, sNm 113 134 135)]) (ctx_sound ⟨okNmA, trivial⟩) Try.func88 (by kernel_rfl) (noLoopsL (by kernel_rfl)) fun xs hs hx hh hp => by
  obtain ⟨c, u⟩ := xs
  have hc : c = (65 : Int) := of_decide_eq_true hp
  subst hc
  change _ = _
  kernel_rfl
theorem okPtB : CSound Try.prog 88 (sPt 114 134 135 66) ∧ CLocal (sPt 114 134 135 66) :=
 pos_sound (L := L0) (C := ctx [(112, sNm 114 134 135)]) (ctx_sound ⟨okNmB, trivial⟩) Try.func88 (by kernel_rfl) (noLoopsL (by kernel_rfl)) fun xs hs hx hh hp => by
  obtain ⟨c, u⟩ := xs
  have hc : c = (66 : Int) := of_decide_eq_true hp
  subst hc
  change _ = _
  kernel_rfl
theorem okPtX : CSound Try.prog 88 (sPt 116 136 137 88) ∧ CLocal (sPt 116 136 137 88) :=
 pos_sound (L := L0) (C := ctx [(115, sNm 116 136 137)]) (ctx_sound ⟨okNmX, trivial⟩) Try.func88 (by kernel_rfl) (noLoopsL (by kernel_rfl)) fun xs hs hx hh hp => by
  obtain ⟨c, u⟩ := xs
  have hc : c = (88 : Int) := of_decide_eq_true hp
  subst hc
  change _ = _
  kernel_rfl
theorem okPtY : CSound Try.prog 88 (sPt 117 136 137 89) ∧ CLocal (sPt 117 136 137 89) :=
 pos_sound (L := L0) (C := ctx [(115, sNm 117 136 137)]) (ctx_sound ⟨okNmY, trivial⟩) Try.func88 (by kernel_rfl) (noLoopsL (by kernel_rfl)) fun xs hs hx hh hp => by
  obtain ⟨c, u⟩ := xs
  have hc : c = (89 : Int) := of_decide_eq_true hp
  subst hc
  change _ = _
  kernel_rfl
theorem okPtP : CSound Try.prog 88 (sPt 119 138 139 80) ∧ CLocal (sPt 119 138 139 80) :=
 pos_sound (L := L0) (C := ctx [(118, sNm 119 138 139)]) (ctx_sound ⟨okNmP, trivial⟩) Try.func88 (by kernel_rfl) (noLoopsL (by kernel_rfl)) fun xs hs hx hh hp => by
  obtain ⟨c, u⟩ := xs
  have hc : c = (80 : Int) := of_decide_eq_true hp
  subst hc
  change _ = _
  kernel_rfl
theorem okPtQ : CSound Try.prog 88 (sPt 120 138 139 81) ∧ CLocal (sPt 120 138 139 81) :=
 pos_sound (L := L0) (C := ctx [(118, sNm 120 138 139)]) (ctx_sound ⟨okNmQ, trivial⟩) Try.func88 (by kernel_rfl) (noLoopsL (by kernel_rfl)) fun xs hs hx hh hp => by
  obtain ⟨c, u⟩ := xs
  have hc : c = (81 : Int) := of_decide_eq_true hp
  subst hc
  change _ = _
  kernel_rfl
theorem okPtR : CSound Try.prog 88 (sPt 121 138 139 82) ∧ CLocal (sPt 121 138 139 82) :=
 pos_sound (L := L0) (C := ctx [(118, sNm 121 138 139)]) (ctx_sound ⟨okNmR, trivial⟩) Try.func88 (by kernel_rfl) (noLoopsL (by kernel_rfl)) fun xs hs hx hh hp => by
  obtain ⟨c, u⟩ := xs
  have hc : c = (82 : Int) := of_decide_eq_true hp
  subst hc
  change _ = _
  kernel_rfl
def sParted : CSpec := (.two (selC 65) (sPt 113 134 135 65) (.two (selC 66) (sPt 114 134 135 66) (.two (selC 88) (sPt 116 136 137 88) (.two (selC 89) (sPt 117 136 137 89) (.two (selC 80) (sPt 119 138 139 80) (.two (selC 81) (sPt 120 138 139 81) (sPt 121 138 139 82)))))))
theorem okParted : CSound Try.prog 88 sParted ∧ CLocal sParted := (two_sound _ rfl rfl okPtA (two_sound _ rfl rfl okPtB (two_sound _ rfl rfl okPtX (two_sound _ rfl rfl okPtY (two_sound _ rfl rfl okPtP (two_sound _ rfl rfl okPtQ okPtR))))))
def sGetName : CSpec := (.two (selFn 113) (sNg 113 getA) (sNg 114 getB))
theorem okGetName : CSound Try.prog 134 sGetName ∧ CLocal sGetName := (two_sound _ rfl rfl okNgA okNgB)
def sSetName : CSpec := (.two (selFn 113) (sNs 113 yes1 okA setA) (sNs 114 yes1 okB setB))
theorem okSetName : CSound Try.prog 135 sSetName ∧ CLocal sSetName := (two_sound _ rfl rfl okNsA okNsB)
def sGetWord : CSpec := (.two (selFn 116) (sNg 116 getX) (sNg 117 getY))
theorem okGetWord : CSound Try.prog 136 sGetWord ∧ CLocal sGetWord := (two_sound _ rfl rfl okNgX okNgY)
def sSetWord : CSpec := (.two (selFn 116) (sNs 116 yes1 okX setX) (sNs 117 yes1 okY setY))
theorem okSetWord : CSound Try.prog 137 sSetWord ∧ CLocal sSetWord := (two_sound _ rfl rfl okNsX okNsY)
def sGetBlob : CSpec := (.two (selFn 119) (sNg 119 getP) (.two (selFn 120) (sNg 120 getQ) (sNg 121 getR)))
theorem okGetBlob : CSound Try.prog 138 sGetBlob ∧ CLocal sGetBlob := (two_sound _ rfl rfl okNgP (two_sound _ rfl rfl okNgQ okNgR))
def sSetBlob : CSpec := (.two (selFn 119) (sNs 119 okC okP setP) (.two (selFn 120) (sNs 120 okC okQ setQ) (sNs 121 okC okR setR)))
theorem okSetBlob : CSound Try.prog 139 sSetBlob ∧ CLocal sSetBlob := (two_sound _ rfl rfl okNsP (two_sound _ rfl rfl okNsQ okNsR))
end Go.Proofs.Ytpafadpfpfgfjaa.Nte
end
section
set_option linter.unusedVariables false
namespace Vse
open Go Go.ChangeShapes
def unrollK (body : St → Tr (Ex × St)) : Nat → St → Tr (Ex × St)
 | 0, _ => .fail
 | n + 1, st => (body st).bind fun r => match r.1 with
  | .normal => unrollK body n r.2
  | x => .ret (x, r.2)
section
variable {P : Program} {C : Ctx} {L : Loops}
theorem unrollK_sound {rd : Option Nat} (hC : CtxSound P C ∧ CtxLocal C) {c : Code} (hl : LoopsOK P L c) {n : Nat} {g : G} {st st' : St} {a : Act} {w : World} {x : Ex} {Q : Exit → Act → World → Prop}
  (hs : SRep g st a w) (he : (unrollK (bodyK P C L c) n st).eval = some (x, st')) (hn : ∀ g' a' w', g.le g' → SRep g' st' a' w' → Q x.out a' w') :
  (Code.loop c).wpIn (FW rd) 0 P Q a w := by
 refine wpIn_loop_ghost (fun m a w => ∃ g1 s, g.le g1 ∧ SRep g1 s a w ∧ (unrollK (bodyK P C L c) m s).eval = some (x, st')) n ⟨g, st, G.le.refl g, hs, he⟩ ?_
 rintro m a w ⟨g1, s, hle, hs1, he1⟩
 cases m with
 | zero => exact (Tr.fail_some he1).elim
 | succ m =>
  obtain ⟨r, h1, h2⟩ := Tr.bind_some he1
  obtain ⟨y, s2⟩ := r
  refine code_sound hC.1 hC.2 c hl hs1 (bodyK_ok h1) ?_
  intro g2 a' w' hle2 hs2
  simp only at h2
  cases y with
  | normal => exact ⟨m, Nat.lt_succ_self m, g2, _, hle.trans hle2, hs2, h2⟩
  | exit i =>
   have := Tr.ret_some h2
   simp only [Prod.mk.injEq] at this
   obtain ⟨rfl, rfl⟩ := this
   exact hn _ _ _ (hle.trans hle2) hs2
  | ret =>
   have := Tr.ret_some h2
   simp only [Prod.mk.injEq] at this
   obtain ⟨rfl, rfl⟩ := this
   exact hn _ _ _ (hle.trans hle2) hs2
def runLoopK (P : Program) (C : Ctx) (L : Loops) (n : Nat) (c : Code) (st : St) : Tr (Ex × St) := unrollK (bodyK P C L c) n st
theorem runLoopK_ok {L' : Loops} (hC : CtxSound P C ∧ CtxLocal C) {c : Code} (hl : LoopsOK P L' c) {i n : Nat} (hi : firstReg c = some i) (hL : ∀ st, L i st = runLoopK P C L' n c st) : LoopOK P L c := by
 intro j hj rd g st a w x st' Q hs he hn
 rw [hi] at hj
 cases hj
 rw [hL] at he
 exact unrollK_sound hC hl hs he hn
end
end Vse
end
section
set_option linter.unusedVariables false
set_option linter.unusedSimpArgs false
set_option maxRecDepth 100000
namespace Go.Proofs.Ytpafadpfpfgfjaa.Nte
open Go Vse Go.Proofs Gen
open Kdc (w16 tN Nt zero16 note0 e0 all16 nameF hasF lHas w_succ inArr_of getD_of)
abbrev nHa : PSpec := ⟨[i64], [.str], [], [], []⟩
def sHa (k : Int) (s : ByteArray) : CSpec := .pos nHa (fun xs _ => decide (xs.1 = k)) fun xs _ => ((s, ()), ())
def THa (k : Int) : Tr nHa.Out := .ite (decide (k < 1)) (.ret ((e0, ()), ())) (.ite (decide (k > 16)) (.ret ((e0, ()), ())) (.chk (inArr k lHas.length) (.ret ((lHas.getD k.toNat e0, ()), ()))))
theorem tHa (k : Int) : (fnP Try.prog (ctx []) L0 nHa Try.f87 (k, ()) ()).eval = (THa k).eval := by kernel_rfl
theorem THa_eq (k : Int) : (THa k).eval = some ((hasF k, ()), ()) := by
 unfold THa hasF
 have e : (lHas.length : Int) = 17 := by decide
 by_cases h1 : k < 1
 ·rw [ite_t (decide_eq_true h1), if_pos h1]; rfl
 ·rw [ite_f (decide_eq_false h1), if_neg h1, e]
  by_cases h2 : (17 : Int) ≤ k
  ·rw [ite_t (decide_eq_true (by omega)), if_pos h2]; rfl
  ·rw [ite_f (decide_eq_false (by omega)), if_neg h2, chk_eval (by simp only [inArr, Bool.and_eq_true, decide_eq_true_eq]; omega)]; rfl
theorem okHa (k : Int) : CSound Try.prog 87 (sHa k (hasF k)) ∧ CLocal (sHa k (hasF k)) :=
 pos_sound (L := L0) nil_sound Try.func87 (by kernel_rfl) (noLoopsL (by kernel_rfl)) fun xs hs hx hh hp => by
  have hk : xs.1 = k := of_decide_eq_true hp
  rw [← hk]
  exact (tHa xs.1).trans (THa_eq xs.1)
theorem has_mem (k : Int) : hasF k ∈ lHas := by
 have h0 : e0 ∈ lHas := List.mem_cons_self
 unfold hasF
 split
 ·exact h0
 split
 ·exact h0
 ·rename_i h1 h2
  have : k.toNat < lHas.length := by omega
  rw [getD_of this]
  exact List.getElem_mem this
abbrev nPs : PSpec := ⟨[tN], [Gen.lt], [], [], []⟩
def kPs : Cut := ⟨0, [.box tN], [], [1], [iN], [.dead], 21⟩
noncomputable def bPs : Code := loopAt Try.f58 0
def cPs (k : Int) (s : ByteArray) : List (Nat × CSpec) := [(87, sHa k s), (88, sParted), (134, sGetName), (136, sGetWord), (138, sGetBlob)]
noncomputable def LPs (k : Int) (s : ByteArray) : Loops := fun j st => if j = 3 then runLoopK Try.prog (ctx (cPs k s)) L0 6 bPs st else .fail
def getF (n : Nt) (c : Int) : List Int := if c = 65 then getA n else if c = 66 then getB n else if c = 88 then getX n else if c = 89 then getY n else if c = 80 then getP n else if c = 81 then getQ n else getR n
def partsN (n : Nt) : List (List Int) := (strBytes (hasF n.1)).map (getF n)
def TPs (s : ByteArray) (n : Nt) (k : Int) : Tr nPs.Out := .chk (decide (n.1 = k)) (.ret (((strBytes s).map (getF n), ()), ()))
noncomputable abbrev runPs (k : Int) (s : ByteArray) : St → Tr (Ex × St) := runCut Try.prog (ctx (cPs k s)) (LPs k s) kPs 0 (bodyOf Try.f58)
def QPs (s : ByteArray) : Prop := ∀ (k : Int) (n : Nt), (fnPX Try.prog (runPs k s) nPs Try.f58 (n, ()) ()).eval = (TPs s n k).eval
theorem qPs0 : QPs ⟨#[]⟩ := fun k n => by kernel_rfl
theorem qPs1 : QPs ⟨#[65, 88]⟩ := fun k n => by kernel_rfl
theorem qPs2 : QPs ⟨#[66, 80, 89]⟩ := fun k n => by kernel_rfl
theorem qPs3 : QPs ⟨#[80, 81, 89]⟩ := fun k n => by kernel_rfl
theorem qPs4 : QPs ⟨#[81, 80]⟩ := fun k n => by kernel_rfl
theorem qPs5 : QPs ⟨#[80]⟩ := fun k n => by kernel_rfl
theorem qPs6 : QPs ⟨#[65, 88, 66, 89]⟩ := fun k n => by kernel_rfl
theorem qPs7 : QPs ⟨#[80, 81]⟩ := fun k n => by kernel_rfl
theorem qPs8 : QPs ⟨#[80, 81, 82, 89]⟩ := fun k n => by kernel_rfl
theorem qPs9 : QPs ⟨#[81, 88]⟩ := fun k n => by kernel_rfl
theorem qPs10 : QPs ⟨#[89, 80]⟩ := fun k n => by kernel_rfl
theorem qPs11 : QPs ⟨#[65]⟩ := fun k n => by kernel_rfl
theorem qPs : ∀ s ∈ lHas, QPs s := fun s hs => by
 unfold lHas at hs
 simp only [List.mem_cons, List.not_mem_nil, or_false] at hs
 rcases hs with rfl | rfl | rfl | rfl | rfl | rfl | rfl | rfl | rfl | rfl | rfl | rfl | rfl | rfl | rfl | rfl | rfl
 ·exact qPs0
 ·exact qPs1
 ·exact qPs2
 ·exact qPs3
 ·exact qPs4
 ·exact qPs5
 ·exact qPs1
 ·exact qPs6
 ·exact qPs7
 ·exact qPs8
 ·exact qPs5
 ·exact qPs9
 ·exact qPs10
 ·exact qPs5
 ·exact qPs1
 ·exact qPs5
 ·exact qPs11
def kindOf : List AV → Int
 | [.v (.prod (.int .i64) _) x] => x.1
 | _ => 0
theorem cPs_sound (k : Int) : CtxSound Try.prog (ctx (cPs k (hasF k))) ∧ CtxLocal (ctx (cPs k (hasF k))) := ctx_sound ⟨okHa k, okParted, okGetName, okGetWord, okGetBlob, trivial⟩
theorem lPs (k : Int) : LoopOK Try.prog (LPs k (hasF k)) bPs := runLoopK_ok (L' := L0) (n := 6) (cPs_sound k) (loopsOK_of (by kernel_rfl)) (i := 3) (by kernel_rfl) (fun _ => rfl)
theorem loops_Ps : loopsOf (bodyOf Try.f58) = [bPs] := by kernel_rfl
def sPs (f : Nt → List (List Int)) : CSpec := .pos nPs (fun _ _ => true) fun xs _ => ((f xs.1, ()), ())
theorem okPs : CSound Try.prog 58 (sPs partsN) ∧ CLocal (sPs partsN) :=
 pos_soundX (fnX := fun vs H => fnTX Try.prog (runPs (kindOf vs) (hasF (kindOf vs))) Try.f58 vs H) (fun args w => callFunc_enter Try.func58 (by kernel_rfl) (c := bodyOf Try.f58) (by kernel_rfl) args w)
  (fun {g H H' w vs rvs v} hI hargs he => fn_soundX Try.func58 (c := bodyOf Try.f58) (by kernel_rfl) (runCut_ok (cPs_sound (kindOf vs)) kPs 0 _ (loopsOK_all fun b hb => by
   rw [loops_Ps, List.mem_singleton] at hb
   subst hb
   exact lPs (kindOf vs))) hI hargs he)
  fun xs hs hx hh hp => by
   obtain ⟨n, u⟩ := xs
   refine (qPs (hasF n.1) (has_mem n.1) n.1 n).trans ?_
   unfold TPs
   rw [chk_eval (decide_eq_true rfl)]
   rfl
abbrev nMd : PSpec := ⟨[i64, Gen.ls], [tN, .bool], [], [], []⟩
noncomputable def bMd : Code := loopAt Try.f59 0
def cMd (k : Int) (s : ByteArray) : List (Nat × CSpec) := [(87, sHa k s), (88, sParted), (135, sSetName), (137, sSetWord), (139, sSetBlob)]
noncomputable def LMd (k : Int) (s : ByteArray) : Loops := fun j st => if j = 6 then runLoopK Try.prog (ctx (cMd k s)) L0 6 bMd st else .fail
def okF (c : Int) (b : List Int) : Bool := if c = 65 then okA b else if c = 66 then okB b else if c = 88 then okX b else if c = 89 then okY b else true
def preF (c : Int) (b : List Int) : Bool := if c = 65 then true else if c = 66 then true else if c = 88 then true else if c = 89 then true else okC b
def setF (n : Nt) (c : Int) (b : List Int) : Nt := if c = 65 then setA n b else if c = 66 then setB n b else if c = 88 then setX n b else if c = 89 then setY n b else if c = 80 then setP n b else if c = 81 then setQ n b else setR n b
def TMs : List Int → Nat → Nt → List (List Int) → Tr nMd.Out
 | [], _, n, _ => .ret ((n, true, ()), ())
 | c :: cs, i, n, l => .chk (inArr (i : Int) l.length) (.chk (preF c (l.getD i [])) (.ite (!okF c (l.getD i [])) (.ret ((note0, false, ()), ())) (TMs cs (i + 1) (setF n c (l.getD i [])) l)))
def no0 (k : Int) : Nt := (k, e0, e0, zero16, zero16, [], [], [], ())
def TMd (s : ByteArray) (j : Int) (l : List (List Int)) (k : Int) : Tr nMd.Out := .chk (decide (j = k)) (.ite (s == e0) (.ret ((note0, false, ()), ())) (.ite (!decide ((l.length : Int) = (s.size : Int))) (.ret ((note0, false, ()), ())) (TMs (strBytes s) 0 (no0 j) l)))
def QMd (s : ByteArray) : Prop := ∀ (k : Int) (j : Int) (l : List (List Int)), (fnP Try.prog (ctx (cMd k s)) (LMd k s) nMd Try.f59 (j, l, ()) ()).eval = (TMd s j l k).eval
theorem qMd0 : QMd ⟨#[]⟩ := fun k j l => by kernel_rfl
theorem qMd1 : QMd ⟨#[65, 88]⟩ := fun k j l => by kernel_rfl
theorem qMd2 : QMd ⟨#[66, 80, 89]⟩ := fun k j l => by kernel_rfl
theorem qMd3 : QMd ⟨#[80, 81, 89]⟩ := fun k j l => by kernel_rfl
theorem qMd4 : QMd ⟨#[81, 80]⟩ := fun k j l => by kernel_rfl
theorem qMd5 : QMd ⟨#[80]⟩ := fun k j l => by kernel_rfl
theorem qMd6 : QMd ⟨#[65, 88, 66, 89]⟩ := fun k j l => by kernel_rfl
theorem qMd7 : QMd ⟨#[80, 81]⟩ := fun k j l => by kernel_rfl
theorem qMd8 : QMd ⟨#[80, 81, 82, 89]⟩ := fun k j l => by kernel_rfl
theorem qMd9 : QMd ⟨#[81, 88]⟩ := fun k j l => by kernel_rfl
theorem qMd10 : QMd ⟨#[89, 80]⟩ := fun k j l => by kernel_rfl
theorem qMd11 : QMd ⟨#[65]⟩ := fun k j l => by kernel_rfl
theorem qMd : ∀ s ∈ lHas, QMd s := fun s hs => by
 unfold lHas at hs
 simp only [List.mem_cons, List.not_mem_nil, or_false] at hs
 rcases hs with rfl | rfl | rfl | rfl | rfl | rfl | rfl | rfl | rfl | rfl | rfl | rfl | rfl | rfl | rfl | rfl | rfl
 ·exact qMd0
 ·exact qMd1
 ·exact qMd2
 ·exact qMd3
 ·exact qMd4
 ·exact qMd5
 ·exact qMd1
 ·exact qMd6
 ·exact qMd7
 ·exact qMd8
 ·exact qMd5
 ·exact qMd9
 ·exact qMd10
 ·exact qMd5
 ·exact qMd1
 ·exact qMd5
 ·exact qMd11
end Go.Proofs.Ytpafadpfpfgfjaa.Nte
end
section
set_option linter.unusedVariables false
set_option linter.unusedSimpArgs false
set_option maxRecDepth 100000
namespace Go.Proofs.Ytpafadpfpfgfjaa.Kdc
open Go Vse Go.Proofs Gen
open Fld (putI splitI hd1 hd2 preB encL)
open Seal (sealF openF strP Bytes badL)
open Ctr (B16)
theorem bytesStr_snoc (l : List Int) (x : Int) : bytesStr (l ++ [x]) = (bytesStr l).push (UInt8.ofNat x.toNat) := by unfold bytesStr; rw [List.foldl_append]; rfl
theorem strBytes_push (s : ByteArray) (c : UInt8) : strBytes (s.push c) = strBytes s ++ [(c.toNat : Int)] := by
 unfold strBytes
 rw [ByteArray.data_push, Array.toList_push, List.map_append]
 rfl
theorem strBytes_of (l : List Int) (h : Bytes l) : strBytes (bytesStr l) = l := by
 rw [← List.reverse_reverse l] at h ⊢
 generalize l.reverse = r at h ⊢
 induction r with
 | nil => rfl
 | cons x r ih =>
  rw [List.reverse_cons] at h ⊢
  have hx := h x (by simp)
  rw [bytesStr_snoc, strBytes_push, ih fun y hy => h y (List.mem_append_left _ hy)]
  have e : ((UInt8.ofNat x.toNat).toNat : Int) = x := by
   rw [UInt8.toNat_ofNat']
   omega
  rw [e]
theorem strBytes_bytes (s : ByteArray) : Bytes (strBytes s) := fun x hx => by
 unfold strBytes at hx
 obtain ⟨c, _, rfl⟩ := List.mem_map.1 hx
 have := c.toNat_lt
 omega
theorem encL_bytes : ∀ {l : List (List Int)} {b : List Int}, encL l = b → Bytes b → ∀ p ∈ l, Bytes p
 | [], _, _, _, p, hp => by cases hp
 | q :: l, b, e, hb, p, hp => by
  have e : hd1 q ++ q ++ encL l = b := e
  rcases List.mem_cons.1 hp with rfl | hp
  ·intro x hx; exact hb x (by rw [← e]; simp [hx])
  ·exact encL_bytes (l := l) rfl (fun x hx => hb x (by rw [← e]; simp [hx])) p hp
theorem split_bytes {b : List Int} {r : List (List Int)} (hb : Bytes b) (h : splitI b = (r, 0, ())) : ∀ p ∈ r, Bytes p := by
 unfold splitI at h
 cases hs : Fld.splitG (b.length + 1) b [] with
 | mk c r' =>
  rw [hs] at h
  simp only at h
  by_cases hc : c = 0
  ·subst hc
   simp only [decide_true, cond_true, Prod.mk.injEq, and_true] at h
   subst h
   obtain ⟨l, h1, h2, h3, h4⟩ := Fld.enc_split _ b [] r' hb (by omega) (by simp) hs
   simp only [List.nil_append] at h1
   subst h1
   exact encL_bytes h2 hb
  ·rw [decide_eq_false hc] at h
   simp only [cond_false, Prod.mk.injEq] at h
   exact absurd h.2.1 hc
theorem open_bytes {key b : List Int} {s : ByteArray} (hb : Bytes b) : Bytes (openF key s b).1 := by
 unfold openF Seal.withF
 split
 ·intro x hx; cases hx
 ·dsimp only
  unfold Seal.openK
  split
  ·intro x hx; cases hx
  ·split
   ·intro x hx; cases hx
   ·split
    ·rename_i h1 h2 _
     have hf : ((b.take (b.length - 32)).drop 16).length ≤ 1000000 := by rw [List.length_drop, List.length_take]; omega
     have ha : B16 (b.take 16) := ⟨Seal.bytes_take hb 16, by rw [List.length_take]; omega⟩
     show Bytes (Ctr.flX _ _ _)
     rw [Ctr.flX_eq ha hf]
     exact Seal.flip_bytes (Seal.hide_b16 _ _) ha (Seal.bytes_drop (Seal.bytes_take hb _) 16)
    ·intro x hx; cases hx
theorem parts_len {O : Of} {Q : Qf} {key : List Int} {s : ByteArray} {b : List Int} {many : Int} (h : (partsG O Q key s b many).2.1 = 0) : ((partsG O Q key s b many).1.length : Int) = many := by
 unfold partsG at h ⊢
 split at h
 ·split at h
  ·rename_i h1 h2
   rw [if_pos h1, if_pos h2]
   exact h2.2
  ·exact absurd h (by decide)
 ·rename_i h1
  exact absurd h h1
theorem parts_bytes {key : List Int} {s : ByteArray} {b : List Int} (hb : Bytes b) (many : Int) : ∀ p ∈ (partsF key s b many).1, Bytes p := by
 show ∀ p ∈ (partsG _ _ _ _ _ _).1, Bytes p
 unfold partsG
 split
 ·split
  ·rename_i h1 h2
   obtain ⟨h2, _⟩ := h2
   refine split_bytes (open_bytes (key := key) (s := s) hb) ?_
   exact Prod.ext rfl (Prod.ext h2 rfl)
  ·intro p hp; cases hp
 ·intro p hp; cases hp
theorem put_bytes {l : List (List Int)} (h : ∀ p ∈ l, Bytes p) : Bytes (putF l).1 := putF_bytes h
theorem encL_put {l : List (List Int)} (h20 : l.length ≤ 20) (h5 : ∀ p ∈ l, p.length ≤ 500) : putF l = (encL l, 0, ()) := by
 show putI hd1 l = _
 unfold Fld.putI
 rw [decide_eq_false (show ¬ (l.length : Int) > 20 by omega), Fld.putG_enc l [] h5]
 simp
theorem parts_sealed {key first : List Int} {s : ByteArray} {l : List (List Int)} (hs : ¬ badL s) (hf : B16 first) (hb : ∀ p ∈ l, Bytes p) (h20 : l.length ≤ 20) (h5 : ∀ p ∈ l, p.length ≤ 500)
  (hl : (encL l).length ≤ 1000) (many : Int) (hm : (l.length : Int) = many) : partsF key s (sealedF key s first l) many = (l, 0, ()) ∧ (sealedF key s first l).length = 48 + (encL l).length := by
 have e1 := encL_put h20 h5
 have hB : Bytes (encL l) := by have := put_bytes hb; rw [e1] at this; exact this
 have e2 : sealF key s first (encL l) = ((first ++ Ctr.flX (Seal.hideF key s) first (encL l)) ++ Mac.macF (Seal.codeF key s) (first ++ Ctr.flX (Seal.hideF key s) first (encL l)), 0, ()) := by
  unfold sealF Seal.withF Seal.sealK; rw [if_neg hs]; dsimp only; rw [if_neg (by omega)]
 have e3 : sealedF key s first l = (first ++ Ctr.flX (Seal.hideF key s) first (encL l)) ++ Mac.macF (Seal.codeF key s) (first ++ Ctr.flX (Seal.hideF key s) first (encL l)) := by
  show sealedG putF sealF _ _ _ _ = _
  unfold sealedG
  rw [e1]
  dsimp only
  rw [e2, if_pos rfl, if_pos rfl]
 have e4 : openF key s (sealedF key s first l) = (encL l, 0, ()) := by
  rw [e3]
  unfold openF Seal.withF
  rw [if_neg hs]
  exact Seal.open_seal (Seal.hide_b16 _ _) hf hB hl
 have e5 : splF (encL l) = (l, 0, ()) := Fld.put_split e1
 constructor
 ·show partsG openF splF _ _ _ _ = _
  unfold partsG
  rw [e4, if_pos rfl]
  dsimp only
  rw [e5, if_pos ⟨rfl, hm⟩]
 ·rw [e3, List.length_append, List.length_append, Seal.flX_len hf (by omega), Mac.macF_len, hf.2]; omega
def askF (b : Bk) (n : Nt) : Ask × Int :=
 if (keyF b n.2.2.1).2 = false then (ask0, 4) else
 if (partsF (keyF b n.2.2.1).1 sNs2 n.2.2.2.2.2.1 3).2.1 ≠ 0 then (ask0, (partsF (keyF b n.2.2.1).1 sNs2 n.2.2.2.2.2.1 3).2.1) else
 if nameF (bytesStr ((lOf keyF partsF b n).getD 0 [])) = false then (ask0, 3) else
 if ((lOf keyF partsF b n).getD 1 []).length ≠ 16 then (ask0, 3) else
 if ((lOf keyF partsF b n).getD 2 []).length ≠ 8 then (ask0, 3) else
 if (bytesStr ((lOf keyF partsF b n).getD 0 []) == n.2.2.1) = true then (ask0, 1) else
 if (keyF b (bytesStr ((lOf keyF partsF b n).getD 0 []))).2 = false then (ask0, 4) else
 ((bytesStr ((lOf keyF partsF b n).getD 0 []), (lOf keyF partsF b n).getD 1 [], (lOf keyF partsF b n).getD 2 [], (keyF b (bytesStr ((lOf keyF partsF b n).getD 0 []))).1, (keyF b n.2.2.1).1, ()), 0)
abbrev wordF (a : List Int) : List Int × Int × Unit := Fld.wordI a
abbrev takeF (a : List Int) : Int × Int × Unit := bif decide (List.length (α := Int) a = 8) then (Fld.take1 a, 0, ()) else (0, 3, ())
theorem TAs_eq (b : Bk) (n : Nt) : (TAs keyF partsF wordF takeF nameF b n).eval = some (((askF b n).1, (askF b n).2, ()), ()) := by
 unfold TAs askF
 by_cases h1 : (keyF b n.2.2.1).2 = false
 ·rw [if_pos h1, ite_t (by rw [h1]; rfl)]; rfl
 rw [if_neg h1, ite_f (by simpa using h1)]
 by_cases h2 : (partsF (keyF b n.2.2.1).1 sNs2 n.2.2.2.2.2.1 3).2.1 = 0
 case neg => rw [if_pos h2, ite_t (by simpa using h2)]; rfl
 have hl : ((lOf keyF partsF b n).length : Int) = 3 := parts_len h2
 rw [if_neg (by simpa using h2), ite_f (by simpa using h2)]
 show (Tr.chk (inArr 0 (lOf keyF partsF b n).length) (Tr.chk (inArr 1 (lOf keyF partsF b n).length) (Tr.chk (inArr 2 (lOf keyF partsF b n).length) _))).eval = _
 rw [chk_eval (by simp only [inArr, Bool.and_eq_true, decide_eq_true_eq]; omega), chk_eval (by simp only [inArr, Bool.and_eq_true, decide_eq_true_eq]; omega), chk_eval (by simp only [inArr, Bool.and_eq_true, decide_eq_true_eq]; omega)]
 show (Tr.ite (!nameF (bytesStr ((lOf keyF partsF b n).getD 0 []))) _ (Tr.ite ((wordF ((lOf keyF partsF b n).getD 1 [])).2.1 != 0) _ (Tr.ite ((takeF ((lOf keyF partsF b n).getD 2 [])).2.1 != 0) _ (Tr.ite (bytesStr ((lOf keyF partsF b n).getD 0 []) == n.2.2.1) _ (Tr.ite (!(keyF b (bytesStr ((lOf keyF partsF b n).getD 0 []))).2) _ _))))).eval = _
 by_cases h3 : nameF (bytesStr ((lOf keyF partsF b n).getD 0 [])) = false
 ·rw [if_pos h3, ite_t (by rw [h3]; rfl)]; rfl
 rw [if_neg h3, ite_f (by simpa using h3)]
 by_cases h4 : ((lOf keyF partsF b n).getD 1 []).length = 16
 case neg => rw [if_pos h4, ite_t (by unfold wordF Fld.wordI; rw [decide_eq_false h4]; rfl)]; rfl
 rw [if_neg (by simpa using h4), ite_f (by unfold wordF Fld.wordI; rw [decide_eq_true h4]; rfl)]
 by_cases h5 : ((lOf keyF partsF b n).getD 2 []).length = 8
 case neg => rw [if_pos h5, ite_t (by unfold takeF; rw [decide_eq_false h5]; rfl)]; rfl
 rw [if_neg (by simpa using h5), ite_f (by unfold takeF; rw [decide_eq_true h5]; rfl)]
 by_cases h6 : (bytesStr ((lOf keyF partsF b n).getD 0 []) == n.2.2.1) = true
 ·rw [if_pos h6, ite_t h6]; rfl
 rw [if_neg h6, ite_f (by simpa using h6)]
 by_cases h7 : (keyF b (bytesStr ((lOf keyF partsF b n).getD 0 []))).2 = false
 ·rw [if_pos h7, ite_t (by rw [h7]; rfl)]; rfl
 rw [if_neg h7, ite_f (by simpa using h7)]
 rfl
end Go.Proofs.Ytpafadpfpfgfjaa.Kdc
end
section
set_option linter.unusedVariables false
set_option linter.unusedSimpArgs false
set_option maxRecDepth 100000
namespace Go.Proofs.Ytpafadpfpfgfjaa.Kdc
open Go Vse Go.Proofs Gen
open Fld (putI splitI hd1 hd2 preB encL)
open Seal (sealF openF strP Bytes badL)
open Ctr (B16)
abbrev Ds := List (List Int)
def ansG (A : Af) (K : Kf) (F : Sdf) (b : Bk) (n : Nt) (d : Ds) : ByteArray × Nt × Int :=
 if n.1 = 2 then
  if (A b n).2 ≠ 0 then (e0, note0, (A b n).2) else
  ((A b n).1.1, (3, e0, e0, zero16, n.2.2.2.2.1, F (A b n).1.2.2.2.1 sNs3 (d.getD 1 []) [strBytes n.2.2.1, (A b n).1.2.1, all16 (d.getD 0 []), (A b n).1.2.2.1],
   F (A b n).1.2.2.2.2.1 sNst (d.getD 2 []) [strBytes (A b n).1.1, all16 (d.getD 0 []), (A b n).1.2.2.1], [], ()), 0)
 else if n.1 = 7 then
  if (n.2.1 == n.2.2.1) = true then (e0, note0, 1) else if (K b n.2.1).2 = false ∨ (K b n.2.2.1).2 = false then (e0, note0, 4) else
  (n.2.2.1, (8, e0, e0, zero16, zero16, F (K b n.2.2.1).1 sK3b (d.getD 1 []) [all16 n.2.2.2.2.1, strBytes n.2.1, all16 (d.getD 0 [])],
   F (K b n.2.1).1 sK3a (d.getD 2 []) [all16 n.2.2.2.1, strBytes n.2.2.1, all16 (d.getD 0 [])], [], ()), 0)
 else (e0, note0, 13)
def ansF := ansG askF keyF sealedF
abbrev outA (x : ByteArray × Nt × Int) : nAw.Out := ((x.1, x.2.1, x.2.2, ()), ())
theorem TAw_eq (A : Af) (K : Kf) (F : Sdf) (b : Bk) (n : Nt) (d : Ds) : (TAw A K F F b n d).eval = some (outA (ansG A K F b n d)) := by
 unfold TAw ansG
 by_cases h1 : n.1 = 2
 ·rw [if_pos h1, ite_t (by simpa using h1)]
  by_cases h2 : (A b n).2 = 0
  ·rw [if_neg (by simpa using h2), ite_f (by simpa using h2)]; rfl
  ·rw [if_pos h2, ite_t (by simpa using h2)]; rfl
 rw [if_neg h1, ite_f (by simpa using h1)]
 by_cases h2 : n.1 = 7
 ·rw [if_pos h2, ite_t (by simpa using h2)]
  by_cases h3 : (n.2.1 == n.2.2.1) = true
  ·rw [if_pos h3, ite_t h3]; rfl
  rw [if_neg h3, ite_f (by simpa using h3)]
  cases h4 : (K b n.2.1).2 with
  | false => rw [if_pos (.inl rfl), ite_t (show (!false) = true from rfl)]; rfl
  | true =>
   rw [ite_f (show (!true) = false from rfl)]
   cases h5 : (K b n.2.2.1).2 with
   | false => rw [if_pos (.inr rfl), ite_t (show (!false) = true from rfl)]; rfl
   | true => rw [if_neg (by simp), ite_f (show (!true) = false from rfl)]; rfl
 ·rw [if_neg h2, ite_f (by simpa using h2)]; rfl
def sAw (f : Bk → Nt → Ds → ByteArray × Nt × Int) : CSpec := .pos nAw (fun _ _ => true) fun xs _ => outA (f xs.1 xs.2.1 xs.2.2.1)
theorem okAs : CSound Try.prog 57 (sAs askF) ∧ CLocal (sAs askF) :=
 pos_sound (L := L0) (C := ctx (cAs keyF partsF wordF takeF nameF)) (ctx_sound ⟨okKy, okPt, Fld.ok31, Fld.ok29, Fld.ok36, trivial⟩) Try.func57 (by kernel_rfl) (noLoopsL (by kernel_rfl)) fun xs hs hx hh hp => by
  obtain ⟨b, n, u⟩ := xs
  exact (tAs keyF partsF wordF takeF nameF b n).trans (TAs_eq b n)
theorem okC1 : CSound Try.prog 55 (sC 1 sealedF) ∧ CLocal (sC 1 sealedF) :=
 pos_sound (L := L0) (C := ctx [(45, sSd sealedF)]) (ctx_sound ⟨okSd, trivial⟩) Try.func55 (by kernel_rfl) (noLoopsL (by kernel_rfl)) fun xs hs hx hh hp => by
  obtain ⟨key, s, l, d, u⟩ := xs
  exact tC1 sealedF key s l d
theorem okC2 : CSound Try.prog 56 (sC 2 sealedF) ∧ CLocal (sC 2 sealedF) :=
 pos_sound (L := L0) (C := ctx [(45, sSd sealedF)]) (ctx_sound ⟨okSd, trivial⟩) Try.func56 (by kernel_rfl) (noLoopsL (by kernel_rfl)) fun xs hs hx hh hp => by
  obtain ⟨key, s, l, d, u⟩ := xs
  exact tC2 sealedF key s l d
theorem okAw : CSound Try.prog 22 (sAw ansF) ∧ CLocal (sAw ansF) :=
 pos_cut (L := L0) (C := ctx (cAw askF keyF sealedF sealedF)) (ctx_sound ⟨okAs, okKy, okC1, okC2, trivial⟩) kAw Try.func22 (c := bodyOf Try.f22) (by kernel_rfl) (by kernel_rfl) (noLoopsL (by kernel_rfl)) fun xs hs hx hh hp => by
  obtain ⟨b, n, d, u⟩ := xs
  exact (tAw askF keyF sealedF sealedF b n d).trans (TAw_eq askF keyF sealedF b n d)
end Go.Proofs.Ytpafadpfpfgfjaa.Kdc
end
section
set_option linter.unusedVariables false
set_option linter.unusedSimpArgs false
set_option maxRecDepth 100000
namespace Go.Proofs.Ytpafadpfpfgfjaa.Kdc
open Go Vse Go.Proofs Gen
abbrev Anf := Bk → Nt → Ds → ByteArray × Nt × Int
def cAk2 (A : Anf) (R : Rf) (S : Sdf) : List (Nat × CSpec) := [(22, sAw A), (25, sPt R), (45, sSd S)]
abbrev nAk : PSpec := ⟨[], [.bool], [], [], []⟩
abbrev nSl : PSpec := ⟨[tB, tN], [.bool], [], [], []⟩
def kAk : Cut := ⟨1, [.vec 0 tEnt, .box tB], [], [0, 1], [.bool, .ptr 1 []], [.dead, .box tB], 99⟩
def b16k (x : Int) : List Int := (List.replicate 16 0).set 0 x
def bk2 : Bk := ([(⟨#[97, 110, 110]⟩, b16k 1, ()), (⟨#[98, 111, 98]⟩, b16k 2, ())], [], 0, zero16, ())
noncomputable abbrev bAk2 : Code := bodyOf Try.f20
theorem hAk (A : Anf) (R : Rf) (S : Sdf) : (hdC Try.prog (ctx (cAk2 A R S)) L0 nAk Try.f20 kAk bAk2 (begin_ Try.f20 [] [])).eval = some (.inl ((false, (), ()), (bk2, ()))) := by kernel_rfl
abbrev stAk : St := encS [0, 1] [.bool, .ptr 1 []] [.dead, .box tB] 99 (false, (), ()) (bk2, ())
abbrev sAnn : ByteArray := ⟨#[97, 110, 110]⟩
abbrev sBob : ByteArray := ⟨#[98, 111, 98]⟩
abbrev sX : ByteArray := ⟨#[120]⟩
def z3 : Ds := List.replicate 3 zero16
def n7 : Nt := (7, sAnn, sBob, b16k 3, b16k 4, [], [], [], ())
def n5 : Nt := (5, e0, e0, zero16, zero16, [], [], [], ())
def d567 : Ds := ((z3.set 0 (b16k 5)).set 1 (b16k 6)).set 2 (b16k 7)
def aNo : nAk.Out := ((false, ()), ())
def TAwk (A : Anf) (R : Rf) (S : Sdf) : Tr nAk.Out :=
 .ite ((A bk2 n7 d567).1 == sBob) (.ite ((A bk2 n7 d567).2.1.1 == 8) (.ite ((A bk2 n7 d567).2.2 == 0)
  (.ite ((R (b16k 2) sK3b (A bk2 n7 d567).2.1.2.2.2.2.2.1 3).2.1 == 0) (.ite (((R (b16k 2) sK3b (A bk2 n7 d567).2.1.2.2.2.2.2.1 3).1.length : Int) == 3)
   (.chk (inArr 1 (R (b16k 2) sK3b (A bk2 n7 d567).2.1.2.2.2.2.2.1 3).1.length) (.ite (bytesStr ((R (b16k 2) sK3b (A bk2 n7 d567).2.1.2.2.2.2.2.1 3).1.getD 1 []) == sAnn)
    (.ite ((A bk2 n5 z3).2.2 == 13) (.ite ((R (b16k 1) sX (S (b16k 1) sX (b16k 2) [[97], []]) 2).2.1 == 0) (.ret (((((R (b16k 1) sX (S (b16k 1) sX (b16k 2) [[97], []]) 2).1.length : Int) == 2 : Bool), ()), ()))
     (.ret aNo)) (.ret aNo)) (.ret aNo))) (.ret aNo)) (.ret aNo)) (.ret aNo)) (.ret aNo)) (.ret aNo)
theorem tAwk (A : Anf) (R : Rf) (S : Sdf) : (stC Try.prog (ctx (cAk2 A R S)) L0 nAk Try.f20 [] (restC 1 bAk2) stAk).eval = (TAwk A R S).eval := by kernel_rfl
def TSl (f g : Nt → Bool) (b : Bk) (n : Nt) : Tr nSl.Out :=
 .ite (decide ((b.1.length : Int) ≤ 60)) (.ite (decide ((b.2.1.length : Int) ≤ 60)) (.ite (f n) (.ret ((g n, ()), ())) (.ret ((false, ()), ()))) (.ret ((false, ()), ()))) (.ret ((false, ()), ()))
theorem tSl (f g : Nt → Bool) (b : Bk) (n : Nt) : (fnP Try.prog (ctx [(35, sNB f), (41, sNB g)]) L0 nSl Try.f21 (b, n, ()) ()).eval = (TSl f g b n).eval := by kernel_rfl
def sUp (f : Bool) : CSpec := .pos nAk (fun _ _ => true) fun _ _ => ((f, ()), ())
def sSl (f : Bk → Nt → Bool) : CSpec := .pos nSl (fun _ _ => true) fun xs _ => ((f xs.1 xs.2.1, ()), ())
def sSa (f : Nt → Nt → Bool) : CSpec := .pos nSa (fun _ _ => true) fun xs _ => ((f xs.1 xs.2.1, ()), ())
end Go.Proofs.Ytpafadpfpfgfjaa.Kdc
end
section
set_option linter.unusedVariables false
set_option linter.unusedSimpArgs false
set_option maxRecDepth 100000
namespace Go.Proofs.Ytpafadpfpfgfjaa.Kdc
open Go Vse Go.Proofs Gen
open Fld (putI splitI hd1 hd2 preB encL)
open Seal (sealF openF strP Bytes badL)
open Ctr (B16)
theorem good_sK3b : ¬ badL sK3b := by
 rintro (h | h)
 ·exact absurd h (by decide)
 ·exact absurd h (by decide)
theorem good_sX : ¬ badL sX := by
 rintro (h | h)
 ·exact absurd h (by decide)
 ·exact absurd h (by decide)
theorem b16k_b16 (x : Int) (h : 0 ≤ x ∧ x < 256) : B16 (b16k x) := by
 refine ⟨fun y hy => ?_, by simp [b16k]⟩
 unfold b16k at hy
 rcases List.mem_or_eq_of_mem_set hy with hy | rfl
 ·have := List.eq_of_mem_replicate hy; omega
 ·exact h
abbrev P7 : List (List Int) := [all16 (b16k 4), strBytes sAnn, all16 (b16k 5)]
theorem ans7 : ansF bk2 n7 d567 = (sBob, (8, e0, e0, zero16, zero16, sealedF (b16k 2) sK3b (b16k 6) P7, sealedF (b16k 1) sK3a (b16k 7) [all16 (b16k 3), strBytes sBob, all16 (b16k 5)], [], ()), 0) := by
 unfold ansF ansG
 rw [if_neg (by decide), if_pos (by decide), if_neg (by decide), if_neg (by decide)]
 rfl
theorem ans5 : (ansF bk2 n5 z3).2.2 = 13 := by
 unfold ansF ansG
 rw [if_neg (by decide), if_neg (by decide)]
theorem parts7 : partsF (b16k 2) sK3b (sealedF (b16k 2) sK3b (b16k 6) P7) 3 = (P7, 0, ()) :=
 (parts_sealed (l := P7) good_sK3b (b16k_b16 6 (by decide)) (by decide) (by decide) (by decide) (by decide) 3 rfl).1
theorem partsX : partsF (b16k 1) sX (sealedF (b16k 1) sX (b16k 2) [[97], []]) 2 = ([[97], []], 0, ()) :=
 (parts_sealed (l := [[97], []]) good_sX (b16k_b16 2 (by decide)) (by decide) (by decide) (by decide) (by decide) 2 rfl).1
theorem TAwk_true : (TAwk ansF partsF sealedF).eval = some ((true, ()), ()) := by
 unfold TAwk
 rw [ans7]
 dsimp only
 rw [parts7, partsX, ans5]
 rfl
theorem okUp : CSound Try.prog 20 (sUp true) ∧ CLocal (sUp true) :=
 pos_cuts (L := L0) (C := ctx (cAk2 ansF partsF sealedF)) (ctx_sound ⟨okAw, okPt, okSd, trivial⟩) [kAk] Try.func20 (c := bAk2) (by kernel_rfl) (by kernel_rfl) (noLoopsL (by kernel_rfl)) fun xs hs hx hh hp =>
  (st_inl (hAk ansF partsF sealedF)).trans ((tAwk ansF partsF sealedF).trans TAwk_true)
def slF (b : Bk) (n : Nt) : Bool := decide ((b.1.length : Int) ≤ 60) && (decide ((b.2.1.length : Int) ≤ 60) && (smallF n && rightF n))
theorem okSl : CSound Try.prog 21 (sSl slF) ∧ CLocal (sSl slF) :=
 pos_sound (L := L0) (C := ctx [(35, sNB smallF), (41, sNB rightF)]) (ctx_sound ⟨okSm, okRi, trivial⟩) Try.func21 (by kernel_rfl) (noLoopsL (by kernel_rfl)) fun xs hs hx hh hp => by
  obtain ⟨b, n, u⟩ := xs
  refine (tSl smallF rightF b n).trans ?_
  show _ = some ((slF b n, ()), ())
  unfold TSl slF
  cases decide ((b.1.length : Int) ≤ 60) <;> cases decide ((b.2.1.length : Int) ≤ 60) <;> cases smallF n <;> rfl
theorem str_self (s : ByteArray) : (s == s) = true := (MapKept.bytes_beq s s).2 rfl
abbrev smF : List Int → List Int → Bool := Fld.sameI
def sameN (a b : Nt) : Bool := decide (a.1 = b.1) && ((a.2.1 == b.2.1) && ((a.2.2.1 == b.2.2.1) && (eqT w16 a.2.2.2.1 b.2.2.2.1 && (eqT w16 a.2.2.2.2.1 b.2.2.2.2.1 && (smF a.2.2.2.2.2.1 b.2.2.2.2.2.1 && (smF a.2.2.2.2.2.2.1 b.2.2.2.2.2.2.1 && smF a.2.2.2.2.2.2.2.1 b.2.2.2.2.2.2.2.1))))))
theorem sm_self (a : List Int) : smF a a = true := decide_eq_true rfl
theorem eqW_self (x : List Int) : eqT w16 x x = true := (eqT_iff w16 x x (by decide)).2 rfl
theorem sameN_self (a : Nt) : sameN a a = true := by
 unfold sameN
 rw [decide_eq_true rfl, sm_self, sm_self, sm_self, eqW_self, eqW_self, str_self, str_self]
 rfl
theorem byte_wf {x : Int} (h : Ty.wf u8 x) : 0 ≤ x ∧ x < 256 := by
 have h : (Lit.int .u8 x).wf = true := h
 simp [Lit.wf, IntKind.min, IntKind.max, IntKind.signed, IntKind.bits] at h
 omega
theorem b16_wf {l : List Int} (h : Ty.wf w16 l) : B16 l := ⟨fun x hx => byte_wf (h.2 x hx), h.1⟩
end Go.Proofs.Ytpafadpfpfgfjaa.Kdc
end
section
set_option linter.unusedVariables false
namespace Vse
open Go Go.ChangeShapes Go.Proofs Go.Sort Go.Shelf
section
variable {P : Program} {C : Ctx} {L : Loops} {g : G} {H : Heap} {w : World}
abbrev Cel := { v : Value // v.oneCell' = true }
instance : Inhabited Cel := ⟨⟨.bool false, rfl⟩⟩
end
end Vse
end
section
set_option linter.unusedVariables false
set_option linter.unusedSimpArgs false
set_option maxRecDepth 100000
namespace Go.Proofs.Ytpafadpfpfgfjaa.Gst
open Go Vse Go.Proofs Gen
def okL (l : List Int) : Bool := decide (l.length ≤ 100000)
end Go.Proofs.Ytpafadpfpfgfjaa.Gst
end
section
set_option linter.unusedVariables false
set_option linter.unusedSimpArgs false
set_option maxRecDepth 100000
namespace Go.Proofs.Ytpafadpfpfgfjaa.Gst
open Go Vse Go.Proofs Gen
open Kdc (w16 lt tN Nt Rs Rl Of Rf Sdf Ds zero16 note0 e0 sPt sSd all16 nSm)
abbrev tEv : Ty := .prod i64 (.prod i64 (.prod i64 (.prod .str (.prod .str (.prod w16 (.prod w16 (.prod w16 .unit)))))))
abbrev lEv : Ty := .imm true false tEv
abbrev tTa : Ty := .prod .str (.prod tN (.prod lEv .unit))
abbrev Gd := ByteArray × List Int × Unit × Unit × Unit
abbrev Wt := Int × Int × List Int × List Int × List Int × Bool × List Int × Unit
abbrev Tk := Int × List Int × List Int × Unit
abbrev Ev := Int × Int × Int × ByteArray × ByteArray × List Int × List Int × List Int × Unit
abbrev Ws := List (ByteArray × Wt)
abbrev Ts := List (ByteArray × Tk)
def nt (kind : Int) (a : ByteArray) (x y : List Int) (p q : List Int) : Nt := (kind, a, e0, x, y, p, q, [], ())
end Go.Proofs.Ytpafadpfpfgfjaa.Gst
end
section
set_option linter.unusedVariables false
set_option linter.unusedSimpArgs false
set_option maxRecDepth 100000
namespace Go.Proofs.Ytpafadpfpfgfjaa.Gst
open Go Vse Go.Proofs Gen
open Kdc (w16 lt tN Nt Rs Rl Of Rf Sdf Ds zero16 note0 e0 sPt sSd all16 nSm)
abbrev Cof := Wt → ByteArray → List Int → Int
abbrev Anf := Wt → Int → ByteArray → List Int → List Int → Nt
abbrev Dof := Gd → Wt → ByteArray → List Int → List Ev
abbrev Tof := List (List Int) → Int → Int → Int → ByteArray × List Int × List Int × Bool
abbrev Tf := List Int → Int × Int × Unit
def ta0 : tTa.den := (e0, note0, [], ())
section
variable (R : Rf) (C : List Int → List Int) (co : Cof) (an : Anf) (pd : List Int → Bool) (ev : Dof) (pt : List (List Int) → Int → Int → Int → Bool) (to : Tof) (pl : ByteArray → Bool) (lb : Wt → ByteArray → ByteArray) (T : Tf)
end
end Go.Proofs.Ytpafadpfpfgfjaa.Gst
end
section
set_option linter.unusedVariables false
set_option linter.unusedSimpArgs false
set_option maxRecDepth 100000
namespace Go.Proofs.Ytpafadpfpfgfjaa.Gst
open Go Vse Go.Proofs Gen
open Kdc (w16 lt tN Nt Rs Rl Of Rf Sdf Ds zero16 note0 e0 sPt sSd all16 nSm)
abbrev Gu := Gd × Ws × Ts × Unit
end Go.Proofs.Ytpafadpfpfgfjaa.Gst
end
section
set_option linter.unusedVariables false
set_option linter.unusedSimpArgs false
set_option maxRecDepth 100000
namespace Go.Proofs.Ytpafadpfpfgfjaa.Gst
open Go Vse Go.Proofs Gen
open Kdc (w16 lt tN Nt Rs Rl Of Rf Sdf Ds zero16 note0 e0 sPt sSd all16 nSm w_succ inArr_of getD_of partsF sealedF nameF okPt okSd)
abbrev Tak := tTa.den × Int × Gu
def bad (u : Gu) (k : Int) : Tak := (ta0, k, u)
end Go.Proofs.Ytpafadpfpfgfjaa.Gst
end
section
set_option linter.unusedVariables false
set_option linter.unusedSimpArgs false
set_option maxRecDepth 100000
namespace Go.Proofs.Ytpafadpfpfgfjaa.Gst
open Go Vse Go.Proofs Gen
open Kdc (w16 lt tN Nt Rs Rl Of Rf Sdf Ds zero16 note0 e0 sPt sSd all16 nSm w_succ inArr_of getD_of partsF sealedF nameF okPt okSd sNB)
abbrev Ac := Int × Int × ByteArray × List Int × Nt × Unit
end Go.Proofs.Ytpafadpfpfgfjaa.Gst
end
section
set_option linter.unusedVariables false
set_option linter.unusedSimpArgs false
set_option maxRecDepth 100000
namespace Go.Proofs.Ytpafadpfpfgfjaa.Gst
open Go Vse Go.Proofs Gen
open Kdc (w16 lt tN Nt Rs Rl Of Rf Sdf Ds zero16 note0 e0 sPt sSd all16 nSm w_succ inArr_of getD_of partsF sealedF nameF okPt okSd)
section
variable {V : Ty}
end
abbrev nOf (p : ByteArray × Wt) : List Int := p.2.2.2.1
abbrev fOf (e : Ev) : List Int := e.2.2.2.2.2.1
structure Inv (nm : ByteArray) (bg : List (List Int)) (dn : List Ev) (u : Gu) : Prop where
 who : u.1.1 = nm
 wn : ∀ p ∈ u.2.1, nOf p ∈ bg
 wd : ∀ p ∈ u.2.1, ∀ e ∈ dn, fOf e ≠ nOf p
 wp : ∀ p ∈ u.2.1, p.1 ≠ nm
 pw : u.2.1.Pairwise fun p q => nOf p ≠ nOf q
 tp : ∀ t ∈ u.2.2.1, t.1 ≠ nm
 db : ∀ e ∈ dn, fOf e ∈ bg
 wl : ∀ p ∈ u.2.1, okL p.2.2.2.2.2.2.2.1 = true
 tl : ∀ t ∈ u.2.2.1, okL t.2.2.1 = true
end Go.Proofs.Ytpafadpfpfgfjaa.Gst
end
section
set_option linter.unusedVariables false
set_option linter.unusedSimpArgs false
set_option maxRecDepth 100000
namespace Go.Proofs.Ytpafadpfpfgfjaa.Gst
open Go Vse Go.Proofs Gen
open Kdc (w16 lt tN Nt Rs Rl Of Rf Sdf Ds zero16 note0 e0 sPt sSd all16 nSm w_succ inArr_of getD_of partsF sealedF nameF okPt okSd sNB nAk)
abbrev Cev := ByteArray → List (List Int) → List Ev → List Ev → Int → Bool
abbrev Stf := Gu → Int → ByteArray → List Int → Nt × Int × Gu
abbrev Agf := Gu → ByteArray → List Int → Nt × Int × Gu
abbrev Tkf := Gu → ByteArray → Nt → List Int → Tak
section
variable (c : List (List Int) → Int → Bool) (fs : List (List Int) → List Int → Bool) (c2 : Cev) (de : List Ev → List Ev → List Ev) (st : Stf) (ag : Agf) (tk : Tkf)
 (nm : ByteArray) (l : List Ac) (up : Bool) (bg : List (List Int)) (dn : List Ev) (i : Int) (a : Ac)
end
end Go.Proofs.Ytpafadpfpfgfjaa.Gst
end
section
set_option linter.unusedVariables false
set_option linter.unusedSimpArgs false
set_option maxRecDepth 100000
namespace Go.Proofs.Ytpafadpfpfgfjaa.Gst
open Go Vse Go.Proofs Gen
open Kdc (w16 lt tN Nt Rs Rl Of Rf Sdf Ds zero16 note0 e0 sPt sSd all16 nSm w_succ inArr_of getD_of partsF sealedF nameF okPt okSd sNB nAk)
def SEq : RSpec := ⟨[0, 1, 12, 13], 26, [bs, bs, i64, i64], [], [], [], fun x => match x with | .ret => ([4], [.bool], []) | _ => ([], [], [])⟩
noncomputable def bEq : Code := loopAt Try.f54 0
def GEq (a b : List Int) (n i : Int) : Tr SEq.End :=
 .ite (decide (i < n)) (.chk (inArr i a.length) (.chk (inArr i b.length) (.ite (!decide (a.getD i.toNat 0 = b.getD i.toNat 0)) (.ret (.inr (.ret, encS [4] [.bool] [] 26 (false, ()) ()))) (.ret (.inl ((a, b, n, w (i + 1), ()), ()))))))
  (.ret (.inr (.exit 0, encS [] [] [] 26 () ())))
theorem rEq (a b : List Int) (n i : Int) : (SEq.round (bodyK Try.prog (ctx []) L0 bEq) (a, b, n, i, ()) ()).eval = (GEq a b n i).eval := by kernel_rfl
theorem mEq (a b : List Int) (hl : a.length ≤ 9223372036854775807) (hb : b.length = a.length) : ∀ (m k : Nat), k + m = a.length →
  SEq.many (bodyK Try.prog (ctx []) L0 bEq) (m + 1) (a, b, (a.length : Int), (k : Int), ()) () = if a.drop k = b.drop k then some (.exit 0, encS [] [] [] 26 () ()) else some (.ret, encS [4] [.bool] [] 26 (false, ()) ())
 | 0, k, h => by
  have e1 : a.drop k = [] := List.drop_eq_nil_of_le (by omega)
  have e2 : b.drop k = [] := List.drop_eq_nil_of_le (by omega)
  rw [e1, e2, if_pos rfl]
  refine rmany_inr ((rEq a b _ _).trans ?_) 0
  unfold GEq
  rw [ite_f (decide_eq_false (by omega))]
  rfl
 | m + 1, k, h => by
  have h1 : k < a.length := by omega
  have h2 : k < b.length := by omega
  have e1 := List.drop_eq_getElem_cons h1
  have e2 := List.drop_eq_getElem_cons h2
  by_cases hq : a[k] = b[k]
  ·have e3 : (a.drop k = b.drop k) = (a.drop (k + 1) = b.drop (k + 1)) := by simp only [e1, e2, hq, List.cons.injEq, true_and]
   simp only [e3]
   refine (rmany_inl (d := ((a, b, (a.length : Int), ((k + 1 : Nat) : Int), ()), ())) ((rEq a b _ _).trans ?_) (m + 1)).trans (mEq a b hl hb m (k + 1) (by omega))
   unfold GEq
   rw [ite_t (decide_eq_true (by omega)), chk_eval (inArr_of h1), chk_eval (inArr_of h2), Int.toNat_natCast, getD_of h1, getD_of h2, ite_f (by simp [hq]), w_succ h1 hl]
   rfl
  ·rw [if_neg (by rw [e1, e2]; exact fun hh => hq (List.cons.inj hh).1)]
   refine rmany_inr ((rEq a b _ _).trans ?_) _
   unfold GEq
   rw [ite_t (decide_eq_true (by omega)), chk_eval (inArr_of h1), chk_eval (inArr_of h2), Int.toNat_natCast, getD_of h1, getD_of h2, ite_t (by simp [hq])]
   rfl
def cEq (a b : List Int) (n i : Int) : Bool := decide (a.length ≤ 9223372036854775807) && (decide (b.length = a.length) && (decide (n = (a.length : Int)) && decide (i = 0)))
abbrev sameF : List Int → List Int → Bool := Fld.sameI
def FEq (c : List Int → List Int → Int → Int → Bool) (f : List Int → List Int → Bool) (xs : HL SEq.Ts) (hs : HD SEq.Es) : Tr (Ex × St) :=
 .chk (c xs.1 xs.2.1 xs.2.2.1 xs.2.2.2.1) (.ite (f xs.1 xs.2.1) (.ret (.exit 0, encS [] [] [] 26 () ())) (.ret (.ret, encS [4] [.bool] [] 26 (false, ()) ())))
def LEq (c : List Int → List Int → Int → Int → Bool) (f : List Int → List Int → Bool) : Loops := fun j st => if j = 4 then SEq.fn (FEq c f) st else .fail
theorem lEq : LoopOK Try.prog (LEq cEq sameF) bEq :=
 rloop_ok (L := LEq cEq sameF) (L' := L0) nil_sound (loopsOK_of (by kernel_rfl)) SEq (F := FEq cEq sameF) (i := 4) (by kernel_rfl) (fun _ => rfl) fun xs hs q h => by
  obtain ⟨a, b, n, i, u⟩ := xs
  obtain ⟨h1, h2⟩ := Tr.chk_some h
  simp only [cEq, Bool.and_eq_true, decide_eq_true_eq] at h1
  obtain ⟨hl, hb, hn, e2⟩ := h1
  have e2 : i = ((0 : Nat) : Int) := e2
  have hn : n = ((List.length (α := Int) a : Nat) : Int) := hn
  subst e2; subst hn
  refine ⟨List.length (α := Int) a + 1, ?_⟩
  have := mEq a b hl hb (List.length (α := Int) a) 0 (by omega)
  rw [List.drop_zero, List.drop_zero] at this
  refine this.trans ?_
  rcases Tr.ite_some h2 with ⟨hx, h3⟩ | ⟨hx, h3⟩
  ·have hx : a = b := of_decide_eq_true hx
   rw [if_pos hx]
   exact congrArg some (Tr.ret_some h3)
  ·have hx : ¬ a = b := of_decide_eq_false hx
   rw [if_neg hx]
   exact congrArg some (Tr.ret_some h3)
def TEq (c : List Int → List Int → Int → Int → Bool) (f : List Int → List Int → Bool) (a b : List Int) : Tr AV :=
 .ite (!decide ((a.length : Int) = (b.length : Int))) (.ret (.v .bool false)) (.chk (c a b (a.length : Int) 0) (.ite (f a b) (.ret (.v .bool true)) (.ret (.v .bool false))))
theorem tEqL (c : List Int → List Int → Int → Int → Bool) (f : List Int → List Int → Bool) (a b : List Int) :
  nrm (fnS Try.prog (ctx []) (LEq c f) [.bool] Try.f54 (mkArgs [bs, bs] (a, b, ()))) = (TEq c f a b).eval := by kernel_rfl
def sSl2 (f : List Int → List Int → Bool) : CSpec := .slp1 [bs, bs] (fun _ => true) .bool fun x => f x.1 x.2.1
theorem okEqL : CSound Try.prog 54 (sSl2 sameF) ∧ CLocal (sSl2 sameF) :=
 slpE1 (L := LEq cEq sameF) nil_sound Try.func54 (by kernel_rfl) (loops1 (by kernel_rfl) lEq) fun xs hx hp => by
  obtain ⟨a, b, u⟩ := xs
  have hl : List.length (α := Int) a ≤ 9223372036854775807 := hx.1.1
  refine (tEqL cEq sameF a b).trans ?_
  show _ = some (AV.v .bool (sameF a b))
  unfold TEq
  by_cases h : List.length (α := Int) a = List.length (α := Int) b
  ·rw [ite_f (by simp [h]), chk_eval (by unfold cEq; rw [decide_eq_true hl, decide_eq_true h.symm]; simp)]
   cases sameF a b <;> rfl
  ·rw [ite_t (by simp; omega), show sameF a b = false from decide_eq_false fun hh => h (by rw [hh])]; rfl
theorem tSaN (E : List Int → List Int → Bool) (a b : Nt) : (fnP Try.prog (ctx [(54, sSl2 E)]) L0 Kdc.nSa Try.f18 (a, b, ()) ()).eval = (Kdc.TSa E a b).eval := by kernel_rfl
theorem okSaN : CSound Try.prog 18 (Kdc.sSa Kdc.sameN) ∧ CLocal (Kdc.sSa Kdc.sameN) :=
 pos_sound (L := L0) (C := ctx [(54, sSl2 Kdc.smF)]) (ctx_sound ⟨okEqL, trivial⟩) Try.func18 (by kernel_rfl) (noLoopsL (by kernel_rfl)) fun xs hs hx hh hp => by
  obtain ⟨a, b, u⟩ := xs
  refine (tSaN Kdc.smF a b).trans ?_
  show _ = some ((Kdc.sameN a b, ()), ())
  unfold Kdc.TSa Kdc.sameN
  cases decide (a.1 = b.1) <;> cases (a.2.1 == b.2.1) <;> cases (a.2.2.1 == b.2.2.1) <;> cases eqT w16 a.2.2.2.1 b.2.2.2.1 <;> cases eqT w16 a.2.2.2.2.1 b.2.2.2.2.1 <;> cases Kdc.smF a.2.2.2.2.2.1 b.2.2.2.2.2.1 <;> cases Kdc.smF a.2.2.2.2.2.2.1 b.2.2.2.2.2.2.1 <;> rfl
end Go.Proofs.Ytpafadpfpfgfjaa.Gst
end
section
set_option linter.unusedVariables false
set_option linter.unusedSimpArgs false
set_option maxRecDepth 100000
namespace Go.Proofs.Ytpafadpfpfgfjaa.Nte
open Go Vse Go.Proofs Gen
open Kdc (w16 tN Nt zero16 note0 e0 all16 nameF hasF lHas w_succ inArr_of getD_of nSm)
def mdS : List Int → Nat → Nt → List (List Int) → Nt × Bool
 | [], _, n, _ => (n, true)
 | c :: cs, i, n, l => if okF c (l.getD i []) = true then mdS cs (i + 1) (setF n c (l.getD i [])) l else (note0, false)
def madeF (k : Int) (l : List (List Int)) : Nt × Bool :=
 if (hasF k == e0) = true then (note0, false) else if (l.length : Int) = ((hasF k).size : Int) then mdS (strBytes (hasF k)) 0 (no0 k) l else (note0, false)
theorem preF_ok {c : Int} {b : List Int} (h : okC b = true) : preF c b = true := by
 unfold preF
 split
 ·rfl
 split
 ·rfl
 split
 ·rfl
 split
 ·rfl
 ·exact h
theorem TMs_eq {l : List (List Int)} (hl : l.all okC = true) : ∀ (cs : List Int) (i : Nat) (n : Nt), i + cs.length ≤ l.length → (TMs cs i n l).eval = some (((mdS cs i n l).1, (mdS cs i n l).2, ()), ())
 | [], i, n, h => rfl
 | c :: cs, i, n, h => by
  have h1 : i < l.length := by simp only [List.length_cons] at h; omega
  have hp : okC (l.getD i []) = true := by rw [getD_of h1]; exact List.all_eq_true.1 hl _ (List.getElem_mem h1)
  unfold TMs mdS
  rw [chk_eval (inArr_of h1), chk_eval (preF_ok hp)]
  cases ho : okF c (l.getD i []) with
  | true => rw [ite_f (show (!true) = false from rfl), if_pos rfl]; exact TMs_eq hl cs (i + 1) _ (by simp only [List.length_cons] at h; omega)
  | false => rw [ite_t (show (!false) = true from rfl), if_neg (by simp)]; rfl
def kindA : List AV → Int
 | .v (.int .i64) x :: _ => x
 | _ => 0
theorem cMd_sound (k : Int) : CtxSound Try.prog (ctx (cMd k (hasF k))) ∧ CtxLocal (ctx (cMd k (hasF k))) := ctx_sound ⟨okHa k, okParted, okSetName, okSetWord, okSetBlob, trivial⟩
theorem lMd (k : Int) : LoopOK Try.prog (LMd k (hasF k)) bMd := runLoopK_ok (L' := L0) (n := 6) (cMd_sound k) (loopsOK_of (by kernel_rfl)) (i := 6) (by kernel_rfl) (fun _ => rfl)
theorem loops_Md : loopsOf (bodyOf Try.f59) = [bMd] := by kernel_rfl
theorem size_str (s : ByteArray) : (strBytes s).length = s.size := Fld.strBytes_length s
def sMd (p : List (List Int) → Bool) (f : Int → List (List Int) → Nt × Bool) : CSpec := .pos nMd (fun xs _ => p xs.2.1) fun xs _ => (((f xs.1 xs.2.1).1, (f xs.1 xs.2.1).2, ()), ())
theorem okMd : CSound Try.prog 59 (sMd (fun l => l.all okC) madeF) ∧ CLocal (sMd (fun l => l.all okC) madeF) :=
 pos_soundX (fnX := fun vs H => fnK Try.prog (ctx (cMd (kindA vs) (hasF (kindA vs)))) (LMd (kindA vs) (hasF (kindA vs))) Try.f59 vs H) (fun args w => callFunc_enter Try.func59 (by kernel_rfl) (c := bodyOf Try.f59) (by kernel_rfl) args w)
  (fun {g H H' w vs rvs v} hI hargs he => fn_sound (cMd_sound (kindA vs)).1 (cMd_sound (kindA vs)).2 Try.func59 (c := bodyOf Try.f59) (by kernel_rfl) (loopsOK_all fun b hb => by
   rw [loops_Md, List.mem_singleton] at hb
   subst hb
   exact lMd (kindA vs)) hI hargs (fnK_ok he))
  fun xs hs hx hh hp => by
   obtain ⟨k, l, u⟩ := xs
   have hp : List.all l okC = true := hp
   refine (qMd (hasF k) (has_mem k) k k l).trans ?_
   show _ = some (((madeF k l).1, (madeF k l).2, ()), ())
   unfold TMd madeF
   rw [chk_eval (decide_eq_true rfl)]
   cases h1 : (hasF k == e0) with
   | true => rw [ite_t rfl, if_pos rfl]; rfl
   | false =>
    rw [ite_f rfl, if_neg (by simp)]
    by_cases h2 : (List.length (α := List Int) l : Int) = ((hasF k).size : Int)
    ·rw [ite_f (by simp [h2]), if_pos h2]
     exact TMs_eq hp _ 0 _ (by rw [size_str]; omega)
    ·rw [ite_t (by simp [h2]), if_neg h2]; rfl
abbrev fBg : Ty := .fn 61 .unit
abbrev nB1 : PSpec := ⟨[bt], [.bool], [], [], []⟩
def big1 (b : List Int) : Bool := decide ((b.length : Int) > 500)
theorem okB1 : CSound Try.prog 61 (.pos nB1 (fun _ _ => true) fun xs _ => ((big1 xs.1, ()), ())) ∧ CLocal (.pos nB1 (fun _ _ => true) fun xs _ => ((big1 xs.1, ()), ())) :=
 pos_sound (L := L0) nil_sound Try.func61 (by kernel_rfl) (noLoopsL (by kernel_rfl)) fun xs hs hx hh hp =>
  (show ∀ b : List Int, (fnP Try.prog (ctx []) L0 nB1 Try.f61 (b, ()) ()).eval = (.ret ((big1 b, ()), ()) : Tr nB1.Out).eval from fun b => by kernel_rfl) xs.1
def cBg : List (Nat × CSpec) := [(61, .pos nB1 (fun _ _ => true) fun xs _ => ((big1 xs.1, ()), ()))]
theorem cBg_sound : CtxSound Try.prog (ctx cBg) ∧ CtxLocal (ctx cBg) := ctx_sound ⟨okB1, trivial⟩
abbrev nIb : PSpec := ⟨[Gen.ls, fBg], [i64], [], [], []⟩
def SBg : RSpec := ⟨[0, 1, 7, 8], 19, [Gen.ls, fBg, i64, i64], [], [], [], fun x => match x with | .ret => ([4], [i64], []) | _ => ([], [], [])⟩
noncomputable def bBg : Code := loopAt Try.f89 0
def GBg (l : List (List Int)) (n i : Int) : Tr SBg.End :=
 .ite (decide (i < n)) (.chk (inArr i l.length) (.ite (big1 (l.getD i.toNat [])) (.ret (.inr (.ret, encS [4] [i64] [] 19 (i, ()) ()))) (.ret (.inl ((l, (), n, w (i + 1), ()), ())))))
  (.ret (.inr (.exit 0, encS [] [] [] 19 () ())))
theorem rBg (l : List (List Int)) (n i : Int) : (SBg.round (bodyK Try.prog (ctx cBg) L0 bBg) (l, (), n, i, ()) ()).eval = (GBg l n i).eval := by kernel_rfl
def hasB (l : List (List Int)) : Bool := l.any big1
def idxB (l : List (List Int)) : Int := if hasB l = true then (l.findIdx big1 : Nat) else -1
def cB2 (l : List (List Int)) (n i : Int) : Bool := decide (l.length ≤ 9223372036854775807) && (decide (n = (l.length : Int)) && decide (i = 0))
def FBg (c : List (List Int) → Int → Int → Bool) (h : List (List Int) → Bool) (ix : List (List Int) → Int) (xs : HL SBg.Ts) (hs : HD SBg.Es) : Tr (Ex × St) :=
 .chk (c xs.1 xs.2.2.1 xs.2.2.2.1) (.ite (h xs.1) (.ret (.ret, encS [4] [i64] [] 19 (ix xs.1, ()) ())) (.ret (.exit 0, encS [] [] [] 19 () ())))
def LBg (c : List (List Int) → Int → Int → Bool) (h : List (List Int) → Bool) (ix : List (List Int) → Int) : Loops := fun j st => if j = 2 then SBg.fn (FBg c h ix) st else .fail
theorem mBg (l : List (List Int)) (hl : l.length ≤ 9223372036854775807) : ∀ (m k : Nat), k + m = l.length →
  SBg.many (bodyK Try.prog (ctx cBg) L0 bBg) (m + 1) (l, (), (l.length : Int), (k : Int), ()) () = if hasB (l.drop k) = true then some (.ret, encS [4] [i64] [] 19 (((k + (l.drop k).findIdx big1 : Nat) : Int), ()) ()) else some (.exit 0, encS [] [] [] 19 () ())
 | 0, k, h => by
  have e1 : l.drop k = [] := List.drop_eq_nil_of_le (by omega)
  rw [e1, if_neg (by simp [hasB])]
  refine rmany_inr ((rBg l _ _).trans ?_) 0
  unfold GBg
  rw [ite_f (decide_eq_false (by omega))]
  rfl
 | m + 1, k, h => by
  have h1 : k < l.length := by omega
  have e2 : (l.drop k) = l[k] :: l.drop (k + 1) := List.drop_eq_getElem_cons h1
  cases hq : big1 l[k] with
  | true =>
   have e3 : hasB (l.drop k) = true := by simp only [hasB, e2, List.any_cons, hq, Bool.true_or]
   have e4 : (l.drop k).findIdx big1 = 0 := by rw [e2, List.findIdx_cons, hq]; rfl
   rw [if_pos e3, e4]
   refine rmany_inr ((rBg l _ _).trans ?_) _
   unfold GBg
   rw [Int.toNat_natCast, ite_t (decide_eq_true (by omega)), chk_eval (inArr_of h1), getD_of h1, ite_t hq]
   rfl
  | false =>
   have e3 : hasB (l.drop k) = hasB (l.drop (k + 1)) := by simp only [hasB, e2, List.any_cons, hq, Bool.false_or]
   have e4 : k + (l.drop k).findIdx big1 = k + 1 + (l.drop (k + 1)).findIdx big1 := by rw [e2, List.findIdx_cons, hq]; simp only [cond_false]; omega
   rw [e3, e4]
   refine (rmany_inl (d := ((l, (), (l.length : Int), ((k + 1 : Nat) : Int), ()), ())) ((rBg l _ _).trans ?_) (m + 1)).trans (mBg l hl m (k + 1) (by omega))
   unfold GBg
   rw [Int.toNat_natCast, ite_t (decide_eq_true (by omega)), chk_eval (inArr_of h1), getD_of h1, ite_f hq, w_succ h1 hl]
   rfl
theorem lBg : LoopOK Try.prog (LBg cB2 hasB idxB) bBg :=
 rloop_ok (L := LBg cB2 hasB idxB) (L' := L0) cBg_sound (loopsOK_of (by kernel_rfl)) SBg (F := FBg cB2 hasB idxB) (i := 2) (by kernel_rfl) (fun _ => rfl) fun xs hs q h => by
  obtain ⟨l, u1, n, i, u⟩ := xs
  obtain ⟨h1, h2⟩ := Tr.chk_some h
  simp only [cB2, Bool.and_eq_true, decide_eq_true_eq] at h1
  obtain ⟨hl, hn, e2⟩ := h1
  have e2 : i = ((0 : Nat) : Int) := e2
  have hn : n = ((List.length (α := List Int) l : Nat) : Int) := hn
  subst e2; subst hn
  refine ⟨List.length (α := List Int) l + 1, ?_⟩
  have := mBg l hl (List.length (α := List Int) l) 0 (by omega)
  rw [List.drop_zero] at this
  refine this.trans ?_
  rcases Tr.ite_some h2 with ⟨hx, h3⟩ | ⟨hx, h3⟩
  ·have hx : hasB l = true := hx
   have e : ((0 + List.findIdx (α := List Int) big1 l : Nat) : Int) = idxB l := by unfold idxB; rw [if_pos hx, Nat.zero_add]
   rw [if_pos hx, e]
   exact congrArg some (Tr.ret_some h3)
  ·have hx : hasB l = false := hx
   rw [if_neg (by rw [hx]; simp)]
   exact congrArg some (Tr.ret_some h3)
def TIb (c : List (List Int) → Int → Int → Bool) (h : List (List Int) → Bool) (ix : List (List Int) → Int) (l : List (List Int)) : Tr nIb.Out := .chk (c l (l.length : Int) 0) (.ite (h l) (.ret ((ix l, ()), ())) (.ret (((-1 : Int), ()), ())))
theorem tIb (c : List (List Int) → Int → Int → Bool) (h : List (List Int) → Bool) (ix : List (List Int) → Int) (l : List (List Int)) :
  (fnP Try.prog (ctx cBg) (LBg c h ix) nIb Try.f89 (l, (), ()) ()).eval = (TIb c h ix l).eval := by kernel_rfl
def sIb (ix : List (List Int) → Int) : CSpec := .pos nIb (fun _ _ => true) fun xs _ => ((ix xs.1, ()), ())
theorem okIb : CSound Try.prog 89 (sIb idxB) ∧ CLocal (sIb idxB) :=
 pos_sound (L := LBg cB2 hasB idxB) cBg_sound Try.func89 (by kernel_rfl) (loops1 (by kernel_rfl) lBg) fun xs hs hx hh hp => by
  obtain ⟨l, u1, u⟩ := xs
  have hl : List.length (α := List Int) l ≤ 9223372036854775807 := hx.1.1
  refine (tIb cB2 hasB idxB l).trans ?_
  show _ = some ((idxB l, ()), ())
  unfold TIb
  rw [chk_eval (by unfold cB2; rw [decide_eq_true hl]; simp)]
  cases h : hasB l with
  | true => rw [ite_t rfl]; rfl
  | false => rw [ite_f rfl]; unfold idxB; rw [if_neg (by rw [h]; simp)]; rfl
abbrev nCf : PSpec := ⟨[Gen.ls, fBg], [.bool], [], [], []⟩
def sCf (h : List (List Int) → Bool) : CSpec := .pos nCf (fun _ _ => true) fun xs _ => ((h xs.1, ()), ())
theorem okCf : CSound Try.prog 60 (sCf hasB) ∧ CLocal (sCf hasB) :=
 pos_sound (L := L0) (C := ctx [(89, sIb idxB)]) (ctx_sound ⟨okIb, trivial⟩) Try.func60 (by kernel_rfl) (noLoopsL (by kernel_rfl)) fun xs hs hx hh hp => by
  obtain ⟨l, u1, u⟩ := xs
  refine ((show ∀ (ix : List (List Int) → Int) (l : List (List Int)), (fnP Try.prog (ctx [(89, sIb ix)]) L0 nCf Try.f60 (l, (), ()) ()).eval = (.ret ((decide (ix l ≥ 0), ()), ()) : Tr nCf.Out).eval from fun ix l => by kernel_rfl) idxB l).trans ?_
  show some ((decide (idxB l ≥ 0), ()), ()) = some ((hasB l, ()), ())
  unfold idxB
  cases h : hasB l with
  | true => rw [if_pos rfl, decide_eq_true (by omega)]
  | false => rw [if_neg (by simp), decide_eq_false (by omega)]
def cRi (pp : Nt → List (List Int)) (pm : List (List Int) → Bool) (md : Int → List (List Int) → Nt × Bool) (sm : Nt → Nt → Bool) (h : List (List Int) → Bool) : List (Nat × CSpec) :=
 [(58, sPs pp), (59, sMd pm md), (18, Kdc.sSa sm), (60, sCf h)]
def TRi (pp : Nt → List (List Int)) (pm : List (List Int) → Bool) (md : Int → List (List Int) → Nt × Bool) (sm : Nt → Nt → Bool) (h : List (List Int) → Bool) (n : Nt) : Tr nSm.Out :=
 .chk (pm (pp n)) (.ite (md n.1 (pp n)).2 (.ite (sm n (md n.1 (pp n)).1) (.ret ((!h (pp n), ()), ())) (.ret ((false, ()), ()))) (.ret ((false, ()), ())))
theorem tRi (pp : Nt → List (List Int)) (pm : List (List Int) → Bool) (md : Int → List (List Int) → Nt × Bool) (sm : Nt → Nt → Bool) (h : List (List Int) → Bool) (n : Nt) :
  (fnP Try.prog (ctx (cRi pp pm md sm h)) L0 nSm Try.f23 (n, ()) ()).eval = (TRi pp pm md sm h n).eval := by kernel_rfl
end Go.Proofs.Ytpafadpfpfgfjaa.Nte
end
section
set_option linter.unusedVariables false
set_option linter.unusedSimpArgs false
set_option maxRecDepth 100000
namespace Go.Proofs.Ytpafadpfpfgfjaa.Nte
open Go Vse Go.Proofs Gen
open Kdc (w16 tN Nt zero16 note0 e0 all16 nameF hasF lHas w_succ inArr_of getD_of nSm sameN)
def rightN (n : Nt) : Bool := (madeF n.1 (partsN n)).2 && (sameN n (madeF n.1 (partsN n)).1 && !hasB (partsN n))
def preN (n : Nt) : Bool := (partsN n).all okC
def sRi (p f : Nt → Bool) : CSpec := .pos nSm (fun xs _ => p xs.1) fun xs _ => ((f xs.1, ()), ())
theorem okRi : CSound Try.prog 23 (sRi preN rightN) ∧ CLocal (sRi preN rightN) :=
 pos_sound (L := L0) (C := ctx (cRi partsN (fun l => l.all okC) madeF sameN hasB)) (ctx_sound ⟨okPs, okMd, Gst.okSaN, okCf, trivial⟩) Try.func23 (by kernel_rfl) (noLoopsL (by kernel_rfl)) fun xs hs hx hh hp => by
  obtain ⟨n, u⟩ := xs
  have hp : ((partsN n).all okC) = true := hp
  refine (tRi partsN (fun l => l.all okC) madeF sameN hasB n).trans ?_
  show _ = some ((rightN n, ()), ())
  unfold TRi rightN
  rw [chk_eval hp]
  cases (madeF n.1 (partsN n)).2 with
  | false => rw [ite_f rfl]; rfl
  | true =>
   rw [ite_t rfl]
   cases sameN n (madeF n.1 (partsN n)).1 with
   | false => rw [ite_f rfl]; rfl
   | true => rw [ite_t rfl]; rfl
open Kdc (Bk Ds Rs Kf Sdf Rf Anf tB sKy sAw sUp sNB sNs3 sNst sK3a sK3b)
abbrev Sl := Bk → Nt → Bool
def cKb (up : Bool) (sl : Sl) (A : Anf) (sm : Nt → Nt → Bool) (p ri : Nt → Bool) (R : Rf) (s1 : List Int → List Int → Bool) : List (Nat × CSpec) :=
 [(20, sUp up), (21, Kdc.sSl sl), (22, sAw A), (18, Kdc.sSa sm), (23, sRi p ri), (24, sKy), (25, Kdc.sPt R), (26, .sl1 [bs, bs] .bool fun x => s1 x.1 x.2.1)]
def TKb3 (up : Bool) (R : Rf) (s1 : List Int → List Int → Bool) (b : Bk) (n : Nt) (d : Ds) (to : ByteArray) (m : Nt) : Tr AV :=
 let no : Tr AV := .ret (.v .bool false)
 let x := R (Kdc.keyF b to).1 sNs3 m.2.2.2.2.2.1 4
 let y := R (Kdc.keyF b n.2.2.1).1 sNst m.2.2.2.2.2.2.1 3
 .ite (!(Kdc.keyF b n.2.2.1).2) no (.ite (x.2.1 != 0) no (.ite (y.2.1 != 0) no (.chk (inArr 2 x.1.length) (.chk (inArr 1 y.1.length) (.ite up (.ite (s1 (x.1.getD 2 []) (part16 (d.getD 0 []))) (.ite (s1 (y.1.getD 1 []) (part16 (d.getD 0 [])))
  (.chk (inArr 0 x.1.length) (.ite (bytesStr (x.1.getD 0 []) == n.2.2.1) (.chk (inArr 0 y.1.length) (.ite (bytesStr (y.1.getD 0 []) == to) (.ret (.v .bool (eqT w16 m.2.2.2.2.1 n.2.2.2.2.1))) no)) no)) no) no) no)))))
def TKb8 (up : Bool) (R : Rf) (s1 : List Int → List Int → Bool) (b : Bk) (n : Nt) (d : Ds) (to : ByteArray) (m : Nt) : Tr AV :=
 let no : Tr AV := .ret (.v .bool false)
 let x := R (Kdc.keyF b to).1 sK3b m.2.2.2.2.2.1 3
 let y := R (Kdc.keyF b n.2.1).1 sK3a m.2.2.2.2.2.2.1 3
 .ite (!(Kdc.keyF b n.2.1).2) no (.ite (x.2.1 != 0) no (.ite (y.2.1 != 0) no (.ite (m.1 != 8) no (.chk (inArr 2 x.1.length) (.chk (inArr 2 y.1.length) (.ite up (.ite (s1 (x.1.getD 2 []) (part16 (d.getD 0 []))) (.ite (s1 (y.1.getD 2 []) (part16 (d.getD 0 [])))
  (.chk (inArr 1 x.1.length) (.ite (bytesStr (x.1.getD 1 []) == n.2.1) (.chk (inArr 1 y.1.length) (.ite (bytesStr (y.1.getD 1 []) == to) (.ret (.v .bool (to == n.2.2.1))) no)) no)) no) no) no))))))
def TKb (up : Bool) (sl : Sl) (A : Anf) (sm : Nt → Nt → Bool) (p ri : Nt → Bool) (R : Rf) (s1 : List Int → List Int → Bool) (b : Bk) (n : Nt) (d : Ds) : Tr AV :=
 let no : Tr AV := .ret (.v .bool false)
 let r := A b n d
 .ite (!sl b n) (.ret (.v .bool up)) (.ite (r.2.2 != 0) (.ite up (.ite (r.1 == e0) (.ret (.v .bool (sm r.2.1 note0))) no) no)
  (.chk (p r.2.1) (.ite (!ri r.2.1) no (.ite (!(Kdc.keyF b r.1).2) no (.ite (r.2.1.1 == 3) (TKb3 up R s1 b n d r.1 r.2.1) (TKb8 up R s1 b n d r.1 r.2.1))))))
theorem tKb (up : Bool) (sl : Sl) (A : Anf) (sm : Nt → Nt → Bool) (p ri : Nt → Bool) (R : Rf) (s1 : List Int → List Int → Bool) (b : Bk) (n : Nt) (d : Ds) :
  nrm (fnK Try.prog (ctx (cKb up sl A sm p ri R s1)) L0 Try.f5 (mkArgs [tB, tN, .arr 3 w16] (b, n, d, ())) []) = (TKb up sl A sm p ri R s1 b n d).eval := by kernel_rfl
end Go.Proofs.Ytpafadpfpfgfjaa.Nte
end
section
set_option linter.unusedVariables false
set_option linter.unusedSimpArgs false
set_option maxRecDepth 100000
namespace Go.Proofs.Ytpafadpfpfgfjaa.Nte
open Go Vse Go.Proofs Gen
open Kdc (w16 tN Nt zero16 note0 e0 all16 nameF hasF lHas w_succ inArr_of getD_of nSm sameN sealedF partsF parts_sealed parts_bytes strBytes_of strBytes_bytes ansF askF keyF rightF slF sNs3 sNst sK3a sK3b Bk Ds str_self sameN_self)
open Seal (Bytes badL)
open Ctr (B16)
open Fld (encL hd1)
theorem str_str (s : ByteArray) : bytesStr (strBytes s) = s := by
 have h := strBytes_of (strBytes s) (strBytes_bytes s)
 generalize bytesStr (strBytes s) = t at h ⊢
 unfold strBytes at h
 have h2 := (List.map_inj_right (fun (x y : UInt8) (e : (x.toNat : Int) = (y.toNat : Int)) => UInt8.toNat_inj.1 (by omega))).1 h
 obtain ⟨⟨a⟩⟩ := s
 obtain ⟨⟨b⟩⟩ := t
 simp only at h2
 rw [h2]
theorem name_size {s : ByteArray} (h : nameF s = true) : s.size ≤ 20 := by
 have h : Fld.nameI s = true := h
 unfold Fld.nameI at h
 simp only [Bool.and_eq_true, decide_eq_true_eq] at h
 exact h.2.2
theorem right_names {n : Nt} (h : rightF n = true) : (n.1 = 2 → nameF n.2.2.1 = true) ∧ (n.1 = 7 → nameF n.2.1 = true ∧ nameF n.2.2.1 = true) := by
 have h : Kdc.rightG hasF Kdc.inF nameF n = true := h
 unfold Kdc.rightG at h
 simp only [Bool.and_eq_true] at h
 obtain ⟨_, h2, _⟩ := h
 unfold Kdc.g2 at h2
 simp only [Bool.and_eq_true] at h2
 obtain ⟨⟨⟨a1, a2⟩, a3⟩, a4⟩ := h2
 refine ⟨fun hn => ?_, fun hn => ?_⟩
 ·rw [hn, show Kdc.inF (hasF 2) 66 = true by decide +kernel] at a2
  cases hb : (n.2.2.1 != e0) with
  | false => rw [hb] at a2; cases a2
  | true =>
   rw [hb] at a4
   cases hN : nameF n.2.2.1 with
   | true => rfl
   | false => rw [hN] at a4; cases a4
 ·rw [hn, show Kdc.inF (hasF 7) 65 = true by decide +kernel] at a1
  rw [hn, show Kdc.inF (hasF 7) 66 = true by decide +kernel] at a2
  constructor
  ·cases hb : (n.2.1 != e0) with
   | false => rw [hb] at a1; cases a1
   | true =>
    rw [hb] at a3
    cases hN : nameF n.2.1 with
    | true => rfl
    | false => rw [hN] at a3; cases a3
  ·cases hb : (n.2.2.1 != e0) with
   | false => rw [hb] at a2; cases a2
   | true =>
    rw [hb] at a4
    cases hN : nameF n.2.2.1 with
    | true => rfl
    | false => rw [hN] at a4; cases a4
theorem p16 {x : List Int} (h : B16 x) : part16 x = x ∧ all16 x = x := by
 have := h.2
 refine ⟨?_, ?_⟩
 ·show (x.drop 0).take 16 = x
  rw [List.drop_zero, List.take_of_length_le (by omega)]
 ·show (x.take 16).drop 0 = x
  rw [List.drop_zero, List.take_of_length_le (by omega)]
theorem word_b16 {x : List Int} (h : x.length = 16) : wordF x = (x, 0, ()) := by
 show Fld.wordI x = _
 unfold Fld.wordI
 rw [decide_eq_true h]; rfl
abbrev m3 (Y P Q : List Int) : Nt := (3, e0, e0, zero16, Y, P, Q, [], ())
abbrev m8 (P Q : List Int) : Nt := (8, e0, e0, zero16, zero16, P, Q, [], ())
theorem parts3 (Y P Q : List Int) : partsN (m3 Y P Q) = [P, Q, part16 Y] := by
 unfold partsN
 rw [show strBytes (hasF (m3 Y P Q).1) = [80, 81, 89] from (by decide +kernel : strBytes (hasF 3) = [80, 81, 89])]
 rfl
theorem parts8 (P Q : List Int) : partsN (m8 P Q) = [P, Q] := by
 unfold partsN
 rw [show strBytes (hasF (m8 P Q).1) = [80, 81] from (by decide +kernel : strBytes (hasF 8) = [80, 81])]
 rfl
theorem pre_of {l : List (List Int)} (h : ∀ p ∈ l, p.length ≤ 500) : l.all okC = true := List.all_eq_true.2 fun p hp => decide_eq_true (by have := h p hp; omega)
theorem big_of {l : List (List Int)} (h : ∀ p ∈ l, p.length ≤ 500) : hasB l = false := by
 unfold hasB
 rw [List.any_eq_false]
 intro p hp hh
 have := h p hp
 have hh : ((p.length : Int) > 500) := of_decide_eq_true hh
 omega
theorem right3 {Y P Q : List Int} (hY : B16 Y) (hP : P.length ≤ 500) (hQ : Q.length ≤ 500) : preN (m3 Y P Q) = true ∧ rightN (m3 Y P Q) = true := by
 have hl : ∀ p ∈ ([P, Q, Y] : List (List Int)), p.length ≤ 500 := fun p hp => by
  have := hY.2
  simp only [List.mem_cons, List.not_mem_nil, or_false] at hp
  rcases hp with rfl | rfl | rfl
  ·exact hP
  ·exact hQ
  ·omega
 have hm : madeF 3 [P, Q, Y] = (m3 Y P Q, true) := by
  unfold madeF
  rw [show hasF 3 = (⟨#[80, 81, 89]⟩ : ByteArray) from (by decide +kernel)]
  rw [if_neg (by decide), if_pos (by rfl), show strBytes (⟨#[80, 81, 89]⟩ : ByteArray) = [80, 81, 89] from (by decide +kernel)]
  have e : okF 89 Y = true := by
   show okY Y = true
   show ((wordF Y).2.1 == 0) = true
   rw [word_b16 hY.2]; rfl
  have e2 : setF (setF (setF (no0 3) 80 P) 81 Q) 89 Y = m3 Y P Q := by
   show setY (setQ (setP (no0 3) P) Q) Y = _
   unfold setY
   rw [word_b16 hY.2]; rfl
  unfold mdS
  rw [if_pos (by rfl)]
  unfold mdS
  rw [if_pos (by rfl)]
  unfold mdS
  rw [if_pos (by exact e)]
  unfold mdS
  exact congrArg (fun x => (x, true)) e2
 have hp := parts3 Y P Q
 rw [(p16 hY).1] at hp
 refine ⟨?_, ?_⟩
 ·unfold preN; rw [hp]; exact pre_of hl
 ·unfold rightN
  rw [hp]
  show ((madeF 3 [P, Q, Y]).2 && _) = true
  rw [show (m3 Y P Q).1 = 3 from rfl, hm, big_of hl]
  show (true && (sameN (m3 Y P Q) (m3 Y P Q) && !false)) = true
  rw [sameN_self]; rfl
theorem right8 {P Q : List Int} (hP : P.length ≤ 500) (hQ : Q.length ≤ 500) : preN (m8 P Q) = true ∧ rightN (m8 P Q) = true := by
 have hl : ∀ p ∈ ([P, Q] : List (List Int)), p.length ≤ 500 := fun p hp => by
  simp only [List.mem_cons, List.not_mem_nil, or_false] at hp
  rcases hp with rfl | rfl
  ·exact hP
  ·exact hQ
 have hm : madeF 8 [P, Q] = (m8 P Q, true) := by
  unfold madeF
  rw [show hasF 8 = (⟨#[80, 81]⟩ : ByteArray) from (by decide +kernel)]
  rw [if_neg (by decide), if_pos (by rfl), show strBytes (⟨#[80, 81]⟩ : ByteArray) = [80, 81] from (by decide +kernel)]
  unfold mdS
  rw [if_pos (by rfl)]
  unfold mdS
  rw [if_pos (by rfl)]
  unfold mdS
  rfl
 have hp := parts8 P Q
 refine ⟨?_, ?_⟩
 ·unfold preN; rw [hp]; exact pre_of hl
 ·unfold rightN
  rw [hp]
  rw [show (m8 P Q).1 = 8 from rfl, hm, big_of hl]
  show (true && (sameN (m8 P Q) (m8 P Q) && !false)) = true
  rw [sameN_self]; rfl
theorem good3 {s : ByteArray} (h : s = sNs3 ∨ s = sNst ∨ s = sK3a ∨ s = sK3b) : ¬ badL s := by
 rcases h with rfl | rfl | rfl | rfl <;> exact (by decide)
theorem sealed4 {key first a b c e : List Int} {s : ByteArray} (hs : ¬ badL s) (hf : B16 first) (ha : Bytes a) (hb : Bytes b) (hc : Bytes c) (he : Bytes e) (la : a.length ≤ 20) (lb : b.length ≤ 20) (lc : c.length ≤ 20) (le : e.length ≤ 20) :
  partsF key s (sealedF key s first [a, b, c, e]) 4 = ([a, b, c, e], 0, ()) ∧ (sealedF key s first [a, b, c, e]).length ≤ 500 := by
 have hE : (encL [a, b, c, e]).length = 8 + a.length + b.length + c.length + e.length := by
  simp only [encL, List.length_append, List.length_nil, show ∀ p : List Int, (hd1 p).length = 2 from fun _ => rfl]; omega
 obtain ⟨h1, h2⟩ := parts_sealed (key := key) (l := [a, b, c, e]) hs hf (fun p hp => by
  simp only [List.mem_cons, List.not_mem_nil, or_false] at hp
  rcases hp with rfl | rfl | rfl | rfl <;> assumption) (by simp) (fun p hp => by
  simp only [List.mem_cons, List.not_mem_nil, or_false] at hp
  rcases hp with rfl | rfl | rfl | rfl <;> omega) (by omega) 4 rfl
 exact ⟨h1, by omega⟩
theorem sealed3 {key first a b c : List Int} {s : ByteArray} (hs : ¬ badL s) (hf : B16 first) (ha : Bytes a) (hb : Bytes b) (hc : Bytes c) (la : a.length ≤ 20) (lb : b.length ≤ 20) (lc : c.length ≤ 20) :
  partsF key s (sealedF key s first [a, b, c]) 3 = ([a, b, c], 0, ()) ∧ (sealedF key s first [a, b, c]).length ≤ 500 := by
 have hE : (encL [a, b, c]).length = 6 + a.length + b.length + c.length := by
  simp only [encL, List.length_append, List.length_nil, show ∀ p : List Int, (hd1 p).length = 2 from fun _ => rfl]; omega
 obtain ⟨h1, h2⟩ := parts_sealed (key := key) (l := [a, b, c]) hs hf (fun p hp => by
  simp only [List.mem_cons, List.not_mem_nil, or_false] at hp
  rcases hp with rfl | rfl | rfl <;> assumption) (by simp) (fun p hp => by
  simp only [List.mem_cons, List.not_mem_nil, or_false] at hp
  rcases hp with rfl | rfl | rfl <;> omega) (by omega) 3 rfl
 exact ⟨h1, by omega⟩
end Go.Proofs.Ytpafadpfpfgfjaa.Nte
end
section
set_option linter.unusedVariables false
set_option linter.unusedSimpArgs false
set_option maxRecDepth 100000
namespace Go.Proofs.Ytpafadpfpfgfjaa.Nte
open Go Vse Go.Proofs Gen
open Kdc (w16 tN Nt zero16 note0 e0 all16 nameF hasF lHas w_succ inArr_of getD_of nSm sameN sealedF partsF parts_sealed parts_bytes strBytes_of strBytes_bytes ansF askF keyF rightF slF sNs2 sNs3 sNst sK3a sK3b Bk Ds str_self sameN_self tB lOf)
open Seal (Bytes badL)
open Ctr (B16)
abbrev smI : List Int → List Int → Bool := fun a b => Fld.sameI a b
abbrev KbT (b : Bk) (n : Nt) (d : Ds) : Tr AV := TKb true slF ansF sameN preN rightN partsF smI b n d
section
variable {b : Bk} {n : Nt} {d : Ds}
theorem kb_err {k : Int} (hs : slF b n = true) (h : ansF b n d = (e0, note0, k)) (hk : k ≠ 0) : (KbT b n d).eval = some (.v .bool true) := by
 unfold KbT TKb
 dsimp only
 rw [h, hs, ite_f (show (!true) = false from rfl), ite_t (by simpa using hk), ite_t rfl, ite_t (str_self _), sameN_self]
 rfl
theorem same_t {a : List Int} : smI a a = true := decide_eq_true rfl
theorem kb3 {to : ByteArray} {Y P Q l1 l2 : List Int} (hY : n.2.2.2.2.1 = Y) (hs : slF b n = true) (h : ansF b n d = (to, m3 Y P Q, 0)) (bY : B16 Y) (hP : P.length ≤ 500) (hQ : Q.length ≤ 500) (d0 : B16 (d.getD 0 []))
  (kB : (keyF b n.2.2.1).2 = true) (kt : (keyF b to).2 = true) (hp : partsF (keyF b to).1 sNs3 P 4 = ([strBytes n.2.2.1, l1, all16 (d.getD 0 []), l2], 0, ())) (hq : partsF (keyF b n.2.2.1).1 sNst Q 3 = ([strBytes to, all16 (d.getD 0 []), l2], 0, ())) :
  (KbT b n d).eval = some (.v .bool true) := by
 obtain ⟨r1, r2⟩ := right3 bY hP hQ
 have e0' : part16 (d.getD 0 []) = all16 (d.getD 0 []) := (p16 d0).1.trans (p16 d0).2.symm
 unfold KbT TKb
 dsimp only
 rw [h, hs, ite_f (show (!true) = false from rfl), ite_f (by rfl), chk_eval r1, ite_f (by rw [r2]; rfl), ite_f (by rw [kt]; rfl), ite_t (by rfl)]
 unfold TKb3
 dsimp only
 rw [hp, hq, hY, e0', ite_f (by rw [kB]; rfl), ite_f (by rfl), ite_f (by rfl), chk_eval (by rfl), chk_eval (by rfl), ite_t rfl, ite_t (by exact same_t), ite_t (by exact same_t), chk_eval (by rfl),
  ite_t (by show (bytesStr (strBytes n.2.2.1) == n.2.2.1) = true; rw [str_str]; exact str_self _), chk_eval (by rfl), ite_t (by show (bytesStr (strBytes to) == to) = true; rw [str_str]; exact str_self _)]
 show some (AV.v .bool (eqT w16 Y Y)) = _
 rw [(eqT_iff w16 Y Y (by decide)).2 rfl]
theorem kb8 {P Q x1 y1 : List Int} (hs : slF b n = true) (h : ansF b n d = (n.2.2.1, m8 P Q, 0)) (hP : P.length ≤ 500) (hQ : Q.length ≤ 500) (d0 : B16 (d.getD 0 []))
  (kA : (keyF b n.2.1).2 = true) (kB : (keyF b n.2.2.1).2 = true) (hp : partsF (keyF b n.2.2.1).1 sK3b P 3 = ([x1, strBytes n.2.1, all16 (d.getD 0 [])], 0, ())) (hq : partsF (keyF b n.2.1).1 sK3a Q 3 = ([y1, strBytes n.2.2.1, all16 (d.getD 0 [])], 0, ())) :
  (KbT b n d).eval = some (.v .bool true) := by
 obtain ⟨r1, r2⟩ := right8 hP hQ
 have e0' : part16 (d.getD 0 []) = all16 (d.getD 0 []) := (p16 d0).1.trans (p16 d0).2.symm
 unfold KbT TKb
 dsimp only
 rw [h, hs, ite_f (show (!true) = false from rfl), ite_f (by rfl), chk_eval r1, ite_f (by rw [r2]; rfl), ite_f (by rw [kB]; rfl), ite_f (by rfl)]
 unfold TKb8
 dsimp only
 rw [hp, hq, e0', ite_f (by rw [kA]; rfl), ite_f (by rfl), ite_f (by rfl), ite_f (by rfl), chk_eval (by rfl), chk_eval (by rfl), ite_t rfl, ite_t (by exact same_t), ite_t (by exact same_t), chk_eval (by rfl),
  ite_t (by show (bytesStr (strBytes n.2.1) == n.2.1) = true; rw [str_str]; exact str_self _), chk_eval (by rfl), ite_t (by show (bytesStr (strBytes n.2.2.1) == n.2.2.1) = true; rw [str_str]; exact str_self _), str_self]
 rfl
theorem str_len {s : ByteArray} (h : nameF s = true) : (strBytes s).length ≤ 20 := by rw [size_str]; exact name_size h
theorem ask_ok (h : (askF b n).2 = 0) (hP : Bytes n.2.2.2.2.2.1) : ∃ (a : ByteArray) (l1 l2 : List Int), (askF b n).1 = (a, l1, l2, (keyF b a).1, (keyF b n.2.2.1).1, ()) ∧ (keyF b n.2.2.1).2 = true ∧ (keyF b a).2 = true ∧ nameF a = true ∧ Bytes l1 ∧ Bytes l2 ∧ l1.length = 16 ∧ l2.length = 8 := by
 unfold askF at h ⊢
 split at h
 ·cases h
 rename_i h1
 rw [if_neg h1]
 split at h
 ·rename_i h2; exact absurd h h2
 rename_i h2
 rw [if_neg h2]
 have hb : ∀ p ∈ lOf keyF partsF b n, Bytes p := parts_bytes hP 3
 have hg : ∀ i, Bytes ((lOf keyF partsF b n).getD i []) := fun i => by
  rw [List.getD_eq_getElem?_getD]
  cases e : (lOf keyF partsF b n)[i]? with
  | none => intro x hx; cases hx
  | some p => exact hb p (List.mem_of_getElem? e)
 split at h
 ·cases h
 rename_i h3
 rw [if_neg h3]
 split at h
 ·cases h
 rename_i h4
 rw [if_neg h4]
 split at h
 ·cases h
 rename_i h5
 rw [if_neg h5]
 split at h
 ·cases h
 rename_i h6
 rw [if_neg h6]
 split at h
 ·cases h
 rename_i h7
 rw [if_neg h7]
 exact ⟨_, _, _, rfl, by simpa using h1, by simpa using h7, by simpa using h3, hg 1, hg 2, by simpa using h4, by simpa using h5⟩
theorem Kb_true (hX : B16 n.2.2.2.1) (hY : B16 n.2.2.2.2.1) (hP : Bytes n.2.2.2.2.2.1) (d0 : B16 (d.getD 0 [])) (d1 : B16 (d.getD 1 [])) (d2 : B16 (d.getD 2 [])) : (KbT b n d).eval = some (.v .bool true) := by
 cases hs : slF b n with
 | false =>
  unfold KbT TKb
  dsimp only
  rw [hs, ite_t (show (!false) = true from rfl)]
  rfl
 | true =>
  have hr : rightF n = true := by
   unfold slF at hs
   simp only [Bool.and_eq_true] at hs
   exact hs.2.2.2
  obtain ⟨q2, q7⟩ := right_names hr
  have ed0 := (p16 d0).2
  have ld0 : (all16 (d.getD 0 [])).length ≤ 20 := by rw [ed0, d0.2]; omega
  have bd0 : Bytes (all16 (d.getD 0 [])) := by rw [ed0]; exact d0.1
  by_cases h2 : n.1 = 2
  ·by_cases ha : (askF b n).2 = 0
   ·obtain ⟨a, l1, l2, e1, kB, ka, na, b1, b2, g1, g2⟩ := ask_ok ha hP
    have hA : ansF b n d = (a, m3 n.2.2.2.2.1 (sealedF (keyF b a).1 sNs3 (d.getD 1 []) [strBytes n.2.2.1, l1, all16 (d.getD 0 []), l2]) (sealedF (keyF b n.2.2.1).1 sNst (d.getD 2 []) [strBytes a, all16 (d.getD 0 []), l2]), 0) := by
     show Kdc.ansG askF keyF sealedF b n d = _
     unfold Kdc.ansG
     rw [if_pos h2, if_neg (not_not_intro ha), e1]
    obtain ⟨s1, t1⟩ := sealed4 (key := (keyF b a).1) (good3 (.inl rfl)) d1 (strBytes_bytes n.2.2.1) b1 bd0 b2 (str_len (q2 h2)) (by omega) ld0 (by omega)
    obtain ⟨s2, t2⟩ := sealed3 (key := (keyF b n.2.2.1).1) (good3 (.inr (.inl rfl))) d2 (strBytes_bytes a) bd0 b2 (str_len na) ld0 (by omega)
    exact kb3 rfl hs hA hY t1 t2 d0 kB ka s1 s2
   ·refine kb_err (k := (askF b n).2) hs ?_ ha
    show Kdc.ansG askF keyF sealedF b n d = _
    unfold Kdc.ansG
    rw [if_pos h2, if_pos ha]
  by_cases h7 : n.1 = 7
  ·obtain ⟨nA, nB⟩ := q7 h7
   by_cases hab : (n.2.1 == n.2.2.1) = true
   ·refine kb_err (k := 1) hs ?_ (by decide)
    show Kdc.ansG askF keyF sealedF b n d = _
    unfold Kdc.ansG
    rw [if_neg h2, if_pos h7, if_pos hab]
   by_cases hk : (keyF b n.2.1).2 = false ∨ (keyF b n.2.2.1).2 = false
   ·refine kb_err (k := 4) hs ?_ (by decide)
    show Kdc.ansG askF keyF sealedF b n d = _
    unfold Kdc.ansG
    rw [if_neg h2, if_pos h7, if_neg hab, if_pos hk]
   ·have kA : (keyF b n.2.1).2 = true := by
     cases h : (keyF b n.2.1).2 with
     | true => rfl
     | false => exact absurd (.inl h) hk
    have kB : (keyF b n.2.2.1).2 = true := by
     cases h : (keyF b n.2.2.1).2 with
     | true => rfl
     | false => exact absurd (.inr h) hk
    have hA : ansF b n d = (n.2.2.1, m8 (sealedF (keyF b n.2.2.1).1 sK3b (d.getD 1 []) [all16 n.2.2.2.2.1, strBytes n.2.1, all16 (d.getD 0 [])]) (sealedF (keyF b n.2.1).1 sK3a (d.getD 2 []) [all16 n.2.2.2.1, strBytes n.2.2.1, all16 (d.getD 0 [])]), 0) := by
     show Kdc.ansG askF keyF sealedF b n d = _
     unfold Kdc.ansG
     rw [if_neg h2, if_pos h7, if_neg hab, if_neg hk]
    have lX : (all16 n.2.2.2.1).length ≤ 20 := by rw [(p16 hX).2, hX.2]; omega
    have lY : (all16 n.2.2.2.2.1).length ≤ 20 := by rw [(p16 hY).2, hY.2]; omega
    obtain ⟨s1, t1⟩ := sealed3 (key := (keyF b n.2.2.1).1) (good3 (.inr (.inr (.inr rfl)))) d1 (by rw [(p16 hY).2]; exact hY.1) (strBytes_bytes n.2.1) bd0 lY (str_len nA) ld0
    obtain ⟨s2, t2⟩ := sealed3 (key := (keyF b n.2.1).1) (good3 (.inr (.inr (.inl rfl)))) d2 (by rw [(p16 hX).2]; exact hX.1) (strBytes_bytes n.2.2.1) bd0 lX (str_len nB) ld0
    exact kb8 hs hA t1 t2 d0 kA kB s1 s2
  ·refine kb_err (k := 13) hs ?_ (by decide)
   show Kdc.ansG askF keyF sealedF b n d = _
   unfold Kdc.ansG
   rw [if_neg h2, if_neg h7]
end
theorem cKb_sound : CtxSound Try.prog (ctx (cKb true slF ansF sameN preN rightN partsF smI)) ∧ CtxLocal (ctx (cKb true slF ansF sameN preN rightN partsF smI)) :=
 ctx_sound ⟨Kdc.okUp, Kdc.okSl, Kdc.okAw, Gst.okSaN, okRi, Kdc.okKy, Kdc.okPt, Fld.ok19, trivial⟩
theorem Kb_law (b : Bk) (n : Nt) (d : Ds) (hn : Ty.wf tN n) (hd : Ty.wf (.arr 3 w16) d) : nrm (fnK Try.prog (ctx (cKb true slF ansF sameN preN rightN partsF smI)) L0 Try.f5 (mkArgs [tB, tN, .arr 3 w16] (b, n, d, ())) []) = some (.v .bool true) := by
 have hl : d.length = 3 := hd.1
 have hi : ∀ i, i < 3 → B16 (d.getD i []) := fun i h => by
  rw [getD_of (by omega)]
  exact Kdc.b16_wf (hd.2 _ (List.getElem_mem _))
 exact (tKb true slF ansF sameN preN rightN partsF smI b n d).trans (Kb_true (Kdc.b16_wf hn.2.2.2.1) (Kdc.b16_wf hn.2.2.2.2.1) (fun x hx => Kdc.byte_wf (hn.2.2.2.2.2.1.2 x hx)) (hi 0 (by omega)) (hi 1 (by omega)) (hi 2 (by omega)))
end Go.Proofs.Ytpafadpfpfgfjaa.Nte
end
set_option linter.unusedVariables false
set_option maxRecDepth 100000
namespace Go.Proofs.Ytpafadpfpfgfjaa
open Go Vse Go.Proofs Go.ChangeShapes Go.WideShapes Go.ChangeAt Go.RowKit
theorem own16b : ownKnob Try.prog.godebug = none := by kernel_rfl
theorem laid16b : laidOutB Try.prog = true := by kernel_rfl
theorem kdcBoth_lifted (os : Os) (started : os.Started) (H : Type) (enc : TypeId × Value → H) :
  ReturnsInHanded {} Try.checked os 5 .any (Rows.kdcBothSpec.pre6 enc Try.prog Try.f5 Rows.kdcBothRow.domain false) (Rows.kdcBothSpec.post enc Try.prog Try.f5 false true false false) := by
 refine returnsInHanded_of_change_sized (C := Try.checked) own16b started (by kernel_rfl) Try.func5
  (ChangeSpec.witness6 (enc := enc) (C := Try.checked) false ⟨#[], #[.agg (#[.slice none 0 0, .slice none 0 0, .int .i64 0] ++ Array.replicate 16 (.int .u8 0)), .agg (#[.int .i64 0, .string ⟨#[]⟩, .string ⟨#[]⟩] ++ Array.replicate 32 (.int .u8 0) ++ #[.slice none 0 0, .slice none 0 0, .slice none 0 0]), .agg (Array.replicate 48 (.int .u8 0))], []⟩ 8 (by kernel_rfl) (by kernel_rfl) (by kernel_rfl) (by kernel_rfl)) ?_
 intro W base args ds gs before hval hW _ hsz _
 refine law_callsT (n := 8) (As := [Kdc.tB, Kdc.tN, .arr 3 Kdc.w16]) (L := L0) Nte.cKb_sound laid16b Try.func5 (by kernel_rfl) (noLoopsL (by kernel_rfl)) (by kernel_rfl) (tb := 4) (by kernel_rfl) (by kernel_rfl)
  ⟨rfl, fun ds h => ?_⟩ (fun xs hx hz => ?_) hval hW hsz
 ·match ds, h with
  | [d1, d2, d3], _ => rfl
 ·exact Nte.Kb_law xs.1 xs.2.1 xs.2.2.1 hx.2.1 hx.2.2.1
theorem kdcBoth_holds : Rows.KdcBothSaid :=
 OpenClaim.holds_of_wide 5 Try.f5 rfl rfl rfl rfl rfl rfl rfl ⟨rfl, rfl, rfl, rfl, rfl⟩ rfl rfl rfl rfl rfl (by kernel_rfl) Try.func5 (by kernel_rfl)
  (of_decide_eq_true (by kernel_rfl)) (by unfold Func.isWrapper; first | (rw [if_pos (by decide +kernel)]; kernel_rfl) | (rw [if_neg (by decide +kernel)]; exact ⟨rfl, rfl⟩))
  (fun os started H enc _ => kdcBoth_lifted os started H enc)
end Go.Proofs.Ytpafadpfpfgfjaa
#print axioms Go.Proofs.Ytpafadpfpfgfjaa.kdcBoth_holds

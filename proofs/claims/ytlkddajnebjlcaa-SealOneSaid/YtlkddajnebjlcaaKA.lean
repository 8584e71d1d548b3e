import Derived.Test.YtlkddajnebjlcaaHA
import Derived.Test.YtlkddajnebjlcaaHB

section
/- A code of bytes (layer 2, mac): a key filled up; the code of parts. -/
set_option linter.unusedVariables false
set_option maxRecDepth 100000
namespace Go.Proofs.Ytlkddajnebjlcaa.Mac
open Go Vse Go.Proofs Gen Sha

abbrev d64 : Ty := .arr 64 u8
def z64 : List Int := List.replicate 64 0

/-! a key, filled up -/

def cS (S : List Int → List Int) (p : List Int → Bool) : List (Nat × CSpec) := [(16, .slp1 [bs] (fun x => p x.1) d32 fun x => S x.1)]
theorem cS_sound : CtxSound Try.prog (ctx (cS shaF shaP)) ∧ CtxLocal (ctx (cS shaF shaP)) := ctx_sound ⟨ok16, trivial⟩

noncomputable def bF : Code := loopAt Try.f45 0
def SF : RSpec := ⟨[1, 6, 17], 28, [u8, .ptr 0 [], i64], [.box d64], [.box d64], [], fun _ => ([6], [.ptr 0 []], [.box d64])⟩
def GF (by_ i : Int) (q : List Int) : Tr SF.End :=
  .ite (decide (i < 64)) (.chk (inArrK .i64 i 64) (.chk (inArrK .i64 i 64) (.ret (.inl ((by_, (), w (i + 1), ()), (q.set i.toNat (xorI .u8 (q.getD i.toNat 0) by_), ()))))))
    (.ret (.inr (.exit 0, encS [6] [.ptr 0 []] [.box d64] 28 ((), ()) (q, ()))))
theorem rF (S : List Int → List Int) (p : List Int → Bool) (by_ i : Int) (q : List Int) : (SF.round (bodyK Try.prog (ctx (cS S p)) L0 bF) (by_, (), i, ()) (q, ())).eval = (GF by_ i q).eval := by kernel_rfl
def SF2 : RSpec := ⟨[1, 6, 17], 28, [u8, .ptr 1 [], i64], [.box d32, .box d64], [.box d32, .box d64], [], fun _ => ([6], [.ptr 1 []], [.box d32, .box d64])⟩
def GF2 (by_ i : Int) (d q : List Int) : Tr SF2.End :=
  .ite (decide (i < 64)) (.chk (inArrK .i64 i 64) (.chk (inArrK .i64 i 64) (.ret (.inl ((by_, (), w (i + 1), ()), (d, q.set i.toNat (xorI .u8 (q.getD i.toNat 0) by_), ()))))))
    (.ret (.inr (.exit 0, encS [6] [.ptr 1 []] [.box d32, .box d64] 28 ((), ()) (d, q, ()))))
theorem rF2 (S : List Int → List Int) (p : List Int → Bool) (by_ i : Int) (d q : List Int) : (SF2.round (bodyK Try.prog (ctx (cS S p)) L0 bF) (by_, (), i, ()) (d, q, ())).eval = (GF2 by_ i d q).eval := by kernel_rfl

def FF (c : Int → List Int → Bool) (X : Int → List Int → List Int) (xs : HL SF.Ts) (hs : HD SF.Es) : Tr (Ex × St) :=
  .chk (c xs.2.2.1 hs.1) (.ret (.exit 0, encS [6] [.ptr 0 []] [.box d64] 28 ((), ()) (X xs.1 hs.1, ())))
def FF2 (c : Int → List Int → Bool) (X : Int → List Int → List Int) (xs : HL SF2.Ts) (hs : HD SF2.Es) : Tr (Ex × St) :=
  .chk (c xs.2.2.1 hs.2.1) (.ret (.exit 0, encS [6] [.ptr 1 []] [.box d32, .box d64] 28 ((), ()) (hs.1, X xs.1 hs.2.1, ())))
def LF (c : Int → List Int → Bool) (X : Int → List Int → List Int) : Loops := fun j st => if j = 7 then orL (fun st => heapIs SF.E0 st.heap) (SF.fn (FF c X)) (SF2.fn (FF2 c X)) st else .fail
/-- a part of an array that is all of it -/
abbrev all (n : Nat) (l : List Int) : List Int := (l.drop 0).take n
abbrev nF : PSpec := ⟨[bs, u8], [bt], [], [], []⟩
def TF (S : List Int → List Int) (p : List Int → Bool) (c : Int → List Int → Bool) (X : Int → List Int → List Int) (key : List Int) (by_ : Int) : Tr nF.Out :=
  let go (k : List Int) : Tr nF.Out := .chk (c 0 (overL z64 k ++ [])) (.ret ((all 64 (X by_ (overL z64 k ++ [])), ()), ()))
  .ite (decide ((key.length : Int) > 64)) (.chk (p key) (go (all 32 (S key)))) (go key)
theorem tF (S : List Int → List Int) (p : List Int → Bool) (c : Int → List Int → Bool) (X : Int → List Int → List Int) (key : List Int) (by_ : Int) :
    (fnP Try.prog (ctx (cS S p)) (LF c X) nF Try.f45 (key, by_, ()) ()).eval = (TF S p c X key by_).eval := by kernel_rfl

/-! the code of parts -/

def cM (i : Hs) (W : Wr) (p : List Int → Hs → Bool) (q : Hs → Bool) (D : Hs → List Int) (F : List Int → Int → List Int) (pf : List Int → Bool) : List (Nat × CSpec) :=
  [(19, .pos nH (fun _ _ => true) fun _ _ => (((), ()), (i, ()))), (20, .pos (wS [bs] []) (fun xs d => p xs.2.1 d.1) fun xs d => ((), (W xs.2.1 d.1, ()))), (21, .pos (wS [] [d32]) (fun _ d => q d.1) fun _ d => ((D d.1, ()), d)),
   (45, .pos nF (fun xs _ => pf xs.1) fun xs _ => ((F xs.1 xs.2.1, ()), ()))]
noncomputable def bM : Code := loopAt Try.f29 0
abbrev eM : List ETy := [.box d32, .box hT, .box hT]
def SM : RSpec := ⟨[0, 4, 5, 6, 16, 17, 18], 37, [bs, .ptr 0 [], .ptr 1 [], .ptr 2 [], ls, i64, i64], eM, eM, [], fun _ => ([0, 4, 5, 6], [bs, .ptr 0 [], .ptr 1 [], .ptr 2 []], eM)⟩
def GM (W : Wr) (p : List Int → Hs → Bool) (key : List Int) (l : List (List Int)) (n i : Int) (o : List Int) (h h' : Hs) : Tr SM.End :=
  .ite (decide (i < n)) (.chk (inArr i l.length) (.chk (p (l.getD i.toNat []) h) (.ret (.inl ((key, (), (), (), l, n, w (i + 1), ()), (o, W (l.getD i.toNat []) h, h', ()))))))
    (.ret (.inr (.exit 0, encS [0, 4, 5, 6] [bs, .ptr 0 [], .ptr 1 [], .ptr 2 []] eM 37 (key, (), (), (), ()) (o, h, h', ()))))
theorem rM (i0 : Hs) (W : Wr) (p : List Int → Hs → Bool) (q : Hs → Bool) (D : Hs → List Int) (F : List Int → Int → List Int) (pf : List Int → Bool) (key : List Int) (l : List (List Int)) (n i : Int) (o : List Int) (h h' : Hs) :
    (SM.round (bodyK Try.prog (ctx (cM i0 W p q D F pf)) L0 bM) (key, (), (), (), l, n, i, ()) (o, h, h', ())).eval = (GM W p key l n i o h h').eval := by kernel_rfl

def FM (c : List (List Int) → Int → Int → Hs → Bool) (Z : List (List Int) → Hs → Hs) (xs : HL SM.Ts) (hs : HD SM.Es) : Tr (Ex × St) :=
  .chk (c xs.2.2.2.2.1 xs.2.2.2.2.2.1 xs.2.2.2.2.2.2.1 hs.2.1) (.ret (.exit 0, encS [0, 4, 5, 6] [bs, .ptr 0 [], .ptr 1 [], .ptr 2 []] eM 37 (xs.1, (), (), (), ()) (hs.1, Z xs.2.2.2.2.1 hs.2.1, hs.2.2.1, ())))
def LM (c : List (List Int) → Int → Int → Hs → Bool) (Z : List (List Int) → Hs → Hs) : Loops := fun j st => if j = 4 then SM.fn (FM c Z) st else .fail
def TM (i : Hs) (W : Wr) (p : List Int → Hs → Bool) (q : Hs → Bool) (D : Hs → List Int) (F : List Int → Int → List Int) (pf : List Int → Bool) (c : List (List Int) → Int → Int → Hs → Bool) (Z : List (List Int) → Hs → Hs) (key : List Int) (l : List (List Int)) : Tr AV :=
  let h1 := Z l (W (F key 54) i)
  let h2 := W (F key 92) i
  .chk (pf key) (.chk (p (F key 54) i) (.chk (c l (l.length : Int) 0 (W (F key 54) i)) (.chk (q h1) (.chk (pf key) (.chk (p (F key 92) i) (.chk (p (all 32 (D h1)) h2) (.chk (q (W (all 32 (D h1)) h2)) (.ret (.v d32 (D (W (all 32 (D h1)) h2)))))))))))
theorem tM (i : Hs) (W : Wr) (p : List Int → Hs → Bool) (q : Hs → Bool) (D : Hs → List Int) (F : List Int → Int → List Int) (pf : List Int → Bool) (c : List (List Int) → Int → Int → Hs → Bool) (Z : List (List Int) → Hs → Hs) (key : List Int) (l : List (List Int)) :
    nrm (fnS Try.prog (ctx (cM i W p q D F pf)) (LM c Z) [d32] Try.f29 (mkArgs [bs, ls] (key, l, ()))) = (TM i W p q D F pf c Z key l).eval := by kernel_rfl

end Go.Proofs.Ytlkddajnebjlcaa.Mac

end
section
/- A code of bytes (layer 2, mac): what it is of parts. -/
set_option linter.unusedVariables false
set_option maxRecDepth 100000
namespace Go.Proofs.Ytlkddajnebjlcaa.Mac
open Go Vse Go.Proofs Gen Sha

/-! a key, filled up -/

def xorF (by_ : Int) (q : List Int) : List Int := q.map fun x => xorI .u8 x by_
def mid (f : Int → Int) (q : List Int) (i : Nat) : List Int := (q.take i).map f ++ q.drop i

theorem mid_len (f : Int → Int) (q : List Int) (i : Nat) : (mid f q i).length = q.length := by
  unfold mid
  rw [List.length_append, List.length_map, ← List.length_append, List.take_append_drop]

theorem mid_get (f : Int → Int) {q : List Int} {i : Nat} (h : i < q.length) : (mid f q i).getD i 0 = q[i] := by
  have hl : ((q.take i).map f).length = i := by rw [List.length_map, List.length_take]; omega
  unfold mid
  rw [List.getD_eq_getElem?_getD, List.getElem?_append_right (by omega), hl, Nat.sub_self, List.getElem?_drop, Nat.add_zero, List.getElem?_eq_getElem h]
  rfl

theorem mid_step (f : Int → Int) {q : List Int} {i : Nat} (h : i < q.length) : (mid f q i).set i (f ((mid f q i).getD i 0)) = mid f q (i + 1) := by
  have hl : ((q.take i).map f).length = i := by rw [List.length_map, List.length_take]; omega
  rw [mid_get f h]
  unfold mid
  rw [List.set_append_right _ _ (by omega), hl, Nat.sub_self, List.drop_eq_getElem_cons h, List.set_cons_zero, ← List.take_append_getElem h, List.map_append, List.append_assoc]
  rfl

theorem mid_all (f : Int → Int) (q : List Int) : mid f q q.length = q.map f := by
  unfold mid
  rw [List.take_length, List.drop_length, List.append_nil]

def cF (i : Int) (q : List Int) : Bool := decide (i = 0) && decide (q.length = 64)

theorem mF (by_ : Int) (q : List Int) (hq : q.length = 64) : ∀ (m i : Nat), i + m = 64 →
    SF.many (bodyK Try.prog (ctx (cS shaF shaP)) L0 bF) (m + 1) (by_, (), (i : Int), ()) (mid (fun x => xorI .u8 x by_) q i, ()) = some (.exit 0, encS [6] [.ptr 0 []] [.box d64] 28 ((), ()) (xorF by_ q, ()))
  | 0, i, h => by
    refine rmany_inr ((rF shaF shaP by_ i _).trans ?_) 0
    have : i = q.length := by omega
    subst this
    rw [mid_all]
    simp only [GF, Tr.eval, decide_eq_false (show ¬ ((q.length : Int) < 64) by omega)]
    rfl
  | m + 1, i, h => by
    refine (rmany_inl (d := ((by_, (), ((i + 1 : Nat) : Int), ()), (mid (fun x => xorI .u8 x by_) q (i + 1), ()))) ((rF shaF shaP by_ i _).trans ?_) (m + 1)).trans (mF by_ q hq m (i + 1) (by omega))
    have w0 : w ((i : Int) + 1) = ((i + 1 : Nat) : Int) := (w_id (by omega) (by omega)).trans (by omega)
    unfold GF
    rw [ite_t (decide_eq_true (show ((i : Int) < 64) by omega)), chk_eval (inArrK64 (by omega) (by omega) (by omega)), chk_eval (inArrK64 (by omega) (by omega) (by omega)), w0, Int.toNat_natCast, mid_step _ (by omega)]
    rfl

theorem mF2 (by_ : Int) (d q : List Int) (hq : q.length = 64) : ∀ (m i : Nat), i + m = 64 →
    SF2.many (bodyK Try.prog (ctx (cS shaF shaP)) L0 bF) (m + 1) (by_, (), (i : Int), ()) (d, mid (fun x => xorI .u8 x by_) q i, ()) = some (.exit 0, encS [6] [.ptr 1 []] [.box d32, .box d64] 28 ((), ()) (d, xorF by_ q, ()))
  | 0, i, h => by
    refine rmany_inr ((rF2 shaF shaP by_ i d _).trans ?_) 0
    have : i = q.length := by omega
    subst this
    rw [mid_all]
    simp only [GF2, Tr.eval, decide_eq_false (show ¬ ((q.length : Int) < 64) by omega)]
    rfl
  | m + 1, i, h => by
    refine (rmany_inl (d := ((by_, (), ((i + 1 : Nat) : Int), ()), (d, mid (fun x => xorI .u8 x by_) q (i + 1), ()))) ((rF2 shaF shaP by_ i d _).trans ?_) (m + 1)).trans (mF2 by_ d q hq m (i + 1) (by omega))
    have w0 : w ((i : Int) + 1) = ((i + 1 : Nat) : Int) := (w_id (by omega) (by omega)).trans (by omega)
    unfold GF2
    rw [ite_t (decide_eq_true (show ((i : Int) < 64) by omega)), chk_eval (inArrK64 (by omega) (by omega) (by omega)), chk_eval (inArrK64 (by omega) (by omega) (by omega)), w0, Int.toNat_natCast, mid_step _ (by omega)]
    rfl

theorem mid_zero (f : Int → Int) (q : List Int) : mid f q 0 = q := rfl

theorem lF1 : LoopOK Try.prog (fun j st => if j = 7 then SF.fn (FF cF xorF) st else .fail) bF :=
  rloop_ok (L := fun j st => if j = 7 then SF.fn (FF cF xorF) st else .fail) (L' := L0) cS_sound (loopsOK_of (by kernel_rfl)) SF (F := FF cF xorF) (i := 7) (by kernel_rfl) (fun _ => rfl) fun xs hs r h => by
    obtain ⟨by_, u1, i, u2⟩ := xs
    obtain ⟨q, u3⟩ := hs
    obtain ⟨h1, h2⟩ := Tr.chk_some h
    simp only [cF, Bool.and_eq_true, decide_eq_true_eq] at h1
    obtain ⟨e1, e2⟩ := h1
    have e1 : i = ((0 : Nat) : Int) := e1
    subst e1
    exact ⟨_, (mF by_ q e2 64 0 (by omega)).trans (congrArg some (Tr.ret_some h2))⟩
theorem lF2 : LoopOK Try.prog (fun j st => if j = 7 then SF2.fn (FF2 cF xorF) st else .fail) bF :=
  rloop_ok (L := fun j st => if j = 7 then SF2.fn (FF2 cF xorF) st else .fail) (L' := L0) cS_sound (loopsOK_of (by kernel_rfl)) SF2 (F := FF2 cF xorF) (i := 7) (by kernel_rfl) (fun _ => rfl) fun xs hs r h => by
    obtain ⟨by_, u1, i, u2⟩ := xs
    obtain ⟨d, q, u3⟩ := hs
    obtain ⟨h1, h2⟩ := Tr.chk_some h
    simp only [cF, Bool.and_eq_true, decide_eq_true_eq] at h1
    obtain ⟨e1, e2⟩ := h1
    have e1 : i = ((0 : Nat) : Int) := e1
    subst e1
    exact ⟨_, (mF2 by_ d q e2 64 0 (by omega)).trans (congrArg some (Tr.ret_some h2))⟩
theorem lF : LoopOK Try.prog (LF cF xorF) bF := loopOK_or (i := 7) (by kernel_rfl) (fun _ => rfl) (fun _ => rfl) (fun _ => rfl) lF1 lF2

/-- a key, cut or filled to 64 bytes -/
def keyF (key : List Int) : List Int := overL z64 (if (key.length : Int) > 64 then all 32 (shaF key) else key) ++ []
def fillK (key : List Int) (by_ : Int) : List Int := all 64 (xorF by_ (keyF key))
def s45 : CSpec := .pos nF (fun xs _ => shaP xs.1) fun xs _ => ((fillK xs.1 xs.2.1, ()), ())

theorem overL_len {α : Type} (l m : List α) : (overL l m).length = l.length := by
  unfold overL
  rw [List.length_append, List.length_take, List.length_drop]
  omega
theorem keyF_len (key : List Int) : (keyF key).length = 64 := by
  unfold keyF
  rw [List.append_nil, overL_len]
  rfl

theorem TF_eq (key : List Int) (by_ : Int) (hp : shaP key = true) : (TF shaF shaP cF xorF key by_).eval = some ((fillK key by_, ()), ()) := by
  have hc : cF 0 (keyF key) = true := by simp only [cF, keyF_len, decide_true, Bool.and_self]
  unfold TF
  by_cases h : (key.length : Int) > 64
  · have hk : keyF key = overL z64 (all 32 (shaF key)) ++ [] := by unfold keyF; rw [if_pos h]
    rw [ite_t (decide_eq_true h), chk_eval hp]
    simp only
    rw [← hk, chk_eval hc]
    rfl
  · have hk : keyF key = overL z64 key ++ [] := by unfold keyF; rw [if_neg h]
    rw [ite_f (decide_eq_false h)]
    simp only
    rw [← hk, chk_eval hc]
    rfl

theorem ok45 : CSound Try.prog 45 s45 ∧ CLocal s45 :=
  pos_sound (L := LF cF xorF) cS_sound Try.func45 (by kernel_rfl) (loops1 (by kernel_rfl) lF) fun xs hs _ _ hp => by
    obtain ⟨key, by_, u⟩ := xs
    exact (tF shaF shaP cF xorF key by_).trans (TF_eq key by_ hp)

/-! the code -/

abbrev CMF : Ctx := ctx (cM h0 writeF writeP restP sumH fillK shaP)
theorem cM_sound : CtxSound Try.prog CMF ∧ CtxLocal CMF := ctx_sound ⟨ok19, ok20, ok21, ok45, trivial⟩

def cM1 (l : List (List Int)) (n i : Int) (h : Hs) : Bool := decide (n = (l.length : Int)) && (decide (i = 0) && (decide (h.2.1.length ≤ 1000000) && (decide (tot l ≤ 1000000) && decide (l.length ≤ 1000000))))

theorem rest_le (x : List Int) (h : Hs) : (writeF x h).2.1.length ≤ 1000000 := by
  show (absF h.1 (h.2.1 ++ x)).2.length ≤ 1000000
  rw [abs_rest]; omega

theorem mM (key : List Int) (l : List (List Int)) (hl : l.length ≤ 1000000) (ht : tot l ≤ 1000000) (o : List Int) (h' : Hs) : ∀ (m k : Nat) (h : Hs), k + m = l.length → h.2.1.length ≤ 1000000 →
    SM.many (bodyK Try.prog CMF L0 bM) (m + 1) (key, (), (), (), l, (l.length : Int), (k : Int), ()) (o, h, h', ()) = some (.exit 0, encS [0, 4, 5, 6] [bs, .ptr 0 [], .ptr 1 [], .ptr 2 []] eM 37 (key, (), (), (), ()) (o, zP (l.drop k) h, h', ()))
  | 0, k, h, hk, hr => by
    refine rmany_inr ((rM h0 writeF writeP restP sumH fillK shaP key l l.length k o h h').trans ?_) 0
    rw [List.drop_eq_nil_of_le (by omega)]
    simp only [GM, Tr.eval, decide_eq_false (show ¬ ((k : Int) < (l.length : Int)) by omega)]
    rfl
  | m + 1, k, h, hk, hr => by
    have h1 : k < l.length := by omega
    have g1 : l.getD k [] = l[k] := Gen.getD_cons h1 []
    have hle := getElem_tot l k h1
    refine (rmany_inl (d := ((key, (), (), (), l, (l.length : Int), ((k + 1 : Nat) : Int), ()), (o, writeF l[k] h, h', ()))) ((rM h0 writeF writeP restP sumH fillK shaP key l l.length k o h h').trans ?_) (m + 1)).trans
      ((mM key l hl ht o h' m (k + 1) (writeF l[k] h) (by omega) (rest_le _ _)).trans ?_)
    · have w0 : w ((k : Int) + 1) = ((k + 1 : Nat) : Int) := (w_id (by omega) (by omega)).trans (by omega)
      have e1 : writeP l[k] h = true := decide_eq_true (by omega)
      unfold GM
      simp only [Int.toNat_natCast, g1]
      rw [ite_t (decide_eq_true (show ((k : Int) < (l.length : Int)) by omega)), chk_eval (inArr_nat h1), chk_eval e1, w0]
      rfl
    · rw [List.drop_eq_getElem_cons h1]
      simp only [zP, List.foldl_cons]

theorem lM : LoopOK Try.prog (LM cM1 zP) bM :=
  rloop_ok (L := LM cM1 zP) (L' := L0) cM_sound (loopsOK_of (by kernel_rfl)) SM (F := FM cM1 zP) (i := 4) (by kernel_rfl) (fun _ => rfl) fun xs hs r h => by
    obtain ⟨key, u1, u2, u3, l, n, i, u4⟩ := xs
    obtain ⟨o, hh, h', u5⟩ := hs
    obtain ⟨h1, h2⟩ := Tr.chk_some h
    simp only [cM1, Bool.and_eq_true, decide_eq_true_eq] at h1
    obtain ⟨e1, e2, e3, e4, e5⟩ := h1
    have e1 : n = ((List.length (α := List Int) l : Nat) : Int) := e1
    have e2 : i = ((0 : Nat) : Int) := e2
    subst e1; subst e2
    have := mM key l e5 e4 o h' (List.length (α := List Int) l) 0 hh (by omega) e3
    rw [List.drop_zero] at this
    exact ⟨_, this.trans (congrArg some (Tr.ret_some h2))⟩

/-- the code of bytes by a key -/
def macF (key b : List Int) : List Int := shaF (fillK key 92 ++ all 32 (shaF (fillK key 54 ++ b)))
def macP (key : List Int) (l : List (List Int)) : Bool := decide (key.length ≤ 1000000) && (decide (tot l ≤ 1000000) && decide (l.length ≤ 1000000))
def s29 : CSpec := .slp1 [bs, ls] (fun x => macP x.1 x.2.1) d32 fun x => macF x.1 (List.flatten (α := Int) x.2.1)

theorem fillK_len (key : List Int) (by_ : Int) : (fillK key by_).length = 64 := by
  unfold fillK all xorF
  rw [List.length_take, List.length_drop, List.length_map, keyF_len]
  rfl
theorem all_le (n : Nat) (l : List Int) : (all n l).length ≤ n := by unfold all; rw [List.length_take]; omega

theorem TM_eq {key : List Int} {l : List (List Int)} (hp : macP key l = true) : (TM h0 writeF writeP restP sumH fillK shaP cM1 zP key l).eval = some (.v d32 (macF key l.flatten)) := by
  simp only [macP, Bool.and_eq_true, decide_eq_true_eq] at hp
  obtain ⟨p1, p2, p3⟩ := hp
  have f1 := fillK_len key 54
  have f2 := fillK_len key 92
  have hw : ∀ x, writeF x h0 = hashOf x := fun _ => rfl
  have hz : zP l (hashOf (fillK key 54)) = hashOf (fillK key 54 ++ l.flatten) := zP_hash l _ (by omega)
  have ha := all_le 32 (shaF (fillK key 54 ++ l.flatten))
  have hch : writeF (all 32 (shaF (fillK key 54 ++ l.flatten))) (hashOf (fillK key 92)) = hashOf (fillK key 92 ++ all 32 (shaF (fillK key 54 ++ l.flatten))) := write_chain (by omega)
  have k1 : shaP key = true := decide_eq_true (by omega)
  have k2 : ∀ by_, writeP (fillK key by_) h0 = true := fun by_ => decide_eq_true (by have := fillK_len key by_; show 0 + _ ≤ _; omega)
  have k3 : cM1 l (l.length : Int) 0 (hashOf (fillK key 54)) = true := by
    have := hash_rest (fillK key 54)
    simp only [cM1, Bool.and_eq_true, decide_eq_true_eq, true_and]
    omega
  have k4 : writeP (all 32 (shaF (fillK key 54 ++ l.flatten))) (hashOf (fillK key 92)) = true := decide_eq_true (by have := hash_rest (fillK key 92); omega)
  unfold TM
  simp only [hw, hz]
  rw [chk_eval k1, chk_eval (k2 54), chk_eval k3, chk_eval (hash_restP _), chk_eval k1, chk_eval (k2 92), ← shaF_hash, chk_eval k4, hch, chk_eval (hash_restP _), ← shaF_hash]
  rfl

theorem ok29 : CSound Try.prog 29 s29 ∧ CLocal s29 :=
  slpE1 (L := LM cM1 zP) cM_sound Try.func29 (by kernel_rfl) (loops1 (by kernel_rfl) lM) fun xs hx hp => by
    obtain ⟨key, l, u⟩ := xs
    exact (tM h0 writeF writeP restP sumH fillK shaP cM1 zP key l).trans (TM_eq hp)

end Go.Proofs.Ytlkddajnebjlcaa.Mac

end
section
/- Keys of keys (layer 2, mac), and the document's answers: walks. -/
set_option linter.unusedVariables false
set_option maxRecDepth 100000
namespace Go.Proofs.Ytlkddajnebjlcaa.Mac
open Go Vse Go.Proofs Gen
open Sha hiding wb wu getD_cons

abbrev Mc := List Int → List (List Int) → List Int
abbrev Pc := List Int → List (List Int) → Bool
def cN (p : Pc) (M : Mc) : List (Nat × CSpec) := [(29, .slp1 [bs, ls] (fun x => p x.1 x.2.1) d32 fun x => M x.1 x.2.1)]

/-! Extract -/

def T34 (p : Pc) (M : Mc) (salt key : List Int) : Tr AV := .chk (p salt [key]) (.ret (.v d32 (M salt [key])))
theorem t34 (p : Pc) (M : Mc) (salt key : List Int) : nrm (fnS Try.prog (ctx (cN p M)) L0 [d32] Try.f34 (mkArgs [bs, bt] (salt, key, ()))) = (T34 p M salt key).eval := by kernel_rfl

/-! Expand -/

abbrev nE : PSpec := ⟨[bs, .str, i64], [bt, i64], [], [], []⟩
noncomputable def bE : Code := loopAt Try.f30 0
def SE : RSpec := ⟨[0, 1, 2, 8, 9, 10], 40, [bs, .str, i64, .vc 0 0, bt, u8], [.vec 0 u8], [], [.slot 8 u8], fun _ => ([2, 8], [i64, .vc 0 0], [.vec 0 u8])⟩
def GE (p : Pc) (M : Mc) (key : List Int) (s : ByteArray) (many : Int) (last : List Int) (n : Int) (out : List Int) : Tr SE.End :=
  let d : List Int := all 32 (M key [last, strBytes s, [n]])
  .ite (decide ((out.length : Int) < many)) (.chk (p key [last, strBytes s, [n]]) (.chk (Vse.room (out.length + d.length) 1) (.ret (.inl ((key, s, many, (), d, wb (n + 1), ()), (out ++ d, ()))))))
    (.ret (.inr (.exit 0, encS [2, 8] [i64, .vc 0 0] [.vec 0 u8] 40 (many, (), ()) (out, ()))))
theorem rE (p : Pc) (M : Mc) (key : List Int) (s : ByteArray) (many : Int) (last : List Int) (n : Int) (out : List Int) :
    (SE.round (bodyK Try.prog (ctx (cN p M)) L0 bE) (key, s, many, (), last, n, ()) (out, ())).eval = (GE p M key s many last n out).eval := by kernel_rfl

def FE (c : List Int → ByteArray → Int → List Int → Int → List Int → Bool) (X : List Int → ByteArray → Int → List Int) (xs : HL SE.Ts) (hs : HD SE.Es) : Tr (Ex × St) :=
  .chk (c xs.1 xs.2.1 xs.2.2.1 xs.2.2.2.2.1 xs.2.2.2.2.2.1 hs.1) (.ret (.exit 0, encS [2, 8] [i64, .vc 0 0] [.vec 0 u8] 40 (xs.2.2.1, (), ()) (X xs.1 xs.2.1 xs.2.2.1, ())))
def LE (c : List Int → ByteArray → Int → List Int → Int → List Int → Bool) (X : List Int → ByteArray → Int → List Int) : Loops := fun j st => if j = 5 then SE.fn (FE c X) st else .fail
def TE (c : List Int → ByteArray → Int → List Int → Int → List Int → Bool) (X : List Int → ByteArray → Int → List Int) (key : List Int) (s : ByteArray) (many : Int) : Tr nE.Out :=
  let bad : Tr nE.Out := .ret (([], 1, ()), ())
  let out : List Int := X key s many
  .ite (decide (many < 0)) bad (.ite (decide (many > 8160)) bad (.chk (c key s many [] 1 []) (.chk (decide ((0 : Int) ≤ 0) && (decide (0 ≤ many) && (decide (many = many) && decide (many ≤ (out.length : Int))))) (.ret (((out.take many.toNat).drop (0 : Int).toNat, 0, ()), ())))))
theorem tE (p : Pc) (M : Mc) (c : List Int → ByteArray → Int → List Int → Int → List Int → Bool) (X : List Int → ByteArray → Int → List Int) (key : List Int) (s : ByteArray) (many : Int) :
    (fnP Try.prog (ctx (cN p M)) (LE c X) nE Try.f30 (key, s, many, ()) ()).eval = (TE c X key s many).eval := by kernel_rfl

/-! Equal -/

noncomputable def bQ : Code := loopAt Try.f31 0
def SQ : RSpec := ⟨[1, 5, 13, 14, 15], 31, [bs, u8, bs, i64, i64], [], [], [], fun _ => ([5], [u8], [])⟩
def GQ (b : List Int) (u : Int) (a : List Int) (n i : Int) : Tr SQ.End :=
  .ite (decide (i < n)) (.chk (inArr i a.length) (.chk (inArr i b.length) (.ret (.inl ((b, orI .u8 u (xorI .u8 (a.getD i.toNat 0) (b.getD i.toNat 0)), a, n, w (i + 1), ()), ())))))
    (.ret (.inr (.exit 0, encS [5] [u8] [] 31 (u, ()) ())))
theorem rQ (b : List Int) (u : Int) (a : List Int) (n i : Int) : (SQ.round (bodyK Try.prog (ctx []) L0 bQ) (b, u, a, n, i, ()) ()).eval = (GQ b u a n i).eval := by kernel_rfl
def FQ (c : List Int → Int → List Int → Int → Int → Bool) (X : List Int → List Int → Int) (xs : HL SQ.Ts) (hs : HD SQ.Es) : Tr (Ex × St) :=
  .chk (c xs.1 xs.2.1 xs.2.2.1 xs.2.2.2.1 xs.2.2.2.2.1) (.ret (.exit 0, encS [5] [u8] [] 31 (X xs.2.2.1 xs.1, ()) ()))
def LQ (c : List Int → Int → List Int → Int → Int → Bool) (X : List Int → List Int → Int) : Loops := fun j st => if j = 5 then SQ.fn (FQ c X) st else .fail
def TQ (c : List Int → Int → List Int → Int → Int → Bool) (X : List Int → List Int → Int) (a b : List Int) : Tr AV :=
  .ite ((a.length : Int) != (b.length : Int)) (.ret (.v .bool false)) (.chk (c b 0 a (a.length : Int) 0) (.ret (.v .bool (X a b == 0))))
theorem tQ (c : List Int → Int → List Int → Int → Int → Bool) (X : List Int → List Int → Int) (a b : List Int) :
    nrm (fnS Try.prog (ctx []) (LQ c X) [.bool] Try.f31 (mkArgs [bs, bs] (a, b, ()))) = (TQ c X a b).eval := by kernel_rfl

end Go.Proofs.Ytlkddajnebjlcaa.Mac

end
section
/- The document's codes and keys (layer 2): walks. -/
set_option linter.unusedVariables false
set_option maxRecDepth 100000
namespace Go.Proofs.Ytlkddajnebjlcaa.Mac
open Go Vse Go.Proofs Gen
open Sha hiding wb wu getD_cons

/-! a key, filled up -/

def cR (R : List Int → List Int) (p : List Int → Bool) : List (Nat × CSpec) := [(17, .slp1 [bs] (fun x => p x.1) d32 fun x => R x.1)]
noncomputable def bX : Code := loopAt Try.f46 0
def SX : RSpec := ⟨[0, 1, 6, 7], 36, [bs, u8, .vc 0 0, i64], [.vec 0 u8], [], [.slot 6 u8], fun _ => ([6], [.vc 0 0], [.vec 0 u8])⟩
def GX (key : List Int) (by_ i : Int) (out : List Int) : Tr SX.End :=
  .ite (decide (i < 64)) (.ite (decide (i < (key.length : Int)))
      (.chk (inArr i key.length) (.chk (Vse.room (out.length + [xorI .u8 (key.getD i.toNat 0) by_].length) 1) (.ret (.inl ((key, by_, (), w (i + 1), ()), (out ++ [xorI .u8 (key.getD i.toNat 0) by_], ()))))))
      (.chk (Vse.room (out.length + [by_].length) 1) (.ret (.inl ((key, by_, (), w (i + 1), ()), (out ++ [by_], ()))))))
    (.ret (.inr (.exit 0, encS [6] [.vc 0 0] [.vec 0 u8] 36 ((), ()) (out, ()))))
theorem rX (R : List Int → List Int) (p : List Int → Bool) (key : List Int) (by_ i : Int) (out : List Int) : (SX.round (bodyK Try.prog (ctx (cR R p)) L0 bX) (key, by_, (), i, ()) (out, ())).eval = (GX key by_ i out).eval := by kernel_rfl
def SX2 : RSpec := ⟨[0, 1, 6, 7], 36, [bs, u8, .vc 1 0, i64], [.dead, .vec 0 u8], [.box d32], [.slot 6 u8], fun _ => ([6], [.vc 1 0], [.dead, .vec 0 u8])⟩
def GX2 (key : List Int) (by_ i : Int) (out : List Int) : Tr SX2.End :=
  .ite (decide (i < 64)) (.ite (decide (i < (key.length : Int)))
      (.chk (inArr i key.length) (.chk (Vse.room (out.length + [xorI .u8 (key.getD i.toNat 0) by_].length) 1) (.ret (.inl ((key, by_, (), w (i + 1), ()), (out ++ [xorI .u8 (key.getD i.toNat 0) by_], ()))))))
      (.chk (Vse.room (out.length + [by_].length) 1) (.ret (.inl ((key, by_, (), w (i + 1), ()), (out ++ [by_], ()))))))
    (.ret (.inr (.exit 0, encS [6] [.vc 1 0] [.dead, .vec 0 u8] 36 ((), ()) (out, ()))))
theorem rX2 (R : List Int → List Int) (p : List Int → Bool) (key : List Int) (by_ i : Int) (out : List Int) : (SX2.round (bodyK Try.prog (ctx (cR R p)) L0 bX) (key, by_, (), i, ()) (out, ())).eval = (GX2 key by_ i out).eval := by kernel_rfl

def FX (c : List Int → Int → List Int → Bool) (X : List Int → Int → List Int) (xs : HL SX.Ts) (hs : HD SX.Es) : Tr (Ex × St) :=
  .chk (c xs.1 xs.2.2.2.1 hs.1) (.ret (.exit 0, encS [6] [.vc 0 0] [.vec 0 u8] 36 ((), ()) (X xs.1 xs.2.1, ())))
def FX2 (c : List Int → Int → List Int → Bool) (X : List Int → Int → List Int) (xs : HL SX2.Ts) (hs : HD SX2.Es) : Tr (Ex × St) :=
  .chk (c xs.1 xs.2.2.2.1 hs.1) (.ret (.exit 0, encS [6] [.vc 1 0] [.dead, .vec 0 u8] 36 ((), ()) (X xs.1 xs.2.1, ())))
def LX (c : List Int → Int → List Int → Bool) (X : List Int → Int → List Int) : Loops := fun j st => if j = 6 then orL (fun st => heapIs SX.E0 st.heap) (SX.fn (FX c X)) (SX2.fn (FX2 c X)) st else .fail
abbrev nX : PSpec := ⟨[bs, u8], [.vc 0 0], [], [.vec 0 u8], []⟩
def TX (R : List Int → List Int) (p : List Int → Bool) (c : List Int → Int → List Int → Bool) (X : List Int → Int → List Int) (key : List Int) (by_ : Int) : Tr nX.Out :=
  let go (k : List Int) : Tr nX.Out := .chk (c k 0 []) (.ret (((), ()), (X k by_, ())))
  .ite (decide ((key.length : Int) > 64)) (.chk (p key) (go (all 32 (R key)))) (go key)
theorem tX (R : List Int → List Int) (p : List Int → Bool) (c : List Int → Int → List Int → Bool) (X : List Int → Int → List Int) (key : List Int) (by_ : Int) :
    (fnP Try.prog (ctx (cR R p)) (LX c X) nX Try.f46 (key, by_, ()) ()).eval = (TX R p c X key by_).eval := by kernel_rfl

/-! the code -/

def cRM (X : List Int → Int → List Int) (px : List Int → Bool) (R : List Int → List Int) (p : List Int → Bool) : List (Nat × CSpec) :=
  [(46, .pos nX (fun xs _ => px xs.1) fun xs _ => (((), ()), (X xs.1 xs.2.1, ()))), (17, .slp1 [bs] (fun x => p x.1) d32 fun x => R x.1)]
def T33 (X : List Int → Int → List Int) (px : List Int → Bool) (R : List Int → List Int) (p : List Int → Bool) (key b : List Int) : Tr AV :=
  let d : List Int := all 32 (R (X key 54 ++ b))
  .chk (px key) (.chk (Vse.room ((X key 54).length + b.length) 1) (.chk (p (X key 54 ++ b)) (.chk (px key) (.chk (Vse.room ((X key 92).length + d.length) 1) (.chk (p (X key 92 ++ d)) (.ret (.v d32 (R (X key 92 ++ d)))))))))
theorem t33 (X : List Int → Int → List Int) (px : List Int → Bool) (R : List Int → List Int) (p : List Int → Bool) (key b : List Int) :
    nrm (fnS Try.prog (ctx (cRM X px R p)) L0 [d32] Try.f33 (mkArgs [bs, bs] (key, b, ()))) = (T33 X px R p key b).eval := by kernel_rfl

/-! keys -/

def cRE (p : List Int → List Int → Bool) (M : List Int → List Int → List Int) : List (Nat × CSpec) := [(33, .slp1 [bs, bs] (fun x => p x.1 x.2.1) d32 fun x => M x.1 x.2.1)]
noncomputable def bY : Code := loopAt Try.f32 0
def SY : RSpec := ⟨[0, 1, 2, 8, 9, 10], 44, [bs, .str, i64, .vc 0 0, .vc 1 0, i64], [.vec 0 u8, .vec 0 u8], [], [.slot 8 u8, .slot 9 u8], fun _ => ([2, 8], [i64, .vc 0 0], [.vec 0 u8])⟩
def GY (p : List Int → List Int → Bool) (M : List Int → List Int → List Int) (key : List Int) (s : ByteArray) (many n : Int) (out last : List Int) : Tr SY.End :=
  let m1 : List Int := [] ++ last
  let m2 : List Int := m1 ++ strBytes s
  let m : List Int := m2 ++ [wb n]
  let d : List Int := [] ++ all 32 (M key m)
  .ite (decide ((out.length : Int) < many)) (.chk (Vse.room (([] : List Int).length + last.length) 1) (.chk (Vse.room (m1.length + (strBytes s).length) 1) (.chk (Vse.room (m2.length + [wb n].length) 1) (.chk (p key m)
      (.chk (Vse.room (([] : List Int).length + (all 32 (M key m)).length) 1) (.chk (Vse.room (out.length + d.length) 1) (.ret (.inl ((key, s, many, (), (), w (n + 1), ()), (out ++ d, d, ()))))))))))
    (.ret (.inr (.exit 0, encS [2, 8] [i64, .vc 0 0] [.vec 0 u8] 44 (many, (), ()) (out, ()))))
theorem rY (p : List Int → List Int → Bool) (M : List Int → List Int → List Int) (key : List Int) (s : ByteArray) (many n : Int) (out last : List Int) :
    (SY.round (bodyK Try.prog (ctx (cRE p M)) L0 bY) (key, s, many, (), (), n, ()) (out, last, ())).eval = (GY p M key s many n out last).eval := by kernel_rfl

def FY (c : List Int → ByteArray → Int → Int → List Int → List Int → Bool) (X : List Int → ByteArray → Int → List Int) (xs : HL SY.Ts) (hs : HD SY.Es) : Tr (Ex × St) :=
  .chk (c xs.1 xs.2.1 xs.2.2.1 xs.2.2.2.2.2.1 hs.1 hs.2.1) (.ret (.exit 0, encS [2, 8] [i64, .vc 0 0] [.vec 0 u8] 44 (xs.2.2.1, (), ()) (X xs.1 xs.2.1 xs.2.2.1, ())))
def LY (c : List Int → ByteArray → Int → Int → List Int → List Int → Bool) (X : List Int → ByteArray → Int → List Int) : Loops := fun j st => if j = 6 then SY.fn (FY c X) st else .fail
def TY (c : List Int → ByteArray → Int → Int → List Int → List Int → Bool) (X : List Int → ByteArray → Int → List Int) (key : List Int) (s : ByteArray) (many : Int) : Tr nE.Out :=
  let bad : Tr nE.Out := .ret (([], 1, ()), ())
  let out : List Int := X key s many
  .ite (decide (many < 0)) bad (.ite (decide (many > 8160)) bad (.chk (c key s many 1 [] []) (.chk (decide (0 ≤ many) && decide (many ≤ (out.length : Int))) (.ret ((out.take many.toNat, 0, ()), ())))))
theorem tY (p : List Int → List Int → Bool) (M : List Int → List Int → List Int) (c : List Int → ByteArray → Int → Int → List Int → List Int → Bool) (X : List Int → ByteArray → Int → List Int) (key : List Int) (s : ByteArray) (many : Int) :
    (fnP Try.prog (ctx (cRE p M)) (LY c X) nE Try.f32 (key, s, many, ()) ()).eval = (TY c X key s many).eval := by kernel_rfl

end Go.Proofs.Ytlkddajnebjlcaa.Mac

end
section
/- Keys of keys, codes that are the same (layer 2, mac): what they are. -/
set_option linter.unusedVariables false
set_option maxRecDepth 100000
namespace Go.Proofs.Ytlkddajnebjlcaa.Mac
open Go Vse Go.Proofs Gen
open Sha hiding wb wu getD_cons

theorem outL_len (s : List Int) : ∀ (m i : Nat) (q : List Int), (outL s i m q).length = q.length
  | 0, i, q => rfl
  | m + 1, i, q => by rw [outL, outL_len s m, List.length_set]
theorem outF_len (s q : List Int) : (outF s q).length = q.length := outL_len s 32 0 q
theorem shaF_len (b : List Int) : (shaF b).length = 32 := by
  rw [shaF_hash]
  unfold sumH
  rw [outF_len]
  rfl
theorem macF_len (key b : List Int) : (macF key b).length = 32 := shaF_len _
theorem all_id {n : Nat} {l : List Int} (h : l.length = n) : all n l = l := by
  subst h
  unfold all
  rw [List.drop_zero, List.take_length]
theorem bytesStr_size (l : List Int) : (bytesStr l).size = l.length := by
  have : ∀ (l : List Int) (r : ByteArray), (l.foldl (fun r n => r.push (UInt8.ofNat n.toNat)) r).size = r.size + l.length := by
    intro l
    induction l with
    | nil => intro r; rfl
    | cons x l ih => intro r; rw [List.foldl_cons, ih, ByteArray.size_push, List.length_cons]; omega
  have := this l ByteArray.empty
  rw [show ByteArray.empty.size = 0 from rfl, Nat.zero_add] at this
  exact this

/-! Extract -/

abbrev macL : Mc := fun k l => macF k (List.flatten l)
abbrev CN : Ctx := ctx (cN macP macL)
theorem cN_sound : CtxSound Try.prog CN ∧ CtxLocal CN := ctx_sound ⟨ok29, trivial⟩
def oneP (key b : List Int) : Bool := decide (key.length ≤ 1000000) && decide (b.length ≤ 1000000)
def s34 : CSpec := .slp1 [bs, bt] (fun x => oneP x.1 x.2.1) d32 fun x => macF x.1 x.2.1
theorem ok34 : CSound Try.prog 34 s34 ∧ CLocal s34 :=
  slpE1 (L := L0) cN_sound Try.func34 (by kernel_rfl) (noLoopsL (by kernel_rfl)) fun xs hx hp => by
    obtain ⟨salt, key, u⟩ := xs
    have hp : oneP salt key = true := hp
    simp only [oneP, Bool.and_eq_true, decide_eq_true_eq] at hp
    have e1 : macP salt [key] = true := by simp only [macP, tot, List.map_cons, List.map_nil, List.sum_cons, List.sum_nil, List.length_cons, List.length_nil, Bool.and_eq_true, decide_eq_true_eq]; omega
    have e2 : (T34 macP macL salt key).eval = some (.v d32 (macF salt key)) := by
      unfold T34
      rw [chk_eval e1]
      show some (AV.v d32 (macF salt [key].flatten)) = _
      rw [List.flatten_cons, List.flatten_nil, List.append_nil]
    exact (t34 macP macL salt key).trans e2

/-! Expand -/

def blkE (key : List Int) (s : ByteArray) (last : List Int) (n : Int) : List Int := macF key [last, strBytes s, [n]].flatten
def expL (key : List Int) (s : ByteArray) (many : Int) : Nat → List Int → Int → List Int → List Int
  | 0, _, _, out => out
  | f + 1, last, n, out => if (out.length : Int) < many then expL key s many f (blkE key s last n) (wb (n + 1)) (out ++ blkE key s last n) else out
def expX (key : List Int) (s : ByteArray) (many : Int) : List Int := expL key s many 255 [] 1 []
def cE1 (key : List Int) (s : ByteArray) (many : Int) (last : List Int) (n : Int) (out : List Int) : Bool :=
  decide (last = []) && (decide (n = 1) && (decide (out = []) && (decide (many ≤ 8160) && (decide (key.length ≤ 1000000) && decide (s.size ≤ 100000)))))

theorem mE {key : List Int} {s : ByteArray} (hk : key.length ≤ 1000000) (hs : s.size ≤ 100000) (many : Int) (hm : many ≤ 8160) : ∀ (f : Nat) (last : List Int) (n : Int) (out : List Int), many ≤ (out.length : Int) + 32 * f → last.length ≤ 32 → 
    SE.many (bodyK Try.prog CN L0 bE) (f + 1) (key, s, many, (), last, n, ()) (out, ()) = some (.exit 0, encS [2, 8] [i64, .vc 0 0] [.vec 0 u8] 40 (many, (), ()) (expL key s many f last n out, ()))
  | 0, last, n, out, h, hl => by
    refine rmany_inr ((rE macP macL key s many last n out).trans ?_) 0
    unfold GE
    rw [ite_f (decide_eq_false (by omega))]
    rfl
  | f + 1, last, n, out, h, hl => by
    by_cases hc : (out.length : Int) < many
    · have hb : all 32 (macL key [last, strBytes s, [n]]) = blkE key s last n := all_id (macF_len _ _)
      have hbl : (blkE key s last n).length = 32 := macF_len _ _
      refine (rmany_inl (d := ((key, s, many, (), blkE key s last n, wb (n + 1), ()), (out ++ blkE key s last n, ()))) ((rE macP macL key s many last n out).trans ?_) (f + 1)).trans
        ((mE hk hs many hm f (blkE key s last n) (wb (n + 1)) (out ++ blkE key s last n) (by rw [List.length_append, hbl]; omega) (by omega)).trans ?_)
      · have e1 : macP key [last, strBytes s, [n]] = true := by
          have := strBytes_len s
          simp only [macP, tot, List.map_cons, List.map_nil, List.sum_cons, List.sum_nil, List.length_cons, List.length_nil, Bool.and_eq_true, decide_eq_true_eq]
          omega
        have e2 : Vse.room (out.length + (blkE key s last n).length) 1 = true := by simp only [Vse.room, decide_eq_true_eq]; omega
        unfold GE
        simp only [hb]
        rw [ite_t (decide_eq_true hc), chk_eval e1, chk_eval e2]
        rfl
      · simp only [expL]
        rw [if_pos hc]
    · refine rmany_inr ((rE macP macL key s many last n out).trans ?_) (f + 1)
      unfold GE
      rw [ite_f (decide_eq_false hc)]
      simp only [expL]
      rw [if_neg hc]
      rfl

theorem lE : LoopOK Try.prog (LE cE1 expX) bE :=
  rloop_ok (L := LE cE1 expX) (L' := L0) cN_sound (loopsOK_of (by kernel_rfl)) SE (F := FE cE1 expX) (i := 5) (by kernel_rfl) (fun _ => rfl) fun xs hs r h => by
    obtain ⟨key, s, many, u1, last, n, u2⟩ := xs
    obtain ⟨out, u3⟩ := hs
    obtain ⟨h1, h2⟩ := Tr.chk_some h
    simp only [cE1, Bool.and_eq_true, decide_eq_true_eq] at h1
    obtain ⟨e1, e2, e3, e4, e5, e6⟩ := h1
    subst e1; subst e2; subst e3
    exact ⟨_, (mE e5 e6 many e4 255 [] 1 [] (by rw [List.length_nil]; omega) (by simp)).trans (congrArg some (Tr.ret_some h2))⟩

theorem expL_len (key : List Int) (s : ByteArray) (many : Int) : ∀ (f : Nat) (last : List Int) (n : Int) (out : List Int), many ≤ (out.length : Int) + 32 * f → many ≤ ((expL key s many f last n out).length : Int)
  | 0, last, n, out, h => by simp only [expL]; omega
  | f + 1, last, n, out, h => by
    simp only [expL]
    by_cases hc : (out.length : Int) < many
    · have hbl : (blkE key s last n).length = 32 := macF_len _ _
      rw [if_pos hc]
      exact expL_len key s many f _ _ _ (by rw [List.length_append, hbl]; omega)
    · rw [if_neg hc]; omega

def expP (key : List Int) (s : ByteArray) : Bool := decide (key.length ≤ 1000000) && decide (s.size ≤ 100000)
def expF (key : List Int) (s : ByteArray) (many : Int) : List Int × Int × Unit := if many < 0 ∨ many > 8160 then ([], 1, ()) else ((expX key s many).take many.toNat, 0, ())
def s30 : CSpec := .pos nE (fun xs _ => expP xs.1 xs.2.1) fun xs _ => (expF xs.1 xs.2.1 xs.2.2.1, ())

theorem TE_eq {key : List Int} {s : ByteArray} (hp : expP key s = true) (many : Int) : (TE cE1 expX key s many).eval = some (expF key s many, ()) := by
  simp only [expP, Bool.and_eq_true, decide_eq_true_eq] at hp
  unfold TE expF
  simp only
  by_cases h1 : many < 0
  · rw [ite_t (decide_eq_true h1), if_pos (.inl h1)]; rfl
  rw [ite_f (decide_eq_false h1)]
  by_cases h2 : many > 8160
  · rw [ite_t (decide_eq_true h2), if_pos (.inr h2)]; rfl
  rw [ite_f (decide_eq_false h2), if_neg (by omega)]
  have e1 : cE1 key s many [] 1 [] = true := by
    simp only [cE1, Bool.and_eq_true, decide_eq_true_eq, true_and]
    omega
  have e2 := expL_len key s many 255 [] 1 [] (by rw [List.length_nil]; omega)
  have e3 : (decide ((0 : Int) ≤ 0) && (decide (0 ≤ many) && (decide True && decide (many ≤ ((expX key s many).length : Int))))) = true := by
    simp only [Bool.and_eq_true, decide_eq_true_eq, true_and]
    exact ⟨by omega, by omega, e2⟩
  rw [chk_eval e1, chk_eval e3]
  show some ((((expX key s many).take many.toNat).drop 0, (0 : Int), ()), ()) = _
  rw [List.drop_zero]

theorem ok30 : CSound Try.prog 30 s30 ∧ CLocal s30 :=
  pos_sound (L := LE cE1 expX) cN_sound Try.func30 (by kernel_rfl) (loops1 (by kernel_rfl) lE) fun xs hs _ _ hp => by
    obtain ⟨key, s, many, u⟩ := xs
    exact (tE macP macL cE1 expX key s many).trans (TE_eq hp many)

/-! Equal -/

def orF : List Int → List Int → Int → Int
  | x :: a, y :: b, u => orF a b (orI .u8 u (xorI .u8 x y))
  | _, _, u => u
def cQ (b : List Int) (u : Int) (a : List Int) (n i : Int) : Bool := decide (u = 0) && (decide (n = (a.length : Int)) && (decide (i = 0) && (decide (a.length = b.length) && decide (a.length ≤ 9223372036854775807))))
def orX (a b : List Int) : Int := orF a b 0

theorem mQ (a b : List Int) (hab : a.length = b.length) (hm : a.length ≤ 9223372036854775807) : ∀ (m k : Nat) (u : Int), k + m = a.length →
    SQ.many (bodyK Try.prog (ctx []) L0 bQ) (m + 1) (b, u, a, (a.length : Int), (k : Int), ()) () = some (.exit 0, encS [5] [u8] [] 31 (orF (a.drop k) (b.drop k) u, ()) ())
  | 0, k, u, h => by
    refine rmany_inr ((rQ b u a a.length k).trans ?_) 0
    unfold GQ
    rw [ite_f (decide_eq_false (by omega)), List.drop_eq_nil_of_le (by omega : a.length ≤ k)]
    rfl
  | m + 1, k, u, h => by
    have h1 : k < a.length := by omega
    have h2 : k < b.length := by omega
    have w0 : w ((k : Int) + 1) = ((k + 1 : Nat) : Int) := (w_id (by omega) (by omega)).trans (by omega)
    have g1 : a.getD k 0 = a[k] := Gen.getD_cons h1 0
    have g2 : b.getD k 0 = b[k] := Gen.getD_cons h2 0
    refine (rmany_inl (d := ((b, orI .u8 u (xorI .u8 a[k] b[k]), a, (a.length : Int), ((k + 1 : Nat) : Int), ()), ())) ((rQ b u a a.length k).trans ?_) (m + 1)).trans ((mQ a b hab hm m (k + 1) _ (by omega)).trans ?_)
    · unfold GQ
      rw [ite_t (decide_eq_true (show (k : Int) < (a.length : Int) by omega)), chk_eval (inArr_nat h1), chk_eval (inArr_nat h2), Int.toNat_natCast, g1, g2, w0]
      rfl
    · rw [List.drop_eq_getElem_cons h1, List.drop_eq_getElem_cons h2]
      rfl

theorem lQ : LoopOK Try.prog (LQ cQ orX) bQ :=
  rloop_ok (L := LQ cQ orX) (L' := L0) nil_sound (loopsOK_of (by kernel_rfl)) SQ (F := FQ cQ orX) (i := 5) (by kernel_rfl) (fun _ => rfl) fun xs hs r h => by
    obtain ⟨b, u, a, n, i, u1⟩ := xs
    obtain ⟨h1, h2⟩ := Tr.chk_some h
    simp only [cQ, Bool.and_eq_true, decide_eq_true_eq] at h1
    obtain ⟨e1, e2, e3, e4, e5⟩ := h1
    have e2 : n = ((List.length (α := Int) a : Nat) : Int) := e2
    have e3 : i = ((0 : Nat) : Int) := e3
    subst e1; subst e2; subst e3
    exact ⟨_, (mQ a b e4 e5 (List.length (α := Int) a) 0 0 (by omega)).trans (congrArg some (Tr.ret_some h2))⟩

def eqF (a b : List Int) : Bool := bif (a.length : Int) != (b.length : Int) then false else orX a b == 0
def s31 : CSpec := .slp1 [bs, bs] (fun _ => true) .bool fun x => eqF x.1 x.2.1
theorem ok31 : CSound Try.prog 31 s31 ∧ CLocal s31 :=
  slpE1 (L := LQ cQ orX) nil_sound Try.func31 (by kernel_rfl) (loops1 (by kernel_rfl) lQ) fun xs hx hp => by
    obtain ⟨a, b, u⟩ := xs
    have hl : List.length (α := Int) a ≤ 9223372036854775807 := hx.1.1
    refine (tQ cQ orX a b).trans ?_
    have : (TQ cQ orX a b).eval = some (.v .bool (eqF a b)) := by
      unfold TQ eqF
      by_cases h : List.length (α := Int) a = List.length (α := Int) b
      · have e1 : ((List.length (α := Int) a : Int) != (List.length (α := Int) b : Int)) = false := by simp [h]
        have e2 : cQ b 0 a (List.length (α := Int) a : Int) 0 = true := by
          simp only [cQ, Bool.and_eq_true, decide_eq_true_eq, true_and]
          exact ⟨h, hl⟩
        rw [ite_f e1, chk_eval e2, e1]
        rfl
      · have e1 : ((List.length (α := Int) a : Int) != (List.length (α := Int) b : Int)) = true := by simp; omega
        rw [ite_t e1, e1]
        rfl
    exact this

end Go.Proofs.Ytlkddajnebjlcaa.Mac

end
section
/- The document's codes and keys (layer 2): what they are; the law's own trial. -/
set_option linter.unusedVariables false
set_option maxRecDepth 100000
namespace Go.Proofs.Ytlkddajnebjlcaa.Mac
open Go Vse Go.Proofs Gen
open Sha hiding wb wu getD_cons

/-! a key, filled up -/

theorem cR_sound : CtxSound Try.prog (ctx (cR rsumF filledP)) ∧ CtxLocal (ctx (cR rsumF filledP)) := ctx_sound ⟨ok17, trivial⟩
def xEl (k : List Int) (by_ : Int) (i : Nat) : Int := if i < k.length then xorI .u8 (k.getD i 0) by_ else by_
def xL (k : List Int) (by_ : Int) (i : Nat) : List Int := (List.range i).map (xEl k by_)
def xX (k : List Int) (by_ : Int) : List Int := xL k by_ 64
theorem xL_len (k : List Int) (by_ : Int) (i : Nat) : (xL k by_ i).length = i := by unfold xL; rw [List.length_map, List.length_range]
theorem xL_step (k : List Int) (by_ : Int) (i : Nat) : xL k by_ (i + 1) = xL k by_ i ++ [xEl k by_ i] := by unfold xL; rw [List.range_succ, List.map_append]; rfl
def cX (k : List Int) (i : Int) (out : List Int) : Bool := decide (i = 0) && decide (out = [])

theorem mX (key : List Int) (by_ : Int) : ∀ (m i : Nat), i + m = 64 →
    SX.many (bodyK Try.prog (ctx (cR rsumF filledP)) L0 bX) (m + 1) (key, by_, (), (i : Int), ()) (xL key by_ i, ()) = some (.exit 0, encS [6] [.vc 0 0] [.vec 0 u8] 36 ((), ()) (xX key by_, ()))
  | 0, i, h => by
    refine rmany_inr ((rX rsumF filledP key by_ i _).trans ?_) 0
    have : i = 64 := by omega
    subst this
    unfold GX
    rw [ite_f (decide_eq_false (by omega))]
    rfl
  | m + 1, i, h => by
    refine (rmany_inl (d := ((key, by_, (), ((i + 1 : Nat) : Int), ()), (xL key by_ (i + 1), ()))) ((rX rsumF filledP key by_ i _).trans ?_) (m + 1)).trans (mX key by_ m (i + 1) (by omega))
    have w0 : w ((i : Int) + 1) = ((i + 1 : Nat) : Int) := (w_id (by omega) (by omega)).trans (by omega)
    have e1 : ∀ x : Int, Vse.room ((xL key by_ i).length + [x].length) 1 = true := fun x => by simp only [Vse.room, xL_len, decide_eq_true_eq, List.length_singleton]; omega
    unfold GX
    rw [ite_t (decide_eq_true (show (i : Int) < 64 by omega)), w0]
    by_cases hi : i < key.length
    · have hx : xEl key by_ i = xorI .u8 (key.getD i 0) by_ := if_pos hi
      rw [ite_t (decide_eq_true (show (i : Int) < (key.length : Int) by omega)), chk_eval (inArr_nat hi), chk_eval (e1 _), Int.toNat_natCast, xL_step, hx]
      rfl
    · have hx : xEl key by_ i = by_ := if_neg hi
      rw [ite_f (decide_eq_false (show ¬ (i : Int) < (key.length : Int) by omega)), chk_eval (e1 _), xL_step, hx]
      rfl

theorem mX2 (key : List Int) (by_ : Int) : ∀ (m i : Nat), i + m = 64 →
    SX2.many (bodyK Try.prog (ctx (cR rsumF filledP)) L0 bX) (m + 1) (key, by_, (), (i : Int), ()) (xL key by_ i, ()) = some (.exit 0, encS [6] [.vc 1 0] [.dead, .vec 0 u8] 36 ((), ()) (xX key by_, ()))
  | 0, i, h => by
    refine rmany_inr ((rX2 rsumF filledP key by_ i _).trans ?_) 0
    have : i = 64 := by omega
    subst this
    unfold GX2
    rw [ite_f (decide_eq_false (by omega))]
    rfl
  | m + 1, i, h => by
    refine (rmany_inl (d := ((key, by_, (), ((i + 1 : Nat) : Int), ()), (xL key by_ (i + 1), ()))) ((rX2 rsumF filledP key by_ i _).trans ?_) (m + 1)).trans (mX2 key by_ m (i + 1) (by omega))
    have w0 : w ((i : Int) + 1) = ((i + 1 : Nat) : Int) := (w_id (by omega) (by omega)).trans (by omega)
    have e1 : ∀ x : Int, Vse.room ((xL key by_ i).length + [x].length) 1 = true := fun x => by simp only [Vse.room, xL_len, decide_eq_true_eq, List.length_singleton]; omega
    unfold GX2
    rw [ite_t (decide_eq_true (show (i : Int) < 64 by omega)), w0]
    by_cases hi : i < key.length
    · have hx : xEl key by_ i = xorI .u8 (key.getD i 0) by_ := if_pos hi
      rw [ite_t (decide_eq_true (show (i : Int) < (key.length : Int) by omega)), chk_eval (inArr_nat hi), chk_eval (e1 _), Int.toNat_natCast, xL_step, hx]
      rfl
    · have hx : xEl key by_ i = by_ := if_neg hi
      rw [ite_f (decide_eq_false (show ¬ (i : Int) < (key.length : Int) by omega)), chk_eval (e1 _), xL_step, hx]
      rfl

theorem lX1 : LoopOK Try.prog (fun j st => if j = 6 then SX.fn (FX cX xX) st else .fail) bX :=
  rloop_ok (L := fun j st => if j = 6 then SX.fn (FX cX xX) st else .fail) (L' := L0) cR_sound (loopsOK_of (by kernel_rfl)) SX (F := FX cX xX) (i := 6) (by kernel_rfl) (fun _ => rfl) fun xs hs r h => by
    obtain ⟨key, by_, u1, i, u2⟩ := xs
    obtain ⟨q, u3⟩ := hs
    obtain ⟨h1, h2⟩ := Tr.chk_some h
    simp only [cX, Bool.and_eq_true, decide_eq_true_eq] at h1
    obtain ⟨e1, e2⟩ := h1
    have e1 : i = ((0 : Nat) : Int) := e1
    subst e1; subst e2
    exact ⟨_, (mX key by_ 64 0 (by omega)).trans (congrArg some (Tr.ret_some h2))⟩
theorem lX2 : LoopOK Try.prog (fun j st => if j = 6 then SX2.fn (FX2 cX xX) st else .fail) bX :=
  rloop_ok (L := fun j st => if j = 6 then SX2.fn (FX2 cX xX) st else .fail) (L' := L0) cR_sound (loopsOK_of (by kernel_rfl)) SX2 (F := FX2 cX xX) (i := 6) (by kernel_rfl) (fun _ => rfl) fun xs hs r h => by
    obtain ⟨key, by_, u1, i, u2⟩ := xs
    obtain ⟨q, u3⟩ := hs
    obtain ⟨h1, h2⟩ := Tr.chk_some h
    simp only [cX, Bool.and_eq_true, decide_eq_true_eq] at h1
    obtain ⟨e1, e2⟩ := h1
    have e1 : i = ((0 : Nat) : Int) := e1
    subst e1; subst e2
    exact ⟨_, (mX2 key by_ 64 0 (by omega)).trans (congrArg some (Tr.ret_some h2))⟩
theorem lX : LoopOK Try.prog (LX cX xX) bX := loopOK_or (i := 6) (by kernel_rfl) (fun _ => rfl) (fun _ => rfl) (fun _ => rfl) lX1 lX2

def keyR (key : List Int) : List Int := if (key.length : Int) > 64 then all 32 (rsumF key) else key
def xorK (key : List Int) (by_ : Int) : List Int := xX (keyR key) by_
theorem xorK_len (key : List Int) (by_ : Int) : (xorK key by_).length = 64 := xL_len _ _ _
def s46 : CSpec := .pos nX (fun xs _ => filledP xs.1) fun xs _ => (((), ()), (xorK xs.1 xs.2.1, ()))

theorem TX_eq (key : List Int) (by_ : Int) (hp : filledP key = true) : (TX rsumF filledP cX xX key by_).eval = some (((), ()), (xorK key by_, ())) := by
  have hc : ∀ k : List Int, cX k 0 [] = true := fun k => rfl
  unfold TX xorK keyR
  by_cases h : (key.length : Int) > 64
  · rw [ite_t (decide_eq_true h), chk_eval hp, if_pos h]
    simp only
    rw [chk_eval (hc _)]
    rfl
  · rw [ite_f (decide_eq_false h), if_neg h]
    simp only
    rw [chk_eval (hc _)]
    rfl

theorem ok46 : CSound Try.prog 46 s46 ∧ CLocal s46 :=
  pos_sound (L := LX cX xX) cR_sound Try.func46 (by kernel_rfl) (loops1 (by kernel_rfl) lX) fun xs hs _ _ hp => by
    obtain ⟨key, by_, u⟩ := xs
    exact (tX rsumF filledP cX xX key by_).trans (TX_eq key by_ hp)

/-! the code -/

theorem cRM_sound : CtxSound Try.prog (ctx (cRM xorK filledP rsumF filledP)) ∧ CtxLocal (ctx (cRM xorK filledP rsumF filledP)) := ctx_sound ⟨ok46, ok17, trivial⟩
def rmacF (key b : List Int) : List Int := rsumF (xorK key 92 ++ all 32 (rsumF (xorK key 54 ++ b)))
def s33 : CSpec := .slp1 [bs, bs] (fun x => oneP x.1 x.2.1) d32 fun x => rmacF x.1 x.2.1
theorem T33_eq {key b : List Int} (hp : oneP key b = true) : (T33 xorK filledP rsumF filledP key b).eval = some (.v d32 (rmacF key b)) := by
  simp only [oneP, Bool.and_eq_true, decide_eq_true_eq] at hp
  have l1 := xorK_len key 54
  have l2 := xorK_len key 92
  have l3 := all_le 32 (rsumF (xorK key 54 ++ b))
  have e1 : filledP key = true := decide_eq_true (by omega)
  have e2 : Vse.room ((xorK key 54).length + b.length) 1 = true := by simp only [Vse.room, decide_eq_true_eq]; omega
  have e3 : filledP (xorK key 54 ++ b) = true := decide_eq_true (by rw [List.length_append]; omega)
  have e4 : Vse.room ((xorK key 92).length + (all 32 (rsumF (xorK key 54 ++ b))).length) 1 = true := by simp only [Vse.room, decide_eq_true_eq]; omega
  have e5 : filledP (xorK key 92 ++ all 32 (rsumF (xorK key 54 ++ b))) = true := decide_eq_true (by rw [List.length_append]; omega)
  unfold T33 rmacF
  simp only
  rw [chk_eval e1, chk_eval e2, chk_eval e3, chk_eval e1, chk_eval e4, chk_eval e5, Tr.eval]
theorem ok33 : CSound Try.prog 33 s33 ∧ CLocal s33 :=
  slpE1 (L := L0) cRM_sound Try.func33 (by kernel_rfl) (noLoopsL (by kernel_rfl)) fun xs hx hp => by
    obtain ⟨key, b, u⟩ := xs
    exact (t33 xorK filledP rsumF filledP key b).trans (T33_eq hp)

/-! keys -/

theorem cRE_sound : CtxSound Try.prog (ctx (cRE oneP rmacF)) ∧ CtxLocal (ctx (cRE oneP rmacF)) := ctx_sound ⟨ok33, trivial⟩
def blkR (key : List Int) (s : ByteArray) (last : List Int) (n : Int) : List Int := all 32 (rmacF key (((([] : List Int) ++ last) ++ strBytes s) ++ [wb n]))
def expR (key : List Int) (s : ByteArray) (many : Int) : Nat → List Int → Int → List Int → List Int
  | 0, _, _, out => out
  | f + 1, last, n, out => if (out.length : Int) < many then expR key s many f (blkR key s last n) (n + 1) (out ++ blkR key s last n) else out
def expY (key : List Int) (s : ByteArray) (many : Int) : List Int := expR key s many 255 [] 1 []
def cY (key : List Int) (s : ByteArray) (many n : Int) (out last : List Int) : Bool :=
  decide (last = []) && (decide (n = 1) && (decide (out = []) && (decide (many ≤ 8160) && (decide (key.length ≤ 1000000) && decide (s.size ≤ 100000)))))

theorem put8L_len (s : List Int) : ∀ (m i : Nat) (q : List Int), (put8L s i m q).length = q.length
  | 0, i, q => rfl
  | m + 1, i, q => by
    rw [put8L, put8L_len s m]
    unfold put8
    simp only [List.length_set]
theorem rsumF_len (b : List Int) : (rsumF b).length = 32 := by
  unfold rsumF put8F
  rw [put8L_len]
  rfl
theorem blkR_len (key : List Int) (s : ByteArray) (last : List Int) (n : Int) : (blkR key s last n).length = 32 := by
  have h : (rmacF key (((([] : List Int) ++ last) ++ strBytes s) ++ [wb n])).length = 32 := rsumF_len _
  unfold blkR
  rw [all_id h, h]

theorem mY {key : List Int} {s : ByteArray} (hk : key.length ≤ 1000000) (hs : s.size ≤ 100000) (many : Int) (hm : many ≤ 8160) : ∀ (f : Nat) (last : List Int) (n : Int) (out : List Int), many ≤ (out.length : Int) + 32 * f → last.length ≤ 32 → 0 ≤ n → n + f ≤ 1000 →
    SY.many (bodyK Try.prog (ctx (cRE oneP rmacF)) L0 bY) (f + 1) (key, s, many, (), (), n, ()) (out, last, ()) = some (.exit 0, encS [2, 8] [i64, .vc 0 0] [.vec 0 u8] 44 (many, (), ()) (expR key s many f last n out, ()))
  | 0, last, n, out, h, hl, h0, hn => by
    refine rmany_inr ((rY oneP rmacF key s many n out last).trans ?_) 0
    unfold GY
    rw [ite_f (decide_eq_false (by omega))]
    rfl
  | f + 1, last, n, out, h, hl, h0, hn => by
    by_cases hc : (out.length : Int) < many
    · have hbl := blkR_len key s last n
      refine (rmany_inl (d := ((key, s, many, (), (), n + 1, ()), (out ++ blkR key s last n, blkR key s last n, ()))) ((rY oneP rmacF key s many n out last).trans ?_) (f + 1)).trans
        ((mY hk hs many hm f (blkR key s last n) (n + 1) (out ++ blkR key s last n) (by rw [List.length_append, hbl]; omega) (by omega) (by omega) (by omega)).trans ?_)
      · have hsl := strBytes_len s
        have e1 : Vse.room (([] : List Int).length + last.length) 1 = true := by simp only [Vse.room, decide_eq_true_eq, List.length_nil]; omega
        have e2 : Vse.room (last.length + (strBytes s).length) 1 = true := by simp only [Vse.room, decide_eq_true_eq]; omega
        have e3 : Vse.room ((last ++ strBytes s).length + [wb n].length) 1 = true := by simp only [Vse.room, decide_eq_true_eq, List.length_append, List.length_singleton]; omega
        have e4 : oneP key ((last ++ strBytes s) ++ [wb n]) = true := by simp only [oneP, Bool.and_eq_true, decide_eq_true_eq, List.length_append, List.length_singleton]; omega
        have hb : all 32 (rmacF key ((last ++ strBytes s) ++ [wb n])) = blkR key s last n := rfl
        have e5 : Vse.room (([] : List Int).length + (blkR key s last n).length) 1 = true := by simp only [Vse.room, decide_eq_true_eq, List.length_nil]; omega
        have e6 : Vse.room (out.length + (blkR key s last n).length) 1 = true := by simp only [Vse.room, decide_eq_true_eq]; omega
        unfold GY
        simp only [List.nil_append, hb]
        rw [ite_t (decide_eq_true hc), chk_eval e1, chk_eval e2, chk_eval e3, chk_eval e4, chk_eval e5, chk_eval e6, w_id (by omega) (by omega)]
        rfl
      · simp only [expR]
        rw [if_pos hc]
    · refine rmany_inr ((rY oneP rmacF key s many n out last).trans ?_) (f + 1)
      unfold GY
      rw [ite_f (decide_eq_false hc)]
      simp only [expR]
      rw [if_neg hc]
      rfl

theorem lY : LoopOK Try.prog (LY cY expY) bY :=
  rloop_ok (L := LY cY expY) (L' := L0) cRE_sound (loopsOK_of (by kernel_rfl)) SY (F := FY cY expY) (i := 6) (by kernel_rfl) (fun _ => rfl) fun xs hs r h => by
    obtain ⟨key, s, many, u1, u2, n, u3⟩ := xs
    obtain ⟨out, last, u4⟩ := hs
    obtain ⟨h1, h2⟩ := Tr.chk_some h
    simp only [cY, Bool.and_eq_true, decide_eq_true_eq] at h1
    obtain ⟨e1, e2, e3, e4, e5, e6⟩ := h1
    subst e1; subst e2; subst e3
    exact ⟨_, (mY e5 e6 many e4 255 [] 1 [] (by rw [List.length_nil]; omega) (by simp) (by omega) (by omega)).trans (congrArg some (Tr.ret_some h2))⟩

theorem expR_len (key : List Int) (s : ByteArray) (many : Int) : ∀ (f : Nat) (last : List Int) (n : Int) (out : List Int), many ≤ (out.length : Int) + 32 * f → many ≤ ((expR key s many f last n out).length : Int)
  | 0, last, n, out, h => by simp only [expR]; omega
  | f + 1, last, n, out, h => by
    simp only [expR]
    by_cases hc : (out.length : Int) < many
    · have hbl := blkR_len key s last n
      rw [if_pos hc]
      exact expR_len key s many f _ _ _ (by rw [List.length_append, hbl]; omega)
    · rw [if_neg hc]; omega

def rexpF (key : List Int) (s : ByteArray) (many : Int) : List Int × Int × Unit := if many < 0 ∨ many > 8160 then ([], 1, ()) else ((expY key s many).take many.toNat, 0, ())
def s32 : CSpec := .pos nE (fun xs _ => expP xs.1 xs.2.1) fun xs _ => (rexpF xs.1 xs.2.1 xs.2.2.1, ())

theorem TY_eq {key : List Int} {s : ByteArray} (hp : expP key s = true) (many : Int) : (TY cY expY key s many).eval = some (rexpF key s many, ()) := by
  simp only [expP, Bool.and_eq_true, decide_eq_true_eq] at hp
  unfold TY rexpF
  simp only
  by_cases h1 : many < 0
  · rw [ite_t (decide_eq_true h1), if_pos (.inl h1)]; rfl
  rw [ite_f (decide_eq_false h1)]
  by_cases h2 : many > 8160
  · rw [ite_t (decide_eq_true h2), if_pos (.inr h2)]; rfl
  rw [ite_f (decide_eq_false h2), if_neg (by omega)]
  have e1 : cY key s many 1 [] [] = true := by
    simp only [cY, Bool.and_eq_true, decide_eq_true_eq, true_and]
    exact ⟨by omega, hp.1, hp.2⟩
  have e2 := expR_len key s many 255 [] 1 [] (by rw [List.length_nil]; omega)
  have e3 : (decide (0 ≤ many) && decide (many ≤ ((expY key s many).length : Int))) = true := by
    simp only [Bool.and_eq_true, decide_eq_true_eq]
    exact ⟨by omega, e2⟩
  rw [chk_eval e1, chk_eval e3]
  rfl

theorem ok32 : CSound Try.prog 32 s32 ∧ CLocal s32 :=
  pos_sound (L := LY cY expY) cRE_sound Try.func32 (by kernel_rfl) (loops1 (by kernel_rfl) lY) fun xs hs _ _ hp => by
    obtain ⟨key, s, many, u⟩ := xs
    exact (tY oneP rmacF cY expY key s many).trans (TY_eq hp many)

/-! the law's own trial -/

def s28 : CSpec := .slp1 [] (fun _ => true) .bool fun _ => true
def cA : List (Nat × CSpec) := [(29, s29), (30, s30), (31, s31)]
theorem cA_sound : CtxSound Try.prog (ctx cA) ∧ CtxLocal (ctx cA) := ctx_sound ⟨ok29, ok30, ok31, trivial⟩
theorem ok28 : CSound Try.prog 28 s28 ∧ CLocal s28 :=
  slpE1 (L := L0) cA_sound Try.func28 (by kernel_rfl) (noLoopsL (by kernel_rfl)) fun xs hx hp => by kernel_rfl

end Go.Proofs.Ytlkddajnebjlcaa.Mac

end
section
/- The laws of layer 2 (mac): walks. -/
set_option linter.unusedVariables false
set_option maxRecDepth 100000
namespace Go.Proofs.Ytlkddajnebjlcaa.Mac
open Go Vse Go.Proofs Gen
open Sha hiding wb wu getD_cons cA cL

abbrev Ef := List Int → ByteArray → Int → List Int × Int × Unit
abbrev Pe := List Int → ByteArray → Bool
abbrev F2 := List Int → List Int → List Int
abbrev P2 := List Int → List Int → Bool
def cL (M : Mc) (p : Pc) (E : Ef) (pe : Pe) (Q : P2) (R : F2) (pr : P2) (E' : Ef) (pe' : Pe) (X : F2) (px : P2) : List (Nat × CSpec) :=
  [(28, s28), (29, .slp1 [bs, ls] (fun x => p x.1 x.2.1) d32 fun x => M x.1 x.2.1), (30, .pos nE (fun xs _ => pe xs.1 xs.2.1) fun xs _ => (E xs.1 xs.2.1 xs.2.2.1, ())), (31, .slp1 [bs, bs] (fun _ => true) .bool fun x => Q x.1 x.2.1),
   (33, .slp1 [bs, bs] (fun x => pr x.1 x.2.1) d32 fun x => R x.1 x.2.1), (32, .pos nE (fun xs _ => pe' xs.1 xs.2.1) fun xs _ => (E' xs.1 xs.2.1 xs.2.2.1, ())), (34, .slp1 [bs, bt] (fun x => px x.1 x.2.1) d32 fun x => X x.1 x.2.1), (18, sAll), (22, sSame)]
abbrev CLF : Ctx := ctx (cL macL macP expF expP eqF rmacF oneP rexpF expP macF oneP)
theorem cL_sound : CtxSound Try.prog CLF ∧ CtxLocal CLF := ctx_sound ⟨ok28, ok29, ok30, ok31, ok33, ok32, ok34, okAll, okSame, trivial⟩

/-! MacTells -/

def T11 (M : Mc) (p : Pc) (E : Ef) (pe : Pe) (Q : P2) (R : F2) (pr : P2) (E' : Ef) (pe' : Pe) (X : F2) (px : P2) (key b : List Int) (many : Int) : Tr AV :=
  let s := bytesStr b
  .ite (decide ((key.length : Int) > 200)) yes (.ite (decide ((b.length : Int) > 200)) yes (.ite (decide (many > 300)) yes (.chk (pe key s) (.chk (pe' key s) (.chk (p key [b]) (.chk (pr key b) (.ite (eqA (M key [b]) (R key b))
    (.chk (px key b) (.chk (pr key b) (.ite (eqA (X key b) (R key b)) (.ite (sameI (E key s many).1 (E' key s many).1) (.ite ((E key s many).2.1 == (E' key s many).2.1) (.ret (.v .bool (Q key b == sameI key b))) no) no) no))) no)))))))
theorem t11 (M : Mc) (p : Pc) (E : Ef) (pe : Pe) (Q : P2) (R : F2) (pr : P2) (E' : Ef) (pe' : Pe) (X : F2) (px : P2) (key b : List Int) (many : Int) :
    nrm (fnK Try.prog (ctx (cL M p E pe Q R pr E' pe' X px)) L0 Try.f11 (mkArgs [bt, bt, i64] (key, b, many, ())) []) = (T11 M p E pe Q R pr E' pe' X px key b many).eval := by kernel_rfl

/-! MacParts -/

noncomputable def bP : Code := loopAt Try.f9 0
abbrev eP : List ETy := [.dead, .box d32, .vec 2 u8, .dead]
def SP : RSpec := ⟨[2, 7, 8, 10, 11, 12], 69, [i64, .bool, bt, .ptr 1 [], .vc 2 2, i64], eP, [.vec 0 bt, .box d32, .vec 1 u8, .dead], [], fun _ => ([7, 8, 10, 11], [.bool, bt, .ptr 1 [], .vc 2 2], eP)⟩
def GP (more : Int) (up : Bool) (a : List Int) (i : Int) (code long : List Int) : Tr SP.End :=
  let e : Tr SP.End := .ret (.inr (.exit 0, encS [7, 8, 10, 11] [.bool, bt, .ptr 1 [], .vc 2 2] eP 69 (up, a, (), (), ()) (code, long, ())))
  .ite (decide (i < more)) (.ite (decide ((long.length : Int) < 64)) (.chk (Vse.room (long.length + [(0 : Int)].length) 1) (.ret (.inl ((more, up, a, (), (), w (i + 1), ()), (code, long ++ [0], ()))))) e) e
theorem rP (M : Mc) (p : Pc) (E : Ef) (pe : Pe) (Q : P2) (R : F2) (pr : P2) (E' : Ef) (pe' : Pe) (X : F2) (px : P2) (more : Int) (up : Bool) (a : List Int) (i : Int) (code long : List Int) :
    (SP.round (bodyK Try.prog (ctx (cL M p E pe Q R pr E' pe' X px)) L0 bP) (more, up, a, (), (), i, ()) (code, long, ())).eval = (GP more up a i code long).eval := by kernel_rfl
def FP (c : Int → Int → List Int → Bool) (Z : Int → List Int → List Int) (xs : HL SP.Ts) (hs : HD SP.Es) : Tr (Ex × St) :=
  .chk (c xs.1 xs.2.2.2.2.2.1 hs.2.1) (.ret (.exit 0, encS [7, 8, 10, 11] [.bool, bt, .ptr 1 [], .vc 2 2] eP 69 (xs.2.1, xs.2.2.1, (), (), ()) (hs.1, Z xs.1 hs.2.1, ())))
def LP (c : Int → Int → List Int → Bool) (Z : Int → List Int → List Int) : Loops := fun j st => if j = 10 then SP.fn (FP c Z) st else .fail
def T9 (M : Mc) (p : Pc) (c : Int → Int → List Int → Bool) (Z : Int → List Int → List Int) (key : List Int) (l : List (List Int)) (more : Int) : Tr AV :=
  let a : List Int := (allI l).1
  let k : List Int := [] ++ key
  .chk (preAll l) (.ite (decide ((key.length : Int) > 200)) yes (.ite (decide ((allI l).2.1 > 500)) yes (.ite (decide (more < 0)) yes (.ite (decide (more > 64)) yes (.chk (p key [a]) (.chk (p key l) (.ite (!(eqA (M key l) (M key [a]))) no
    (.chk (Vse.room (([] : List Int).length + key.length) 1) (.chk (c more 0 k) (.chk (p (Z more k) [a]) (.ret (.v .bool (eqA (M (Z more k) [a]) (M key [a])))))))))))))) 
theorem t9 (M : Mc) (p : Pc) (E : Ef) (pe : Pe) (Q : P2) (R : F2) (pr : P2) (E' : Ef) (pe' : Pe) (X : F2) (px : P2) (c : Int → Int → List Int → Bool) (Z : Int → List Int → List Int) (key : List Int) (l : List (List Int)) (more : Int) :
    nrm (fnK Try.prog (ctx (cL M p E pe Q R pr E' pe' X px)) (LP c Z) Try.f9 (mkArgs [bt, lt, i64] (key, l, more, ())) []) = (T9 M p c Z key l more).eval := by kernel_rfl

/-! MacFirst -/

def T10 (E : Ef) (pe : Pe) (Q : P2) (key : List Int) (s : ByteArray) (x y : Int) : Tr AV :=
  let a := (E key s x).1
  let b := (E key s y).1
  .ite (decide ((key.length : Int) > 200)) yes (.ite (decide ((s.size : Int) > 200)) yes (.ite (decide (x < 0)) yes (.ite (decide (y < x)) yes (.ite (decide (y > 500)) yes (.chk (pe key s) (.chk (pe key s)
    (.ite ((E key s x).2.1 != 0) no (.ite ((E key s y).2.1 != 0) no (.ite ((a.length : Int) != x) no (.ite ((b.length : Int) != y) no
      (.chk (decide ((0 : Int) ≤ 0) && (decide (0 ≤ x) && decide (x ≤ (b.length : Int)))) (.ret (.v .bool (Q a ((b.take x.toNat).drop (0 : Int).toNat)))))))))))))))
theorem t10 (M : Mc) (p : Pc) (E : Ef) (pe : Pe) (Q : P2) (R : F2) (pr : P2) (E' : Ef) (pe' : Pe) (X : F2) (px : P2) (key : List Int) (s : ByteArray) (x y : Int) :
    nrm (fnK Try.prog (ctx (cL M p E pe Q R pr E' pe' X px)) L0 Try.f10 (mkArgs [bt, .str, .arr 2 i64] (key, s, [x, y], ())) []) = (T10 E pe Q key s x y).eval := by kernel_rfl

end Go.Proofs.Ytlkddajnebjlcaa.Mac

end
section
/- The laws of layer 2 (mac) are true. -/
set_option linter.unusedVariables false
set_option maxRecDepth 100000
namespace Go.Proofs.Ytlkddajnebjlcaa.Mac
open Go Vse Go.Proofs Gen
open Sha hiding wb wu getD_cons cA cL

/-! a key, filled up -/

theorem over_get {k : List Int} {i : Nat} (hi : i < 64) : (overL z64 k)[i]? = some (if i < k.length then k.getD i 0 else 0) := by
  have hz : z64.length = 64 := rfl
  unfold overL
  rw [hz]
  have hl : (k.take 64).length = min 64 k.length := List.length_take
  by_cases h : i < k.length
  · rw [List.getElem?_append_left (by omega), List.getElem?_take, if_pos hi, List.getElem?_eq_getElem h, if_pos h, List.getD_eq_getElem?_getD, List.getElem?_eq_getElem h]
    rfl
  · rw [List.getElem?_append_right (by omega), hl, if_neg h]
    unfold z64
    rw [List.drop_replicate, List.getElem?_replicate, if_pos (by omega)]

theorem fill_eq {k : List Int} {by_ : Int} (h0 : xorI .u8 0 by_ = by_) : all 64 (xorF by_ (overL z64 k ++ [])) = xX k by_ := by
  have hl : (overL z64 k).length = 64 := (overL_len _ _).trans rfl
  rw [List.append_nil]
  have hx : (xorF by_ (overL z64 k)).length = 64 := by unfold xorF; rw [List.length_map, hl]
  rw [all_id hx]
  apply List.ext_getElem?
  intro i
  by_cases hi : i < 64
  · unfold xorF xX xL
    rw [List.getElem?_map, List.getElem?_map, over_get hi, List.getElem?_range hi]
    simp only [Option.map_some, xEl]
    by_cases h : i < k.length
    · rw [if_pos h, if_pos h]
    · rw [if_neg h, if_neg h, h0]
  · rw [List.getElem?_eq_none (by omega), List.getElem?_eq_none (by show (xL k by_ 64).length ≤ i; rw [xL_len]; omega)]

theorem key_same {key : List Int} (hB : Bytes key) (hl : key.length ≤ 1000000) : keyF key = overL z64 (keyR key) ++ [] := by
  unfold keyF keyR
  rw [sums_same hB (by omega)]

theorem fill_same {key : List Int} (hB : Bytes key) (hl : key.length ≤ 1000000) {by_ : Int} (h0 : xorI .u8 0 by_ = by_) : fillK key by_ = xorK key by_ := by
  unfold fillK xorK
  rw [key_same hB hl, fill_eq h0]

theorem x54 : xorI .u8 0 54 = 54 := by kernel_rfl
theorem x92 : xorI .u8 0 92 = 92 := by kernel_rfl

theorem wb_byte (x : Int) : 0 ≤ wb x ∧ wb x < 256 := by rw [show wb x = x % 256 from wb_mod x]; omega
theorem bytes_append {a b : List Int} (ha : Bytes a) (hb : Bytes b) : Bytes (a ++ b) := fun x hx => by
  rcases List.mem_append.1 hx with h | h
  · exact ha x h
  · exact hb x h
theorem bytes_fill (key : List Int) (by_ : Int) : Bytes (fillK key by_) := fun x hx => by
  unfold fillK all xorF at hx
  have hx := List.mem_of_mem_drop (List.mem_of_mem_take hx)
  obtain ⟨y, _, rfl⟩ := List.mem_map.1 hx
  exact wb_byte _
theorem bytes_set {l : List Int} (h : Bytes l) (i : Nat) (x : Int) : Bytes (l.set i (wb x)) := fun y hy => by
  rcases List.mem_or_eq_of_mem_set hy with h' | rfl
  · exact h y h'
  · exact wb_byte x
theorem bytes_outL (s : List Int) : ∀ (m i : Nat) (q : List Int), Bytes q → Bytes (outL s i m q)
  | 0, i, q, h => h
  | m + 1, i, q, h => by
    rw [outL]
    exact bytes_outL s m (i + 1) _ (bytes_set h i _)
theorem bytes_sha (b : List Int) : Bytes (shaF b) := by
  rw [shaF_hash]
  unfold sumH outF
  refine bytes_outL _ _ _ _ fun x hx => ?_
  have : ∀ x ∈ zeros32, x = 0 := by decide
  rw [this x hx]
  omega
theorem bytes_mac (key b : List Int) : Bytes (macF key b) := bytes_sha _

theorem mac_same {key b : List Int} (hk : Bytes key) (hb : Bytes b) (hl : key.length ≤ 1000000) (hl2 : b.length ≤ 1000000) : macF key b = rmacF key b := by
  have l1 := fillK_len key 54
  have l2 := fillK_len key 92
  have e1 : shaF (fillK key 54 ++ b) = rsumF (fillK key 54 ++ b) := sums_same (bytes_append (bytes_fill _ _) hb) (by rw [List.length_append]; omega)
  have h32 : all 32 (shaF (fillK key 54 ++ b)) = shaF (fillK key 54 ++ b) := all_id (shaF_len _)
  have e2 : shaF (fillK key 92 ++ shaF (fillK key 54 ++ b)) = rsumF (fillK key 92 ++ shaF (fillK key 54 ++ b)) :=
    sums_same (bytes_append (bytes_fill _ _) (bytes_sha _)) (by rw [List.length_append, shaF_len]; omega)
  unfold macF rmacF
  rw [h32, e2, e1, all_id (rsumF_len _), fill_same hk hl x54, fill_same hk hl x92]

/-! keys -/

theorem bytes_str (s : ByteArray) : Bytes (strBytes s) := fun x hx => by
  unfold strBytes at hx
  obtain ⟨c, _, rfl⟩ := List.mem_map.1 hx
  have := UInt8.toNat_lt c
  omega

theorem wb_wb (n : Int) : wb (wb n + 1) = wb (n + 1) := by
  have h : ∀ x, wb x = x % 256 := fun x => wb_mod x
  rw [h, h, h]; omega

theorem blk_same {key : List Int} {s : ByteArray} (hk : Bytes key) (hl : key.length ≤ 1000000) (hs : s.size ≤ 100000) {last : List Int} (hB : Bytes last) (h32 : last.length ≤ 32) (n : Int) : blkE key s last (wb n) = blkR key s last n := by
  have hf : [last, strBytes s, [wb n]].flatten = (([] ++ last) ++ strBytes s) ++ [wb n] := by
    simp only [List.flatten_cons, List.flatten_nil, List.append_nil, List.nil_append, List.append_assoc]
  have hm : Bytes ((([] ++ last) ++ strBytes s) ++ [wb n]) := bytes_append (bytes_append hB (bytes_str s)) fun x hx => by rw [List.mem_singleton.1 hx]; exact wb_byte n
  have hsl := strBytes_len s
  unfold blkE blkR
  rw [hf, mac_same hk hm hl (by simp only [List.length_append, List.length_singleton, List.length_nil]; omega)]
  exact (all_id (rsumF_len _)).symm

theorem exp_same {key : List Int} {s : ByteArray} (hk : Bytes key) (hl : key.length ≤ 1000000) (hs : s.size ≤ 100000) (many : Int) : ∀ (f : Nat) (last : List Int) (n : Int) (out : List Int), Bytes last → last.length ≤ 32 →
    expL key s many f last (wb n) out = expR key s many f last n out
  | 0, last, n, out, _, _ => rfl
  | f + 1, last, n, out, hB, h32 => by
    have hb := blk_same hk hl hs hB h32 n
    have h1 : Bytes (blkE key s last (wb n)) := bytes_mac _ _
    have h2 : (blkE key s last (wb n)).length = 32 := macF_len _ _
    rw [hb] at h1 h2
    simp only [expL, expR]
    rw [hb, wb_wb]
    by_cases hc : (out.length : Int) < many
    · rw [if_pos hc, if_pos hc]
      exact exp_same hk hl hs many f _ _ _ h1 (by omega)
    · rw [if_neg hc, if_neg hc]

theorem expand_same {key : List Int} {s : ByteArray} (hk : Bytes key) (hl : key.length ≤ 1000000) (hs : s.size ≤ 100000) (many : Int) : expF key s many = rexpF key s many := by
  unfold expF rexpF expX expY
  rw [← exp_same hk hl hs many 255 [] 1 [] (fun x hx => by cases hx) (by simp)]
  rfl

/-! codes that are the same -/

theorem or_zero {x y : Nat} : x ||| y = 0 ↔ x = 0 ∧ y = 0 := Nat.or_eq_zero_iff
theorem xor_zero {m n : Nat} : m ^^^ n = 0 ↔ m = n := by
  constructor
  · intro h
    have e : m ^^^ (m ^^^ n) = n := by rw [← Nat.xor_assoc, Nat.xor_self, Nat.zero_xor]
    rw [h, Nat.xor_zero] at e
    exact e
  · rintro rfl
    exact Nat.xor_self m
theorem orF_zero : ∀ (a b : List Int) (u : Nat), a.length = b.length → Bytes a → Bytes b → u < 256 → (orF a b u = 0 ↔ u = 0 ∧ a = b)
  | [], [], u, _, _, _, _ => by
    show (u : Int) = 0 ↔ _
    simp
  | [], _ :: _, _, h, _, _, _ => by cases h
  | _ :: _, [], _, h, _, _, _ => by cases h
  | x :: a, y :: b, u, h, ha, hb, hu => by
    obtain ⟨x0, x1⟩ := ha x (by simp)
    obtain ⟨y0, y1⟩ := hb y (by simp)
    obtain ⟨m, rfl⟩ := Int.eq_ofNat_of_zero_le x0
    obtain ⟨n, rfl⟩ := Int.eq_ofNat_of_zero_le y0
    have hm : m < 256 := by omega
    have hn : n < 256 := by omega
    have hx := xor_lt256 hm hn
    have ho : u ||| (m ^^^ n) < 256 := Nat.or_lt_two_pow (n := 8) hu hx
    have e1 : orI .u8 (u : Int) (xorI .u8 (m : Int) (n : Int)) = ((u ||| (m ^^^ n) : Nat) : Int) := by
      rw [xorI_u8 hm hn]
      exact orI_nat (by rw [max_u8]; omega) (by rw [max_u8]; omega) (by rw [max_u8]; omega)
    show orF a b (orI .u8 u (xorI .u8 m n)) = 0 ↔ _
    rw [e1, orF_zero a b _ (by simpa using h) (fun z hz => ha z (List.mem_cons_of_mem _ hz)) (fun z hz => hb z (List.mem_cons_of_mem _ hz)) ho, or_zero, xor_zero]
    constructor
    · rintro ⟨⟨h1, h2⟩, h3⟩
      exact ⟨h1, by rw [h2, h3]⟩
    · rintro ⟨h1, h2⟩
      simp only [List.cons.injEq] at h2
      exact ⟨⟨h1, by omega⟩, h2.2⟩

theorem eq_same {a b : List Int} (ha : Bytes a) (hb : Bytes b) : eqF a b = sameI a b := by
  unfold eqF sameI orX
  by_cases h : a.length = b.length
  · have e1 : ((a.length : Int) != (b.length : Int)) = false := by simp [h]
    have := orF_zero a b 0 h ha hb (by omega)
    rw [e1]
    show (orF a b 0 == 0) = _
    have e2 : orF a b ((0 : Nat) : Int) = orF a b 0 := rfl
    rw [e2] at this
    by_cases hab : a = b
    · rw [decide_eq_true hab, this.2 ⟨rfl, hab⟩]; rfl
    · rw [decide_eq_false hab]
      have : ¬ orF a b 0 = 0 := fun hh => hab (this.1 hh).2
      simpa using this
  · have e1 : ((a.length : Int) != (b.length : Int)) = true := by simp; omega
    rw [e1, decide_eq_false fun hab => h (by rw [hab])]
    rfl

theorem xor_self (x : Int) : xorI .u8 x x = 0 := by
  unfold xorI
  rw [BitVec.xor_self]
  rfl
theorem orF_self : ∀ a : List Int, orF a a 0 = 0
  | [] => rfl
  | x :: a => by
    show orF a a (orI .u8 0 (xorI .u8 x x)) = 0
    rw [xor_self]
    exact orF_self a
theorem eqF_self (a : List Int) : eqF a a = true := by
  unfold eqF orX
  rw [orF_self, bne_self_eq_false]
  rfl

/-! MacTells -/

theorem T11_true {key b : List Int} {many : Int} (hk : Bytes key) (hb : Bytes b) : (T11 macL macP expF expP eqF rmacF oneP rexpF expP macF oneP key b many).eval = some (.v .bool true) := by
  have hsz := bytesStr_size b
  unfold T11
  simp only
  by_cases h1 : (key.length : Int) > 200
  · rw [ite_t (decide_eq_true h1)]; rfl
  rw [ite_f (decide_eq_false h1)]
  by_cases h2 : (b.length : Int) > 200
  · rw [ite_t (decide_eq_true h2)]; rfl
  rw [ite_f (decide_eq_false h2)]
  by_cases h3 : many > 300
  · rw [ite_t (decide_eq_true h3)]; rfl
  rw [ite_f (decide_eq_false h3)]
  have e1 : expP key (bytesStr b) = true := by simp only [expP, Bool.and_eq_true, decide_eq_true_eq]; omega
  have e2 : macP key [b] = true := by simp only [macP, tot, List.map_cons, List.map_nil, List.sum_cons, List.sum_nil, List.length_cons, List.length_nil, Bool.and_eq_true, decide_eq_true_eq]; omega
  have e3 : oneP key b = true := by simp only [oneP, Bool.and_eq_true, decide_eq_true_eq]; omega
  have hf : macL key [b] = macF key b := by
    show macF key [b].flatten = _
    rw [List.flatten_cons, List.flatten_nil, List.append_nil]
  have hm := mac_same hk hb (by omega) (by omega)
  have hE := expand_same (s := bytesStr b) hk (by omega) (by omega) many
  have hs : sameI (expF key (bytesStr b) many).1 (rexpF key (bytesStr b) many).1 = true := by rw [hE]; exact decide_eq_true rfl
  have he : ((expF key (bytesStr b) many).2.1 == (rexpF key (bytesStr b) many).2.1) = true := by rw [hE]; simp
  rw [chk_eval e1, chk_eval e1, chk_eval e2, chk_eval e3, ite_t (by rw [hf, hm]; exact eqA_self _), chk_eval e3, chk_eval e3, ite_t (by rw [hm]; exact eqA_self _), ite_t hs, ite_t he, eq_same hk hb, beq_self_eq_true]
  rfl

/-! MacFirst -/

def expS (key : List Int) (s : ByteArray) : Nat → List Int → Int → List Int → List Int
  | 0, _, _, out => out
  | f + 1, last, n, out => expS key s f (blkE key s last n) (wb (n + 1)) (out ++ blkE key s last n)
theorem expS_pre (key : List Int) (s : ByteArray) : ∀ (f : Nat) (last : List Int) (n : Int) (out : List Int), ∃ r, expS key s f last n out = out ++ r
  | 0, last, n, out => ⟨[], by simp [expS]⟩
  | f + 1, last, n, out => by
    obtain ⟨r, hr⟩ := expS_pre key s f (blkE key s last n) (wb (n + 1)) (out ++ blkE key s last n)
    exact ⟨blkE key s last n ++ r, by rw [expS, hr, List.append_assoc]⟩
theorem expL_take (key : List Int) (s : ByteArray) (m : Nat) : ∀ (f : Nat) (last : List Int) (n : Int) (out : List Int), (expL key s (m : Int) f last n out).take m = (expS key s f last n out).take m
  | 0, last, n, out => rfl
  | f + 1, last, n, out => by
    by_cases hc : (out.length : Int) < (m : Int)
    · simp only [expL, expS]
      rw [if_pos hc]
      exact expL_take key s m f _ _ _
    · obtain ⟨r, hr⟩ := expS_pre key s (f + 1) last n out
      simp only [expL]
      rw [if_neg hc, hr, List.take_append_of_le_length (by omega)]

theorem T10_true {key : List Int} {s : ByteArray} {x y : Int} : (T10 expF expP eqF key s x y).eval = some (.v .bool true) := by
  unfold T10
  simp only
  by_cases h1 : (key.length : Int) > 200
  · rw [ite_t (decide_eq_true h1)]; rfl
  rw [ite_f (decide_eq_false h1)]
  by_cases h2 : (s.size : Int) > 200
  · rw [ite_t (decide_eq_true h2)]; rfl
  rw [ite_f (decide_eq_false h2)]
  by_cases h3 : x < 0
  · rw [ite_t (decide_eq_true h3)]; rfl
  rw [ite_f (decide_eq_false h3)]
  by_cases h4 : y < x
  · rw [ite_t (decide_eq_true h4)]; rfl
  rw [ite_f (decide_eq_false h4)]
  by_cases h5 : y > 500
  · rw [ite_t (decide_eq_true h5)]; rfl
  rw [ite_f (decide_eq_false h5)]
  have e1 : expP key s = true := by simp only [expP, Bool.and_eq_true, decide_eq_true_eq]; omega
  obtain ⟨m, rfl⟩ := Int.eq_ofNat_of_zero_le (show 0 ≤ x by omega)
  obtain ⟨n, rfl⟩ := Int.eq_ofNat_of_zero_le (show 0 ≤ y by omega)
  have hx : expF key s (m : Int) = ((expS key s 255 [] 1 []).take m, 0, ()) := by
    unfold expF expX
    rw [if_neg (by omega), Int.toNat_natCast, expL_take]
  have hy : expF key s (n : Int) = ((expS key s 255 [] 1 []).take n, 0, ()) := by
    unfold expF expX
    rw [if_neg (by omega), Int.toNat_natCast, expL_take]
  have hl := expL_len key s (n : Int) 255 [] 1 [] (by rw [List.length_nil]; omega)
  have hn : ((expS key s 255 [] 1 []).take n).length = n := by
    rw [← expL_take, List.length_take]; omega
  have hlen : n ≤ (expS key s 255 [] 1 []).length := by rw [List.length_take] at hn; omega
  rw [chk_eval e1, chk_eval e1, hx, hy]
  simp only
  have f1 : ((((expS key s 255 [] 1 []).take m).length : Int) != (m : Int)) = false := by rw [List.length_take, Nat.min_eq_left (by omega)]; exact bne_self_eq_false _
  have f2 : ((((expS key s 255 [] 1 []).take n).length : Int) != (n : Int)) = false := by rw [hn]; exact bne_self_eq_false _
  have f3 : (decide ((0 : Int) ≤ 0) && (decide (0 ≤ (m : Int)) && decide ((m : Int) ≤ (((expS key s 255 [] 1 []).take n).length : Int)))) = true := by
    rw [hn]; simp only [Bool.and_eq_true, decide_eq_true_eq]; omega
  rw [ite_f (by rfl), ite_f (by rfl), ite_f f1, ite_f f2, chk_eval f3, Int.toNat_natCast]
  have f4 : (((expS key s 255 [] 1 []).take n).take m).drop (0 : Int).toNat = (expS key s 255 [] 1 []).take m := by
    show (((expS key s 255 [] 1 []).take n).take m).drop 0 = _
    rw [List.drop_zero, List.take_take, Nat.min_eq_left (by omega)]
  rw [f4, eqF_self]
  rfl

/-! MacParts -/

def padK : Nat → List Int → List Int
  | 0, k => k
  | m + 1, k => if k.length < 64 then padK m (k ++ [0]) else k
def padZ (more : Int) (k : List Int) : List Int := padK more.toNat k
def cP1 (more i : Int) (k : List Int) : Bool := decide (i = 0) && (decide (0 ≤ more) && (decide (more ≤ 64) && decide (k.length ≤ 1000000)))

theorem mP1 (more : Nat) (hm : more ≤ 64) (up : Bool) (a code : List Int) : ∀ (m i : Nat) (long : List Int), i + m = more → long.length ≤ 2000000 - m →
    SP.many (bodyK Try.prog CLF L0 bP) (m + 1) ((more : Int), up, a, (), (), (i : Int), ()) (code, long, ()) = some (.exit 0, encS [7, 8, 10, 11] [.bool, bt, .ptr 1 [], .vc 2 2] eP 69 (up, a, (), (), ()) (code, padK m long, ()))
  | 0, i, long, h, hl => by
    refine rmany_inr ((rP macL macP expF expP eqF rmacF oneP rexpF expP macF oneP more up a i code long).trans ?_) 0
    unfold GP
    simp only
    rw [ite_f (decide_eq_false (by omega))]
    rfl
  | m + 1, i, long, h, hl => by
    by_cases hc : long.length < 64
    · refine (rmany_inl (d := (((more : Int), up, a, (), (), ((i + 1 : Nat) : Int), ()), (code, long ++ [0], ()))) ((rP macL macP expF expP eqF rmacF oneP rexpF expP macF oneP more up a i code long).trans ?_) (m + 1)).trans
        ((mP1 more hm up a code m (i + 1) (long ++ [0]) (by omega) (by rw [List.length_append, List.length_singleton]; omega)).trans ?_)
      · have w0 : w ((i : Int) + 1) = ((i + 1 : Nat) : Int) := (w_id (by omega) (by omega)).trans (by omega)
        have e1 : Vse.room (long.length + [(0 : Int)].length) 1 = true := by simp only [Vse.room, decide_eq_true_eq, List.length_singleton]; omega
        unfold GP
        simp only
        rw [ite_t (decide_eq_true (by omega)), ite_t (decide_eq_true (by omega)), chk_eval e1, w0]
        rfl
      · simp only [padK]
        rw [if_pos hc]
    · refine rmany_inr ((rP macL macP expF expP eqF rmacF oneP rexpF expP macF oneP more up a i code long).trans ?_) (m + 1)
      unfold GP
      simp only [padK]
      rw [ite_t (decide_eq_true (by omega)), ite_f (decide_eq_false (by omega)), if_neg hc]
      rfl

theorem lP1 : LoopOK Try.prog (LP cP1 padZ) bP :=
  rloop_ok (L := LP cP1 padZ) (L' := L0) cL_sound (loopsOK_of (by kernel_rfl)) SP (F := FP cP1 padZ) (i := 10) (by kernel_rfl) (fun _ => rfl) fun xs hs r h => by
    obtain ⟨more, up, a, u1, u2, i, u3⟩ := xs
    obtain ⟨code, long, u4⟩ := hs
    obtain ⟨h1, h2⟩ := Tr.chk_some h
    simp only [cP1, Bool.and_eq_true, decide_eq_true_eq] at h1
    obtain ⟨e1, e2, e3, e4⟩ := h1
    have e1 : i = ((0 : Nat) : Int) := e1
    have e2 : (0 : Int) ≤ more := e2
    subst e1
    obtain ⟨n, rfl⟩ := Int.eq_ofNat_of_zero_le e2
    have e3 : (n : Int) ≤ 64 := e3
    have e4 : List.length (α := Int) long ≤ 1000000 := e4
    have := mP1 n (by omega) up a code n 0 long (by omega) (by omega)
    exact ⟨_, this.trans (congrArg some (Tr.ret_some h2))⟩

theorem over_zero {k : List Int} (h : k.length < 64) : overL z64 (k ++ [0]) = overL z64 k := by
  have hl : ∀ m : List Int, (overL z64 m).length = 64 := fun m => (overL_len _ _).trans rfl
  apply List.ext_getElem?
  intro i
  by_cases hi : i < 64
  · rw [over_get hi, over_get hi]
    congr 1
    rw [List.length_append, List.length_singleton]
    by_cases h1 : i < k.length
    · rw [if_pos (by omega), if_pos h1]
      exact Sha.getD_left k [0] h1
    · rw [if_neg h1]
      by_cases h2 : i < k.length + 1
      · rw [if_pos h2, List.getD_eq_getElem?_getD, List.getElem?_append_right (by omega)]
        have : i - k.length = 0 := by omega
        rw [this]; rfl
      · rw [if_neg h2]
  · rw [List.getElem?_eq_none (by rw [hl]; omega), List.getElem?_eq_none (by rw [hl]; omega)]

theorem key_zero {k : List Int} (h : k.length < 64) : keyF (k ++ [0]) = keyF k := by
  unfold keyF
  rw [if_neg (by rw [List.length_append, List.length_singleton]; omega), if_neg (by omega), over_zero h]
theorem key_pad : ∀ (m : Nat) (k : List Int), keyF (padK m k) = keyF k
  | 0, k => rfl
  | m + 1, k => by
    simp only [padK]
    by_cases h : k.length < 64
    · rw [if_pos h, key_pad m, key_zero h]
    · rw [if_neg h]
theorem mac_pad (m : Nat) (k b : List Int) : macF (padK m k) b = macF k b := by
  unfold macF fillK
  rw [key_pad]
theorem padK_len : ∀ (m : Nat) (k : List Int), (padK m k).length ≤ k.length + m
  | 0, k => Nat.le_refl _
  | m + 1, k => by
    simp only [padK]
    by_cases h : k.length < 64
    · rw [if_pos h]
      have := padK_len m (k ++ [0])
      rw [List.length_append, List.length_singleton] at this
      omega
    · rw [if_neg h]; omega

theorem T9_true {key : List Int} {l : List (List Int)} {more : Int} (hp : preAll l = true) : (T9 macL macP cP1 padZ key l more).eval = some (.v .bool true) := by
  unfold T9
  simp only
  rw [chk_eval hp]
  by_cases h1 : (key.length : Int) > 200
  · rw [ite_t (decide_eq_true h1)]; rfl
  rw [ite_f (decide_eq_false h1)]
  by_cases h2 : (allI l).2.1 > 500
  · rw [ite_t (decide_eq_true h2)]; rfl
  rw [ite_f (decide_eq_false h2)]
  by_cases h3 : more < 0
  · rw [ite_t (decide_eq_true h3)]; rfl
  rw [ite_f (decide_eq_false h3)]
  by_cases h4 : more > 64
  · rw [ite_t (decide_eq_true h4)]; rfl
  rw [ite_f (decide_eq_false h4)]
  have hz2 : (allG l [] 0).2 ≤ 500 := by
    have : ¬ (((allG l [] 0).2 : Nat) : Int) > 500 := h2
    omega
  obtain ⟨a1, a2⟩ := allG_all l [] 0 (by omega)
  have ha : (allI l).1 = l.flatten := a1
  have hlen : l.flatten.length = tot l := by simp [tot, List.length_flatten]
  have hone : ∀ (k : List Int), k.length ≤ 1000000 → macP k [l.flatten] = true := fun k hk => by
    simp only [macP, tot, List.map_cons, List.map_nil, List.sum_cons, List.sum_nil, List.length_cons, List.length_nil, hlen, Bool.and_eq_true, decide_eq_true_eq]
    simp only [tot] at a2
    omega
  have e2 : macP key l = true := by simp only [macP, Bool.and_eq_true, decide_eq_true_eq]; omega
  have hf : ∀ k : List Int, macL k [l.flatten] = macF k l.flatten := fun k => by
    show macF k [l.flatten].flatten = _
    rw [List.flatten_cons, List.flatten_nil, List.append_nil]
  have e3 : cP1 more 0 key = true := by simp only [cP1, Bool.and_eq_true, decide_eq_true_eq, true_and]; omega
  have e4 : Vse.room (([] : List Int).length + key.length) 1 = true := by simp only [Vse.room, decide_eq_true_eq, List.length_nil]; omega
  have hpl := padK_len more.toNat key
  have e5 : (!(eqA (macL key l) (macL key [l.flatten]))) = false := by
    rw [hf]
    show (!(eqA (macF key l.flatten) (macF key l.flatten))) = false
    rw [eqA_self]; rfl
  rw [ha, chk_eval (hone key (by omega)), chk_eval e2, ite_f e5, chk_eval e4, List.nil_append, chk_eval e3, chk_eval (hone (padZ more key) (by show (padK more.toNat key).length ≤ _; omega)), hf, hf]
  have : macF (padZ more key) l.flatten = macF key l.flatten := mac_pad _ _ _
  rw [this, eqA_self]
  rfl

end Go.Proofs.Ytlkddajnebjlcaa.Mac

end

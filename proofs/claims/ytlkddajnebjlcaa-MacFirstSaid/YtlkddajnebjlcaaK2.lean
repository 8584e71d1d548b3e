/- A code of bytes (layer 2, mac): what it is of parts. -/
import Derived.Test.YtlkddajnebjlcaaK1
import Derived.Test.YtlkddajnebjlcaaH10
set_option linter.unusedVariables false
set_option maxRecDepth 100000
namespace Go.Proofs.Ytlkddajnebjlcaa.Mac
open Go Vse Go.Proofs Gen Sha

/-! a key, filled up -/

def xorF (by_ : Int) (q : List Int) : List Int := q.map fun x => xorI .u8 x by_
def mid (f : Int → Int) (q : List Int) (i : Nat) : List Int := (q.take i).map f ++ q.drop i

theorem mid_len (f : Int → Int) (q : List Int) (i : Nat) : (mid f q i).length = q.length := by
  unfold mid
  rw [List.length_append, List.length_map, ← List.length_append, List.take_append_drop]

theorem mid_get (f : Int → Int) {q : List Int} {i : Nat} (h : i < q.length) : (mid f q i).getD i 0 = q[i] := by
  have hl : ((q.take i).map f).length = i := by rw [List.length_map, List.length_take]; omega
  unfold mid
  rw [List.getD_eq_getElem?_getD, List.getElem?_append_right (by omega), hl, Nat.sub_self, List.getElem?_drop, Nat.add_zero, List.getElem?_eq_getElem h]
  rfl

theorem mid_step (f : Int → Int) {q : List Int} {i : Nat} (h : i < q.length) : (mid f q i).set i (f ((mid f q i).getD i 0)) = mid f q (i + 1) := by
  have hl : ((q.take i).map f).length = i := by rw [List.length_map, List.length_take]; omega
  rw [mid_get f h]
  unfold mid
  rw [List.set_append_right _ _ (by omega), hl, Nat.sub_self, List.drop_eq_getElem_cons h, List.set_cons_zero, ← List.take_append_getElem h, List.map_append, List.append_assoc]
  rfl

theorem mid_all (f : Int → Int) (q : List Int) : mid f q q.length = q.map f := by
  unfold mid
  rw [List.take_length, List.drop_length, List.append_nil]

def cF (i : Int) (q : List Int) : Bool := decide (i = 0) && decide (q.length = 64)

theorem mF (by_ : Int) (q : List Int) (hq : q.length = 64) : ∀ (m i : Nat), i + m = 64 →
    SF.many (bodyK Try.prog (ctx (cS shaF shaP)) L0 bF) (m + 1) (by_, (), (i : Int), ()) (mid (fun x => xorI .u8 x by_) q i, ()) = some (.exit 0, encS [6] [.ptr 0 []] [.box d64] 28 ((), ()) (xorF by_ q, ()))
  | 0, i, h => by
    refine rmany_inr ((rF shaF shaP by_ i _).trans ?_) 0
    have : i = q.length := by omega
    subst this
    rw [mid_all]
    simp only [GF, Tr.eval, decide_eq_false (show ¬ ((q.length : Int) < 64) by omega)]
    rfl
  | m + 1, i, h => by
    refine (rmany_inl (d := ((by_, (), ((i + 1 : Nat) : Int), ()), (mid (fun x => xorI .u8 x by_) q (i + 1), ()))) ((rF shaF shaP by_ i _).trans ?_) (m + 1)).trans (mF by_ q hq m (i + 1) (by omega))
    have w0 : w ((i : Int) + 1) = ((i + 1 : Nat) : Int) := (w_id (by omega) (by omega)).trans (by omega)
    unfold GF
    rw [ite_t (decide_eq_true (show ((i : Int) < 64) by omega)), chk_eval (inArrK64 (by omega) (by omega) (by omega)), chk_eval (inArrK64 (by omega) (by omega) (by omega)), w0, Int.toNat_natCast, mid_step _ (by omega)]
    rfl

theorem mF2 (by_ : Int) (d q : List Int) (hq : q.length = 64) : ∀ (m i : Nat), i + m = 64 →
    SF2.many (bodyK Try.prog (ctx (cS shaF shaP)) L0 bF) (m + 1) (by_, (), (i : Int), ()) (d, mid (fun x => xorI .u8 x by_) q i, ()) = some (.exit 0, encS [6] [.ptr 1 []] [.box d32, .box d64] 28 ((), ()) (d, xorF by_ q, ()))
  | 0, i, h => by
    refine rmany_inr ((rF2 shaF shaP by_ i d _).trans ?_) 0
    have : i = q.length := by omega
    subst this
    rw [mid_all]
    simp only [GF2, Tr.eval, decide_eq_false (show ¬ ((q.length : Int) < 64) by omega)]
    rfl
  | m + 1, i, h => by
    refine (rmany_inl (d := ((by_, (), ((i + 1 : Nat) : Int), ()), (d, mid (fun x => xorI .u8 x by_) q (i + 1), ()))) ((rF2 shaF shaP by_ i d _).trans ?_) (m + 1)).trans (mF2 by_ d q hq m (i + 1) (by omega))
    have w0 : w ((i : Int) + 1) = ((i + 1 : Nat) : Int) := (w_id (by omega) (by omega)).trans (by omega)
    unfold GF2
    rw [ite_t (decide_eq_true (show ((i : Int) < 64) by omega)), chk_eval (inArrK64 (by omega) (by omega) (by omega)), chk_eval (inArrK64 (by omega) (by omega) (by omega)), w0, Int.toNat_natCast, mid_step _ (by omega)]
    rfl

theorem mid_zero (f : Int → Int) (q : List Int) : mid f q 0 = q := rfl

theorem lF1 : LoopOK Try.prog (fun j st => if j = 7 then SF.fn (FF cF xorF) st else .fail) bF :=
  rloop_ok (L := fun j st => if j = 7 then SF.fn (FF cF xorF) st else .fail) (L' := L0) cS_sound (loopsOK_of (by kernel_rfl)) SF (F := FF cF xorF) (i := 7) (by kernel_rfl) (fun _ => rfl) fun xs hs r h => by
    obtain ⟨by_, u1, i, u2⟩ := xs
    obtain ⟨q, u3⟩ := hs
    obtain ⟨h1, h2⟩ := Tr.chk_some h
    simp only [cF, Bool.and_eq_true, decide_eq_true_eq] at h1
    obtain ⟨e1, e2⟩ := h1
    have e1 : i = ((0 : Nat) : Int) := e1
    subst e1
    exact ⟨_, (mF by_ q e2 64 0 (by omega)).trans (congrArg some (Tr.ret_some h2))⟩
theorem lF2 : LoopOK Try.prog (fun j st => if j = 7 then SF2.fn (FF2 cF xorF) st else .fail) bF :=
  rloop_ok (L := fun j st => if j = 7 then SF2.fn (FF2 cF xorF) st else .fail) (L' := L0) cS_sound (loopsOK_of (by kernel_rfl)) SF2 (F := FF2 cF xorF) (i := 7) (by kernel_rfl) (fun _ => rfl) fun xs hs r h => by
    obtain ⟨by_, u1, i, u2⟩ := xs
    obtain ⟨d, q, u3⟩ := hs
    obtain ⟨h1, h2⟩ := Tr.chk_some h
    simp only [cF, Bool.and_eq_true, decide_eq_true_eq] at h1
    obtain ⟨e1, e2⟩ := h1
    have e1 : i = ((0 : Nat) : Int) := e1
    subst e1
    exact ⟨_, (mF2 by_ d q e2 64 0 (by omega)).trans (congrArg some (Tr.ret_some h2))⟩
theorem lF : LoopOK Try.prog (LF cF xorF) bF := loopOK_or (i := 7) (by kernel_rfl) (fun _ => rfl) (fun _ => rfl) (fun _ => rfl) lF1 lF2

/-- a key, cut or filled to 64 bytes -/
def keyF (key : List Int) : List Int := overL z64 (if (key.length : Int) > 64 then all 32 (shaF key) else key) ++ []
def fillK (key : List Int) (by_ : Int) : List Int := all 64 (xorF by_ (keyF key))
def s45 : CSpec := .pos nF (fun xs _ => shaP xs.1) fun xs _ => ((fillK xs.1 xs.2.1, ()), ())

theorem overL_len {α : Type} (l m : List α) : (overL l m).length = l.length := by
  unfold overL
  rw [List.length_append, List.length_take, List.length_drop]
  omega
theorem keyF_len (key : List Int) : (keyF key).length = 64 := by
  unfold keyF
  rw [List.append_nil, overL_len]
  rfl

theorem TF_eq (key : List Int) (by_ : Int) (hp : shaP key = true) : (TF shaF shaP cF xorF key by_).eval = some ((fillK key by_, ()), ()) := by
  have hc : cF 0 (keyF key) = true := by simp only [cF, keyF_len, decide_true, Bool.and_self]
  unfold TF
  by_cases h : (key.length : Int) > 64
  · have hk : keyF key = overL z64 (all 32 (shaF key)) ++ [] := by unfold keyF; rw [if_pos h]
    rw [ite_t (decide_eq_true h), chk_eval hp]
    simp only
    rw [← hk, chk_eval hc]
    rfl
  · have hk : keyF key = overL z64 key ++ [] := by unfold keyF; rw [if_neg h]
    rw [ite_f (decide_eq_false h)]
    simp only
    rw [← hk, chk_eval hc]
    rfl

theorem ok45 : CSound Try.prog 45 s45 ∧ CLocal s45 :=
  pos_sound (L := LF cF xorF) cS_sound Try.func45 (by kernel_rfl) (loops1 (by kernel_rfl) lF) fun xs hs _ _ hp => by
    obtain ⟨key, by_, u⟩ := xs
    exact (tF shaF shaP cF xorF key by_).trans (TF_eq key by_ hp)

/-! the code -/

abbrev CMF : Ctx := ctx (cM h0 writeF writeP restP sumH fillK shaP)
theorem cM_sound : CtxSound Try.prog CMF ∧ CtxLocal CMF := ctx_sound ⟨ok19, ok20, ok21, ok45, trivial⟩

def cM1 (l : List (List Int)) (n i : Int) (h : Hs) : Bool := decide (n = (l.length : Int)) && (decide (i = 0) && (decide (h.2.1.length ≤ 1000000) && (decide (tot l ≤ 1000000) && decide (l.length ≤ 1000000))))

theorem rest_le (x : List Int) (h : Hs) : (writeF x h).2.1.length ≤ 1000000 := by
  show (absF h.1 (h.2.1 ++ x)).2.length ≤ 1000000
  rw [abs_rest]; omega

theorem mM (key : List Int) (l : List (List Int)) (hl : l.length ≤ 1000000) (ht : tot l ≤ 1000000) (o : List Int) (h' : Hs) : ∀ (m k : Nat) (h : Hs), k + m = l.length → h.2.1.length ≤ 1000000 →
    SM.many (bodyK Try.prog CMF L0 bM) (m + 1) (key, (), (), (), l, (l.length : Int), (k : Int), ()) (o, h, h', ()) = some (.exit 0, encS [0, 4, 5, 6] [bs, .ptr 0 [], .ptr 1 [], .ptr 2 []] eM 37 (key, (), (), (), ()) (o, zP (l.drop k) h, h', ()))
  | 0, k, h, hk, hr => by
    refine rmany_inr ((rM h0 writeF writeP restP sumH fillK shaP key l l.length k o h h').trans ?_) 0
    rw [List.drop_eq_nil_of_le (by omega)]
    simp only [GM, Tr.eval, decide_eq_false (show ¬ ((k : Int) < (l.length : Int)) by omega)]
    rfl
  | m + 1, k, h, hk, hr => by
    have h1 : k < l.length := by omega
    have g1 : l.getD k [] = l[k] := Gen.getD_cons h1 []
    have hle := getElem_tot l k h1
    refine (rmany_inl (d := ((key, (), (), (), l, (l.length : Int), ((k + 1 : Nat) : Int), ()), (o, writeF l[k] h, h', ()))) ((rM h0 writeF writeP restP sumH fillK shaP key l l.length k o h h').trans ?_) (m + 1)).trans
      ((mM key l hl ht o h' m (k + 1) (writeF l[k] h) (by omega) (rest_le _ _)).trans ?_)
    · have w0 : w ((k : Int) + 1) = ((k + 1 : Nat) : Int) := (w_id (by omega) (by omega)).trans (by omega)
      have e1 : writeP l[k] h = true := decide_eq_true (by omega)
      unfold GM
      simp only [Int.toNat_natCast, g1]
      rw [ite_t (decide_eq_true (show ((k : Int) < (l.length : Int)) by omega)), chk_eval (inArr_nat h1), chk_eval e1, w0]
      rfl
    · rw [List.drop_eq_getElem_cons h1]
      simp only [zP, List.foldl_cons]

theorem lM : LoopOK Try.prog (LM cM1 zP) bM :=
  rloop_ok (L := LM cM1 zP) (L' := L0) cM_sound (loopsOK_of (by kernel_rfl)) SM (F := FM cM1 zP) (i := 4) (by kernel_rfl) (fun _ => rfl) fun xs hs r h => by
    obtain ⟨key, u1, u2, u3, l, n, i, u4⟩ := xs
    obtain ⟨o, hh, h', u5⟩ := hs
    obtain ⟨h1, h2⟩ := Tr.chk_some h
    simp only [cM1, Bool.and_eq_true, decide_eq_true_eq] at h1
    obtain ⟨e1, e2, e3, e4, e5⟩ := h1
    have e1 : n = ((List.length (α := List Int) l : Nat) : Int) := e1
    have e2 : i = ((0 : Nat) : Int) := e2
    subst e1; subst e2
    have := mM key l e5 e4 o h' (List.length (α := List Int) l) 0 hh (by omega) e3
    rw [List.drop_zero] at this
    exact ⟨_, this.trans (congrArg some (Tr.ret_some h2))⟩

/-- the code of bytes by a key -/
def macF (key b : List Int) : List Int := shaF (fillK key 92 ++ all 32 (shaF (fillK key 54 ++ b)))
def macP (key : List Int) (l : List (List Int)) : Bool := decide (key.length ≤ 1000000) && (decide (tot l ≤ 1000000) && decide (l.length ≤ 1000000))
def s29 : CSpec := .slp1 [bs, ls] (fun x => macP x.1 x.2.1) d32 fun x => macF x.1 (List.flatten (α := Int) x.2.1)

theorem fillK_len (key : List Int) (by_ : Int) : (fillK key by_).length = 64 := by
  unfold fillK all xorF
  rw [List.length_take, List.length_drop, List.length_map, keyF_len]
  rfl
theorem all_le (n : Nat) (l : List Int) : (all n l).length ≤ n := by unfold all; rw [List.length_take]; omega

theorem TM_eq {key : List Int} {l : List (List Int)} (hp : macP key l = true) : (TM h0 writeF writeP restP sumH fillK shaP cM1 zP key l).eval = some (.v d32 (macF key l.flatten)) := by
  simp only [macP, Bool.and_eq_true, decide_eq_true_eq] at hp
  obtain ⟨p1, p2, p3⟩ := hp
  have f1 := fillK_len key 54
  have f2 := fillK_len key 92
  have hw : ∀ x, writeF x h0 = hashOf x := fun _ => rfl
  have hz : zP l (hashOf (fillK key 54)) = hashOf (fillK key 54 ++ l.flatten) := zP_hash l _ (by omega)
  have ha := all_le 32 (shaF (fillK key 54 ++ l.flatten))
  have hch : writeF (all 32 (shaF (fillK key 54 ++ l.flatten))) (hashOf (fillK key 92)) = hashOf (fillK key 92 ++ all 32 (shaF (fillK key 54 ++ l.flatten))) := write_chain (by omega)
  have k1 : shaP key = true := decide_eq_true (by omega)
  have k2 : ∀ by_, writeP (fillK key by_) h0 = true := fun by_ => decide_eq_true (by have := fillK_len key by_; show 0 + _ ≤ _; omega)
  have k3 : cM1 l (l.length : Int) 0 (hashOf (fillK key 54)) = true := by
    have := hash_rest (fillK key 54)
    simp only [cM1, Bool.and_eq_true, decide_eq_true_eq, true_and]
    omega
  have k4 : writeP (all 32 (shaF (fillK key 54 ++ l.flatten))) (hashOf (fillK key 92)) = true := decide_eq_true (by have := hash_rest (fillK key 92); omega)
  unfold TM
  simp only [hw, hz]
  rw [chk_eval k1, chk_eval (k2 54), chk_eval k3, chk_eval (hash_restP _), chk_eval k1, chk_eval (k2 92), ← shaF_hash, chk_eval k4, hch, chk_eval (hash_restP _), ← shaF_hash]
  rfl

theorem ok29 : CSound Try.prog 29 s29 ∧ CLocal s29 :=
  slpE1 (L := LM cM1 zP) cM_sound Try.func29 (by kernel_rfl) (loops1 (by kernel_rfl) lM) fun xs hx hp => by
    obtain ⟨key, l, u⟩ := xs
    exact (tM h0 writeF writeP restP sumH fillK shaP cM1 zP key l).trans (TM_eq hp)

end Go.Proofs.Ytlkddajnebjlcaa.Mac

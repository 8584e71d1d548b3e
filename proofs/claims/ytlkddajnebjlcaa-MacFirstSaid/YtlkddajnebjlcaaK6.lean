/- The document's codes and keys (layer 2): what they are; the law's own trial. -/
import Derived.Test.YtlkddajnebjlcaaK5
set_option linter.unusedVariables false
set_option maxRecDepth 100000
namespace Go.Proofs.Ytlkddajnebjlcaa.Mac
open Go Vse Go.Proofs Gen
open Sha hiding wb wu getD_cons

/-! a key, filled up -/

theorem cR_sound : CtxSound Try.prog (ctx (cR rsumF filledP)) ∧ CtxLocal (ctx (cR rsumF filledP)) := ctx_sound ⟨ok17, trivial⟩
def xEl (k : List Int) (by_ : Int) (i : Nat) : Int := if i < k.length then xorI .u8 (k.getD i 0) by_ else by_
def xL (k : List Int) (by_ : Int) (i : Nat) : List Int := (List.range i).map (xEl k by_)
def xX (k : List Int) (by_ : Int) : List Int := xL k by_ 64
theorem xL_len (k : List Int) (by_ : Int) (i : Nat) : (xL k by_ i).length = i := by unfold xL; rw [List.length_map, List.length_range]
theorem xL_step (k : List Int) (by_ : Int) (i : Nat) : xL k by_ (i + 1) = xL k by_ i ++ [xEl k by_ i] := by unfold xL; rw [List.range_succ, List.map_append]; rfl
def cX (k : List Int) (i : Int) (out : List Int) : Bool := decide (i = 0) && decide (out = [])

theorem mX (key : List Int) (by_ : Int) : ∀ (m i : Nat), i + m = 64 →
    SX.many (bodyK Try.prog (ctx (cR rsumF filledP)) L0 bX) (m + 1) (key, by_, (), (i : Int), ()) (xL key by_ i, ()) = some (.exit 0, encS [6] [.vc 0 0] [.vec 0 u8] 36 ((), ()) (xX key by_, ()))
  | 0, i, h => by
    refine rmany_inr ((rX rsumF filledP key by_ i _).trans ?_) 0
    have : i = 64 := by omega
    subst this
    unfold GX
    rw [ite_f (decide_eq_false (by omega))]
    rfl
  | m + 1, i, h => by
    refine (rmany_inl (d := ((key, by_, (), ((i + 1 : Nat) : Int), ()), (xL key by_ (i + 1), ()))) ((rX rsumF filledP key by_ i _).trans ?_) (m + 1)).trans (mX key by_ m (i + 1) (by omega))
    have w0 : w ((i : Int) + 1) = ((i + 1 : Nat) : Int) := (w_id (by omega) (by omega)).trans (by omega)
    have e1 : ∀ x : Int, Vse.room ((xL key by_ i).length + [x].length) 1 = true := fun x => by simp only [Vse.room, xL_len, decide_eq_true_eq, List.length_singleton]; omega
    unfold GX
    rw [ite_t (decide_eq_true (show (i : Int) < 64 by omega)), w0]
    by_cases hi : i < key.length
    · have hx : xEl key by_ i = xorI .u8 (key.getD i 0) by_ := if_pos hi
      rw [ite_t (decide_eq_true (show (i : Int) < (key.length : Int) by omega)), chk_eval (inArr_nat hi), chk_eval (e1 _), Int.toNat_natCast, xL_step, hx]
      rfl
    · have hx : xEl key by_ i = by_ := if_neg hi
      rw [ite_f (decide_eq_false (show ¬ (i : Int) < (key.length : Int) by omega)), chk_eval (e1 _), xL_step, hx]
      rfl

theorem mX2 (key : List Int) (by_ : Int) : ∀ (m i : Nat), i + m = 64 →
    SX2.many (bodyK Try.prog (ctx (cR rsumF filledP)) L0 bX) (m + 1) (key, by_, (), (i : Int), ()) (xL key by_ i, ()) = some (.exit 0, encS [6] [.vc 1 0] [.dead, .vec 0 u8] 36 ((), ()) (xX key by_, ()))
  | 0, i, h => by
    refine rmany_inr ((rX2 rsumF filledP key by_ i _).trans ?_) 0
    have : i = 64 := by omega
    subst this
    unfold GX2
    rw [ite_f (decide_eq_false (by omega))]
    rfl
  | m + 1, i, h => by
    refine (rmany_inl (d := ((key, by_, (), ((i + 1 : Nat) : Int), ()), (xL key by_ (i + 1), ()))) ((rX2 rsumF filledP key by_ i _).trans ?_) (m + 1)).trans (mX2 key by_ m (i + 1) (by omega))
    have w0 : w ((i : Int) + 1) = ((i + 1 : Nat) : Int) := (w_id (by omega) (by omega)).trans (by omega)
    have e1 : ∀ x : Int, Vse.room ((xL key by_ i).length + [x].length) 1 = true := fun x => by simp only [Vse.room, xL_len, decide_eq_true_eq, List.length_singleton]; omega
    unfold GX2
    rw [ite_t (decide_eq_true (show (i : Int) < 64 by omega)), w0]
    by_cases hi : i < key.length
    · have hx : xEl key by_ i = xorI .u8 (key.getD i 0) by_ := if_pos hi
      rw [ite_t (decide_eq_true (show (i : Int) < (key.length : Int) by omega)), chk_eval (inArr_nat hi), chk_eval (e1 _), Int.toNat_natCast, xL_step, hx]
      rfl
    · have hx : xEl key by_ i = by_ := if_neg hi
      rw [ite_f (decide_eq_false (show ¬ (i : Int) < (key.length : Int) by omega)), chk_eval (e1 _), xL_step, hx]
      rfl

theorem lX1 : LoopOK Try.prog (fun j st => if j = 6 then SX.fn (FX cX xX) st else .fail) bX :=
  rloop_ok (L := fun j st => if j = 6 then SX.fn (FX cX xX) st else .fail) (L' := L0) cR_sound (loopsOK_of (by kernel_rfl)) SX (F := FX cX xX) (i := 6) (by kernel_rfl) (fun _ => rfl) fun xs hs r h => by
    obtain ⟨key, by_, u1, i, u2⟩ := xs
    obtain ⟨q, u3⟩ := hs
    obtain ⟨h1, h2⟩ := Tr.chk_some h
    simp only [cX, Bool.and_eq_true, decide_eq_true_eq] at h1
    obtain ⟨e1, e2⟩ := h1
    have e1 : i = ((0 : Nat) : Int) := e1
    subst e1; subst e2
    exact ⟨_, (mX key by_ 64 0 (by omega)).trans (congrArg some (Tr.ret_some h2))⟩
theorem lX2 : LoopOK Try.prog (fun j st => if j = 6 then SX2.fn (FX2 cX xX) st else .fail) bX :=
  rloop_ok (L := fun j st => if j = 6 then SX2.fn (FX2 cX xX) st else .fail) (L' := L0) cR_sound (loopsOK_of (by kernel_rfl)) SX2 (F := FX2 cX xX) (i := 6) (by kernel_rfl) (fun _ => rfl) fun xs hs r h => by
    obtain ⟨key, by_, u1, i, u2⟩ := xs
    obtain ⟨q, u3⟩ := hs
    obtain ⟨h1, h2⟩ := Tr.chk_some h
    simp only [cX, Bool.and_eq_true, decide_eq_true_eq] at h1
    obtain ⟨e1, e2⟩ := h1
    have e1 : i = ((0 : Nat) : Int) := e1
    subst e1; subst e2
    exact ⟨_, (mX2 key by_ 64 0 (by omega)).trans (congrArg some (Tr.ret_some h2))⟩
theorem lX : LoopOK Try.prog (LX cX xX) bX := loopOK_or (i := 6) (by kernel_rfl) (fun _ => rfl) (fun _ => rfl) (fun _ => rfl) lX1 lX2

def keyR (key : List Int) : List Int := if (key.length : Int) > 64 then all 32 (rsumF key) else key
def xorK (key : List Int) (by_ : Int) : List Int := xX (keyR key) by_
theorem xorK_len (key : List Int) (by_ : Int) : (xorK key by_).length = 64 := xL_len _ _ _
def s46 : CSpec := .pos nX (fun xs _ => filledP xs.1) fun xs _ => (((), ()), (xorK xs.1 xs.2.1, ()))

theorem TX_eq (key : List Int) (by_ : Int) (hp : filledP key = true) : (TX rsumF filledP cX xX key by_).eval = some (((), ()), (xorK key by_, ())) := by
  have hc : ∀ k : List Int, cX k 0 [] = true := fun k => rfl
  unfold TX xorK keyR
  by_cases h : (key.length : Int) > 64
  · rw [ite_t (decide_eq_true h), chk_eval hp, if_pos h]
    simp only
    rw [chk_eval (hc _)]
    rfl
  · rw [ite_f (decide_eq_false h), if_neg h]
    simp only
    rw [chk_eval (hc _)]
    rfl

theorem ok46 : CSound Try.prog 46 s46 ∧ CLocal s46 :=
  pos_sound (L := LX cX xX) cR_sound Try.func46 (by kernel_rfl) (loops1 (by kernel_rfl) lX) fun xs hs _ _ hp => by
    obtain ⟨key, by_, u⟩ := xs
    exact (tX rsumF filledP cX xX key by_).trans (TX_eq key by_ hp)

/-! the code -/

theorem cRM_sound : CtxSound Try.prog (ctx (cRM xorK filledP rsumF filledP)) ∧ CtxLocal (ctx (cRM xorK filledP rsumF filledP)) := ctx_sound ⟨ok46, ok17, trivial⟩
def rmacF (key b : List Int) : List Int := rsumF (xorK key 92 ++ all 32 (rsumF (xorK key 54 ++ b)))
def s33 : CSpec := .slp1 [bs, bs] (fun x => oneP x.1 x.2.1) d32 fun x => rmacF x.1 x.2.1
theorem T33_eq {key b : List Int} (hp : oneP key b = true) : (T33 xorK filledP rsumF filledP key b).eval = some (.v d32 (rmacF key b)) := by
  simp only [oneP, Bool.and_eq_true, decide_eq_true_eq] at hp
  have l1 := xorK_len key 54
  have l2 := xorK_len key 92
  have l3 := all_le 32 (rsumF (xorK key 54 ++ b))
  have e1 : filledP key = true := decide_eq_true (by omega)
  have e2 : Vse.room ((xorK key 54).length + b.length) 1 = true := by simp only [Vse.room, decide_eq_true_eq]; omega
  have e3 : filledP (xorK key 54 ++ b) = true := decide_eq_true (by rw [List.length_append]; omega)
  have e4 : Vse.room ((xorK key 92).length + (all 32 (rsumF (xorK key 54 ++ b))).length) 1 = true := by simp only [Vse.room, decide_eq_true_eq]; omega
  have e5 : filledP (xorK key 92 ++ all 32 (rsumF (xorK key 54 ++ b))) = true := decide_eq_true (by rw [List.length_append]; omega)
  unfold T33 rmacF
  simp only
  rw [chk_eval e1, chk_eval e2, chk_eval e3, chk_eval e1, chk_eval e4, chk_eval e5, Tr.eval]
theorem ok33 : CSound Try.prog 33 s33 ∧ CLocal s33 :=
  slpE1 (L := L0) cRM_sound Try.func33 (by kernel_rfl) (noLoopsL (by kernel_rfl)) fun xs hx hp => by
    obtain ⟨key, b, u⟩ := xs
    exact (t33 xorK filledP rsumF filledP key b).trans (T33_eq hp)

/-! keys -/

theorem cRE_sound : CtxSound Try.prog (ctx (cRE oneP rmacF)) ∧ CtxLocal (ctx (cRE oneP rmacF)) := ctx_sound ⟨ok33, trivial⟩
def blkR (key : List Int) (s : ByteArray) (last : List Int) (n : Int) : List Int := all 32 (rmacF key (((([] : List Int) ++ last) ++ strBytes s) ++ [wb n]))
def expR (key : List Int) (s : ByteArray) (many : Int) : Nat → List Int → Int → List Int → List Int
  | 0, _, _, out => out
  | f + 1, last, n, out => if (out.length : Int) < many then expR key s many f (blkR key s last n) (n + 1) (out ++ blkR key s last n) else out
def expY (key : List Int) (s : ByteArray) (many : Int) : List Int := expR key s many 255 [] 1 []
def cY (key : List Int) (s : ByteArray) (many n : Int) (out last : List Int) : Bool :=
  decide (last = []) && (decide (n = 1) && (decide (out = []) && (decide (many ≤ 8160) && (decide (key.length ≤ 1000000) && decide (s.size ≤ 100000)))))

theorem put8L_len (s : List Int) : ∀ (m i : Nat) (q : List Int), (put8L s i m q).length = q.length
  | 0, i, q => rfl
  | m + 1, i, q => by
    rw [put8L, put8L_len s m]
    unfold put8
    simp only [List.length_set]
theorem rsumF_len (b : List Int) : (rsumF b).length = 32 := by
  unfold rsumF put8F
  rw [put8L_len]
  rfl
theorem blkR_len (key : List Int) (s : ByteArray) (last : List Int) (n : Int) : (blkR key s last n).length = 32 := by
  have h : (rmacF key (((([] : List Int) ++ last) ++ strBytes s) ++ [wb n])).length = 32 := rsumF_len _
  unfold blkR
  rw [all_id h, h]

theorem mY {key : List Int} {s : ByteArray} (hk : key.length ≤ 1000000) (hs : s.size ≤ 100000) (many : Int) (hm : many ≤ 8160) : ∀ (f : Nat) (last : List Int) (n : Int) (out : List Int), many ≤ (out.length : Int) + 32 * f → last.length ≤ 32 → 0 ≤ n → n + f ≤ 1000 →
    SY.many (bodyK Try.prog (ctx (cRE oneP rmacF)) L0 bY) (f + 1) (key, s, many, (), (), n, ()) (out, last, ()) = some (.exit 0, encS [2, 8] [i64, .vc 0 0] [.vec 0 u8] 44 (many, (), ()) (expR key s many f last n out, ()))
  | 0, last, n, out, h, hl, h0, hn => by
    refine rmany_inr ((rY oneP rmacF key s many n out last).trans ?_) 0
    unfold GY
    rw [ite_f (decide_eq_false (by omega))]
    rfl
  | f + 1, last, n, out, h, hl, h0, hn => by
    by_cases hc : (out.length : Int) < many
    · have hbl := blkR_len key s last n
      refine (rmany_inl (d := ((key, s, many, (), (), n + 1, ()), (out ++ blkR key s last n, blkR key s last n, ()))) ((rY oneP rmacF key s many n out last).trans ?_) (f + 1)).trans
        ((mY hk hs many hm f (blkR key s last n) (n + 1) (out ++ blkR key s last n) (by rw [List.length_append, hbl]; omega) (by omega) (by omega) (by omega)).trans ?_)
      · have hsl := strBytes_len s
        have e1 : Vse.room (([] : List Int).length + last.length) 1 = true := by simp only [Vse.room, decide_eq_true_eq, List.length_nil]; omega
        have e2 : Vse.room (last.length + (strBytes s).length) 1 = true := by simp only [Vse.room, decide_eq_true_eq]; omega
        have e3 : Vse.room ((last ++ strBytes s).length + [wb n].length) 1 = true := by simp only [Vse.room, decide_eq_true_eq, List.length_append, List.length_singleton]; omega
        have e4 : oneP key ((last ++ strBytes s) ++ [wb n]) = true := by simp only [oneP, Bool.and_eq_true, decide_eq_true_eq, List.length_append, List.length_singleton]; omega
        have hb : all 32 (rmacF key ((last ++ strBytes s) ++ [wb n])) = blkR key s last n := rfl
        have e5 : Vse.room (([] : List Int).length + (blkR key s last n).length) 1 = true := by simp only [Vse.room, decide_eq_true_eq, List.length_nil]; omega
        have e6 : Vse.room (out.length + (blkR key s last n).length) 1 = true := by simp only [Vse.room, decide_eq_true_eq]; omega
        unfold GY
        simp only [List.nil_append, hb]
        rw [ite_t (decide_eq_true hc), chk_eval e1, chk_eval e2, chk_eval e3, chk_eval e4, chk_eval e5, chk_eval e6, w_id (by omega) (by omega)]
        rfl
      · simp only [expR]
        rw [if_pos hc]
    · refine rmany_inr ((rY oneP rmacF key s many n out last).trans ?_) (f + 1)
      unfold GY
      rw [ite_f (decide_eq_false hc)]
      simp only [expR]
      rw [if_neg hc]
      rfl

theorem lY : LoopOK Try.prog (LY cY expY) bY :=
  rloop_ok (L := LY cY expY) (L' := L0) cRE_sound (loopsOK_of (by kernel_rfl)) SY (F := FY cY expY) (i := 6) (by kernel_rfl) (fun _ => rfl) fun xs hs r h => by
    obtain ⟨key, s, many, u1, u2, n, u3⟩ := xs
    obtain ⟨out, last, u4⟩ := hs
    obtain ⟨h1, h2⟩ := Tr.chk_some h
    simp only [cY, Bool.and_eq_true, decide_eq_true_eq] at h1
    obtain ⟨e1, e2, e3, e4, e5, e6⟩ := h1
    subst e1; subst e2; subst e3
    exact ⟨_, (mY e5 e6 many e4 255 [] 1 [] (by rw [List.length_nil]; omega) (by simp) (by omega) (by omega)).trans (congrArg some (Tr.ret_some h2))⟩

theorem expR_len (key : List Int) (s : ByteArray) (many : Int) : ∀ (f : Nat) (last : List Int) (n : Int) (out : List Int), many ≤ (out.length : Int) + 32 * f → many ≤ ((expR key s many f last n out).length : Int)
  | 0, last, n, out, h => by simp only [expR]; omega
  | f + 1, last, n, out, h => by
    simp only [expR]
    by_cases hc : (out.length : Int) < many
    · have hbl := blkR_len key s last n
      rw [if_pos hc]
      exact expR_len key s many f _ _ _ (by rw [List.length_append, hbl]; omega)
    · rw [if_neg hc]; omega

def rexpF (key : List Int) (s : ByteArray) (many : Int) : List Int × Int × Unit := if many < 0 ∨ many > 8160 then ([], 1, ()) else ((expY key s many).take many.toNat, 0, ())
def s32 : CSpec := .pos nE (fun xs _ => expP xs.1 xs.2.1) fun xs _ => (rexpF xs.1 xs.2.1 xs.2.2.1, ())

theorem TY_eq {key : List Int} {s : ByteArray} (hp : expP key s = true) (many : Int) : (TY cY expY key s many).eval = some (rexpF key s many, ()) := by
  simp only [expP, Bool.and_eq_true, decide_eq_true_eq] at hp
  unfold TY rexpF
  simp only
  by_cases h1 : many < 0
  · rw [ite_t (decide_eq_true h1), if_pos (.inl h1)]; rfl
  rw [ite_f (decide_eq_false h1)]
  by_cases h2 : many > 8160
  · rw [ite_t (decide_eq_true h2), if_pos (.inr h2)]; rfl
  rw [ite_f (decide_eq_false h2), if_neg (by omega)]
  have e1 : cY key s many 1 [] [] = true := by
    simp only [cY, Bool.and_eq_true, decide_eq_true_eq, true_and]
    exact ⟨by omega, hp.1, hp.2⟩
  have e2 := expR_len key s many 255 [] 1 [] (by rw [List.length_nil]; omega)
  have e3 : (decide (0 ≤ many) && decide (many ≤ ((expY key s many).length : Int))) = true := by
    simp only [Bool.and_eq_true, decide_eq_true_eq]
    exact ⟨by omega, e2⟩
  rw [chk_eval e1, chk_eval e3]
  rfl

theorem ok32 : CSound Try.prog 32 s32 ∧ CLocal s32 :=
  pos_sound (L := LY cY expY) cRE_sound Try.func32 (by kernel_rfl) (loops1 (by kernel_rfl) lY) fun xs hs _ _ hp => by
    obtain ⟨key, s, many, u⟩ := xs
    exact (tY oneP rmacF cY expY key s many).trans (TY_eq hp many)

/-! the law's own trial -/

def s28 : CSpec := .slp1 [] (fun _ => true) .bool fun _ => true
def cA : List (Nat × CSpec) := [(29, s29), (30, s30), (31, s31)]
theorem cA_sound : CtxSound Try.prog (ctx cA) ∧ CtxLocal (ctx cA) := ctx_sound ⟨ok29, ok30, ok31, trivial⟩
theorem ok28 : CSound Try.prog 28 s28 ∧ CLocal s28 :=
  slpE1 (L := L0) cA_sound Try.func28 (by kernel_rfl) (noLoopsL (by kernel_rfl)) fun xs hx hp => by kernel_rfl

end Go.Proofs.Ytlkddajnebjlcaa.Mac

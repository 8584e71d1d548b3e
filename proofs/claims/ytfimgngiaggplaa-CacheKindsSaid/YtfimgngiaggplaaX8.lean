/- A table (layer 11, cache): the document's table; awake. -/
import Derived.Test.YtfimgngiaggplaaX7
set_option linter.unusedVariables false
set_option linter.unusedSimpArgs false
set_option maxRecDepth 100000
namespace Go.Proofs.Ytfimgngiaggplaa.Cache
open Go Vse Go.Proofs Gen

theorem okCl : CSound Try.prog 73 (.slp1 [.imm false false i64] (fun x => okL (α := Int) x.1) (.imm true false i64) fun x => x.1) ∧ CLocal (.slp1 [.imm false false i64] (fun x => okL (α := Int) x.1) (.imm true false i64) fun x => x.1) :=
  slpN (A := i64) (pre := fun l => okL (α := Int) l) (f := fun l => l) (L := L0) nil_sound Try.func73 (by kernel_rfl) (by kernel_rfl) (by kernel_rfl) (noLoopsL (by kernel_rfl)) (fun n c w => Go.Proofs.AnyE.slices_Clone_nil cloI n c w) rfl fun x hp => by
    refine (tCl x).trans ?_
    have h : List.length (α := Int) x ≤ 1000 := of_decide_eq_true hp
    rw [chk_eval (by simp only [Vse.room, decide_eq_true_eq, List.length_nil]; omega)]
    rfl
theorem cKi_sound : CtxSound Try.prog (ctx (cKi fun l => okL l)) ∧ CtxLocal (ctx (cKi fun l => okL l)) := ctx_sound ⟨okCl, trivial⟩
theorem okKei : CSound Try.prog 46 (sKe i64 .str fun l => okL l) ∧ CLocal (sKe i64 .str fun l => okL l) :=
  pos_sound (L := L0) cKi_sound Try.func46 (by kernel_rfl) (noLoopsL (by kernel_rfl)) fun xs hs hx hh hp => by
    obtain ⟨u, u'⟩ := xs
    obtain ⟨⟨n, u1, u2, u3⟩, l, m, u4⟩ := hs
    refine (tKei _ n l m).trans ?_
    rw [chk_eval hp]; rfl

/-! the document's table -/

theorem pt_to {α : Type} (l : List α) (k : Nat) : pt l 0 (k : Int) = l.take k := by
  simp only [pt, Int.toNat_zero, List.drop_zero, Int.sub_zero, Int.toNat_natCast]
theorem pt_from {α : Type} (l : List α) {k : Nat} (h : k ≤ l.length) : pt l (k : Int) (l.length : Int) = l.drop k := by
  simp only [pt, Int.toNat_natCast]
  exact List.take_of_length_le (by rw [List.length_drop]; omega)
theorem outL_eq {α : Type} {l : List α} {k : Nat} (h : k < l.length) (hl : l.length ≤ 1000) : outL l (k : Int) = outI l (k : Int) := by
  unfold outL outI
  rw [w_succ h hl, pt_to, pt_from l (by omega), List.nil_append, Int.toNat_natCast]
theorem outC_eq {α β : Type} {l : List α} {k : Nat} (h : k < l.length) (hl : l.length ≤ 1000) {by_ : Nat} (hb : by_ ≤ 100) (t : Tr β) : (outC l (k : Int) by_ t).eval = t.eval := by
  unfold outC
  have hr : ∀ a b : Nat, a + b ≤ 1000 → Vse.room (a + b) by_ = true := fun a b h => by
    simp only [Vse.room, decide_eq_true_eq]
    exact Nat.le_trans (Nat.mul_le_mul h hb) (by omega)
  rw [w_succ h hl, pt_to, pt_from l (by omega)]
  rw [chk_eval (by simp [ptOK]; omega), chk_eval (hr _ _ (by simp; omega)), chk_eval (by simp [ptOK]; omega), chk_eval (hr _ _ (by simp; omega))]
def outP (x : Int) (l : List Int) (v : List ByteArray) : Bool := okL l && (decide (l.length = v.length) && (decide (0 ≤ x) && decide (x < (l.length : Int))))
def outF (x : Int) (hs : Rt) : nOu.Out := ((), (hs.1, outI (α := Int) hs.2.1 x, outI (α := ByteArray) hs.2.2.1 x, ()))
theorem okOu : CSound Try.prog 70 (sOu outP outF) ∧ CLocal (sOu outP outF) :=
  pos_sound (L := L0) nil_sound Try.func70 (by kernel_rfl) (noLoopsL (by kernel_rfl)) fun xs hs hx hh hp => by
    obtain ⟨u, x, u'⟩ := xs
    obtain ⟨⟨n, u1, u2, u3⟩, l, v, u4⟩ := hs
    have hp : outP x l v = true := hp
    simp only [outP, okL, Bool.and_eq_true, decide_eq_true_eq] at hp
    obtain ⟨hl, hlv, h0, h1⟩ := hp
    obtain ⟨k, rfl⟩ : ∃ k : Nat, x = (k : Int) := ⟨Int.toNat x, (Int.toNat_of_nonneg h0).symm⟩
    have h1 : (k : Int) < (l.length : Int) := h1
    refine (tOu n l v _).trans ?_
    unfold TOu
    rw [outC_eq (by omega) hl (by omega), outC_eq (by omega) (by omega) (by omega), outL_eq (by omega) hl, outL_eq (by omega) (by omega)]
    rfl
def rdropF (x : Int) (hs : Rt) : nRD.Out := ((isIn i64 hs.2.1 x, ()), if isIn i64 hs.2.1 x = true then (outF (idxF i64 hs.2.1 x) hs).2 else hs)
def rP (hs : Rt) : Bool := okL (α := Int) hs.2.1 && decide (List.length (α := Int) hs.2.1 = List.length (α := ByteArray) hs.2.2.1)
def rdropP (x : Int) (hs : Rt) : Bool := rP hs
theorem cR_sound : CtxSound Try.prog (ctx (cR okL (idxF i64) outP outF)) ∧ CtxLocal (ctx (cR okL (idxF i64) outP outF)) := ctx_sound ⟨okAt, okOu, trivial⟩
theorem okRD : CSound Try.prog 42 (sRD rdropP rdropF) ∧ CLocal (sRD rdropP rdropF) :=
  pos_sound (L := L0) cR_sound Try.func42 (by kernel_rfl) (noLoopsL (by kernel_rfl)) fun xs hs hx hh hp => by
    obtain ⟨u, x, u'⟩ := xs
    obtain ⟨⟨n, u1, u2, u3⟩, l, v, u4⟩ := hs
    have hp : rP ((n, (), (), ()), l, v, ()) = true := hp
    simp only [rP, okL, Bool.and_eq_true, decide_eq_true_eq] at hp
    refine (tRD _ _ _ _ n l v x).trans ?_
    unfold TRD
    show _ = some (rdropF x ((n, (), (), ()), l, v, ()))
    unfold rdropF
    rw [chk_eval (show okL l = true from decide_eq_true hp.1)]
    cases hq : isIn i64 l x with
    | true =>
      obtain ⟨k, hk, hk2⟩ := idx_lt hq
      rw [hk, ite_f (decide_eq_false (by omega)), chk_eval (by simp [outP, okL]; omega)]
      simp only [hq, hk, if_true]
      rfl
    | false =>
      rw [idxF_out hq, ite_t (show decide ((-1 : Int) < 0) = true from rfl)]
      simp only [hq, Bool.false_eq_true, if_false]
      rfl
def rfullF (x : Int) (hs : Rt) : Bool := !isIn i64 hs.2.1 x && ((List.length (α := Int) hs.2.1 : Int) == hs.1.1)
def rroomF (x : Int) (hs : Rt) : Rt := if rfullF x hs = true then (outF 0 hs).2 else hs
def rputF (x : Int) (s : ByteArray) (hs : Rt) : nRP.Out :=
  ((if rfullF x hs = true then List.getD (α := Int) hs.2.1 0 0 else 0, rfullF x hs, ()), if isIn i64 hs.2.1 x = true then (hs.1, hs.2.1, List.set (α := ByteArray) hs.2.2.1 (idxF i64 hs.2.1 x).toNat s, ()) else
    ((rroomF x hs).1, List.append (α := Int) (rroomF x hs).2.1 [x], List.append (α := ByteArray) (rroomF x hs).2.2.1 [s], ()))
def rputP (x : Int) (s : ByteArray) (hs : Rt) : Bool := rP hs && decide (1 ≤ hs.1.1)
theorem okRP : CSound Try.prog 40 (sRP rputP rputF) ∧ CLocal (sRP rputP rputF) :=
  pos_sound (L := L0) cR_sound Try.func40 (by kernel_rfl) (noLoopsL (by kernel_rfl)) fun xs hs hx hh hp => by
    obtain ⟨u, x, s, u'⟩ := xs
    obtain ⟨⟨n0, u1, u2, u3⟩, l0, v0, u4⟩ := hs
    obtain ⟨n, hn0⟩ : ∃ n : Int, n = n0 := ⟨n0, rfl⟩
    obtain ⟨l, hl0⟩ : ∃ l : List Int, l = l0 := ⟨l0, rfl⟩
    obtain ⟨v, hv0⟩ : ∃ v : List ByteArray, v = v0 := ⟨v0, rfl⟩
    subst hn0
    subst hl0
    subst hv0
    have hp : rputP x s ((n, (), (), ()), l, v, ()) = true := hp
    simp only [rputP, rP, okL, Bool.and_eq_true, decide_eq_true_eq] at hp
    obtain ⟨⟨hl, hlv⟩, hn⟩ := hp
    have hn : 1 ≤ n := hn
    refine (tRP _ _ _ _ n l v x s).trans ?_
    unfold TRP
    show _ = some (rputF x s ((n, (), (), ()), l, v, ()))
    have hr : ∀ a b c : Nat, a ≤ 1000 → b = 1 → c ≤ 100 → Vse.room (a + b) c = true := fun a b c h h1 h2 => by
      simp only [Vse.room, decide_eq_true_eq]
      exact Nat.le_trans (Nat.mul_le_mul (show a + b ≤ 1001 by omega) h2) (by omega)
    unfold rputF rroomF rfullF
    dsimp only
    rw [chk_eval (show okL l = true from decide_eq_true hl)]
    cases hq : isIn i64 l x with
    | true =>
      obtain ⟨k, hk, hk2⟩ := idx_lt hq
      rw [hk, ite_t (decide_eq_true (by omega)), chk_eval (inArr_of (by omega))]
      simp only [Bool.not_true, Bool.false_and, Bool.false_eq_true, if_false, if_true]
      rfl
    | false =>
      rw [idxF_out hq, ite_f (decide_eq_false (by omega))]
      by_cases hf : ((l.length : Int) == n) = true
      · have hlen : (l.length : Int) = n := by simpa using hf
        have hol : ∀ {α : Type} (z : List α), (outI z 0).length ≤ z.length := fun z => by simp only [outI, List.length_append, List.length_take, List.length_drop]; omega
        rw [ite_t hf, chk_eval (show inArr 0 l.length = true from inArr_of (k := 0) (show 0 < l.length by omega)), chk_eval (show outP 0 l v = true by simp [outP, okL]; omega)]
        simp only [hf, Bool.not_false, Bool.true_and, if_true, Bool.false_eq_true, if_false]
        have h5 : List.length (α := Int) (outF 0 ((n, (), (), ()), l, v, ())).2.2.1 ≤ 1000 := Nat.le_trans (hol l) hl
        have h6 : List.length (α := ByteArray) (outF 0 ((n, (), (), ()), l, v, ())).2.2.2.1 ≤ 1000 := Nat.le_trans (hol v) (by omega)
        rw [chk_eval (hr _ [x].length 8 h5 rfl (by omega)), chk_eval (hr _ [s].length 16 h6 rfl (by omega))]
        rfl
      · have hf : ((l.length : Int) == n) = false := Bool.eq_false_iff.2 hf
        rw [ite_f hf]
        simp only [hf, Bool.not_false, Bool.true_and, if_true, Bool.false_eq_true, if_false]
        rw [chk_eval (hr _ [x].length 8 hl rfl (by omega)), chk_eval (hr _ [s].length 16 (by omega) rfl (by omega))]
        rfl

/-! awake -/

theorem tA : nrm (fnS Try.prog (ctx (cA (putP i64 .str) (putF i64 .str) (dropP i64 .str) (dropF i64 .str) fun l => okL l)) L0 [.bool] Try.f36 (mkArgs [] ())) = some (.v .bool true) := by kernel_rfl
theorem cA_sound : CtxSound Try.prog (ctx (cA (putP i64 .str) (putF i64 .str) (dropP i64 .str) (dropF i64 .str) fun l => okL l)) ∧ CtxLocal (ctx (cA (putP i64 .str) (putF i64 .str) (dropP i64 .str) (dropF i64 .str) fun l => okL l)) :=
  ctx_sound ⟨okNi, okPui, okDri, okGei, okLei, okKei, trivial⟩
theorem okA : CSound Try.prog 36 (.slp1 [] (fun _ => true) .bool fun _ => true) ∧ CLocal (.slp1 [] (fun _ => true) .bool fun _ => true) :=
  slpE1 (L := L0) cA_sound Try.func36 (by kernel_rfl) (noLoopsL (by kernel_rfl)) fun xs hx hp => tA
end Go.Proofs.Ytfimgngiaggplaa.Cache

/- A table (layer 11, cache): what Put and Drop give; plain laws of tables. -/
import Derived.Test.YtfimgngiaggplaaX6
set_option linter.unusedVariables false
set_option maxRecDepth 100000
namespace Go.Proofs.Ytfimgngiaggplaa.Cache
open Go Vse Go.Proofs Gen

/-- one element is out -/
def outI {α : Type} (l : List α) (i : Int) : List α := l.take i.toNat ++ l.drop (i.toNat + 1)
def dropF (K V : Ty) (x : K.den) (hs : Tb K V) : (nDr K V).Out :=
  (((mapLook (K := K) (V := V) hs.2.2.1 x).isSome, ()), if (mapLook (K := K) (V := V) hs.2.2.1 x).isSome = true then (hs.1, outI (α := K.den) hs.2.1 (idxF K hs.2.1 x), mapDel (K := K) (V := V) hs.2.2.1 x, ()) else hs)
def dropP (K V : Ty) (x : K.den) (hs : Tb K V) : Bool := okL (α := K.den) hs.2.1 && (!(mapLook (K := K) (V := V) hs.2.2.1 x).isSome || isIn K hs.2.1 x)
def fullF (K V : Ty) (x : K.den) (hs : Tb K V) : Bool := !(mapLook (K := K) (V := V) hs.2.2.1 x).isSome && ((List.length (α := K.den) hs.2.1 : Int) == hs.1.1)
def goneF (K V : Ty) (x : K.den) (hs : Tb K V) : K.den := if fullF K V x hs = true then List.getD (α := K.den) hs.2.1 0 (dflt K) else dflt K
def roomF (K V : Ty) (x : K.den) (hs : Tb K V) : Tb K V := if fullF K V x hs = true then (dropF K V (List.getD (α := K.den) hs.2.1 0 (dflt K)) hs).2 else hs
def putF (K V : Ty) (x : K.den) (v : V.den) (hs : Tb K V) : (nPu K V).Out :=
  ((goneF K V x hs, fullF K V x hs, ()), ((roomF K V x hs).1, if (mapLook (K := K) (V := V) hs.2.2.1 x).isSome = true then (roomF K V x hs).2.1 else List.append (α := K.den) (roomF K V x hs).2.1 [x], mapPut (K := K) (V := V) (roomF K V x hs).2.2.1 x v, ()))
def putP (K V : Ty) (x : K.den) (v : V.den) (hs : Tb K V) : Bool := okL (α := K.den) hs.2.1 && decide (1 ≤ hs.1.1)

theorem idx_lt {K : Ty} {l : List K.den} {x : K.den} (h : isIn K l x = true) : ∃ k : Nat, idxF K l x = (k : Int) ∧ k < l.length := by
  refine ⟨_, idxF_in h, ?_⟩
  obtain ⟨y, hy, hq⟩ := List.any_eq_true.1 h
  exact List.findIdx_lt_length_of_exists ⟨y, hy, hq⟩

theorem TDr_eq {K V : Ty} {n : Int} {l : List K.den} {m : MP K V} {x : K.den} (h : dropP K V x ((n, (), (), ()), l, m, ()) = true) :
    (TDr K V (fun l _ => okL l) (idxF K) n l m x).eval = some (dropF K V x ((n, (), (), ()), l, m, ())) := by
  simp only [dropP, Bool.and_eq_true, Bool.or_eq_true, Bool.not_eq_true'] at h
  obtain ⟨h1, h2⟩ := h
  have hl : l.length ≤ 1000 := of_decide_eq_true h1
  unfold TDr dropF
  cases hq : (mapLook m x).isSome with
  | false => rw [ite_f rfl, if_neg (by simp)]; rfl
  | true =>
    rcases h2 with h2 | h2
    · exact absurd (hq.symm.trans h2) (by simp)
    obtain ⟨k, hk, hk2⟩ := idx_lt h2
    have e1 : w (idxF K l x + 1) = ((k + 1 : Nat) : Int) := by rw [hk]; exact w_succ hk2 hl
    rw [ite_t rfl, chk_eval h1, e1, hk, chk_eval (decide_eq_true ⟨by omega, by omega, by omega⟩), if_pos rfl]
    show some _ = some _
    simp only [cutL, outI, hk, Int.toNat_natCast]

theorem drop_len {K V : Ty} {x : K.den} {hs : Tb K V} : List.length (α := K.den) (dropF K V x hs).2.2.1 ≤ List.length (α := K.den) hs.2.1 := by
  unfold dropF
  split
  · simp only [outI, List.length_append, List.length_take, List.length_drop]; omega
  · exact Nat.le_refl _
theorem okIn_zero {K : Ty} (hE : ∀ y, eqT K y y = true) {l : List K.den} (h : 0 < l.length) : isIn K l (l.getD 0 (dflt K)) = true :=
  List.any_eq_true.2 ⟨l[0], List.getElem_mem _, by rw [getD_of h]; exact hE _⟩

theorem TPu_eq {K V : Ty} (hE : ∀ y, eqT K y y = true) {by_ : Nat} (hb : by_ ≤ 100) {n : Int} {l : List K.den} {m : MP K V} {x : K.den} {v : V.den} (h : putP K V x v ((n, (), (), ()), l, m, ()) = true) :
    (TPu K V by_ (dropP K V) (dropF K V) n l m x v).eval = some (putF K V x v ((n, (), (), ()), l, m, ())) := by
  simp only [putP, Bool.and_eq_true, decide_eq_true_eq] at h
  obtain ⟨h1, hn⟩ := h
  have hl : l.length ≤ 1000 := of_decide_eq_true h1
  have hn : 1 ≤ n := hn
  have hr : ∀ k : Nat, k ≤ 1000 → Vse.room (k + [x].length) by_ = true := fun k hk => by
    simp only [Vse.room, decide_eq_true_eq, List.length_singleton]
    exact Nat.le_trans (Nat.mul_le_mul (show k + 1 ≤ 1001 by omega) hb) (by omega)
  unfold TPu putF goneF roomF fullF
  cases hq : (mapLook m x).isSome with
  | true =>
    rw [ite_f (by simp), ite_f (by simp)]
    rfl
  | false =>
    by_cases hf : ((l.length : Int) == n) = true
    · have hlen : (l.length : Int) = n := by simpa using hf
      have h0 : 0 < l.length := by omega
      have hdp : dropP K V (l.getD 0 (dflt K)) ((n, (), (), ()), l, m, ()) = true := by
        simp only [dropP, h1, Bool.true_and, okIn_zero hE h0, Bool.or_true]
      rw [ite_t (by simp), ite_t hf, chk_eval (show inArr 0 l.length = true from inArr_of h0), chk_eval hdp]
      have hdl : List.length (α := K.den) (dropF K V (l.getD 0 (dflt K)) ((n, (), (), ()), l, m, ())).2.2.1 ≤ 1000 := Nat.le_trans drop_len hl
      simp only [hq, Bool.not_false, Bool.true_and, hf, if_true]
      rw [ite_t rfl, chk_eval (hr _ hdl)]
      rfl
    · have hf : ((l.length : Int) == n) = false := Bool.eq_false_iff.2 hf
      rw [ite_t (by simp), ite_f hf]
      simp only [hq, Bool.not_false, Bool.true_and, hf, Bool.false_eq_true, if_false]
      rw [ite_t rfl, chk_eval (hr _ hl)]
      rfl

theorem eqB_iff {x y : ByteArray} : (x == y) = true ↔ x = y := by
  obtain ⟨a⟩ := x
  obtain ⟨b⟩ := y
  show (a == b) = true ↔ _
  rw [beq_iff_eq, ByteArray.mk.injEq]
theorem eqB_refl (y : ByteArray) : (y == y) = true := eqB_iff.2 rfl
theorem eqi (y : Int) : eqT i64 y y = true := decide_eq_true rfl
theorem eqs (y : ByteArray) : eqT .str y y = true := by
  show (y == y) = true
  exact eqB_refl y

/-! the program's functions -/

theorem enterF {k : Nat} {fn : Func} (hf : Try.prog.funcs[k]? = some fn) (h : ((fn.name == "runtime.NumGoroutine") == false && fn.body.isSome) = true) (args : Array Value) (w : World) : (callFunc k args).run Try.prog w = .ok (.enter k args) w := by
  simp only [Bool.and_eq_true, beq_iff_eq] at h
  obtain ⟨c, hc⟩ := Option.isSome_iff_exists.1 h.2
  exact callFunc_enter hf h.1 hc args w
theorem okDeli : CSound Try.prog 72 (CSpec.del i64) ∧ CLocal (CSpec.del i64) :=
  del_sound (A := i64) rfl delI rfl (fun w => Try.zeroValue3 w) rfl rfl rfl (fun a w => enterF Try.func72 (by kernel_rfl) a w)
theorem okDels : CSound Try.prog 75 (CSpec.del .str) ∧ CLocal (CSpec.del .str) :=
  del_sound (A := .str) rfl delS rfl (fun w => Try.zeroValue9 w) rfl rfl rfl (fun a w => enterF Try.func75 (by kernel_rfl) a w)
theorem cDi_sound : CtxSound Try.prog (ctx (cDi (fun l _ => okL l) (idxF i64))) ∧ CtxLocal (ctx (cDi (fun l _ => okL l) (idxF i64))) := ctx_sound ⟨okIi, okDeli, trivial⟩
theorem cDs_sound : CtxSound Try.prog (ctx (cDs (fun l _ => okL l) (idxF .str))) ∧ CtxLocal (ctx (cDs (fun l _ => okL l) (idxF .str))) := ctx_sound ⟨okIs, okDels, trivial⟩
theorem okDri : CSound Try.prog 41 (sDr i64 .str (dropP i64 .str) (dropF i64 .str)) ∧ CLocal (sDr i64 .str (dropP i64 .str) (dropF i64 .str)) :=
  pos_sound (L := L0) cDi_sound Try.func41 (by kernel_rfl) (noLoopsL (by kernel_rfl)) fun xs hs hx hh hp => by
    obtain ⟨u, x, u'⟩ := xs
    obtain ⟨⟨n, u1, u2, u3⟩, l, m, u4⟩ := hs
    exact (tDri _ _ n l m x).trans (TDr_eq hp)
theorem okDrs : CSound Try.prog 49 (sDr .str tS (dropP .str tS) (dropF .str tS)) ∧ CLocal (sDr .str tS (dropP .str tS) (dropF .str tS)) :=
  pos_sound (L := L0) cDs_sound Try.func49 (by kernel_rfl) (noLoopsL (by kernel_rfl)) fun xs hs hx hh hp => by
    obtain ⟨u, x, u'⟩ := xs
    obtain ⟨⟨n, u1, u2, u3⟩, l, m, u4⟩ := hs
    exact (tDrs _ _ n l m x).trans (TDr_eq hp)
theorem cPi_sound : CtxSound Try.prog (ctx (cPi (dropP i64 .str) (dropF i64 .str))) ∧ CtxLocal (ctx (cPi (dropP i64 .str) (dropF i64 .str))) := ctx_sound ⟨okDri, trivial⟩
theorem cPs_sound : CtxSound Try.prog (ctx (cPs (dropP .str tS) (dropF .str tS))) ∧ CtxLocal (ctx (cPs (dropP .str tS) (dropF .str tS))) := ctx_sound ⟨okDrs, trivial⟩
theorem okPui : CSound Try.prog 39 (sPu i64 .str (putP i64 .str) (putF i64 .str)) ∧ CLocal (sPu i64 .str (putP i64 .str) (putF i64 .str)) :=
  pos_sound (L := L0) cPi_sound Try.func39 (by kernel_rfl) (noLoopsL (by kernel_rfl)) fun xs hs hx hh hp => by
    obtain ⟨u, x, v, u'⟩ := xs
    obtain ⟨⟨n, u1, u2, u3⟩, l, m, u4⟩ := hs
    exact (tPui _ _ n l m x v).trans (TPu_eq eqi (by omega) hp)
theorem okPus : CSound Try.prog 50 (sPu .str tS (putP .str tS) (putF .str tS)) ∧ CLocal (sPu .str tS (putP .str tS) (putF .str tS)) :=
  pos_sound (L := L0) cPs_sound Try.func50 (by kernel_rfl) (noLoopsL (by kernel_rfl)) fun xs hs hx hh hp => by
    obtain ⟨u, x, v, u'⟩ := xs
    obtain ⟨⟨n, u1, u2, u3⟩, l, m, u4⟩ := hs
    exact (tPus _ _ n l m x v).trans (TPu_eq eqs (by omega) hp)
theorem okGei : CSound Try.prog 43 (sGe i64 .str) ∧ CLocal (sGe i64 .str) :=
  pos_sound (L := L0) nil_sound Try.func43 (by kernel_rfl) (noLoopsL (by kernel_rfl)) fun xs hs hx hh hp => by
    obtain ⟨u, x, u'⟩ := xs
    obtain ⟨⟨n, u1, u2, u3⟩, l, m, u4⟩ := hs
    exact tGei n l m x
theorem okGes : CSound Try.prog 51 (sGe .str tS) ∧ CLocal (sGe .str tS) :=
  pos_sound (L := L0) nil_sound Try.func51 (by kernel_rfl) (noLoopsL (by kernel_rfl)) fun xs hs hx hh hp => by
    obtain ⟨u, x, u'⟩ := xs
    obtain ⟨⟨n, u1, u2, u3⟩, l, m, u4⟩ := hs
    exact tGes n l m x
theorem okLei : CSound Try.prog 47 (sLe i64 .str) ∧ CLocal (sLe i64 .str) :=
  pos_sound (L := L0) nil_sound Try.func47 (by kernel_rfl) (noLoopsL (by kernel_rfl)) fun xs hs hx hh hp => by
    obtain ⟨u, u'⟩ := xs
    obtain ⟨⟨n, u1, u2, u3⟩, l, m, u4⟩ := hs
    exact tLei n l m
theorem okLes : CSound Try.prog 52 (sLe .str tS) ∧ CLocal (sLe .str tS) :=
  pos_sound (L := L0) nil_sound Try.func52 (by kernel_rfl) (noLoopsL (by kernel_rfl)) fun xs hs hx hh hp => by
    obtain ⟨u, u'⟩ := xs
    obtain ⟨⟨n, u1, u2, u3⟩, l, m, u4⟩ := hs
    exact tLes n l m

/-! New -/

theorem okR_t {n : Int} (h : okR n = true) : (1 ≤ n ∧ n ≤ 1000) := by simpa [okR] using h
theorem okR_f {n : Int} (h : (!okR n) = true) : n < 1 ∨ n > 1000 := by
  simp only [okR, Bool.not_eq_true', Bool.and_eq_false_iff, decide_eq_false_iff_not] at h
  omega
theorem TNa_eq (K V : Ty) {n : Int} (h : okR n = true) : (TNa K V n).eval = some (newF K V n) := by
  have := okR_t h
  unfold TNa
  rw [ite_f (decide_eq_false (by omega)), ite_f (decide_eq_false (by omega))]; rfl
theorem TNb_eq (K V : Ty) {n : Int} (h : (!okR n) = true) : (TNb K V n).eval = some (((), (1 : Int), ()), ()) := by
  have := okR_f h
  unfold TNb
  by_cases h1 : n < 1
  · rw [ite_t (decide_eq_true h1)]; rfl
  · rw [ite_f (decide_eq_false h1), ite_t (decide_eq_true (by omega))]; rfl
theorem okNi : CSound Try.prog 37 (sN i64 .str) ∧ CLocal (sN i64 .str) :=
  two_sound _ rfl rfl
    (pos_sound (S := nNa i64 .str) (L := L0) nil_sound Try.func37 (by kernel_rfl) (noLoopsL (by kernel_rfl)) fun xs hs hx hh hp => (tNai xs.1).trans (TNa_eq i64 .str hp))
    (pos_sound (S := nNb i64 .str) (L := L0) nil_sound Try.func37 (by kernel_rfl) (noLoopsL (by kernel_rfl)) fun xs hs hx hh hp => (tNbi xs.1).trans (TNb_eq i64 .str hp))
theorem okNs : CSound Try.prog 48 (sN .str tS) ∧ CLocal (sN .str tS) :=
  two_sound _ rfl rfl
    (pos_sound (S := nNa .str tS) (L := L0) nil_sound Try.func48 (by kernel_rfl) (noLoopsL (by kernel_rfl)) fun xs hs hx hh hp => (tNas xs.1).trans (TNa_eq .str tS hp))
    (pos_sound (S := nNb .str tS) (L := L0) nil_sound Try.func48 (by kernel_rfl) (noLoopsL (by kernel_rfl)) fun xs hs hx hh hp => (tNbs xs.1).trans (TNb_eq .str tS hp))
theorem okRN : CSound Try.prog 38 sRN ∧ CLocal sRN :=
  two_sound _ rfl rfl
    (pos_sound (S := nRN) (L := L0) nil_sound Try.func38 (by kernel_rfl) (noLoopsL (by kernel_rfl)) fun xs hs hx hh hp => (tRN xs.1).trans (by
      have := okR_t hp
      unfold TRN
      rw [ite_f (decide_eq_false (by omega)), ite_f (decide_eq_false (by omega))]; rfl))
    (pos_sound (S := nRM) (L := L0) nil_sound Try.func38 (by kernel_rfl) (noLoopsL (by kernel_rfl)) fun xs hs hx hh hp => (tRM xs.1).trans (TNb_eq i64 .str hp))
end Go.Proofs.Ytfimgngiaggplaa.Cache

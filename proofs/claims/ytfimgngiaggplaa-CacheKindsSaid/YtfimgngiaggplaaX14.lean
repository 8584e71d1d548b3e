/- A table (layer 11, cache): CacheDoes and CacheKinds are true, as loops. -/
import Derived.Test.YtfimgngiaggplaaX13
set_option linter.unusedVariables false
set_option linter.unusedSimpArgs false
set_option linter.unusedSectionVars false
set_option maxRecDepth 100000
namespace Go.Proofs.Ytfimgngiaggplaa.Cache
open Go Vse Go.Proofs Gen

/-! CacheDoes -/

abbrev fin1 (up : Bool) (l : List tOp.den) (i x : Int) (t : T1) (r : Rt) := finD up (fun l => okL l) okL (idxF i64) okIn sameL l i x t r
theorem fin_eq {up : Bool} {l : List tOp.den} {k : Nat} {x : Int} {t : T1} {r : Rt} (hl : l.length ≤ 60) (hk : k < l.length) (h : Rel t r) :
    (fin1 up l (k : Int) x t r).eval = some (.inl ((l, up, (), (), ((k + 1 : Nat) : Int), ()), (t.1, t.2.1, t.2.2.1, r.1, r.2.1, r.2.2.1, ()))) := by
  have e1 : w ((k : Int) + 1) = ((k + 1 : Nat) : Int) := w_succ hk (by omega)
  have hok := h.wf.okl
  have hs := h.wf.same x
  have hlook := h.look x
  obtain ⟨⟨n, u1, u2, u3⟩, ks, m, u4⟩ := t
  obtain ⟨⟨n', w1, w2, w3⟩, ks', v, w4⟩ := r
  have e2 : ks' = ks := h.l
  subst e2
  have hvl : v.length = ks'.length := h.vl
  have hs : (mapLook m x).isSome = isIn i64 ks' x := hs
  have hlook : mapLook m x = mapLook (zipT ks' v) x := hlook
  have hsame : sameL ks' ks' = true := decide_eq_true rfl
  have hok : okL ks' = true := hok
  unfold fin1 finD
  dsimp only
  rw [e1, chk_eval hok, chk_eval hok, chk_eval (show okIn ks' ks' = true from hok), hs, hsame]
  cases hx : isIn i64 ks' x with
  | true =>
    obtain ⟨j, hj, hj2⟩ := idx_lt hx
    have hg := zip_get (v := v) hvl hx
    rw [hlook, hg, hj, ite_f (by rw [decide_eq_true (show (j : Int) ≥ 0 by omega)]; rfl), ite_f (show (!true) = false from rfl), ite_f (by simp), ite_t rfl, chk_eval (inArr_of (by omega)), Option.getD_some, Int.toNat_natCast, ite_f (bneB_self _), ite_f (show (!true) = false from rfl)]
    rfl
  | false =>
    have hg : mapLook m x = none := by
      rw [hx] at hs
      exact Option.not_isSome_iff_eq_none.1 (by rw [hs]; simp)
    rw [hg, idxF_out hx, ite_f (by rfl), ite_f (show (!true) = false from rfl), ite_f (by simp), ite_f rfl, ite_t (show (!false) = true from rfl), Option.getD_none, ite_f (bneB_self _)]
    rfl
abbrev GD1 (up : Bool) (l : List tOp.den) (i : Int) (t : T1) (r : Rt) := GD up (putP i64 .str) (putF i64 .str) (dropP i64 .str) (dropF i64 .str) (fun l => okL l) rputP rputF rdropP rdropF okL (idxF i64) okIn sameL l i t r
theorem beqb (b : Bool) : (!(b == b)) = false := by cases b <;> rfl
theorem GD_step {up : Bool} {l : List tOp.den} {k : Nat} {t : T1} {r : Rt} (hl : l.length ≤ 60) (hk : k < l.length) (h : Rel t r) :
    ∃ t' r', (GD1 up l (k : Int) t r).eval = some (.inl ((l, up, (), (), ((k + 1 : Nat) : Int), ()), (t'.1, t'.2.1, t'.2.2.1, r'.1, r'.2.1, r'.2.2.1, ()))) ∧ Rel t' r' := by
  unfold GD1 GD
  dsimp only
  rw [Int.toNat_natCast]
  generalize l.getD k (dflt tOp) = X
  obtain ⟨do_, x, s, u⟩ := X
  dsimp only
  rw [ite_t (decide_eq_true (by omega)), chk_eval (inArr_of hk)]
  have hrp : rputP x s r = true := by
    simp only [rputP, Bool.and_eq_true, decide_eq_true_eq]
    exact ⟨h.rP, by rw [h.n]; exact h.wf.lo⟩
  by_cases hd : ((do_ : Int) == 0) = true
  · obtain ⟨h1, h2⟩ := h.put x s
    rw [ite_t hd, chk_eval (h.wf.putP x s), chk_eval hrp, h1, ite_f (by simp), ite_f (beqb _)]
    exact ⟨_, _, fin_eq hl hk h2, h2⟩
  rw [ite_f (Bool.eq_false_iff.2 hd)]
  by_cases hd : ((do_ : Int) == 1) = true
  · obtain ⟨h1, h2⟩ := h.drop x
    rw [ite_t hd, chk_eval (h.wf.dropP x), chk_eval (show rdropP x r = true from h.rP), h1, ite_f (beqb _)]
    exact ⟨_, _, fin_eq hl hk h2, h2⟩
  · rw [ite_f (Bool.eq_false_iff.2 hd)]
    exact ⟨_, _, fin_eq hl hk h, h⟩
theorem GD_end {up : Bool} {l : List tOp.den} {t : T1} {r : Rt} : (GD1 up l (l.length : Int) t r).eval = some (.inr (.exit 0, encS [5] [.bool] (dd 6) 156 (up, ()) ())) := by
  unfold GD1 GD
  dsimp only
  rw [ite_f (decide_eq_false (by omega))]
  rfl
abbrev CD1 : Ctx := ctx (cV true (putP i64 .str) (putF i64 .str) (dropP i64 .str) (dropF i64 .str) (fun l => okL l) rputP rputF rdropP rdropF okL (idxF i64) okIn sameL)
theorem mD {up : Bool} {l : List tOp.den} (hl : l.length ≤ 60) : ∀ (m k : Nat) (t : T1) (r : Rt), k + m = l.length → Rel t r →
    SD.many (bodyK Try.prog CD1 L0 bD) (m + 1) (l, up, (), (), (k : Int), ()) (t.1, t.2.1, t.2.2.1, r.1, r.2.1, r.2.2.1, ()) = some (.exit 0, encS [5] [.bool] (dd 6) 156 (up, ()) ())
  | 0, k, t, r, h, _ => by
    have : k = l.length := by omega
    subst this
    exact rmany_inr ((rD _ _ _ _ _ _ _ _ _ _ _ _ _ _ _ l _ t.1.1 t.2.1 t.2.2.1 r.1.1 r.2.1 r.2.2.1).trans GD_end) 0
  | m + 1, k, t, r, h, hw => by
    obtain ⟨t', r', q1, q2⟩ := GD_step (up := up) hl (k := k) (by omega) hw
    exact (rmany_inl ((rD _ _ _ _ _ _ _ _ _ _ _ _ _ _ _ l _ t.1.1 t.2.1 t.2.2.1 r.1.1 r.2.1 r.2.2.1).trans q1) (m + 1)).trans (mD hl m (k + 1) t' r' (by omega) q2)
theorem cD_sound : CtxSound Try.prog CD1 ∧ CtxLocal CD1 := ctx_sound ⟨okA, okNi, okPui, okDri, okGei, okLei, okKei, okRN, okRP, okRD, okAt, ok_Ints, trivial⟩
open Classical in
noncomputable def cD1 (l : List tOp.den) (i : Int) (t : T1) (r : Rt) : Bool := decide (l.length ≤ 60 ∧ i = 0 ∧ Rel t r)
open Classical in
theorem cD1_iff {l : List tOp.den} {i : Int} {t : T1} {r : Rt} : cD1 l i t r = true ↔ (l.length ≤ 60 ∧ i = 0 ∧ Rel t r) := by
  unfold cD1
  exact decide_eq_true_iff
theorem lD : LoopOK Try.prog (LD fun l i t r => cD1 l i t r) bD :=
  rloop_ok (L := LD fun l i t r => cD1 l i t r) (L' := L0) cD_sound (loopsOK_of (by kernel_rfl)) SD (F := FD fun l i t r => cD1 l i t r) (i := 11) (by kernel_rfl) (fun _ => rfl) fun xs hs q h => by
    obtain ⟨l, up, u1, u2, i, u3⟩ := xs
    obtain ⟨b, ks, m, b', ks', v, u4⟩ := hs
    obtain ⟨h1, h2⟩ := Tr.chk_some h
    obtain ⟨hl, e2, hw⟩ := cD1_iff.1 h1
    have hl : List.length (α := tOp.den) l ≤ 60 := hl
    have e2 : i = ((0 : Nat) : Int) := e2
    subst e2
    have := Tr.ret_some h2
    subst this
    have := mD (up := up) (l := l) hl (List.length (α := tOp.den) l) 0 (b, ks, m, ()) (b', ks', v, ()) (Nat.zero_add _) hw
    exact ⟨_, this⟩
theorem Rel.new {n : Int} (h : okR n = true) : Rel (newF i64 .str n).2 (rnewF n).2 := ⟨Wf.new h, rfl, rfl, rfl, fun _ => rfl⟩
theorem news_true {n : Int} {a b : Tr AV} {r : AV} (ha : okR n = true → a.eval = some r) (hb : okR n = false → b.eval = some r) : (news n a b).eval = some r := by
  unfold news
  cases hn : okR n with
  | true => rw [ite_t rfl, chk_eval rfl, ite_t rfl, chk_eval rfl]; exact ha hn
  | false => rw [ite_f rfl, chk_eval (show (!false) = true from rfl), ite_f rfl, chk_eval (show (!false) = true from rfl)]; exact hb hn
theorem TD_true {n : Int} {l : List tOp.den} : (TD true (fun l i t r => cD1 l i t r) n l).eval = some (.v .bool true) := by
  unfold TD
  by_cases hl : (l.length : Int) > 60
  · rw [ite_t (decide_eq_true hl)]; rfl
  rw [ite_f (decide_eq_false hl)]
  exact news_true (fun hn => by rw [chk_eval (cD1_iff.2 ⟨by omega, rfl, Rel.new hn⟩)]; rfl) fun _ => rfl

/-! CacheKinds -/

/-- the first value like x is out, by what is seen of it -/
def remX {α : Type} (f : Int → α) [DecidableEq α] : List Int → Int → List Int
  | [], _ => []
  | y :: l, x => if f x = f y then l else y :: remX f l x
theorem rem_map {K : Ty} (hE : Lawful K) [DecidableEq K.den] (f : Int → K.den) (xs : List Int) (x : Int) : remL K (xs.map f) (f x) = (remX f xs x).map f := by
  induction xs with
  | nil => rfl
  | cons y xs ih =>
    simp only [List.map_cons, remL, remX]
    by_cases h : f x = f y
    · rw [if_pos ((hE _ _).2 h), if_pos h]
    · rw [if_neg (fun h2 => h ((hE _ _).1 h2)), if_neg h, List.map_cons, ih]
theorem remX_congr {α β : Type} (f : Int → α) [DecidableEq α] (g : Int → β) [DecidableEq β] (h : ∀ x y, f x = f y ↔ g x = g y) (xs : List Int) (x : Int) : remX f xs x = remX g xs x := by
  induction xs with
  | nil => rfl
  | cons y xs ih =>
    simp only [remX, ih]
    by_cases h2 : f x = f y
    · rw [if_pos h2, if_pos ((h _ _).1 h2)]
    · rw [if_neg h2, if_neg (fun h3 => h2 ((h _ _).2 h3))]
theorem u8_wb (x : Int) : 0 ≤ wb x ∧ wb x < 256 := by
  simp [wb, IntKind.wrap, IntKind.signed, IntKind.bits]
  omega
theorem name_key (x y : Int) : keyK x = keyK y ↔ nameK x = nameK y := by
  have hx1 := u8_wb (x.tmod 16)
  have hx2 := u8_wb ((w (x.tdiv 16)).tmod 16)
  have hy1 := u8_wb (y.tmod 16)
  have hy2 := u8_wb ((w (y.tdiv 16)).tmod 16)
  unfold keyK nameK lowI higI
  generalize wb (x.tmod 16) = a at *
  generalize wb ((w (x.tdiv 16)).tmod 16) = b at *
  generalize wb (y.tmod 16) = c at *
  generalize wb ((w (y.tdiv 16)).tmod 16) = d at *
  have e : ∀ p q : Int, 0 ≤ p ∧ p < 256 → 0 ≤ q ∧ q < 256 → w (w p + w (256 * w q)) = p + 256 * q := fun p q hp hq => by
    rw [w_id (x := p) (by omega) (by omega), w_id (x := q) (by omega) (by omega), w_id (x := 256 * q) (by omega) (by omega), w_id (by omega) (by omega)]
  rw [e a b hx1 hx2, e c d hy1 hy2]
  constructor
  · intro h
    have h1 : a = c := by omega
    have h2 : b = d := by omega
    rw [h1, h2]
  · intro h
    have h : (bytesStr [a, b]).data = (bytesStr [c, d]).data := congrArg _ h
    have h : #[UInt8.ofNat a.toNat, UInt8.ofNat b.toNat] = #[UInt8.ofNat c.toNat, UInt8.ofNat d.toNat] := h
    simp only [Array.mk.injEq, List.cons.injEq, and_true] at h
    have f : ∀ p q : Int, 0 ≤ p ∧ p < 256 → 0 ≤ q ∧ q < 256 → UInt8.ofNat p.toNat = UInt8.ofNat q.toNat → p = q := fun p q hp hq h => by
      have := congrArg UInt8.toNat h
      simp only [UInt8.toNat_ofNat'] at this
      omega
    rw [f a c hx1 hy1 h.1, f b d hx2 hy2 h.2]

abbrev T2 := Tb .str tS
/-- both tables have the same keys -/
structure RelK (t : T1) (r : T2) : Prop where
  wt : Wf t
  wr : Wf r
  n : r.1.1 = t.1.1
  xs : ∃ xs : List Int, (t.2.1 : List Int) = xs.map keyK ∧ (r.2.1 : List ByteArray) = xs.map nameK
theorem isIn_map {K : Ty} (hE : Lawful K) (f : Int → K.den) (xs : List Int) (x : Int) : isIn K (xs.map f) (f x) = true ↔ ∃ y ∈ xs, f y = f x := by
  rw [isIn_iff hE, List.mem_map]
theorem isIn_both {t : T1} {r : T2} (h : RelK t r) (x : Int) : isIn i64 t.2.1 (keyK x) = isIn .str r.2.1 (nameK x) := by
  obtain ⟨xs, h1, h2⟩ := h.xs
  rw [h1, h2, Bool.eq_iff_iff]
  refine (isIn_map law_i keyK xs x).trans (Iff.trans ?_ (isIn_map law_s nameK xs x).symm)
  exact ⟨fun ⟨y, a, b⟩ => ⟨y, a, (name_key _ _).1 b⟩, fun ⟨y, a, b⟩ => ⟨y, a, (name_key _ _).2 b⟩⟩
theorem len_both {t : T1} {r : T2} (h : RelK t r) : List.length (α := Int) t.2.1 = List.length (α := ByteArray) r.2.1 := by
  obtain ⟨xs, h1, h2⟩ := h.xs
  rw [h1, h2, List.length_map, List.length_map]
theorem rem_both (xs : List Int) (x : Int) : ∃ ys : List Int, remL i64 (xs.map keyK) (keyK x) = ys.map keyK ∧ remL .str (xs.map nameK) (nameK x) = ys.map nameK := by
  haveI : DecidableEq Ty.str.den := inferInstanceAs (DecidableEq ByteArray)
  haveI : DecidableEq i64.den := inferInstanceAs (DecidableEq Int)
  refine ⟨remX (α := Int) keyK xs x, rem_map (K := i64) law_i keyK xs x, ?_⟩
  rw [remX_congr (α := Int) keyK (β := ByteArray) nameK name_key]
  exact rem_map (K := .str) law_s nameK xs x
theorem RelK.drop {t : T1} {r : T2} (h : RelK t r) (x : Int) : (dropF i64 .str (keyK x) t).1.1 = (dropF .str tS (nameK x) r).1.1 ∧ RelK (dropF i64 .str (keyK x) t).2 (dropF .str tS (nameK x) r).2 := by
  have hb := isIn_both h x
  have w1 := h.wt.drop law_i (keyK x)
  have w2 := h.wr.drop law_s (nameK x)
  have n1 := drop_n h.wt (keyK x)
  have n2 := drop_n h.wr (nameK x)
  cases hx : isIn .str r.2.1 (nameK x) with
  | true =>
    rw [hx] at hb
    rw [drop_in h.wt hb] at w1 ⊢
    rw [drop_in h.wr hx] at w2 ⊢
    obtain ⟨xs, h1, h2⟩ := h.xs
    obtain ⟨ys, q1, q2⟩ := rem_both xs x
    refine ⟨rfl, w1, w2, h.n, ys, ?_, ?_⟩
    · show remL i64 t.2.1 (keyK x) = _
      rw [show t.2.1 = xs.map keyK from h1]; exact q1
    · show remL .str r.2.1 (nameK x) = _
      rw [show r.2.1 = xs.map nameK from h2]; exact q2
  | false =>
    rw [hx] at hb
    rw [drop_out h.wt hb, drop_out h.wr hx]
    exact ⟨rfl, h⟩
theorem RelK.put {t : T1} {r : T2} (h : RelK t r) (x : Int) (v : ByteArray) (s : tS.den) : (putF i64 .str (keyK x) v t).1.2.1 = (putF .str tS (nameK x) s r).1.2.1 ∧ RelK (putF i64 .str (keyK x) v t).2 (putF .str tS (nameK x) s r).2 := by
  have hb := isIn_both h x
  have hl := len_both h
  have w1 := h.wt.put law_i (keyK x) v
  have w2 := h.wr.put law_s (nameK x) s
  cases hx : isIn .str r.2.1 (nameK x) with
  | true =>
    rw [hx] at hb
    rw [put_in law_i h.wt hb] at w1 ⊢
    rw [put_in law_s h.wr hx] at w2 ⊢
    exact ⟨rfl, w1, w2, h.n, h.xs⟩
  | false =>
    rw [hx] at hb
    by_cases hf : (List.length (α := ByteArray) r.2.1 : Int) = r.1.1
    · have hf' : (List.length (α := Int) t.2.1 : Int) = t.1.1 := by rw [hl, hf]; exact h.n
      rw [put_full h.wt hb hf'] at w1 ⊢
      rw [put_full h.wr hx hf] at w2 ⊢
      refine ⟨rfl, w1, w2, ?_, ?_⟩
      · show (dropF .str tS _ r).2.1.1 = (dropF i64 .str _ t).2.1.1
        rw [drop_n h.wr, drop_n h.wt]; exact h.n
      obtain ⟨xs, h1, h2⟩ := h.xs
      have h0 : 0 < xs.length := by
        have q := h.wt.lo
        have : (List.length (α := Int) t.2.1 : Int) = xs.length := by rw [h1, List.length_map]
        have q2 : (1 : Int) ≤ (List.length (α := Int) t.2.1 : Int) := by rw [hf']; exact q
        omega
      match xs, h0 with
      | z :: zs, _ =>
      have g1 : List.getD (α := Int) t.2.1 0 (dflt i64) = keyK z := by rw [h1]; rfl
      have g2 : List.getD (α := ByteArray) r.2.1 0 (dflt .str) = nameK z := by rw [h2]; rfl
      have i2 : isIn .str r.2.1 (nameK z) = true := by
        refine (isIn_iff law_s).2 ?_
        rw [show r.2.1 = (z :: zs).map nameK from h2]
        exact List.mem_cons_self
      have i1 : isIn i64 t.2.1 (keyK z) = true := (isIn_both h z).trans i2
      refine ⟨zs ++ [x], ?_, ?_⟩
      · show List.append (dropF i64 .str (List.getD (α := Int) t.2.1 0 (dflt i64)) t).2.2.1 [keyK x] = _
        rw [g1, drop_in h.wt i1]
        show remL i64 t.2.1 (keyK z) ++ [keyK x] = _
        rw [show t.2.1 = (z :: zs).map keyK from h1]
        simp only [List.map_cons, remL, show eqT i64 (keyK z) (keyK z) = true from eqi _, if_true, List.map_append, List.map_nil]
      · show List.append (dropF .str tS (List.getD (α := ByteArray) r.2.1 0 (dflt .str)) r).2.2.1 [nameK x] = _
        rw [g2, drop_in h.wr i2]
        show remL .str r.2.1 (nameK z) ++ [nameK x] = _
        rw [show r.2.1 = (z :: zs).map nameK from h2]
        simp only [List.map_cons, remL, show eqT .str (nameK z) (nameK z) = true from eqs _, if_true, List.map_append, List.map_nil]
    · have hf' : ¬ (List.length (α := Int) t.2.1 : Int) = t.1.1 := fun hh => hf (by rw [← hl, hh]; exact h.n.symm)
      rw [put_new law_i h.wt hb hf'] at w1 ⊢
      rw [put_new law_s h.wr hx hf] at w2 ⊢
      obtain ⟨xs, h1, h2⟩ := h.xs
      refine ⟨rfl, w1, w2, h.n, xs ++ [x], ?_, ?_⟩
      · show (t.2.1 : List Int) ++ [keyK x] = _
        rw [h1]; simp
      · show (r.2.1 : List ByteArray) ++ [nameK x] = _
        rw [h2]; simp
abbrev GK1 (up : Bool) (l : List tOp.den) (i : Int) (t : T1) (r : T2) := GK up (putP i64 .str) (putF i64 .str) (dropP i64 .str) (dropF i64 .str) (putP .str tS) (putF .str tS) (dropP .str tS) (dropF .str tS) l i t r
theorem eqtS (s : tS.den) : eqT tS s s = true := by
  obtain ⟨a, b, u⟩ := s
  show (decide (a = a) && (decide (b = b) && true)) = true
  simp
theorem GK_step {up : Bool} {l : List tOp.den} {k : Nat} {t : T1} {r : T2} (hl : l.length ≤ 60) (hk : k < l.length) (h : RelK t r) :
    ∃ t' r', (GK1 up l (k : Int) t r).eval = some (.inl ((l, up, (), (), ((k + 1 : Nat) : Int), ()), (t'.1, t'.2.1, t'.2.2.1, r'.1, r'.2.1, r'.2.2.1, ()))) ∧ RelK t' r' := by
  have e1 : w ((k : Int) + 1) = ((k + 1 : Nat) : Int) := w_succ hk (by omega)
  unfold GK1 GK
  dsimp only
  rw [Int.toNat_natCast, e1]
  generalize l.getD k (dflt tOp) = X
  obtain ⟨do_, x, v, u⟩ := X
  dsimp only
  rw [ite_t (decide_eq_true (by omega)), chk_eval (inArr_of hk)]
  have hlen : ∀ {t : T1} {r : T2}, RelK t r → ((List.length (α := Int) t.2.1 : Int) != (List.length (α := ByteArray) r.2.1 : Int)) = false := fun h => by
    rw [len_both h]; simp
  by_cases hd : ((do_ : Int) == 1) = true
  · obtain ⟨h1, h2⟩ := h.drop x
    rw [ite_t hd, chk_eval (h.wt.dropP _), chk_eval (h.wr.dropP _), h1, ite_f (beqb _), ite_f (hlen h2)]
    exact ⟨_, _, rfl, h2⟩
  · rw [ite_f (Bool.eq_false_iff.2 hd)]
    generalize (((v : ByteArray).size : Int), x, ()) = s
    obtain ⟨h1, h2⟩ := h.put x v s
    have hp := put_look law_s h.wr (nameK x) s
    rw [chk_eval (h.wt.putP _ v), chk_eval (h.wr.putP _ s), h1, ite_f (beqb _), hp, ite_f (show (!(some s).isSome) = false from rfl), Option.getD_some, ite_f (show (!(eqT tS s s)) = false by rw [eqtS]; rfl), ite_f (hlen h2)]
    exact ⟨_, _, rfl, h2⟩
theorem GK_end {up : Bool} {l : List tOp.den} {t : T1} {r : T2} : (GK1 up l (l.length : Int) t r).eval = some (.inr (.exit 0, encS [5] [.bool] (dd 6) 138 (up, ()) ())) := by
  unfold GK1 GK
  dsimp only
  rw [ite_f (decide_eq_false (by omega))]
  rfl
abbrev CK1 : Ctx := ctx (cK true (putP i64 .str) (putF i64 .str) (dropP i64 .str) (dropF i64 .str) (putP .str tS) (putF .str tS) (dropP .str tS) (dropF .str tS))
theorem mK {up : Bool} {l : List tOp.den} (hl : l.length ≤ 60) : ∀ (m k : Nat) (t : T1) (r : T2), k + m = l.length → RelK t r →
    SK.many (bodyK Try.prog CK1 L0 bK) (m + 1) (l, up, (), (), (k : Int), ()) (t.1, t.2.1, t.2.2.1, r.1, r.2.1, r.2.2.1, ()) = some (.exit 0, encS [5] [.bool] (dd 6) 138 (up, ()) ())
  | 0, k, t, r, h, _ => by
    have : k = l.length := by omega
    subst this
    exact rmany_inr ((rK _ _ _ _ _ _ _ _ _ _ l _ t.1.1 t.2.1 t.2.2.1 r.1.1 r.2.1 r.2.2.1).trans GK_end) 0
  | m + 1, k, t, r, h, hw => by
    obtain ⟨t', r', q1, q2⟩ := GK_step (up := up) hl (k := k) (by omega) hw
    exact (rmany_inl ((rK _ _ _ _ _ _ _ _ _ _ l _ t.1.1 t.2.1 t.2.2.1 r.1.1 r.2.1 r.2.2.1).trans q1) (m + 1)).trans (mK hl m (k + 1) t' r' (by omega) q2)
theorem cK_sound : CtxSound Try.prog CK1 ∧ CtxLocal CK1 := ctx_sound ⟨okA, okNi, okPui, okDri, okLei, okNs, okPus, okDrs, okGes, okLes, trivial⟩
open Classical in
noncomputable def cK1 (l : List tOp.den) (i : Int) (t : T1) (r : T2) : Bool := decide (l.length ≤ 60 ∧ i = 0 ∧ RelK t r)
open Classical in
theorem cK1_iff {l : List tOp.den} {i : Int} {t : T1} {r : T2} : cK1 l i t r = true ↔ (l.length ≤ 60 ∧ i = 0 ∧ RelK t r) := by
  unfold cK1
  exact decide_eq_true_iff
theorem lK : LoopOK Try.prog (LK fun l i t r => cK1 l i t r) bK :=
  rloop_ok (L := LK fun l i t r => cK1 l i t r) (L' := L0) cK_sound (loopsOK_of (by kernel_rfl)) SK (F := FK fun l i t r => cK1 l i t r) (i := 11) (by kernel_rfl) (fun _ => rfl) fun xs hs q h => by
    obtain ⟨l, up, u1, u2, i, u3⟩ := xs
    obtain ⟨b, ks, m, b', ks', v, u4⟩ := hs
    obtain ⟨h1, h2⟩ := Tr.chk_some h
    obtain ⟨hl, e2, hw⟩ := cK1_iff.1 h1
    have hl : List.length (α := tOp.den) l ≤ 60 := hl
    have e2 : i = ((0 : Nat) : Int) := e2
    subst e2
    have := Tr.ret_some h2
    subst this
    have := mK (up := up) (l := l) hl (List.length (α := tOp.den) l) 0 (b, ks, m, ()) (b', ks', v, ()) (Nat.zero_add _) hw
    exact ⟨_, this⟩
theorem TK_true {n : Int} {l : List tOp.den} : (TK true (fun l i t r => cK1 l i t r) n l).eval = some (.v .bool true) := by
  unfold TK
  by_cases hl : (l.length : Int) > 60
  · rw [ite_t (decide_eq_true hl)]; rfl
  rw [ite_f (decide_eq_false hl)]
  exact news_true (fun hn => by rw [chk_eval (cK1_iff.2 ⟨by omega, rfl, Wf.new hn, Wf.new hn, rfl, [], rfl, rfl⟩)]; rfl) fun _ => rfl
end Go.Proofs.Ytfimgngiaggplaa.Cache

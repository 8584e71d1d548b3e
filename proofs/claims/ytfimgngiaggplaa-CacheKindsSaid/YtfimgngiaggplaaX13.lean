/- A table (layer 11, cache): CacheDoes and CacheKinds are true. -/
import Derived.Test.YtfimgngiaggplaaX12
set_option linter.unusedVariables false
set_option linter.unusedSimpArgs false
set_option linter.unusedSectionVars false
set_option maxRecDepth 100000
namespace Go.Proofs.Ytfimgngiaggplaa.Cache
open Go Vse Go.Proofs Gen

/-! the document's table beside the program's -/

abbrev zipT (l : List Int) (v : List ByteArray) : MP i64 .str := l.zip v
structure Rel (t : T1) (r : Rt) : Prop where
  wf : Wf t
  n : r.1 = t.1
  l : r.2.1 = t.2.1
  vl : List.length (α := ByteArray) r.2.2.1 = List.length (α := Int) t.2.1
  look : ∀ y : Int, mapLook (K := i64) (V := .str) t.2.2.1 y = mapLook (zipT t.2.1 r.2.2.1) y

theorem zip_out : ∀ {l : List Int} {v : List ByteArray} {x : Int}, v.length = l.length → isIn i64 l x = true → zipT (remL i64 l x) (outI v (idxF i64 l x)) = mapDel (zipT l v) x
  | [], _, _, _, h => by simp [isIn] at h
  | y :: l, [], _, h, _ => by simp at h
  | y :: l, s :: v, x, hl, h => by
    rw [idxF_in h]
    simp only [outI, Int.toNat_natCast, remL, List.findIdx_cons]
    show _ = mapDel ((y, s) :: zipT l v) x
    simp only [mapDel]
    cases hq : eqT i64 x y with
    | true => rfl
    | false =>
      have h' : isIn i64 l x = true := by simpa [isIn, hq] using h
      have := zip_out (v := v) (by simpa using hl) h'
      rw [idxF_in h'] at this
      simp only [outI, Int.toNat_natCast] at this
      simp only [cond_false, List.take_succ_cons, List.drop_succ_cons, List.cons_append, Bool.false_eq_true, if_false]
      show (y, s) :: zipT _ _ = _
      rw [this]
theorem zip_set : ∀ {l : List Int} {v : List ByteArray} {x : Int} (s : ByteArray), v.length = l.length → isIn i64 l x = true → zipT l (v.set (idxF i64 l x).toNat s) = mapPut (zipT l v) x s
  | [], _, _, _, _, h => by simp [isIn] at h
  | y :: l, [], _, _, h, _ => by simp at h
  | y :: l, s' :: v, x, s, hl, h => by
    rw [idxF_in h]
    simp only [Int.toNat_natCast, List.findIdx_cons]
    show _ = mapPut ((y, s') :: zipT l v) x s
    simp only [mapPut]
    cases hq : eqT i64 x y with
    | true =>
      have := (law_i _ _).1 hq
      subst this
      rfl
    | false =>
      have h' : isIn i64 l x = true := by simpa [isIn, hq] using h
      have := zip_set (v := v) s (by simpa using hl) h'
      rw [idxF_in h'] at this
      simp only [Int.toNat_natCast] at this
      simp only [cond_false, List.set_cons_succ, Bool.false_eq_true, if_false]
      show (y, s') :: zipT _ _ = _
      rw [this]
theorem zip_get : ∀ {l : List Int} {v : List ByteArray} {x : Int}, v.length = l.length → isIn i64 l x = true → mapLook (zipT l v) x = some (v.getD (idxF i64 l x).toNat ByteArray.empty)
  | [], _, _, _, h => by simp [isIn] at h
  | y :: l, [], _, h, _ => by simp at h
  | y :: l, s :: v, x, hl, h => by
    rw [idxF_in h]
    simp only [Int.toNat_natCast, List.findIdx_cons]
    show mapLook ((y, s) :: zipT l v) x = _
    simp only [mapLook]
    cases hq : eqT i64 x y with
    | true => rfl
    | false =>
      have h' : isIn i64 l x = true := by simpa [isIn, hq] using h
      have := zip_get (v := v) (by simpa using hl) h'
      rw [idxF_in h'] at this
      simp only [Int.toNat_natCast] at this
      simp only [cond_false, List.getD_cons_succ, Bool.false_eq_true, if_false]
      exact this
theorem zip_keys {l : List Int} {v : List ByteArray} (h : v.length = l.length) : keysM (zipT l v) = l := by
  show (l.zip v).map Prod.fst = l
  exact List.map_fst_zip (by omega)
theorem zip_new {l : List Int} {v : List ByteArray} {x : Int} {s : ByteArray} (h : v.length = l.length) (hx : isIn i64 l x = false) (y : Int) : mapLook (zipT (l ++ [x]) (v ++ [s])) y = if eqT i64 y x = true then some s else mapLook (zipT l v) y := by
  have : zipT (l ++ [x]) (v ++ [s]) = zipT l v ++ [(x, s)] := List.zip_append h.symm
  rw [this]
  have key : ∀ m : MP i64 .str, x ∉ keysM m → mapLook (m ++ [(x, s)]) y = if eqT i64 y x = true then some s else mapLook m y := by
    intro m
    induction m with
    | nil => intro _; rfl
    | cons e m ih =>
      intro hm
      simp only [keysM, List.map_cons, List.mem_cons, not_or] at hm
      show mapLook (e :: (m ++ [(x, s)])) y = _
      simp only [mapLook, ih hm.2]
      by_cases h2 : eqT i64 y e.1 = true
      · have := (law_i _ _).1 h2
        subst this
        rw [if_pos h2, if_neg (fun h3 => hm.1 ((law_i _ _).1 h3).symm), if_pos h2]
      · rw [if_neg h2, if_neg h2]
  refine key _ ?_
  rw [zip_keys h]
  intro hm
  rw [(isIn_iff law_i).2 hm] at hx
  cases hx
theorem outI_len {α : Type} {l : List α} {k : Nat} (h : k < l.length) : (outI l (k : Int)).length + 1 = l.length := by
  simp only [outI, Int.toNat_natCast, List.length_append, List.length_take, List.length_drop]
  omega

/-- one is out of both -/
theorem Rel.out {n : Int} {l : List Int} {m : MP i64 .str} {v : List ByteArray} (h : Rel ((n, (), (), ()), l, m, ()) ((n, (), (), ()), l, v, ())) {x : Int} (hx : isIn i64 l x = true) :
    Rel (dropF i64 .str x ((n, (), (), ()), l, m, ())).2 ((n, (), (), ()), outI l (idxF i64 l x), outI v (idxF i64 l x), ()) := by
  have hw := h.wf.drop law_i x
  rw [drop_in h.wf hx] at hw ⊢
  have hvl : v.length = l.length := h.vl
  obtain ⟨k, hk, hk2⟩ := idx_lt hx
  refine ⟨hw, rfl, out_rem hx, ?_, fun y => ?_⟩
  · show (outI v (idxF i64 l x)).length = (remL i64 l x).length
    have h1 := rem_len hx
    rw [hk]
    have h2 := outI_len (l := v) (k := k) (by omega)
    omega
  · show mapLook (mapDel m x) y = mapLook (zipT (remL i64 l x) (outI v (idxF i64 l x))) y
    rw [zip_out hvl hx, look_del law_i h.wf.nodm, look_del law_i (by rw [zip_keys hvl]; exact h.wf.nod)]
    have := h.look y
    have this : mapLook m y = mapLook (zipT l v) y := this
    rw [this]
theorem Rel.drop {t : T1} {r : Rt} (h : Rel t r) (x : Int) : (dropF i64 .str x t).1.1 = (rdropF x r).1.1 ∧ Rel (dropF i64 .str x t).2 (rdropF x r).2 := by
  obtain ⟨⟨n, u1, u2, u3⟩, l, m, u4⟩ := t
  obtain ⟨⟨n', w1, w2, w3⟩, l', v, w4⟩ := r
  have e1 : n' = n := congrArg Prod.fst h.n
  have e2 : l' = l := h.l
  subst e1
  subst e2
  cases hx : isIn i64 l' x with
  | true =>
    have := h.out hx
    unfold rdropF outF
    dsimp only
    rw [if_pos hx]
    refine ⟨?_, this⟩
    rw [drop_in h.wf hx, hx]
  | false =>
    unfold rdropF
    dsimp only
    rw [drop_out h.wf hx, if_neg (by rw [hx]; simp), hx]
    exact ⟨rfl, h⟩
theorem Rel.app {n : Int} {l : List Int} {m : MP i64 .str} {v : List ByteArray} (h : Rel ((n, (), (), ()), l, m, ()) ((n, (), (), ()), l, v, ())) {x : Int} (hx : isIn i64 l x = false) (hl : (l.length : Int) < n) (s : ByteArray) :
    Rel ((n, (), (), ()), l.append [x], mapPut m x s, ()) ((n, (), (), ()), l.append [x], v.append [s], ()) := by
  have hvl : v.length = l.length := h.vl
  refine ⟨h.wf.app law_i hx hl s, rfl, rfl, ?_, fun y => ?_⟩
  · show (v ++ [s]).length = (l ++ [x]).length
    simp [hvl]
  · show mapLook (mapPut m x s) y = mapLook (zipT (l ++ [x]) (v ++ [s])) y
    rw [zip_new hvl hx, look_put law_i]
    have this : mapLook m y = mapLook (zipT l v) y := h.look y
    rw [this]
theorem Rel.put {t : T1} {r : Rt} (h : Rel t r) (x : Int) (s : ByteArray) : (putF i64 .str x s t).1 = (rputF x s r).1 ∧ Rel (putF i64 .str x s t).2 (rputF x s r).2 := by
  obtain ⟨⟨n, u1, u2, u3⟩, l, m, u4⟩ := t
  obtain ⟨⟨n', w1, w2, w3⟩, l', v, w4⟩ := r
  have e1 : n' = n := congrArg Prod.fst h.n
  have e2 : l' = l := h.l
  subst e1
  subst e2
  have hvl : v.length = l'.length := h.vl
  cases hx : isIn i64 l' x with
  | true =>
    rw [put_in law_i h.wf hx]
    unfold rputF rfullF
    dsimp only
    rw [if_pos (show isIn i64 l' x = true from hx), hx]
    refine ⟨rfl, ?_⟩
    have hw := h.wf.put law_i x s
    rw [put_in law_i h.wf hx] at hw
    refine ⟨hw, rfl, rfl, by show (v.set _ s).length = l'.length; rw [List.length_set]; exact hvl, fun y => ?_⟩
    show mapLook (mapPut m x s) y = mapLook (zipT l' (v.set (idxF i64 l' x).toNat s)) y
    rw [zip_set s hvl hx, look_put law_i, look_put law_i]
    have this : mapLook m y = mapLook (zipT l' v) y := h.look y
    rw [this]
  | false =>
    unfold rputF rroomF rfullF
    dsimp only
    rw [if_neg (show ¬ isIn i64 l' x = true by rw [hx]; simp), hx]
    by_cases hl : (l'.length : Int) = n'
    · have hb : ((l'.length : Int) == n') = true := by simpa using hl
      rw [put_full h.wf hx hl]
      simp only [hb, Bool.not_false, Bool.true_and, if_true]
      refine ⟨rfl, ?_⟩
      have h0 : 0 < l'.length := by have : (1 : Int) ≤ n' := h.wf.lo; omega
      have hi : isIn i64 l' (l'.getD 0 0) = true := head_in law_i h0
      have h0' : idxF i64 l' (l'.getD 0 0) = 0 := by
        match l', h0 with
        | a :: l', _ =>
          rw [idxF_in hi]
          simp only [List.findIdx_cons, List.getD_cons_zero]
          rw [show eqT i64 a a = true from eqi a]; rfl
      have hr := h.out hi
      rw [h0'] at hr
      show Rel ((dropF i64 .str (l'.getD 0 0) ((n', u1, u2, u3), l', m, u4)).2.1, List.append (dropF i64 .str (l'.getD 0 0) ((n', u1, u2, u3), l', m, u4)).2.2.1 [x], mapPut (dropF i64 .str (l'.getD 0 0) ((n', u1, u2, u3), l', m, u4)).2.2.2.1 x s, ()) ((n', w1, w2, w3), List.append (outI l' 0) [x], List.append (outI v 0) [s], ())
      rw [drop_in h.wf hi] at hr ⊢
      have hrl : outI l' 0 = remL i64 l' (l'.getD 0 0) := hr.l
      rw [hrl] at hr ⊢
      refine Rel.app hr ?_ ?_ s
      · rw [Bool.eq_false_iff]
        intro hm
        have := (isIn_iff law_i).2 ((mem_rem law_i h.wf.nod _ _).1 ((isIn_iff law_i).1 hm)).1
        rw [hx] at this; cases this
      · have := rem_len hi
        show ((remL i64 l' (l'.getD 0 0)).length : Int) < n'
        omega
    · have hb : ((l'.length : Int) == n') = false := by simpa using hl
      rw [put_new law_i h.wf hx hl]
      simp only [hb, Bool.not_false, Bool.true_and, Bool.false_eq_true, if_false]
      have hlen : (l'.length : Int) ≤ n' := h.wf.len
      exact ⟨rfl, h.app hx (by omega) s⟩
theorem Rel.rP {t : T1} {r : Rt} (h : Rel t r) : rP r = true := by
  simp only [Cache.rP, okL, Bool.and_eq_true, decide_eq_true_eq]
  have h2 := h.wf.ok
  have h3 := h.vl
  rw [h.l]
  exact ⟨h2, h3.symm⟩
end Go.Proofs.Ytfimgngiaggplaa.Cache

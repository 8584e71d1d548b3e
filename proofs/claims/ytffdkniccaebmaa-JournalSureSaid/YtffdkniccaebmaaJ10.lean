/- Records that are kept (layer 14, journal): what is read of what was laid; one operation. -/
import Derived.Test.YtffdkniccaebmaaJ7
import Derived.Test.YtffdkniccaebmaaB4
set_option linter.unusedVariables false
set_option linter.unusedSimpArgs false
set_option maxRecDepth 100000
namespace Go.Proofs.Ytffdkniccaebmaa.Jnl
open Go Vse Go.Proofs Gen
open Sto (stT D R1 R0 rdyF appF syncF repF appP Ox er mk)
open Fld (lenN or_bytes Bytes bytes_get bytes_drop)

theorem hd14_eq {b : List Int} (h : b.length ≤ 1000) : hd14 b = [(b.length : Int) / 256, (b.length : Int) % 256] := by
  unfold hd14
  have e : shrI .i64 (b.length : Int) 8 = (b.length : Int) / 256 := by
    show (b.length : Int).fdiv (2 ^ 8) = _
    rw [Int.fdiv_eq_ediv_of_nonneg _ (by decide)]; rfl
  rw [e]
  show [Fld.wb ((b.length : Int) / 256), Fld.wb (b.length : Int)] = _
  rw [Fld.wb_mod, Fld.wb_mod]
  congr 1
  omega
theorem cons_two {l : List Int} {x y : Int} (h : l = [x, y]) (X : List Int) : l ++ X = x :: y :: X := by rw [h]; rfl
theorem laid_cons {b : List Int} (h : b.length ≤ 1000) : ∃ X : List Int, laidF b = (b.length : Int) / 256 :: (b.length : Int) % 256 :: X := by
  unfold laidF
  generalize (Sha.shaF (hd14 b ++ b)).take 8 ++ b = X
  exact ⟨X, cons_two (hd14_eq h) X⟩
theorem lenN_two (x y : Int) (X : List Int) : lenN (x :: y :: X) = 256 * x + y := rfl
theorem lenN_laid {b : List Int} (h : b.length ≤ 1000) (t : List Int) : lenN (laidF b ++ t) = (b.length : Int) := by
  obtain ⟨X, e⟩ := laid_cons h
  rw [e, List.cons_append, List.cons_append, lenN_two]
  omega
theorem lenN_part {b : List Int} (h : b.length ≤ 1000) {k : Nat} (hk : 2 ≤ k) : lenN ((laidF b).take k) = (b.length : Int) := by
  obtain ⟨X, e⟩ := laid_cons h
  obtain ⟨j, rfl⟩ : ∃ j, k = j + 2 := ⟨k - 2, by omega⟩
  rw [e, List.take_succ_cons, List.take_succ_cons, lenN_two]
  omega
theorem take_laid (b t : List Int) : (laidF b ++ t).take (10 + b.length) = laidF b := List.take_left' (laid_len b)
theorem drop_laid (b t : List Int) : (laidF b ++ t).drop (10 + b.length) = t := List.drop_left' (laid_len b)
theorem drop10 (b : List Int) : (laidF b).drop 10 = b := by
  unfold laidF
  rw [← List.append_assoc]
  refine List.drop_left' ?_
  rw [List.length_append, List.length_take, shaF_len]
  rfl
theorem recF_laid {b : List Int} (h : b.length ≤ 1000) (t : List Int) : recF (laidF b ++ t) = b := by
  unfold recF
  rw [lenN_laid h, Int.toNat_natCast, take_laid, drop10]
theorem scan_laid {b : List Int} (h : b.length ≤ 1000) (m : Nat) (t : List Int) : scan (m + 1) (laidF b ++ t) = (match scan m t with
    | some q => some (b :: q.1, q.2)
    | none => none) := by
  have hl : (laidF b ++ t).length = 10 + b.length + t.length := by rw [List.length_append, laid_len]
  rw [scan, if_pos (by omega), lenN_laid h, if_neg (by omega), Int.toNat_natCast, if_neg (by omega), recF_laid h, take_laid, drop_laid, if_pos rfl]
  cases scan m t <;> rfl
theorem scan_part {b : List Int} (h : b.length ≤ 1000) {k : Nat} (hk : k < 10 + b.length) (m : Nat) : scan m ((laidF b).take k) = some ([], (laidF b).take k) := by
  have hl : ((laidF b).take k).length = k := by rw [List.length_take, laid_len]; omega
  cases m with
  | zero => rfl
  | succ m =>
    rw [scan]
    by_cases h2 : k < 2
    · rw [if_neg (by omega)]
    · rw [if_pos (by omega), lenN_part h (by omega), if_neg (by omega), Int.toNat_natCast, if_pos (by omega)]
theorem scan_al : ∀ (su : List (List Int)) (t : List Int) (m : Nat), (∀ b ∈ su, b.length ≤ 1000) → scan m t = some ([], t) → scan (su.length + m) (alF su ++ t) = some (su, t)
  | [], t, m, _, h => by rw [show ([] : List (List Int)).length + m = m from Nat.zero_add m, al_nil]; exact h
  | b :: su, t, m, hs, h => by
    rw [al_cons, List.append_assoc, show (b :: su).length + m = (su.length + m) + 1 by rw [List.length_cons]; omega, scan_laid (hs b (List.mem_cons_self ..)), scan_al su t m (fun c hc => hs c (List.mem_cons_of_mem _ hc)) h]
theorem al_ge : ∀ (su : List (List Int)), su.length ≤ (alF su).length
  | [] => Nat.zero_le _
  | b :: su => by have := al_ge su; rw [al_cons, List.length_append, laid_len, List.length_cons]; omega
/-- what is read of records, laid, and of what is no whole record -/
theorem read_al {su : List (List Int)} {t : List Int} (hs : ∀ b ∈ su, b.length ≤ 1000) (ht : ∀ m, scan m t = some ([], t)) :
    badF (alF su ++ t) = false ∧ reF (alF su ++ t) = su ∧ tlF (alF su ++ t) = t := by
  have hl : (alF su ++ t).length = su.length + ((alF su ++ t).length - su.length) := by have := al_ge su; rw [List.length_append]; omega
  have e : scan (alF su ++ t).length (alF su ++ t) = some (su, t) := by
    rw [hl]; exact scan_al su t _ hs (ht _)
  unfold badF reF tlF
  rw [e]
  exact ⟨rfl, rfl, rfl⟩
theorem scan_nil (m : Nat) : scan m [] = some ([], []) := by cases m <;> rfl

/-! one operation -/

/-- while there is power: records, and their bytes, all sure -/
structure Go (h : JD) (su : List (List Int)) (N : Nat) : Prop where
  br : h.1.2.2.1 = false
  b : (stD h).b = alF su
  sure : (stD h).sure = ((alF su).length : Int)
  room : (stD h).room = 1048576
  f0 : -1 ≤ (stD h).fuse
  f1 : (stD h).fuse ≤ 9223372036854775807
  rc : h.2.2.1 = su
  ok : ∀ b ∈ su, b.length ≤ 1000
  len : (alF su).length + 2 * N ≤ 4000
/-- behind the power's end -/
structure En (d : D) (su wy : List (List Int)) : Prop where
  b : d.b = alF su ∨ ∃ b : List Int, wy = su ++ [b] ∧ b.length ≤ 1000 ∧ d.b = alF su ++ laidF b
  sure : d.sure = ((alF su).length : Int)
  room : d.room = 1048576
  ok : ∀ b ∈ su, b.length ≤ 1000
  len : (alF su).length ≤ 4000

theorem go_inv {h : JD} {su : List (List Int)} {N : Nat} (hg : Go h su N) : Sto.Inv (stD h) :=
  ⟨by rw [hg.sure]; omega, by rw [hg.sure, hg.b]; omega, by have := hg.len; rw [hg.b, hg.room]; omega, by rw [hg.room]; omega, hg.f0, hg.f1⟩
theorem go_en {h : JD} {su wy : List (List Int)} {N : Nat} (hg : Go h su N) : En (stD h) su wy := ⟨.inl hg.b, hg.sure, hg.room, hg.ok, by have := hg.len; omega⟩

theorem addF_down {b : List Int} {h : JD} (h0 : h.1.2.2.1 = false) (h1 : ¬ (b.length : Int) > 1000) {d : D} (e : appF rdyF (laidF b) (stD h) = er 8 d) : addF b h = ej 8 (putS true d h.2.2.1) := by
  unfold addF
  rw [if_neg (by rw [h0]; simp), if_neg h1, e]
  rfl
theorem addF_sync {b : List Int} {h : JD} (h0 : h.1.2.2.1 = false) (h1 : ¬ (b.length : Int) > 1000) {d d2 : D} (e : appF rdyF (laidF b) (stD h) = er 0 d) (e2 : syncF rdyF d = er 8 d2) : addF b h = ej 8 (putS true d2 h.2.2.1) := by
  unfold addF
  rw [if_neg (by rw [h0]; simp), if_neg h1, e]
  show (if (syncF rdyF d).1.1 = 0 then ej 0 (putS false (syncF rdyF d).2 (h.2.2.1 ++ [b])) else ej (syncF rdyF d).1.1 (putS (broke (syncF rdyF d).1.1) (syncF rdyF d).2 h.2.2.1)) = _
  rw [e2]
  rfl
theorem addF_ok {b : List Int} {h : JD} (h0 : h.1.2.2.1 = false) (h1 : ¬ (b.length : Int) > 1000) {d d2 : D} (e : appF rdyF (laidF b) (stD h) = er 0 d) (e2 : syncF rdyF d = er 0 d2) : addF b h = ej 0 (putS false d2 (h.2.2.1 ++ [b])) := by
  unfold addF
  rw [if_neg (by rw [h0]; simp), if_neg h1, e]
  show (if (syncF rdyF d).1.1 = 0 then ej 0 (putS false (syncF rdyF d).2 (h.2.2.1 ++ [b])) else ej (syncF rdyF d).1.1 (putS (broke (syncF rdyF d).1.1) (syncF rdyF d).2 h.2.2.1)) = _
  rw [e2]
  rfl
theorem app_ways {x : List Int} {d : D} (hx : x.length ≤ 2000) (hI : Sto.Inv d) (hr : ((d.b ++ x).length : Int) ≤ d.room) : appF rdyF x d = er 8 (mk d.b d.sure d.room d.fuse true) ∨
    ∃ f, -1 ≤ f ∧ f ≤ 9223372036854775807 ∧ appF rdyF x d = er 0 (mk (d.b ++ x) d.sure d.room f false) := by
  rw [List.length_append] at hr
  have h1 := hI.r1
  have hw : Fld.w ((d.b.length : Int) + x.length) = (d.b.length : Int) + x.length := by rw [Fld.w_id (by omega) (by omega)]
  unfold appF
  rw [hw]
  rcases Sto.rdy_ways ((d.b.length : Int) + x.length) hI with ⟨e1, _⟩ | ⟨f, f0, f1, e1, _⟩
  · left; rw [e1]; rfl
  · right
    refine ⟨f, f0, f1, ?_⟩
    rw [e1, if_neg (show ¬ ((d.b.length : Int) + x.length > d.room) by omega)]
    rfl
theorem sync_ways {d : D} (hI : Sto.Inv d) : syncF rdyF d = er 8 (mk d.b d.sure d.room d.fuse true) ∨ ∃ f, -1 ≤ f ∧ f ≤ 9223372036854775807 ∧ syncF rdyF d = er 0 (mk d.b d.b.length d.room f false) := by
  have h1 := hI.b1
  unfold syncF
  rcases Sto.rdy_ways 0 hI with ⟨e1, _⟩ | ⟨f, f0, f1, e1, _⟩
  · left; rw [e1]; rfl
  · right
    refine ⟨f, f0, f1, ?_⟩
    rw [e1, if_neg (show ¬ ((0 : Int) > d.room) by omega)]
    rfl
theorem rep_ways {x : List Int} {d : D} (hI : Sto.Inv d) (hr : (x.length : Int) ≤ d.room) : repF rdyF x d = er 8 (mk d.b d.sure d.room d.fuse true) ∨ ∃ f, -1 ≤ f ∧ f ≤ 9223372036854775807 ∧ repF rdyF x d = er 0 (mk x x.length d.room f false) := by
  unfold repF
  rcases Sto.rdy_ways (x.length : Int) hI with ⟨e1, _⟩ | ⟨f, f0, f1, e1, _⟩
  · left; rw [e1]; rfl
  · right
    refine ⟨f, f0, f1, ?_⟩
    rw [e1, if_neg (show ¬ ((x.length : Int) > d.room) by omega)]
    rfl
theorem add_step {h : JD} {su : List (List Int)} {b : List Int} {N : Nat} (hg : Go h su (2 * b.length + 10 + N)) : addP b h = true ∧
    (((addF b h).1.1 = 0 ∧ Go (addF b h).2 (su ++ [b]) N) ∨ ((addF b h).1.1 = 8 ∧ En (stD (addF b h).2) su (su ++ [b]))) := by
  have hI := go_inv hg
  have hl := hg.len
  have hb : b.length ≤ 1000 := by omega
  have hll := laid_len b
  have hsl := al_ge su
  have hap := (Sto.app_same (x := laidF b) (by omega) hI).2.2.1
  have hok : ∀ c ∈ su ++ [b], c.length ≤ 1000 := fun c hc => by
    rcases List.mem_append.1 hc with hc | hc
    · exact hg.ok c hc
    · rw [List.mem_singleton.1 hc]; exact hb
  have hbb : (stD h).b ++ laidF b = alF (su ++ [b]) := by rw [hg.b, al_snoc]
  have hbl : ((stD h).b ++ laidF b).length = (alF su).length + (10 + b.length) := by rw [hg.b, List.length_append, hll]
  refine ⟨by unfold addP; rw [hap, hg.rc, decide_eq_true (show su.length ≤ 1000000 by omega), Bool.and_true, Bool.or_true], ?_⟩
  rcases app_ways (x := laidF b) (by omega) hI (by rw [hg.room]; omega) with e1 | ⟨f, f0, f1, e1⟩
  · right
    rw [addF_down hg.br (by omega) e1]
    exact ⟨rfl, .inl hg.b, hg.sure, hg.room, hg.ok, by omega⟩
  · have hI2 : Sto.Inv (mk ((stD h).b ++ laidF b) (stD h).sure (stD h).room f false) :=
      Sto.inv_mk hI.s0 (by rw [hg.sure]; omega) (by rw [hg.room]; omega) hI.r1 f0 f1
    rcases sync_ways hI2 with e2 | ⟨f', f0', f1', e2⟩
    · right
      rw [addF_sync hg.br (by omega) e1 e2]
      exact ⟨rfl, .inr ⟨b, rfl, hb, by show (stD h).b ++ laidF b = _; rw [hg.b]⟩, hg.sure, hg.room, hg.ok, by omega⟩
    · left
      rw [addF_ok hg.br (by omega) e1 e2]
      refine ⟨rfl, rfl, hbb, ?_, hg.room, f0', f1', ?_, hok, ?_⟩
      · show (((stD h).b ++ laidF b).length : Int) = _
        rw [hbb]
      · show h.2.2.1 ++ [b] = _
        rw [hg.rc]
      · rw [al_snoc, List.length_append, hll]; omega
theorem on_step {h : JD} {su : List (List Int)} {b : List Int} {N : Nat} (hg : Go h su (2 * b.length + 10 + N)) :
    (((onF [b, b] h).1.1 = 0 ∧ Go (onF [b, b] h).2 [b, b] N) ∨ ((onF [b, b] h).1.1 = 8 ∧ En (stD (onF [b, b] h).2) su [b, b])) := by
  have hI := go_inv hg
  have hl := hg.len
  have hb : b.length ≤ 1000 := by omega
  have hll := laid_len b
  have hal : (alF [b, b]).length = 20 + 2 * b.length := by rw [al_cons, al_cons, al_nil, List.append_nil, List.length_append, hll]; omega
  have hbg : bigF [b, b] = false := by
    unfold bigF
    rw [List.any_cons, List.any_cons, decide_eq_false (show ¬ ((b.length : Int) > 1000) by omega)]; rfl
  have hok : ∀ c ∈ [b, b], c.length ≤ 1000 := fun c hc => by
    simp only [List.mem_cons, List.not_mem_nil, or_false, or_self] at hc
    rw [hc]; exact hb
  rcases rep_ways (x := alF [b, b]) hI (by rw [hg.room]; omega) with e1 | ⟨f, f0, f1, e1⟩
  · right
    have e : onF [b, b] h = ej 8 (putS true (mk (stD h).b (stD h).sure (stD h).room (stD h).fuse true) h.2.2.1) := by
      unfold onF
      rw [if_neg (by rw [hg.br]; simp), hbg, if_neg (by simp), e1]
      rfl
    rw [e]
    exact ⟨rfl, .inl hg.b, hg.sure, hg.room, hg.ok, by omega⟩
  · left
    have e : onF [b, b] h = ej 0 (putS false (mk (alF [b, b]) (alF [b, b]).length (stD h).room f false) [b, b]) := by
      unfold onF
      rw [if_neg (by rw [hg.br]; simp), hbg, if_neg (by simp), e1]
      rfl
    rw [e]
    exact ⟨rfl, rfl, rfl, rfl, hg.room, f0, f1, rfl, hok, by rw [hal]; omega⟩
end Go.Proofs.Ytffdkniccaebmaa.Jnl

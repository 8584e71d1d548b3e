/- Layouts, loads and stores: the model's runs and the symbolic machine's. Nothing here is about one program. -/
import Derived.Test.YtodjkocikflmnaaE4
import Derived.Laws.CopyRow
import Derived.Laws.StructEq
import Derived.ChangeKeysEq
import Derived.Laws.Cells
set_option linter.unusedVariables false
namespace Vse
open Go

section
variable {P : Program}

/-! types -/

theorem skFields_spec {rec : TypeId → Option Sk} : ∀ {fs : List Field} {off : Nat} {s : Sk}, skFields rec fs off = some s →
    s.agg = true ∧ ∀ m f, fs[m]? = some f → ∃ sf o, rec f.type = some sf ∧ poff s [.fld m] () = some (o, sf) ∧ f.offset = off + o
  | [], off, s, h => by
    simp only [skFields, Option.some.injEq] at h
    subst h
    exact ⟨rfl, by simp⟩
  | f :: fs, off, s, h => by
    simp only [skFields] at h
    split at h
    · rename_i ho
      split at h
      · rename_i sf hsf
        split at h
        · rename_i r hr
          simp only [Option.some.injEq] at h
          subst h
          refine ⟨rfl, ?_⟩
          intro m g hm
          cases m with
          | zero =>
            simp only [List.getElem?_cons_zero, Option.some.injEq] at hm
            subst hm
            exact ⟨sf, 0, hsf, by simp [poff], by omega⟩
          | succ m =>
            simp only [List.getElem?_cons_succ] at hm
            obtain ⟨_, h2⟩ := skFields_spec hr
            obtain ⟨sg, o, a1, a2, a3⟩ := h2 m g hm
            exact ⟨sg, sf.nc + o, a1, by simp [poff, a2], by omega⟩
        · cases h
      · cases h
    · cases h

theorem skOf_spec {n : Nat} {t : TypeId} {s : Sk} (h : skOf P n t = some s) : ∃ i, P.info? t = some i ∧ i.size = s.nc ∧
    ∃ d, P.underlying t = some d ∧
      ((s = .leaf ∧ (∀ fs, d ≠ .struct fs) ∧ (∀ k e, d ≠ .array k e)) ∨
       (∃ fs m, d = .struct fs ∧ n = m + 1 ∧ skFields (skOf P m) fs.toList 0 = some s ∧ s.agg = true) ∨
       (∃ k e a m, d = .array k e ∧ n = m + 1 ∧ skOf P m e = some a ∧ s = .arr k a)) := by
  cases n with
  | zero => simp [skOf] at h
  | succ n =>
    unfold skOf at h
    split at h
    · rename_i i fs hi hu
      split at h
      · rename_i s' hs
        split at h
        · rename_i hz
          simp only [Option.some.injEq] at h; subst h
          exact ⟨i, hi, hz.symm, _, hu, .inr (.inl ⟨fs, n, rfl, rfl, hs, (skFields_spec hs).1⟩)⟩
        · cases h
      · cases h
    · rename_i i k e hi hu
      split at h
      · rename_i a ha
        split at h
        · rename_i hz
          simp only [Option.some.injEq] at h; subst h
          exact ⟨i, hi, hz.symm, _, hu, .inr (.inr ⟨k, e, a, n, rfl, rfl, ha, rfl⟩)⟩
        · cases h
      · cases h
    · cases h
    · cases h
    · cases h
    · rename_i i d x1 x2 x3 x4 x5 hi hu
      split at h
      · rename_i hz
        simp only [Option.some.injEq] at h; subst h
        refine ⟨i, hi, hz, d, hu, .inl ⟨rfl, ?_, ?_⟩⟩
        · intro fs hd; subst hd; exact x1 _ rfl
        · intro k e hd; subst hd; exact x2 _ _ rfl
      · cases h
    · cases h

theorem run_sizeOf_sk {n : Nat} {t : TypeId} {s : Sk} (h : skOf P n t = some s) (w : World) : (Go.sizeOf t).run P w = .ok s.nc w := by
  obtain ⟨i, hi, hz, _⟩ := skOf_spec h
  rw [run_sizeOf w hi]; simp [Program.cellsOf, hi, hz]

theorem cellsOf_sk {n : Nat} {t : TypeId} {s : Sk} (h : skOf P n t = some s) : P.cellsOf t = s.nc := by
  obtain ⟨i, hi, hz, _⟩ := skOf_spec h
  simp [Program.cellsOf, hi, hz]

theorem run_isAgg_sk {n : Nat} {t : TypeId} {s : Sk} (h : skOf P n t = some s) (w : World) : (isAgg t).run P w = .ok s.agg w := by
  obtain ⟨i, hi, hz, d, hu, hd⟩ := skOf_spec h
  rcases hd with ⟨rfl, h1, h2⟩ | ⟨fs, m, rfl, _, _, ha⟩ | ⟨k, e, a, m, rfl, _, _, rfl⟩
  · simp only [isAgg, Sem.run_bind, run_underlying hu, Result.andThen_ok]
    cases d <;> first | rfl | (exact absurd rfl (h1 _)) | (exact absurd rfl (h2 _ _))
  · simp only [isAgg, Sem.run_bind, run_underlying hu, Result.andThen_ok, Sem.run_pure, ha]
  · simp only [isAgg, Sem.run_bind, run_underlying hu, Result.andThen_ok, Sem.run_pure, Sk.agg]

/-! cells at a path -/

def seg (cs : List Value) (off n : Nat) : List Value := (cs.drop off).take n

theorem seg_append_left {c1 c2 : List Value} {off n : Nat} (h : off + n ≤ c1.length) : seg (c1 ++ c2) off n = seg c1 off n := by
  unfold seg
  rw [List.drop_append_of_le_length (by omega), List.take_append_of_le_length (by simp; omega)]

theorem seg_append_right {c1 c2 : List Value} {off n : Nat} : seg (c1 ++ c2) (c1.length + off) n = seg c2 off n := by
  unfold seg
  rw [List.drop_append]
  have h1 : c1.drop (c1.length + off) = [] := List.drop_of_length_le (by omega)
  rw [h1]
  simp

theorem seg_all {cs : List Value} {n : Nat} (h : cs.length = n) : seg cs 0 n = cs := by
  unfold seg; rw [List.drop_zero, List.take_of_length_le (by omega)]

theorem repL_seg {α : Type} {R : α → List Value → Prop} {n : Nat} (hn : ∀ x cs, R x cs → cs.length = n) (d : α) : ∀ {l : List α} {cs : List Value} {i : Nat},
    repL R l cs → i < l.length → R (l.getD i d) (seg cs (i * n) n) ∧ i * n + n ≤ cs.length
  | [], _, i, _, hi => by simp at hi
  | x :: l, _, 0, ⟨c1, c2, rfl, h1, h2⟩, _ => by
    have := hn _ _ h1
    simp only [List.getD_cons_zero, Nat.zero_mul]
    rw [seg_append_left (by omega), seg_all this]
    exact ⟨h1, by simp [this]⟩
  | x :: l, _, i + 1, ⟨c1, c2, rfl, h1, h2⟩, hi => by
    have hc := hn _ _ h1
    obtain ⟨a, b⟩ := repL_seg hn d h2 (by simpa using hi)
    simp only [List.getD_cons_succ]
    rw [show (i + 1) * n = c1.length + i * n by rw [hc, Nat.add_mul]; omega, seg_append_right]
    exact ⟨a, by rw [List.length_append]; omega⟩

theorem getP_rep {g : G} : ∀ (T : Ty) (x : T.den) (p : List PS) (d : PD p) (cs : List Value) (y : TV) (off : Nat) (s : Sk),
    Rep g T x cs → getP T x p d = some y → poff T.sk p d = some (off, s) → Rep g y.T y.x (seg cs off y.T.nc) ∧ y.T.sk = s ∧ off + y.T.nc ≤ cs.length := by
  intro T
  induction T with
  | prod a b iha ihb =>
    intro x p d cs y off s hr hg hp
    cases p with
    | nil =>
      simp only [getP, Option.some.injEq] at hg; subst hg
      simp only [poff, Option.some.injEq, Prod.mk.injEq] at hp; obtain ⟨rfl, rfl⟩ := hp
      have hl := Rep_length _ _ _ hr
      exact ⟨by rw [seg_all hl]; exact hr, rfl, by simp; omega⟩
    | cons q p =>
      obtain ⟨c1, c2, rfl, h1, h2⟩ := hr
      have l1 := Rep_length _ _ _ h1
      cases q with
      | idx => simp [getP] at hg
      | fld m =>
        cases m with
        | zero =>
          simp only [getP] at hg
          simp only [Ty.sk, poff] at hp
          obtain ⟨r1, r2, r3⟩ := iha _ _ _ _ _ _ _ h1 hg hp
          exact ⟨by rw [seg_append_left (by omega)]; exact r1, r2, by rw [List.length_append]; omega⟩
        | succ m =>
          simp only [getP] at hg
          simp only [Ty.sk, poff, Option.map_eq_some_iff, Prod.mk.injEq, Prod.exists] at hp
          obtain ⟨o, s', hp, rfl, rfl⟩ := hp
          obtain ⟨r1, r2, r3⟩ := ihb _ _ _ _ _ _ _ h2 hg hp
          have e : a.sk.nc = c1.length := l1.symm
          rw [e]
          exact ⟨by rw [seg_append_right]; exact r1, r2, by rw [List.length_append]; omega⟩
  | arr n a iha =>
    intro x p d cs y off s hr hg hp
    cases p with
    | nil =>
      simp only [getP, Option.some.injEq] at hg; subst hg
      simp only [poff, Option.some.injEq, Prod.mk.injEq] at hp; obtain ⟨rfl, rfl⟩ := hp
      have hl := Rep_length _ _ _ hr
      exact ⟨by rw [seg_all hl]; exact hr, rfl, by simp; omega⟩
    | cons q p =>
      obtain ⟨hn, hl⟩ := hr
      cases q with
      | fld m => simp [getP] at hg
      | idx =>
        simp only [getP] at hg
        simp only [Ty.sk, poff] at hp
        split at hp
        · rename_i hi
          simp only [Option.map_eq_some_iff, Prod.mk.injEq, Prod.exists] at hp
          obtain ⟨o, s', hp, rfl, rfl⟩ := hp
          obtain ⟨r1, r2⟩ := repL_seg (fun x cs => Rep_length a x cs) (dflt a) hl (i := d.1) (by omega)
          obtain ⟨q1, q2, q3⟩ := iha _ _ _ _ _ _ _ r1 hg hp
          refine ⟨?_, q2, ?_⟩
          · have : seg (seg cs (d.1 * a.nc) a.nc) o y.T.nc = seg cs (d.1 * a.nc + o) y.T.nc := by
              have hq : o + y.T.nc ≤ a.nc := by
                have : (seg cs (d.1 * a.nc) a.nc).length ≤ a.nc := by unfold seg; exact List.length_take_le _ _
                omega
              unfold seg
              rw [List.drop_take, List.drop_drop, List.take_take]
              congr 1
              omega
            exact this ▸ q1
          · have : (seg cs (d.1 * a.nc) a.nc).length ≤ a.nc := by unfold seg; exact List.length_take_le _ _
            have e : a.sk.nc = a.nc := rfl
            rw [e]
            omega
        · cases hp
  | _ =>
    intro x p d cs y off s hr hg hp
    cases p with
    | nil =>
      simp only [getP, Option.some.injEq] at hg; subst hg
      simp only [poff, Option.some.injEq, Prod.mk.injEq] at hp; obtain ⟨rfl, rfl⟩ := hp
      have hl := Rep_length _ _ _ hr
      exact ⟨by rw [seg_all hl]; exact hr, rfl, by simp; omega⟩
    | cons q p => cases q <;> simp [getP] at hg

/-- cells with a part put into them -/
def splice (cs : List Value) (off : Nat) (new : List Value) : List Value := cs.take off ++ new ++ cs.drop (off + new.length)

theorem splice_all {cs new : List Value} (h : cs.length = new.length) : splice cs 0 new = new := by
  unfold splice; simp [h.symm]

theorem splice_append_left {c1 c2 new : List Value} {off : Nat} (h : off + new.length ≤ c1.length) : splice (c1 ++ c2) off new = splice c1 off new ++ c2 := by
  unfold splice
  rw [List.take_append_of_le_length (by omega), List.drop_append_of_le_length h]
  simp

theorem splice_append_right {c1 c2 new : List Value} {off : Nat} : splice (c1 ++ c2) (c1.length + off) new = c1 ++ splice c2 off new := by
  unfold splice
  rw [List.take_append, List.drop_append]
  have h1 : c1.take (c1.length + off) = c1 := List.take_of_length_le (by omega)
  have h2 : c1.drop (c1.length + off + new.length) = [] := List.drop_of_length_le (by omega)
  rw [h1, h2]
  simp
  congr 1
  omega

theorem splice_splice {cs : List Value} {o n i : Nat} {new : List Value} (h : o + n ≤ cs.length) (hi : i + new.length ≤ n) :
    splice cs o (splice (seg cs o n) i new) = splice cs (o + i) new := by
  have hs : (seg cs o n).length = n := by unfold seg; simp; omega
  have hl : (splice (seg cs o n) i new).length = n := by unfold splice; simp [hs]; omega
  have e1 : (seg cs o n).take i = (cs.drop o).take i := by unfold seg; rw [List.take_take, Nat.min_eq_left (by omega)]
  have e2 : (seg cs o n).drop (i + new.length) = (cs.drop (o + i + new.length)).take (n - (i + new.length)) := by
    unfold seg; rw [List.drop_take, List.drop_drop, show o + (i + new.length) = o + i + new.length by omega]
  have e3 : cs.drop (o + i + new.length) = (cs.drop (o + i + new.length)).take (n - (i + new.length)) ++ cs.drop (o + n) := by
    have := (List.take_append_drop (n - (i + new.length)) (cs.drop (o + i + new.length))).symm
    rw [List.drop_drop, show o + i + new.length + (n - (i + new.length)) = o + n by omega] at this
    exact this
  have e4 : cs.take (o + i) = cs.take o ++ (cs.drop o).take i := List.take_add
  have h0 : splice cs o (splice (seg cs o n) i new) = cs.take o ++ splice (seg cs o n) i new ++ cs.drop (o + n) := by
    show _ ++ _ ++ cs.drop (o + (splice (seg cs o n) i new).length) = _
    rw [hl]
  rw [h0]
  unfold splice
  rw [e1, e2, e4]
  conv => rhs; rw [e3]
  simp only [List.append_assoc]

theorem repL_set {α : Type} {R : α → List Value → Prop} {n : Nat} (hn : ∀ x cs, R x cs → cs.length = n) : ∀ {l : List α} {cs new : List Value} {i : Nat} {y : α},
    repL R l cs → i < l.length → R y new → repL R (l.set i y) (splice cs (i * n) new)
  | [], _, _, i, _, _, hi, _ => by simp at hi
  | x :: l, _, new, 0, y, ⟨c1, c2, rfl, h1, h2⟩, _, hy => by
    have e1 := hn _ _ h1
    have e2 := hn _ _ hy
    rw [Nat.zero_mul, splice_append_left (by omega), splice_all (by omega)]
    exact ⟨new, c2, rfl, hy, h2⟩
  | x :: l, _, new, i + 1, y, ⟨c1, c2, rfl, h1, h2⟩, hi, hy => by
    have e1 := hn _ _ h1
    rw [show (i + 1) * n = c1.length + i * n by rw [e1, Nat.add_mul]; omega, splice_append_right]
    exact ⟨c1, _, rfl, h1, repL_set hn h2 (by simpa using hi) hy⟩

theorem castT_spec {t : TV} {a : Ty} {z : a.den} (h : castT t a = some z) : t = ⟨a, z⟩ := by
  unfold castT at h
  split at h
  · rename_i he
    obtain ⟨T, x⟩ := t
    simp only at he
    subst he
    simp only [Option.some.injEq] at h
    subst h
    rfl
  · cases h

theorem setP_rep {g : G} : ∀ (T : Ty) (x : T.den) (p : List PS) (d : PD p) (cs new : List Value) (y r : TV) (off : Nat) (s : Sk),
    Rep g T x cs → setP T x p d y = some r → poff T.sk p d = some (off, s) → Rep g y.T y.x new → y.T.sk = s ∧ r.T.sk = T.sk ∧ Rep g r.T r.x (splice cs off new) ∧ off + new.length ≤ cs.length := by
  intro T
  induction T with
  | prod a b iha ihb =>
    intro x p d cs new y r off s hr hg hp hy
    cases p with
    | nil =>
      simp only [setP] at hg
      split at hg
      · rename_i he
        simp only [Option.some.injEq] at hg; subst hg
        simp only [poff, Option.some.injEq, Prod.mk.injEq] at hp; obtain ⟨rfl, rfl⟩ := hp
        have hl := Rep_length _ _ _ hr
        have hl' := Rep_length _ _ _ hy
        have : cs.length = new.length := by rw [hl, hl']; unfold Ty.nc; rw [he]
        exact ⟨he.symm, he.symm, by rw [splice_all this]; exact hy, by omega⟩
      · cases hg
    | cons q p =>
      obtain ⟨c1, c2, rfl, h1, h2⟩ := hr
      have l1 := Rep_length _ _ _ h1
      cases q with
      | idx => simp [setP] at hg
      | fld m =>
        cases m with
        | zero =>
          simp only [setP, Option.bind_eq_some_iff] at hg
          obtain ⟨q, hq, hr'⟩ := hg
          simp only [Option.some.injEq] at hr'; subst hr'
          simp only [Ty.sk, poff] at hp
          obtain ⟨r1, r2, r3, r4⟩ := iha _ _ _ _ _ _ _ _ _ h1 hq hp hy
          refine ⟨r1, by simp [Ty.sk, r2], ?_, by rw [List.length_append]; omega⟩
          rw [splice_append_left r4]
          exact ⟨_, _, rfl, r3, h2⟩
        | succ m =>
          simp only [setP, Option.bind_eq_some_iff] at hg
          obtain ⟨q, hq, hr'⟩ := hg
          simp only [Option.some.injEq] at hr'; subst hr'
          simp only [Ty.sk, poff, Option.map_eq_some_iff, Prod.mk.injEq, Prod.exists] at hp
          obtain ⟨o, s', hp, rfl, rfl⟩ := hp
          obtain ⟨r1, r2, r3, r4⟩ := ihb _ _ _ _ _ _ _ _ _ h2 hq hp hy
          have e : a.sk.nc = c1.length := l1.symm
          rw [e]
          refine ⟨r1, by simp [Ty.sk, r2], ?_, by rw [List.length_append]; omega⟩
          rw [splice_append_right]
          exact ⟨_, _, rfl, h1, r3⟩
  | arr n a iha =>
    intro x p d cs new y r off s hr hg hp hy
    cases p with
    | nil =>
      simp only [setP] at hg
      split at hg
      · rename_i he
        simp only [Option.some.injEq] at hg; subst hg
        simp only [poff, Option.some.injEq, Prod.mk.injEq] at hp; obtain ⟨rfl, rfl⟩ := hp
        have hl := Rep_length _ _ _ hr
        have hl' := Rep_length _ _ _ hy
        have : cs.length = new.length := by rw [hl, hl']; unfold Ty.nc; rw [he]
        exact ⟨he.symm, he.symm, by rw [splice_all this]; exact hy, by omega⟩
      · cases hg
    | cons q p =>
      obtain ⟨hn, hl⟩ := hr
      cases q with
      | fld m => simp [setP] at hg
      | idx =>
        simp only [setP, Option.bind_eq_some_iff] at hg
        obtain ⟨q, hq, z, hz, hr'⟩ := hg
        simp only [Option.some.injEq] at hr'; subst hr'
        simp only [Ty.sk, poff] at hp
        split at hp
        · rename_i hi
          simp only [Option.map_eq_some_iff, Prod.mk.injEq, Prod.exists] at hp
          obtain ⟨o, s', hp, rfl, rfl⟩ := hp
          obtain ⟨r1, r2⟩ := repL_seg (fun x cs => Rep_length a x cs) (dflt a) hl (i := d.1) (by omega)
          obtain ⟨q1, q2, q3, q4⟩ := iha _ _ _ _ _ _ _ _ _ r1 hq hp hy
          have := castT_spec hz
          subst this
          have hsl : (seg cs (d.1 * a.nc) a.nc).length ≤ a.nc := by unfold seg; exact List.length_take_le _ _
          have e : a.sk.nc = a.nc := rfl
          rw [e]
          refine ⟨q1, rfl, ?_, by omega⟩
          refine ⟨by simp [hn], ?_⟩
          rw [← splice_splice (n := a.nc) r2 (by omega)]
          exact repL_set (fun x cs => Rep_length a x cs) hl (by omega) q3
        · cases hp
  | _ =>
    intro x p d cs new y r off s hr hg hp hy
    cases p with
    | nil =>
      simp only [setP] at hg
      split at hg
      · rename_i he
        simp only [Option.some.injEq] at hg; subst hg
        simp only [poff, Option.some.injEq, Prod.mk.injEq] at hp; obtain ⟨rfl, rfl⟩ := hp
        have hl := Rep_length _ _ _ hr
        have hl' := Rep_length _ _ _ hy
        have : cs.length = new.length := by rw [hl, hl']; unfold Ty.nc; rw [he]
        exact ⟨he.symm, he.symm, by rw [splice_all this]; exact hy, by omega⟩
      · cases hg
    | cons q p => cases q <;> simp [setP] at hg

/-! loads and stores -/

theorem addr_add (b o n : Nat) : (⟨b, o, none⟩ : Addr).add n = ⟨b, o + n, none⟩ := by
  unfold Addr.add; split <;> simp_all

/-- a load of a variable whose cells are known -/
theorem run_loadVar_cells {n : Nat} {t : TypeId} {s : Sk} (hs : skOf P n t = some s) (w : World) (b o : Nat) (cs : List Value) (hl : cs.length = s.nc)
    (hc : ∀ i v, cs[i]? = some v → w.cell? ⟨b, o + i, none⟩ = some v) :
    ∃ v, (loadVar t ⟨b, o, none⟩).run P w = .ok v w ∧ (if s.agg then v = .agg cs.toArray else cs = [v]) := by
  cases hsa : s.agg with
  | true =>
    refine ⟨.agg cs.toArray, ?_, by simp⟩
    have := run_loadCells_list (P := P) w ⟨b, o, none⟩ cs (fun j v h => by rw [addr_add]; exact hc j v h)
    rw [hl] at this
    simp only [loadVar, Sem.run_bind, run_isAgg_sk hs, Result.andThen_ok, hsa, if_true, run_sizeOf_sk hs, this, Sem.run_pure]
  | false =>
    have : s.nc = 1 := by cases s <;> first | rfl | (simp [Sk.agg] at hsa)
    rw [this] at hl
    obtain ⟨v, rfl⟩ := List.length_eq_one_iff.1 hl
    refine ⟨v, ?_, by simp⟩
    have h0 := hc 0 v (by simp)
    simp only [Nat.add_zero] at h0
    simp only [loadVar, Sem.run_bind, run_isAgg_sk hs, Result.andThen_ok, hsa, Bool.false_eq_true, if_false, run_load, h0]

theorem TRep_of_load {g : G} {T : Ty} {x : T.den} {cs : List Value} {v : Value} (hr : Rep g T x cs) (hv : if T.sk.agg then v = .agg cs.toArray else cs = [v]) : TRep g T x v := by
  cases ha : T.sk.agg with
  | true => rw [ha, if_pos rfl] at hv; subst hv; exact TRep_of_agg ha (by simpa using hr)
  | false => rw [ha] at hv; simp only [Bool.false_eq_true, if_false] at hv; subst hv; exact TRep_of_leaf ha hr

theorem run_storeCells_thaw (b o : Nat) (t : TypeId) (fz : Nat × Nat) : ∀ (vs : List Value) (i : Nat) (cur : Array Value) (w : World), w.heap[b]? = some (.cells cur t fz) → thawed cur fz → o + i + vs.length ≤ cur.size → (∀ v ∈ vs, v.oneCell' = true) →
    (storeCells ⟨b, o, none⟩ vs i).run P w = .ok () (w.setRow b (splice cur.toList (o + i) vs).toArray)
  | [], i, cur, w, hg, _, _, _ => by
    simp only [storeCells, splice, List.append_nil, List.length_nil, Nat.add_zero, List.take_append_drop, Array.toArray_toList]
    rw [setRow_self w b cur t fz hg]
    rfl
  | v :: rest, i, cur, w, hg, hth, hl, h1 => by
    have hi : o + i < cur.size := by simp at hl; omega
    have hcell : w.cell? ⟨b, o + i, none⟩ = some cur[o + i] := by simp [World.cell?, hg, hi]
    have hfro : w.frozen? ⟨b, o + i, none⟩ = false := by
      obtain ⟨lo, hi'⟩ := fz
      simp only [World.frozen?, hg, Bool.and_eq_false_iff, decide_eq_false_iff_not]
      rcases hth with h | h <;> simp only at h <;> omega
    have hst : (store ((⟨b, o, none⟩ : Addr).add i) v).run P w = .ok () (w.setRow b (cur.setIfInBounds (o + i) v)) := by
      rw [addr_add, run_store P w _ v _ (h1 v (by simp)), hcell]
      simp [hfro, setCell_eq_setRow w b (o + i) cur t fz v hg]
    have ih := run_storeCells_thaw b o t fz rest (i + 1) (cur.setIfInBounds (o + i) v) (w.setRow b (cur.setIfInBounds (o + i) v)) (setRow_heap w b cur _ t _ hg) (by unfold thawed at hth ⊢; simpa using hth) (by simp at hl ⊢; omega) (fun x hx => h1 x (by simp [hx]))
    simp only [storeCells, Sem.run_bind, hst, Result.andThen_ok, ih, setRow_setRow]
    congr 3
    have e := list_seg_step cur.toList (o + i) v rest (by simp at hl ⊢; omega)
    simpa [splice, Array.toList_setIfInBounds, Nat.add_assoc] using e

/-- a part of some cells, by their type -/
theorem run_part_sk {n : Nat} {t : TypeId} {s : Sk} (hs : skOf P n t = some s) (w : World) (cs : Array Value) (off : Nat) (h : off + s.nc ≤ cs.size) :
    ∃ v, (part t cs off).run P w = .ok v w ∧ (if s.agg then v = .agg (seg cs.toList off s.nc).toArray else seg cs.toList off s.nc = [v]) := by
  cases hsa : s.agg with
  | true =>
    refine ⟨.agg (cs.extract off (off + s.nc)), ?_, ?_⟩
    · simp only [part, Sem.run_bind, run_isAgg_sk hs, Result.andThen_ok, hsa, if_true, run_sizeOf_sk hs, Sem.run_pure]
    · simp only [if_true, Value.agg.injEq]
      apply Array.ext'
      simp [seg, List.take_drop]
  | false =>
    have : s.nc = 1 := by cases s <;> first | rfl | (simp [Sk.agg] at hsa)
    rw [this] at h ⊢
    refine ⟨cs[off]'(by omega), ?_, ?_⟩
    · simp only [part, Sem.run_bind, run_isAgg_sk hs, Result.andThen_ok, hsa, Bool.false_eq_true, if_false, Array.getElem?_eq_getElem (show off < cs.size by omega), Sem.run_pure]
    · simp only [Bool.false_eq_true, if_false, seg]
      rw [List.drop_eq_getElem_cons (by simpa using (show off < cs.size by omega))]
      simp

end
end Vse

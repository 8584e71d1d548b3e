/- What a statement's arguments are to the symbolic machine, and how its answer becomes the row. Nothing here is about one program. -/
import Derived.Test.YtodjkocikflmnaaE20
import Derived.ProofKit
import Derived.Carry
import Derived.OpenShut
import Derived.ChangeMaps5
set_option linter.unusedVariables false
namespace Vse
open Go Go.ChangeShapes Go.WideShapes Go.ChangeAt Go.RowKit

/-! a type's values, as they come in -/

def argFs (rec : TypeId → Option Ty) (P : Program) : List Field → Nat → Option Ty
  | [], _ => some .unit
  | f :: fs, off => match rec f.type with
    | some A => if f.offset = off ∧ P.cellsOf f.type = A.nc then match argFs rec P fs (off + A.nc) with
      | some B => some (.prod A B)
      | none => none else none
    | none => none

def argTy (P : Program) : Nat → TypeId → Option Ty
  | 0, _ => none
  | n + 1, t => match P.underlying t with
    | some .bool => some .bool
    | some (.int k) => some (.int k)
    | some .string => some .str
    | some (.array m e) => match argTy P n e with
      | some A => if P.cellsOf e = A.nc ∧ P.cellsOf t = m * A.nc then some (.arr m A) else none
      | none => none
    | some (.struct fs) => match argFs (argTy P n) P fs.toList 0 with
      | some A => if P.cellsOf t = A.nc then some A else none
      | none => none
    | some (.slice e) => match argTy P n e with
      | some A => if P.cellsOf e = A.nc ∧ A.nc ≠ 0 ∧ P.bytesOf e ≠ 0 then some (.imm true false A) else none
      | none => none
    | _ => none

/-- how long slices may be that come in -/
def Ty.sz : (T : Ty) → T.den → Prop
  | .imm _ _ a, l => l.length ≤ reachBytes ∧ ∀ x ∈ l, a.sz x
  | .prod a b, x => a.sz x.1 ∧ b.sz x.2
  | _, _ => True

/-- a value within its type -/
def Ty.wf : (T : Ty) → T.den → Prop
  | .int k, n => (Lit.int k n).wf = true
  | .str, s => s.size ≤ maxLen
  | .prod a b, x => a.wf x.1 ∧ b.wf x.2
  | .arr n a, l => l.length = n ∧ ∀ x ∈ l, a.wf x
  | .imm _ _ a, l => l.length ≤ 9223372036854775807 ∧ ∀ x ∈ l, a.wf x
  | _, _ => True

section
variable {H : Type} {enc : TypeId × Value → H} {P : Program} {w : World} {base : Nat} {spare : Nat → Bool} {held : Bool}

theorem fs_rep {g : G} {rec : TypeId → Option Ty} {m : Nat} {cs : List Value} {Z : Prop}
    (ih : ∀ {t : TypeId} {T : Ty} {c : List Value} {y : DataW H × List MemPlace}, rec t = some T → DataW.trod enc P w base spare held m t c = some y → ∃ x, Rep g T x c ∧ T.wf x ∧ ((∀ n ∈ y.1.weights P t, n ≤ reachBytes) → T.sz x)) :
    ∀ {fs : List Field} {off : Nat} {T : Ty}, argFs rec P fs off = some T → (∀ f ∈ fs, ∃ y, DataW.trod enc P w base spare held m f.type ((cs.drop f.offset).take (P.cellsOf f.type)) = some y ∧ (Z → ∀ n ∈ y.1.weights P f.type, n ≤ reachBytes)) →
      ∃ x, Rep g T x ((cs.drop off).take T.nc) ∧ T.wf x ∧ (Z → T.sz x)
  | [], off, T, h, _ => by
    simp only [argFs, Option.some.injEq] at h
    subst h
    exact ⟨(), by simp [Ty.nc, Ty.sk, Sk.nc, Rep], trivial, fun _ => trivial⟩
  | f :: fs, off, T, h, hf => by
    simp only [argFs] at h
    split at h
    · rename_i A hA
      split at h
      · rename_i hc
        split at h
        · rename_i B hB
          simp only [Option.some.injEq] at h
          subst h
          obtain ⟨y, hy, hyz⟩ := hf f (by simp)
          obtain ⟨x1, h1, h2, h2z⟩ := ih hA hy
          obtain ⟨x2, h3, h4, h4z⟩ := fs_rep ih hB (fun f' hf' => hf f' (by simp [hf']))
          refine ⟨(x1, x2), ⟨_, _, ?_, h1, h3⟩, ⟨h2, h4⟩, fun hZ => ⟨h2z (hyz hZ), h4z hZ⟩⟩
          rw [hc.1, hc.2]
          show (cs.drop off).take (A.nc + B.nc) = _
          rw [List.take_add, List.drop_drop]
        · cases h
      · cases h
    · cases h

theorem arr_rep {g : G} {A : Ty} {m : Nat} {e : TypeId} (cs : List Value)
    (ih : ∀ {c : List Value} {y : DataW H × List MemPlace}, DataW.trod enc P w base spare held m e c = some y → ∃ x, Rep g A x c ∧ A.wf x) :
    ∀ (n off : Nat), (∀ i, off ≤ i → i < off + n → ∃ y, DataW.trod enc P w base spare held m e ((cs.drop (i * A.nc)).take A.nc) = some y) →
      ∃ l : List A.den, l.length = n ∧ repL (Rep g A) l ((cs.drop (off * A.nc)).take (n * A.nc)) ∧ ∀ x ∈ l, A.wf x
  | 0, off, _ => ⟨[], rfl, by simp [repL], by simp⟩
  | n + 1, off, h => by
    obtain ⟨y, hy⟩ := h off (Nat.le_refl _) (by omega)
    obtain ⟨x, h1, h2⟩ := ih hy
    obtain ⟨l, h3, h4, h5⟩ := arr_rep cs ih n (off + 1) (fun i hi hi' => h i (by omega) (by omega))
    refine ⟨x :: l, by simp [h3], ⟨_, _, ?_, h1, h4⟩, ?_⟩
    · rw [show (n + 1) * A.nc = A.nc + n * A.nc by rw [Nat.add_mul]; omega, List.take_add, List.drop_drop]
      rw [show off * A.nc + A.nc = (off + 1) * A.nc by rw [Nat.add_mul]; omega]
    · intro z hz
      rcases List.mem_cons.1 hz with rfl | hz
      · exact h2
      · exact h5 z hz

theorem weightsAll_mem {e : TypeId} : ∀ {ds : List (DataW H)} {i : Nat} {d : DataW H}, ds[i]? = some d → ∀ n ∈ d.weights P e, n ∈ DataW.weightsAll P e ds
  | [], i, d, h, _, _ => by simp at h
  | d0 :: ds, 0, d, h, n, hn => by
    simp only [List.getElem?_cons_zero, Option.some.injEq] at h
    subst h
    simp only [DataW.weightsAll, List.mem_append]
    exact .inl hn
  | d0 :: ds, i + 1, d, h, n, hn => by
    simp only [DataW.weightsAll, List.mem_append]
    exact .inr (weightsAll_mem (by simpa using h) n hn)

theorem weightsEach_mem : ∀ {ts : List TypeId} {ds : List (DataW H)} {i : Nat} {t : TypeId} {d : DataW H}, ts[i]? = some t → ds[i]? = some d → ∀ n ∈ d.weights P t, n ∈ DataW.weightsEach P ts ds
  | [], _, i, t, d, h, _, _, _ => by simp at h
  | _ :: _, [], i, t, d, _, h, _, _ => by simp at h
  | t0 :: ts, d0 :: ds, 0, t, d, h, h', n, hn => by
    simp only [List.getElem?_cons_zero, Option.some.injEq] at h h'
    subst h
    subst h'
    simp only [DataW.weightsEach, List.mem_append]
    exact .inl hn
  | t0 :: ts, d0 :: ds, i + 1, t, d, h, h', n, hn => by
    simp only [DataW.weightsEach, List.mem_append]
    exact .inr (weightsEach_mem (by simpa using h) (by simpa using h') n hn)

theorem argFs_sk {rec : TypeId → Option Ty} : ∀ {fs : List Field} {off : Nat} {T : Ty}, argFs rec P fs off = some T → T = .unit ∨ ∃ a b, T = .prod a b
  | [], off, T, h => by simp only [argFs, Option.some.injEq] at h; exact .inl h.symm
  | f :: fs, off, T, h => by
    simp only [argFs] at h
    split at h
    · split at h
      · split at h
        · simp only [Option.some.injEq] at h; exact .inr ⟨_, _, h.symm⟩
        · cases h
      · cases h
    · cases h

theorem sl_rep {g : G} {A : Ty} {m : Nat} {e : TypeId} {b o : Nat} {Z : Prop}
    (ih : ∀ {c : List Value} {y : DataW H × List MemPlace}, DataW.trod enc P w base spare held m e c = some y → ∃ x, Rep g A x c ∧ A.wf x ∧ ((∀ n ∈ y.1.weights P e, n ≤ reachBytes) → A.sz x)) :
    ∀ (n off : Nat), (∀ i, off ≤ i → i < off + n → ∃ y, (w.cells? base ((⟨b, o, none⟩ : Addr).add (i * A.nc)) A.nc).bind (DataW.trod enc P w base spare held m e) = some y ∧ (Z → ∀ n ∈ y.1.weights P e, n ≤ reachBytes)) →
      ∃ (l : List A.den) (vs : List Value), l.length = n ∧ repL (Rep g A) l vs ∧ ((∀ x ∈ l, A.wf x) ∧ (Z → ∀ x ∈ l, A.sz x)) ∧ ∀ j v, vs[j]? = some v → w.cell? ⟨b, o + (off * A.nc + j), none⟩ = some v
  | 0, off, _ => ⟨[], [], rfl, rfl, by simp, by simp⟩
  | n + 1, off, h => by
    obtain ⟨y, hy, hyz⟩ := h off (Nat.le_refl _) (by omega)
    obtain ⟨c, hc, hy⟩ := Option.bind_eq_some_iff.1 hy
    obtain ⟨_, hlen, hcell⟩ := World.cells?_some hc
    obtain ⟨x, h1, h2, h2z⟩ := ih hy
    obtain ⟨l, vs, h3, h4, ⟨h5, h5z⟩, h6⟩ := sl_rep ih n (off + 1) (fun i hi hi' => h i (by omega) (by omega))
    refine ⟨x :: l, c ++ vs, by simp [h3], ⟨c, vs, rfl, h1, h4⟩, ⟨?_, ?_⟩, ?_⟩
    · intro z hz
      rcases List.mem_cons.1 hz with rfl | hz
      · exact h2
      · exact h5 z hz
    · intro hZ z hz
      rcases List.mem_cons.1 hz with rfl | hz
      · exact h2z (hyz hZ)
      · exact h5z hZ z hz
    · intro j v hj
      by_cases hlt : j < c.length
      · rw [List.getElem?_append_left hlt] at hj
        have := hcell j (by omega)
        rw [hj, addr_add, addr_add, Nat.add_assoc] at this
        exact this
      · rw [List.getElem?_append_right (by omega)] at hj
        have := h6 _ _ hj
        rw [hlen] at this hlt
        rw [← this]
        congr 2
        rw [Nat.add_mul]
        omega

theorem arg_rep {g : G} (hg : ∀ b o, w.heap[b]? = some o → g.fr b = some o) : ∀ (n : Nat) {m : Nat} {t : TypeId} {T : Ty} {cs : List Value} {y : DataW H × List MemPlace},
    argTy P n t = some T → DataW.trod enc P w base spare held m t cs = some y → ∃ x, Rep g T x cs ∧ T.wf x ∧ ((∀ n ∈ y.1.weights P t, n ≤ reachBytes) → T.sz x)
  | 0, m, t, T, cs, y, h, _ => by simp [argTy] at h
  | n + 1, m, t, T, cs, y, h, hd => by
    have ihz := fun {m : Nat} {t : TypeId} {T : Ty} {cs : List Value} {y : DataW H × List MemPlace} => @arg_rep g hg n m t T cs y
    have ih : ∀ {m : Nat} {t : TypeId} {T : Ty} {cs : List Value} {y : DataW H × List MemPlace}, argTy P n t = some T → DataW.trod enc P w base spare held m t cs = some y → ∃ x, Rep g T x cs ∧ T.wf x := fun h1 h2 => (ihz h1 h2).imp fun x h => ⟨h.1, h.2.1⟩
    simp only [argTy] at h
    split at h
    · rename_i hu
      cases h
      obtain ⟨b, rfl, _⟩ := DataW.trod_bool hu hd
      exact ⟨b, by simp [Rep], trivial, fun _ => trivial⟩
    · rename_i k hu
      cases h
      obtain ⟨z, rfl, _, hw⟩ := DataW.trod_int hu hd
      exact ⟨z, ⟨rfl, hw⟩, hw, fun _ => trivial⟩
    · rename_i hu
      cases h
      obtain ⟨z, rfl, _, hw⟩ := DataW.trod_string hu hd
      exact ⟨z, ⟨rfl, by simpa [maxLen] using hw⟩, hw, fun _ => trivial⟩
    · rename_i k e hu
      split at h
      · rename_i A hA
        split at h
        · rename_i hc
          cases h
          obtain ⟨xs, m', rfl, _, hl, hn, hx⟩ := DataW.trod_array hu hd
          obtain ⟨l, h1, h2, h3⟩ := arr_rep (g := g) (A := A) cs (fun hy => ih hA hy) k 0 (fun i _ hi => ⟨xs[i]'(by omega), by rw [← hc.1, hx i (by omega), List.getElem?_eq_getElem]⟩)
          refine ⟨l, ⟨h1, ?_⟩, ⟨h1, h3⟩, fun _ => trivial⟩
          simp only [Nat.zero_mul, List.drop_zero] at h2
          rw [List.take_of_length_le (by rw [hl, hc.2]; exact Nat.le_refl _)] at h2
          exact h2
        · cases h
      · cases h
    · rename_i fs hu
      split at h
      · rename_i A hA
        split at h
        · rename_i hc
          cases h
          obtain ⟨xs, m', rfl, hy0, hl, hn, hx⟩ := DataW.trod_struct hu hd
          obtain ⟨x, h1, h2, h2z⟩ := fs_rep (g := g) (cs := cs) (Z := ∀ n ∈ DataW.weights P t (.agg (xs.map (·.1))), n ≤ reachBytes) (fun hT hy => ihz hT hy) hA (fun f hf => by
            obtain ⟨i, hi, rfl⟩ := List.getElem_of_mem hf
            have hi' : i < fs.size := by simpa using hi
            refine ⟨xs[i]'(by omega), (hx i _ (by simp [hi'])).trans (List.getElem?_eq_getElem _), fun hZ k hk => hZ k ?_⟩
            simp only [DataW.weights, hu]
            exact weightsEach_mem (i := i) (by simp [hi']) (by rw [List.getElem?_map, List.getElem?_eq_getElem (by omega)]; rfl) k hk)
          refine ⟨x, ?_, h2, by rw [hy0]; exact h2z⟩
          rw [List.drop_zero, List.take_of_length_le (by rw [hl, hc]; exact Nat.le_refl _)] at h1
          exact h1
        · cases h
      · cases h
    · rename_i e hu
      split at h
      · rename_i A hA
        split at h
        · rename_i hc
          cases h
          rcases DataW.trod_slice hu hd with ⟨rfl, _⟩ | ⟨a, len, cap, elems, rest, n', rfl, rfl, rfl, _, hl, hm, hlen, hel, _, _⟩
          · exact ⟨[], ⟨none, 0, rfl, by simp, by simp, by simp⟩, by simp [Ty.wf], fun _ => by simp [Ty.sz]⟩
          · by_cases h0 : len = 0
            · subst h0
              exact ⟨[], ⟨some a, cap, rfl, ⟨by simp, by simpa [maxLen] using hm⟩, by simp, by simp⟩, by simp [Ty.wf], fun _ => by simp [Ty.sz]⟩
            have hsp : ∃ cs tt fz, a.spot = none ∧ w.heap[a.block]? = some (.cells cs tt fz) := by
              have := hel 0 (by omega)
              rw [List.getElem?_eq_getElem (by omega)] at this
              obtain ⟨c, hc1, _⟩ := Option.bind_eq_some_iff.1 this
              obtain ⟨_, hcl, hcc⟩ := World.cells?_some hc1
              have hz := hcc 0 (by rw [hc.1]; omega)
              rw [List.getElem?_eq_getElem (by rw [hcl, hc.1]; omega)] at hz
              simp only [Nat.zero_mul, Addr.add, if_true, World.cell?] at hz
              split at hz
              · rename_i cs tt fz hb
                split at hz
                · cases hz
                · rename_i hsp
                  exact ⟨cs, tt, fz, by simpa using hsp, hb⟩
              · cases hz
            obtain ⟨cs, tt, fz, hsp, hb⟩ := hsp
            obtain ⟨b, o, sp⟩ := a
            simp only at hsp hb
            subst hsp
            obtain ⟨l, vs, h1, h2, ⟨h3, h3z⟩, h4⟩ := sl_rep (g := g) (A := A) (b := b) (o := o) (Z := ∀ n ∈ DataW.weights P t (.slice (elems.map (·.1)) (rest.map (·.1))), n ≤ reachBytes) (fun hy => ihz hA hy) len 0 (fun i _ hi => ⟨elems[i]'(by omega), by
              have := hel i (by omega)
              rw [hc.1] at this
              rw [this, List.getElem?_eq_getElem], fun hZ k hk => hZ k (by
                simp only [DataW.weights, hu, List.mem_cons, List.mem_append]
                exact .inr (.inl (weightsAll_mem (i := i) (by rw [List.getElem?_map, List.getElem?_eq_getElem (by omega)]; rfl) k hk)))⟩)
            refine ⟨l, ⟨some ⟨b, o, none⟩, cap, by rw [h1], ⟨by omega, by simpa [maxLen] using hm⟩, by simp, fun hne => ⟨_, vs, rfl, h2, .inl ⟨rfl, cs, tt, fz, hg _ _ hb, fun j v hj => ?_⟩⟩⟩, ⟨by rw [h1]; simp only [maxLen] at hm; omega, h3⟩, fun hZ => ⟨?_, h3z hZ⟩⟩
            · have := h4 j v hj
              simp only [World.cell?, hb, Option.isSome_none, Bool.false_eq_true, if_false, Nat.zero_mul, Nat.zero_add] at this
              exact this
            · have := hZ _ (by simp only [DataW.weights, hu]; exact List.mem_cons_self ..)
              rw [h1]
              simp only [List.length_map] at this
              have h5 : len * 1 ≤ (elems.length + rest.length) * P.bytesOf e := Nat.mul_le_mul (by omega) (by have := hc.2.2; omega)
              omega
        · cases h
      · cases h
    · cases h

/-- a value's outer form -/
theorem argFs_agg {rec : TypeId → Option Ty} : ∀ {fs : List Field} {off : Nat} {T : Ty}, argFs rec P fs off = some T → T.agg = true
  | [], off, T, h => by simp only [argFs, Option.some.injEq] at h; subst h; rfl
  | f :: fs, off, T, h => by
    simp only [argFs] at h
    split at h
    · split at h
      · split at h
        · simp only [Option.some.injEq] at h; subst h; rfl
        · cases h
      · cases h
    · cases h

theorem arg_form {r : Reach} {b0 n : Nat} {t : TypeId} {T : Ty} {v : Value} (h : argTy P n t = some T) (hv : Value.okWide P w r b0 t v) : if T.agg then ∃ cs : Array Value, v = .agg cs else v.cells = #[v] := by
  cases n with
  | zero => simp [argTy] at h
  | succ n =>
    simp only [argTy] at h
    split at h
    · rename_i hu
      cases h
      obtain ⟨b, rfl⟩ := okWide_bool hu hv
      rfl
    · rename_i k hu
      cases h
      obtain ⟨b, rfl⟩ := okWide_int hu hv
      rfl
    · rename_i hu
      cases h
      obtain ⟨b, rfl⟩ := okWide_string hu hv
      rfl
    · rename_i k e hu
      unfold Value.okWide at hv
      rw [hu] at hv
      obtain ⟨cs, rfl, _⟩ := hv
      split at h
      · split at h
        · cases h; exact ⟨cs, rfl⟩
        · cases h
      · cases h
    · rename_i fs hu
      unfold Value.okWide at hv
      rw [hu] at hv
      obtain ⟨cs, rfl, _⟩ := hv
      split at h
      · rename_i A hA
        split at h
        · cases h; rw [if_pos (argFs_agg hA)]; exact ⟨cs, rfl⟩
        · cases h
      · cases h
    · rename_i e hu
      split at h
      · split at h
        · cases h
          have hns : ∀ cs, v ≠ .agg cs := by
            rintro cs rfl
            unfold Value.okWide Cell.okWide Cell.ok at hv
            rw [hu] at hv
            exact hv
          cases v <;> first | rfl | (exact absurd rfl (hns _))
        · cases h
      · cases h
    · cases h

theorem arg_open {g : G} (hg : ∀ b o, w.heap[b]? = some o → g.fr b = some o) {r : Reach} {b0 n : Nat} {t : TypeId} {T : Ty} {v : Value} {d : DataW H} {p : List MemPlace} (h : argTy P n t = some T) (hv : Value.okWide P w r b0 t v)
    (hd : DataW.Trod enc P w base spare held t v d p) : ∃ x, VRep g (.v T x) v ∧ T.wf x ∧ ((∀ n ∈ d.weights P t, n ≤ reachBytes) → T.sz x) := by
  obtain ⟨m, hd⟩ := hd
  obtain ⟨x, h1, h2⟩ := arg_rep (g := g) hg n h hd
  refine ⟨x, (VRep_v (Rep_ne h1)).2 ?_, h2⟩
  have hf := arg_form h hv
  unfold TRep
  split at hf
  · obtain ⟨cs, rfl⟩ := hf
    rw [if_pos (by assumption)]
    exact ⟨cs, rfl, h1⟩
  · rw [if_neg (by assumption)]
    rw [hf] at h1
    exact h1

def HL.sz : (As : List Ty) → HL As → Prop
  | [], _ => True
  | A :: As, xs => A.sz xs.1 ∧ HL.sz As xs.2

def HL.wf : (As : List Ty) → HL As → Prop
  | [], _ => True
  | A :: As, xs => A.wf xs.1 ∧ HL.wf As xs.2

def argTys (P : Program) (n : Nat) : List TypeId → Option (List Ty)
  | [] => some []
  | t :: ts => match argTy P n t with
    | some T => match argTys P n ts with
      | some Ts => some (T :: Ts)
      | none => none
    | none => none

theorem args_open {g : G} (hg : ∀ b o, w.heap[b]? = some o → g.fr b = some o) {r : Reach} {b0 n : Nat} : ∀ {ts : List TypeId} {As : List Ty} {vs : List Value} {ds : List (DataW H)} {ps : List MemPlace}, argTys P n ts = some As →
    (∀ (j : Nat) (t : TypeId) (v : Value), ts[j]? = some t → vs[j]? = some v → Value.okWide P w r b0 t v) → DataW.TrodAll enc P w base spare held ts vs ds ps → ∃ xs : HL As, argsRep g (mkArgs As xs) vs ∧ HL.wf As xs ∧ ((∀ n ∈ DataW.weightsEach P ts ds, n ≤ reachBytes) → HL.sz As xs)
  | [], As, vs, ds, ps, h, hv, hd => by
    simp only [argTys, Option.some.injEq] at h
    subst h
    obtain ⟨rfl, _, _⟩ := trodAll_nil hd
    exact ⟨(), rfl, trivial, fun _ => trivial⟩
  | t :: ts, As, vs, ds, ps, h, hv, hd => by
    simp only [argTys] at h
    split at h
    · rename_i T hT
      split at h
      · rename_i Ts hTs
        simp only [Option.some.injEq] at h
        subst h
        obtain ⟨v, vs', d, ds', p, q, rfl, rfl, rfl, h1, h2⟩ := trodAll_cons hd
        obtain ⟨x, h3, h4, h4z⟩ := arg_open (g := g) hg hT (hv 0 t v rfl rfl) h1
        obtain ⟨xs, h5, h6, h6z⟩ := args_open (g := g) hg hTs (fun j t v h h' => hv (j + 1) t v (by simpa using h) (by simpa using h')) h2
        exact ⟨(x, xs), ⟨v, vs', rfl, h3, h5⟩, ⟨h4, h6⟩, fun hZ => ⟨h4z fun n hn => hZ n (by simp only [DataW.weightsEach, List.mem_append]; exact .inl hn), h6z fun n hn => hZ n (by simp only [DataW.weightsEach, List.mem_append]; exact .inr hn)⟩⟩
      · cases h
    · cases h

/-! the row -/

/-- memory as the statement finds it: what is there, is there for ever -/
def G.start (w : World) : G := ⟨fun b => w.heap[b]?, fun _ => none, fun _ => none, fun _ => 0, fun _ => .free, (w.os, w.output, w.tape)⟩

theorem start_inv (w : World) : HInv (G.start w) [] w where
  sh _ := rfl
  fr _ _ h := h
  gr _ _ h := by cases h
  ent _ := trivial
  own e b h := by simp [getE_nil, Entry.live] at h
  sep _ _ _ _ h := by cases h
  dis e e' b h := by simp [getE_nil, Entry.live] at h
  ext := rfl

theorem start_below {w w' : World} {g : G} {H : Heap} (hle : (G.start w).le g) (hI : HInv g H w') : Below w.heap.size w w' := by
  have he := hI.ext.trans hle.ext
  simp only [G.start, Prod.mk.injEq] at he
  have hb : ∀ k, k < w.heap.size → w'.heap[k]? = w.heap[k]? := by
    intro k hk
    have : w.heap[k]? = some (w.heap[k]'hk) := Array.getElem?_eq_getElem hk
    rw [this]
    exact hI.fr _ _ (hle.fr _ _ this)
  refine ⟨he.1, he.2.2, he.2.1, ?_, hb⟩
  rcases Nat.lt_or_ge w'.heap.size w.heap.size with hlt | hge
  · have := hb w'.heap.size hlt
    rw [Array.getElem?_eq_none (Nat.le_refl _), Array.getElem?_eq_getElem hlt] at this
    cases this
  · exact hge

/-- the row's end, where the call turned nothing that was there -/
theorem post_of_below {f : Func} {s : ChangeSpec} {apart fresh handsOn again : Bool} {W W' : World} {args : Array Value} {v : Value} {ds gs : List (DataW H)} {before pa : List MemPlace}
    (hW : DataW.Whole enc P f.params.toList s.vars apart W args.toList ds gs before)
    (hres : ∀ (b : Nat) (sp : Nat → Bool) (hd : Bool), DataW.TrodAll enc P W' b sp hd f.resultTypes.toList (v.resultList f.resultTypes.size) (s.fn H (ds ++ gs)).results [])
    (hargs : ∀ sp : Nat → Bool, (∀ p ∈ before, sp p.block = true) → DataW.TrodAll enc P W' 0 sp true f.params.toList args.toList (s.fn H (ds ++ gs)).args pa)
    (hvars : s.vars = [] ∧ (s.fn H (ds ++ gs)).vars = [])
    (hps : before = pa) (hb : Below W.heap.size W W')
    (hok : ∀ (j : Nat) (t : TypeId) (r : Value), f.resultTypes[j]? = some t → (v.resultList f.resultTypes.size)[j]? = some r → Value.okWide P W' .any 0 t r) :
    s.post enc P f apart fresh handsOn again W args v W' := by
  have hold : ∀ p ∈ before, (fun b => decide (b < W.heap.size)) p.block = true := fun p hp => by simpa using hW.lt p hp
  have hv : ∀ sp : Nat → Bool, DataW.TrodVars enc P W' sp s.vars (s.fn H (ds ++ gs)).vars [] := fun sp => by rw [hvars.1, hvars.2]; rfl
  refine ⟨ds, gs, before, [], pa, [], hW, hres _ _ _, hargs _ hold, hv _, World.keptBut_mono (fun p hp => ⟨hp, ?_⟩) (hb.frame (· ∈ before)), fun _ => ?_⟩
  · rw [hps] at hp
    exact Or.inr (Or.inl hp)
  · obtain ⟨_, _, _, _, _, hz, hn⟩ := id hW
    refine ⟨hok, _, _, ([] ++ pa) ++ [], ⟨[] ++ pa, [], trodAll_append (hargs _ (fun _ _ => rfl)) (hres _ _ _), hv _, rfl, ?_, ?_⟩, ?_⟩
    · intro b off hp
      have hp' : MemPlace.cell b off ∈ before := by rw [hps]; simpa using hp
      rw [hb.frozen (p := ⟨b, off, none⟩) (hW.lt _ hp')]
      exact hz b off hp'
    · intro ha
      have := hn ha
      rw [hps] at this
      simpa using this
    · intro p hp _
      rw [hps]
      simpa using hp

end
end Vse

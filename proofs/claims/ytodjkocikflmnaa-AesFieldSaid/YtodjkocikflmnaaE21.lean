/- What a statement's arguments are to the symbolic machine, and how its answer becomes the row. Nothing here is about one program. -/
import Derived.Test.YtodjkocikflmnaaE20
import Derived.ProofKit
import Derived.Carry
import Derived.OpenShut
import Derived.ChangeMaps5
set_option linter.unusedVariables false
namespace Vse
open Go Go.ChangeShapes Go.WideShapes Go.ChangeAt Go.RowKit

/-! a type's values, as they come in -/

def argFs (rec : TypeId → Option Ty) (P : Program) : List Field → Nat → Option Ty
  | [], _ => some .unit
  | f :: fs, off => match rec f.type with
    | some A => if f.offset = off ∧ P.cellsOf f.type = A.nc then match argFs rec P fs (off + A.nc) with
      | some B => some (.prod A B)
      | none => none else none
    | none => none

def argTy (P : Program) : Nat → TypeId → Option Ty
  | 0, _ => none
  | n + 1, t => match P.underlying t with
    | some .bool => some .bool
    | some (.int k) => some (.int k)
    | some .string => some .str
    | some (.array m e) => match argTy P n e with
      | some A => if P.cellsOf e = A.nc ∧ P.cellsOf t = m * A.nc then some (.arr m A) else none
      | none => none
    | some (.struct fs) => match argFs (argTy P n) P fs.toList 0 with
      | some A => if P.cellsOf t = A.nc then some A else none
      | none => none
    | _ => none

/-- a value within its type -/
def Ty.wf : (T : Ty) → T.den → Prop
  | .int k, n => (Lit.int k n).wf = true
  | .str, s => s.size ≤ maxLen
  | .prod a b, x => a.wf x.1 ∧ b.wf x.2
  | .arr n a, l => l.length = n ∧ ∀ x ∈ l, a.wf x
  | _, _ => True

section
variable {H : Type} {enc : TypeId × Value → H} {P : Program} {w : World} {base : Nat} {spare : Nat → Bool} {held : Bool}

theorem fs_rep {g : G} {rec : TypeId → Option Ty} {m : Nat} {cs : List Value}
    (ih : ∀ {t : TypeId} {T : Ty} {c : List Value} {y : DataW H × List MemPlace}, rec t = some T → DataW.trod enc P w base spare held m t c = some y → ∃ x, Rep g T x c ∧ T.wf x) :
    ∀ {fs : List Field} {off : Nat} {T : Ty}, argFs rec P fs off = some T → (∀ f ∈ fs, ∃ y, DataW.trod enc P w base spare held m f.type ((cs.drop f.offset).take (P.cellsOf f.type)) = some y) →
      ∃ x, Rep g T x ((cs.drop off).take T.nc) ∧ T.wf x
  | [], off, T, h, _ => by
    simp only [argFs, Option.some.injEq] at h
    subst h
    exact ⟨(), by simp [Ty.nc, Ty.sk, Sk.nc, Rep], trivial⟩
  | f :: fs, off, T, h, hf => by
    simp only [argFs] at h
    split at h
    · rename_i A hA
      split at h
      · rename_i hc
        split at h
        · rename_i B hB
          simp only [Option.some.injEq] at h
          subst h
          obtain ⟨y, hy⟩ := hf f (by simp)
          obtain ⟨x1, h1, h2⟩ := ih hA hy
          obtain ⟨x2, h3, h4⟩ := fs_rep ih hB (fun f' hf' => hf f' (by simp [hf']))
          refine ⟨(x1, x2), ⟨_, _, ?_, h1, h3⟩, h2, h4⟩
          rw [hc.1, hc.2]
          show (cs.drop off).take (A.nc + B.nc) = _
          rw [List.take_add, List.drop_drop]
        · cases h
      · cases h
    · cases h

theorem arr_rep {g : G} {A : Ty} {m : Nat} {e : TypeId} (cs : List Value)
    (ih : ∀ {c : List Value} {y : DataW H × List MemPlace}, DataW.trod enc P w base spare held m e c = some y → ∃ x, Rep g A x c ∧ A.wf x) :
    ∀ (n off : Nat), (∀ i, off ≤ i → i < off + n → ∃ y, DataW.trod enc P w base spare held m e ((cs.drop (i * A.nc)).take A.nc) = some y) →
      ∃ l : List A.den, l.length = n ∧ repL (Rep g A) l ((cs.drop (off * A.nc)).take (n * A.nc)) ∧ ∀ x ∈ l, A.wf x
  | 0, off, _ => ⟨[], rfl, by simp [repL], by simp⟩
  | n + 1, off, h => by
    obtain ⟨y, hy⟩ := h off (Nat.le_refl _) (by omega)
    obtain ⟨x, h1, h2⟩ := ih hy
    obtain ⟨l, h3, h4, h5⟩ := arr_rep cs ih n (off + 1) (fun i hi hi' => h i (by omega) (by omega))
    refine ⟨x :: l, by simp [h3], ⟨_, _, ?_, h1, h4⟩, ?_⟩
    · rw [show (n + 1) * A.nc = A.nc + n * A.nc by rw [Nat.add_mul]; omega, List.take_add, List.drop_drop]
      rw [show off * A.nc + A.nc = (off + 1) * A.nc by rw [Nat.add_mul]; omega]
    · intro z hz
      rcases List.mem_cons.1 hz with rfl | hz
      · exact h2
      · exact h5 z hz

theorem arg_rep {g : G} : ∀ (n : Nat) {m : Nat} {t : TypeId} {T : Ty} {cs : List Value} {y : DataW H × List MemPlace},
    argTy P n t = some T → DataW.trod enc P w base spare held m t cs = some y → ∃ x, Rep g T x cs ∧ T.wf x
  | 0, m, t, T, cs, y, h, _ => by simp [argTy] at h
  | n + 1, m, t, T, cs, y, h, hd => by
    have ih := fun {m : Nat} {t : TypeId} {T : Ty} {cs : List Value} {y : DataW H × List MemPlace} => @arg_rep g n m t T cs y
    simp only [argTy] at h
    split at h
    · rename_i hu
      cases h
      obtain ⟨b, rfl, _⟩ := DataW.trod_bool hu hd
      exact ⟨b, by simp [Rep], trivial⟩
    · rename_i k hu
      cases h
      obtain ⟨z, rfl, _, hw⟩ := DataW.trod_int hu hd
      exact ⟨z, ⟨rfl, hw⟩, hw⟩
    · rename_i hu
      cases h
      obtain ⟨z, rfl, _, hw⟩ := DataW.trod_string hu hd
      exact ⟨z, by simp [Rep], hw⟩
    · rename_i k e hu
      split at h
      · rename_i A hA
        split at h
        · rename_i hc
          cases h
          obtain ⟨xs, m', rfl, _, hl, hn, hx⟩ := DataW.trod_array hu hd
          obtain ⟨l, h1, h2, h3⟩ := arr_rep (g := g) (A := A) cs (fun hy => ih hA hy) k 0 (fun i _ hi => ⟨xs[i]'(by omega), by rw [← hc.1, hx i (by omega), List.getElem?_eq_getElem]⟩)
          refine ⟨l, ⟨h1, ?_⟩, h1, h3⟩
          simp only [Nat.zero_mul, List.drop_zero] at h2
          rw [List.take_of_length_le (by rw [hl, hc.2]; exact Nat.le_refl _)] at h2
          exact h2
        · cases h
      · cases h
    · rename_i fs hu
      split at h
      · rename_i A hA
        split at h
        · rename_i hc
          cases h
          obtain ⟨xs, m', rfl, _, hl, hn, hx⟩ := DataW.trod_struct hu hd
          obtain ⟨x, h1, h2⟩ := fs_rep (g := g) (cs := cs) (fun hT hy => ih hT hy) hA (fun f hf => by
            obtain ⟨i, hi, rfl⟩ := List.getElem_of_mem hf
            have hi' : i < fs.size := by simpa using hi
            refine ⟨xs[i]'(by omega), ?_⟩
            exact (hx i _ (by simp [hi'])).trans (List.getElem?_eq_getElem _))
          refine ⟨x, ?_, h2⟩
          rw [List.drop_zero, List.take_of_length_le (by rw [hl, hc]; exact Nat.le_refl _)] at h1
          exact h1
        · cases h
      · cases h
    · cases h

/-- a value's outer form -/
theorem argFs_agg {rec : TypeId → Option Ty} : ∀ {fs : List Field} {off : Nat} {T : Ty}, argFs rec P fs off = some T → T.agg = true
  | [], off, T, h => by simp only [argFs, Option.some.injEq] at h; subst h; rfl
  | f :: fs, off, T, h => by
    simp only [argFs] at h
    split at h
    · split at h
      · split at h
        · simp only [Option.some.injEq] at h; subst h; rfl
        · cases h
      · cases h
    · cases h

theorem arg_form {r : Reach} {b0 n : Nat} {t : TypeId} {T : Ty} {v : Value} (h : argTy P n t = some T) (hv : Value.okWide P w r b0 t v) : if T.agg then ∃ cs : Array Value, v = .agg cs else v.cells = #[v] := by
  cases n with
  | zero => simp [argTy] at h
  | succ n =>
    simp only [argTy] at h
    split at h
    · rename_i hu
      cases h
      obtain ⟨b, rfl⟩ := okWide_bool hu hv
      rfl
    · rename_i k hu
      cases h
      obtain ⟨b, rfl⟩ := okWide_int hu hv
      rfl
    · rename_i hu
      cases h
      obtain ⟨b, rfl⟩ := okWide_string hu hv
      rfl
    · rename_i k e hu
      unfold Value.okWide at hv
      rw [hu] at hv
      obtain ⟨cs, rfl, _⟩ := hv
      split at h
      · split at h
        · cases h; exact ⟨cs, rfl⟩
        · cases h
      · cases h
    · rename_i fs hu
      unfold Value.okWide at hv
      rw [hu] at hv
      obtain ⟨cs, rfl, _⟩ := hv
      split at h
      · rename_i A hA
        split at h
        · cases h; rw [if_pos (argFs_agg hA)]; exact ⟨cs, rfl⟩
        · cases h
      · cases h
    · cases h

theorem arg_open {g : G} {r : Reach} {b0 n : Nat} {t : TypeId} {T : Ty} {v : Value} {d : DataW H} {p : List MemPlace} (h : argTy P n t = some T) (hv : Value.okWide P w r b0 t v)
    (hd : DataW.Trod enc P w base spare held t v d p) : ∃ x, VRep g (.v T x) v ∧ T.wf x := by
  obtain ⟨m, hd⟩ := hd
  obtain ⟨x, h1, h2⟩ := arg_rep (g := g) n h hd
  refine ⟨x, (VRep_v (Rep_ne h1)).2 ?_, h2⟩
  have hf := arg_form h hv
  unfold TRep
  split at hf
  · obtain ⟨cs, rfl⟩ := hf
    rw [if_pos (by assumption)]
    exact ⟨cs, rfl, h1⟩
  · rw [if_neg (by assumption)]
    rw [hf] at h1
    exact h1

def HL.wf : (As : List Ty) → HL As → Prop
  | [], _ => True
  | A :: As, xs => A.wf xs.1 ∧ HL.wf As xs.2

def argTys (P : Program) (n : Nat) : List TypeId → Option (List Ty)
  | [] => some []
  | t :: ts => match argTy P n t with
    | some T => match argTys P n ts with
      | some Ts => some (T :: Ts)
      | none => none
    | none => none

theorem args_open {g : G} {r : Reach} {b0 n : Nat} : ∀ {ts : List TypeId} {As : List Ty} {vs : List Value} {ds : List (DataW H)} {ps : List MemPlace}, argTys P n ts = some As →
    (∀ (j : Nat) (t : TypeId) (v : Value), ts[j]? = some t → vs[j]? = some v → Value.okWide P w r b0 t v) → DataW.TrodAll enc P w base spare held ts vs ds ps → ∃ xs : HL As, argsRep g (mkArgs As xs) vs ∧ HL.wf As xs
  | [], As, vs, ds, ps, h, hv, hd => by
    simp only [argTys, Option.some.injEq] at h
    subst h
    obtain ⟨rfl, _, _⟩ := trodAll_nil hd
    exact ⟨(), rfl, trivial⟩
  | t :: ts, As, vs, ds, ps, h, hv, hd => by
    simp only [argTys] at h
    split at h
    · rename_i T hT
      split at h
      · rename_i Ts hTs
        simp only [Option.some.injEq] at h
        subst h
        obtain ⟨v, vs', d, ds', p, q, rfl, rfl, rfl, h1, h2⟩ := trodAll_cons hd
        obtain ⟨x, h3, h4⟩ := arg_open (g := g) hT (hv 0 t v rfl rfl) h1
        obtain ⟨xs, h5, h6⟩ := args_open (g := g) hTs (fun j t v h h' => hv (j + 1) t v (by simpa using h) (by simpa using h')) h2
        exact ⟨(x, xs), ⟨v, vs', rfl, h3, h5⟩, h4, h6⟩
      · cases h
    · cases h

/-! the row -/

/-- memory as the statement finds it: what is there, is there for ever -/
def G.start (w : World) : G := ⟨fun b => w.heap[b]?, fun _ => none, fun _ => none, fun _ => 0, fun _ => .free, (w.os, w.output, w.tape)⟩

theorem start_inv (w : World) : HInv (G.start w) [] w where
  sh _ := rfl
  fr _ _ h := h
  gr _ _ h := by cases h
  ent _ := trivial
  own e b h := by simp [getE_nil, Entry.live] at h
  sep _ _ _ _ h := by cases h
  dis e e' b h := by simp [getE_nil, Entry.live] at h
  ext := rfl

theorem start_below {w w' : World} {g : G} {H : Heap} (hle : (G.start w).le g) (hI : HInv g H w') : Below w.heap.size w w' := by
  have he := hI.ext.trans hle.ext
  simp only [G.start, Prod.mk.injEq] at he
  have hb : ∀ k, k < w.heap.size → w'.heap[k]? = w.heap[k]? := by
    intro k hk
    have : w.heap[k]? = some (w.heap[k]'hk) := Array.getElem?_eq_getElem hk
    rw [this]
    exact hI.fr _ _ (hle.fr _ _ this)
  refine ⟨he.1, he.2.2, he.2.1, ?_, hb⟩
  rcases Nat.lt_or_ge w'.heap.size w.heap.size with hlt | hge
  · have := hb w'.heap.size hlt
    rw [Array.getElem?_eq_none (Nat.le_refl _), Array.getElem?_eq_getElem hlt] at this
    cases this
  · exact hge

/-- the row's end, where the call turned nothing that was there -/
theorem post_of_below {f : Func} {s : ChangeSpec} {apart fresh handsOn again : Bool} {W W' : World} {args : Array Value} {v : Value} {ds gs : List (DataW H)} {before pa : List MemPlace}
    (hW : DataW.Whole enc P f.params.toList s.vars apart W args.toList ds gs before)
    (hres : ∀ (b : Nat) (sp : Nat → Bool) (hd : Bool), DataW.TrodAll enc P W' b sp hd f.resultTypes.toList (v.resultList f.resultTypes.size) (s.fn H (ds ++ gs)).results [])
    (hargs : ∀ sp : Nat → Bool, (∀ p ∈ before, sp p.block = true) → DataW.TrodAll enc P W' 0 sp true f.params.toList args.toList (s.fn H (ds ++ gs)).args pa)
    (hvars : s.vars = [] ∧ (s.fn H (ds ++ gs)).vars = [])
    (hps : before = pa) (hb : Below W.heap.size W W')
    (hok : ∀ (j : Nat) (t : TypeId) (r : Value), f.resultTypes[j]? = some t → (v.resultList f.resultTypes.size)[j]? = some r → Value.okWide P W' .any 0 t r) :
    s.post enc P f apart fresh handsOn again W args v W' := by
  have hold : ∀ p ∈ before, (fun b => decide (b < W.heap.size)) p.block = true := fun p hp => by simpa using hW.lt p hp
  have hv : ∀ sp : Nat → Bool, DataW.TrodVars enc P W' sp s.vars (s.fn H (ds ++ gs)).vars [] := fun sp => by rw [hvars.1, hvars.2]; rfl
  refine ⟨ds, gs, before, [], pa, [], hW, hres _ _ _, hargs _ hold, hv _, World.keptBut_mono (fun p hp => ⟨hp, ?_⟩) (hb.frame (· ∈ before)), fun _ => ?_⟩
  · rw [hps] at hp
    exact Or.inr (Or.inl hp)
  · obtain ⟨_, _, _, _, _, hz, hn⟩ := id hW
    refine ⟨hok, _, _, ([] ++ pa) ++ [], ⟨[] ++ pa, [], trodAll_append (hargs _ (fun _ _ => rfl)) (hres _ _ _), hv _, rfl, ?_, ?_⟩, ?_⟩
    · intro b off hp
      have hp' : MemPlace.cell b off ∈ before := by rw [hps]; simpa using hp
      rw [hb.frozen (p := ⟨b, off, none⟩) (hW.lt _ hp')]
      exact hz b off hp'
    · intro ha
      have := hn ha
      rw [hps] at this
      simpa using this
    · intro p hp _
      rw [hps]
      simpa using hp

end
end Vse

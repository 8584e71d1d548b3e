/- What a function makes of plain values, as one value: the tree of choices folded. Nothing here is about one program. -/
import Derived.Test.YtodjkocikflmnaaE22
set_option linter.unusedVariables false
namespace Vse
open Go Go.ChangeShapes

def dfl : (T : Ty) → T.den
  | .bool => false
  | .int _ => (0 : Int)
  | .str => ByteArray.empty
  | .prod a b => (dfl a, dfl b)
  | .arr n a => List.replicate n (dfl a)
  | .imm _ _ _ => []
  | .sv _ _ => ⟨(), 0, 0, 0⟩
  | .vp _ _ p => pd p
  | .sub _ p => ⟨pd p, 0, 0, 0⟩
  | .ptr _ p => pd p
  | .ip _ a => dfl a
  | .fn _ c => dfl c
  | .unit | .und | .nils | .vc _ _ | .nilp | .nilm | .mp _ | .nilf | .nili | .it _ | .ch _ => ()
where
  pd : (p : List PS) → PD p
    | [] => ()
    | .fld _ :: p => pd p
    | .idx :: p => (0, pd p)

def dflL : (Rs : List Ty) → HL Rs
  | [] => ()
  | R :: Rs => (dfl R, dflL Rs)

def tvs : (Rs : List Ty) → HL Rs → List TV
  | [], _ => []
  | R :: Rs, x => ⟨R, x.1⟩ :: tvs Rs x.2

/-- results: one value, or several -/
def ofHL : (Rs : List Ty) → HL Rs → AV
  | [R], x => .v R x.1
  | Rs, x => .tup (tvs Rs x)

def toTvs : (Rs : List Ty) → List TV → Option (HL Rs)
  | [], [] => some ()
  | R :: Rs, t :: ts => if h : t.T = R then match toTvs Rs ts with | some r => some (h ▸ t.x, r) | none => none else none
  | _, _ => none

def toHL : (Rs : List Ty) → AV → Option (HL Rs)
  | [R], .v T x => if h : T = R then some (h ▸ x, ()) else none
  | [_], .tup _ => none
  | Rs, .tup l => toTvs Rs l
  | _, _ => none

theorem toTvs_some : ∀ {Rs : List Ty} {l : List TV} {x : HL Rs}, toTvs Rs l = some x → l = tvs Rs x
  | [], [], x, h => rfl
  | [], _ :: _, x, h => by simp [toTvs] at h
  | R :: Rs, [], x, h => by simp [toTvs] at h
  | R :: Rs, t :: ts, x, h => by
    obtain ⟨T, y⟩ := t
    simp only [toTvs] at h
    split at h
    · rename_i hT
      subst hT
      split at h
      · rename_i r hr
        simp only [Option.some.injEq] at h
        subst h
        simp only [tvs, ← toTvs_some hr]
      · cases h
    · cases h

theorem toHL_some {Rs : List Ty} {v : AV} {x : HL Rs} (h : toHL Rs v = some x) : v = ofHL Rs x := by
  unfold toHL at h
  split at h
  · split at h
    · rename_i hT
      subst hT
      simp only [Option.some.injEq] at h
      subst h
      rfl
    · cases h
  · cases h
  · rename_i Rs' l hne
    have := toTvs_some h
    subst this
    cases Rs with
    | nil => rfl
    | cons R Rs =>
      cases Rs with
      | nil => exact (hne R rfl).elim
      | cons _ _ => rfl
  · cases h

namespace Tr
def isFail {α : Type} : Tr α → Bool
  | .fail => true
  | _ => false

theorem isFail_eq {α : Type} {t : Tr α} (h : t.isFail = true) : t = .fail := by cases t <;> simp_all [isFail]

/-- a choice between two values: one of which may be none -/
def choose {α : Type} (b t e : Bool) (x y : α) : α := match e with
  | true => x
  | false => match t with
    | true => y
    | false => match b with | true => x | false => y

/-- the tree's value: a way that fails at once is not asked -/
def fold (Rs : List Ty) : Tr (AV × Heap) → HL Rs
  | .ret r => match toHL Rs r.1 with | some x => x | none => dflL Rs
  | .fail => dflL Rs
  | .ite b t e => choose b t.isFail e.isFail (t.fold Rs) (e.fold Rs)
  | .opt o n s => match o with | none => n.fold Rs | some x => (s x).fold Rs

/-- no way fails that the choices leave open -/
def fine (Rs : List Ty) : Tr (AV × Heap) → Bool
  | .ret r => (toHL Rs r.1).isSome
  | .fail => false
  | .ite b t e => (t.fine Rs || !b) && (e.fine Rs || b)
  | .opt o n s => match o with | none => n.fine Rs | some x => (s x).fine Rs

theorem nrm_of_fine {Rs : List Ty} : ∀ {t : Tr (AV × Heap)}, t.fine Rs = true → nrm t = some (ofHL Rs (t.fold Rs))
  | .ret r, h => by
    simp only [fine, Option.isSome_iff_exists] at h
    obtain ⟨x, hx⟩ := h
    simp only [fold, hx]
    show some r.1 = _
    rw [toHL_some hx]
  | .fail, h => by simp [fine] at h
  | .ite b t e, h => by
    simp only [fine, Bool.and_eq_true, Bool.or_eq_true] at h
    cases b
    · have he : e.fine Rs = true := by simpa using h.2
      have hf : e.isFail = false := by
        rw [Bool.eq_false_iff]; intro hf; rw [isFail_eq hf] at he; cases he
      have : (Tr.ite false t e).fold Rs = e.fold Rs := by
        simp only [fold, choose, hf]; cases t.isFail <;> rfl
      rw [this]
      exact nrm_of_fine (t := e) he
    · have ht : t.fine Rs = true := by simpa using h.1
      have hf : t.isFail = false := by
        rw [Bool.eq_false_iff]; intro hf; rw [isFail_eq hf] at ht; cases ht
      have : (Tr.ite true t e).fold Rs = t.fold Rs := by
        simp only [fold, choose, hf]; cases e.isFail <;> rfl
      rw [this]
      exact nrm_of_fine (t := t) ht
  | .opt o n s, h => by
    cases o with
    | none => exact nrm_of_fine (t := n) h
    | some x => exact nrm_of_fine (t := s x) h
/-- ..of one result -/
def fold1 (R : Ty) : Tr (AV × Heap) → R.den
  | .ret r => match toHL [R] r.1 with | some x => x.1 | none => dfl R
  | .fail => dfl R
  | .ite b t e => choose b t.isFail e.isFail (t.fold1 R) (e.fold1 R)
  | .opt o n s => match o with | none => n.fold1 R | some x => (s x).fold1 R

theorem fold_one {R : Ty} : ∀ {t : Tr (AV × Heap)}, t.fold [R] = (t.fold1 R, ())
  | .ret r => by
    simp only [fold, fold1]
    cases toHL [R] r.1 with
    | none => rfl
    | some x => rfl
  | .fail => rfl
  | .ite b t e => by
    have h1 := fold_one (t := e) (R := R)
    have h2 := fold_one (t := t) (R := R)
    simp only [fold, fold1, choose, h1, h2]
    cases e.isFail <;> cases t.isFail <;> cases b <;> rfl
  | .opt o n s => by
    cases o with
    | none => exact fold_one (t := n)
    | some x => exact fold_one (t := s x)
end Tr

def stillL (Rs : List Ty) : Bool := Rs.all fun R => R.still true

theorem ofHL_still {Rs : List Ty} (h : stillL Rs = true) (x : HL Rs) : (ofHL Rs x).still true = true := by
  have ht : ∀ {Rs : List Ty} (x : HL Rs), (Rs.all fun R => R.still true) = true → ((tvs Rs x).all fun t => t.T.still true) = true := by
    intro Rs
    induction Rs with
    | nil => intro x _; rfl
    | cons R Rs ih =>
      intro x h
      simp only [List.all_cons, Bool.and_eq_true] at h
      simp only [tvs, List.all_cons, Bool.and_eq_true]
      exact ⟨h.1, ih _ h.2⟩
  unfold ofHL
  split
  · simp only [stillL, List.all_cons, Bool.and_eq_true] at h
    exact h.1
  · exact ht _ h

/-- a function of plain values -/
def CSpec.fn (As Rs : List Ty) (f : HL As → HL Rs) : CSpec := CSpec.plain As (fun _ => true) fun xs => ofHL Rs (f xs)

/-- code without loops -/
def noLoops : Code → Bool
  | .seq a b => noLoops a && noLoops b
  | .cond _ a b => noLoops a && noLoops b
  | .block _ c => noLoops c
  | .loop _ => false
  | _ => true

def noLoopsF (fn : Func) : Bool := match fn.body with | some c => noLoops c | none => false

theorem loopsOK_of {P : Program} {L : Loops} : ∀ {c : Code}, noLoops c = true → LoopsOK P L c := by
  intro c
  induction c with
  | seq a b iha ihb => intro h; simp only [noLoops, Bool.and_eq_true] at h; exact ⟨iha h.1, ihb h.2⟩
  | cond o a b iha ihb => intro h; simp only [noLoops, Bool.and_eq_true] at h; exact ⟨iha h.1, ihb h.2⟩
  | block i a iha => intro h; exact iha h
  | loop a _ => intro h; cases h
  | _ => intro _; trivial

theorem noLoopsF_some {P : Program} {L : Loops} {fn : Func} (h : noLoopsF fn = true) : ∃ c, fn.body = some c ∧ LoopsOK P L c := by
  unfold noLoopsF at h
  split at h
  · exact ⟨_, by assumption, loopsOK_of h⟩
  · cases h

def L0 : Loops := fun _ _ => .fail

end Vse

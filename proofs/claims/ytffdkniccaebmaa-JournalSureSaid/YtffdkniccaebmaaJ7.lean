/- Records that are kept (layer 14, journal): what Open makes. -/
import Derived.Test.YtffdkniccaebmaaJ6
set_option linter.unusedVariables false
set_option linter.unusedSimpArgs false
set_option maxRecDepth 100000
namespace Go.Proofs.Ytffdkniccaebmaa.Jnl
open Go Vse Go.Proofs Gen
open Sto (stT D R1 R0 rdyF appF syncF repF appP)
open Fld (lenN or_bytes Bytes bytes_get bytes_drop)

def badF (b : List Int) : Bool := (scan b.length b).isNone
def reF (b : List Int) : List (List Int) := match scan b.length b with
  | some q => q.1
  | none => []
def tlF (b : List Int) : List Int := match scan b.length b with
  | some q => q.2
  | none => []
theorem scan_le : ∀ (n : Nat) (r : List Int) (q : List (List Int) × List Int), scan n r = some q → q.2.length ≤ r.length
  | 0, r, q, h => by
    have h : some (([] : List (List Int)), r) = some q := h
    cases h; exact Nat.le_refl _
  | n + 1, r, q, h => by
    rw [scan] at h
    split at h
    · split at h
      · cases h
      · split at h
        · cases h; exact Nat.le_refl _
        · split at h
          · split at h
            · rename_i q' hq
              cases h
              have := scan_le n _ q' hq
              rw [List.length_drop] at this
              exact Nat.le_trans this (Nat.sub_le _ _)
            · cases h
          · cases h
    · cases h; exact Nat.le_refl _
theorem tl_le (b : List Int) : (tlF b).length ≤ b.length := by
  unfold tlF
  cases h : scan b.length b with
  | none => exact Nat.zero_le _
  | some q => exact scan_le _ _ _ h
abbrev cOpS : List (Nat × CSpec) := cOp okLd laidF sameF okC (fun d => Vse.room (Sto.D.b d).length 1) (fun x _ => Vse.room x.length 1) (repF rdyF)
theorem cOp_sound : CtxSound Try.prog (ctx cOpS) ∧ CtxLocal (ctx cOpS) := ctx_sound ⟨okLa, okEqL, okClS, Sto.ok20, Sto.ok51, trivial⟩
def byB (b : List Int) : Bool := b.all fun x => decide (0 ≤ x ∧ x < 256)
theorem by_Bytes {b : List Int} (h : byB b = true) : Bytes b := fun x hx => of_decide_eq_true (List.all_eq_true.1 h x hx)
theorem Bytes_by {b : List Int} (h : Bytes b) : byB b = true := List.all_eq_true.2 fun x hx => decide_eq_true (h x hx)
def cOpF (b : List Int) (h : Hop) : Bool := decide (b.length ≤ 2000000) && (byB b && decide (h.2.2.2.1.length = 0))
theorem lOp : LoopOK Try.prog (LOp cOpF badF reF tlF) bOp :=
  rloop_ok (L := LOp cOpF badF reF tlF) (L' := L0) cOp_sound (loopsOK_of (by kernel_rfl)) SOp (F := FOp cOpF badF reF tlF) (i := 6) (by kernel_rfl) (fun _ => rfl) fun xs hs q hq => by
    obtain ⟨u1, u2, all, r, u3⟩ := xs
    obtain ⟨a, b, c, o, u4⟩ := hs
    obtain ⟨h1, h2⟩ := Tr.chk_some hq
    simp only [cOpF, Bool.and_eq_true, decide_eq_true_eq] at h1
    obtain ⟨hl, hb, e1⟩ := h1
    have hl : List.length (α := Int) r ≤ 2000000 := hl
    have hb : Bytes r := by_Bytes hb
    have e1 : o = ([] : List (List Int)) := List.eq_nil_of_length_eq_zero e1
    subst e1
    refine ⟨_, (mOpF all (List.length (α := Int) r) r (a, b, c, [], ()) hb (Nat.le_refl _) (by omega) (by show 0 + List.length (α := Int) r ≤ _; omega)).trans ?_⟩
    rcases Tr.ite_some h2 with ⟨hx, h3⟩ | ⟨hx, h3⟩
    · have hx : badF r = true := hx
      unfold badF at hx
      rw [Option.isNone_iff_eq_none.1 hx]
      exact congrArg some (Tr.ret_some h3)
    · have hx : badF r = false := hx
      unfold badF at hx
      have h3 := Tr.ret_some h3
      cases hs : scan (List.length (α := Int) r) r with
      | none => rw [hs] at hx; cases hx
      | some p =>
        rw [← h3]
        show some (exOp all p.2 (a, b, c, [] ++ p.1, ())) = some (exOp all (tlF r) (a, b, c, reF r, ()))
        rw [show tlF r = p.2 by unfold tlF; rw [hs], show reF r = p.1 by unfold reF; rw [hs]]
        rfl

/-- what is kept of bytes -/
def cutB (b : List Int) : List Int := b.take (b.length - (tlF b).length)
theorem cut_eq {b : List Int} (h : b.length ≤ 2000000) : w ((b.length : Int) - ((tlF b).length : Int)) = ((b.length - (tlF b).length : Nat) : Int) ∧ cutOp tlF b = cutB b := by
  have ht := tl_le b
  have e : w ((b.length : Int) - ((tlF b).length : Int)) = ((b.length - (tlF b).length : Nat) : Int) := by rw [w_id (by omega) (by omega)]; omega
  refine ⟨e, ?_⟩
  unfold cutOp cutB
  rw [e, Int.toNat_natCast, List.drop_zero]
def opP (d : D) : Bool := decide (d.b.length ≤ 2000000)
/-- does it open? -/
def opOk (d : D) : Bool := !badF d.b && (decide ((tlF d.b).length = 0) || decide ((repF rdyF (cutB d.b) d).1.1 = 0))
def opF (d : D) : (Unit × Int × Unit) × Hop := (((), 0, ()), if (tlF d.b).length = 0 then hop d false (reF d.b) else hop (repF rdyF (cutB d.b) d).2 false (reF d.b))
def opE (d : D) : (Unit × Int × Unit) × D := if badF d.b = true then (((), 9, ()), d) else (((), (repF rdyF (cutB d.b) d).1.1, ()), (repF rdyF (cutB d.b) d).2)
theorem cO_eq {d : D} (hl : d.b.length ≤ 2000000) (hb : Bytes d.b) : cOpF d.b (hop d false []) = true := by
  unfold cOpF
  rw [decide_eq_true hl, Bytes_by hb]
  rfl
theorem TOk_eq (d : D) (hp : opP d = true) (hb : Bytes d.b) (ho : opOk d = true) : (TOk cOpF badF reF tlF (fun d => Vse.room (Sto.D.b d).length 1) (fun x _ => Vse.room x.length 1) (repF rdyF) d).eval = some (opF d) := by
  have hl : d.b.length ≤ 2000000 := of_decide_eq_true hp
  obtain ⟨c1, c2⟩ := cut_eq hl
  have ht := tl_le d.b
  unfold opOk at ho
  rw [Bool.and_eq_true, Bool.not_eq_true', Bool.or_eq_true, decide_eq_true_eq, decide_eq_true_eq] at ho
  unfold TOk opF
  dsimp only
  rw [chk_eval (by simp only [Vse.room, decide_eq_true_eq]; omega), chk_eval (cO_eq hl hb), ite_f ho.1, c1, c2]
  by_cases h0 : (tlF d.b).length = 0
  · rw [ite_f (decide_eq_false (by omega)), if_pos h0]; rfl
  · rw [ite_t (decide_eq_true (by omega)), if_neg h0, chk_eval (by rw [Bool.and_eq_true, decide_eq_true_eq, decide_eq_true_eq]; omega),
      chk_eval (by unfold cutB; rw [List.length_take]; simp only [Vse.room, decide_eq_true_eq]; omega)]
    rcases ho.2 with h | h
    · exact absurd h h0
    · rw [ite_f (by simp [h])]; rfl
theorem TEr_eq (d : D) (hp : opP d = true) (hb : Bytes d.b) (ho : opOk d = false) : (TEr cOpF badF reF tlF (fun d => Vse.room (Sto.D.b d).length 1) (fun x _ => Vse.room x.length 1) (repF rdyF) d).eval = some (opE d) := by
  have hl : d.b.length ≤ 2000000 := of_decide_eq_true hp
  obtain ⟨c1, c2⟩ := cut_eq hl
  have ht := tl_le d.b
  unfold opOk at ho
  unfold TEr opE
  dsimp only
  rw [chk_eval (by simp only [Vse.room, decide_eq_true_eq]; omega), chk_eval (cO_eq hl hb), c1, c2]
  cases hx : badF d.b with
  | true => rw [ite_t rfl, if_pos rfl]; rfl
  | false =>
    rw [hx, Bool.not_false, Bool.true_and, Bool.or_eq_false_iff] at ho
    have h0 := of_decide_eq_false ho.1
    have h2 := of_decide_eq_false ho.2
    rw [ite_f rfl, if_neg (by simp), ite_t (decide_eq_true (by omega)), chk_eval (by rw [Bool.and_eq_true, decide_eq_true_eq, decide_eq_true_eq]; omega),
      chk_eval (by unfold cutB; rw [List.length_take]; simp only [Vse.room, decide_eq_true_eq]; omega), ite_t (by simp [h2])]
    rfl
def sOk : CSpec := .pos nOk (fun _ d => opP d && opOk d) fun _ d => opF d
def sEr : CSpec := .pos nEr (fun _ d => opP d && !opOk d) fun _ d => opE d
def sOp : CSpec := .kin nil1 (.pos nNl (fun _ _ => true) fun _ _ => (((), 1, ()), ())) (.two (posSel nOk fun _ d => opOk d) sOk sEr)
theorem u8_ok {x : Int} (h : Ty.ok u8 x) : 0 ≤ x ∧ x < 256 := by
  have h : inK .u8 x = true := h
  have h1 : IntKind.u8.min = 0 := by decide
  have h2 : IntKind.u8.max = 255 := by decide
  simp only [inK, h1, h2, Bool.and_eq_true, decide_eq_true_eq] at h
  omega
theorem loops_Op : loopsOfS (bodyOf Try.f42) = [bOp] := by kernel_rfl
theorem lOps : ∀ b ∈ loopsOfS (bodyOf Try.f42), LoopOK Try.prog (LOp cOpF badF reF tlF) b := fun b hb => by
  rw [loops_Op, List.mem_singleton] at hb
  subst hb
  exact lOp
theorem lOps0 : ∀ b ∈ loopsOfS (bodyOf Try.f42), LoopOK Try.prog L0 b := fun b hb j hj rd g st a w x st' Q hs he hn => (Tr.fail_some he).elim
theorem okNl : CSound Try.prog 42 (.pos nNl (fun _ _ => true) fun _ _ => (((), 1, ()), ())) ∧ CLocal (.pos nNl (fun _ _ => true) fun _ _ => (((), 1, ()), ())) :=
  pos_scope (L := L0) nil_sound Try.func42 (c := bodyOf Try.f42) (by kernel_rfl) (by kernel_rfl) lOps0 fun xs hs hx hh hp => tNl
theorem okOk : CSound Try.prog 42 sOk ∧ CLocal sOk :=
  pos_scope (L := LOp cOpF badF reF tlF) cOp_sound Try.func42 (c := bodyOf Try.f42) (by kernel_rfl) (by kernel_rfl) lOps fun xs hs hx hh hp => by
    have hp : (opP hs && opOk hs) = true := hp
    rw [Bool.and_eq_true] at hp
    have hb : Bytes (Sto.D.b hs) := fun x hx => u8_ok (hh.2.1 x hx)
    exact (tOk okLd laidF sameF okC cOpF badF reF tlF _ _ (repF rdyF) hs).trans (TOk_eq hs hp.1 hb hp.2)
theorem okEr : CSound Try.prog 42 sEr ∧ CLocal sEr :=
  pos_scope (L := LOp cOpF badF reF tlF) cOp_sound Try.func42 (c := bodyOf Try.f42) (by kernel_rfl) (by kernel_rfl) lOps fun xs hs hx hh hp => by
    have hp : (opP hs && !opOk hs) = true := hp
    rw [Bool.and_eq_true, Bool.not_eq_true'] at hp
    have hb : Bytes (Sto.D.b hs) := fun x hx => u8_ok (hh.2.1 x hx)
    exact (tEr okLd laidF sameF okC cOpF badF reF tlF _ _ (repF rdyF) hs).trans (TEr_eq hs hp.1 hb hp.2)
theorem okOp : CSound Try.prog 42 sOp ∧ CLocal sOp := kin_sound nil1 okNl (two_sound _ rfl rfl okOk okEr)
end Go.Proofs.Ytffdkniccaebmaa.Jnl

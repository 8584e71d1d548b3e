/- Records that are kept (layer 14, journal): bytes that are the same, copied, given room. -/
import Derived.Test.YtffdkniccaebmaaF13
import Derived.Test.YtffdkniccaebmaaHB
import Derived.Test.YtffdkniccaebmaaE51
import Derived.Test.YtffdkniccaebmaaE52
import Derived.Test.YtffdkniccaebmaaE54
import Derived.Test.YtffdkniccaebmaaB3
import Derived.Shelf.SlicesE.Clone
set_option linter.unusedVariables false
set_option linter.unusedSimpArgs false
set_option maxRecDepth 100000
namespace Go.Proofs.Ytffdkniccaebmaa.Jnl
open Go Vse Go.Proofs Gen

theorem w_succ {k n : Nat} (h : k < n) (hn : n ≤ 9223372036854775807) : w ((k : Int) + 1) = ((k + 1 : Nat) : Int) := by rw [w_id (by omega) (by omega)]; omega
theorem inArr_of {k n : Nat} (h : k < n) : inArr (k : Int) n = true := by simp [inArr]; omega
theorem getD_of {α : Type} {l : List α} {k : Nat} (h : k < l.length) (d : α) : l.getD k d = l[k] := by rw [List.getD_eq_getElem?_getD, List.getElem?_eq_getElem h]; rfl

/-! bytes that are the same -/

def SEq : RSpec := ⟨[0, 1, 12, 13], 26, [bs, bs, i64, i64], [], [], [], fun x => match x with | .ret => ([4], [.bool], []) | _ => ([], [], [])⟩
noncomputable def bEq : Code := loopAt Try.f87 0
def GEq (a b : List Int) (n i : Int) : Tr SEq.End :=
  .ite (decide (i < n)) (.chk (inArr i a.length) (.chk (inArr i b.length) (.ite (!decide (a.getD i.toNat 0 = b.getD i.toNat 0)) (.ret (.inr (.ret, encS [4] [.bool] [] 26 (false, ()) ()))) (.ret (.inl ((a, b, n, w (i + 1), ()), ()))))))
    (.ret (.inr (.exit 0, encS [] [] [] 26 () ())))
theorem rEq (a b : List Int) (n i : Int) : (SEq.round (bodyK Try.prog (ctx []) L0 bEq) (a, b, n, i, ()) ()).eval = (GEq a b n i).eval := by kernel_rfl
theorem drop_eq {α : Type} [BEq α] {a b : List α} {k : Nat} (h1 : k < a.length) (h2 : k < b.length) : a.drop k = a[k] :: a.drop (k + 1) ∧ b.drop k = b[k] :: b.drop (k + 1) := ⟨List.drop_eq_getElem_cons h1, List.drop_eq_getElem_cons h2⟩
theorem mEq (a b : List Int) (hl : a.length ≤ 9223372036854775807) (hb : b.length = a.length) : ∀ (m k : Nat), k + m = a.length →
    SEq.many (bodyK Try.prog (ctx []) L0 bEq) (m + 1) (a, b, (a.length : Int), (k : Int), ()) () = if a.drop k = b.drop k then some (.exit 0, encS [] [] [] 26 () ()) else some (.ret, encS [4] [.bool] [] 26 (false, ()) ())
  | 0, k, h => by
    have e1 : a.drop k = [] := List.drop_eq_nil_of_le (by omega)
    have e2 : b.drop k = [] := List.drop_eq_nil_of_le (by omega)
    rw [e1, e2, if_pos rfl]
    refine rmany_inr ((rEq a b _ _).trans ?_) 0
    unfold GEq
    rw [ite_f (decide_eq_false (by omega))]
    rfl
  | m + 1, k, h => by
    have h1 : k < a.length := by omega
    have h2 : k < b.length := by omega
    have e1 := List.drop_eq_getElem_cons h1
    have e2 := List.drop_eq_getElem_cons h2
    by_cases hq : a[k] = b[k]
    · have e3 : (a.drop k = b.drop k) = (a.drop (k + 1) = b.drop (k + 1)) := by simp only [e1, e2, hq, List.cons.injEq, true_and]
      simp only [e3]
      refine (rmany_inl (d := ((a, b, (a.length : Int), ((k + 1 : Nat) : Int), ()), ())) ((rEq a b _ _).trans ?_) (m + 1)).trans (mEq a b hl hb m (k + 1) (by omega))
      unfold GEq
      rw [ite_t (decide_eq_true (by omega)), chk_eval (inArr_of h1), chk_eval (inArr_of h2), Int.toNat_natCast, getD_of h1, getD_of h2, ite_f (by simp [hq]), w_succ h1 hl]
      rfl
    · rw [if_neg (by rw [e1, e2]; exact fun hh => hq (List.cons.inj hh).1)]
      refine rmany_inr ((rEq a b _ _).trans ?_) _
      unfold GEq
      rw [ite_t (decide_eq_true (by omega)), chk_eval (inArr_of h1), chk_eval (inArr_of h2), Int.toNat_natCast, getD_of h1, getD_of h2, ite_t (by simp [hq])]
      rfl
def cEq (a b : List Int) (n i : Int) : Bool := decide (a.length ≤ 9223372036854775807) && (decide (b.length = a.length) && (decide (n = (a.length : Int)) && decide (i = 0)))
abbrev sameF : List Int → List Int → Bool := Fld.sameI
def FEq (c : List Int → List Int → Int → Int → Bool) (f : List Int → List Int → Bool) (xs : HL SEq.Ts) (hs : HD SEq.Es) : Tr (Ex × St) :=
  .chk (c xs.1 xs.2.1 xs.2.2.1 xs.2.2.2.1) (.ite (f xs.1 xs.2.1) (.ret (.exit 0, encS [] [] [] 26 () ())) (.ret (.ret, encS [4] [.bool] [] 26 (false, ()) ())))
def LEq (c : List Int → List Int → Int → Int → Bool) (f : List Int → List Int → Bool) : Loops := fun j st => if j = 4 then SEq.fn (FEq c f) st else .fail
theorem lEq : LoopOK Try.prog (LEq cEq sameF) bEq :=
  rloop_ok (L := LEq cEq sameF) (L' := L0) nil_sound (loopsOK_of (by kernel_rfl)) SEq (F := FEq cEq sameF) (i := 4) (by kernel_rfl) (fun _ => rfl) fun xs hs q h => by
    obtain ⟨a, b, n, i, u⟩ := xs
    obtain ⟨h1, h2⟩ := Tr.chk_some h
    simp only [cEq, Bool.and_eq_true, decide_eq_true_eq] at h1
    obtain ⟨hl, hb, hn, e2⟩ := h1
    have e2 : i = ((0 : Nat) : Int) := e2
    have hn : n = ((List.length (α := Int) a : Nat) : Int) := hn
    subst e2; subst hn
    refine ⟨List.length (α := Int) a + 1, ?_⟩
    have := mEq a b hl hb (List.length (α := Int) a) 0 (by omega)
    rw [List.drop_zero, List.drop_zero] at this
    refine this.trans ?_
    rcases Tr.ite_some h2 with ⟨hx, h3⟩ | ⟨hx, h3⟩
    · have hx : a = b := of_decide_eq_true hx
      rw [if_pos hx]
      exact congrArg some (Tr.ret_some h3)
    · have hx : ¬ a = b := of_decide_eq_false hx
      rw [if_neg hx]
      exact congrArg some (Tr.ret_some h3)
def TEq (c : List Int → List Int → Int → Int → Bool) (f : List Int → List Int → Bool) (a b : List Int) : Tr AV :=
  .ite (!decide ((a.length : Int) = (b.length : Int))) (.ret (.v .bool false)) (.chk (c a b (a.length : Int) 0) (.ite (f a b) (.ret (.v .bool true)) (.ret (.v .bool false))))
theorem tEqL (c : List Int → List Int → Int → Int → Bool) (f : List Int → List Int → Bool) (a b : List Int) :
    nrm (fnS Try.prog (ctx []) (LEq c f) [.bool] Try.f87 (mkArgs [bs, bs] (a, b, ()))) = (TEq c f a b).eval := by kernel_rfl
def sSl2 (f : List Int → List Int → Bool) : CSpec := .slp1 [bs, bs] (fun _ => true) .bool fun x => f x.1 x.2.1
theorem okEqL : CSound Try.prog 87 (sSl2 sameF) ∧ CLocal (sSl2 sameF) :=
  slpE1 (L := LEq cEq sameF) nil_sound Try.func87 (by kernel_rfl) (loops1 (by kernel_rfl) lEq) fun xs hx hp => by
    obtain ⟨a, b, u⟩ := xs
    have hl : List.length (α := Int) a ≤ 9223372036854775807 := hx.1.1
    refine (tEqL cEq sameF a b).trans ?_
    show _ = some (AV.v .bool (sameF a b))
    unfold TEq
    by_cases h : List.length (α := Int) a = List.length (α := Int) b
    · rw [ite_f (by simp [h]), chk_eval (by unfold cEq; rw [decide_eq_true hl, decide_eq_true h.symm]; simp)]
      cases sameF a b <;> rfl
    · rw [ite_t (by simp; omega), show sameF a b = false from decide_eq_false fun hh => h (by rw [hh])]; rfl

/-! bytes that are copied -/

def cloB_ren : Go.Shelf.Ren := ⟨fun | 41 => 86 | n => n, fun | 22 => 52 | 23 => 5 | 4 => 4 | n => n, fun | n => n⟩
theorem cloB : Go.Proofs.SlLaysE0.n41 Try.prog cloB_ren := {
  mixed := by kernel_rfl
  f41 := ⟨Try.f86.name, by decide, Try.func86.trans (congrArg some (by kernel_rfl))⟩
  t4 := Try.underlying4
  a4 := Try.isAgg4
  z4 := Try.sizeOf4
  v4 := Try.zeroValue4
  t22 := Try.underlying52
  a22 := Try.isAgg52
  z22 := Try.sizeOf52
  v22 := Try.zeroValue52 }
theorem tClS (l : List Int) : nrm (fnS Try.prog (ctx []) L0 [bt] Try.f86 (mkArgs [.imm false true u8] (l, ()))) = (Tr.chk (Vse.room (0 + l.length) 1) (.ret (.v bt l)) : Tr AV).eval := by kernel_rfl
/-- bytes that may be copied -/
def okC (l : List Int) : Bool := decide (l.length ≤ 140737488355328)
def sClS : CSpec := .slp1 [bs] (fun xs => okC xs.1) bt fun xs => xs.1
theorem okClS : CSound Try.prog 86 sClS ∧ CLocal sClS :=
  clone_sound (A := u8) nil_sound Try.func86 rfl rfl (by kernel_rfl) (noLoopsL (by kernel_rfl)) (fun n c w => AnyE.slices_Clone_nil cloB n c w) fun l hl => (tClS l).trans (chk_eval (by
    have := of_decide_eq_true hl
    simp [Vse.room]; omega) _)

/-! room -/

def groB_ren : Go.Shelf.Ren := ⟨fun | 4 => 127 | n => n, fun | 22 => 52 | 25 => 5 | n => n, fun | n => n⟩
theorem groB : Go.Proofs.Lays8.n4 Try.prog groB_ren := {
  mixed := by kernel_rfl
  f4 := ⟨Try.f127.name, by decide, Try.func127.trans (congrArg some (by kernel_rfl))⟩
  t0 := Try.underlying0
  a0 := Try.isAgg0
  z0 := Try.sizeOf0
  v0 := Try.zeroValue0
  t3 := Try.underlying3
  a3 := Try.isAgg3
  z3 := Try.sizeOf3
  v3 := Try.zeroValue3
  t4 := Try.underlying4
  a4 := Try.isAgg4
  z4 := Try.sizeOf4
  v4 := Try.zeroValue4
  t9 := Try.underlying9
  a9 := Try.isAgg9
  z9 := Try.sizeOf9
  v9 := Try.zeroValue9
  t20 := Try.underlying20
  a20 := Try.isAgg20
  z20 := Try.sizeOf20
  v20 := Try.zeroValue20
  t22 := Try.underlying52
  a22 := Try.isAgg52
  z22 := Try.sizeOf52
  v22 := Try.zeroValue52 }
theorem enterF {k : Nat} {fn : Func} (hf : Try.prog.funcs[k]? = some fn) (h : ((fn.name == "runtime.NumGoroutine") == false && fn.body.isSome) = true) (args : Array Value) (w : World) : (callFunc k args).run Try.prog w = .ok (.enter k args) w := by
  simp only [Bool.and_eq_true, beq_iff_eq] at h
  obtain ⟨c, hc⟩ := Option.isSome_iff_exists.1 h.2
  exact callFunc_enter hf h.1 hc args w
theorem okGr : CSound Try.prog 127 (CSpec.grow0 u8) ∧ CLocal (CSpec.grow0 u8) :=
  grow0_sound (A := u8) rfl groB (z := .int .u8 0) rfl rfl rfl rfl rfl rfl rfl (fun a w => enterF Try.func127 (by kernel_rfl) a w)
end Go.Proofs.Ytffdkniccaebmaa.Jnl

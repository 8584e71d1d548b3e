/- Records that are kept (layer 14, journal): bytes, one behind the other; a record as bytes; records copied. -/
import Derived.Test.YtffdkniccaebmaaJ1
set_option linter.unusedVariables false
set_option linter.unusedSimpArgs false
set_option maxRecDepth 100000
namespace Go.Proofs.Ytffdkniccaebmaa.Jnl
open Go Vse Go.Proofs Gen

/-! slices.Concat -/

/-- slices of bytes, all lent -/
abbrev lb : Ty := .imm false false bs

noncomputable def bCa : Code := loopAt Try.f112 0
noncomputable def bCb : Code := loopAt Try.f112 1
def SCa : RSpec := ⟨[0, 3, 9, 10, 11], 36, [lb, i64, lb, i64, i64], [], [], [], fun x => match x with | .ret => ([], [], []) | _ => ([0, 3], [lb, i64], [])⟩
def GCa (l : List (List Int)) (s n i : Int) : Tr SCa.End :=
  .ite (decide (i < n)) (.chk (inArr i l.length) (.ite (decide (w (s + ((l.getD i.toNat []).length : Int)) < 0)) .fail (.ret (.inl ((l, w (s + ((l.getD i.toNat []).length : Int)), l, n, w (i + 1), ()), ())))))
    (.ret (.inr (.exit 0, encS [0, 3] [lb, i64] [] 36 (l, s, ()) ())))
theorem rCa (l : List (List Int)) (s n i : Int) : (SCa.round (bodyK Try.prog (ctx []) L0 bCa) (l, s, l, n, i, ()) ()).eval = (GCa l s n i).eval := by kernel_rfl
def SCb : RSpec := ⟨[6, 25, 26, 27], 36, [.vc 0 1, lb, i64, i64], [.vec 1 u8], [.vec 0 u8], [], fun x => match x with | .ret => ([], [], []) | _ => ([6], [.vc 0 1], [.vec 1 u8])⟩
def GCb (l : List (List Int)) (o : List Int) (n i : Int) : Tr SCb.End :=
  .ite (decide (i < n)) (.chk (inArr i l.length) (.chk (Vse.room (o.length + (l.getD i.toNat []).length) 1) (.ret (.inl (((), l, n, w (i + 1), ()), (o ++ l.getD i.toNat [], ()))))))
    (.ret (.inr (.exit 2, encS [6] [.vc 0 1] [.vec 1 u8] 36 ((), ()) (o, ()))))
theorem rCb (l : List (List Int)) (o : List Int) (n i : Int) : (SCb.round (bodyK Try.prog (ctx []) L0 bCb) ((), l, n, i, ()) (o, ())).eval = (GCb l o n i).eval := by kernel_rfl
def flat (l : List (List Int)) : List Int := l.flatten
theorem flat_take {l : List (List Int)} {k : Nat} (h : k < l.length) : flat (l.take (k + 1)) = flat (l.take k) ++ l[k] := by
  unfold flat
  rw [List.take_add_one, List.getElem?_eq_getElem h, List.flatten_append]
  simp
theorem flat_le (l : List (List Int)) (k : Nat) : (flat (l.take k)).length ≤ (flat l).length := by
  have : flat l = flat (l.take k) ++ flat (l.drop k) := by unfold flat; rw [← List.flatten_append, List.take_append_drop]
  rw [this, List.length_append]; omega
theorem mCa (l : List (List Int)) (hl : l.length ≤ 9223372036854775807) (hf : (flat l).length ≤ 140737488355328) : ∀ (m k : Nat), k + m = l.length →
    SCa.many (bodyK Try.prog (ctx []) L0 bCa) (m + 1) (l, ((flat (l.take k)).length : Int), l, (l.length : Int), (k : Int), ()) () = some (.exit 0, encS [0, 3] [lb, i64] [] 36 (l, ((flat l).length : Int), ()) ())
  | 0, k, h => by
    have e1 : l.take k = l := List.take_of_length_le (by omega)
    rw [e1]
    refine rmany_inr ((rCa l _ _ _).trans ?_) 0
    unfold GCa
    rw [ite_f (decide_eq_false (by omega))]
    rfl
  | m + 1, k, h => by
    have h1 : k < l.length := by omega
    have e2 := flat_take h1
    have h3 := flat_le l (k + 1)
    have e3 : w (((flat (l.take k)).length : Int) + ((l.getD k []).length : Int)) = ((flat (l.take (k + 1))).length : Int) := by
      rw [getD_of h1, e2, List.length_append]
      rw [e2, List.length_append] at h3
      rw [w_id (by omega) (by omega)]; omega
    refine (rmany_inl (d := ((l, ((flat (l.take (k + 1))).length : Int), l, (l.length : Int), ((k + 1 : Nat) : Int), ()), ())) ((rCa l _ _ _).trans ?_) (m + 1)).trans (mCa l hl hf m (k + 1) (by omega))
    unfold GCa
    rw [Int.toNat_natCast, ite_t (decide_eq_true (by omega)), chk_eval (inArr_of h1), e3, ite_f (decide_eq_false (by omega)), w_succ h1 hl]
    rfl
theorem mCb (l : List (List Int)) (hl : l.length ≤ 9223372036854775807) (hf : (flat l).length ≤ 140737488355328) : ∀ (m k : Nat), k + m = l.length →
    SCb.many (bodyK Try.prog (ctx []) L0 bCb) (m + 1) ((), l, (l.length : Int), (k : Int), ()) (flat (l.take k), ()) = some (.exit 2, encS [6] [.vc 0 1] [.vec 1 u8] 36 ((), ()) (flat l, ()))
  | 0, k, h => by
    have e1 : l.take k = l := List.take_of_length_le (by omega)
    rw [e1]
    refine rmany_inr ((rCb l _ _ _).trans ?_) 0
    unfold GCb
    rw [ite_f (decide_eq_false (by omega))]
    rfl
  | m + 1, k, h => by
    have h1 : k < l.length := by omega
    have e2 := flat_take h1
    have h3 := flat_le l (k + 1)
    have hr : Vse.room ((flat (l.take k)).length + l[k].length) 1 = true := by
      rw [e2, List.length_append] at h3
      simp only [Vse.room, decide_eq_true_eq]; omega
    refine (rmany_inl (d := (((), l, (l.length : Int), ((k + 1 : Nat) : Int), ()), (flat (l.take (k + 1)), ()))) ((rCb l _ _ _).trans ?_) (m + 1)).trans (mCb l hl hf m (k + 1) (by omega))
    unfold GCb
    rw [Int.toNat_natCast, ite_t (decide_eq_true (by omega)), chk_eval (inArr_of h1), getD_of h1, chk_eval hr, e2, w_succ h1 hl]
    rfl
def okT (l : List (List Int)) : Bool := decide (l.length ≤ 9223372036854775807) && decide ((flat l).length ≤ 140737488355328)
def cCa (l : List (List Int)) (s : Int) (l2 : List (List Int)) (n i : Int) : Bool := okT l && (decide (s = 0) && (decide (l2 = l) && (decide (n = (l.length : Int)) && decide (i = 0))))
def cCb (o : List Int) (l : List (List Int)) (n i : Int) : Bool := okT l && (decide (o.length = 0) && (decide (n = (l.length : Int)) && decide (i = 0)))
abbrev Cca := List (List Int) → Int → List (List Int) → Int → Int → Bool
abbrev Ccb := List Int → List (List Int) → Int → Int → Bool
def FCa (c : Cca) (t : List (List Int) → Int) (xs : HL SCa.Ts) (hs : HD SCa.Es) : Tr (Ex × St) := .chk (c xs.1 xs.2.1 xs.2.2.1 xs.2.2.2.1 xs.2.2.2.2.1) (.ret (.exit 0, encS [0, 3] [lb, i64] [] 36 (xs.1, t xs.1, ()) ()))
def FCb (c : Ccb) (f : List (List Int) → List Int) (xs : HL SCb.Ts) (hs : HD SCb.Es) : Tr (Ex × St) := .chk (c hs.1 xs.2.1 xs.2.2.1 xs.2.2.2.1) (.ret (.exit 2, encS [6] [.vc 0 1] [.vec 1 u8] 36 ((), ()) (f xs.2.1, ())))
def LCo (ca : Cca) (t : List (List Int) → Int) (cb : Ccb) (f : List (List Int) → List Int) : Loops := fun j st => if j = 3 then SCa.fn (FCa ca t) st else if j = 11 then SCb.fn (FCb cb f) st else .fail
def totF (l : List (List Int)) : Int := ((flat l).length : Int)
abbrev LCoF := LCo cCa totF cCb flat
theorem lCa : LoopOK Try.prog LCoF bCa :=
  rloop_ok (L := LCoF) (L' := L0) nil_sound (loopsOK_of (by kernel_rfl)) SCa (F := FCa cCa totF) (i := 3) (by kernel_rfl) (fun _ => rfl) fun xs hs q h => by
    obtain ⟨l, s, l2, n, i, u⟩ := xs
    obtain ⟨h1, h2⟩ := Tr.chk_some h
    simp only [cCa, okT, Bool.and_eq_true, decide_eq_true_eq] at h1
    obtain ⟨⟨hl, hf⟩, e1, e2, hn, e3⟩ := h1
    have e1 : s = (0 : Int) := e1
    have e2 : l2 = l := e2
    have hn : n = ((List.length (α := List Int) l : Nat) : Int) := hn
    have e3 : i = ((0 : Nat) : Int) := e3
    subst e1; subst e2; subst hn; subst e3
    exact ⟨_, (mCa l2 hl hf (List.length (α := List Int) l2) 0 (by omega)).trans (congrArg some (Tr.ret_some h2))⟩
theorem lCb : LoopOK Try.prog LCoF bCb :=
  rloop_ok (L := LCoF) (L' := L0) nil_sound (loopsOK_of (by kernel_rfl)) SCb (F := FCb cCb flat) (i := 11) (by kernel_rfl) (fun _ => rfl) fun xs hs q h => by
    obtain ⟨u1, l, n, i, u⟩ := xs
    obtain ⟨o, u2⟩ := hs
    obtain ⟨h1, h2⟩ := Tr.chk_some h
    simp only [cCb, okT, Bool.and_eq_true, decide_eq_true_eq] at h1
    obtain ⟨⟨hl, hf⟩, e1, hn, e3⟩ := h1
    have e1 : o = ([] : List Int) := List.eq_nil_of_length_eq_zero e1
    have hn : n = ((List.length (α := List Int) l : Nat) : Int) := hn
    have e3 : i = ((0 : Nat) : Int) := e3
    subst e1; subst hn; subst e3
    exact ⟨_, (mCb l hl hf (List.length (α := List Int) l) 0 (by omega)).trans (congrArg some (Tr.ret_some h2))⟩
def cCo : List (Nat × CSpec) := [(127, CSpec.grow0 u8)]
def TCo (ca : Cca) (t : List (List Int) → Int) (cb : Ccb) (f : List (List Int) → List Int) (l : List (List Int)) : Tr AV :=
  .chk (ca l 0 l (l.length : Int) 0) (.chk (decide (1 ≤ t l ∧ t l ≤ 140737488355328)) (.chk (cb [] l (l.length : Int) 0) (.ret (.v bt (f l)))))
theorem tCo (ca : Cca) (t : List (List Int) → Int) (cb : Ccb) (f : List (List Int) → List Int) (l : List (List Int)) :
    nrm (fnS Try.prog (ctx cCo) (LCo ca t cb f) [bt] Try.f112 (mkArgs [lb] (l, ()))) = (TCo ca t cb f l).eval := by kernel_rfl
def preCo (l : List (List Int)) : Bool := decide (1 ≤ (flat l).length) && decide ((flat l).length ≤ 140737488355328)
def sCo : CSpec := .slp1 [lb] (fun x => preCo x.1) bt fun x => flat x.1
theorem okCo : CSound Try.prog 112 sCo ∧ CLocal sCo :=
  slpE1 (L := LCoF) (ctx_sound (l := cCo) ⟨okGr, trivial⟩) Try.func112 (by kernel_rfl) (loops2 (by kernel_rfl) lCa lCb) fun xs hx hp => by
    obtain ⟨l, u⟩ := xs
    have hl : List.length (α := List Int) l ≤ 9223372036854775807 := hx.1.1
    have hp : preCo l = true := hp
    unfold preCo at hp
    simp only [Bool.and_eq_true, decide_eq_true_eq] at hp
    refine (tCo cCa totF cCb flat l).trans ?_
    have ho : okT l = true := by unfold okT; rw [decide_eq_true hl, decide_eq_true hp.2]; rfl
    unfold TCo
    rw [chk_eval (by unfold cCa; rw [ho]; simp), chk_eval (decide_eq_true (by unfold totF; omega)), chk_eval (by unfold cCb; rw [ho]; simp)]
    rfl
end Go.Proofs.Ytffdkniccaebmaa.Jnl

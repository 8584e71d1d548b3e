/- What is used by all layers: names of types; are bytes the same; lists of bytes, one behind the other. -/
import Derived.Test.YtlkddajnebjlcaaM5
import Derived.Test.YtlkddajnebjlcaaProg
import Derived.KernelRfl
set_option linter.unusedVariables false
set_option maxRecDepth 100000
namespace Go.Proofs.Ytlkddajnebjlcaa.Gen
open Go Vse Go.Proofs

abbrev i64 : Ty := .int .i64
abbrev u8 : Ty := .int .u8
abbrev bs : Ty := .imm false false u8
abbrev bt : Ty := .imm true false u8
abbrev w (x : Int) : Int := IntKind.i64.wrap x
abbrev wb (x : Int) : Int := IntKind.u8.wrap x
abbrev wu (x : Int) : Int := IntKind.u64.wrap x

theorem w_id {x : Int} (h : -9223372036854775808 ≤ x) (h' : x ≤ 9223372036854775807) : w x = x := by
  simp [IntKind.wrap, IntKind.signed, IntKind.bits]
  split <;> omega

theorem nil_sound : CtxSound Try.prog (ctx []) ∧ CtxLocal (ctx []) := ctx_sound trivial

/-! bartizanref01.Same -/

def SSame : LSpec := ⟨[0, 1, 5], [4], 26, [bs, bs, i64], []⟩
noncomputable def bSame : Code := loopAt Try.f22 0
def GSame (xs : HL SSame.Ts) (hs : HD SSame.Es) : Tr SSame.End :=
  let a := xs.1
  let b := xs.2.1
  let i := xs.2.2.1
  .ite (decide (i < (a.length : Int))) (.chk (inArr i a.length) (.chk (inArr i b.length) (.ite (a.getD i.toNat 0 != b.getD i.toNat 0)
    (.ret (.inr (.ret, encS [4] [.bool] [] 26 (false, ()) ()))) (.ret (.inl ((a, b, w (i + 1), ()), ()))))))
    (.ret (.inr (.exit 0, encS [] [] [] 26 () ())))
theorem rSame (a b : List Int) (i : Int) : (SSame.round (bodyK Try.prog (ctx []) L0 bSame) (a, b, i, ()) ()).eval = (GSame (a, b, i, ()) ()).eval := by kernel_rfl

def FSame (xs : HL SSame.Ts) (hs : HD SSame.Es) : Tr (Ex × St) :=
  .chk (decide (xs.2.2.1 = (0 : Int)) && (decide (xs.1.length = xs.2.1.length) && decide (xs.1.length ≤ 9223372036854775807)))
    (.ite (decide (xs.1 = xs.2.1)) (.ret (.exit 0, encS [] [] [] 26 () ())) (.ret (.ret, encS [4] [.bool] [] 26 (false, ()) ())))
def LSame : Loops := fun j st => if j = 4 then SSame.fn FSame st else .fail

theorem kSame (a b : List Int) (hab : a.length = b.length) (hm : a.length ≤ 9223372036854775807) : ∀ (m k : Nat), k + m = a.length → SSame.many (bodyK Try.prog (ctx []) L0 bSame) (m + 1) (a, b, (k : Int), ()) () =
    if a.drop k = b.drop k then some (.exit 0, encS [] [] [] 26 () ()) else some (.ret, encS [4] [.bool] [] 26 (false, ()) ())
  | 0, k, h => by
    have e1 : a.drop k = [] := List.drop_eq_nil_of_le (by omega)
    have e2 : b.drop k = [] := List.drop_eq_nil_of_le (by omega)
    rw [e1, e2, if_pos rfl]
    refine many_inr ((rSame a b k).trans ?_) 0
    simp only [GSame, Tr.eval, decide_eq_false (show ¬ ((k : Int) < (a.length : Int)) by omega)]
  | m + 1, k, h => by
    have h1 : k < a.length := by omega
    have h2 : k < b.length := by omega
    have i1 : inArr (k : Int) a.length = true := by simp [inArr]; omega
    have i2 : inArr (k : Int) b.length = true := by simp [inArr]; omega
    have g1 : a.getD k 0 = a[k] := by rw [List.getD_eq_getElem?_getD, List.getElem?_eq_getElem h1]; rfl
    have g2 : b.getD k 0 = b[k] := by rw [List.getD_eq_getElem?_getD, List.getElem?_eq_getElem h2]; rfl
    have hiff : a.drop k = b.drop k ↔ a[k] = b[k] ∧ a.drop (k + 1) = b.drop (k + 1) := by
      rw [List.drop_eq_getElem_cons h1, List.drop_eq_getElem_cons h2, List.cons.injEq]
    by_cases hk : a[k] = b[k]
    · refine (many_inl (d := ((a, b, ((k + 1 : Nat) : Int), ()), ())) ((rSame a b k).trans ?_) (m + 1)).trans ((kSame a b hab hm m (k + 1) (by omega)).trans ?_)
      · simp only [GSame, Tr.eval, Tr.chk, decide_eq_true (show ((k : Int) < (a.length : Int)) by omega), i1, i2, Int.toNat_natCast, g1, g2, hk, bne_self_eq_false]
        rw [w_id (by omega) (by omega)]; rfl
      · by_cases hd : a.drop (k + 1) = b.drop (k + 1)
        · rw [if_pos hd, if_pos (hiff.2 ⟨hk, hd⟩)]
        · rw [if_neg hd, if_neg fun h => hd (hiff.1 h).2]
    · rw [if_neg fun h => hk (hiff.1 h).1]
      refine many_inr ((rSame a b k).trans ?_) (m + 1)
      have : (a[k] != b[k]) = true := by simp [hk]
      simp only [GSame, Tr.eval, Tr.chk, decide_eq_true (show ((k : Int) < (a.length : Int)) by omega), i1, i2, Int.toNat_natCast, g1, g2, this]

theorem lSame : LoopOK Try.prog LSame bSame :=
  loop_ok (L := LSame) (L' := L0) nil_sound (loopsOK_of (by kernel_rfl)) SSame (by kernel_rfl) (F := FSame) (i := 4) (by kernel_rfl) (fun _ => rfl) fun xs hs r h => by
    obtain ⟨a, b, i, u⟩ := xs
    obtain ⟨h1, h2⟩ := Tr.chk_some h
    simp only [Bool.and_eq_true, decide_eq_true_eq] at h1
    obtain ⟨e1, e2, e3⟩ := h1
    have e1 : i = ((0 : Nat) : Int) := e1
    subst e1
    refine ⟨_, (kSame a b e2 e3 a.length 0 (by omega)).trans ?_⟩
    simp only [List.drop_zero]
    rcases Tr.ite_some h2 with ⟨hd, h2⟩ | ⟨hd, h2⟩
    · rw [if_pos (of_decide_eq_true hd), Tr.ret_some h2]
    · rw [if_neg (of_decide_eq_false hd), Tr.ret_some h2]

def sameI (a b : List Int) : Bool := decide (a = b)
def sSame : CSpec := .sl1 [bs, bs] .bool fun x => sameI x.1 x.2.1

theorem rSamef (a b : List Int) : (fnS Try.prog (ctx []) LSame [.bool] Try.f22 (mkArgs [bs, bs] (a, b, ()))).fold1 .bool =
    bif ((a.length : Int) != (b.length : Int)) then false else (bif decide (a = b) then true else false) := by kernel_rfl
theorem fSameF (a b : List Int) : (fnS Try.prog (ctx []) LSame [.bool] Try.f22 (mkArgs [bs, bs] (a, b, ()))).fine [.bool] =
    ((decide (a.length = b.length) && decide (a.length ≤ 9223372036854775807)) || ((a.length : Int) != (b.length : Int))) := by kernel_rfl
theorem okSame : CSound Try.prog 22 sSame ∧ CLocal sSame :=
  sl_ok1 (L := LSame) nil_sound Try.func22 (by kernel_rfl) (fun b hb => by
    have : loopsOf (bodyOf Try.f22) = [bSame] := by kernel_rfl
    rw [this] at hb
    rw [List.mem_singleton.1 hb]
    exact lSame) (fun xs hx => by
      obtain ⟨a, b, u⟩ := xs
      have hl : List.length (α := Int) a ≤ 9223372036854775807 := hx.1.1
      refine (fSameF a b).trans ?_
      by_cases h : List.length (α := Int) a = List.length (α := Int) b
      · simp [h] at hl ⊢; omega
      · simp; omega) (fun xs hx => by
      obtain ⟨a, b, u⟩ := xs
      refine (rSamef a b).trans ?_
      show _ = decide (a = b)
      by_cases h : List.length (α := Int) a = List.length (α := Int) b
      · have : ((List.length (α := Int) a : Int) != (List.length (α := Int) b : Int)) = false := by simp [h]
        rw [this]
        cases decide (a = b) <;> rfl
      · have : ((List.length (α := Int) a : Int) != (List.length (α := Int) b : Int)) = true := by simp; omega
        rw [this]
        have hne : decide (a = b) = false := decide_eq_false (by rintro rfl; exact h rfl)
        rw [hne]; rfl)


/-! bartizanref01.All -/

abbrev ls : Ty := .imm false false bt
abbrev lt : Ty := .imm true false bt
def SAll : VSpec := ⟨⟨[0, 4, 5, 6], [4, 5], 33, [ls, .vc 0 1, i64, i64], [.vec 1 u8]⟩, [4]⟩
noncomputable def bAll : Code := loopAt Try.f18 0
def GAll (xs : HL SAll.Ts) (hs : HD SAll.Es) : Tr SAll.toLSpec.End :=
  let l : List (List Int) := xs.1
  let n := xs.2.2.1
  let i := xs.2.2.2.1
  let o : List Int := hs.1
  let p : List Int := l.getD i.toNat []
  let E : Tr SAll.toLSpec.End := .ret (.inr (.exit 0, encS [4, 5] [.vc 0 1, i64] [.vec 1 u8] 33 ((), n, ()) (o, ())))
  .ite (decide (i < (l.length : Int))) (.ite (decide (n < 100000)) (.chk (inArr i l.length) (.chk (room (o.length + p.length) 1) (.chk (inArr i l.length)
    (.ret (.inl ((l, (), w (w (n + (p.length : Int)) + 1), w (i + 1), ()), (o ++ p, ()))))))) E) E
theorem rAll (l : List (List Int)) (n i : Int) (o : List Int) : (SAll.round (bodyK Try.prog (ctx []) L0 bAll) (l, (), n, i, ()) (o, ())).eval = (GAll (l, (), n, i, ()) (o, ())).eval := by kernel_rfl

def allG : List (List Int) → List Int → Nat → List Int × Nat
  | [], o, n => (o, n)
  | p :: r, o, n => bif decide (n < 100000) then allG r (o ++ p) (n + p.length + 1) else (o, n)
def short (p : List Int) : Bool := decide (p.length ≤ 140737488351232)
def preAll (l : List (List Int)) : Bool := l.all short

def outAll (o : List Int) (n : Nat) : Ex × St := (.exit 0, encS [4, 5] [.vc 0 1, i64] [.vec 1 u8] 33 ((), (n : Int), ()) (o, ()))

theorem getD_cons {α : Type} {l : List α} {k : Nat} (h : k < l.length) (d : α) : l.getD k d = l[k] := by rw [List.getD_eq_getElem?_getD, List.getElem?_eq_getElem h]; rfl

theorem kAll (l : List (List Int)) (hl : l.length ≤ 9223372036854775807) (hp : ∀ p ∈ l, p.length ≤ 140737488351232) : ∀ (m k : Nat) (o : List Int) (n : Nat), k + m = l.length → o.length ≤ n →
    SAll.many (bodyK Try.prog (ctx []) L0 bAll) (m + 1) (l, (), (n : Int), (k : Int), ()) (o, ()) = some (outAll (allG (l.drop k) o n).1 (allG (l.drop k) o n).2)
  | 0, k, o, n, h, ho => by
    have e1 : l.drop k = [] := List.drop_eq_nil_of_le (by omega)
    rw [e1]
    refine vmany_inr ((rAll l n k o).trans ?_) 0
    simp only [GAll, Tr.eval, decide_eq_false (show ¬ ((k : Int) < (l.length : Int)) by omega)]
    rfl
  | m + 1, k, o, n, h, ho => by
    have h1 : k < l.length := by omega
    have hp1 := hp l[k] (List.getElem_mem h1)
    rw [List.drop_eq_getElem_cons h1]
    have i1 : inArr (k : Int) l.length = true := by simp [inArr]; omega
    have g1 : l.getD k [] = l[k] := getD_cons h1 []
    simp only [allG]
    by_cases hn : n < 100000
    · rw [decide_eq_true hn]
      have hroom : room (o.length + l[k].length) 1 = true := by simp only [room, decide_eq_true_eq]; omega
      refine (vmany_inl (d := ((l, (), ((n + l[k].length + 1 : Nat) : Int), ((k + 1 : Nat) : Int), ()), (o ++ l[k], ()))) ((rAll l n k o).trans ?_) (m + 1)).trans
        (kAll l hl hp m (k + 1) (o ++ l[k]) (n + l[k].length + 1) (by omega) (by rw [List.length_append]; omega))
      simp only [GAll, Tr.eval, Tr.chk, decide_eq_true (show ((k : Int) < (l.length : Int)) by omega), decide_eq_true (show ((n : Int) < 100000) by omega), i1, Int.toNat_natCast, g1, hroom]
      rw [w_id (x := (n : Int) + (l[k].length : Int)) (by omega) (by omega), w_id (by omega) (by omega), w_id (by omega) (by omega)]
      rfl
    · rw [decide_eq_false hn]
      refine vmany_inr ((rAll l n k o).trans ?_) (m + 1)
      simp only [GAll, Tr.eval, decide_eq_true (show ((k : Int) < (l.length : Int)) by omega), decide_eq_false (show ¬ ((n : Int) < 100000) by omega)]
      rfl

def FAll (xs : HL SAll.Ts) (hs : HD SAll.Es) : Tr (Ex × St) :=
  .chk (decide (xs.2.2.1 = (0 : Int)) && (decide (xs.2.2.2.1 = (0 : Int)) && (decide (List.length (α := Int) hs.1 = 0) && (decide (List.length (α := List Int) xs.1 ≤ 9223372036854775807) && preAll xs.1))))
    (.ret (outAll (allG xs.1 [] 0).1 (allG xs.1 [] 0).2))
noncomputable def LAll : Loops := fun j st => if j = 4 then SAll.fn FAll st else .fail
theorem lAll : LoopOK Try.prog LAll bAll :=
  vloop_ok (L := LAll) (L' := L0) nil_sound (loopsOK_of (by kernel_rfl)) SAll (F := FAll) (i := 4) (by kernel_rfl) (fun _ => rfl) fun xs hs r h => by
    obtain ⟨l, u1, n, i, u⟩ := xs
    obtain ⟨o, u2⟩ := hs
    obtain ⟨h1, h2⟩ := Tr.chk_some h
    have := Tr.ret_some h2
    simp only [Bool.and_eq_true, decide_eq_true_eq] at h1
    obtain ⟨e1, e2, e3, e4, e5⟩ := h1
    have e1 : n = ((0 : Nat) : Int) := e1
    have e2 : i = ((0 : Nat) : Int) := e2
    have e3 : o = [] := List.eq_nil_of_length_eq_zero e3
    subst e1; subst e2; subst e3
    have hp : ∀ p ∈ l, List.length (α := Int) p ≤ 140737488351232 := fun p hp => by simpa [short] using List.all_eq_true.1 e5 p hp
    exact ⟨_, (kAll l e4 hp (List.length (α := List Int) l) 0 [] 0 (by omega) (by simp)).trans (congrArg some this)⟩

def allI (l : List (List Int)) : HL [bt, i64] := ((allG l [] 0).1, ((allG l [] 0).2 : Int), ())
def sAll : CSpec := .slp [ls] (fun x => preAll x.1) [bt, i64] fun x => allI x.1
theorem rAllf (l : List (List Int)) : (fnS Try.prog (ctx []) LAll [bt, i64] Try.f18 (mkArgs [ls] (l, ()))).fold [bt, i64] = ((allG l [] 0).1, ((allG l [] 0).2 : Int), ()) := by kernel_rfl
theorem fAllF (l : List (List Int)) : (fnS Try.prog (ctx []) LAll [bt, i64] Try.f18 (mkArgs [ls] (l, ()))).fine [bt, i64] = (decide (l.length ≤ 9223372036854775807) && preAll l) := by kernel_rfl
theorem okAll : CSound Try.prog 18 sAll ∧ CLocal sAll :=
  slp_sound (L := LAll) nil_sound Try.func18 (by kernel_rfl) (fun b hb => by
    have : loopsOf (bodyOf Try.f18) = [bAll] := by kernel_rfl
    rw [this] at hb
    rw [List.mem_singleton.1 hb]
    exact lAll) (fun xs hx hp => by
      refine (fAllF xs.1).trans ?_
      have h1 : List.length (α := List Int) xs.1 ≤ 9223372036854775807 := hx.1.1
      rw [decide_eq_true h1]
      exact hp) (fun xs hx hp => rAllf xs.1)


end Go.Proofs.Ytlkddajnebjlcaa.Gen

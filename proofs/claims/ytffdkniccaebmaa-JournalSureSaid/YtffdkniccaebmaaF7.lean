/- What the functions of layer 9 (field) give: parts as bytes. -/
import Derived.Test.YtffdkniccaebmaaF6
set_option linter.unusedVariables false
set_option maxRecDepth 100000
namespace Go.Proofs.Ytffdkniccaebmaa.Fld
open Go Vse Go.Proofs

def hd1 (p : List Int) : List Int := [wb (shrI .i64 (p.length : Int) 8), wb (p.length : Int)]
def hd2 (p : List Int) : List Int := [wb (w ((p.length : Int).tdiv 256)), wb ((p.length : Int).tmod 256)]

/-- parts put behind what there is, as long as they are short enough -/
def putG (hd : List Int → List Int) : List (List Int) → List Int → Bool × List Int
  | [], o => (true, o)
  | p :: r, o => bif decide ((p.length : Int) > 500) then (false, o) else putG hd r (o ++ hd p ++ p)

/-! field.Put -/

def S25 : VSpec := ⟨⟨[4, 10, 11, 12], [2, 3, 4], 33, [.vc 0 1, ls, i64, i64], [.vec 1 u8]⟩, [4]⟩
noncomputable def b25 : Code := loopAt Try.f37 0
def out25 (o : List Int) : Ex × St := (.exit 0, encS [4] [.vc 0 1] [.vec 1 u8] 33 ((), ()) (o, ()))
def ret25 (o : List Int) : Ex × St := (.ret, encS [2, 3, 4] [.nils, i64, .vc 0 1] [.vec 1 u8] 33 ((), (7 : Int), (), ()) (o, ()))
def G25 (xs : HL S25.Ts) (hs : HD S25.Es) : Tr S25.toLSpec.End :=
  let l : List (List Int) := xs.2.1
  let n := xs.2.2.1
  let i := xs.2.2.2.1
  let o : List Int := hs.1
  let p : List Int := l.getD i.toNat []
  .ite (decide (i < n)) (.chk (inArr i l.length) (.ite (decide ((p.length : Int) > 500)) (.ret (.inr (ret25 o)))
    (.chk (room (o.length + 2) 1) (.chk (room ((o ++ hd1 p).length + p.length) 1) (.ret (.inl (((), l, n, w (i + 1), ()), ((o ++ hd1 p) ++ p, ()))))))))
    (.ret (.inr (out25 o)))
theorem r25 (l : List (List Int)) (n i : Int) (o : List Int) : (S25.round (bodyK Try.prog (ctx []) L0 b25) ((), l, n, i, ()) (o, ())).eval = (G25 ((), l, n, i, ()) (o, ())).eval := by kernel_rfl

def end25 (r : Bool × List Int) : Ex × St := bif r.1 then out25 r.2 else ret25 r.2

theorem k25 (l : List (List Int)) (hl : l.length ≤ 20) : ∀ (m k : Nat) (o : List Int), k + m = l.length → o.length ≤ 502 * k →
    S25.many (bodyK Try.prog (ctx []) L0 b25) (m + 1) ((), l, (l.length : Int), (k : Int), ()) (o, ()) = some (end25 (putG hd1 (l.drop k) o))
  | 0, k, o, h, ho => by
    have e1 : l.drop k = [] := List.drop_eq_nil_of_le (by omega)
    rw [e1]
    refine vmany_inr ((r25 l _ k o).trans ?_) 0
    simp only [G25, Tr.eval, decide_eq_false (show ¬ ((k : Int) < (l.length : Int)) by omega)]
    rfl
  | m + 1, k, o, h, ho => by
    have h1 : k < l.length := by omega
    rw [List.drop_eq_getElem_cons h1]
    have i1 : inArr (k : Int) l.length = true := by simp [inArr]; omega
    have g1 : l.getD k [] = l[k] := getD_cons h1 []
    simp only [putG]
    by_cases hn : (l[k].length : Int) > 500
    · rw [decide_eq_true hn]
      refine vmany_inr ((r25 l _ k o).trans ?_) (m + 1)
      simp only [G25, Tr.eval, Tr.chk, decide_eq_true (show ((k : Int) < (l.length : Int)) by omega), i1, Int.toNat_natCast, g1, decide_eq_true hn]
      rfl
    · rw [decide_eq_false hn]
      have hh : (hd1 l[k]).length = 2 := rfl
      have q1 : room (o.length + 2) 1 = true := by simp only [room, decide_eq_true_eq]; omega
      have q2 : room ((o ++ hd1 l[k]).length + l[k].length) 1 = true := by simp only [room, decide_eq_true_eq, List.length_append, hh]; omega
      refine (vmany_inl (d := (((), l, (l.length : Int), ((k + 1 : Nat) : Int), ()), (o ++ hd1 l[k] ++ l[k], ()))) ((r25 l _ k o).trans ?_) (m + 1)).trans
        (k25 l hl m (k + 1) (o ++ hd1 l[k] ++ l[k]) (by omega) (by simp only [List.length_append, hh]; omega))
      simp only [G25, Tr.eval, Tr.chk, decide_eq_true (show ((k : Int) < (l.length : Int)) by omega), i1, Int.toNat_natCast, g1, decide_eq_false hn, q1, q2]
      rw [w_id (by omega) (by omega)]
      rfl

def F25 (xs : HL S25.Ts) (hs : HD S25.Es) : Tr (Ex × St) :=
  .chk (decide (xs.2.2.1 = (List.length (α := List Int) xs.2.1 : Int)) && (decide (xs.2.2.2.1 = (0 : Int)) && (decide (List.length (α := Int) hs.1 = 0) && decide (List.length (α := List Int) xs.2.1 ≤ 20))))
    (.ite (putG hd1 xs.2.1 []).1 (.ret (out25 (putG hd1 xs.2.1 []).2)) (.ret (ret25 (putG hd1 xs.2.1 []).2)))
noncomputable def L25 : Loops := fun j st => if j = 5 then S25.fn F25 st else .fail
theorem l25 : LoopOK Try.prog L25 b25 :=
  vloop_ok (L := L25) (L' := L0) nil_sound (loopsOK_of (by kernel_rfl)) S25 (F := F25) (i := 5) (by kernel_rfl) (fun _ => rfl) fun xs hs r h => by
    obtain ⟨u1, l, n, i, u⟩ := xs
    obtain ⟨o, u2⟩ := hs
    obtain ⟨h1, h2⟩ := Tr.chk_some h
    simp only [Bool.and_eq_true, decide_eq_true_eq] at h1
    obtain ⟨e1, e2, e3, e4⟩ := h1
    have e1 : n = (List.length (α := List Int) l : Int) := e1
    have e2 : i = ((0 : Nat) : Int) := e2
    have e3 : o = [] := List.eq_nil_of_length_eq_zero e3
    subst e1; subst e2; subst e3
    refine ⟨_, (k25 l e4 (List.length (α := List Int) l) 0 [] (Nat.zero_add _) (Nat.zero_le _)).trans ?_⟩
    simp only [List.drop_zero, end25]
    rcases Tr.ite_some h2 with ⟨hd, h2⟩ | ⟨hd, h2⟩
    · have hd : (putG hd1 l []).1 = true := hd
      rw [hd, ← Tr.ret_some h2]; rfl
    · have hd : (putG hd1 l []).1 = false := hd
      rw [hd, ← Tr.ret_some h2]; rfl

def putI (hd : List Int → List Int) (l : List (List Int)) : HL [bt, i64] :=
  bif decide ((l.length : Int) > 20) then ([], 7, ()) else (bif (putG hd l []).1 then ((putG hd l []).2, 0, ()) else ([], 7, ()))
def s25 : CSpec := .sl [ls] [bt, i64] fun x => putI hd1 x.1
theorem r25f (l : List (List Int)) : (fnS Try.prog (ctx []) L25 [bt, i64] Try.f37 (mkArgs [ls] (l, ()))).fold [bt, i64] = putI hd1 l := by kernel_rfl
theorem f25f (l : List (List Int)) : (fnS Try.prog (ctx []) L25 [bt, i64] Try.f37 (mkArgs [ls] (l, ()))).fine [bt, i64] =
    ((decide ((l.length : Int) = (l.length : Int)) && decide (l.length ≤ 20)) || decide ((l.length : Int) > 20)) := by kernel_rfl
theorem ok25 : CSound Try.prog 37 s25 ∧ CLocal s25 :=
  sl_ok (L := L25) nil_sound Try.func37 (by kernel_rfl) (fun b hb => by
    have : loopsOf (bodyOf Try.f37) = [b25] := by kernel_rfl
    rw [this] at hb
    rw [List.mem_singleton.1 hb]
    exact l25) (fun xs hx => by
      refine (f25f xs.1).trans ?_
      simp; omega) (fun xs hx => r25f xs.1)

/-! bartizanref09.Put -/

def S26 : VSpec := ⟨⟨[0, 4, 5], [2, 3, 4], 38, [ls, .vc 0 1, i64], [.vec 1 u8]⟩, [4]⟩
noncomputable def b26 : Code := loopAt Try.f98 0
def out26 (o : List Int) : Ex × St := (.exit 0, encS [4] [.vc 0 1] [.vec 1 u8] 38 ((), ()) (o, ()))
def ret26 (o : List Int) : Ex × St := (.ret, encS [2, 3, 4] [.nils, i64, .vc 0 1] [.vec 1 u8] 38 ((), (7 : Int), (), ()) (o, ()))
def G26 (xs : HL S26.Ts) (hs : HD S26.Es) : Tr S26.toLSpec.End :=
  let l : List (List Int) := xs.1
  let i := xs.2.2.1
  let o : List Int := hs.1
  let p : List Int := l.getD i.toNat []
  .ite (decide (i < (l.length : Int))) (.chk (inArr i l.length) (.ite (decide ((p.length : Int) > 500)) (.ret (.inr (ret26 o)))
    (.chk (room (o.length + 2) 1) (.chk (inArr i l.length) (.chk (room ((o ++ hd2 p).length + p.length) 1) (.ret (.inl ((l, (), w (i + 1), ()), ((o ++ hd2 p) ++ p, ())))))))))
    (.ret (.inr (out26 o)))
theorem r26 (l : List (List Int)) (i : Int) (o : List Int) : (S26.round (bodyK Try.prog (ctx []) L0 b26) (l, (), i, ()) (o, ())).eval = (G26 (l, (), i, ()) (o, ())).eval := by kernel_rfl

end Go.Proofs.Ytffdkniccaebmaa.Fld

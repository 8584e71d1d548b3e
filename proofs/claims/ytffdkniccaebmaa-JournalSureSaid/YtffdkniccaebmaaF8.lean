/- What the functions of layer 9 (field) give: parts as bytes, by the document; the parts of bytes. -/
import Derived.Test.YtffdkniccaebmaaF7
set_option linter.unusedVariables false
set_option maxRecDepth 100000
namespace Go.Proofs.Ytffdkniccaebmaa.Fld
open Go Vse Go.Proofs

def end26 (r : Bool × List Int) : Ex × St := bif r.1 then out26 r.2 else ret26 r.2

theorem k26 (l : List (List Int)) (hl : l.length ≤ 20) : ∀ (m k : Nat) (o : List Int), k + m = l.length → o.length ≤ 502 * k →
    S26.many (bodyK Try.prog (ctx []) L0 b26) (m + 1) (l, (), (k : Int), ()) (o, ()) = some (end26 (putG hd2 (l.drop k) o))
  | 0, k, o, h, ho => by
    have e1 : l.drop k = [] := List.drop_eq_nil_of_le (by omega)
    rw [e1]
    refine vmany_inr ((r26 l k o).trans ?_) 0
    simp only [G26, Tr.eval, decide_eq_false (show ¬ ((k : Int) < (l.length : Int)) by omega)]
    rfl
  | m + 1, k, o, h, ho => by
    have h1 : k < l.length := by omega
    rw [List.drop_eq_getElem_cons h1]
    have i1 : inArr (k : Int) l.length = true := by simp [inArr]; omega
    have g1 : l.getD k [] = l[k] := getD_cons h1 []
    simp only [putG]
    by_cases hn : (l[k].length : Int) > 500
    · rw [decide_eq_true hn]
      refine vmany_inr ((r26 l k o).trans ?_) (m + 1)
      simp only [G26, Tr.eval, Tr.chk, decide_eq_true (show ((k : Int) < (l.length : Int)) by omega), i1, Int.toNat_natCast, g1, decide_eq_true hn]
      rfl
    · rw [decide_eq_false hn]
      have hh : (hd2 l[k]).length = 2 := rfl
      have q1 : room (o.length + 2) 1 = true := by simp only [room, decide_eq_true_eq]; omega
      have q2 : room ((o ++ hd2 l[k]).length + l[k].length) 1 = true := by simp only [room, decide_eq_true_eq, List.length_append, hh]; omega
      refine (vmany_inl (d := ((l, (), ((k + 1 : Nat) : Int), ()), (o ++ hd2 l[k] ++ l[k], ()))) ((r26 l k o).trans ?_) (m + 1)).trans
        (k26 l hl m (k + 1) (o ++ hd2 l[k] ++ l[k]) (by omega) (by simp only [List.length_append, hh]; omega))
      simp only [G26, Tr.eval, Tr.chk, decide_eq_true (show ((k : Int) < (l.length : Int)) by omega), i1, Int.toNat_natCast, g1, decide_eq_false hn, q1, q2]
      rw [w_id (by omega) (by omega)]
      rfl

def F26 (xs : HL S26.Ts) (hs : HD S26.Es) : Tr (Ex × St) :=
  .chk (decide (xs.2.2.1 = (0 : Int)) && (decide (List.length (α := Int) hs.1 = 0) && decide (List.length (α := List Int) xs.1 ≤ 20)))
    (.ite (putG hd2 xs.1 []).1 (.ret (out26 (putG hd2 xs.1 []).2)) (.ret (ret26 (putG hd2 xs.1 []).2)))
noncomputable def L26 : Loops := fun j st => if j = 5 then S26.fn F26 st else .fail
theorem l26 : LoopOK Try.prog L26 b26 :=
  vloop_ok (L := L26) (L' := L0) nil_sound (loopsOK_of (by kernel_rfl)) S26 (F := F26) (i := 5) (by kernel_rfl) (fun _ => rfl) fun xs hs r h => by
    obtain ⟨l, u1, i, u⟩ := xs
    obtain ⟨o, u2⟩ := hs
    obtain ⟨h1, h2⟩ := Tr.chk_some h
    simp only [Bool.and_eq_true, decide_eq_true_eq] at h1
    obtain ⟨e2, e3, e4⟩ := h1
    have e2 : i = ((0 : Nat) : Int) := e2
    have e3 : o = [] := List.eq_nil_of_length_eq_zero e3
    subst e2; subst e3
    refine ⟨_, (k26 l e4 (List.length (α := List Int) l) 0 [] (Nat.zero_add _) (Nat.zero_le _)).trans ?_⟩
    simp only [List.drop_zero, end26]
    rcases Tr.ite_some h2 with ⟨hd, h2⟩ | ⟨hd, h2⟩
    · have hd : (putG hd2 l []).1 = true := hd
      rw [hd, ← Tr.ret_some h2]; rfl
    · have hd : (putG hd2 l []).1 = false := hd
      rw [hd, ← Tr.ret_some h2]; rfl

def s26 : CSpec := .sl [ls] [bt, i64] fun x => putI hd2 x.1
theorem r26f (l : List (List Int)) : (fnS Try.prog (ctx []) L26 [bt, i64] Try.f98 (mkArgs [ls] (l, ()))).fold [bt, i64] = putI hd2 l := by kernel_rfl
theorem f26f (l : List (List Int)) : (fnS Try.prog (ctx []) L26 [bt, i64] Try.f98 (mkArgs [ls] (l, ()))).fine [bt, i64] = (decide (l.length ≤ 20) || decide ((l.length : Int) > 20)) := by kernel_rfl
theorem ok26 : CSound Try.prog 98 s26 ∧ CLocal s26 :=
  sl_ok (L := L26) nil_sound Try.func98 (by kernel_rfl) (fun b hb => by
    have : loopsOf (bodyOf Try.f98) = [b26] := by kernel_rfl
    rw [this] at hb
    rw [List.mem_singleton.1 hb]
    exact l26) (fun xs hx => by
      refine (f26f xs.1).trans ?_
      simp; omega) (fun xs hx => r26f xs.1)

/-! field.Split -/

def CS : List (Nat × CSpec) := [(86, s58)]
theorem CS_sound : CtxSound Try.prog (ctx CS) ∧ CtxLocal (ctx CS) := ctx_sound ⟨ok58, trivial⟩

def S27 : VSpec := ⟨⟨[0, 4], [2, 3, 4], 48, [bs, .vc 0 1], [.vec 1 bt]⟩, [4]⟩
noncomputable def b27 : Code := loopAt Try.f38 0
def out27 (o : List (List Int)) : Ex × St := (.exit 0, encS [4] [.vc 0 1] [.vec 1 bt] 48 ((), ()) (o, ()))
def ret27 (c : Int) (o : List (List Int)) : Ex × St := (.ret, encS [2, 3, 4] [.nils, i64, .vc 0 1] [.vec 1 bt] 48 ((), c, (), ()) (o, ()))
def from_ (b : List Int) (k : Int) : List Int := (b.take (b.length : Int).toNat).drop k.toNat
def G27 (xs : HL S27.Ts) (hs : HD S27.Es) : Tr S27.toLSpec.End :=
  let b : List Int := xs.1
  let o : List (List Int) := hs.1
  let n : Int := orI .i64 (shlI .i64 (w (b.getD 0 0)) 8) (w (b.getD 1 0))
  let c := from_ b 2
  let d := (c.take n.toNat).drop 0
  let Z : Tr S27.toLSpec.End := .ret (.inl ((from_ c n, (), ()), (o ++ [d], ())))
  let Y : Tr S27.toLSpec.End := .chk (decide (0 ≤ n) && decide (n ≤ (c.length : Int))) (.chk (decide (d.length ≤ 140737488355328)) (.chk (room (o.length + 1) 24)
    (.chk (decide (0 ≤ n) && (decide (n ≤ (c.length : Int)) && decide ((c.length : Int) ≤ (c.length : Int)))) Z)))
  let X : Tr S27.toLSpec.End := .ite (decide (n > 500)) (.ret (.inr (ret27 7 o))) (.ite ((o.length : Int) == 20) (.ret (.inr (ret27 7 o))) (.ite (decide (n > (c.length : Int))) (.ret (.inr (ret27 2 o))) Y))
  let V : Tr S27.toLSpec.End := .chk (inArr 0 b.length) (.chk (inArr 1 b.length) (.chk (decide ((2 : Int) ≤ (b.length : Int)) && decide ((b.length : Int) ≤ (b.length : Int))) X))
  .ite (decide ((b.length : Int) > 0)) (.ite (decide ((b.length : Int) < 2)) (.ret (.inr (ret27 2 o))) V) (.ret (.inr (out27 o)))
theorem r27 (b : List Int) (o : List (List Int)) : (S27.round (bodyK Try.prog (ctx CS) L0 b27) (b, (), ()) (o, ())).eval = (G27 (b, (), ()) (o, ())).eval := by kernel_rfl

end Go.Proofs.Ytffdkniccaebmaa.Fld

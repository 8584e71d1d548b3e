/- Keys of keys, codes that are the same (layer 2, mac): what they are. -/
import Derived.Test.YtlkddajnebjlcaaK4
set_option linter.unusedVariables false
set_option maxRecDepth 100000
namespace Go.Proofs.Ytlkddajnebjlcaa.Mac
open Go Vse Go.Proofs Gen
open Sha hiding wb wu getD_cons

theorem outL_len (s : List Int) : ∀ (m i : Nat) (q : List Int), (outL s i m q).length = q.length
  | 0, i, q => rfl
  | m + 1, i, q => by rw [outL, outL_len s m, List.length_set]
theorem outF_len (s q : List Int) : (outF s q).length = q.length := outL_len s 32 0 q
theorem shaF_len (b : List Int) : (shaF b).length = 32 := by
  rw [shaF_hash]
  unfold sumH
  rw [outF_len]
  rfl
theorem macF_len (key b : List Int) : (macF key b).length = 32 := shaF_len _
theorem all_id {n : Nat} {l : List Int} (h : l.length = n) : all n l = l := by
  subst h
  unfold all
  rw [List.drop_zero, List.take_length]
theorem bytesStr_size (l : List Int) : (bytesStr l).size = l.length := by
  have : ∀ (l : List Int) (r : ByteArray), (l.foldl (fun r n => r.push (UInt8.ofNat n.toNat)) r).size = r.size + l.length := by
    intro l
    induction l with
    | nil => intro r; rfl
    | cons x l ih => intro r; rw [List.foldl_cons, ih, ByteArray.size_push, List.length_cons]; omega
  have := this l ByteArray.empty
  rw [show ByteArray.empty.size = 0 from rfl, Nat.zero_add] at this
  exact this

/-! Extract -/

abbrev macL : Mc := fun k l => macF k (List.flatten l)
abbrev CN : Ctx := ctx (cN macP macL)
theorem cN_sound : CtxSound Try.prog CN ∧ CtxLocal CN := ctx_sound ⟨ok29, trivial⟩
def oneP (key b : List Int) : Bool := decide (key.length ≤ 1000000) && decide (b.length ≤ 1000000)
def s34 : CSpec := .slp1 [bs, bt] (fun x => oneP x.1 x.2.1) d32 fun x => macF x.1 x.2.1
theorem ok34 : CSound Try.prog 34 s34 ∧ CLocal s34 :=
  slpE1 (L := L0) cN_sound Try.func34 (by kernel_rfl) (noLoopsL (by kernel_rfl)) fun xs hx hp => by
    obtain ⟨salt, key, u⟩ := xs
    have hp : oneP salt key = true := hp
    simp only [oneP, Bool.and_eq_true, decide_eq_true_eq] at hp
    have e1 : macP salt [key] = true := by simp only [macP, tot, List.map_cons, List.map_nil, List.sum_cons, List.sum_nil, List.length_cons, List.length_nil, Bool.and_eq_true, decide_eq_true_eq]; omega
    have e2 : (T34 macP macL salt key).eval = some (.v d32 (macF salt key)) := by
      unfold T34
      rw [chk_eval e1]
      show some (AV.v d32 (macF salt [key].flatten)) = _
      rw [List.flatten_cons, List.flatten_nil, List.append_nil]
    exact (t34 macP macL salt key).trans e2

/-! Expand -/

def blkE (key : List Int) (s : ByteArray) (last : List Int) (n : Int) : List Int := macF key [last, strBytes s, [n]].flatten
def expL (key : List Int) (s : ByteArray) (many : Int) : Nat → List Int → Int → List Int → List Int
  | 0, _, _, out => out
  | f + 1, last, n, out => if (out.length : Int) < many then expL key s many f (blkE key s last n) (wb (n + 1)) (out ++ blkE key s last n) else out
def expX (key : List Int) (s : ByteArray) (many : Int) : List Int := expL key s many 255 [] 1 []
def cE1 (key : List Int) (s : ByteArray) (many : Int) (last : List Int) (n : Int) (out : List Int) : Bool :=
  decide (last = []) && (decide (n = 1) && (decide (out = []) && (decide (many ≤ 8160) && (decide (key.length ≤ 1000000) && decide (s.size ≤ 100000)))))

theorem mE {key : List Int} {s : ByteArray} (hk : key.length ≤ 1000000) (hs : s.size ≤ 100000) (many : Int) (hm : many ≤ 8160) : ∀ (f : Nat) (last : List Int) (n : Int) (out : List Int), many ≤ (out.length : Int) + 32 * f → last.length ≤ 32 → 
    SE.many (bodyK Try.prog CN L0 bE) (f + 1) (key, s, many, (), last, n, ()) (out, ()) = some (.exit 0, encS [2, 8] [i64, .vc 0 0] [.vec 0 u8] 40 (many, (), ()) (expL key s many f last n out, ()))
  | 0, last, n, out, h, hl => by
    refine rmany_inr ((rE macP macL key s many last n out).trans ?_) 0
    unfold GE
    rw [ite_f (decide_eq_false (by omega))]
    rfl
  | f + 1, last, n, out, h, hl => by
    by_cases hc : (out.length : Int) < many
    · have hb : all 32 (macL key [last, strBytes s, [n]]) = blkE key s last n := all_id (macF_len _ _)
      have hbl : (blkE key s last n).length = 32 := macF_len _ _
      refine (rmany_inl (d := ((key, s, many, (), blkE key s last n, wb (n + 1), ()), (out ++ blkE key s last n, ()))) ((rE macP macL key s many last n out).trans ?_) (f + 1)).trans
        ((mE hk hs many hm f (blkE key s last n) (wb (n + 1)) (out ++ blkE key s last n) (by rw [List.length_append, hbl]; omega) (by omega)).trans ?_)
      · have e1 : macP key [last, strBytes s, [n]] = true := by
          have := strBytes_len s
          simp only [macP, tot, List.map_cons, List.map_nil, List.sum_cons, List.sum_nil, List.length_cons, List.length_nil, Bool.and_eq_true, decide_eq_true_eq]
          omega
        have e2 : Vse.room (out.length + (blkE key s last n).length) 1 = true := by simp only [Vse.room, decide_eq_true_eq]; omega
        unfold GE
        simp only [hb]
        rw [ite_t (decide_eq_true hc), chk_eval e1, chk_eval e2]
        rfl
      · simp only [expL]
        rw [if_pos hc]
    · refine rmany_inr ((rE macP macL key s many last n out).trans ?_) (f + 1)
      unfold GE
      rw [ite_f (decide_eq_false hc)]
      simp only [expL]
      rw [if_neg hc]
      rfl

theorem lE : LoopOK Try.prog (LE cE1 expX) bE :=
  rloop_ok (L := LE cE1 expX) (L' := L0) cN_sound (loopsOK_of (by kernel_rfl)) SE (F := FE cE1 expX) (i := 5) (by kernel_rfl) (fun _ => rfl) fun xs hs r h => by
    obtain ⟨key, s, many, u1, last, n, u2⟩ := xs
    obtain ⟨out, u3⟩ := hs
    obtain ⟨h1, h2⟩ := Tr.chk_some h
    simp only [cE1, Bool.and_eq_true, decide_eq_true_eq] at h1
    obtain ⟨e1, e2, e3, e4, e5, e6⟩ := h1
    subst e1; subst e2; subst e3
    exact ⟨_, (mE e5 e6 many e4 255 [] 1 [] (by rw [List.length_nil]; omega) (by simp)).trans (congrArg some (Tr.ret_some h2))⟩

theorem expL_len (key : List Int) (s : ByteArray) (many : Int) : ∀ (f : Nat) (last : List Int) (n : Int) (out : List Int), many ≤ (out.length : Int) + 32 * f → many ≤ ((expL key s many f last n out).length : Int)
  | 0, last, n, out, h => by simp only [expL]; omega
  | f + 1, last, n, out, h => by
    simp only [expL]
    by_cases hc : (out.length : Int) < many
    · have hbl : (blkE key s last n).length = 32 := macF_len _ _
      rw [if_pos hc]
      exact expL_len key s many f _ _ _ (by rw [List.length_append, hbl]; omega)
    · rw [if_neg hc]; omega

def expP (key : List Int) (s : ByteArray) : Bool := decide (key.length ≤ 1000000) && decide (s.size ≤ 100000)
def expF (key : List Int) (s : ByteArray) (many : Int) : List Int × Int × Unit := if many < 0 ∨ many > 8160 then ([], 1, ()) else ((expX key s many).take many.toNat, 0, ())
def s30 : CSpec := .pos nE (fun xs _ => expP xs.1 xs.2.1) fun xs _ => (expF xs.1 xs.2.1 xs.2.2.1, ())

theorem TE_eq {key : List Int} {s : ByteArray} (hp : expP key s = true) (many : Int) : (TE cE1 expX key s many).eval = some (expF key s many, ()) := by
  simp only [expP, Bool.and_eq_true, decide_eq_true_eq] at hp
  unfold TE expF
  simp only
  by_cases h1 : many < 0
  · rw [ite_t (decide_eq_true h1), if_pos (.inl h1)]; rfl
  rw [ite_f (decide_eq_false h1)]
  by_cases h2 : many > 8160
  · rw [ite_t (decide_eq_true h2), if_pos (.inr h2)]; rfl
  rw [ite_f (decide_eq_false h2), if_neg (by omega)]
  have e1 : cE1 key s many [] 1 [] = true := by
    simp only [cE1, Bool.and_eq_true, decide_eq_true_eq, true_and]
    omega
  have e2 := expL_len key s many 255 [] 1 [] (by rw [List.length_nil]; omega)
  have e3 : (decide ((0 : Int) ≤ 0) && (decide (0 ≤ many) && (decide True && decide (many ≤ ((expX key s many).length : Int))))) = true := by
    simp only [Bool.and_eq_true, decide_eq_true_eq, true_and]
    exact ⟨by omega, by omega, e2⟩
  rw [chk_eval e1, chk_eval e3]
  show some ((((expX key s many).take many.toNat).drop 0, (0 : Int), ()), ()) = _
  rw [List.drop_zero]

theorem ok30 : CSound Try.prog 30 s30 ∧ CLocal s30 :=
  pos_sound (L := LE cE1 expX) cN_sound Try.func30 (by kernel_rfl) (loops1 (by kernel_rfl) lE) fun xs hs _ _ hp => by
    obtain ⟨key, s, many, u⟩ := xs
    exact (tE macP macL cE1 expX key s many).trans (TE_eq hp many)

/-! Equal -/

def orF : List Int → List Int → Int → Int
  | x :: a, y :: b, u => orF a b (orI .u8 u (xorI .u8 x y))
  | _, _, u => u
def cQ (b : List Int) (u : Int) (a : List Int) (n i : Int) : Bool := decide (u = 0) && (decide (n = (a.length : Int)) && (decide (i = 0) && (decide (a.length = b.length) && decide (a.length ≤ 9223372036854775807))))
def orX (a b : List Int) : Int := orF a b 0

theorem mQ (a b : List Int) (hab : a.length = b.length) (hm : a.length ≤ 9223372036854775807) : ∀ (m k : Nat) (u : Int), k + m = a.length →
    SQ.many (bodyK Try.prog (ctx []) L0 bQ) (m + 1) (b, u, a, (a.length : Int), (k : Int), ()) () = some (.exit 0, encS [5] [u8] [] 31 (orF (a.drop k) (b.drop k) u, ()) ())
  | 0, k, u, h => by
    refine rmany_inr ((rQ b u a a.length k).trans ?_) 0
    unfold GQ
    rw [ite_f (decide_eq_false (by omega)), List.drop_eq_nil_of_le (by omega : a.length ≤ k)]
    rfl
  | m + 1, k, u, h => by
    have h1 : k < a.length := by omega
    have h2 : k < b.length := by omega
    have w0 : w ((k : Int) + 1) = ((k + 1 : Nat) : Int) := (w_id (by omega) (by omega)).trans (by omega)
    have g1 : a.getD k 0 = a[k] := Gen.getD_cons h1 0
    have g2 : b.getD k 0 = b[k] := Gen.getD_cons h2 0
    refine (rmany_inl (d := ((b, orI .u8 u (xorI .u8 a[k] b[k]), a, (a.length : Int), ((k + 1 : Nat) : Int), ()), ())) ((rQ b u a a.length k).trans ?_) (m + 1)).trans ((mQ a b hab hm m (k + 1) _ (by omega)).trans ?_)
    · unfold GQ
      rw [ite_t (decide_eq_true (show (k : Int) < (a.length : Int) by omega)), chk_eval (inArr_nat h1), chk_eval (inArr_nat h2), Int.toNat_natCast, g1, g2, w0]
      rfl
    · rw [List.drop_eq_getElem_cons h1, List.drop_eq_getElem_cons h2]
      rfl

theorem lQ : LoopOK Try.prog (LQ cQ orX) bQ :=
  rloop_ok (L := LQ cQ orX) (L' := L0) nil_sound (loopsOK_of (by kernel_rfl)) SQ (F := FQ cQ orX) (i := 5) (by kernel_rfl) (fun _ => rfl) fun xs hs r h => by
    obtain ⟨b, u, a, n, i, u1⟩ := xs
    obtain ⟨h1, h2⟩ := Tr.chk_some h
    simp only [cQ, Bool.and_eq_true, decide_eq_true_eq] at h1
    obtain ⟨e1, e2, e3, e4, e5⟩ := h1
    have e2 : n = ((List.length (α := Int) a : Nat) : Int) := e2
    have e3 : i = ((0 : Nat) : Int) := e3
    subst e1; subst e2; subst e3
    exact ⟨_, (mQ a b e4 e5 (List.length (α := Int) a) 0 0 (by omega)).trans (congrArg some (Tr.ret_some h2))⟩

def eqF (a b : List Int) : Bool := bif (a.length : Int) != (b.length : Int) then false else orX a b == 0
def s31 : CSpec := .slp1 [bs, bs] (fun _ => true) .bool fun x => eqF x.1 x.2.1
theorem ok31 : CSound Try.prog 31 s31 ∧ CLocal s31 :=
  slpE1 (L := LQ cQ orX) nil_sound Try.func31 (by kernel_rfl) (loops1 (by kernel_rfl) lQ) fun xs hx hp => by
    obtain ⟨a, b, u⟩ := xs
    have hl : List.length (α := Int) a ≤ 9223372036854775807 := hx.1.1
    refine (tQ cQ orX a b).trans ?_
    have : (TQ cQ orX a b).eval = some (.v .bool (eqF a b)) := by
      unfold TQ eqF
      by_cases h : List.length (α := Int) a = List.length (α := Int) b
      · have e1 : ((List.length (α := Int) a : Int) != (List.length (α := Int) b : Int)) = false := by simp [h]
        have e2 : cQ b 0 a (List.length (α := Int) a : Int) 0 = true := by
          simp only [cQ, Bool.and_eq_true, decide_eq_true_eq, true_and]
          exact ⟨h, hl⟩
        rw [ite_f e1, chk_eval e2, e1]
        rfl
      · have e1 : ((List.length (α := Int) a : Int) != (List.length (α := Int) b : Int)) = true := by simp; omega
        rw [ite_t e1, e1]
        rfl
    exact this

end Go.Proofs.Ytlkddajnebjlcaa.Mac

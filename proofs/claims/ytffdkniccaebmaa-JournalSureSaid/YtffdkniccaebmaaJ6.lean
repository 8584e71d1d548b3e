/- Records that are kept (layer 14, journal): what Only and Open make. -/
import Derived.Test.YtffdkniccaebmaaJ5
set_option linter.unusedVariables false
set_option linter.unusedSimpArgs false
set_option maxRecDepth 100000
namespace Go.Proofs.Ytffdkniccaebmaa.Jnl
open Go Vse Go.Proofs Gen
open Sto (stT D R1 R0 rdyF appF syncF repF appP)
open Fld (lenN or_bytes Bytes bytes_get bytes_drop)

/-! these alone -/

def bigF (l : List (List Int)) : Bool := l.any fun b => decide ((b.length : Int) > 1000)
def alF (l : List (List Int)) : List Int := flat (l.map laidF)
theorem al_nil : alF [] = [] := rfl
theorem al_cons (b : List Int) (l : List (List Int)) : alF (b :: l) = laidF b ++ alF l := by unfold alF flat; simp
theorem al_snoc (l : List (List Int)) (b : List Int) : alF (l ++ [b]) = alF l ++ laidF b := by unfold alF flat; simp
theorem al_append (l m : List (List Int)) : alF (l ++ m) = alF l ++ alF m := by unfold alF flat; simp
abbrev cOnS : List (Nat × CSpec) := cOn okLd laidF (fun x _ => Vse.room x.length 1) (repF rdyF) okR
theorem cOn_sound : CtxSound Try.prog (ctx cOnS) ∧ CtxLocal (ctx cOnS) := ctx_sound ⟨okLa, Sto.ok51, okDi, okCp, trivial⟩
def cOnF : Con := fun h o l l2 n i => decide (o.length = 0) && (decide (l2 = l) && (decide (n = (l.length : Int)) && (decide (i = 0) && decide (l.length ≤ 1000000))))
theorem mOn (h : JD) (l : List (List Int)) (hl : l.length ≤ 1000000) : ∀ (m k : Nat), k + m = l.length → (alF (l.take k)).length ≤ 1010 * k →
    SOn.many (bodyK Try.prog (ctx cOnS) L0 bOn) (m + 1) ((), l, (), l, (l.length : Int), (k : Int), ()) (hdO h (alF (l.take k))) =
      if bigF (l.drop k) = true then some (.ret, encS [4] [i64] (jE 0 ++ [.dead]) 43 ((7 : Int), ()) h) else some (.exit 0, encS [0, 1, 5] [.ptr 0 [], Gen.ls, .vc 4 0] jD 43 ((), l, (), ()) (hdO h (alF l)))
  | 0, k, hk, ho => by
    rw [List.take_of_length_le (by omega), List.drop_eq_nil_of_le (by omega), if_neg (by simp [bigF])]
    refine rmany_inr ((rOn okLd laidF _ _ okR h l l (alF l) _ _).trans ?_) 0
    unfold GOn
    dsimp only
    rw [ite_f (decide_eq_false (by omega))]
    rfl
  | m + 1, k, hk, ho => by
    have h1 : k < l.length := by omega
    have ht : l.take (k + 1) = l.take k ++ [l[k]] := by rw [List.take_add_one, List.getElem?_eq_getElem h1]; rfl
    have hd := List.drop_eq_getElem_cons h1
    by_cases hb : (l[k].length : Int) > 1000
    · rw [if_pos (by rw [hd]; unfold bigF; rw [List.any_cons, decide_eq_true hb]; rfl)]
      refine rmany_inr ((rOn okLd laidF _ _ okR h l l _ _ _).trans ?_) _
      unfold GOn
      dsimp only
      rw [Int.toNat_natCast, getD_of h1, ite_t (decide_eq_true (by omega)), chk_eval (inArr_of h1), ite_t (decide_eq_true hb)]
      rfl
    · have e1 : bigF (l.drop k) = bigF (l.drop (k + 1)) := by rw [hd]; unfold bigF; rw [List.any_cons, decide_eq_false hb, Bool.false_or]
      have e2 : (alF (l.take (k + 1))).length ≤ 1010 * (k + 1) := by rw [ht, al_snoc, List.length_append, laid_len]; omega
      rw [e1]
      refine (rmany_inl (d := (((), l, (), l, (l.length : Int), ((k + 1 : Nat) : Int), ()), hdO h (alF (l.take (k + 1))))) ((rOn okLd laidF _ _ okR h l l _ _ _).trans ?_) (m + 1)).trans (mOn h l hl m (k + 1) (by omega) e2)
      unfold GOn
      dsimp only
      rw [Int.toNat_natCast, getD_of h1, ite_t (decide_eq_true (by omega)), chk_eval (inArr_of h1), ite_f (decide_eq_false hb), chk_eval (show okLd l[k] = true from decide_eq_true (by omega)),
        chk_eval (by rw [laid_len]; simp only [Vse.room, decide_eq_true_eq]; omega), w_succ h1 (by omega), ht, al_snoc]
      rfl
theorem lOn : LoopOK Try.prog (LOn cOnF bigF alF) bOn :=
  rloop_ok (L := LOn cOnF bigF alF) (L' := L0) cOn_sound (loopsOK_of (by kernel_rfl)) SOn (F := FOn cOnF bigF alF) (i := 5) (by kernel_rfl) (fun _ => rfl) fun xs hs q hq => by
    obtain ⟨u1, l, u2, l2, n, i, u3⟩ := xs
    obtain ⟨a, b, c, d, o, u4⟩ := hs
    obtain ⟨h1, h2⟩ := Tr.chk_some hq
    simp only [cOnF, Bool.and_eq_true, decide_eq_true_eq] at h1
    obtain ⟨e1, e2, hn, e3, hl⟩ := h1
    have e1 : o = ([] : List Int) := List.eq_nil_of_length_eq_zero e1
    have e2 : l2 = l := e2
    have hn : n = ((List.length (α := List Int) l : Nat) : Int) := hn
    have e3 : i = ((0 : Nat) : Int) := e3
    subst e1; subst e2; subst hn; subst e3
    refine ⟨_, (mOn (a, b, c, d, ()) l2 hl (List.length (α := List Int) l2) 0 (by omega) (Nat.zero_le _)).trans ?_⟩
    rw [List.drop_zero]
    rcases Tr.ite_some h2 with ⟨hx, h3⟩ | ⟨hx, h3⟩
    · have hx : bigF l2 = true := hx
      rw [if_pos hx]
      exact congrArg some (Tr.ret_some h3)
    · have hx : bigF l2 = false := hx
      rw [if_neg (by rw [hx]; simp)]
      exact congrArg some (Tr.ret_some h3)
def onF (l : List (List Int)) (h : JD) : RJ :=
  if h.1.2.2.1 = true then ej 8 h else if bigF l = true then ej 7 h else
    if (repF rdyF (alF l) (stD h)).1.1 = 0 then ej 0 (putS false (repF rdyF (alF l) (stD h)).2 l)
    else ej (repF rdyF (alF l) (stD h)).1.1 (putS (broke (repF rdyF (alF l) (stD h)).1.1) (repF rdyF (alF l) (stD h)).2 h.2.2.1)
def onP (l : List (List Int)) : Bool := decide (l.length ≤ 1000000)
theorem al_le : ∀ (l : List (List Int)), bigF l = false → (alF l).length ≤ 1010 * l.length
  | [], _ => Nat.le_refl _
  | b :: l, h => by
    unfold bigF at h
    rw [List.any_cons, Bool.or_eq_false_iff] at h
    have h1 := of_decide_eq_false h.1
    have := al_le l h.2
    rw [al_cons, List.length_append, laid_len, List.length_cons]; omega
theorem big_all : ∀ (l : List (List Int)), bigF l = false → l.all okC = true
  | [], _ => rfl
  | b :: l, h => by
    unfold bigF at h
    rw [List.any_cons, Bool.or_eq_false_iff] at h
    have h1 := of_decide_eq_false h.1
    rw [List.all_cons, big_all l h.2, show okC b = true from decide_eq_true (by omega)]; rfl
theorem TOn_eq (l : List (List Int)) (h : JD) (hp : onP l = true) : (TOn cOnF bigF alF (fun x _ => Vse.room x.length 1) (repF rdyF) okR l h).eval = some (onF l h) := by
  have hl : l.length ≤ 1000000 := of_decide_eq_true hp
  unfold TOn onF
  dsimp only
  cases h0 : h.1.2.2.1 with
  | true => rw [ite_t rfl, if_pos rfl]; rfl
  | false =>
    rw [ite_f rfl, if_neg (by simp), chk_eval (by unfold cOnF; rw [decide_eq_true hl]; simp)]
    cases hb : bigF l with
    | true => rw [ite_t rfl, if_pos rfl]; rfl
    | false =>
      have ha := al_le l hb
      rw [ite_f rfl, if_neg (by simp), chk_eval (by simp only [Vse.room, decide_eq_true_eq]; omega)]
      generalize repF rdyF (alF l) (stD h) = q
      by_cases h2 : q.1.1 = 0
      · rw [ite_f (by simp [h2]), if_pos h2, chk_eval (by unfold okR; rw [big_all l hb, decide_eq_true (by omega)]; rfl), h2]
        rfl
      · rw [ite_t (by simp [h2]), if_neg h2]; rfl
def sOn : CSpec := .pos (nJ [Gen.ls] [i64] 1) (fun xs _ => onP xs.2.1) fun xs h => onF xs.2.1 h
theorem okOn : CSound Try.prog 44 sOn ∧ CLocal sOn :=
  pos_sound (L := LOn cOnF bigF alF) cOn_sound Try.func44 (by kernel_rfl) (loops1 (by kernel_rfl) lOn) fun xs hs hx hh hp => by
    obtain ⟨u1, l, u⟩ := xs
    exact (tOn cOnF bigF alF okLd laidF _ (repF rdyF) okR l hs).trans (TOn_eq l hs hp)

/-! what bytes hold -/

theorem mOp_eq {r : List Int} (h : Bytes r) : mOp r = lenN r := or_bytes (bytes_get h 0) (bytes_get h 1)
theorem lenN_pos {r : List Int} (h : Bytes r) : 0 ≤ lenN r ∧ lenN r < 65536 := by
  have := bytes_get h 0
  have := bytes_get h 1
  unfold lenN; omega
/-- the first record of bytes -/
def recF (r : List Int) : List Int := (r.take (10 + (lenN r).toNat)).drop 10
/-- records, and what is behind them; none: one is wrong -/
def scan : Nat → List Int → Option (List (List Int) × List Int)
  | 0, r => some ([], r)
  | n + 1, r => if r.length ≥ 2 then (if lenN r > 1000 then none else if r.length < 10 + (lenN r).toNat then some ([], r) else
      if laidF (recF r) = r.take (10 + (lenN r).toNat) then (match scan n (r.drop (10 + (lenN r).toNat)) with
        | some q => some (recF r :: q.1, q.2)
        | none => none) else none) else some ([], r)
def outOp (all : List Int) (h : Hop) : Option (List (List Int) × List Int) → Ex × St
  | some q => exOp all q.2 (h.1, h.2.1, h.2.2.1, h.2.2.2.1 ++ q.1, ())
  | none => erOp h
theorem mOpF (all : List Int) : ∀ (m : Nat) (r : List Int) (h : Hop), Bytes r → r.length ≤ m → m ≤ 1000000000 → h.2.2.2.1.length + r.length ≤ 2000000000 →
    SOp.many (bodyK Try.prog (ctx (cOp okLd laidF sameF okC (fun d => Vse.room (Sto.D.b d).length 1) (fun x _ => Vse.room x.length 1) (repF rdyF))) L0 bOp) (m + 1) ((), (), all, r, ()) h = some (outOp all h (scan m r))
  | 0, r, h, hb, hr, hm, hl => by
    have hz : r = [] := List.eq_nil_of_length_eq_zero (by omega)
    subst hz
    refine rmany_inr ((rOp _ _ _ _ _ _ _ all [] h).trans ?_) 0
    unfold GOp
    dsimp only
    rw [ite_f (show (decide (((([] : List Int).length : Nat) : Int) ≥ 2)) = false from rfl)]
    show _ = some (Sum.inr (exOp all [] (h.1, h.2.1, h.2.2.1, h.2.2.2.1 ++ [], ())))
    rw [List.append_nil]
    rfl
  | m + 1, r, h, hb, hr, hm, hl => by
    have hn := lenN_pos hb
    have hw : w (10 + mOp r) = ((10 + (lenN r).toNat : Nat) : Int) := by rw [mOp_eq hb, w_id (by omega) (by omega)]; omega
    have hrec : recOp r = recF r := by unfold recOp recF; rw [hw, Int.toNat_natCast]
    by_cases h2 : r.length ≥ 2
    · have hh : (decide ((r.length : Int) ≥ 2)) = true := decide_eq_true (by omega)
      rw [scan, if_pos h2]
      by_cases h3 : lenN r > 1000
      · rw [if_pos h3]
        refine rmany_inr ((rOp _ _ _ _ _ _ _ all r h).trans ?_) _
        unfold GOp
        dsimp only
        rw [ite_t hh, chk_eval (show inArr 0 r.length = true from inArr_of (k := 0) (by omega)), chk_eval (show inArr 1 r.length = true from inArr_of (k := 1) (by omega)), ite_t (by rw [mOp_eq hb]; exact decide_eq_true h3)]
        rfl
      · rw [if_neg h3]
        by_cases h4 : r.length < 10 + (lenN r).toNat
        · rw [if_pos h4]
          refine rmany_inr ((rOp _ _ _ _ _ _ _ all r h).trans ?_) _
          unfold GOp
          dsimp only
          rw [ite_t hh, chk_eval (show inArr 0 r.length = true from inArr_of (k := 0) (by omega)), chk_eval (show inArr 1 r.length = true from inArr_of (k := 1) (by omega)), ite_f (by rw [mOp_eq hb]; exact decide_eq_false h3), hw, ite_t (decide_eq_true (by omega))]
          show _ = some (Sum.inr (exOp all r (h.1, h.2.1, h.2.2.1, h.2.2.2.1 ++ [], ())))
          rw [List.append_nil]
          rfl
        · rw [if_neg h4]
          have hrl : (recF r).length ≤ 1000 := by unfold recF; rw [List.length_drop, List.length_take]; omega
          by_cases h5 : laidF (recF r) = r.take (10 + (lenN r).toNat)
          · rw [if_pos h5]
            have hdl : (r.drop (10 + (lenN r).toNat)).length = r.length - (10 + (lenN r).toNat) := List.length_drop
            refine (rmany_inl (d := (((), (), all, r.drop (10 + (lenN r).toNat), ()), (h.1, h.2.1, h.2.2.1, h.2.2.2.1 ++ [recF r], ()))) ((rOp _ _ _ _ _ _ _ all r h).trans ?_) (m + 1)).trans
              ((mOpF all m (r.drop (10 + (lenN r).toNat)) (h.1, h.2.1, h.2.2.1, h.2.2.2.1 ++ [recF r], ()) (bytes_drop hb _) (by omega) (by omega) ?_).trans ?_)
            · unfold GOp
              dsimp only
              rw [ite_t hh, chk_eval (show inArr 0 r.length = true from inArr_of (k := 0) (by omega)), chk_eval (show inArr 1 r.length = true from inArr_of (k := 1) (by omega)), ite_f (by rw [mOp_eq hb]; exact decide_eq_false h3), hw, ite_f (decide_eq_false (by omega)), hrec,
                chk_eval (by rw [Bool.and_eq_true, decide_eq_true_eq, decide_eq_true_eq]; omega), chk_eval (show okLd (recF r) = true from decide_eq_true (by omega)), chk_eval (by rw [Bool.and_eq_true, decide_eq_true_eq, decide_eq_true_eq]; omega),
                Int.toNat_natCast, List.drop_zero, ite_f (by rw [show sameF (laidF (recF r)) (r.take (10 + (lenN r).toNat)) = true from decide_eq_true h5]; rfl), chk_eval (show okC (recF r) = true from decide_eq_true (by omega)),
                chk_eval (by simp only [Vse.room, decide_eq_true_eq]; omega), chk_eval (by simp only [Bool.and_eq_true, decide_eq_true_eq]; omega), List.take_of_length_le (Nat.le_refl _)]
              rfl
            · show (h.2.2.2.1 ++ [recF r]).length + _ ≤ _
              rw [List.length_append, hdl]
              show h.2.2.2.1.length + 1 + _ ≤ _
              omega
            · cases hs : scan m (r.drop (10 + (lenN r).toNat)) with
              | none => rfl
              | some q =>
                show some (exOp all q.2 (h.1, h.2.1, h.2.2.1, (h.2.2.2.1 ++ [recF r]) ++ q.1, ())) = some (exOp all q.2 (h.1, h.2.1, h.2.2.1, h.2.2.2.1 ++ (recF r :: q.1), ()))
                rw [List.append_assoc]; rfl
          · rw [if_neg h5]
            refine rmany_inr ((rOp _ _ _ _ _ _ _ all r h).trans ?_) _
            unfold GOp
            dsimp only
            rw [ite_t hh, chk_eval (show inArr 0 r.length = true from inArr_of (k := 0) (by omega)), chk_eval (show inArr 1 r.length = true from inArr_of (k := 1) (by omega)), ite_f (by rw [mOp_eq hb]; exact decide_eq_false h3), hw, ite_f (decide_eq_false (by omega)), hrec,
                chk_eval (by rw [Bool.and_eq_true, decide_eq_true_eq, decide_eq_true_eq]; omega), chk_eval (show okLd (recF r) = true from decide_eq_true (by omega)), chk_eval (by rw [Bool.and_eq_true, decide_eq_true_eq, decide_eq_true_eq]; omega),
                Int.toNat_natCast, List.drop_zero, ite_t (by rw [show sameF (laidF (recF r)) (r.take (10 + (lenN r).toNat)) = false from decide_eq_false h5]; rfl)]
            rfl
    · rw [scan, if_neg h2]
      refine rmany_inr ((rOp _ _ _ _ _ _ _ all r h).trans ?_) _
      unfold GOp
      dsimp only
      rw [ite_f (decide_eq_false (by omega))]
      show _ = some (Sum.inr (exOp all r (h.1, h.2.1, h.2.2.1, h.2.2.2.1 ++ [], ())))
      rw [List.append_nil]
      rfl
end Go.Proofs.Ytffdkniccaebmaa.Jnl

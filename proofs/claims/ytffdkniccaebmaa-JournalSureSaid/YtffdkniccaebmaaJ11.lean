/- Records that are kept (layer 14, journal): JournalSure is true. -/
import Derived.Test.YtffdkniccaebmaaJ9
import Derived.Test.YtffdkniccaebmaaJ10
set_option linter.unusedVariables false
set_option linter.unusedSimpArgs false
set_option maxRecDepth 100000
namespace Go.Proofs.Ytffdkniccaebmaa.Jnl
open Go Vse Go.Proofs Gen
open Sto (stT D R1 R0 rdyF appF syncF repF appP Ox er mk fuseF crashF crashP crashS)
open Fld (lenN or_bytes Bytes bytes_get bytes_drop)

def szN : List Ox → Nat
  | [] => 0
  | x :: l => 2 * x.2.2.1.length + 10 + szN l
abbrev qJ (x : Ox) (h : JD) : RJ := if x.1 = 1 then onF [x.2.2.1, x.2.2.1] h else addF x.2.2.1 h
abbrev vJ (x : Ox) (su : LL) : LL := if x.1 = 1 then [x.2.2.1, x.2.2.1] else su ++ [x.2.2.1]
/-- all operations, till the power is gone -/
def runJ : List Ox → JD → LL → LL → Bool → D × LL × LL
  | [], h, su, wy, _ => (stD h, su, wy)
  | x :: l, h, su, wy, dn => if dn = true then (stD h, su, wy) else
      if (qJ x h).1.1 = 0 then runJ l (qJ x h).2 (vJ x su) (vJ x su) false else runJ l (qJ x h).2 su (vJ x su) true
theorem q_step {x : Ox} {h : JD} {su : LL} {N : Nat} (hg : Go h su (2 * x.2.2.1.length + 10 + N)) :
    ((qJ x h).1.1 = 0 ∧ Go (qJ x h).2 (vJ x su) N) ∨ ((qJ x h).1.1 = 8 ∧ En (stD (qJ x h).2) su (vJ x su)) := by
  unfold qJ vJ
  by_cases hx : x.1 = 1
  · rw [if_pos hx, if_pos hx]; exact on_step hg
  · rw [if_neg hx, if_neg hx]; exact (add_step hg).2
theorem run_end : ∀ (l : List Ox) (h : JD) (su wy : LL) (dn : Bool), ((dn = true ∧ En (stD h) su wy) ∨ (dn = false ∧ Go h su (szN l))) → En (runJ l h su wy dn).1 (runJ l h su wy dn).2.1 (runJ l h su wy dn).2.2
  | [], h, su, wy, dn, hh => by
    rw [runJ]
    rcases hh with ⟨_, hh⟩ | ⟨_, hh⟩
    · exact hh
    · exact go_en hh
  | x :: l, h, su, wy, dn, hh => by
    rw [runJ]
    rcases hh with ⟨hd, hh⟩ | ⟨hd, hh⟩
    · rw [if_pos hd]; exact hh
    · rw [if_neg (by rw [hd]; simp)]
      rcases q_step (x := x) (N := szN l) hh with ⟨h0, hg⟩ | ⟨h8, hg⟩
      · rw [if_pos h0]; exact run_end l _ _ _ _ (.inr ⟨rfl, hg⟩)
      · rw [if_neg (by rw [h8]; decide)]; exact run_end l _ _ _ _ (.inl ⟨rfl, hg⟩)

section
variable (l : List Ox) (up : Bool) (n : List Int) (i : Int) (su wy : LL) {q : RJ}
theorem tl_go (hq : q.1.1 = 0) : (tlJ l up n i su wy q).eval = some (.inl ((l, (), up, (), (), wy, wy, false, w (i + 1), ()), putU n q.2)) := by
  unfold tlJ
  rw [ite_t (by rw [hq]; rfl), ite_f (by rw [hq]; rfl)]
  unfold nxJ
  rw [hq]; rfl
theorem tl_dn (hq : q.1.1 = 8) : (tlJ l up n i su wy q).eval = some (.inl ((l, (), up, (), (), su, wy, true, w (i + 1), ()), putU n q.2)) := by
  unfold tlJ
  rw [ite_f (by rw [hq]; rfl), ite_f (by rw [hq]; rfl)]
  unfold nxJ
  rw [hq]; rfl
end

def pF (d : D) : Bool := opP d && opOk d
def fF (d : D) : Hop := (opF d).2
abbrev cJuF : List (Nat × CSpec) := cJu true szF addP addF onP onF crashP crashF fuseF pF fF okR Fld.sameL
theorem cJu_sound : CtxSound Try.prog (ctx cJuF) ∧ CtxLocal (ctx cJuF) := ctx_sound ⟨okAk, okSz, Sto.ok15, okOk, okAd, okOn, Sto.ok22, Sto.ok21, okRc, okSm, trivial⟩
theorem mJu (l : List Ox) (up : Bool) (n : List Int) (hl : l.length ≤ 1000000) : ∀ (m k : Nat) (h : JD) (su wy : LL) (dn : Bool), k + m = l.length → (dn = true ∨ (dn = false ∧ Go h su (szN (l.drop k)))) →
    SJu.many (bodyK Try.prog (ctx cJuF) L0 bJu) (m + 1) (l, (), up, (), (), su, wy, dn, (k : Int), ()) (putU n h) = some (exJ up (runJ (l.drop k) h su wy dn).2.1 (runJ (l.drop k) h su wy dn).2.2 n (runJ (l.drop k) h su wy dn).1)
  | 0, k, h, su, wy, dn, hk, hh => by
    rw [List.drop_eq_nil_of_le (by omega), runJ]
    refine rmany_inr ((rJu _ _ _ _ _ _ _ _ _ _ _ _ _ l up n h su wy dn k).trans ?_) 0
    unfold GJu
    dsimp only
    rw [ite_f (decide_eq_false (by omega))]
    rfl
  | m + 1, k, h, su, wy, dn, hk, hh => by
    have h1 : k < l.length := by omega
    have hd := List.drop_eq_getElem_cons h1
    rcases hh with hh | ⟨hn, hg⟩
    · subst hh
      rw [hd, runJ, if_pos rfl]
      refine rmany_inr ((rJu _ _ _ _ _ _ _ _ _ _ _ _ _ l up n h su wy true k).trans ?_) _
      unfold GJu
      dsimp only
      rw [ite_t (decide_eq_true (by omega)), ite_f (show (!true) = false from rfl)]
      rfl
    · subst hn
      have hg : Go h su (2 * l[k].2.2.1.length + 10 + szN (l.drop (k + 1))) := by rw [hd] at hg; exact hg
      have hsl := al_ge su
      have hgl := hg.len
      have hG : (GJu addP addF onP onF l up n h su wy false k).eval = (tlJ l up n k su (vJ l[k] su) (qJ l[k] h)).eval := by
        unfold GJu
        dsimp only
        rw [ite_t (decide_eq_true (by omega)), ite_t (show (!false) = true from rfl), chk_eval (inArr_of h1), Int.toNat_natCast, getD_of h1]
        unfold vJ qJ
        by_cases hx : l[k].1 = 1
        · rw [ite_t (by simp [hx]), chk_eval (show onP [l[k].2.2.1, l[k].2.2.1] = true from rfl), if_pos hx, if_pos hx]
        · rw [ite_f (by simp [hx]), if_neg hx, if_neg hx, chk_eval (by simp only [Vse.room, decide_eq_true_eq, List.length_nil]; omega), chk_eval (by simp only [Vse.room, decide_eq_true_eq, List.nil_append]; omega), chk_eval (add_step hg).1]
          rfl
      rw [hd, runJ, if_neg (by simp)]
      rcases q_step hg with ⟨h0, hg'⟩ | ⟨h8, hg'⟩
      · rw [if_pos h0]
        refine (rmany_inl (d := ((l, (), up, (), (), vJ l[k] su, vJ l[k] su, false, ((k + 1 : Nat) : Int), ()), putU n (qJ l[k] h).2)) ((rJu _ _ _ _ _ _ _ _ _ _ _ _ _ l up n h su wy false k).trans ?_) (m + 1)).trans
          (mJu l up n hl m (k + 1) _ _ _ _ (by omega) (.inr ⟨rfl, hg'⟩))
        rw [hG, tl_go l up n k su _ h0, w_succ h1 (by omega)]
      · rw [if_neg (by rw [h8]; decide)]
        refine (rmany_inl (d := ((l, (), up, (), (), su, vJ l[k] su, true, ((k + 1 : Nat) : Int), ()), putU n (qJ l[k] h).2)) ((rJu _ _ _ _ _ _ _ _ _ _ _ _ _ l up n h su wy false k).trans ?_) (m + 1)).trans
          (mJu l up n hl m (k + 1) _ _ _ _ (by omega) (.inl rfl))
        rw [hG, tl_dn l up n k su _ h8, w_succ h1 (by omega)]
theorem sz_len : ∀ (l : List Ox), l.length ≤ szN l
  | [] => Nat.le_refl _
  | x :: l => by have := sz_len l; rw [szN, List.length_cons]; omega
/-- what is asked as the operations begin -/
def isG (h : JD) : Bool := !h.1.2.2.1 && (decide ((stD h).b.length = 0) && (decide ((stD h).sure = 0) && (decide ((stD h).room = 1048576) && (decide (-1 ≤ (stD h).fuse) && (decide ((stD h).fuse ≤ 9223372036854775807) && decide (h.2.2.1.length = 0))))))
def cJ0 : Cju := fun l su wy dn i h => decide (su.length = 0) && (decide (wy.length = 0) && (!dn && (decide (i = 0) && (isG h && decide (szN l ≤ 2000)))))
theorem isG_go {h : JD} (hg : isG h = true) {N : Nat} (hN : N ≤ 2000) : Go h [] N := by
  unfold isG at hg
  simp only [Bool.and_eq_true, Bool.not_eq_true', decide_eq_true_eq] at hg
  obtain ⟨h1, h2, h3, h4, h5, h6, h7⟩ := hg
  have hb : (stD h).b = [] := List.eq_nil_of_length_eq_zero h2
  exact ⟨h1, hb, h3, h4, h5, h6, List.eq_nil_of_length_eq_zero h7, (by intro b hb; cases hb), by show 0 + 2 * N ≤ 4000; omega⟩
abbrev LJuF : Loops := LJu cJ0 (fun l h => (runJ l h [] [] false).1) (fun l h => (runJ l h [] [] false).2.1) (fun l h => (runJ l h [] [] false).2.2)
theorem lJu : LoopOK Try.prog LJuF bJu :=
  rloop_ok (L := LJuF) (L' := L0) cJu_sound (loopsOK_of (by kernel_rfl)) SJu (F := FJu cJ0 (fun l h => (runJ l h [] [] false).1) (fun l h => (runJ l h [] [] false).2.1) (fun l h => (runJ l h [] [] false).2.2)) (i := 13) (by kernel_rfl) (fun _ => rfl) fun xs hs q hq => by
    obtain ⟨l, u1, up, u2, u3, su, wy, dn, i, u4⟩ := xs
    obtain ⟨n, sb, b, jb, rs, u5⟩ := hs
    obtain ⟨h1, h2⟩ := Tr.chk_some hq
    simp only [cJ0, Bool.and_eq_true, Bool.not_eq_true', decide_eq_true_eq] at h1
    obtain ⟨e1, e2, e3, e4, hg, hz⟩ := h1
    have e1 : su = ([] : LL) := List.eq_nil_of_length_eq_zero e1
    have e2 : wy = ([] : LL) := List.eq_nil_of_length_eq_zero e2
    have e3 : dn = false := e3
    have e4 : i = ((0 : Nat) : Int) := e4
    subst e1; subst e2; subst e3; subst e4
    have hl := sz_len l
    refine ⟨_, (mJu l up n (by omega) (List.length (α := Ox) l) 0 (jb, sb, rs, b, ()) [] [] false (by omega) (.inr ⟨rfl, isG_go hg hz⟩)).trans (congrArg some (Tr.ret_some h2))⟩
end Go.Proofs.Ytffdkniccaebmaa.Jnl

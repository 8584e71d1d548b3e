/- Slices that are given room: the kit's contract of slices.Grow at nil, as a summary. Nothing here is about one program. -/
import Derived.Test.YtffdkniccaebmaaM6
import Derived.Shelf.Spec.SlicesGrow
set_option linter.unusedVariables false
namespace Vse
open Go Go.ChangeShapes Go.Proofs Go.Shelf

section
variable {P : Program} {C : Ctx} {L : Loops} {g : G} {H : Heap} {w : World}

/-- nothing, with room for n more (n above 0), is a new own slice of nothing -/
def CSpec.grow0 (A : Ty) : CSpec :=
  ⟨1, fun _ _ => [], fun _ _ => [], fun vs _ fr => match vs with
    | [.v .nils _, .v (.int .i64) n] => .chk (decide (1 ≤ n ∧ n ≤ 140737488355328)) (.ret (.v (.vc fr 0) (), [(fr, .vec 0 A [])]))
    | _ => .fail⟩

theorem grow0_local (A : Ty) : CLocal (CSpec.grow0 A) where
  same vs H H' h := ⟨rfl, rfl⟩
  turns vs H fr out h x hx := by
    simp only [CSpec.grow0] at h
    split at h
    · obtain ⟨_, h⟩ := Tr.chk_some h
      have := Tr.ret_some h
      subst this
      simp only [List.mem_singleton] at hx
      subst hx
      exact .inr (by simp [CSpec.grow0])
    · exact (Tr.fail_some h).elim

theorem grow0_sound {A : Ty} (hA : A.sk = .leaf) {ρ : Ren} (hL : Lays8.n4 P ρ) {i0 : TypeInfo} {z : Value} (hi0 : P.info? (ρ.t 25) = some i0) (hz0 : i0.zero = some z) (hs0 : i0.size = 1) (hb0 : i0.bytes = 1) (hzc : z.cells = #[z]) (hzo : z.oneCell' = true)
    {kf : Nat} (hk : ρ.f 4 = kf) (henter : ∀ args w, (callFunc kf args).run P w = .ok (.enter kf args) w) : CSound P kf (CSpec.grow0 A) ∧ CLocal (CSpec.grow0 A) := by
  refine ⟨⟨henter, ?_⟩, grow0_local A⟩
  intro g H w vs rvs fr out hI hargs hfr he
  simp only [CSpec.grow0] at he
  split at he
  · rename_i u n
    obtain ⟨hp, he⟩ := Tr.chk_some he
    have := Tr.ret_some he
    subst this
    have hp := of_decide_eq_true hp
    obtain ⟨n', hn'⟩ : ∃ m : Nat, n = (m : Int) := Int.eq_ofNat_of_zero_le (Int.le_trans (by decide) hp.1)
    subst hn'
    have hp : (1 : Int) ≤ (n' : Int) ∧ (n' : Int) ≤ 140737488355328 := hp
    rcases freeAt_one hfr with h0 | ⟨hf, hlt⟩
    · cases h0
    obtain ⟨r1, rs, rfl, hv1, r2, rs2, rfl, hv2, hr3⟩ := hargs
    have hr3 : rs2 = [] := hr3
    subst hr3
    have hv := (VRep_v (by simp)).1 hv1
    simp only [TRep, Ty.agg, Ty.sk, Sk.agg, Bool.false_eq_true, if_false, Rep, List.cons.injEq, and_true] at hv
    subst hv
    obtain ⟨rfl, _⟩ := TRep_int.1 ((VRep_v (by simp)).1 hv2)
    have hcon := Any8.slices_Grow_grow hL i0 z hi0 hz0 (by omega) none 0 0 n' [] w (Nat.le_refl _) (by omega) (by rw [hb0]; omega) (by omega) (by simp) (fun _ => rfl) (fun a h => by cases h)
    rw [hk] at hcon
    refine hcon.mono ?_
    rintro ed w' ⟨rfl, rfl⟩
    rw [Nat.zero_add, hzc]
    have hG := Go.grownCap_ge w n' 0 (ρ.t 25)
    have hGm := Go.grownCap_le_maxLen w n' 0 (ρ.t 25) (by unfold maxLen; omega)
    generalize grownCap w n' 0 (ρ.t 25) = K at hG hGm ⊢
    unfold maxLen at hGm
    generalize hcs : ([] : List Value).toArray ++ Builtin.zeroCells #[z] (n' - 0) ++ Builtin.zeroCells #[z] (K - n') = cs
    have hsz : cs.size = K := by
      rw [← hcs]
      simp [Builtin.zeroCells]
      omega
    have hone : ∀ v ∈ cs.toList, v.oneCell' = true := by
      intro v hv
      rw [← hcs] at hv
      simp only [Builtin.zeroCells, Array.toList_append, Array.toList_map, List.mem_append, List.mem_map] at hv
      rcases hv with (h | ⟨i, _, rfl⟩) | ⟨i, _, rfl⟩
      · cases h
      · rw [show i % #[z].size = 0 from Nat.mod_one i]; exact hzo
      · rw [show i % #[z].size = 0 from Nat.mod_one i]; exact hzo
    obtain ⟨g', w1, w2, w3, w4, w5⟩ := hI.newVec (w1 := w.drew) hf hlt 0 (a := A) (l := []) (cs := cs) (vs := []) (r := cs.toList) (ρ.t 25) rfl ⟨rfl, Nat.le_succ _⟩ rfl rfl hone
    refine ⟨_, g', rfl, w1, w2, (VRep_v (by simp)).2 (TRep_of_leaf rfl ?_)⟩
    simp only [Rep, G.vcr, w3]
    refine ⟨⟨_, rfl, rfl⟩, Nat.le_refl _, fun _ => .inr ⟨w.heap.size, K, w4, rfl, ⟨Nat.zero_le _, by omega⟩, ?_⟩⟩
    rw [w5, hsz]
    unfold Sk.nc
    rw [hA]
    simp
  · exact (Tr.fail_some he).elim
end
end Vse

/- Counters (layer 4, ctr): a loop over a function begins: its record and its block are laid. -/
import Derived.Test.YtlkddajnebjlcaaL20
set_option linter.unusedVariables false
set_option maxRecDepth 100000
namespace Go.Proofs.Ytlkddajnebjlcaa.Ctr
open Go Vse Go.Proofs Gen

def laid2 (w : World) (o : Loop) : World := (w.alloc (.deferred (some []))).alloc (.loop o)

theorem laid2_old (w : World) (o : Loop) {b : Nat} (h : b < w.heap.size) : (laid2 w o).heap[b]? = w.heap[b]? := by
  show ((w.heap.push _).push _)[b]? = _
  rw [Array.getElem?_push_lt (by rw [Array.size_push]; omega), Array.getElem_push_lt h, Array.getElem?_eq_getElem h]
theorem laid2_r (w : World) (o : Loop) : (laid2 w o).heap[w.heap.size]? = some (.deferred (some [])) := by
  show ((w.heap.push _).push _)[w.heap.size]? = _
  rw [Array.getElem?_push_lt (by rw [Array.size_push]; omega)]
  simp
theorem laid2_l (w : World) (o : Loop) : (laid2 w o).heap[w.heap.size + 1]? = some (.loop o) := by
  have := World.alloc_heap_new (w.alloc (.deferred (some []))) (.loop o)
  have hs : (w.alloc (.deferred (some []))).heap.size = w.heap.size + 1 := by show (w.heap.push _).size = _; rw [Array.size_push]
  rw [hs] at this
  exact this

theorem lt_of_some {w : World} {b : Nat} {ob : Obj} (h : w.heap[b]? = some ob) : b < w.heap.size := (Array.getElem?_eq_some_iff.1 h).1

theorem begin_going {g : G} {H : Heap} {w : World} (h : HInv g H w) (o : Loop) : Going { g with ext := (g.ext.1, []) } { g with ext := (g.ext.1, []) } H (laid2 w o) (w.heap.size + 1) w.heap.size o := by
  have hold : ∀ b ob, w.heap[b]? = some ob → (laid2 w o).heap[b]? = some ob := fun b ob hb => by rw [laid2_old w o (lt_of_some hb)]; exact hb
  have n1 : g.gr (w.heap.size + 1) = none := by
    cases hg : g.gr (w.heap.size + 1) with
    | none => rfl
    | some ob => have := lt_of_some (h.gr _ _ hg); omega
  have n2 : g.gr w.heap.size = none := by
    cases hg : g.gr w.heap.size with
    | none => rfl
    | some ob => have := lt_of_some (h.gr _ _ hg); omega
  refine ⟨G.leD.refl _, rfl, ⟨h.sh, fun b ob hb => hold b ob (h.fr b ob hb), fun b ob hb => ?_, fun e => ?_, fun e b hl hb => ?_, fun b ob ob' hb hb' => ?_, h.dis, h.ext⟩, n1, n2, by omega⟩
  · simp only [G.lenl] at hb
    split at hb
    · rename_i hbl
      cases hb
      rw [hbl]
      exact laid2_l w o
    · split at hb
      · rename_i hbr
        cases hb
        rw [hbr]
        exact laid2_r w o
      · exact hold b ob (h.gr b ob hb)
  · have hc : g.leC (({ g with ext := (g.ext.1, []) } : G).lenl (w.heap.size + 1) w.heap.size o) := by
      refine ⟨fun b _ _ _ hb => hb, fun b cs t fz hb => ?_, fun e => .same rfl rfl rfl⟩
      have h1 : b ≠ w.heap.size + 1 := by rintro rfl; rw [n1] at hb; cases hb
      have h2 : b ≠ w.heap.size := by rintro rfl; rw [n2] at hb; cases hb
      simp only [G.lenl, if_neg h1, if_neg h2]
      exact hb
    exact ERep_world (fun b _ ob ho => hold b ob ho) (ERep_monoC hc (e := e) rfl rfl (h.ent e))
  · obtain ⟨h1, h2⟩ := h.own e b hl hb
    obtain ⟨cs, t, fz, hh⟩ := h.there hl hb
    have hlt := lt_of_some hh
    refine ⟨h1, ?_⟩
    simp only [G.lenl]
    rw [if_neg (by omega), if_neg (by omega)]
    exact h2
  · have hlt := lt_of_some (h.fr b ob hb)
    simp only [G.lenl] at hb'
    rw [if_neg (by omega), if_neg (by omega)] at hb'
    exact h.sep b ob ob' hb hb'

end Go.Proofs.Ytlkddajnebjlcaa.Ctr

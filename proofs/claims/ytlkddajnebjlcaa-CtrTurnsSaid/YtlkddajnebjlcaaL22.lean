/- Counters (layer 4, ctr): a loop over a function ends: its mark stays. -/
import Derived.Test.YtlkddajnebjlcaaL21
set_option linter.unusedVariables false
set_option maxRecDepth 100000
namespace Go.Proofs.Ytlkddajnebjlcaa.Ctr
open Go Vse Go.Proofs Gen

/-- memory behind such a loop: its block for deferred calls lies still, its mark is the first deferred call -/
def G.past (g g4 : G) (r : Nat) : G := { g4 with
  fr := fun b => if b = r then some (.deferred (some [])) else g4.fr b
  gr := g.gr
  ext := (g4.ext.1, mkD r :: g.ext.2) }

theorem end_going {g g4 : G} {H H4 : Heap} {w w4 : World} {l r : Nat} {o : Loop} (h : HInv g H w) (hr : w.heap.size ≤ r) (hl : w.heap.size ≤ l) (hm : Marks g g.ext.2) (h4 : Going { g with ext := (g.ext.1, []) } g4 H4 w4 l r o) :
    g.leD (G.past g g4 r) ∧ HInv (G.past g g4 r) H4 w4 ∧ Marks (G.past g g4 r) (G.past g g4 r).ext.2 ∧ g4.leC (G.past g g4 r) := by
  have hgr : g4.gr = g.gr := h4.le.gr
  have hrow : (g4.lenl l r o).gr r = some (.deferred (some [])) := by
    simp only [G.lenl]
    rw [if_neg (fun hh => h4.new.2.2 hh.symm)]
    rfl
  have hfr : g4.fr r = none := by
    cases hf : g4.fr r with
    | none => rfl
    | some ob => exact (h4.inv.sep r _ _ hf hrow).elim
  have hnr : ∀ b ob, g.fr b = some ob → b ≠ r := fun b ob hb => by have := lt_of_some (h.fr b ob hb); omega
  have hgg : ∀ b ob, g.gr b = some ob → b ≠ r ∧ b ≠ l := fun b ob hb => by have := lt_of_some (h.gr b ob hb); omega
  have hlen : ∀ b ob, g.gr b = some ob → (g4.lenl l r o).gr b = some ob := fun b ob hb => by
    obtain ⟨n1, n2⟩ := hgg b ob hb
    simp only [G.lenl]
    rw [if_neg n2, if_neg n1, hgr]
    exact hb
  have hc : g4.leC (G.past g g4 r) := by
    refine ⟨fun b cs t fz hb => ?_, fun b cs t fz hb => by show g.gr b = _; rw [← hgr]; exact hb, fun e => .same rfl rfl rfl⟩
    have hne : b ≠ r := by rintro rfl; rw [hfr] at hb; cases hb
    simp only [G.past, if_neg hne]
    exact hb
  have hcl : (g4.lenl l r o).leC (G.past g g4 r) := by
    refine ⟨hc.fr, fun b cs t fz hb => ?_, fun e => .same rfl rfl rfl⟩
    exact hc.gr b cs t fz ((lenl_c g4 l r o).gr b cs t fz hb)
  refine ⟨⟨fun b ob hb => ?_, rfl, h4.le.ext, fun e => ?_⟩, ⟨h4.inv.sh, fun b ob hb => ?_, fun b ob hb => h4.inv.gr b ob (hlen b ob hb), fun e => ERep_monoC hcl (e := e) rfl rfl (h4.inv.ent e), fun e b hlv hb => ?_, fun b ob ob' hb hb' => ?_, h4.inv.dis, h4.inv.ext⟩, ?_, hc⟩
  · simp only [G.past, if_neg (hnr b ob hb)]
    exact h4.le.fr b ob hb
  · cases h4.le.ent e with
    | same a b c => exact .same a b c
    | dead a => exact .dead a
    | grew a b c => exact .grew a b c
    | new a => exact .new a
  · simp only [G.past] at hb
    split at hb
    · rename_i hbr
      cases hb
      rw [hbr]
      exact h4.inv.gr r _ hrow
    · exact h4.inv.fr b ob hb
  · obtain ⟨h1, h2⟩ := h4.inv.own e b hlv hb
    have hne : b ≠ r := by rintro rfl; rw [hrow] at h2; cases h2
    refine ⟨by simp only [G.past, if_neg hne]; exact h1, ?_⟩
    show g.gr b = none
    cases hg : g.gr b with
    | none => rfl
    | some ob => rw [hlen b ob hg] at h2; cases h2
  · have hb' : g.gr b = some ob' := hb'
    simp only [G.past, if_neg (hgg b ob' hb').1] at hb
    exact h4.inv.sep b ob ob' hb (hlen b ob' hb')
  · obtain ⟨rs, m1, m2, m3⟩ := hm
    refine ⟨r :: rs, by show mkD r :: g.ext.2 = _; rw [m1]; rfl, List.nodup_cons.2 ⟨fun hh => hnr r _ (m3 r hh) rfl, m2⟩, fun r' hr' => ?_⟩
    rcases List.mem_cons.1 hr' with rfl | hr'
    · simp [G.past]
    · simp only [G.past, if_neg (hnr r' _ (m3 r' hr'))]
      exact h4.le.fr r' _ (m3 r' hr')

end Go.Proofs.Ytlkddajnebjlcaa.Ctr

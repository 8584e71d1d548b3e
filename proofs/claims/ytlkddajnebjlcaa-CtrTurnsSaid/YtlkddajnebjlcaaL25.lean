/- Counters (layer 4, ctr): what Flip gives, place by place; both ways are one. -/
import Derived.Test.YtlkddajnebjlcaaL24
import Derived.Test.YtlkddajnebjlcaaL3
import Derived.Test.YtlkddajnebjlcaaA19
set_option linter.unusedVariables false
set_option maxRecDepth 100000
namespace Go.Proofs.Ytlkddajnebjlcaa.Ctr
open Go Vse Go.Proofs Gen

theorem outs_part (E : En) (N : Nx) (k a b : List Int) (q : Nat) : ∀ n, n ≤ 16 → outs (E k (N a ((q : Nat) : Int))) b (partF N E k a b (16 * q)) n = partF N E k a b (16 * q + n)
  | 0, _ => rfl
  | n + 1, h => by
    rw [outs, outs_part E N k a b q n (by omega), show 16 * q + (n + 1) = (16 * q + n) + 1 from rfl, partF_step]
    have h1 : (16 * q + n) / 16 = q := by omega
    have h2 : (16 * q + n) % 16 = n := by omega
    unfold elemF flipB
    rw [partF_len, h1, h2]

theorem outB_part (E : En) (N : Nx) (k a b : List Int) : ∀ q, (∀ i, i < q → atB N a i = N a ((i : Nat) : Int)) → outB E N k a b q = partF N E k a b (16 * q)
  | 0, _ => rfl
  | q + 1, h => by
    rw [outB, outB_part E N k a b q (fun i hi => h i (by omega)), h q (by omega), outs_part E N k a b q 16 (Nat.le_refl _)]
    rfl

theorem flipX_eq {E : En} {N : Nx} {k a b : List Int} (h : ∀ i, i ≤ b.length → atB N a i = N a ((i : Nat) : Int)) : flipX E N k a b = flipG N E k a b := by
  unfold flipX flipG
  by_cases h0 : b.length = 0
  · rw [if_pos h0, h0]; rfl
  · rw [if_neg h0]
    unfold oX
    rw [outB_part E N k a b _ (fun i hi => h i (by omega)), h _ (by omega), outs_part E N k a b _ _ (by omega)]
    congr 1
    omega

theorem atB_next {a : List Int} (ha : Bytes a) (hl : a.length = 16) : ∀ q : Nat, q ≤ 1000000 → atB nextF a q = nextF a ((q : Nat) : Int)
  | 0, _ => (next_zero ha hl).symm
  | q + 1, h => by
    rw [atB, atB_next ha hl q (by omega)]
    exact next_add ha hl (a := q) (b := 1) (by omega)

def flipF (key at_ b : List Int) : List Int := flipG nextF (fun k a => Aes.encI k a) key at_ b

theorem byte_ok {x : Int} (h : inK .u8 x = true) : 0 ≤ x ∧ x < 256 := by
  have : IntKind.u8.min ≤ x ∧ x ≤ IntKind.u8.max := by simpa [inK, IntKind.has] using h
  rw [show IntKind.u8.min = 0 from by decide, show IntKind.u8.max = 255 from by decide] at this
  omega
theorem bytes_ok {l : List Int} (h : Ty.ok (.arr 16 u8) l) : Bytes l := fun x hx => byte_ok (h.2 x hx)

def c1 : List (Nat × CSpec) := [(57, Aes.s46), (26, s26)]
theorem c1_sound : CtxSound Try.prog (CI (fun k a => Aes.encI k a) nextF) ∧ CtxLocal (CI (fun k a => Aes.encI k a) nextF) := ctx_sound ⟨Aes.ok46, ok26, trivial⟩

def s24 : CSpec := .slp1 [w16, w16, bs] (fun x => flipP x.2.2.1) bt fun x => flipX (fun k a => Aes.encI k a) nextF x.1 x.2.1 x.2.2.1
theorem ok24 : CSound Try.prog 24 s24 ∧ CLocal s24 := okX c1_sound

theorem flip_eq {key at_ b : List Int} (h : Bytes at_) (hl : at_.length = 16) (hb : b.length ≤ 1000000) : flipX (fun k a => Aes.encI k a) nextF key at_ b = flipF key at_ b :=
  flipX_eq fun i hi => atB_next h hl i (by omega)

theorem blk_of {l : List Int} (h : Bytes l) (hl : l.length = 16) : Aes.Blk l := Aes.blk_mem hl fun x hx => show 0 ≤ x ∧ x < 256 from by
  have := h x hx
  omega

theorem elem_same {key at_ b : List Int} (hk : Bytes key) (hkl : key.length = 16) (h : Bytes at_) (hl : at_.length = 16) {i : Nat} (hi : i < 1000000) : elemF nextF (fun k a => Aes.encI k a) key at_ b i = elemF rnextF encRF key at_ b i := by
  have h1 : nextF at_ ((i / 16 : Nat) : Int) = rnextF at_ ((i / 16 : Nat) : Int) := nexts_same h (by omega)
  have h2 : Aes.encI key (nextF at_ ((i / 16 : Nat) : Int)) = Aes.encR key (nextF at_ ((i / 16 : Nat) : Int)) := Aes.enc_same (blk_of hk hkl) (blk_of (next_bytes h _) (by rw [next_len, hl]))
  unfold elemF
  simp only [h2, ← h1]

theorem flips_same {key at_ b : List Int} (hk : Bytes key) (hkl : key.length = 16) (h : Bytes at_) (hl : at_.length = 16) (hb : b.length ≤ 1000000) : flipF key at_ b = rflipF key at_ b := by
  unfold flipF rflipF flipG partF
  refine List.map_congr_left fun i hi => ?_
  exact elem_same hk hkl h hl (by have := List.mem_range.1 hi; omega)

theorem flip_len (key at_ b : List Int) : (flipF key at_ b).length = b.length := partF_len _ _ _ _ _ _
theorem flip_get (key at_ b : List Int) {i : Nat} (hi : i < b.length) : (flipF key at_ b).getD i 0 = elemF nextF (fun k a => Aes.encI k a) key at_ b i := by
  unfold flipF flipG partF
  rw [List.getD_eq_getElem?_getD, List.getElem?_map, List.getElem?_range hi]
  rfl

end Go.Proofs.Ytlkddajnebjlcaa.Ctr

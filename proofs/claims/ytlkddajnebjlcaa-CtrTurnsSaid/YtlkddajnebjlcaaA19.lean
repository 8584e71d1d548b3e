/- Layer 3 (aes): a block that is known; both ways are one; unlike blocks; boxes. -/
import Derived.Test.YtlkddajnebjlcaaA18
set_option linter.unusedVariables false
set_option maxRecDepth 1000000
namespace Go.Proofs.Ytlkddajnebjlcaa.Aes
open Go Vse Go.Proofs

def keyW : List (List Int) := [[0, 1, 2, 3, 4, 5, 6, 7, 8, 9, 10, 11, 12, 13, 14, 15], [214, 170, 116, 253, 210, 175, 114, 250, 218, 166, 120, 241, 214, 171, 118, 254], [182, 146, 207, 11, 100, 61, 189, 241, 190, 155, 197, 0, 104, 48, 179, 254], [182, 255, 116, 78, 210, 194, 201, 191, 108, 89, 12, 191, 4, 105, 191, 65], [71, 247, 247, 188, 149, 53, 62, 3, 249, 108, 50, 188, 253, 5, 141, 253], [60, 170, 163, 232, 169, 159, 157, 235, 80, 243, 175, 87, 173, 246, 34, 170], [94, 57, 15, 125, 247, 166, 146, 150, 167, 85, 61, 193, 10, 163, 31, 107], [20, 249, 112, 26, 227, 95, 226, 140, 68, 10, 223, 77, 78, 169, 192, 38], [71, 67, 135, 53, 164, 28, 101, 185, 224, 22, 186, 244, 174, 191, 122, 210], [84, 153, 50, 209, 240, 133, 87, 104, 16, 147, 237, 156, 190, 44, 151, 78], [19, 17, 29, 127, 227, 148, 74, 23, 243, 7, 167, 139, 77, 43, 48, 197]]
def blkW0 : List Int := [0, 16, 32, 48, 64, 80, 96, 112, 128, 144, 160, 176, 192, 208, 224, 240]
def blkW1 : List Int := [137, 216, 16, 232, 133, 90, 206, 104, 45, 24, 67, 216, 203, 18, 143, 228]
def blkW2 : List Int := [73, 21, 89, 143, 85, 229, 215, 160, 218, 202, 148, 250, 31, 10, 99, 247]
def blkW3 : List Int := [250, 99, 106, 40, 37, 179, 57, 201, 64, 102, 138, 49, 87, 36, 77, 23]
def blkW4 : List Int := [36, 114, 64, 35, 105, 102, 179, 250, 110, 210, 117, 50, 136, 66, 91, 108]
def blkW5 : List Int := [200, 22, 119, 188, 155, 122, 201, 59, 37, 2, 121, 146, 176, 38, 25, 150]
def blkW6 : List Int := [198, 47, 225, 9, 247, 94, 237, 195, 204, 121, 57, 93, 132, 249, 207, 93]
def blkW7 : List Int := [209, 135, 108, 15, 121, 196, 48, 10, 180, 85, 148, 173, 214, 111, 244, 31]
def blkW8 : List Int := [253, 227, 186, 210, 5, 229, 208, 215, 53, 71, 150, 78, 241, 254, 55, 241]
def blkW9 : List Int := [189, 110, 124, 61, 242, 181, 119, 158, 11, 97, 33, 110, 139, 16, 182, 137]
def blkW10 : List Int := [105, 196, 224, 216, 106, 123, 4, 48, 216, 205, 183, 128, 112, 180, 197, 90]
def blkW : List Int := [0, 17, 34, 51, 68, 85, 102, 119, 136, 153, 170, 187, 204, 221, 238, 255]
def key0 : List Int := [0, 1, 2, 3, 4, 5, 6, 7, 8, 9, 10, 11, 12, 13, 14, 15]
theorem rowW0 : nextRow boxL (rowOf keyW 0) 1 = rowOf keyW 1 := by decide +kernel
theorem rowW1 : nextRow boxL (rowOf keyW 1) 2 = rowOf keyW 2 := by decide +kernel
theorem rowW2 : nextRow boxL (rowOf keyW 2) 4 = rowOf keyW 3 := by decide +kernel
theorem rowW3 : nextRow boxL (rowOf keyW 3) 8 = rowOf keyW 4 := by decide +kernel
theorem rowW4 : nextRow boxL (rowOf keyW 4) 16 = rowOf keyW 5 := by decide +kernel
theorem rowW5 : nextRow boxL (rowOf keyW 5) 32 = rowOf keyW 6 := by decide +kernel
theorem rowW6 : nextRow boxL (rowOf keyW 6) 64 = rowOf keyW 7 := by decide +kernel
theorem rowW7 : nextRow boxL (rowOf keyW 7) 128 = rowOf keyW 8 := by decide +kernel
theorem rowW8 : nextRow boxL (rowOf keyW 8) 27 = rowOf keyW 9 := by decide +kernel
theorem rowW9 : nextRow boxL (rowOf keyW 9) 54 = rowOf keyW 10 := by decide +kernel
theorem encW0 : xorF blkW (rowOf keyW 0) = blkW0 := by decide +kernel
theorem encW1 : roundE keyW 0 blkW0 = blkW1 := by decide +kernel
theorem encW2 : roundE keyW 1 blkW1 = blkW2 := by decide +kernel
theorem encW3 : roundE keyW 2 blkW2 = blkW3 := by decide +kernel
theorem encW4 : roundE keyW 3 blkW3 = blkW4 := by decide +kernel
theorem encW5 : roundE keyW 4 blkW4 = blkW5 := by decide +kernel
theorem encW6 : roundE keyW 5 blkW5 = blkW6 := by decide +kernel
theorem encW7 : roundE keyW 6 blkW6 = blkW7 := by decide +kernel
theorem encW8 : roundE keyW 7 blkW7 = blkW8 := by decide +kernel
theorem encW9 : roundE keyW 8 blkW8 = blkW9 := by decide +kernel
theorem encW10 : roundE keyW 9 blkW9 = blkW10 := by decide +kernel

theorem keysW : keysI key0 = keyW := by
  unfold keysI
  have e0 : key0 = rowOf keyW 0 := by decide +kernel
  simp only [e0, rowW0, rowW1, rowW2, rowW3, rowW4, rowW5, rowW6, rowW7, rowW8, rowW9]
  decide +kernel

theorem encW : encI key0 blkW = blkW10 := by
  unfold encI
  rw [keysW]
  show roundE keyW 9 (roundE keyW 8 (roundE keyW 7 (roundE keyW 6 (roundE keyW 5 (roundE keyW 4 (roundE keyW 3 (roundE keyW 2 (roundE keyW 1 (roundE keyW 0 (xorF blkW (rowOf keyW 0))))))))))) = _
  rw [encW0, encW1, encW2, encW3, encW4, encW5, encW6, encW7, encW8, encW9, encW10]

theorem blk_mem {l : List Int} (h : l.length = 16) (hm : ∀ x ∈ l, IsB x) : Blk l := by
  refine ⟨h, fun i => ?_⟩
  rw [List.getD_eq_getElem?_getD]
  cases hx : l[i]? with
  | none => show IsB 0; unfold IsB; omega
  | some x => exact hm x (List.mem_of_getElem? hx)

theorem boxB {x : Int} (hx : IsB x) : IsB (boxL.getD x.toNat 0) := box_lt _ (isB_nat_lt hx)

theorem nextRow_blk {was : List Int} {pw : Int} (hw : Blk was) (hp : IsB pw) : Blk (nextRow boxL was pw) := by
  have f : ∀ i j, IsB (xorI .u8 (was.getD i 0) (boxL.getD (was.getD j 0).toNat 0)) := fun i j => xorB (hw.2 i) (boxB (hw.2 j))
  have a0 : IsB _ := xorB (f 0 13) hp
  have a4 := xorB (hw.2 4) a0
  have a5 := xorB (hw.2 5) (f 1 14)
  have a6 := xorB (hw.2 6) (f 2 15)
  have a7 := xorB (hw.2 7) (f 3 12)
  have a8 := xorB (hw.2 8) a4
  have a9 := xorB (hw.2 9) a5
  have aa := xorB (hw.2 10) a6
  have ab := xorB (hw.2 11) a7
  have ac := xorB (hw.2 12) a8
  have ad := xorB (hw.2 13) a9
  have ae := xorB (hw.2 14) aa
  have af := xorB (hw.2 15) ab
  refine blk_mem rfl fun x hx => ?_
  simp only [nextRow, List.mem_cons, List.not_mem_nil, or_false] at hx
  rcases hx with rfl | rfl | rfl | rfl | rfl | rfl | rfl | rfl | rfl | rfl | rfl | rfl | rfl | rfl | rfl | rfl
  · exact a0
  · exact f 1 14
  · exact f 2 15
  · exact f 3 12
  all_goals assumption

theorem isB_lit {n : Nat} (h : n < 256) : IsB (n : Int) := isB_nat h

theorem keys_blk {key : List Int} (hk : Blk key) : ∀ i, i < 11 → Blk (rowOf (keysI key) i) := by
  have r1 := nextRow_blk hk (isB_lit (n := 1) (by decide))
  have r2 := nextRow_blk r1 (isB_lit (n := 2) (by decide))
  have r3 := nextRow_blk r2 (isB_lit (n := 4) (by decide))
  have r4 := nextRow_blk r3 (isB_lit (n := 8) (by decide))
  have r5 := nextRow_blk r4 (isB_lit (n := 16) (by decide))
  have r6 := nextRow_blk r5 (isB_lit (n := 32) (by decide))
  have r7 := nextRow_blk r6 (isB_lit (n := 64) (by decide))
  have r8 := nextRow_blk r7 (isB_lit (n := 128) (by decide))
  have r9 := nextRow_blk r8 (isB_lit (n := 27) (by decide))
  have r10 := nextRow_blk r9 (isB_lit (n := 54) (by decide))
  intro i hi
  match i, hi with
  | 0, _ => exact hk
  | 1, _ => exact r1
  | 2, _ => exact r2
  | 3, _ => exact r3
  | 4, _ => exact r4
  | 5, _ => exact r5
  | 6, _ => exact r6
  | 7, _ => exact r7
  | 8, _ => exact r8
  | 9, _ => exact r9
  | 10, _ => exact r10
  | i + 11, h => omega

theorem roundE_blk {ks : List (List Int)} (hk : ∀ i, i < 11 → Blk (rowOf ks i)) {n : Nat} (hn : n < 10) {b : List Int} (hb : Blk b) : Blk (roundE ks n b) := by
  unfold roundE lineI
  cases decide ((n : Int) < 9)
  · exact xorF_blk (subI_blk hb) (hk _ (by omega))
  · exact mixI_blk (subI_blk hb) (hk _ (by omega))

theorem roundE_inj {ks : List (List Int)} (hk : ∀ i, i < 11 → Blk (rowOf ks i)) {n : Nat} (hn : n < 10) {a b : List Int} (ha : Blk a) (hb : Blk b) (h : roundE ks n a = roundE ks n b) : a = b := by
  unfold roundE lineI at h
  cases hd : decide ((n : Int) < 9)
  · rw [hd] at h
    exact subI_inj ha hb (xorF_inj (subI_blk ha) (subI_blk hb) (hk _ (by omega)) h)
  · rw [hd] at h
    exact subI_inj ha hb (mixI_inj (subI_blk ha) (subI_blk hb) (hk _ (by omega)) h)

/-- the first so many rounds -/
def encN (ks : List (List Int)) (b : List Int) : Nat → List Int
  | 0 => xorF b (rowOf ks 0)
  | n + 1 => roundE ks n (encN ks b n)
theorem encI_N (key b : List Int) : encI key b = encN (keysI key) b 10 := rfl

theorem encN_blk {ks : List (List Int)} (hk : ∀ i, i < 11 → Blk (rowOf ks i)) {b : List Int} (hb : Blk b) : ∀ n, n ≤ 10 → Blk (encN ks b n)
  | 0, _ => xorF_blk hb (hk 0 (by decide))
  | n + 1, h => roundE_blk hk (by omega) (encN_blk hk hb n (by omega))

theorem encN_inj {ks : List (List Int)} (hk : ∀ i, i < 11 → Blk (rowOf ks i)) {a b : List Int} (ha : Blk a) (hb : Blk b) : ∀ n, n ≤ 10 → encN ks a n = encN ks b n → a = b
  | 0, _, h => xorF_inj ha hb (hk 0 (by decide)) h
  | n + 1, hn, h => encN_inj hk ha hb n (by omega) (roundE_inj hk (by omega) (encN_blk hk ha n (by omega)) (encN_blk hk hb n (by omega)) h)

/-- of unlike blocks those under one key are unlike -/
theorem enc_inj {key a b : List Int} (hk : Blk key) (ha : Blk a) (hb : Blk b) (h : encI key a = encI key b) : a = b := encN_inj (keys_blk hk) ha hb 10 (Nat.le_refl _) h

theorem round_same {ks : List (List Int)} (hk : ∀ i, i < 11 → Blk (rowOf ks i)) {n : Nat} (hn : n < 10) {b : List Int} (hb : Blk b) : roundE ks n b = roundR ks (n + 1) b := by
  unfold roundE roundR lineI
  rw [show decide (((n + 1 : Nat) : Int) < 10) = decide ((n : Int) < 9) from decide_eq_decide.2 (by omega)]
  cases decide ((n : Int) < 9)
  · rfl
  · exact mixI_mixR (subI_blk hb) (hk _ (by omega))

/-- both ways are one -/
theorem enc_same {key b : List Int} (hk : Blk key) (hb : Blk b) : encI key b = encR key b := by
  have hks := keys_blk hk
  have s : ∀ n, n < 10 → encN (keysI key) b (n + 1) = roundR (keysI key) (n + 1) (encN (keysI key) b n) := fun n hn => round_same hks hn (encN_blk hks hb n (by omega))
  rw [encI_N, s 9 (by decide), s 8 (by decide), s 7 (by decide), s 6 (by decide), s 5 (by decide), s 4 (by decide), s 3 (by decide), s 2 (by decide), s 1 (by decide), s 0 (by decide)]
  rfl


end Go.Proofs.Ytlkddajnebjlcaa.Aes

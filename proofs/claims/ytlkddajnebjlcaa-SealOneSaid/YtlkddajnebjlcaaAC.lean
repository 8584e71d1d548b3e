import Derived.Test.YtlkddajnebjlcaaAB
import Derived.Test.YtlkddajnebjlcaaAA

section
/- What the functions of layer 3 (aes) give: the document's box. -/
set_option linter.unusedVariables false
set_option maxRecDepth 1000000
namespace Go.Proofs.Ytlkddajnebjlcaa.Aes
open Go Vse Go.Proofs


end Go.Proofs.Ytlkddajnebjlcaa.Aes

end
section
/- Layer 3 (aes): each step of a block's way can be undone; both ways are one. -/
set_option linter.unusedVariables false
set_option maxRecDepth 1000000
namespace Go.Proofs.Ytlkddajnebjlcaa.Aes
open Go Vse Go.Proofs

/-- a block: 16 bytes -/
def Blk (l : List Int) : Prop := l.length = 16 ∧ ∀ i, IsB (l.getD i 0)

theorem blk_map {f : Nat → Int} (h : ∀ i, i < 16 → IsB (f i)) : Blk ((List.range 16).map f) := by
  refine ⟨by simp, fun i => ?_⟩
  rw [List.getD_eq_getElem?_getD, List.getElem?_map]
  by_cases hi : i < 16
  · rw [List.getElem?_range hi]; exact h i hi
  · rw [List.getElem?_eq_none (by simpa using hi)]
    show IsB 0
    unfold IsB; omega

theorem map_get {f : Nat → Int} {i : Nat} (hi : i < 16) : ((List.range 16).map f).getD i 0 = f i := by
  rw [List.getD_eq_getElem?_getD, List.getElem?_map, List.getElem?_range hi]; rfl

theorem map_ext {f g : Nat → Int} (h : ∀ i, i < 16 → f i = g i) : (List.range 16).map f = (List.range 16).map g :=
  List.map_congr_left fun i hi => h i (List.mem_range.1 hi)

theorem map_inj {f g : Nat → Int} (h : (List.range 16).map f = (List.range 16).map g) {i : Nat} (hi : i < 16) : f i = g i := by
  rw [← map_get (f := f) hi, ← map_get (f := g) hi, h]

theorem blk_ext {l m : List Int} (hl : l.length = 16) (hm : m.length = 16) (h : ∀ i, i < 16 → l.getD i 0 = m.getD i 0) : l = m := by
  refine List.ext_getElem (hl.trans hm.symm) fun i h1 h2 => ?_
  have := h i (by omega)
  rwa [List.getD_eq_getElem?_getD, List.getD_eq_getElem?_getD, List.getElem?_eq_getElem h1, List.getElem?_eq_getElem h2] at this

theorem xorB {x y : Int} (hx : IsB x) (hy : IsB y) : IsB (xorI .u8 x y) := by
  obtain ⟨a, rfl, ha⟩ := hx.nat
  obtain ⟨b, rfl, hb⟩ := hy.nat
  rw [xorI_u8 ha hb]
  exact isB_nat (xor_lt256 ha hb)

theorem xor_cancel {x y k : Int} (hx : IsB x) (hy : IsB y) (hk : IsB k) (h : xorI .u8 x k = xorI .u8 y k) : x = y := by
  obtain ⟨a, rfl, ha⟩ := hx.nat
  obtain ⟨b, rfl, hb⟩ := hy.nat
  obtain ⟨c, rfl, hc⟩ := hk.nat
  rw [xorI_u8 ha hc, xorI_u8 hb hc] at h
  have h : a ^^^ c = b ^^^ c := Int.ofNat.inj h
  have : a ^^^ c ^^^ c = b ^^^ c ^^^ c := by rw [h]
  rw [Nat.xor_assoc, Nat.xor_assoc, Nat.xor_self, Nat.xor_zero, Nat.xor_zero] at this
  rw [this]

/-! the sum of two blocks -/

theorem xorF_map (a b : List Int) : xorF a b = (List.range 16).map fun i => xorI .u8 (a.getD i 0) (b.getD i 0) := by
  unfold xorF lX
  exact map_ext fun i hi => by rw [if_pos hi]

theorem xorF_blk {a b : List Int} (ha : Blk a) (hb : Blk b) : Blk (xorF a b) := by
  rw [xorF_map]
  exact blk_map fun i _ => xorB (ha.2 i) (hb.2 i)

theorem xorF_inj {a b k : List Int} (ha : Blk a) (hb : Blk b) (hk : Blk k) (h : xorF a k = xorF b k) : a = b := by
  rw [xorF_map, xorF_map] at h
  exact blk_ext ha.1 hb.1 fun i hi => xor_cancel (ha.2 i) (hb.2 i) (hk.2 i) (map_inj h hi)

/-! boxes -/

theorem box_lt : ∀ n, n < 256 → IsB (boxL.getD n 0) := by
  have : ∀ n, n < 256 → 0 ≤ boxL.getD n 0 ∧ boxL.getD n 0 < 256 := by decide +kernel
  intro n hn
  have := this n hn
  unfold IsB; omega

/-- the byte of a box -/
def unbox (x : Int) : Nat := boxL.findIdx fun y => decide (y = x)
theorem unbox_box : ∀ n, n < 256 → unbox (boxL.getD n 0) = n := by decide +kernel

theorem box_inj {x y : Int} (hx : IsB x) (hy : IsB y) (h : boxL.getD x.toNat 0 = boxL.getD y.toNat 0) : x = y := by
  obtain ⟨a, rfl, ha⟩ := hx.nat
  obtain ⟨b, rfl, hb⟩ := hy.nat
  simp only [Int.toNat_natCast] at h
  rw [← unbox_box a ha, ← unbox_box b hb, h]

theorem isB_nat_lt {x : Int} (h : IsB x) : x.toNat < 256 := by
  unfold IsB at h; omega

theorem subI_blk {b : List Int} (hb : Blk b) : Blk (subI boxL b) := blk_map fun i _ => box_lt _ (isB_nat_lt (hb.2 _))

theorem turn_all : ∀ j, j < 16 → ∃ i, i < 16 ∧ (i + 4 * (i % 4)) % 16 = j := by decide +kernel

theorem subI_inj {a b : List Int} (ha : Blk a) (hb : Blk b) (h : subI boxL a = subI boxL b) : a = b :=
  blk_ext ha.1 hb.1 fun j hj => by
    obtain ⟨i, hi, rfl⟩ := turn_all j hj
    exact box_inj (ha.2 _) (hb.2 _) (map_inj h hi)

/-! columns -/

def mixN (x y z q : Nat) : Nat := mulN 2 x ^^^ mulN 3 y ^^^ z ^^^ q

theorem mixN_lt {x y z q : Nat} (hz : z < 256) (hq : q < 256) : mixN x y z q < 256 :=
  xor_lt256 (xor_lt256 (xor_lt256 (mulN_lt (by decide)) (mulN_lt (by decide))) hz) hq

theorem twice_nat : ∀ x, x < 256 → twiceI (x : Nat) = (mulN 2 x : Nat) := by decide +kernel

theorem mul3 {y : Nat} (hy : y < 256) : mulN 3 y = mulN 2 y ^^^ y := by
  have := add_mul (a := 2) (d := 1) y (by decide) (by decide)
  rw [mul_one' y hy] at this
  exact this

theorem mixB_nat {x y z q : Nat} (hx : x < 256) (hy : y < 256) (hz : z < 256) (hq : q < 256) : mixB x y z q = (mixN x y z q : Nat) := by
  have h1 := xor_lt256 hx hy
  have h2 : mulN 2 (x ^^^ y) < 256 := mulN_lt (by decide)
  unfold mixB mixN
  rw [xorI_u8 hx hy, twice_nat _ h1, xorI_u8 h2 hy, xorI_u8 (xor_lt256 h2 hy) hz, xorI_u8 (xor_lt256 (xor_lt256 h2 hy) hz) hq, mul_add, mul3 hy, Nat.xor_assoc (mulN 2 x)]

theorem mixR_nat {x y z q : Nat} (hx : x < 256) (hy : y < 256) (hz : z < 256) (hq : q < 256) :
    xorI .u8 (xorI .u8 (xorI .u8 (timesR 2 x) (timesR 3 y)) z) q = (mixN x y z q : Nat) := by
  have h2 : mulN 2 x < 256 := mulN_lt (by decide)
  have h3 : mulN 3 y < 256 := mulN_lt (by decide)
  have e2 : timesR 2 x = (mulN 2 x : Nat) := timesR_nat (a := 2) (by decide) hx
  have e3 : timesR 3 y = (mulN 3 y : Nat) := timesR_nat (a := 3) (by decide) hy
  rw [e2, e3, xorI_u8 h2 h3, xorI_u8 (xor_lt256 h2 h3) hz, xorI_u8 (xor_lt256 (xor_lt256 h2 h3) hz) hq]
  rfl

theorem mix_same {x y z q : Int} (hx : IsB x) (hy : IsB y) (hz : IsB z) (hq : IsB q) : mixB x y z q = xorI .u8 (xorI .u8 (xorI .u8 (timesR 2 x) (timesR 3 y)) z) q := by
  obtain ⟨a, rfl, ha⟩ := hx.nat
  obtain ⟨b, rfl, hb⟩ := hy.nat
  obtain ⟨c, rfl, hc⟩ := hz.nat
  obtain ⟨d, rfl, hd⟩ := hq.nat
  rw [mixB_nat ha hb hc hd, mixR_nat ha hb hc hd]

theorem mixB_isB {x y z q : Int} (hx : IsB x) (hy : IsB y) (hz : IsB z) (hq : IsB q) : IsB (mixB x y z q) := by
  obtain ⟨a, rfl, ha⟩ := hx.nat
  obtain ⟨b, rfl, hb⟩ := hy.nat
  obtain ⟨c, rfl, hc⟩ := hz.nat
  obtain ⟨d, rfl, hd⟩ := hq.nat
  rw [mixB_nat ha hb hc hd]
  exact isB_nat (mixN_lt hc hd)

/-- both mixings are one -/
theorem mixI_mixR {t k : List Int} (ht : Blk t) (hk : Blk k) : mixI t k = xorF (mixR t) k := by
  rw [xorF_map]
  refine map_ext fun i hi => ?_
  show xorI .u8 (mixB _ _ _ _) _ = _
  rw [mix_same (ht.2 _) (ht.2 _) (ht.2 _) (ht.2 _)]
  congr 1
  exact (map_get (f := fun i => xorI .u8 (xorI .u8 (xorI .u8 (timesR 2 (t.getD i 0)) (timesR 3 (t.getD (i - i % 4 + (i + 1) % 4) 0))) (t.getD (i - i % 4 + (i + 2) % 4) 0)) (t.getD (i - i % 4 + (i + 3) % 4) 0)) hi).symm

theorem mixI_blk {t k : List Int} (ht : Blk t) (hk : Blk k) : Blk (mixI t k) := blk_map fun i _ => xorB (mixB_isB (ht.2 _) (ht.2 _) (ht.2 _) (ht.2 _)) (hk.2 i)

/-- a column's first byte, of its mixed bytes -/
theorem unmix {x y z q : Nat} (hx : x < 256) (hy : y < 256) (hz : z < 256) (hq : q < 256) :
    mulN 14 (mixN x y z q) ^^^ mulN 11 (mixN y z q x) ^^^ mulN 13 (mixN z q x y) ^^^ mulN 9 (mixN q x y z) = x := by
  have c : ∀ a b, a < 256 → b < 256 → ∀ v, v < 256 → mulN a (mulN b v) = mulN (mulN a b) v := fun a b ha hb v hv => (mul_assoc ha hb hv).symm
  unfold mixN
  simp only [mul_add]
  rw [c 14 2 (by decide) (by decide) x hx, c 14 3 (by decide) (by decide) y hy, c 11 2 (by decide) (by decide) y hy, c 11 3 (by decide) (by decide) z hz,
    c 13 2 (by decide) (by decide) z hz, c 13 3 (by decide) (by decide) q hq, c 9 2 (by decide) (by decide) q hq, c 9 3 (by decide) (by decide) x hx]
  have s : ∀ a b d e v : Nat, a < 256 → b < 256 → d < 256 → e < 256 → mulN a v ^^^ mulN b v ^^^ mulN d v ^^^ mulN e v = mulN (a ^^^ b ^^^ d ^^^ e) v := fun a b d e v ha hb hd he => by
    rw [add_mul v (xor_lt256 (xor_lt256 ha hb) hd) he, add_mul v (xor_lt256 ha hb) hd, add_mul v ha hb]
  have ex := s (mulN 14 2) 11 13 (mulN 9 3) x (by decide +kernel) (by decide) (by decide) (by decide +kernel)
  have ey := s (mulN 14 3) (mulN 11 2) 13 9 y (by decide +kernel) (by decide +kernel) (by decide) (by decide)
  have ez := s 14 (mulN 11 3) (mulN 13 2) 9 z (by decide) (by decide +kernel) (by decide +kernel) (by decide)
  have eq := s 14 11 (mulN 13 3) (mulN 9 2) q (by decide) (by decide) (by decide +kernel) (by decide +kernel)
  rw [show mulN 14 2 ^^^ 11 ^^^ 13 ^^^ mulN 9 3 = 1 by decide +kernel, mul_one' x hx] at ex
  rw [show mulN 14 3 ^^^ mulN 11 2 ^^^ 13 ^^^ 9 = 0 by decide +kernel] at ey
  rw [show 14 ^^^ mulN 11 3 ^^^ mulN 13 2 ^^^ 9 = 0 by decide +kernel] at ez
  rw [show 14 ^^^ 11 ^^^ mulN 13 3 ^^^ mulN 9 2 = 0 by decide +kernel] at eq
  have z0 : ∀ v, v < 256 → mulN 0 v = 0 := by decide +kernel
  rw [z0 y hy] at ey
  rw [z0 z hz] at ez
  rw [z0 q hq] at eq
  have : ∀ a1 a2 a3 a4 b1 b2 b3 b4 c1 c2 c3 c4 d1 d2 d3 d4 : Nat, a1 ^^^ b4 ^^^ c3 ^^^ d2 = x → a2 ^^^ b1 ^^^ c4 ^^^ d3 = 0 → a3 ^^^ b2 ^^^ c1 ^^^ d4 = 0 → a4 ^^^ b3 ^^^ c2 ^^^ d1 = 0 →
      (a1 ^^^ a2 ^^^ a3 ^^^ a4) ^^^ (b1 ^^^ b2 ^^^ b3 ^^^ b4) ^^^ (c1 ^^^ c2 ^^^ c3 ^^^ c4) ^^^ (d1 ^^^ d2 ^^^ d3 ^^^ d4) = x := by
    intro a1 a2 a3 a4 b1 b2 b3 b4 c1 c2 c3 c4 d1 d2 d3 d4 h1 h2 h3 h4
    have : (a1 ^^^ a2 ^^^ a3 ^^^ a4) ^^^ (b1 ^^^ b2 ^^^ b3 ^^^ b4) ^^^ (c1 ^^^ c2 ^^^ c3 ^^^ c4) ^^^ (d1 ^^^ d2 ^^^ d3 ^^^ d4) = (a1 ^^^ b4 ^^^ c3 ^^^ d2) ^^^ (a2 ^^^ b1 ^^^ c4 ^^^ d3) ^^^ (a3 ^^^ b2 ^^^ c1 ^^^ d4) ^^^ (a4 ^^^ b3 ^^^ c2 ^^^ d1) := by ac_rfl
    rw [this, h1, h2, h3, h4]; simp
  exact this _ _ _ _ _ _ _ _ _ _ _ _ _ _ _ _ ex ey ez eq

theorem turns : ∀ i, i < 16 → ∀ a, a < 4 → ∀ b, b < 4 → (i - i % 4 + (i + a) % 4) - (i - i % 4 + (i + a) % 4) % 4 + ((i - i % 4 + (i + a) % 4) + b) % 4 = i - i % 4 + (i + (a + b) % 4) % 4 := by decide +kernel
theorem turn0 : ∀ i, i < 16 → i - i % 4 + (i + 0) % 4 = i := by decide +kernel
theorem turn_lt : ∀ i, i < 16 → ∀ a, a < 4 → i - i % 4 + (i + a) % 4 < 16 := by decide +kernel

theorem mixI_inj {a b k : List Int} (ha : Blk a) (hb : Blk b) (hk : Blk k) (h : mixI a k = mixI b k) : a = b := by
  -- the mixed bytes
  have hm : ∀ i, i < 16 → mixB (a.getD i 0) (a.getD (i - i % 4 + (i + 1) % 4) 0) (a.getD (i - i % 4 + (i + 2) % 4) 0) (a.getD (i - i % 4 + (i + 3) % 4) 0) =
      mixB (b.getD i 0) (b.getD (i - i % 4 + (i + 1) % 4) 0) (b.getD (i - i % 4 + (i + 2) % 4) 0) (b.getD (i - i % 4 + (i + 3) % 4) 0) := fun i hi =>
    xor_cancel (mixB_isB (ha.2 _) (ha.2 _) (ha.2 _) (ha.2 _)) (mixB_isB (hb.2 _) (hb.2 _) (hb.2 _) (hb.2 _)) (hk.2 i) (map_inj h hi)
  let u (l : List Int) (j : Nat) : Nat := (l.getD j 0).toNat
  have lt : ∀ {l : List Int}, Blk l → ∀ j, u l j < 256 := fun hl j => isB_nat_lt (hl.2 j)
  have cast : ∀ {l : List Int}, Blk l → ∀ j, l.getD j 0 = (u l j : Int) := fun hl j => by
    have := hl.2 j
    unfold IsB at this
    show _ = (((_ : Int).toNat : Nat) : Int)
    omega
  have hN : ∀ i, i < 16 → mixN (u a i) (u a (i - i % 4 + (i + 1) % 4)) (u a (i - i % 4 + (i + 2) % 4)) (u a (i - i % 4 + (i + 3) % 4)) =
      mixN (u b i) (u b (i - i % 4 + (i + 1) % 4)) (u b (i - i % 4 + (i + 2) % 4)) (u b (i - i % 4 + (i + 3) % 4)) := fun i hi => by
    have := hm i hi
    simp only [cast ha, cast hb] at this
    rw [mixB_nat (lt ha _) (lt ha _) (lt ha _) (lt ha _), mixB_nat (lt hb _) (lt hb _) (lt hb _) (lt hb _)] at this
    exact Int.ofNat.inj this
  refine blk_ext ha.1 hb.1 fun i hi => ?_
  rw [cast ha, cast hb]
  have t1 := hN _ (turn_lt i hi 1 (by decide))
  have t2 := hN _ (turn_lt i hi 2 (by decide))
  have t3 := hN _ (turn_lt i hi 3 (by decide))
  have t0 := hN i hi
  rw [turns i hi 1 (by decide) 1 (by decide), turns i hi 1 (by decide) 2 (by decide), turns i hi 1 (by decide) 3 (by decide)] at t1
  rw [turns i hi 2 (by decide) 1 (by decide), turns i hi 2 (by decide) 2 (by decide), turns i hi 2 (by decide) 3 (by decide)] at t2
  rw [turns i hi 3 (by decide) 1 (by decide), turns i hi 3 (by decide) 2 (by decide), turns i hi 3 (by decide) 3 (by decide)] at t3
  rw [show (1 + 1) % 4 = 2 from rfl, show (1 + 2) % 4 = 3 from rfl, show (1 + 3) % 4 = 0 from rfl, turn0 i hi] at t1
  rw [show (2 + 1) % 4 = 3 from rfl, show (2 + 2) % 4 = 0 from rfl, show (2 + 3) % 4 = 1 from rfl, turn0 i hi] at t2
  rw [show (3 + 1) % 4 = 0 from rfl, show (3 + 2) % 4 = 1 from rfl, show (3 + 3) % 4 = 2 from rfl, turn0 i hi] at t3
  have ea := unmix (lt ha i) (lt ha (i - i % 4 + (i + 1) % 4)) (lt ha (i - i % 4 + (i + 2) % 4)) (lt ha (i - i % 4 + (i + 3) % 4))
  have eb := unmix (lt hb i) (lt hb (i - i % 4 + (i + 1) % 4)) (lt hb (i - i % 4 + (i + 2) % 4)) (lt hb (i - i % 4 + (i + 3) % 4))
  rw [t0, t1, t2, t3] at ea
  rw [← ea, eb]

end Go.Proofs.Ytlkddajnebjlcaa.Aes

end
section
/- Layer 3 (aes): a block that is known; both ways are one; unlike blocks; boxes. -/
set_option linter.unusedVariables false
set_option maxRecDepth 1000000
namespace Go.Proofs.Ytlkddajnebjlcaa.Aes
open Go Vse Go.Proofs

def keyW : List (List Int) := [[0, 1, 2, 3, 4, 5, 6, 7, 8, 9, 10, 11, 12, 13, 14, 15], [214, 170, 116, 253, 210, 175, 114, 250, 218, 166, 120, 241, 214, 171, 118, 254], [182, 146, 207, 11, 100, 61, 189, 241, 190, 155, 197, 0, 104, 48, 179, 254], [182, 255, 116, 78, 210, 194, 201, 191, 108, 89, 12, 191, 4, 105, 191, 65], [71, 247, 247, 188, 149, 53, 62, 3, 249, 108, 50, 188, 253, 5, 141, 253], [60, 170, 163, 232, 169, 159, 157, 235, 80, 243, 175, 87, 173, 246, 34, 170], [94, 57, 15, 125, 247, 166, 146, 150, 167, 85, 61, 193, 10, 163, 31, 107], [20, 249, 112, 26, 227, 95, 226, 140, 68, 10, 223, 77, 78, 169, 192, 38], [71, 67, 135, 53, 164, 28, 101, 185, 224, 22, 186, 244, 174, 191, 122, 210], [84, 153, 50, 209, 240, 133, 87, 104, 16, 147, 237, 156, 190, 44, 151, 78], [19, 17, 29, 127, 227, 148, 74, 23, 243, 7, 167, 139, 77, 43, 48, 197]]
def blkW0 : List Int := [0, 16, 32, 48, 64, 80, 96, 112, 128, 144, 160, 176, 192, 208, 224, 240]
def blkW1 : List Int := [137, 216, 16, 232, 133, 90, 206, 104, 45, 24, 67, 216, 203, 18, 143, 228]
def blkW2 : List Int := [73, 21, 89, 143, 85, 229, 215, 160, 218, 202, 148, 250, 31, 10, 99, 247]
def blkW3 : List Int := [250, 99, 106, 40, 37, 179, 57, 201, 64, 102, 138, 49, 87, 36, 77, 23]
def blkW4 : List Int := [36, 114, 64, 35, 105, 102, 179, 250, 110, 210, 117, 50, 136, 66, 91, 108]
def blkW5 : List Int := [200, 22, 119, 188, 155, 122, 201, 59, 37, 2, 121, 146, 176, 38, 25, 150]
def blkW6 : List Int := [198, 47, 225, 9, 247, 94, 237, 195, 204, 121, 57, 93, 132, 249, 207, 93]
def blkW7 : List Int := [209, 135, 108, 15, 121, 196, 48, 10, 180, 85, 148, 173, 214, 111, 244, 31]
def blkW8 : List Int := [253, 227, 186, 210, 5, 229, 208, 215, 53, 71, 150, 78, 241, 254, 55, 241]
def blkW9 : List Int := [189, 110, 124, 61, 242, 181, 119, 158, 11, 97, 33, 110, 139, 16, 182, 137]
def blkW10 : List Int := [105, 196, 224, 216, 106, 123, 4, 48, 216, 205, 183, 128, 112, 180, 197, 90]
def blkW : List Int := [0, 17, 34, 51, 68, 85, 102, 119, 136, 153, 170, 187, 204, 221, 238, 255]
def key0 : List Int := [0, 1, 2, 3, 4, 5, 6, 7, 8, 9, 10, 11, 12, 13, 14, 15]
theorem rowW0 : nextRow boxL (rowOf keyW 0) 1 = rowOf keyW 1 := by decide +kernel
theorem rowW1 : nextRow boxL (rowOf keyW 1) 2 = rowOf keyW 2 := by decide +kernel
theorem rowW2 : nextRow boxL (rowOf keyW 2) 4 = rowOf keyW 3 := by decide +kernel
theorem rowW3 : nextRow boxL (rowOf keyW 3) 8 = rowOf keyW 4 := by decide +kernel
theorem rowW4 : nextRow boxL (rowOf keyW 4) 16 = rowOf keyW 5 := by decide +kernel
theorem rowW5 : nextRow boxL (rowOf keyW 5) 32 = rowOf keyW 6 := by decide +kernel
theorem rowW6 : nextRow boxL (rowOf keyW 6) 64 = rowOf keyW 7 := by decide +kernel
theorem rowW7 : nextRow boxL (rowOf keyW 7) 128 = rowOf keyW 8 := by decide +kernel
theorem rowW8 : nextRow boxL (rowOf keyW 8) 27 = rowOf keyW 9 := by decide +kernel
theorem rowW9 : nextRow boxL (rowOf keyW 9) 54 = rowOf keyW 10 := by decide +kernel
theorem encW0 : xorF blkW (rowOf keyW 0) = blkW0 := by decide +kernel
theorem encW1 : roundE keyW 0 blkW0 = blkW1 := by decide +kernel
theorem encW2 : roundE keyW 1 blkW1 = blkW2 := by decide +kernel
theorem encW3 : roundE keyW 2 blkW2 = blkW3 := by decide +kernel
theorem encW4 : roundE keyW 3 blkW3 = blkW4 := by decide +kernel
theorem encW5 : roundE keyW 4 blkW4 = blkW5 := by decide +kernel
theorem encW6 : roundE keyW 5 blkW5 = blkW6 := by decide +kernel
theorem encW7 : roundE keyW 6 blkW6 = blkW7 := by decide +kernel
theorem encW8 : roundE keyW 7 blkW7 = blkW8 := by decide +kernel
theorem encW9 : roundE keyW 8 blkW8 = blkW9 := by decide +kernel
theorem encW10 : roundE keyW 9 blkW9 = blkW10 := by decide +kernel

theorem keysW : keysI key0 = keyW := by
  unfold keysI
  have e0 : key0 = rowOf keyW 0 := by decide +kernel
  simp only [e0, rowW0, rowW1, rowW2, rowW3, rowW4, rowW5, rowW6, rowW7, rowW8, rowW9]
  decide +kernel

theorem encW : encI key0 blkW = blkW10 := by
  unfold encI
  rw [keysW]
  show roundE keyW 9 (roundE keyW 8 (roundE keyW 7 (roundE keyW 6 (roundE keyW 5 (roundE keyW 4 (roundE keyW 3 (roundE keyW 2 (roundE keyW 1 (roundE keyW 0 (xorF blkW (rowOf keyW 0))))))))))) = _
  rw [encW0, encW1, encW2, encW3, encW4, encW5, encW6, encW7, encW8, encW9, encW10]

theorem blk_mem {l : List Int} (h : l.length = 16) (hm : ∀ x ∈ l, IsB x) : Blk l := by
  refine ⟨h, fun i => ?_⟩
  rw [List.getD_eq_getElem?_getD]
  cases hx : l[i]? with
  | none => show IsB 0; unfold IsB; omega
  | some x => exact hm x (List.mem_of_getElem? hx)

theorem boxB {x : Int} (hx : IsB x) : IsB (boxL.getD x.toNat 0) := box_lt _ (isB_nat_lt hx)

theorem nextRow_blk {was : List Int} {pw : Int} (hw : Blk was) (hp : IsB pw) : Blk (nextRow boxL was pw) := by
  have f : ∀ i j, IsB (xorI .u8 (was.getD i 0) (boxL.getD (was.getD j 0).toNat 0)) := fun i j => xorB (hw.2 i) (boxB (hw.2 j))
  have a0 : IsB _ := xorB (f 0 13) hp
  have a4 := xorB (hw.2 4) a0
  have a5 := xorB (hw.2 5) (f 1 14)
  have a6 := xorB (hw.2 6) (f 2 15)
  have a7 := xorB (hw.2 7) (f 3 12)
  have a8 := xorB (hw.2 8) a4
  have a9 := xorB (hw.2 9) a5
  have aa := xorB (hw.2 10) a6
  have ab := xorB (hw.2 11) a7
  have ac := xorB (hw.2 12) a8
  have ad := xorB (hw.2 13) a9
  have ae := xorB (hw.2 14) aa
  have af := xorB (hw.2 15) ab
  refine blk_mem rfl fun x hx => ?_
  simp only [nextRow, List.mem_cons, List.not_mem_nil, or_false] at hx
  rcases hx with rfl | rfl | rfl | rfl | rfl | rfl | rfl | rfl | rfl | rfl | rfl | rfl | rfl | rfl | rfl | rfl
  · exact a0
  · exact f 1 14
  · exact f 2 15
  · exact f 3 12
  all_goals assumption

theorem isB_lit {n : Nat} (h : n < 256) : IsB (n : Int) := isB_nat h

theorem keys_blk {key : List Int} (hk : Blk key) : ∀ i, i < 11 → Blk (rowOf (keysI key) i) := by
  have r1 := nextRow_blk hk (isB_lit (n := 1) (by decide))
  have r2 := nextRow_blk r1 (isB_lit (n := 2) (by decide))
  have r3 := nextRow_blk r2 (isB_lit (n := 4) (by decide))
  have r4 := nextRow_blk r3 (isB_lit (n := 8) (by decide))
  have r5 := nextRow_blk r4 (isB_lit (n := 16) (by decide))
  have r6 := nextRow_blk r5 (isB_lit (n := 32) (by decide))
  have r7 := nextRow_blk r6 (isB_lit (n := 64) (by decide))
  have r8 := nextRow_blk r7 (isB_lit (n := 128) (by decide))
  have r9 := nextRow_blk r8 (isB_lit (n := 27) (by decide))
  have r10 := nextRow_blk r9 (isB_lit (n := 54) (by decide))
  intro i hi
  match i, hi with
  | 0, _ => exact hk
  | 1, _ => exact r1
  | 2, _ => exact r2
  | 3, _ => exact r3
  | 4, _ => exact r4
  | 5, _ => exact r5
  | 6, _ => exact r6
  | 7, _ => exact r7
  | 8, _ => exact r8
  | 9, _ => exact r9
  | 10, _ => exact r10
  | i + 11, h => omega

theorem roundE_blk {ks : List (List Int)} (hk : ∀ i, i < 11 → Blk (rowOf ks i)) {n : Nat} (hn : n < 10) {b : List Int} (hb : Blk b) : Blk (roundE ks n b) := by
  unfold roundE lineI
  cases decide ((n : Int) < 9)
  · exact xorF_blk (subI_blk hb) (hk _ (by omega))
  · exact mixI_blk (subI_blk hb) (hk _ (by omega))

theorem roundE_inj {ks : List (List Int)} (hk : ∀ i, i < 11 → Blk (rowOf ks i)) {n : Nat} (hn : n < 10) {a b : List Int} (ha : Blk a) (hb : Blk b) (h : roundE ks n a = roundE ks n b) : a = b := by
  unfold roundE lineI at h
  cases hd : decide ((n : Int) < 9)
  · rw [hd] at h
    exact subI_inj ha hb (xorF_inj (subI_blk ha) (subI_blk hb) (hk _ (by omega)) h)
  · rw [hd] at h
    exact subI_inj ha hb (mixI_inj (subI_blk ha) (subI_blk hb) (hk _ (by omega)) h)

/-- the first so many rounds -/
def encN (ks : List (List Int)) (b : List Int) : Nat → List Int
  | 0 => xorF b (rowOf ks 0)
  | n + 1 => roundE ks n (encN ks b n)
theorem encI_N (key b : List Int) : encI key b = encN (keysI key) b 10 := rfl

theorem encN_blk {ks : List (List Int)} (hk : ∀ i, i < 11 → Blk (rowOf ks i)) {b : List Int} (hb : Blk b) : ∀ n, n ≤ 10 → Blk (encN ks b n)
  | 0, _ => xorF_blk hb (hk 0 (by decide))
  | n + 1, h => roundE_blk hk (by omega) (encN_blk hk hb n (by omega))

theorem encN_inj {ks : List (List Int)} (hk : ∀ i, i < 11 → Blk (rowOf ks i)) {a b : List Int} (ha : Blk a) (hb : Blk b) : ∀ n, n ≤ 10 → encN ks a n = encN ks b n → a = b
  | 0, _, h => xorF_inj ha hb (hk 0 (by decide)) h
  | n + 1, hn, h => encN_inj hk ha hb n (by omega) (roundE_inj hk (by omega) (encN_blk hk ha n (by omega)) (encN_blk hk hb n (by omega)) h)

/-- of unlike blocks those under one key are unlike -/
theorem enc_inj {key a b : List Int} (hk : Blk key) (ha : Blk a) (hb : Blk b) (h : encI key a = encI key b) : a = b := encN_inj (keys_blk hk) ha hb 10 (Nat.le_refl _) h

theorem round_same {ks : List (List Int)} (hk : ∀ i, i < 11 → Blk (rowOf ks i)) {n : Nat} (hn : n < 10) {b : List Int} (hb : Blk b) : roundE ks n b = roundR ks (n + 1) b := by
  unfold roundE roundR lineI
  rw [show decide (((n + 1 : Nat) : Int) < 10) = decide ((n : Int) < 9) from decide_eq_decide.2 (by omega)]
  cases decide ((n : Int) < 9)
  · rfl
  · exact mixI_mixR (subI_blk hb) (hk _ (by omega))

/-- both ways are one -/
theorem enc_same {key b : List Int} (hk : Blk key) (hb : Blk b) : encI key b = encR key b := by
  have hks := keys_blk hk
  have s : ∀ n, n < 10 → encN (keysI key) b (n + 1) = roundR (keysI key) (n + 1) (encN (keysI key) b n) := fun n hn => round_same hks hn (encN_blk hks hb n (by omega))
  rw [encI_N, s 9 (by decide), s 8 (by decide), s 7 (by decide), s 6 (by decide), s 5 (by decide), s 4 (by decide), s 3 (by decide), s 2 (by decide), s 1 (by decide), s 0 (by decide)]
  rfl


end Go.Proofs.Ytlkddajnebjlcaa.Aes

end

/- The laws of layer 2 (mac) are true. -/
import Derived.Test.YtlkddajnebjlcaaK7
import Derived.Test.YtlkddajnebjlcaaH13
set_option linter.unusedVariables false
set_option maxRecDepth 100000
namespace Go.Proofs.Ytlkddajnebjlcaa.Mac
open Go Vse Go.Proofs Gen
open Sha hiding wb wu getD_cons cA cL

/-! a key, filled up -/

theorem over_get {k : List Int} {i : Nat} (hi : i < 64) : (overL z64 k)[i]? = some (if i < k.length then k.getD i 0 else 0) := by
  have hz : z64.length = 64 := rfl
  unfold overL
  rw [hz]
  have hl : (k.take 64).length = min 64 k.length := List.length_take
  by_cases h : i < k.length
  · rw [List.getElem?_append_left (by omega), List.getElem?_take, if_pos hi, List.getElem?_eq_getElem h, if_pos h, List.getD_eq_getElem?_getD, List.getElem?_eq_getElem h]
    rfl
  · rw [List.getElem?_append_right (by omega), hl, if_neg h]
    unfold z64
    rw [List.drop_replicate, List.getElem?_replicate, if_pos (by omega)]

theorem fill_eq {k : List Int} {by_ : Int} (h0 : xorI .u8 0 by_ = by_) : all 64 (xorF by_ (overL z64 k ++ [])) = xX k by_ := by
  have hl : (overL z64 k).length = 64 := (overL_len _ _).trans rfl
  rw [List.append_nil]
  have hx : (xorF by_ (overL z64 k)).length = 64 := by unfold xorF; rw [List.length_map, hl]
  rw [all_id hx]
  apply List.ext_getElem?
  intro i
  by_cases hi : i < 64
  · unfold xorF xX xL
    rw [List.getElem?_map, List.getElem?_map, over_get hi, List.getElem?_range hi]
    simp only [Option.map_some, xEl]
    by_cases h : i < k.length
    · rw [if_pos h, if_pos h]
    · rw [if_neg h, if_neg h, h0]
  · rw [List.getElem?_eq_none (by omega), List.getElem?_eq_none (by show (xL k by_ 64).length ≤ i; rw [xL_len]; omega)]

theorem key_same {key : List Int} (hB : Bytes key) (hl : key.length ≤ 1000000) : keyF key = overL z64 (keyR key) ++ [] := by
  unfold keyF keyR
  rw [sums_same hB (by omega)]

theorem fill_same {key : List Int} (hB : Bytes key) (hl : key.length ≤ 1000000) {by_ : Int} (h0 : xorI .u8 0 by_ = by_) : fillK key by_ = xorK key by_ := by
  unfold fillK xorK
  rw [key_same hB hl, fill_eq h0]

theorem x54 : xorI .u8 0 54 = 54 := by kernel_rfl
theorem x92 : xorI .u8 0 92 = 92 := by kernel_rfl

theorem wb_byte (x : Int) : 0 ≤ wb x ∧ wb x < 256 := by rw [show wb x = x % 256 from wb_mod x]; omega
theorem bytes_append {a b : List Int} (ha : Bytes a) (hb : Bytes b) : Bytes (a ++ b) := fun x hx => by
  rcases List.mem_append.1 hx with h | h
  · exact ha x h
  · exact hb x h
theorem bytes_fill (key : List Int) (by_ : Int) : Bytes (fillK key by_) := fun x hx => by
  unfold fillK all xorF at hx
  have hx := List.mem_of_mem_drop (List.mem_of_mem_take hx)
  obtain ⟨y, _, rfl⟩ := List.mem_map.1 hx
  exact wb_byte _
theorem bytes_set {l : List Int} (h : Bytes l) (i : Nat) (x : Int) : Bytes (l.set i (wb x)) := fun y hy => by
  rcases List.mem_or_eq_of_mem_set hy with h' | rfl
  · exact h y h'
  · exact wb_byte x
theorem bytes_outL (s : List Int) : ∀ (m i : Nat) (q : List Int), Bytes q → Bytes (outL s i m q)
  | 0, i, q, h => h
  | m + 1, i, q, h => by
    rw [outL]
    exact bytes_outL s m (i + 1) _ (bytes_set h i _)
theorem bytes_sha (b : List Int) : Bytes (shaF b) := by
  rw [shaF_hash]
  unfold sumH outF
  refine bytes_outL _ _ _ _ fun x hx => ?_
  have : ∀ x ∈ zeros32, x = 0 := by decide
  rw [this x hx]
  omega
theorem bytes_mac (key b : List Int) : Bytes (macF key b) := bytes_sha _

theorem mac_same {key b : List Int} (hk : Bytes key) (hb : Bytes b) (hl : key.length ≤ 1000000) (hl2 : b.length ≤ 1000000) : macF key b = rmacF key b := by
  have l1 := fillK_len key 54
  have l2 := fillK_len key 92
  have e1 : shaF (fillK key 54 ++ b) = rsumF (fillK key 54 ++ b) := sums_same (bytes_append (bytes_fill _ _) hb) (by rw [List.length_append]; omega)
  have h32 : all 32 (shaF (fillK key 54 ++ b)) = shaF (fillK key 54 ++ b) := all_id (shaF_len _)
  have e2 : shaF (fillK key 92 ++ shaF (fillK key 54 ++ b)) = rsumF (fillK key 92 ++ shaF (fillK key 54 ++ b)) :=
    sums_same (bytes_append (bytes_fill _ _) (bytes_sha _)) (by rw [List.length_append, shaF_len]; omega)
  unfold macF rmacF
  rw [h32, e2, e1, all_id (rsumF_len _), fill_same hk hl x54, fill_same hk hl x92]

/-! keys -/

theorem bytes_str (s : ByteArray) : Bytes (strBytes s) := fun x hx => by
  unfold strBytes at hx
  obtain ⟨c, _, rfl⟩ := List.mem_map.1 hx
  have := UInt8.toNat_lt c
  omega

theorem wb_wb (n : Int) : wb (wb n + 1) = wb (n + 1) := by
  have h : ∀ x, wb x = x % 256 := fun x => wb_mod x
  rw [h, h, h]; omega

theorem blk_same {key : List Int} {s : ByteArray} (hk : Bytes key) (hl : key.length ≤ 1000000) (hs : s.size ≤ 100000) {last : List Int} (hB : Bytes last) (h32 : last.length ≤ 32) (n : Int) : blkE key s last (wb n) = blkR key s last n := by
  have hf : [last, strBytes s, [wb n]].flatten = (([] ++ last) ++ strBytes s) ++ [wb n] := by
    simp only [List.flatten_cons, List.flatten_nil, List.append_nil, List.nil_append, List.append_assoc]
  have hm : Bytes ((([] ++ last) ++ strBytes s) ++ [wb n]) := bytes_append (bytes_append hB (bytes_str s)) fun x hx => by rw [List.mem_singleton.1 hx]; exact wb_byte n
  have hsl := strBytes_len s
  unfold blkE blkR
  rw [hf, mac_same hk hm hl (by simp only [List.length_append, List.length_singleton, List.length_nil]; omega)]
  exact (all_id (rsumF_len _)).symm

theorem exp_same {key : List Int} {s : ByteArray} (hk : Bytes key) (hl : key.length ≤ 1000000) (hs : s.size ≤ 100000) (many : Int) : ∀ (f : Nat) (last : List Int) (n : Int) (out : List Int), Bytes last → last.length ≤ 32 →
    expL key s many f last (wb n) out = expR key s many f last n out
  | 0, last, n, out, _, _ => rfl
  | f + 1, last, n, out, hB, h32 => by
    have hb := blk_same hk hl hs hB h32 n
    have h1 : Bytes (blkE key s last (wb n)) := bytes_mac _ _
    have h2 : (blkE key s last (wb n)).length = 32 := macF_len _ _
    rw [hb] at h1 h2
    simp only [expL, expR]
    rw [hb, wb_wb]
    by_cases hc : (out.length : Int) < many
    · rw [if_pos hc, if_pos hc]
      exact exp_same hk hl hs many f _ _ _ h1 (by omega)
    · rw [if_neg hc, if_neg hc]

theorem expand_same {key : List Int} {s : ByteArray} (hk : Bytes key) (hl : key.length ≤ 1000000) (hs : s.size ≤ 100000) (many : Int) : expF key s many = rexpF key s many := by
  unfold expF rexpF expX expY
  rw [← exp_same hk hl hs many 255 [] 1 [] (fun x hx => by cases hx) (by simp)]
  rfl

/-! codes that are the same -/

theorem or_zero {x y : Nat} : x ||| y = 0 ↔ x = 0 ∧ y = 0 := Nat.or_eq_zero_iff
theorem xor_zero {m n : Nat} : m ^^^ n = 0 ↔ m = n := by
  constructor
  · intro h
    have e : m ^^^ (m ^^^ n) = n := by rw [← Nat.xor_assoc, Nat.xor_self, Nat.zero_xor]
    rw [h, Nat.xor_zero] at e
    exact e
  · rintro rfl
    exact Nat.xor_self m
theorem orF_zero : ∀ (a b : List Int) (u : Nat), a.length = b.length → Bytes a → Bytes b → u < 256 → (orF a b u = 0 ↔ u = 0 ∧ a = b)
  | [], [], u, _, _, _, _ => by
    show (u : Int) = 0 ↔ _
    simp
  | [], _ :: _, _, h, _, _, _ => by cases h
  | _ :: _, [], _, h, _, _, _ => by cases h
  | x :: a, y :: b, u, h, ha, hb, hu => by
    obtain ⟨x0, x1⟩ := ha x (by simp)
    obtain ⟨y0, y1⟩ := hb y (by simp)
    obtain ⟨m, rfl⟩ := Int.eq_ofNat_of_zero_le x0
    obtain ⟨n, rfl⟩ := Int.eq_ofNat_of_zero_le y0
    have hm : m < 256 := by omega
    have hn : n < 256 := by omega
    have hx := xor_lt256 hm hn
    have ho : u ||| (m ^^^ n) < 256 := Nat.or_lt_two_pow (n := 8) hu hx
    have e1 : orI .u8 (u : Int) (xorI .u8 (m : Int) (n : Int)) = ((u ||| (m ^^^ n) : Nat) : Int) := by
      rw [xorI_u8 hm hn]
      exact orI_nat (by rw [max_u8]; omega) (by rw [max_u8]; omega) (by rw [max_u8]; omega)
    show orF a b (orI .u8 u (xorI .u8 m n)) = 0 ↔ _
    rw [e1, orF_zero a b _ (by simpa using h) (fun z hz => ha z (List.mem_cons_of_mem _ hz)) (fun z hz => hb z (List.mem_cons_of_mem _ hz)) ho, or_zero, xor_zero]
    constructor
    · rintro ⟨⟨h1, h2⟩, h3⟩
      exact ⟨h1, by rw [h2, h3]⟩
    · rintro ⟨h1, h2⟩
      simp only [List.cons.injEq] at h2
      exact ⟨⟨h1, by omega⟩, h2.2⟩

theorem eq_same {a b : List Int} (ha : Bytes a) (hb : Bytes b) : eqF a b = sameI a b := by
  unfold eqF sameI orX
  by_cases h : a.length = b.length
  · have e1 : ((a.length : Int) != (b.length : Int)) = false := by simp [h]
    have := orF_zero a b 0 h ha hb (by omega)
    rw [e1]
    show (orF a b 0 == 0) = _
    have e2 : orF a b ((0 : Nat) : Int) = orF a b 0 := rfl
    rw [e2] at this
    by_cases hab : a = b
    · rw [decide_eq_true hab, this.2 ⟨rfl, hab⟩]; rfl
    · rw [decide_eq_false hab]
      have : ¬ orF a b 0 = 0 := fun hh => hab (this.1 hh).2
      simpa using this
  · have e1 : ((a.length : Int) != (b.length : Int)) = true := by simp; omega
    rw [e1, decide_eq_false fun hab => h (by rw [hab])]
    rfl

theorem xor_self (x : Int) : xorI .u8 x x = 0 := by
  unfold xorI
  rw [BitVec.xor_self]
  rfl
theorem orF_self : ∀ a : List Int, orF a a 0 = 0
  | [] => rfl
  | x :: a => by
    show orF a a (orI .u8 0 (xorI .u8 x x)) = 0
    rw [xor_self]
    exact orF_self a
theorem eqF_self (a : List Int) : eqF a a = true := by
  unfold eqF orX
  rw [orF_self, bne_self_eq_false]
  rfl

/-! MacTells -/

theorem T11_true {key b : List Int} {many : Int} (hk : Bytes key) (hb : Bytes b) : (T11 macL macP expF expP eqF rmacF oneP rexpF expP macF oneP key b many).eval = some (.v .bool true) := by
  have hsz := bytesStr_size b
  unfold T11
  simp only
  by_cases h1 : (key.length : Int) > 200
  · rw [ite_t (decide_eq_true h1)]; rfl
  rw [ite_f (decide_eq_false h1)]
  by_cases h2 : (b.length : Int) > 200
  · rw [ite_t (decide_eq_true h2)]; rfl
  rw [ite_f (decide_eq_false h2)]
  by_cases h3 : many > 300
  · rw [ite_t (decide_eq_true h3)]; rfl
  rw [ite_f (decide_eq_false h3)]
  have e1 : expP key (bytesStr b) = true := by simp only [expP, Bool.and_eq_true, decide_eq_true_eq]; omega
  have e2 : macP key [b] = true := by simp only [macP, tot, List.map_cons, List.map_nil, List.sum_cons, List.sum_nil, List.length_cons, List.length_nil, Bool.and_eq_true, decide_eq_true_eq]; omega
  have e3 : oneP key b = true := by simp only [oneP, Bool.and_eq_true, decide_eq_true_eq]; omega
  have hf : macL key [b] = macF key b := by
    show macF key [b].flatten = _
    rw [List.flatten_cons, List.flatten_nil, List.append_nil]
  have hm := mac_same hk hb (by omega) (by omega)
  have hE := expand_same (s := bytesStr b) hk (by omega) (by omega) many
  have hs : sameI (expF key (bytesStr b) many).1 (rexpF key (bytesStr b) many).1 = true := by rw [hE]; exact decide_eq_true rfl
  have he : ((expF key (bytesStr b) many).2.1 == (rexpF key (bytesStr b) many).2.1) = true := by rw [hE]; simp
  rw [chk_eval e1, chk_eval e1, chk_eval e2, chk_eval e3, ite_t (by rw [hf, hm]; exact eqA_self _), chk_eval e3, chk_eval e3, ite_t (by rw [hm]; exact eqA_self _), ite_t hs, ite_t he, eq_same hk hb, beq_self_eq_true]
  rfl

/-! MacFirst -/

def expS (key : List Int) (s : ByteArray) : Nat → List Int → Int → List Int → List Int
  | 0, _, _, out => out
  | f + 1, last, n, out => expS key s f (blkE key s last n) (wb (n + 1)) (out ++ blkE key s last n)
theorem expS_pre (key : List Int) (s : ByteArray) : ∀ (f : Nat) (last : List Int) (n : Int) (out : List Int), ∃ r, expS key s f last n out = out ++ r
  | 0, last, n, out => ⟨[], by simp [expS]⟩
  | f + 1, last, n, out => by
    obtain ⟨r, hr⟩ := expS_pre key s f (blkE key s last n) (wb (n + 1)) (out ++ blkE key s last n)
    exact ⟨blkE key s last n ++ r, by rw [expS, hr, List.append_assoc]⟩
theorem expL_take (key : List Int) (s : ByteArray) (m : Nat) : ∀ (f : Nat) (last : List Int) (n : Int) (out : List Int), (expL key s (m : Int) f last n out).take m = (expS key s f last n out).take m
  | 0, last, n, out => rfl
  | f + 1, last, n, out => by
    by_cases hc : (out.length : Int) < (m : Int)
    · simp only [expL, expS]
      rw [if_pos hc]
      exact expL_take key s m f _ _ _
    · obtain ⟨r, hr⟩ := expS_pre key s (f + 1) last n out
      simp only [expL]
      rw [if_neg hc, hr, List.take_append_of_le_length (by omega)]

theorem T10_true {key : List Int} {s : ByteArray} {x y : Int} : (T10 expF expP eqF key s x y).eval = some (.v .bool true) := by
  unfold T10
  simp only
  by_cases h1 : (key.length : Int) > 200
  · rw [ite_t (decide_eq_true h1)]; rfl
  rw [ite_f (decide_eq_false h1)]
  by_cases h2 : (s.size : Int) > 200
  · rw [ite_t (decide_eq_true h2)]; rfl
  rw [ite_f (decide_eq_false h2)]
  by_cases h3 : x < 0
  · rw [ite_t (decide_eq_true h3)]; rfl
  rw [ite_f (decide_eq_false h3)]
  by_cases h4 : y < x
  · rw [ite_t (decide_eq_true h4)]; rfl
  rw [ite_f (decide_eq_false h4)]
  by_cases h5 : y > 500
  · rw [ite_t (decide_eq_true h5)]; rfl
  rw [ite_f (decide_eq_false h5)]
  have e1 : expP key s = true := by simp only [expP, Bool.and_eq_true, decide_eq_true_eq]; omega
  obtain ⟨m, rfl⟩ := Int.eq_ofNat_of_zero_le (show 0 ≤ x by omega)
  obtain ⟨n, rfl⟩ := Int.eq_ofNat_of_zero_le (show 0 ≤ y by omega)
  have hx : expF key s (m : Int) = ((expS key s 255 [] 1 []).take m, 0, ()) := by
    unfold expF expX
    rw [if_neg (by omega), Int.toNat_natCast, expL_take]
  have hy : expF key s (n : Int) = ((expS key s 255 [] 1 []).take n, 0, ()) := by
    unfold expF expX
    rw [if_neg (by omega), Int.toNat_natCast, expL_take]
  have hl := expL_len key s (n : Int) 255 [] 1 [] (by rw [List.length_nil]; omega)
  have hn : ((expS key s 255 [] 1 []).take n).length = n := by
    rw [← expL_take, List.length_take]; omega
  have hlen : n ≤ (expS key s 255 [] 1 []).length := by rw [List.length_take] at hn; omega
  rw [chk_eval e1, chk_eval e1, hx, hy]
  simp only
  have f1 : ((((expS key s 255 [] 1 []).take m).length : Int) != (m : Int)) = false := by rw [List.length_take, Nat.min_eq_left (by omega)]; exact bne_self_eq_false _
  have f2 : ((((expS key s 255 [] 1 []).take n).length : Int) != (n : Int)) = false := by rw [hn]; exact bne_self_eq_false _
  have f3 : (decide ((0 : Int) ≤ 0) && (decide (0 ≤ (m : Int)) && decide ((m : Int) ≤ (((expS key s 255 [] 1 []).take n).length : Int)))) = true := by
    rw [hn]; simp only [Bool.and_eq_true, decide_eq_true_eq]; omega
  rw [ite_f (by rfl), ite_f (by rfl), ite_f f1, ite_f f2, chk_eval f3, Int.toNat_natCast]
  have f4 : (((expS key s 255 [] 1 []).take n).take m).drop (0 : Int).toNat = (expS key s 255 [] 1 []).take m := by
    show (((expS key s 255 [] 1 []).take n).take m).drop 0 = _
    rw [List.drop_zero, List.take_take, Nat.min_eq_left (by omega)]
  rw [f4, eqF_self]
  rfl

/-! MacParts -/

def padK : Nat → List Int → List Int
  | 0, k => k
  | m + 1, k => if k.length < 64 then padK m (k ++ [0]) else k
def padZ (more : Int) (k : List Int) : List Int := padK more.toNat k
def cP1 (more i : Int) (k : List Int) : Bool := decide (i = 0) && (decide (0 ≤ more) && (decide (more ≤ 64) && decide (k.length ≤ 1000000)))

theorem mP1 (more : Nat) (hm : more ≤ 64) (up : Bool) (a code : List Int) : ∀ (m i : Nat) (long : List Int), i + m = more → long.length ≤ 2000000 - m →
    SP.many (bodyK Try.prog CLF L0 bP) (m + 1) ((more : Int), up, a, (), (), (i : Int), ()) (code, long, ()) = some (.exit 0, encS [7, 8, 10, 11] [.bool, bt, .ptr 1 [], .vc 2 2] eP 69 (up, a, (), (), ()) (code, padK m long, ()))
  | 0, i, long, h, hl => by
    refine rmany_inr ((rP macL macP expF expP eqF rmacF oneP rexpF expP macF oneP more up a i code long).trans ?_) 0
    unfold GP
    simp only
    rw [ite_f (decide_eq_false (by omega))]
    rfl
  | m + 1, i, long, h, hl => by
    by_cases hc : long.length < 64
    · refine (rmany_inl (d := (((more : Int), up, a, (), (), ((i + 1 : Nat) : Int), ()), (code, long ++ [0], ()))) ((rP macL macP expF expP eqF rmacF oneP rexpF expP macF oneP more up a i code long).trans ?_) (m + 1)).trans
        ((mP1 more hm up a code m (i + 1) (long ++ [0]) (by omega) (by rw [List.length_append, List.length_singleton]; omega)).trans ?_)
      · have w0 : w ((i : Int) + 1) = ((i + 1 : Nat) : Int) := (w_id (by omega) (by omega)).trans (by omega)
        have e1 : Vse.room (long.length + [(0 : Int)].length) 1 = true := by simp only [Vse.room, decide_eq_true_eq, List.length_singleton]; omega
        unfold GP
        simp only
        rw [ite_t (decide_eq_true (by omega)), ite_t (decide_eq_true (by omega)), chk_eval e1, w0]
        rfl
      · simp only [padK]
        rw [if_pos hc]
    · refine rmany_inr ((rP macL macP expF expP eqF rmacF oneP rexpF expP macF oneP more up a i code long).trans ?_) (m + 1)
      unfold GP
      simp only [padK]
      rw [ite_t (decide_eq_true (by omega)), ite_f (decide_eq_false (by omega)), if_neg hc]
      rfl

theorem lP1 : LoopOK Try.prog (LP cP1 padZ) bP :=
  rloop_ok (L := LP cP1 padZ) (L' := L0) cL_sound (loopsOK_of (by kernel_rfl)) SP (F := FP cP1 padZ) (i := 10) (by kernel_rfl) (fun _ => rfl) fun xs hs r h => by
    obtain ⟨more, up, a, u1, u2, i, u3⟩ := xs
    obtain ⟨code, long, u4⟩ := hs
    obtain ⟨h1, h2⟩ := Tr.chk_some h
    simp only [cP1, Bool.and_eq_true, decide_eq_true_eq] at h1
    obtain ⟨e1, e2, e3, e4⟩ := h1
    have e1 : i = ((0 : Nat) : Int) := e1
    have e2 : (0 : Int) ≤ more := e2
    subst e1
    obtain ⟨n, rfl⟩ := Int.eq_ofNat_of_zero_le e2
    have e3 : (n : Int) ≤ 64 := e3
    have e4 : List.length (α := Int) long ≤ 1000000 := e4
    have := mP1 n (by omega) up a code n 0 long (by omega) (by omega)
    exact ⟨_, this.trans (congrArg some (Tr.ret_some h2))⟩

theorem over_zero {k : List Int} (h : k.length < 64) : overL z64 (k ++ [0]) = overL z64 k := by
  have hl : ∀ m : List Int, (overL z64 m).length = 64 := fun m => (overL_len _ _).trans rfl
  apply List.ext_getElem?
  intro i
  by_cases hi : i < 64
  · rw [over_get hi, over_get hi]
    congr 1
    rw [List.length_append, List.length_singleton]
    by_cases h1 : i < k.length
    · rw [if_pos (by omega), if_pos h1]
      exact Sha.getD_left k [0] h1
    · rw [if_neg h1]
      by_cases h2 : i < k.length + 1
      · rw [if_pos h2, List.getD_eq_getElem?_getD, List.getElem?_append_right (by omega)]
        have : i - k.length = 0 := by omega
        rw [this]; rfl
      · rw [if_neg h2]
  · rw [List.getElem?_eq_none (by rw [hl]; omega), List.getElem?_eq_none (by rw [hl]; omega)]

theorem key_zero {k : List Int} (h : k.length < 64) : keyF (k ++ [0]) = keyF k := by
  unfold keyF
  rw [if_neg (by rw [List.length_append, List.length_singleton]; omega), if_neg (by omega), over_zero h]
theorem key_pad : ∀ (m : Nat) (k : List Int), keyF (padK m k) = keyF k
  | 0, k => rfl
  | m + 1, k => by
    simp only [padK]
    by_cases h : k.length < 64
    · rw [if_pos h, key_pad m, key_zero h]
    · rw [if_neg h]
theorem mac_pad (m : Nat) (k b : List Int) : macF (padK m k) b = macF k b := by
  unfold macF fillK
  rw [key_pad]
theorem padK_len : ∀ (m : Nat) (k : List Int), (padK m k).length ≤ k.length + m
  | 0, k => Nat.le_refl _
  | m + 1, k => by
    simp only [padK]
    by_cases h : k.length < 64
    · rw [if_pos h]
      have := padK_len m (k ++ [0])
      rw [List.length_append, List.length_singleton] at this
      omega
    · rw [if_neg h]; omega

theorem T9_true {key : List Int} {l : List (List Int)} {more : Int} (hp : preAll l = true) : (T9 macL macP cP1 padZ key l more).eval = some (.v .bool true) := by
  unfold T9
  simp only
  rw [chk_eval hp]
  by_cases h1 : (key.length : Int) > 200
  · rw [ite_t (decide_eq_true h1)]; rfl
  rw [ite_f (decide_eq_false h1)]
  by_cases h2 : (allI l).2.1 > 500
  · rw [ite_t (decide_eq_true h2)]; rfl
  rw [ite_f (decide_eq_false h2)]
  by_cases h3 : more < 0
  · rw [ite_t (decide_eq_true h3)]; rfl
  rw [ite_f (decide_eq_false h3)]
  by_cases h4 : more > 64
  · rw [ite_t (decide_eq_true h4)]; rfl
  rw [ite_f (decide_eq_false h4)]
  have hz2 : (allG l [] 0).2 ≤ 500 := by
    have : ¬ (((allG l [] 0).2 : Nat) : Int) > 500 := h2
    omega
  obtain ⟨a1, a2⟩ := allG_all l [] 0 (by omega)
  have ha : (allI l).1 = l.flatten := a1
  have hlen : l.flatten.length = tot l := by simp [tot, List.length_flatten]
  have hone : ∀ (k : List Int), k.length ≤ 1000000 → macP k [l.flatten] = true := fun k hk => by
    simp only [macP, tot, List.map_cons, List.map_nil, List.sum_cons, List.sum_nil, List.length_cons, List.length_nil, hlen, Bool.and_eq_true, decide_eq_true_eq]
    simp only [tot] at a2
    omega
  have e2 : macP key l = true := by simp only [macP, Bool.and_eq_true, decide_eq_true_eq]; omega
  have hf : ∀ k : List Int, macL k [l.flatten] = macF k l.flatten := fun k => by
    show macF k [l.flatten].flatten = _
    rw [List.flatten_cons, List.flatten_nil, List.append_nil]
  have e3 : cP1 more 0 key = true := by simp only [cP1, Bool.and_eq_true, decide_eq_true_eq, true_and]; omega
  have e4 : Vse.room (([] : List Int).length + key.length) 1 = true := by simp only [Vse.room, decide_eq_true_eq, List.length_nil]; omega
  have hpl := padK_len more.toNat key
  have e5 : (!(eqA (macL key l) (macL key [l.flatten]))) = false := by
    rw [hf]
    show (!(eqA (macF key l.flatten) (macF key l.flatten))) = false
    rw [eqA_self]; rfl
  rw [ha, chk_eval (hone key (by omega)), chk_eval e2, ite_f e5, chk_eval e4, List.nil_append, chk_eval e3, chk_eval (hone (padZ more key) (by show (padK more.toNat key).length ≤ _; omega)), hf, hf]
  have : macF (padZ more key) l.flatten = macF key l.flatten := mac_pad _ _ _
  rw [this, eqA_self]
  rfl

end Go.Proofs.Ytlkddajnebjlcaa.Mac

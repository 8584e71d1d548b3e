/- Sealed bytes (layer 5, seal): what its functions give. -/
import Derived.Test.YtlkddajnebjlcaaP3
import Derived.Test.YtlkddajnebjlcaaLB
import Derived.Test.YtlkddajnebjlcaaKA
set_option linter.unusedVariables false
set_option maxRecDepth 100000
namespace Go.Proofs.Ytlkddajnebjlcaa.Seal
open Go Vse Go.Proofs Gen
open Ctr (B16 flX flipF flipP rflipF encRF rnextF)
open Mac (macF macP macF_len expF expP expX expL rexpF rmacF eqF oneP)

abbrev Bytes (l : List Int) : Prop := ∀ x ∈ l, 0 ≤ x ∧ x < 256

theorem all_len {n : Nat} {l : List Int} (h : l.length = n) : all n l = l := Mac.all_id h
theorem cut_ok {l : List Int} {a b : Nat} (h : a ≤ b) (h2 : b ≤ l.length) : cutOK l (a : Int) (b : Int) = true := by simp only [cutOK, Bool.and_eq_true, decide_eq_true_eq]; omega
theorem cut_eq (l : List Int) (a b : Nat) : cut l (a : Int) (b : Int) = (l.take b).drop a := by unfold cut; rw [Int.toNat_natCast, Int.toNat_natCast]
theorem cut_to (l : List Int) (b : Nat) : cut l 0 (b : Int) = l.take b := (cut_eq l 0 b).trans (List.drop_zero)
theorem cut_from (l : List Int) (a : Nat) : cut l (a : Int) (l.length : Int) = l.drop a := (cut_eq l a l.length).trans (by rw [List.take_length])

/-! Seal's own function -/

abbrev macL : Mq := fun k l => macF k l.flatten
def sealK (hide seals plain first : List Int) : Rs :=
  if plain.length > 1000 then ([], 7, ()) else ((first ++ flX hide first plain) ++ macF seals (first ++ flX hide first plain), 0, ())
def shortP (k : List Int) : Bool := decide (k.length ≤ 1000000)

theorem TS_eq {hide seals plain first : List Int} (hf : first.length = 16) (hp : shortP seals = true) :
    (TS flipP flX macP macL hide seals plain first).eval = some (sealK hide seals plain first, ()) := by
  have hk : seals.length ≤ 1000000 := of_decide_eq_true hp
  unfold TS sealK
  simp only
  by_cases h : plain.length > 1000
  · rw [if_pos h, ite_t (decide_eq_true (by omega))]; rfl
  rw [if_neg h, ite_f (decide_eq_false (by omega)), chk_eval (show flipP plain = true from decide_eq_true (by omega))]
  have ha : all 16 first = first := all_len hf
  have hd : ∀ l, all 32 (macL seals [l]) = macF seals l := fun l => by
    show all 32 (macF seals [l].flatten) = _
    rw [List.flatten_cons, List.flatten_nil, List.append_nil]
    exact all_len (macF_len _ _)
  have hm : ∀ l : List Int, l.length ≤ 2000 → macP seals [l] = true := fun l hl => by
    simp only [macP, Sha.tot, List.map_cons, List.map_nil, List.sum_cons, List.sum_nil, List.length_cons, List.length_nil, Bool.and_eq_true, decide_eq_true_eq]; omega
  have hfl : (flX hide first plain).length ≤ 1000 := by
    have : (flX hide first plain).length = plain.length := by
      unfold flX Ctr.flipX
      by_cases h0 : plain.length = 0
      · rw [if_pos h0, h0]; rfl
      · rw [if_neg h0]
        unfold Ctr.oX
        rw [Ctr.outs_len, Ctr.outB_len]
        omega
    omega
  simp only [ha, hd]
  have hr : ∀ a b : Nat, a ≤ 2000 → b ≤ 2000 → Vse.room (a + b) 1 = true := fun a b _ _ => by simp only [Vse.room, decide_eq_true_eq]; omega
  by_cases h0 : (flX hide first plain).length = 0
  · have e0 : flX hide first plain = [] := List.eq_nil_of_length_eq_zero h0
    rw [ite_t (decide_eq_true h0), chk_eval (hm first (by omega)), ite_f (decide_eq_false (by rw [macF_len]; omega)), chk_eval (hr _ _ (by omega) (by rw [macF_len]; omega)), e0, List.append_nil]
    rfl
  · rw [ite_f (decide_eq_false h0), chk_eval (hr _ _ (by omega) (by omega)), chk_eval (hm _ (by rw [List.length_append]; omega)), chk_eval (hr _ _ (by rw [List.length_append]; omega) (by rw [macF_len]; omega))]
    rfl

def s48 : CSpec := .pos nS (fun xs hs => shortP xs.2.1) fun xs hs => (sealK xs.1 xs.2.1 hs.1 hs.2.1, ())
theorem cS_sound : CtxSound Try.prog (ctx (cS flipP flX macP macL)) ∧ CtxLocal (ctx (cS flipP flX macP macL)) := ctx_sound ⟨Ctr.ok24, Mac.ok29q, trivial⟩
theorem ok48 : CSound Try.prog 48 s48 ∧ CLocal s48 :=
  pos_sound (L := L0) cS_sound Try.func48 (by kernel_rfl) (noLoopsL (by kernel_rfl)) fun xs hs hx hh hp => by
    obtain ⟨hide, seals, u1, u2, u3⟩ := xs
    obtain ⟨plain, first, u4⟩ := hs
    exact (tS flipP flX macP macL hide seals plain first).trans (TS_eq hh.2.1.1 hp)

/-! Open's own function -/

def openK (hide seals b : List Int) : Rs :=
  if b.length < 48 then ([], 2, ()) else if b.length > 1048 then ([], 7, ()) else
    if eqF (macF seals (b.take (b.length - 32))) (b.drop (b.length - 32)) = true then (flX hide (b.take 16) ((b.take (b.length - 32)).drop 16), 0, ()) else ([], 6, ())

theorem TO_eq {hide seals b : List Int} (hp : shortP seals = true) : (TO flipP flX macP macL eqF hide seals b).eval = some (openK hide seals b, ()) := by
  have hk : seals.length ≤ 1000000 := of_decide_eq_true hp
  unfold TO openK
  simp only
  by_cases h : b.length < 48
  · rw [if_pos h, ite_t (decide_eq_true (by omega))]; rfl
  by_cases h2 : b.length > 1048
  · rw [if_neg h, if_pos h2, ite_f (decide_eq_false (by omega)), ite_t (decide_eq_true (by omega))]; rfl
  rw [if_neg h, if_neg h2, ite_f (decide_eq_false (by omega)), ite_f (decide_eq_false (by omega))]
  have hn : w ((b.length : Int) - 32) = ((b.length - 32 : Nat) : Int) := (w_id (by omega) (by omega)).trans (by omega)
  have c0 : cut b 0 ((b.length - 32 : Nat) : Int) = b.take (b.length - 32) := cut_to b _
  rw [hn]
  simp only [c0]
  generalize hfr : b.take (b.length - 32) = front
  have hl : front.length = b.length - 32 := by rw [← hfr, List.length_take]; omega
  have c1 : cut front 0 16 = front.take 16 := cut_to front 16
  have c2 : cut front 16 (front.length : Int) = front.drop 16 := cut_from front 16
  have c3 : cut b (front.length : Int) (b.length : Int) = b.drop (b.length - 32) := (cut_from b front.length).trans (by rw [hl])
  rw [c1, c2, c3]
  have hmac : all 32 (macL seals [front.take 16, front.drop 16]) = macF seals front := by
    show all 32 (macF seals [front.take 16, front.drop 16].flatten) = _
    rw [List.flatten_cons, List.flatten_cons, List.flatten_nil, List.append_nil, List.take_append_drop]
    exact all_len (macF_len _ _)
  have hm : macP seals [front.take 16, front.drop 16] = true := by
    simp only [macP, Sha.tot, List.map_cons, List.map_nil, List.sum_cons, List.sum_nil, List.length_cons, List.length_nil, Bool.and_eq_true, decide_eq_true_eq, List.length_take, List.length_drop]; omega
  have k1 : cutOK b 0 ((b.length - 32 : Nat) : Int) = true := cut_ok (a := 0) (by omega) (by omega)
  have k2 : cutOK front 0 16 = true := cut_ok (a := 0) (b := 16) (by omega) (by omega)
  have k3 : cutOK front 16 (front.length : Int) = true := cut_ok (a := 16) (by omega) (by omega)
  have k4 : cutOK b (front.length : Int) (b.length : Int) = true := cut_ok (by omega) (by omega)
  have k5 : decide (16 ≤ (front.take 16).length) = true := decide_eq_true (by rw [List.length_take]; omega)
  have k6 : flipP (front.drop 16) = true := decide_eq_true (by rw [List.length_drop]; omega)
  have e16 : (front.take 16).take 16 = b.take 16 := by rw [List.take_take, Nat.min_self, ← hfr, List.take_take, Nat.min_eq_left (by omega)]
  rw [chk_eval k1, chk_eval k2, chk_eval k3, chk_eval hm, chk_eval k4, hmac]
  by_cases hq : eqF (macF seals front) (b.drop (b.length - 32)) = true
  · rw [if_pos hq, ite_f (by rw [hq]; rfl), chk_eval k2, chk_eval k5, chk_eval k3, chk_eval k6, e16]
    rfl
  · rw [if_neg hq, ite_t (by rw [Bool.eq_false_iff.2 hq]; rfl)]
    rfl

def s50 : CSpec := .pos nO (fun xs hs => shortP xs.2.1) fun xs hs => (openK xs.1 xs.2.1 hs.1, ())
theorem cO_sound : CtxSound Try.prog (ctx (cO flipP flX macP macL eqF)) ∧ CtxLocal (ctx (cO flipP flX macP macL eqF)) := ctx_sound ⟨Mac.ok31, Ctr.ok24, Mac.ok29q, trivial⟩
theorem ok50 : CSound Try.prog 50 s50 ∧ CLocal s50 :=
  pos_sound (L := L0) cO_sound Try.func50 (by kernel_rfl) (noLoopsL (by kernel_rfl)) fun xs hs hx hh hp => by
    obtain ⟨hide, seals, u1, u2⟩ := xs
    obtain ⟨b, u4⟩ := hs
    exact (tO flipP flX macP macL eqF hide seals b).trans (TO_eq hp)

/-! with -/

/-- 48 bytes of a key, for a label -/
def keysF (key : List Int) (s : ByteArray) : List Int := (expF key (pur ++ s) 48).1
theorem exp48 (key : List Int) (s : ByteArray) : expF key s 48 = ((expX key s 48).take 48, 0, ()) := by unfold expF; rw [if_neg (by omega)]; rfl
theorem expX_len (key : List Int) (s : ByteArray) : (48 : Int) ≤ ((expX key s 48).length : Int) := by
  unfold expX
  exact Mac.expL_len key s 48 255 [] 1 [] (by simp only [List.length_nil]; omega)
theorem keysF_len (key : List Int) (s : ByteArray) : (keysF key s).length = 48 := by
  unfold keysF
  rw [exp48]
  have := expX_len key (pur ++ s)
  simp only [List.length_take]
  omega
theorem bytes_expL (key : List Int) (s : ByteArray) (many : Int) : ∀ (f : Nat) (last : List Int) (n : Int) (out : List Int), Bytes out → Bytes (expL key s many f last n out)
  | 0, _, _, out, h => h
  | f + 1, last, n, out, h => by
    simp only [expL]
    split
    · exact bytes_expL key s many f _ _ _ (Mac.bytes_append h (Mac.bytes_mac _ _))
    · exact h
theorem bytes_expX (key : List Int) (s : ByteArray) (many : Int) : Bytes (expX key s many) := by
  unfold expX
  generalize 255 = f
  have h0 : Bytes [] := fun x hx => absurd hx (by simp)
  exact bytes_expL key s many f [] 1 [] h0
theorem bytes_take {l : List Int} (h : Bytes l) (n : Nat) : Bytes (l.take n) := fun x hx => h x (List.mem_of_mem_take hx)
theorem bytes_drop {l : List Int} (h : Bytes l) (n : Nat) : Bytes (l.drop n) := fun x hx => h x (List.mem_of_mem_drop hx)
theorem keysF_bytes (key : List Int) (s : ByteArray) : Bytes (keysF key s) := by
  unfold keysF
  rw [exp48]
  dsimp only
  exact bytes_take (bytes_expX _ _ _) 48
theorem keysF_E (key : List Int) (s : ByteArray) : expF key (pur ++ s) 48 = (keysF key s, 0, ()) := by
  unfold keysF
  rw [exp48]

def hideF (key : List Int) (s : ByteArray) : List Int := (keysF key s).take 16
def codeF (key : List Int) (s : ByteArray) : List Int := (keysF key s).drop 16
theorem hide_b16 (key : List Int) (s : ByteArray) : B16 (hideF key s) := ⟨bytes_take (keysF_bytes key s) 16, by unfold hideF; rw [List.length_take, keysF_len]; omega⟩
theorem code_bytes (key : List Int) (s : ByteArray) : Bytes (codeF key s) := bytes_drop (keysF_bytes key s) 16
theorem code_len (key : List Int) (s : ByteArray) : (codeF key s).length = 32 := by unfold codeF; rw [List.length_drop, keysF_len]

def badL (s : ByteArray) : Prop := s == ByteArray.empty ∨ s.size > 40
instance (s : ByteArray) : Decidable (badL s) := inferInstanceAs (Decidable (_ ∨ _))
def withF (key : List Int) (s : ByteArray) (D : List Int → List Int → Rs) : Rs := if badL s then ([], 1, ()) else D (hideF key s) (codeF key s)

theorem pur_size (s : ByteArray) : (pur ++ s).size = 9 + s.size := by rw [ByteArray.size_append]; rfl

theorem TW_eq {α : Type} {key : List Int} {s : ByteArray} (hk : key.length = 16) (hs : s.size ≤ 9223372036854775807) (out : Rs → α) {p : List Int → List Int → Bool} {D : List Int → List Int → Rs} (hp : p (hideF key s) (codeF key s) = true) :
    (TW expF expP key s out p D).eval = some (out (withF key s D)) := by
  unfold TW withF
  simp only
  by_cases h1 : (s == ByteArray.empty) = true
  · rw [ite_t h1, if_pos (.inl h1)]; rfl
  by_cases h2 : s.size > 40
  · rw [ite_f (Bool.eq_false_iff.2 h1), ite_t (decide_eq_true (by omega)), if_pos (.inr h2)]; rfl
  have hb : ¬ badL s := fun h => by
    rcases h with h | h
    · exact h1 h
    · exact h2 h
  have ha : all 16 key = key := all_len hk
  have hl := keysF_len key s
  have k0 : expP key (pur ++ s) = true := by simp only [expP, Bool.and_eq_true, decide_eq_true_eq, pur_size]; omega
  rw [ite_f (Bool.eq_false_iff.2 h1), ite_f (decide_eq_false (by omega)), chk_eval (decide_eq_true (by omega)), ha, chk_eval k0, keysF_E, if_neg hb]
  unfold hideF codeF at hp ⊢
  generalize keysF key s = K at hl hp
  have c1 : cut K 0 16 = K.take 16 := cut_to K 16
  have c2 : cut K 16 (K.length : Int) = K.drop 16 := cut_from K 16
  have c3 : (K.take 16).take 16 = K.take 16 := by rw [List.take_take, Nat.min_self]
  have k1 : cutOK K 0 16 = true := cut_ok (a := 0) (b := 16) (by omega) (by omega)
  have k2 : cutOK K 16 (K.length : Int) = true := cut_ok (a := 16) (by omega) (Nat.le_refl _)
  have k3 : decide (16 ≤ (K.take 16).length) = true := decide_eq_true (by rw [List.length_take]; omega)
  simp only [c1, c2, c3]
  rw [ite_f (by rfl), chk_eval k1, chk_eval k3, chk_eval k2, chk_eval hp]
  rfl

theorem code_short (key : List Int) (s : ByteArray) : shortP (codeF key s) = true := decide_eq_true (by rw [code_len]; omega)

def sealF (key : List Int) (s : ByteArray) (first plain : List Int) : Rs := withF key s fun h k => sealK h k plain first
def openF (key : List Int) (s : ByteArray) (b : List Int) : Rs := withF key s fun h k => openK h k b
def s47s : CSpec := .pos nWS (fun xs hs => decide (xs.2.1.size ≤ 9223372036854775807)) fun xs hs => (sealF xs.1 xs.2.1 hs.2.1 hs.1, ())
def s47o : CSpec := .pos nWO (fun xs hs => decide (xs.2.1.size ≤ 9223372036854775807)) fun xs hs => (openF xs.1 xs.2.1 hs.1, ())
theorem cWS_sound : CtxSound Try.prog (ctx (cWS expF expP (fun h k p f => sealK h k p f) fun _ k _ _ => shortP k)) ∧ CtxLocal (ctx (cWS expF expP (fun h k p f => sealK h k p f) fun _ k _ _ => shortP k)) := ctx_sound ⟨Mac.ok30, ok48, trivial⟩
theorem cWO_sound : CtxSound Try.prog (ctx (cWO expF expP (fun h k b => openK h k b) fun _ k _ => shortP k)) ∧ CtxLocal (ctx (cWO expF expP (fun h k b => openK h k b) fun _ k _ => shortP k)) := ctx_sound ⟨Mac.ok30, ok50, trivial⟩
theorem ok47s : CSound Try.prog 47 s47s ∧ CLocal s47s :=
  pos_sound (L := L0) cWS_sound Try.func47 (by kernel_rfl) (noLoopsL (by kernel_rfl)) fun xs hs hx hh hp => by
    obtain ⟨key, s, u, u1⟩ := xs
    obtain ⟨plain, first, u2⟩ := hs
    exact (tWS expF expP (fun h k p f => sealK h k p f) (fun _ k _ _ => shortP k) key s plain first).trans (TW_eq hx.1.1 (of_decide_eq_true hp) _ (code_short key s))
theorem ok47o : CSound Try.prog 47 s47o ∧ CLocal s47o :=
  pos_sound (L := L0) cWO_sound Try.func47 (by kernel_rfl) (noLoopsL (by kernel_rfl)) fun xs hs hx hh hp => by
    obtain ⟨key, s, u, u1⟩ := xs
    obtain ⟨b, u2⟩ := hs
    exact (tWO expF expP (fun h k b => openK h k b) (fun _ k _ => shortP k) key s b).trans (TW_eq hx.1.1 (of_decide_eq_true hp) _ (code_short key s))

def strP (s : ByteArray) : Bool := decide (s.size ≤ 9223372036854775807)
def s36 : CSpec := .pos nSe (fun xs _ => strP xs.2.1) fun xs _ => (sealF xs.1 xs.2.1 xs.2.2.1 xs.2.2.2.1, ())
theorem ok36 : CSound Try.prog 36 s36 ∧ CLocal s36 :=
  pos_sound (C := ctx (cSe (fun k s p f => sealF k s f p) fun _ s _ _ => strP s)) (L := L0) (ctx_sound ⟨ok47s, trivial⟩) Try.func36 (by kernel_rfl) (noLoopsL (by kernel_rfl)) fun xs hs hx hh hp => by
    obtain ⟨key, s, first, plain, u⟩ := xs
    exact (tSe (fun k s p f => sealF k s f p) (fun _ s _ _ => strP s) key s first plain).trans (chk_eval hp _)
def s38 : CSpec := .pos nOp (fun xs _ => strP xs.2.1) fun xs _ => (openF xs.1 xs.2.1 xs.2.2.1, ())
theorem ok38 : CSound Try.prog 38 s38 ∧ CLocal s38 :=
  pos_sound (C := ctx (cOp (fun k s b => openF k s b) fun _ s _ => strP s)) (L := L0) (ctx_sound ⟨ok47o, trivial⟩) Try.func38 (by kernel_rfl) (noLoopsL (by kernel_rfl)) fun xs hs hx hh hp => by
    obtain ⟨key, s, b, u⟩ := xs
    exact (tOp (fun k s b => openF k s b) (fun _ s _ => strP s) key s b).trans (chk_eval hp _)

end Go.Proofs.Ytlkddajnebjlcaa.Seal

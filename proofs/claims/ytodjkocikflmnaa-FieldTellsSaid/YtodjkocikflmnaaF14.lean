/- The rows of layer 9 (field): the statements hold. -/
import Derived.Test.YtodjkocikflmnaaF11
import Derived.Test.YtodjkocikflmnaaF13
import Derived.Test.YtodjkocikflmnaaRows
import Derived.ProofKit
import Derived.SizedLaws
set_option linter.unusedVariables false
set_option maxRecDepth 100000
namespace Go.Proofs.Ytodjkocikflmnaa.Fld
open Go Vse Go.Proofs

section
variable (up : Bool) (p24 : HL [ls] → Bool) (e24 e25 e26 : Fp) (pb : HL [bs] → Bool) (e27 e28 : Fs) (e29 e30 : Fi) (e31 e32 : Fw) (e19 : HL [bs, bs] → Bool) (e33 : HL [ls, ls] → Bool) (e34 e35 : Fn) (e36 e37 : Fb)

def fin7 (n : Int) : Bool := bif up then (bif ((e29 (e34 (n, ()), ())).2.1 == 0) then ((e29 (e34 (n, ()), ())).1 == n) else false) else false
def cont7 (b : List Int) (n : Int) : Bool :=
  bif ((e27 (b, ())).2.1 == 0) then (bif ((e25 ((e27 (b, ())).1, ())).2.1 != 0) then false else (bif !e19 (b, (e25 ((e27 (b, ())).1, ())).1, ()) then false else fin7 up e29 e34 n)) else fin7 up e29 e34 n
theorem r7 (l : List (List Int)) (b : List Int) (n : Int) : (fnK Try.prog (ctx (cL up p24 e24 e25 e26 pb e27 e28 e29 e30 e31 e32 e19 e33 e34 e35 e36 e37)) L0 Try.f7 (mkArgs [lt, bt, i64] (l, b, n, ())) []).fold1 .bool =
    bif decide ((e24 (l, ())).2.1 > (2000 : Int)) then up else (bif decide ((b.length : Int) > 2000) then up else
      (bif ((e25 (l, ())).2.1 == 0) then (bif ((e27 ((e25 (l, ())).1, ())).2.1 != 0) then false else (bif !e33 (l, (e27 ((e25 (l, ())).1, ())).1, ()) then false else cont7 up e25 e27 e29 e19 e34 b n)) else cont7 up e25 e27 e29 e19 e34 b n)) := by kernel_rfl
theorem f7 (l : List (List Int)) (b : List Int) (n : Int) : (fnK Try.prog (ctx (cL up p24 e24 e25 e26 pb e27 e28 e29 e30 e31 e32 e19 e33 e34 e35 e36 e37)) L0 Try.f7 (mkArgs [lt, bt, i64] (l, b, n, ())) []).fine [.bool] =
    ((((((((((pb (b, ()) || !e33 (l, (e27 ((e25 (l, ())).1, ())).1, ())) || ((e27 ((e25 (l, ())).1, ())).2.1 != 0)) || !pb ((e25 (l, ())).1, ())) && pb ((e25 (l, ())).1, ())) || !((e25 (l, ())).2.1 == 0)) && (pb (b, ()) || ((e25 (l, ())).2.1 == 0)))
      || decide ((b.length : Int) > 2000)) || decide ((e24 (l, ())).2.1 > (2000 : Int))) || !p24 (l, ())) && p24 (l, ())) := by kernel_rfl
end

def takeE1 (a : List Int) : HL [i64, i64] := bif decide (a.length = 8) then (take1 a, 0, ()) else (0, 3, ())
def takeE2 (a : List Int) : HL [i64, i64] := bif decide (a.length = 8) then (w (take2 a), 0, ()) else (0, 3, ())
def CL : List (Nat × CSpec) := cL true (fun x => preAll x.1) (fun x => allI x.1) (fun x => putI hd1 x.1) (fun x => putI hd2 x.1) (fun x => preB x.1) (fun x => splitI x.1) (fun x => splitI x.1) (fun x => takeE1 x.1) (fun x => takeE2 x.1)
  (fun x => wordI x.1) (fun x => wordI x.1) (fun x => sameI x.1 x.2.1) (fun x => sameL x.1 x.2.1) (fun x => num1 x.1) (fun x => num2 (wu x.1)) (fun x => nameI x.1) (fun x => nameI x.1)
theorem CL_sound : CtxSound Try.prog (ctx CL) ∧ CtxLocal (ctx CL) := ctx_sound ⟨ok23, ok24, ok25, ok26, ok27, ok28, ok29, ok30, ok31, ok32, ok19, ok33, ok34, ok35, ok36, ok37, trivial⟩

theorem eqL_refl : ∀ l : List Int, eqList (eqT u8) l l = true
  | [] => rfl
  | x :: l => by
    show (eqT u8 x x && eqList (eqT u8) l l) = true
    rw [eqL_refl l]
    show (decide (x = x) && true) = true
    simp

theorem bytes_wf {b : List Int} (h : bt.wf b) : Bytes b := fun x hx => by
  have h : (Lit.int .u8 x).wf = true := h.2 x hx
  simp [Lit.wf, IntKind.min, IntKind.max, IntKind.signed, IntKind.bits] at h
  omega
theorem int_wf {n : Int} (h : i64.wf n) : -9223372036854775808 ≤ n ∧ n ≤ 9223372036854775807 := by
  have h : (Lit.int .i64 n).wf = true := h
  simp [Lit.wf, IntKind.min, IntKind.max, IntKind.signed, IntKind.bits] at h
  omega
theorem pre_sz {l : List (List Int)} (h : lt.sz l) : preAll l = true := List.all_eq_true.2 fun p hp => by
  have := (h.2 p hp).1
  simpa [short, reachBytes] using this

theorem take_same' {b : List Int} (hb : Bytes b) : takeE1 b = takeE2 b := by
  unfold takeE1 takeE2
  rw [take_same hb]

theorem tells_true {l : List (List Int)} {b : List Int} {n : Int} (hb : Bytes b) : (fnK Try.prog (ctx CL) L0 Try.f6 (mkArgs [lt, bt, i64] (l, b, n, ())) []).fold1 .bool = true := by
  unfold CL
  rw [r6]
  simp only [putI_same, take_same' hb, num_same, sameI, sameL, decide_true, beq_self_eq_true, cond_true]
  have he : eqT t16 (wordI b).1 (wordI b).1 = true := eqL_refl _
  rw [he]
  simp only [cond_true]
  cases decide ((allI l).2.1 > (2000 : Int)) <;> cases decide ((b.length : Int) > 2000) <;> rfl

theorem tells_fine {l : List (List Int)} {b : List Int} {n : Int} (hl : preAll l = true) : (fnK Try.prog (ctx CL) L0 Try.f6 (mkArgs [lt, bt, i64] (l, b, n, ())) []).fine [.bool] = true := by
  unfold CL
  rw [f6]
  simp only [hl, Bool.not_true, Bool.or_false, Bool.and_true]
  by_cases h : (b.length : Int) > 2000
  · rw [decide_eq_true h]; simp
  · have : preB b = true := by simp only [preB, decide_eq_true_eq]; omega
    rw [this]; simp

theorem encL_length : ∀ l : List (List Int), (∀ p ∈ l, p.length ≤ 500) → (encL l).length ≤ 502 * l.length
  | [], _ => by simp [encL]
  | p :: r, h => by
    have := encL_length r fun q hq => h q (by simp [hq])
    have hp := h p (by simp)
    have hh : (hd1 p).length = 2 := rfl
    simp only [encL, List.length_append, List.length_cons, hh]
    omega

theorem put_pre {l : List (List Int)} (h : ((putI hd1 l).2.1 == (0 : Int)) = true) : preB (putI hd1 l).1 = true := by
  have h : (putI hd1 l).2.1 = (0 : Int) := by simpa using h
  unfold putI at h ⊢
  by_cases h1 : (l.length : Int) > 20
  · rw [decide_eq_true h1] at h; simp at h
  · rw [decide_eq_false h1] at h ⊢
    cases hp : (putG hd1 l []).1 with
    | false => rw [hp] at h; simp at h
    | true =>
      simp only [cond_false, cond_true]
      obtain ⟨q1, q2⟩ := putG_ok l [] (putG hd1 l []).2 (by rw [← hp])
      have := encL_length l q1
      rw [q2]
      simp only [preB, List.nil_append, decide_eq_true_eq]
      omega

theorem back_true {l : List (List Int)} {b : List Int} {n : Int} (hb : Bytes b) (hn : -9223372036854775808 ≤ n ∧ n ≤ 9223372036854775807) : (fnK Try.prog (ctx CL) L0 Try.f7 (mkArgs [lt, bt, i64] (l, b, n, ())) []).fold1 .bool = true := by
  unfold CL
  rw [r7]
  have hfin : fin7 true (fun x => takeE1 x.1) (fun x => num1 x.1) n = true := by
    unfold fin7
    have e : takeE1 (num1 n) = (n, 0, ()) := by
      unfold takeE1
      rw [decide_eq_true (show (num1 n).length = 8 from rfl), take_num n hn]; rfl
    simp only [e]
    simp
  have hcont : cont7 true (fun x => putI hd1 x.1) (fun x => splitI x.1) (fun x => takeE1 x.1) (fun x => sameI x.1 x.2.1) (fun x => num1 x.1) b n = true := by
    unfold cont7
    rw [hfin]
    cases h : ((splitI b).2.1 == (0 : Int)) with
    | false => simp only [h, cond_false]
    | true =>
      have h0 : (splitI b).2.1 = (0 : Int) := by simpa using h
      have hs : splitI b = ((splitI b).1, 0, ()) := by rw [← h0]
      have hp := split_put hb hs
      simp only [h, cond_true, hp, sameI]
      simp
  rw [hcont]
  cases h : ((putI hd1 l).2.1 == (0 : Int)) with
  | false => simp only [h, cond_false]; cases decide ((allI l).2.1 > (2000 : Int)) <;> cases decide ((b.length : Int) > 2000) <;> rfl
  | true =>
    have h0 : (putI hd1 l).2.1 = (0 : Int) := by simpa using h
    have hs : putI hd1 l = ((putI hd1 l).1, 0, ()) := by rw [← h0]
    have hp := put_split hs
    simp only [h, cond_true, hp, sameL]
    cases decide ((allI l).2.1 > (2000 : Int)) <;> cases decide ((b.length : Int) > 2000) <;> simp

theorem back_fine {l : List (List Int)} {b : List Int} {n : Int} (hl : preAll l = true) : (fnK Try.prog (ctx CL) L0 Try.f7 (mkArgs [lt, bt, i64] (l, b, n, ())) []).fine [.bool] = true := by
  unfold CL
  rw [f7]
  simp only [hl, Bool.not_true, Bool.or_false, Bool.and_true]
  by_cases h : (b.length : Int) > 2000
  · rw [decide_eq_true h]; simp
  · have : preB b = true := by simp only [preB, decide_eq_true_eq]; omega
    rw [this]
    cases h2 : ((putI hd1 l).2.1 == (0 : Int)) with
    | false => simp
    | true => rw [put_pre h2]; simp

end Go.Proofs.Ytodjkocikflmnaa.Fld

/- What the functions of layer 3 (aes) give: the table of boxes. -/
import Derived.Test.YtlkddajnebjlcaaA3
set_option linter.unusedVariables false
set_option maxRecDepth 1000000
namespace Go.Proofs.Ytlkddajnebjlcaa.Aes
open Go Vse Go.Proofs

def powL : List Int := [1, 3, 5, 15, 17, 51, 85, 255, 26, 46, 114, 150, 161, 248, 19, 53, 95, 225, 56, 72, 216, 115, 149, 164, 247, 2, 6, 10, 30, 34, 102, 170, 229, 52, 92, 228, 55, 89, 235, 38, 106, 190, 217, 112, 144, 171, 230, 49, 83, 245, 4, 12, 20, 60, 68, 204, 79, 209, 104, 184, 211, 110, 178, 205, 76, 212, 103, 169, 224, 59, 77, 215, 98, 166, 241, 8, 24, 40, 120, 136, 131, 158, 185, 208, 107, 189, 220, 127, 129, 152, 179, 206, 73, 219, 118, 154, 181, 196, 87, 249, 16, 48, 80, 240, 11, 29, 39, 105, 187, 214, 97, 163, 254, 25, 43, 125, 135, 146, 173, 236, 47, 113, 147, 174, 233, 32, 96, 160, 251, 22, 58, 78, 210, 109, 183, 194, 93, 231, 50, 86, 250, 21, 63, 65, 195, 94, 226, 61, 71, 201, 64, 192, 91, 237, 44, 116, 156, 191, 218, 117, 159, 186, 213, 100, 172, 239, 42, 126, 130, 157, 188, 223, 122, 142, 137, 128, 155, 182, 193, 88, 232, 35, 101, 175, 234, 37, 111, 177, 200, 67, 197, 84, 252, 31, 33, 99, 165, 244, 7, 9, 27, 45, 119, 153, 176, 203, 70, 202, 69, 207, 74, 222, 121, 139, 134, 145, 168, 227, 62, 66, 198, 81, 243, 14, 18, 54, 90, 238, 41, 123, 141, 140, 143, 138, 133, 148, 167, 242, 13, 23, 57, 75, 221, 124, 132, 151, 162, 253, 28, 36, 108, 180, 199, 82, 246]
def boxL : List Int := [99, 124, 119, 123, 242, 107, 111, 197, 48, 1, 103, 43, 254, 215, 171, 118, 202, 130, 201, 125, 250, 89, 71, 240, 173, 212, 162, 175, 156, 164, 114, 192, 183, 253, 147, 38, 54, 63, 247, 204, 52, 165, 229, 241, 113, 216, 49, 21, 4, 199, 35, 195, 24, 150, 5, 154, 7, 18, 128, 226, 235, 39, 178, 117, 9, 131, 44, 26, 27, 110, 90, 160, 82, 59, 214, 179, 41, 227, 47, 132, 83, 209, 0, 237, 32, 252, 177, 91, 106, 203, 190, 57, 74, 76, 88, 207, 208, 239, 170, 251, 67, 77, 51, 133, 69, 249, 2, 127, 80, 60, 159, 168, 81, 163, 64, 143, 146, 157, 56, 245, 188, 182, 218, 33, 16, 255, 243, 210, 205, 12, 19, 236, 95, 151, 68, 23, 196, 167, 126, 61, 100, 93, 25, 115, 96, 129, 79, 220, 34, 42, 144, 136, 70, 238, 184, 20, 222, 94, 11, 219, 224, 50, 58, 10, 73, 6, 36, 92, 194, 211, 172, 98, 145, 149, 228, 121, 231, 200, 55, 109, 141, 213, 78, 169, 108, 86, 244, 234, 101, 122, 174, 8, 186, 120, 37, 46, 28, 166, 180, 198, 232, 221, 116, 31, 75, 189, 139, 138, 112, 62, 181, 102, 72, 3, 246, 14, 97, 53, 87, 185, 134, 193, 29, 158, 225, 248, 152, 17, 105, 217, 142, 148, 155, 30, 135, 233, 206, 85, 40, 223, 140, 161, 137, 13, 191, 230, 66, 104, 65, 153, 45, 15, 176, 84, 187, 22]

abbrev t256 : Ty := .arr 256 (.int .u8)
abbrev t255 : Ty := .arr 255 (.int .u8)
abbrev t16 : Ty := .arr 16 (.int .u8)

def s39 : CSpec := .fn1 [] t256 fun _ => boxL
theorem ok39 : CSound Try.prog 58 s39 ∧ CLocal s39 := fn_ok1 nil_sound Try.func58 (by kernel_rfl) (fun xs _ => by kernel_rfl) (fun xs _ => by kernel_rfl)

def twiceI (b : Int) : Int := xorI .u8 (shlI .u8 b 1) (andI .u8 27 (wb (0 - shrI .u8 b 7)))
def s61 : CSpec := .fn1 [u8] u8 fun x => twiceI x.1
theorem ok61 : CSound Try.prog 64 s61 ∧ CLocal s61 := fn_ok1 nil_sound Try.func64 (by kernel_rfl) (fun xs _ => by kernel_rfl) (fun xs _ => by kernel_rfl)

/-! aes.boxes: the powers of three -/

def C1 : List (Nat × CSpec) := [(65, s40), (61, s41), (58, s39), (64, s61)]
theorem C1_sound : CtxSound Try.prog (ctx C1) ∧ CtxLocal (ctx C1) := ctx_sound ⟨ok40, ok41, ok39, ok61, trivial⟩

abbrev pt (e : Nat) : Ty := .ptr e []
def S59a : LSpec := ⟨[0, 1, 2, 9], [0, 1], 47, [pt 0, pt 1, u8, i64], [.box t256, .box t255]⟩
noncomputable def b59a : Code := loopAt Try.f62 0
theorem r59a (p i : Int) (o l : List Int) : (S59a.round (bodyK Try.prog (ctx C1) L0 b59a) ((), (), p, i, ()) (o, l, ())).eval =
    bif decide (i < 255) then (bif inArr i 255 then some (.inl (((), (), timesI p 3, w (i + 1), ()), (o, l.set i.toNat p, ()))) else none)
    else some (.inr (.exit 0, encS [0, 1] [pt 0, pt 1] [.box t256, .box t255] 47 ((), (), ()) (o, l, ()))) := by kernel_rfl

def powE (k : Nat) : Int := (powL ++ [1]).getD k 0
/-- the powers so far -/
def lA (k : Nat) : List Int := (List.range 255).map fun j => if j < k then powE j else 0

theorem powE_next : ∀ k, k < 255 → timesI (powE k) 3 = powE (k + 1) := by decide +kernel

theorem lA_set {k : Nat} (h : k < 255) : (lA k).set k (powE k) = lA (k + 1) := by
  unfold lA
  apply List.ext_getElem
  · simp
  · intro j h1 h2
    simp only [List.getElem_set, List.getElem_map, List.getElem_range]
    by_cases hj : k = j
    · subst hj; simp
    · simp only [if_neg hj]
      by_cases hlt : j < k
      · simp [hlt, Nat.lt_succ_of_lt hlt]
      · simp [hlt, show ¬ j < k + 1 by omega]

theorem lA_end : lA 255 = powL := by decide +kernel
theorem lA_begin : lA 0 = List.replicate 255 0 := by decide +kernel

theorem k59a (o : List Int) : ∀ (m k : Nat), k + m = 255 → S59a.many (bodyK Try.prog (ctx C1) L0 b59a) (m + 1) ((), (), powE k, (k : Int), ()) (o, lA k, ()) =
    some (.exit 0, encS [0, 1] [pt 0, pt 1] [.box t256, .box t255] 47 ((), (), ()) (o, powL, ()))
  | 0, k, h => by
    refine many_inr ?_ 0
    rw [r59a, decide_eq_false (by omega), show k = 255 by omega, lA_end]
    rfl
  | m + 1, k, h => by
    refine (many_inl (d := (((), (), powE (k + 1), ((k + 1 : Nat) : Int), ()), (o, lA (k + 1), ()))) ?_ (m + 1)).trans (k59a o m (k + 1) (by omega))
    rw [r59a, decide_eq_true (by omega), show inArr (k : Int) 255 = true by simp [inArr]; omega]
    simp only [cond_true]
    rw [powE_next k (by omega), w_id (by omega) (by omega), show ((k : Int)).toNat = k by omega, lA_set (by omega)]
    rfl

def F59a (xs : HL S59a.Ts) (hs : HD S59a.Es) : Tr (Ex × St) :=
  .chk (decide (xs.2.2.1 = (1 : Int)) && (decide (xs.2.2.2.1 = (0 : Int)) && decide (hs.2.1 = List.replicate 255 (0 : Int))))
    (.ret (.exit 0, encS [0, 1] [pt 0, pt 1] [.box t256, .box t255] 47 ((), (), ()) (hs.1, powL, ())))

end Go.Proofs.Ytlkddajnebjlcaa.Aes

/- The statements of layer 15 (book) hold: BookDoes. No conditions but the given ones. Part 5. -/
import Derived.Test.YtffdkniccaebmaaZD4
import Derived.Sort.Row
import Derived.Shelf.Bytes.SlClone
import Derived.Scope
import Derived.Shelf.Spec.SlicesGrow
import Derived.Shelf.SlicesE.Clone
set_option linter.unusedVariables false
set_option linter.unusedSimpArgs false
section
section
set_option linter.unusedVariables false
set_option maxRecDepth 100000
namespace Go.Proofs.Ytffdkniccaebmaa.Sha
open Go Vse Go.Proofs Gen
abbrev u32 : Ty := .int .u32
abbrev u64 : Ty := .int .u64
abbrev w3 (x : Int) : Int := IntKind.u32.wrap x
abbrev a8 : Ty := .arr 8 u32
abbrev a64 : Ty := .arr 64 u32
abbrev d32 : Ty := .arr 32 u8
def rotF (x k : Int) : Int := orI .u32 (shlI .u32 x (andI .u64 (IntKind.u64.wrap k) 31)) (shrI .u32 x (IntKind.u64.wrap (32 - andI .u64 (IntKind.u64.wrap k) 31)))
def s55 : CSpec := .fn1 [u32, i64] u32 fun x => rotF x.1 x.2.1
theorem ok55 : CSound Try.prog 135 s55 ∧ CLocal s55 := fn_ok1 nil_sound Try.func135 (by kernel_rfl) (fun xs _ => by kernel_rfl) (fun xs _ => by kernel_rfl)
def c53 (r : Int → Int → Int) : List (Nat × CSpec) := [(135, .fn1 [u32, i64] u32 fun x => r x.1 x.2.1)]
def turnE (r : Int → Int → Int) (n a b v : Int) : Int := xorI .u32 (xorI .u32 (r n (w (0 - a))) (r n (w (0 - b)))) v
theorem c53_sound : CtxSound Try.prog (ctx (c53 rotF)) ∧ CtxLocal (ctx (c53 rotF)) := ctx_sound ⟨ok55, trivial⟩
def turnF : Int → Int → Int → Int → Int := turnE rotF
def s53 : CSpec := .fn1 [u32, i64, i64, u32] u32 fun x => turnF x.1 x.2.1 x.2.2.1 x.2.2.2.1
theorem k53f (r : Int → Int → Int) (n a b v : Int) : (fnK Try.prog (ctx (c53 r)) L0 Try.f133 (mkArgs [u32, i64, i64, u32] (n, a, b, v, ())) []).fine [u32] = true := by kernel_rfl
theorem k53 (r : Int → Int → Int) (n a b v : Int) : (fnK Try.prog (ctx (c53 r)) L0 Try.f133 (mkArgs [u32, i64, i64, u32] (n, a, b, v, ())) []).fold1 u32 = turnE r n a b v := by kernel_rfl
theorem ok53 : CSound Try.prog 133 s53 ∧ CLocal s53 := fn_ok1 c53_sound Try.func133 (by kernel_rfl) (fun xs _ => k53f rotF xs.1 xs.2.1 xs.2.2.1 xs.2.2.2.1) (fun xs _ => k53 rotF xs.1 xs.2.1 xs.2.2.1 xs.2.2.2.1)
def consts : List Int := [
 0x428a2f98, 0x71374491, 0xb5c0fbcf, 0xe9b5dba5, 0x3956c25b, 0x59f111f1, 0x923f82a4, 0xab1c5ed5,
 0xd807aa98, 0x12835b01, 0x243185be, 0x550c7dc3, 0x72be5d74, 0x80deb1fe, 0x9bdc06a7, 0xc19bf174,
 0xe49b69c1, 0xefbe4786, 0x0fc19dc6, 0x240ca1cc, 0x2de92c6f, 0x4a7484aa, 0x5cb0a9dc, 0x76f988da,
 0x983e5152, 0xa831c66d, 0xb00327c8, 0xbf597fc7, 0xc6e00bf3, 0xd5a79147, 0x06ca6351, 0x14292967,
 0x27b70a85, 0x2e1b2138, 0x4d2c6dfc, 0x53380d13, 0x650a7354, 0x766a0abb, 0x81c2c92e, 0x92722c85,
 0xa2bfe8a1, 0xa81a664b, 0xc24b8b70, 0xc76c51a3, 0xd192e819, 0xd6990624, 0xf40e3585, 0x106aa070,
 0x19a4c116, 0x1e376c08, 0x2748774c, 0x34b0bcb5, 0x391c0cb3, 0x4ed8aa4a, 0x5b9cca4f, 0x682e6ff3,
 0x748f82ee, 0x78a5636f, 0x84c87814, 0x8cc70208, 0x90befffa, 0xa4506ceb, 0xbef9a3f7, 0xc67178f2]
def s54 : CSpec := .fn1 [] a64 fun _ => consts
theorem ok54 : CSound Try.prog 134 s54 ∧ CLocal s54 := fn_ok1 nil_sound Try.func134 (by kernel_rfl) (fun xs _ => by kernel_rfl) (fun xs _ => by kernel_rfl)
abbrev Tu := Int → Int → Int → Int → Int
def cM (r : Int → Int → Int) (t : Tu) (ks : List Int) : List (Nat × CSpec) :=
 [(135, .fn1 [u32, i64] u32 fun x => r x.1 x.2.1), (133, .fn1 [u32, i64, i64, u32] u32 fun x => t x.1 x.2.1 x.2.2.1 x.2.2.2.1), (134, .fn1 [] a64 fun _ => ks)]
theorem cM_sound : CtxSound Try.prog (ctx (cM rotF turnF consts)) ∧ CtxLocal (ctx (cM rotF turnF consts)) := ctx_sound ⟨ok55, ok53, ok54, trivial⟩
noncomputable def bM1 : Code := loopAt Try.f130 0
noncomputable def bM2 : Code := ((loopsOf bM1)[0]?).getD .skip
noncomputable def bM3 : Code := loopAt Try.f130 1
noncomputable def bM4 : Code := loopAt Try.f130 2
abbrev eM : List ETy := [.box a8, .box a8, .box a64]
def SM2 : RSpec := ⟨[1, 2, 4, 5, 6, 20, 31, 32, 33], 157, [bs, .ptr 0 [], .ptr 1 [], .ptr 2 [], i64, i64, bs, i64, i64], eM, eM, [], fun _ => ([1, 2, 4, 5, 20], [bs, .ptr 0 [], .ptr 1 [], .ptr 2 [], i64], eM)⟩
def put1 (v : List Int) (k c : Int) : List Int := v.set k.toNat (orI .u32 (shlI .u32 (v.getD k.toNat 0) 8) (w3 c))
def GM2 (b : List Int) (k i : Int) (q : List Int) (n j : Int) (s r v : List Int) : Tr SM2.End :=
 .ite (decide (j < n)) (.chk (inArr j q.length) (.chk (inArrK .i64 k 64) (.chk (inArrK .i64 k 64) (.ret (.inl ((b, (), (), (), k, i, q, n, w (j + 1), ()), (s, r, put1 v k (q.getD j.toNat 0), ())))))))
  (.ret (.inr (.exit 2, encS [1, 2, 4, 5, 20] [bs, .ptr 0 [], .ptr 1 [], .ptr 2 [], i64] eM 157 (b, (), (), (), i, ()) (s, r, v, ()))))
theorem rM2 (r0 : Int → Int → Int) (t : Tu) (ks : List Int) (b : List Int) (k i : Int) (q : List Int) (n j : Int) (s r v : List Int) :
  (SM2.round (bodyK Try.prog (ctx (cM r0 t ks)) L0 bM2) (b, (), (), (), k, i, q, n, j, ()) (s, r, v, ())).eval = (GM2 b k i q n j s r v).eval := by kernel_rfl
end Go.Proofs.Ytffdkniccaebmaa.Sha
end
section
set_option linter.unusedVariables false
set_option maxRecDepth 100000
namespace Go.Proofs.Ytffdkniccaebmaa.Sha
open Go Vse Go.Proofs Gen
def cM2 (k : Int) (q : List Int) (n j : Int) : Bool := decide (j = 0) && (decide (n = 4) && (decide (q.length = 4) && inArrK .i64 k 64))
def put4 (v : List Int) (k : Int) (q : List Int) : List Int := q.foldl (fun v c => put1 v k c) v
def FM2 (c : Int → List Int → Int → Int → Bool) (p : List Int → Int → List Int → List Int) (xs : HL SM2.Ts) (hs : HD SM2.Es) : Tr (Ex × St) :=
 .chk (c xs.2.2.2.2.1 xs.2.2.2.2.2.2.1 xs.2.2.2.2.2.2.2.1 xs.2.2.2.2.2.2.2.2.1)
  (.ret (.exit 2, encS [1, 2, 4, 5, 20] [bs, .ptr 0 [], .ptr 1 [], .ptr 2 [], i64] eM 157 (xs.1, (), (), (), xs.2.2.2.2.2.1, ()) (hs.1, hs.2.1, p hs.2.2.1 xs.2.2.2.2.1 xs.2.2.2.2.2.2.1, ())))
def SM1 : RSpec := ⟨[1, 2, 4, 5, 20], 157, [bs, .ptr 0 [], .ptr 1 [], .ptr 2 [], i64], eM, eM, [], fun _ => ([2, 4, 5], [.ptr 0 [], .ptr 1 [], .ptr 2 []], eM)⟩
def LM2 (c : Int → List Int → Int → Int → Bool) (p : List Int → Int → List Int → List Int) : Loops := fun j st => if j = 7 then SM2.fn (FM2 c p) st else .fail
def step2 (t : Tu) (v : List Int) (i : Int) : List Int :=
 v.set i.toNat (w3 (w3 (w3 (v.getD (w (i - 16)).toNat 0 + v.getD (w (i - 7)).toNat 0) + t (v.getD (w (i - 15)).toNat 0) 7 18 (shrI .u32 (v.getD (w (i - 15)).toNat 0) 3)) + t (v.getD (w (i - 2)).toNat 0) 17 19 (shrI .u32 (v.getD (w (i - 2)).toNat 0) 10)))
def GM1 (c : Int → List Int → Int → Int → Bool) (p : List Int → Int → List Int → List Int) (t : Tu) (b : List Int) (i : Int) (s r v : List Int) : Tr SM1.End :=
 let lo := w (4 * i)
 let hi := w (w (4 * i) + 4)
 let q := (b.take hi.toNat).drop lo.toNat
 .ite (decide (i < 64)) (.ite (decide (i < 16))
   (.chk (decide (0 ≤ lo) && (decide (lo ≤ hi) && decide (hi ≤ (b.length : Int)))) (.chk (c i q (q.length : Int) 0) (.ret (.inl ((b, (), (), (), w (i + 1), ()), (s, r, p v i q, ()))))))
   (.chk (inArrK .i64 (w (i - 15)) 64) (.chk (inArrK .i64 (w (i - 2)) 64) (.chk (inArrK .i64 (w (i - 16)) 64) (.chk (inArrK .i64 (w (i - 7)) 64) (.chk (inArrK .i64 i 64)
    (.ret (.inl ((b, (), (), (), w (i + 1), ()), (s, r, step2 t v i, ()))))))))))
  (.ret (.inr (.exit 0, encS [2, 4, 5] [.ptr 0 [], .ptr 1 [], .ptr 2 []] eM 157 ((), (), (), ()) (s, r, v, ()))))
theorem rM1 (r0 : Int → Int → Int) (t : Tu) (ks : List Int) (c : Int → List Int → Int → Int → Bool) (p : List Int → Int → List Int → List Int) (b : List Int) (i : Int) (s r v : List Int) :
  (SM1.round (bodyK Try.prog (ctx (cM r0 t ks)) (LM2 c p) bM1) (b, (), (), (), i, ()) (s, r, v, ())).eval = (GM1 c p t b i s r v).eval := by kernel_rfl
abbrev eM3 : List ETy := [.box a8, .box a8, .box a64, .box a8]
def SM3 : RSpec := ⟨[2, 4, 5, 11, 78, 79], 157, [.ptr 0 [], .ptr 1 [], .ptr 2 [], .ptr 3 [], a64, i64], eM3, eM3, [], fun _ => ([2, 4, 11], [.ptr 0 [], .ptr 1 [], .ptr 3 []], [.box a8, .box a8, .dead, .box a8])⟩
def shift7 (l : List Int) : List Int := l.take 1 ++ (overL ((l.drop 1).take 7) ((l.drop 0).take 7) ++ l.drop (1 + 7))
def tF (r : Int → Int → Int) (t : Tu) (l : List Int) (k x : Int) : Int :=
 let e := l.getD 4 0
 w3 (w3 (w3 (w3 (l.getD 7 0 + t e 6 11 (r e (-25))) + xorI .u32 (andI .u32 e (l.getD 5 0)) (andI .u32 (xorI .u32 4294967295 e) (l.getD 6 0))) + k) + x)
def uF (r : Int → Int → Int) (t : Tu) (l : List Int) : Int :=
 let a := l.getD 0 0
 w3 (t a 2 13 (r a (-22)) + xorI .u32 (xorI .u32 (andI .u32 a (l.getD 1 0)) (andI .u32 a (l.getD 2 0))) (andI .u32 (l.getD 1 0) (l.getD 2 0)))
def round1 (r : Int → Int → Int) (t : Tu) (l : List Int) (k x : Int) : List Int :=
 ((shift7 l).set 0 (w3 (tF r t l k x + uF r t l))).set 4 (w3 ((shift7 l).getD 4 0 + tF r t l k x))
def GM3 (r0 : Int → Int → Int) (t : Tu) (ks : List Int) (i : Int) (s r v l : List Int) : Tr SM3.End :=
 .ite (decide (i < 64)) (.chk (inArrK .i64 i 64) (.chk (inArrK .i64 i 64) (.ret (.inl (((), (), (), (), ks, w (i + 1), ()), (s, r, v, round1 r0 t l (ks.getD i.toNat 0) (v.getD i.toNat 0), ()))))))
  (.ret (.inr (.exit 4, encS [2, 4, 11] [.ptr 0 [], .ptr 1 [], .ptr 3 []] [.box a8, .box a8, .dead, .box a8] 157 ((), (), (), ()) (s, r, l, ()))))
theorem rM3 (r0 : Int → Int → Int) (t : Tu) (ks0 ks : List Int) (i : Int) (s r v l : List Int) :
  (SM3.round (bodyK Try.prog (ctx (cM r0 t ks0)) L0 bM3) ((), (), (), (), ks, i, ()) (s, r, v, l, ())).eval = (GM3 r0 t ks i s r v l).eval := by kernel_rfl
def SM4 : RSpec := ⟨[2, 4, 144, 145], 157, [.ptr 0 [], .ptr 1 [], a8, i64], [.box a8, .box a8, .dead, .dead], [.box a8, .box a8, .dead, .box a8], [], fun _ => ([2, 4], [.ptr 0 [], .ptr 1 []], [.box a8, .box a8, .dead, .dead])⟩
def GM4 (l : List Int) (i : Int) (s r : List Int) : Tr SM4.End :=
 .ite (decide (i < 8)) (.chk (inArrK .i64 i 8) (.chk (inArrK .i64 i 8) (.chk (inArrK .i64 i 8) (.ret (.inl (((), (), l, w (i + 1), ()), (s.set i.toNat (w3 (s.getD i.toNat 0 + l.getD i.toNat 0)), r, ())))))))
  (.ret (.inr (.exit 6, encS [2, 4] [.ptr 0 [], .ptr 1 []] [.box a8, .box a8, .dead, .dead] 157 ((), (), ()) (s, r, ()))))
theorem rM4 (r0 : Int → Int → Int) (t : Tu) (ks0 l : List Int) (i : Int) (s r : List Int) :
  (SM4.round (bodyK Try.prog (ctx (cM r0 t ks0)) L0 bM4) ((), (), l, i, ()) (s, r, ())).eval = (GM4 l i s r).eval := by kernel_rfl
end Go.Proofs.Ytffdkniccaebmaa.Sha
end
section
set_option linter.unusedVariables false
set_option maxRecDepth 100000
namespace Go.Proofs.Ytffdkniccaebmaa.Sha
open Go Vse Go.Proofs Gen
theorem inArrK64 {i : Int} {n : Nat} (hn : (n : Int) ≤ 9223372036854775807) (h0 : 0 ≤ i) (h1 : i < (n : Int)) : inArrK .i64 i n = true := by
 have e : (decide (0 ≤ IntKind.i64.min) && decide (IntKind.i64.max < (n : Int))) = false := by
  have : decide (0 ≤ IntKind.i64.min) = false := by decide
  rw [this]; rfl
 unfold inArrK
 rw [e]
 simp only [inArr, Bool.and_eq_true, decide_eq_true_eq]
 exact ⟨h0, h1⟩
theorem getD_cons {α : Type} {l : List α} {k : Nat} (h : k < l.length) (d : α) : l.getD k d = l[k] := by rw [List.getD_eq_getElem?_getD, List.getElem?_eq_getElem h]; rfl
abbrev CM : Ctx := ctx (cM rotF turnF consts)
theorem mM2 (b : List Int) (k i : Int) (q : List Int) (s r : List Int) (hq : (q.length : Int) ≤ 9223372036854775807) (hk : inArrK .i64 k 64 = true) : ∀ (m j : Nat) (v : List Int), j + m = q.length →
  SM2.many (bodyK Try.prog CM L0 bM2) (m + 1) (b, (), (), (), k, i, q, (q.length : Int), (j : Int), ()) (s, r, v, ()) = some (.exit 2, encS [1, 2, 4, 5, 20] [bs, .ptr 0 [], .ptr 1 [], .ptr 2 [], i64] eM 157 (b, (), (), (), i, ()) (s, r, put4 v k (q.drop j), ()))
 | 0, j, v, h => by
  rw [List.drop_eq_nil_of_le (by omega)]
  refine rmany_inr ((rM2 rotF turnF consts b k i q _ j s r v).trans ?_) 0
  simp only [GM2, Tr.eval, decide_eq_false (show ¬ ((j : Int) < (q.length : Int)) by omega)]
  rfl
 | m + 1, j, v, h => by
  have h1 : j < q.length := by omega
  have i1 : inArr (j : Int) q.length = true := by simp [inArr]; omega
  rw [List.drop_eq_getElem_cons h1]
  refine (rmany_inl (d := ((b, (), (), (), k, i, q, (q.length : Int), ((j + 1 : Nat) : Int), ()), (s, r, put1 v k q[j], ()))) ((rM2 rotF turnF consts b k i q _ j s r v).trans ?_) (m + 1)).trans (mM2 b k i q s r hq hk m (j + 1) _ (by omega))
  simp only [GM2, Tr.eval, Tr.chk, decide_eq_true (show ((j : Int) < (q.length : Int)) by omega), i1, hk, Int.toNat_natCast, getD_cons h1]
  rw [w_id (by omega) (by omega)]
  rfl
theorem lM2 : LoopOK Try.prog (LM2 cM2 put4) bM2 :=
 rloop_ok (L := LM2 cM2 put4) (L' := L0) cM_sound (loopsOK_of (by kernel_rfl)) SM2 (F := FM2 cM2 put4) (i := 7) (by kernel_rfl) (fun _ => rfl) fun xs hs r h => by
  obtain ⟨b, u1, u2, u3, k, i, q, n, j, u4⟩ := xs
  obtain ⟨s, r', v, u5⟩ := hs
  obtain ⟨h1, h2⟩ := Tr.chk_some h
  simp only [cM2, Bool.and_eq_true, decide_eq_true_eq] at h1
  obtain ⟨e1, e2, e3, e4⟩ := h1
  have e1 : j = ((0 : Nat) : Int) := e1
  have e2 : n = ((List.length (α := Int) q : Nat) : Int) := by rw [e3]; exact e2
  subst e1; subst e2
  exact ⟨_, (mM2 b k i q s r' (by rw [e3]; decide) e4 (List.length (α := Int) q) 0 v (by omega)).trans (congrArg some (Tr.ret_some h2))⟩
def part4 (b : List Int) (i : Nat) : List Int := (b.take (4 * i + 4)).drop (4 * i)
def schedL (t : Tu) (b : List Int) : Nat → Nat → List Int → List Int
 | _, 0, v => v
 | i, m + 1, v => schedL t b (i + 1) m (if i < 16 then put4 v (i : Int) (part4 b i) else step2 t v (i : Int))
def schedF (b v : List Int) : List Int := schedL turnF b 0 64 v
theorem mM1 (b : List Int) (hb : b.length = 64) (s r : List Int) : ∀ (m i : Nat) (v : List Int), i + m = 64 →
  SM1.many (bodyK Try.prog CM (LM2 cM2 put4) bM1) (m + 1) (b, (), (), (), (i : Int), ()) (s, r, v, ()) = some (.exit 0, encS [2, 4, 5] [.ptr 0 [], .ptr 1 [], .ptr 2 []] eM 157 ((), (), (), ()) (s, r, schedL turnF b i m v, ()))
 | 0, i, v, h => by
  refine rmany_inr ((rM1 rotF turnF consts cM2 put4 b i s r v).trans ?_) 0
  simp only [GM1, Tr.eval, decide_eq_false (show ¬ ((i : Int) < 64) by omega)]
  rfl
 | m + 1, i, v, h => by
  refine (rmany_inl (d := ((b, (), (), (), ((i + 1 : Nat) : Int), ()), (s, r, (if i < 16 then put4 v (i : Int) (part4 b i) else step2 turnF v (i : Int)), ()))) ((rM1 rotF turnF consts cM2 put4 b i s r v).trans ?_) (m + 1)).trans (mM1 b hb s r m (i + 1) _ (by omega))
  have w0 : w ((i : Int) + 1) = ((i + 1 : Nat) : Int) := (w_id (by omega) (by omega)).trans (by omega)
  by_cases hi : i < 16
  ·have w1 : w (4 * (i : Int)) = ((4 * i : Nat) : Int) := (w_id (by omega) (by omega)).trans (by omega)
   have w2 : w (((4 * i : Nat) : Int) + 4) = ((4 * i + 4 : Nat) : Int) := (w_id (by omega) (by omega)).trans (by omega)
   have hlen : ((b.take (4 * i + 4)).drop (4 * i)).length = 4 := by rw [List.length_drop, List.length_take]; omega
   have hc : (decide (0 ≤ ((4 * i : Nat) : Int)) && (decide (((4 * i : Nat) : Int) ≤ ((4 * i + 4 : Nat) : Int)) && decide (((4 * i + 4 : Nat) : Int) ≤ (b.length : Int)))) = true := by
    simp only [Bool.and_eq_true, decide_eq_true_eq]; omega
   have hc2 : cM2 (i : Int) ((b.take (4 * i + 4)).drop (4 * i)) (((b.take (4 * i + 4)).drop (4 * i)).length : Int) 0 = true := by
    simp only [cM2, hlen, inArrK64 (i := (i : Int)) (n := 64) (by omega) (by omega) (by omega)]; decide
   simp only [GM1, w1, w2, Int.toNat_natCast, Tr.eval, Tr.chk, decide_eq_true (show ((i : Int) < 64) by omega), decide_eq_true (show ((i : Int) < 16) by omega), hc, hc2, w0, if_pos hi]
   rfl
  ·have j1 : w ((i : Int) - 15) = ((i - 15 : Nat) : Int) := (w_id (by omega) (by omega)).trans (by omega)
   have j2 : w ((i : Int) - 2) = ((i - 2 : Nat) : Int) := (w_id (by omega) (by omega)).trans (by omega)
   have j3 : w ((i : Int) - 16) = ((i - 16 : Nat) : Int) := (w_id (by omega) (by omega)).trans (by omega)
   have j4 : w ((i : Int) - 7) = ((i - 7 : Nat) : Int) := (w_id (by omega) (by omega)).trans (by omega)
   have ok : ∀ k : Nat, k < 64 → inArrK .i64 (k : Int) 64 = true := fun k hk => inArrK64 (by omega) (by omega) (by omega)
   simp only [GM1, Tr.eval, Tr.chk, decide_eq_true (show ((i : Int) < 64) by omega), decide_eq_false (show ¬ ((i : Int) < 16) by omega), j1, j2, j3, j4, ok (i - 15) (by omega), ok (i - 2) (by omega), ok (i - 16) (by omega), ok (i - 7) (by omega), ok i (by omega), w0, if_neg hi]
def cM1 (b : List Int) (i : Int) : Bool := decide (i = 0) && decide (b.length = 64)
def FM1 (c : List Int → Int → Bool) (S : List Int → List Int → List Int) (xs : HL SM1.Ts) (hs : HD SM1.Es) : Tr (Ex × St) :=
 .chk (c xs.1 xs.2.2.2.2.1) (.ret (.exit 0, encS [2, 4, 5] [.ptr 0 [], .ptr 1 [], .ptr 2 []] eM 157 ((), (), (), ()) (hs.1, hs.2.1, S xs.1 hs.2.2.1, ())))
def roundsL (t : Tu) (r : Int → Int → Int) (ks v : List Int) : Nat → Nat → List Int → List Int
 | _, 0, l => l
 | i, m + 1, l => roundsL t r ks v (i + 1) m (round1 r t l (ks.getD i 0) (v.getD i 0))
def roundsF (ks v l : List Int) : List Int := roundsL turnF rotF ks v 0 64 l
def FM3 (S : List Int → List Int → List Int → List Int) (xs : HL SM3.Ts) (hs : HD SM3.Es) : Tr (Ex × St) :=
 .chk (decide (xs.2.2.2.2.2.1 = (0 : Int))) (.ret (.exit 4, encS [2, 4, 11] [.ptr 0 [], .ptr 1 [], .ptr 3 []] [.box a8, .box a8, .dead, .box a8] 157 ((), (), (), ()) (hs.1, hs.2.1, S xs.2.2.2.2.1 hs.2.2.1 hs.2.2.2.1, ())))
def addL (l : List Int) : Nat → Nat → List Int → List Int
 | _, 0, s => s
 | i, m + 1, s => addL l (i + 1) m (s.set i (w3 (s.getD i 0 + l.getD i 0)))
def addF (l s : List Int) : List Int := addL l 0 8 s
def FM4 (S : List Int → List Int → List Int) (xs : HL SM4.Ts) (hs : HD SM4.Es) : Tr (Ex × St) :=
 .chk (decide (xs.2.2.2.1 = (0 : Int))) (.ret (.exit 6, encS [2, 4] [.ptr 0 [], .ptr 1 []] [.box a8, .box a8, .dead, .dead] 157 ((), (), ()) (S xs.2.2.1 hs.1, hs.2.1, ())))
def LM (c2 : Int → List Int → Int → Int → Bool) (p2 : List Int → Int → List Int → List Int) (c1 : List Int → Int → Bool) (S1 : List Int → List Int → List Int) (S3 : List Int → List Int → List Int → List Int) (S4 : List Int → List Int → List Int) : Loops := fun j st =>
 if j = 7 then SM2.fn (FM2 c2 p2) st else if j = 3 then SM1.fn (FM1 c1 S1) st else if j = 16 then SM3.fn (FM3 S3) st else if j = 25 then SM4.fn (FM4 S4) st else .fail
abbrev LMF : Loops := LM cM2 put4 cM1 schedF roundsF addF
theorem lM1 : LoopOK Try.prog LMF bM1 :=
 rloop_ok (L := LMF) (L' := LM2 cM2 put4) cM_sound (loopsOK_all fun b hb => by
  have : loopsOf bM1 = [bM2] := by kernel_rfl
  rw [this] at hb
  rw [List.mem_singleton.1 hb]
  exact lM2) SM1 (F := FM1 cM1 schedF) (i := 3) (by kernel_rfl) (fun _ => rfl) fun xs hs r h => by
  obtain ⟨b, u1, u2, u3, i, u4⟩ := xs
  obtain ⟨s, r', v, u5⟩ := hs
  obtain ⟨h1, h2⟩ := Tr.chk_some h
  simp only [cM1, Bool.and_eq_true, decide_eq_true_eq] at h1
  obtain ⟨e1, e2⟩ := h1
  have e1 : i = ((0 : Nat) : Int) := e1
  subst e1
  exact ⟨_, (mM1 b e2 s r' 64 0 v (by omega)).trans (congrArg some (Tr.ret_some h2))⟩
theorem mM3 (ks s r v : List Int) : ∀ (m i : Nat) (l : List Int), i + m = 64 →
  SM3.many (bodyK Try.prog CM L0 bM3) (m + 1) ((), (), (), (), ks, (i : Int), ()) (s, r, v, l, ()) = some (.exit 4, encS [2, 4, 11] [.ptr 0 [], .ptr 1 [], .ptr 3 []] [.box a8, .box a8, .dead, .box a8] 157 ((), (), (), ()) (s, r, roundsL turnF rotF ks v i m l, ()))
 | 0, i, l, h => by
  refine rmany_inr ((rM3 rotF turnF consts ks i s r v l).trans ?_) 0
  simp only [GM3, Tr.eval, decide_eq_false (show ¬ ((i : Int) < 64) by omega)]
  rfl
 | m + 1, i, l, h => by
  refine (rmany_inl (d := (((), (), (), (), ks, ((i + 1 : Nat) : Int), ()), (s, r, v, round1 rotF turnF l (ks.getD i 0) (v.getD i 0), ()))) ((rM3 rotF turnF consts ks i s r v l).trans ?_) (m + 1)).trans (mM3 ks s r v m (i + 1) _ (by omega))
  have w0 : w ((i : Int) + 1) = ((i + 1 : Nat) : Int) := (w_id (by omega) (by omega)).trans (by omega)
  simp only [GM3, Tr.eval, Tr.chk, decide_eq_true (show ((i : Int) < 64) by omega), inArrK64 (i := (i : Int)) (n := 64) (by omega) (by omega) (by omega), w0, Int.toNat_natCast]
theorem lM3 : LoopOK Try.prog LMF bM3 :=
 rloop_ok (L := LMF) (L' := L0) cM_sound (loopsOK_of (by kernel_rfl)) SM3 (F := FM3 roundsF) (i := 16) (by kernel_rfl) (fun _ => rfl) fun xs hs r h => by
  obtain ⟨u1, u2, u3, u4, ks, i, u6⟩ := xs
  obtain ⟨s, r', v, l, u5⟩ := hs
  obtain ⟨h1, h2⟩ := Tr.chk_some h
  have e1 : i = ((0 : Nat) : Int) := of_decide_eq_true h1
  subst e1
  exact ⟨_, (mM3 ks s r' v 64 0 l (by omega)).trans (congrArg some (Tr.ret_some h2))⟩
theorem mM4 (l r : List Int) : ∀ (m i : Nat) (s : List Int), i + m = 8 →
  SM4.many (bodyK Try.prog CM L0 bM4) (m + 1) ((), (), l, (i : Int), ()) (s, r, ()) = some (.exit 6, encS [2, 4] [.ptr 0 [], .ptr 1 []] [.box a8, .box a8, .dead, .dead] 157 ((), (), ()) (addL l i m s, r, ()))
 | 0, i, s, h => by
  refine rmany_inr ((rM4 rotF turnF consts l i s r).trans ?_) 0
  simp only [GM4, Tr.eval, decide_eq_false (show ¬ ((i : Int) < 8) by omega)]
  rfl
 | m + 1, i, s, h => by
  refine (rmany_inl (d := (((), (), l, ((i + 1 : Nat) : Int), ()), (s.set i (w3 (s.getD i 0 + l.getD i 0)), r, ()))) ((rM4 rotF turnF consts l i s r).trans ?_) (m + 1)).trans (mM4 l r m (i + 1) _ (by omega))
  have w0 : w ((i : Int) + 1) = ((i + 1 : Nat) : Int) := (w_id (by omega) (by omega)).trans (by omega)
  simp only [GM4, Tr.eval, Tr.chk, decide_eq_true (show ((i : Int) < 8) by omega), inArrK64 (i := (i : Int)) (n := 8) (by omega) (by omega) (by omega), w0, Int.toNat_natCast]
theorem lM4 : LoopOK Try.prog LMF bM4 :=
 rloop_ok (L := LMF) (L' := L0) cM_sound (loopsOK_of (by kernel_rfl)) SM4 (F := FM4 addF) (i := 25) (by kernel_rfl) (fun _ => rfl) fun xs hs r h => by
  obtain ⟨u1, u2, l, i, u6⟩ := xs
  obtain ⟨s, r', u5⟩ := hs
  obtain ⟨h1, h2⟩ := Tr.chk_some h
  have e1 : i = ((0 : Nat) : Int) := of_decide_eq_true h1
  subst e1
  exact ⟨_, (mM4 l r' 8 0 s (by omega)).trans (congrArg some (Tr.ret_some h2))⟩
def zeros64 : List Int := [0, 0, 0, 0, 0, 0, 0, 0, 0, 0, 0, 0, 0, 0, 0, 0, 0, 0, 0, 0, 0, 0, 0, 0, 0, 0, 0, 0, 0, 0, 0, 0, 0, 0, 0, 0, 0, 0, 0, 0, 0, 0, 0, 0, 0, 0, 0, 0, 0, 0, 0, 0, 0, 0, 0, 0, 0, 0, 0, 0, 0, 0, 0, 0]
def mixF (s b : List Int) : List Int := addF (roundsF consts (schedF b zeros64) s) s
def s42 : CSpec := .slp1 [a8, bs] (fun x => decide (List.length (α := Int) x.2.1 = 64)) a8 fun x => mixF x.1 x.2.1
theorem k42 (r0 : Int → Int → Int) (t : Tu) (ks : List Int) (c2 : Int → List Int → Int → Int → Bool) (p2 : List Int → Int → List Int → List Int) (c1 : List Int → Int → Bool) (S1 : List Int → List Int → List Int) (S3 : List Int → List Int → List Int → List Int) (S4 : List Int → List Int → List Int) (s b : List Int) :
  (fnS Try.prog (ctx (cM r0 t ks)) (LM c2 p2 c1 S1 S3 S4) [a8] Try.f130 (mkArgs [a8, bs] (s, b, ()))).fold1 a8 = S4 (S3 ks (S1 b zeros64) s) s := by kernel_rfl
theorem f42 (r0 : Int → Int → Int) (t : Tu) (ks : List Int) (c2 : Int → List Int → Int → Int → Bool) (p2 : List Int → Int → List Int → List Int) (c1 : List Int → Int → Bool) (S1 : List Int → List Int → List Int) (S3 : List Int → List Int → List Int → List Int) (S4 : List Int → List Int → List Int) (s b : List Int) :
  (fnS Try.prog (ctx (cM r0 t ks)) (LM c2 p2 c1 S1 S3 S4) [a8] Try.f130 (mkArgs [a8, bs] (s, b, ()))).fine [a8] = c1 b 0 := by kernel_rfl
theorem ok42 : CSound Try.prog 130 s42 ∧ CLocal s42 :=
 slp_ok1 (L := LMF) cM_sound Try.func130 (by kernel_rfl) (fun b hb => by
  have : loopsOf (bodyOf Try.f130) = [bM1, bM3, bM4] := by kernel_rfl
  rw [this] at hb
  simp only [List.mem_cons, List.not_mem_nil, or_false] at hb
  rcases hb with rfl | rfl | rfl
  ·exact lM1
  ·exact lM3
  ·exact lM4) (fun xs hx hp => by
   refine (f42 _ _ _ _ _ _ _ _ _ xs.1 xs.2.1).trans ?_
   have hp : decide (List.length (α := Int) xs.2.1 = 64) = true := hp
   simp only [cM1, hp]
   rfl) (fun xs hx hp => k42 _ _ _ _ _ _ _ _ _ xs.1 xs.2.1)
end Go.Proofs.Ytffdkniccaebmaa.Sha
end
section
set_option linter.unusedVariables false
set_option maxRecDepth 100000
namespace Go.Proofs.Ytffdkniccaebmaa.Sha
open Go Vse Go.Proofs Gen
abbrev hT : Ty := .prod a8 (.prod bt (.prod u64 .unit))
abbrev Hs := List Int × List Int × Int × Unit
abbrev wu (x : Int) : Int := IntKind.u64.wrap x
abbrev wb (x : Int) : Int := IntKind.u8.wrap x
def init : List Int := [1779033703, 3144134277, 1013904242, 2773480762, 1359893119, 2600822924, 528734635, 1541459225]
abbrev nH : PSpec := ⟨[], [.ptr 0 []], [], [.box hT], []⟩
def s19 : CSpec := .pos nH (fun _ _ => true) fun _ _ => (((), ()), ((init, [], 0, ()), ()))
theorem ok19 : CSound Try.prog 124 s19 ∧ CLocal s19 := pos_sound (L := L0) nil_sound Try.func124 (by kernel_rfl) (noLoopsL (by kernel_rfl)) fun xs hs _ _ _ => by kernel_rfl
abbrev Mx := List Int → List Int → List Int
def c42 (m : Mx) : List (Nat × CSpec) := [(130, .slp1 [a8, bs] (fun x => decide (List.length (α := Int) x.2.1 = 64)) a8 fun x => m x.1 x.2.1)]
theorem c42_sound : CtxSound Try.prog (ctx (c42 mixF)) ∧ CtxLocal (ctx (c42 mixF)) := ctx_sound ⟨ok42, trivial⟩
noncomputable def bW : Code := loopAt Try.f125 0
def SW : RSpec := ⟨[0, 4], 53, [.ptr 0 [], bt], [.box hT, .dead], [.box hT, .dead], [], fun _ => ([0, 4], [.ptr 0 [], bt], [.box hT, .dead])⟩
def GW (m : Mx) (all s rest : List Int) (many : Int) : Tr SW.End :=
 .ite (decide ((all.length : Int) ≥ 64)) (.chk (decide (64 ≤ (all.length : Int))) (.chk (decide (((all.take 64).drop 0).length = 64)) (.chk (decide (64 ≤ (all.length : Int)) && decide ((all.length : Int) ≤ (all.length : Int)))
   (.ret (.inl (((), ((all.take (all.length : Int).toNat).drop 64), ()), ((m s ((all.take 64).drop 0), rest, many, ()), ())))))))
  (.ret (.inr (.exit 0, encS [0, 4] [.ptr 0 [], bt] [.box hT, .dead] 53 ((), all, ()) ((s, rest, many, ()), ()))))
theorem rW (m : Mx) (all s rest : List Int) (many : Int) : (SW.round (bodyK Try.prog (ctx (c42 m)) L0 bW) ((), all, ()) ((s, rest, many, ()), ())).eval = (GW m all s rest many).eval := by kernel_rfl
def FW (A : List Int → List Int → List Int × List Int) (xs : HL SW.Ts) (hs : HD SW.Es) : Tr (Ex × St) :=
 .ret (.exit 0, encS [0, 4] [.ptr 0 [], bt] [.box hT, .dead] 53 ((), (A hs.1.1 xs.2.1).2, ()) (((A hs.1.1 xs.2.1).1, hs.1.2.1, hs.1.2.2.1, ()), ()))
def LW (A : List Int → List Int → List Int × List Int) : Loops := fun j st => if j = 2 then SW.fn (FW A) st else .fail
abbrev wS (As Rs : List Ty) : PSpec := ⟨.ptr 0 [] :: As, Rs, [.box hT], [.box hT], []⟩
def G20 (A : List Int → List Int → List Int × List Int) (b s rest : List Int) (many : Int) : Tr (wS [bs] []).Out :=
 let r := (rest.take (rest.length : Int).toNat).drop (0 : Int).toNat
 let P (all : List Int) : Tr (wS [bs] []).Out := .chk (Vse.room (([] : List Int).length + (A s all).2.length) 1) (.ret ((), (((A s all).1, [] ++ (A s all).2, wu (many + wu (b.length : Int)), ()), ())))
 .chk (decide ((0 : Int) ≤ 0) && (decide ((0 : Int) ≤ (rest.length : Int)) && (decide ((rest.length : Int) = (rest.length : Int)) && decide ((rest.length : Int) ≤ (rest.length : Int)))))
  (.ite (decide (b.length = 0)) (P r) (.chk (Vse.room (r.length + b.length) 1) (P (r ++ b))))
theorem k20 (m : Mx) (A : List Int → List Int → List Int × List Int) (b s rest : List Int) (many : Int) :
  (fnP Try.prog (ctx (c42 m)) (LW A) (wS [bs] []) Try.f125 ((), b, ()) ((s, rest, many, ()), ())).eval = (G20 A b s rest many).eval := by kernel_rfl
abbrev Wr := List Int → Hs → Hs
def c20 (W : Wr) (p : List Int → Hs → Bool) : List (Nat × CSpec) := [(125, .pos (wS [bs] []) (fun xs d => p xs.2.1 d.1) fun xs d => ((), (W xs.2.1 d.1, ())))]
noncomputable def bS1 : Code := loopAt Try.f126 0
noncomputable def bS2 : Code := loopAt Try.f126 1
noncomputable def bS3 : Code := loopAt Try.f126 2
abbrev eS (k : Nat) : List ETy := [.box hT, .box d32, .box hT, .vec k u8]
def SS1 : RSpec := ⟨[0, 2, 3, 4], 68, [.ptr 0 [], .ptr 1 [], .ptr 2 [], .vc 3 1], eS 1, eS 0, [], fun _ => ([0, 2, 3, 4], [.ptr 0 [], .ptr 1 [], .ptr 2 [], .vc 3 1], eS 1)⟩
def GS1 (h l : Hs) (o f : List Int) : Tr SS1.End :=
 .ite ((w (w ((h.2.1.length : Int) + (f.length : Int)) + 8)).tmod 64 != 0) (.chk (Vse.room (f.length + [(0 : Int)].length) 1) (.ret (.inl (((), (), (), (), ()), (h, o, l, f ++ [0], ())))))
  (.ret (.inr (.exit 0, encS [0, 2, 3, 4] [.ptr 0 [], .ptr 1 [], .ptr 2 [], .vc 3 1] (eS 1) 68 ((), (), (), (), ()) (h, o, l, f, ()))))
theorem rS1 (W : Wr) (p : List Int → Hs → Bool) (h l : Hs) (o f : List Int) : (SS1.round (bodyK Try.prog (ctx (c20 W p)) L0 bS1) ((), (), (), (), ()) (h, o, l, f, ())).eval = (GS1 h l o f).eval := by kernel_rfl
def SS2 : RSpec := ⟨[0, 2, 3, 4, 5], 68, [.ptr 0 [], .ptr 1 [], .ptr 2 [], .vc 3 2, i64], eS 2, eS 1, [], fun _ => ([0, 2, 3, 4], [.ptr 0 [], .ptr 1 [], .ptr 2 [], .vc 3 2], eS 2)⟩
def GS2 (h l : Hs) (o f : List Int) (i : Int) : Tr SS2.End :=
 .ite (decide (i ≥ 0)) (.chk (decide (0 ≤ w (8 * i))) (.chk (Vse.room (f.length + [(0 : Int)].length) 1) (.ret (.inl (((), (), (), (), w (i - 1), ()), (h, o, l, f ++ [wb (shrI .u64 (shlI .u64 h.2.2.1 3) (w (8 * i)))], ()))))))
  (.ret (.inr (.exit 2, encS [0, 2, 3, 4] [.ptr 0 [], .ptr 1 [], .ptr 2 [], .vc 3 2] (eS 2) 68 ((), (), (), (), ()) (h, o, l, f, ()))))
theorem rS2 (W : Wr) (p : List Int → Hs → Bool) (h l : Hs) (o f : List Int) (i : Int) : (SS2.round (bodyK Try.prog (ctx (c20 W p)) L0 bS2) ((), (), (), (), i, ()) (h, o, l, f, ())).eval = (GS2 h l o f i).eval := by kernel_rfl
abbrev eS3 : List ETy := [.box hT, .box d32, .box hT, .dead, .box d32]
def SS3 : RSpec := ⟨[2, 3, 6, 50], 68, [.ptr 1 [], .ptr 2 [], .ptr 4 [], i64], eS3, [.box hT, .box d32, .box hT, .vec 2 u8, .box d32], [], fun _ => ([2, 6], [.ptr 1 [], .ptr 4 []], [.box hT, .box d32, .dead, .dead, .box d32])⟩
def GS3 (h l : Hs) (o q : List Int) (i : Int) : Tr SS3.End :=
 .ite (decide (i < 32)) (.chk (inArrK .i64 (w (i.tdiv 4)) 8) (.chk (decide (0 ≤ w (8 * w (3 - i.tmod 4)))) (.chk (inArrK .i64 i 32)
   (.ret (.inl (((), (), (), w (i + 1), ()), (h, o, l, q.set i.toNat (wb (shrI .u32 (l.1.getD (w (i.tdiv 4)).toNat 0) (w (8 * w (3 - i.tmod 4))))), ())))))))
  (.ret (.inr (.exit 4, encS [2, 6] [.ptr 1 [], .ptr 4 []] [.box hT, .box d32, .dead, .dead, .box d32] 68 ((), (), ()) (h, o, q, ()))))
theorem rS3 (W : Wr) (p : List Int → Hs → Bool) (h l : Hs) (o q : List Int) (i : Int) : (SS3.round (bodyK Try.prog (ctx (c20 W p)) L0 bS3) ((), (), (), i, ()) (h, o, l, q, ())).eval = (GS3 h l o q i).eval := by kernel_rfl
end Go.Proofs.Ytffdkniccaebmaa.Sha
end
section
set_option linter.unusedVariables false
set_option maxRecDepth 100000
namespace Go.Proofs.Ytffdkniccaebmaa.Sha
open Go Vse Go.Proofs Gen
abbrev CW : Ctx := ctx (c42 mixF)
def absorb (m : Mx) : Nat → List Int → List Int → List Int × List Int
 | 0, s, all => (s, all)
 | n + 1, s, all => absorb m n (m s (all.take 64)) (all.drop 64)
def absF (s all : List Int) : List Int × List Int := absorb mixF (all.length / 64) s all
theorem mW : ∀ (n : Nat) (all s rest : List Int) (many : Int), all.length / 64 = n →
  SW.many (bodyK Try.prog CW L0 bW) (n + 1) ((), all, ()) ((s, rest, many, ()), ()) = some (.exit 0, encS [0, 4] [.ptr 0 [], bt] [.box hT, .dead] 53 ((), (absorb mixF n s all).2, ()) (((absorb mixF n s all).1, rest, many, ()), ()))
 | 0, all, s, rest, many, h => by
  refine rmany_inr ((rW mixF all s rest many).trans ?_) 0
  simp only [GW, Tr.eval, decide_eq_false (show ¬ ((all.length : Int) ≥ 64) by omega)]
  rfl
 | n + 1, all, s, rest, many, h => by
  have hl : 64 ≤ all.length := by omega
  refine (rmany_inl (d := (((), all.drop 64, ()), ((mixF s (all.take 64), rest, many, ()), ()))) ((rW mixF all s rest many).trans ?_) (n + 1)).trans (mW n _ _ rest many (by rw [List.length_drop]; omega))
  have h1 : decide ((all.take 64).length = 64) = true := by
   rw [List.length_take]; simp; omega
  have h2 : (decide (64 ≤ (all.length : Int)) && decide ((all.length : Int) ≤ (all.length : Int))) = true := by
   simp only [Bool.and_eq_true, decide_eq_true_eq]; omega
  simp only [GW, Tr.eval, Tr.chk, decide_eq_true (show ((all.length : Int) ≥ 64) by omega), decide_eq_true (show (64 ≤ (all.length : Int)) by omega), h1, Int.toNat_natCast, List.drop_zero, List.take_length, Bool.true_and, decide_eq_true (Int.le_refl (all.length : Int))]
theorem lW : LoopOK Try.prog (LW absF) bW :=
 rloop_ok (L := LW absF) (L' := L0) c42_sound (loopsOK_of (by kernel_rfl)) SW (F := FW absF) (i := 2) (by kernel_rfl) (fun _ => rfl) fun xs hs r h => by
  obtain ⟨u1, all, u2⟩ := xs
  obtain ⟨⟨s, rest, many, u3⟩, u4⟩ := hs
  exact ⟨_, (mW (List.length (α := Int) all / 64) all s rest many rfl).trans (congrArg some (Tr.ret_some h))⟩
def writeF (b : List Int) (h : Hs) : Hs := ((absF h.1 (h.2.1 ++ b)).1, (absF h.1 (h.2.1 ++ b)).2, wu (h.2.2.1 + wu (b.length : Int)), ())
def writeP (b : List Int) (h : Hs) : Bool := decide (h.2.1.length + b.length ≤ 100000000000000)
def s20 : CSpec := .pos (wS [bs] []) (fun xs d => writeP xs.2.1 d.1) fun xs d => ((), (writeF xs.2.1 d.1, ()))
theorem absorb_rest (m : Mx) : ∀ (n : Nat) (s all : List Int), (absorb m n s all).2 = all.drop (64 * n)
 | 0, s, all => by simp [absorb]
 | n + 1, s, all => by
  rw [absorb, absorb_rest m n, List.drop_drop]
  congr 1
  omega
theorem G20_eq (b s rest : List Int) (many : Int) (h : writeP b (s, rest, many, ()) = true) : (G20 absF b s rest many).eval = some ((), (writeF b (s, rest, many, ()), ())) := by
 have h : rest.length + b.length ≤ 100000000000000 := of_decide_eq_true h
 have h0 : (decide ((0 : Int) ≤ 0) && (decide ((0 : Int) ≤ (rest.length : Int)) && (decide ((rest.length : Int) = (rest.length : Int)) && decide ((rest.length : Int) ≤ (rest.length : Int))))) = true := by simp
 have hr : (rest.take (rest.length : Int).toNat).drop (0 : Int).toNat = rest := by
  rw [Int.toNat_natCast, List.take_length]
  exact List.drop_zero
 have hp : ∀ all : List Int, all.length ≤ 100000000000000 → Vse.room (([] : List Int).length + (absF s all).2.length) 1 = true := by
  intro all hall
  have : (absF s all).2.length ≤ all.length := by unfold absF; rw [absorb_rest, List.length_drop]; omega
  simp only [Vse.room, decide_eq_true_eq, List.length_nil]; omega
 unfold G20
 simp only
 refine (chk_eval (by simp) _).trans ?_
 rw [hr]
 by_cases hb : b.length = 0
 ·have hb0 : b = [] := List.eq_nil_of_length_eq_zero hb
  subst hb0
  rw [ite_t (decide_eq_true (show ([] : List Int).length = 0 from rfl)), chk_eval (hp rest (by omega))]
  simp only [Tr.eval, List.nil_append, writeF, List.append_nil]
 ·have hroom : Vse.room (rest.length + b.length) 1 = true := by simp only [Vse.room, decide_eq_true_eq]; omega
  rw [ite_f (decide_eq_false hb), chk_eval hroom, chk_eval (hp (rest ++ b) (by rw [List.length_append]; omega))]
  simp only [Tr.eval, List.nil_append, writeF]
theorem ok20 : CSound Try.prog 125 s20 ∧ CLocal s20 :=
 pos_sound (L := LW absF) c42_sound Try.func125 (by kernel_rfl) (loops1 (by kernel_rfl) lW) fun xs hs _ _ hp => by
  obtain ⟨u, b, u'⟩ := xs
  obtain ⟨⟨s, rest, many, u1⟩, u2⟩ := hs
  exact (k20 mixF absF b s rest many).trans (G20_eq b s rest many hp)
abbrev CS : Ctx := ctx (c20 writeF writeP)
theorem c20_sound : CtxSound Try.prog CS ∧ CtxLocal CS := ctx_sound ⟨ok20, trivial⟩
def padN (n : Nat) : Nat := (64 - (n + 8) % 64) % 64
def smallI (h : Hs) (f : List Int) : Bool := decide (h.2.1.length ≤ 1000000) && decide (f.length ≤ 1000000)
def padL (h : Hs) (f : List Int) : List Int := f ++ List.replicate (padN (h.2.1.length + f.length)) 0
def FS1 (c : Hs → List Int → Bool) (P : Hs → List Int → List Int) (xs : HL SS1.Ts) (hs : HD SS1.Es) : Tr (Ex × St) :=
 .chk (c hs.1 hs.2.2.2.1) (.ret (.exit 0, encS [0, 2, 3, 4] [.ptr 0 [], .ptr 1 [], .ptr 2 [], .vc 3 1] (eS 1) 68 ((), (), (), (), ()) (hs.1, hs.2.1, hs.2.2.1, P hs.1 hs.2.2.2.1, ())))
def tailB (h : Hs) (i : Nat) : Int := wb (shrI .u64 (shlI .u64 h.2.2.1 3) (w (8 * (i : Int))))
def tail8 (h : Hs) : List Int := [tailB h 7, tailB h 6, tailB h 5, tailB h 4, tailB h 3, tailB h 2, tailB h 1, tailB h 0]
def FS2 (c : List Int → Int → Bool) (P : Hs → List Int) (xs : HL SS2.Ts) (hs : HD SS2.Es) : Tr (Ex × St) :=
 .chk (c hs.2.2.2.1 xs.2.2.2.2.1) (.ret (.exit 2, encS [0, 2, 3, 4] [.ptr 0 [], .ptr 1 [], .ptr 2 [], .vc 3 2] (eS 2) 68 ((), (), (), (), ()) (hs.1, hs.2.1, hs.2.2.1, hs.2.2.2.1 ++ P hs.1, ())))
def outB (s : List Int) (i : Nat) : Int := wb (shrI .u32 (s.getD (i / 4) 0) (8 * (3 - (i % 4 : Nat))))
def outL (s : List Int) : Nat → Nat → List Int → List Int
 | _, 0, q => q
 | i, m + 1, q => outL s (i + 1) m (q.set i (outB s i))
def outF (s q : List Int) : List Int := outL s 0 32 q
def FS3 (P : List Int → List Int → List Int) (xs : HL SS3.Ts) (hs : HD SS3.Es) : Tr (Ex × St) :=
 .chk (decide (xs.2.2.2.1 = (0 : Int))) (.ret (.exit 4, encS [2, 6] [.ptr 1 [], .ptr 4 []] [.box hT, .box d32, .dead, .dead, .box d32] 68 ((), (), ()) (hs.1, hs.2.1, P hs.2.2.1.1 hs.2.2.2.1, ())))
def LS (c1 : Hs → List Int → Bool) (P1 : Hs → List Int → List Int) (c2 : List Int → Int → Bool) (P2 : Hs → List Int) (P3 : List Int → List Int → List Int) : Loops := fun j st =>
 if j = 3 then SS1.fn (FS1 c1 P1) st else if j = 6 then SS2.fn (FS2 c2 P2) st else if j = 12 then SS3.fn (FS3 P3) st else .fail
def small2 (f : List Int) (i : Int) : Bool := decide (i = 7) && decide (f.length ≤ 10000000)
abbrev LSF : Loops := LS smallI padL small2 tail8 outF
theorem rep_snoc (n : Nat) (f : List Int) : (f ++ [0]) ++ List.replicate n 0 = f ++ List.replicate (n + 1) 0 := by
 rw [List.append_assoc]; rfl
theorem mS1 (h l : Hs) (o : List Int) (hr : h.2.1.length ≤ 1000000) : ∀ (m : Nat) (f : List Int), f.length ≤ 2000000 - m → m ≤ 64 → padN (h.2.1.length + f.length) = m →
  SS1.many (bodyK Try.prog CS L0 bS1) (m + 1) ((), (), (), (), ()) (h, o, l, f, ()) = some (.exit 0, encS [0, 2, 3, 4] [.ptr 0 [], .ptr 1 [], .ptr 2 [], .vc 3 1] (eS 1) 68 ((), (), (), (), ()) (h, o, l, f ++ List.replicate m 0, ()))
 | 0, f, hf, h64, hp => by
  refine rmany_inr ((rS1 writeF writeP h l o f).trans ?_) 0
  have e1 : w ((h.2.1.length : Int) + (f.length : Int)) = ((h.2.1.length + f.length : Nat) : Int) := (w_id (by omega) (by omega)).trans (by omega)
  have e2 : w (((h.2.1.length + f.length : Nat) : Int) + 8) = ((h.2.1.length + f.length + 8 : Nat) : Int) := (w_id (by omega) (by omega)).trans (by omega)
  have e3 : ((h.2.1.length + f.length + 8 : Nat) : Int).tmod 64 = 0 := by
   unfold padN at hp
   have : (h.2.1.length + f.length + 8) % 64 = 0 := by omega
   rw [Int.tmod_eq_emod_of_nonneg (by omega)]
   omega
  simp only [GS1, e1, e2, e3, Tr.eval, bne_self_eq_false, List.replicate_zero, List.append_nil]
 | m + 1, f, hf, h64, hp => by
  refine (rmany_inl (d := (((), (), (), (), ()), (h, o, l, f ++ [0], ()))) ((rS1 writeF writeP h l o f).trans ?_) (m + 1)).trans ((mS1 h l o hr m (f ++ [0]) (by simp; omega) (by omega) (by unfold padN at hp ⊢; simp only [List.length_append, List.length_singleton]; omega)).trans ?_)
  ·have e1 : w ((h.2.1.length : Int) + (f.length : Int)) = ((h.2.1.length + f.length : Nat) : Int) := (w_id (by omega) (by omega)).trans (by omega)
   have e2 : w (((h.2.1.length + f.length : Nat) : Int) + 8) = ((h.2.1.length + f.length + 8 : Nat) : Int) := (w_id (by omega) (by omega)).trans (by omega)
   have e3 : (((h.2.1.length + f.length + 8 : Nat) : Int).tmod 64 != 0) = true := by
    unfold padN at hp
    have : (h.2.1.length + f.length + 8) % 64 ≠ 0 := by omega
    rw [Int.tmod_eq_emod_of_nonneg (by omega), bne_iff_ne]
    omega
   have e4 : Vse.room (f.length + [(0 : Int)].length) 1 = true := by simp only [Vse.room, decide_eq_true_eq, List.length_singleton]; omega
   simp only [GS1, e1, e2, e3, e4, Tr.eval, Tr.chk]
  ·rw [rep_snoc]
theorem lS1 : LoopOK Try.prog LSF bS1 :=
 rloop_ok (L := LSF) (L' := L0) c20_sound (loopsOK_of (by kernel_rfl)) SS1 (F := FS1 smallI padL) (i := 3) (by kernel_rfl) (fun _ => rfl) fun xs hs r h => by
  obtain ⟨u1, u2, u3, u4, u5⟩ := xs
  obtain ⟨hh, o, l, f, u6⟩ := hs
  obtain ⟨h1, h2⟩ := Tr.chk_some h
  simp only [smallI, Bool.and_eq_true, decide_eq_true_eq] at h1
  obtain ⟨e1, e2⟩ := h1
  exact ⟨_, (mS1 hh l o e1 _ f (by have : padN (hh.2.1.length + List.length (α := Int) f) < 64 := Nat.mod_lt _ (by omega); omega) (by have : padN (hh.2.1.length + List.length (α := Int) f) < 64 := Nat.mod_lt _ (by omega); omega) rfl).trans (congrArg some (Tr.ret_some h2))⟩
theorem mS2 (h l : Hs) (o : List Int) : ∀ (m : Nat) (f : List Int), f.length ≤ 20000000 - m → m ≤ 8 →
  SS2.many (bodyK Try.prog CS L0 bS2) (m + 1) ((), (), (), (), ((m : Int) - 1), ()) (h, o, l, f, ()) = some (.exit 2, encS [0, 2, 3, 4] [.ptr 0 [], .ptr 1 [], .ptr 2 [], .vc 3 2] (eS 2) 68 ((), (), (), (), ()) (h, o, l, f ++ (tail8 h).drop (8 - m), ()))
 | 0, f, hf, h8 => by
  refine rmany_inr ((rS2 writeF writeP h l o f _).trans ?_) 0
  have : (tail8 h).drop (8 - 0) = [] := rfl
  rw [this, List.append_nil]
  rfl
 | m + 1, f, hf, h8 => by
  have e1 : ((m + 1 : Nat) : Int) - 1 = (m : Int) := by omega
  rw [e1]
  refine (rmany_inl (d := (((), (), (), (), (m : Int) - 1, ()), (h, o, l, f ++ [tailB h m], ()))) ((rS2 writeF writeP h l o f _).trans ?_) (m + 1)).trans ((mS2 h l o m (f ++ [tailB h m]) (by simp; omega) (by omega)).trans ?_)
  ·have e2 : decide (0 ≤ w (8 * (m : Int))) = true := decide_eq_true (by rw [w_id (by omega) (by omega)]; omega)
   have e4 : Vse.room (f.length + [(0 : Int)].length) 1 = true := by simp only [Vse.room, decide_eq_true_eq, List.length_singleton]; omega
   simp only [GS2, Tr.eval, Tr.chk, decide_eq_true (show ((m : Int) ≥ 0) by omega), e2, e4]
   rw [w_id (x := (m : Int) - 1) (by omega) (by omega)]
   rfl
  ·have : (tail8 h).drop (8 - (m + 1)) = tailB h m :: (tail8 h).drop (8 - m) := by
    match m, h8 with
    | 0, _ => rfl
    | 1, _ => rfl
    | 2, _ => rfl
    | 3, _ => rfl
    | 4, _ => rfl
    | 5, _ => rfl
    | 6, _ => rfl
    | 7, _ => rfl
   rw [this, List.append_assoc]
   rfl
theorem lS2 : LoopOK Try.prog LSF bS2 :=
 rloop_ok (L := LSF) (L' := L0) c20_sound (loopsOK_of (by kernel_rfl)) SS2 (F := FS2 small2 tail8) (i := 6) (by kernel_rfl) (fun _ => rfl) fun xs hs r h => by
  obtain ⟨u1, u2, u3, u4, i, u5⟩ := xs
  obtain ⟨hh, o, l, f, u6⟩ := hs
  obtain ⟨h1, h2⟩ := Tr.chk_some h
  simp only [small2, Bool.and_eq_true, decide_eq_true_eq] at h1
  obtain ⟨e1, e2⟩ := h1
  have e1 : i = ((8 : Nat) : Int) - 1 := e1
  subst e1
  exact ⟨_, (mS2 hh l o 8 f (by omega) (by omega)).trans (congrArg some (Tr.ret_some h2))⟩
theorem mS3 (h l : Hs) (o : List Int) : ∀ (m i : Nat) (q : List Int), i + m = 32 →
  SS3.many (bodyK Try.prog CS L0 bS3) (m + 1) ((), (), (), (i : Int), ()) (h, o, l, q, ()) = some (.exit 4, encS [2, 6] [.ptr 1 [], .ptr 4 []] [.box hT, .box d32, .dead, .dead, .box d32] 68 ((), (), ()) (h, o, outL l.1 i m q, ()))
 | 0, i, q, hi => by
  refine rmany_inr ((rS3 writeF writeP h l o q i).trans ?_) 0
  simp only [GS3, Tr.eval, decide_eq_false (show ¬ ((i : Int) < 32) by omega)]
  rfl
 | m + 1, i, q, hi => by
  refine (rmany_inl (d := (((), (), (), ((i + 1 : Nat) : Int), ()), (h, o, l, q.set i (outB l.1 i), ()))) ((rS3 writeF writeP h l o q i).trans ?_) (m + 1)).trans (mS3 h l o m (i + 1) _ (by omega))
  have d4 : ((i : Nat) : Int).tdiv 4 = ((i / 4 : Nat) : Int) := by rw [Int.tdiv_eq_ediv_of_nonneg (by omega)]; omega
  have m4 : ((i : Nat) : Int).tmod 4 = ((i % 4 : Nat) : Int) := by rw [Int.tmod_eq_emod_of_nonneg (by omega)]; omega
  have w1 : w ((i / 4 : Nat) : Int) = ((i / 4 : Nat) : Int) := w_id (by omega) (by omega)
  have w2 : w (3 - ((i % 4 : Nat) : Int)) = 3 - ((i % 4 : Nat) : Int) := w_id (by omega) (by omega)
  have w3' : w (8 * (3 - ((i % 4 : Nat) : Int))) = 8 * (3 - ((i % 4 : Nat) : Int)) := w_id (by omega) (by omega)
  have w4 : w ((i : Int) + 1) = ((i + 1 : Nat) : Int) := (w_id (by omega) (by omega)).trans (by omega)
  simp only [GS3, Tr.eval, Tr.chk, decide_eq_true (show ((i : Int) < 32) by omega), d4, m4, w1, w2, w3', w4, inArrK64 (i := ((i / 4 : Nat) : Int)) (n := 8) (by omega) (by omega) (by omega), decide_eq_true (show 0 ≤ 8 * (3 - ((i % 4 : Nat) : Int)) by omega),
   inArrK64 (i := (i : Int)) (n := 32) (by omega) (by omega) (by omega), Int.toNat_natCast]
  rfl
theorem lS3 : LoopOK Try.prog LSF bS3 :=
 rloop_ok (L := LSF) (L' := L0) c20_sound (loopsOK_of (by kernel_rfl)) SS3 (F := FS3 outF) (i := 12) (by kernel_rfl) (fun _ => rfl) fun xs hs r h => by
  obtain ⟨u1, u2, u3, i, u5⟩ := xs
  obtain ⟨hh, o, l, q, u6⟩ := hs
  obtain ⟨h1, h2⟩ := Tr.chk_some h
  have e1 : i = ((0 : Nat) : Int) := of_decide_eq_true h1
  subst e1
  exact ⟨_, (mS3 hh l o 32 0 q (by omega)).trans (congrArg some (Tr.ret_some h2))⟩
def zeros32 : List Int := [0, 0, 0, 0, 0, 0, 0, 0, 0, 0, 0, 0, 0, 0, 0, 0, 0, 0, 0, 0, 0, 0, 0, 0, 0, 0, 0, 0, 0, 0, 0, 0]
def G21 (W : Wr) (p : List Int → Hs → Bool) (c1 : Hs → List Int → Bool) (P1 : Hs → List Int → List Int) (c2 : List Int → Int → Bool) (P2 : Hs → List Int) (P3 : List Int → List Int → List Int) (h : Hs) : Tr (wS [] [d32]).Out :=
 .chk (c1 h [128]) (.chk (c2 (P1 h [128]) 7) (.chk (p (P1 h [128] ++ P2 h) (h.1, h.2.1, 0, ())) (.ret ((P3 (W (P1 h [128] ++ P2 h) (h.1, h.2.1, 0, ())).1 zeros32, ()), (h, ())))))
theorem k21 (W : Wr) (p : List Int → Hs → Bool) (c1 : Hs → List Int → Bool) (P1 : Hs → List Int → List Int) (c2 : List Int → Int → Bool) (P2 : Hs → List Int) (P3 : List Int → List Int → List Int) (h : Hs) :
  (fnP Try.prog (ctx (c20 W p)) (LS c1 P1 c2 P2 P3) (wS [] [d32]) Try.f126 ((), ()) (h, ())).eval = (G21 W p c1 P1 c2 P2 P3 h).eval := by kernel_rfl
def fillF (h : Hs) : List Int := padL h [128] ++ tail8 h
def sumH (h : Hs) : List Int := outF (writeF (fillF h) (h.1, h.2.1, 0, ())).1 zeros32
def s21 : CSpec := .pos (wS [] [d32]) (fun _ d => decide (d.1.2.1.length ≤ 1000000)) fun _ d => ((sumH d.1, ()), d)
theorem padN_lt (n : Nat) : padN n < 64 := Nat.mod_lt _ (by omega)
theorem G21_eq (h : Hs) (hr : h.2.1.length ≤ 1000000) : (G21 writeF writeP smallI padL small2 tail8 outF h).eval = some ((sumH h, ()), (h, ())) := by
 have hp := padN_lt (h.2.1.length + 1)
 have hl : (padL h [128]).length = 1 + padN (h.2.1.length + 1) := by simp [padL]; omega
 have e1 : smallI h [128] = true := by simp only [smallI, Bool.and_eq_true, decide_eq_true_eq]; exact ⟨hr, by decide⟩
 have e2 : small2 (padL h [128]) 7 = true := by simp only [small2, Bool.and_eq_true, decide_eq_true_eq, hl]; exact ⟨trivial, by omega⟩
 have e3 : writeP (padL h [128] ++ tail8 h) (h.1, h.2.1, 0, ()) = true := by
  have : (tail8 h).length = 8 := rfl
  simp only [writeP, decide_eq_true_eq, List.length_append, hl, this]; omega
 simp only [G21, Tr.chk, e1, e2, e3, Tr.eval]
 rfl
theorem ok21 : CSound Try.prog 126 s21 ∧ CLocal s21 :=
 pos_sound (L := LSF) c20_sound Try.func126 (by kernel_rfl) (fun b hb => by
  have : loopsOf (bodyOf Try.f126) = [bS1, bS2, bS3] := by kernel_rfl
  rw [this] at hb
  simp only [List.mem_cons, List.not_mem_nil, or_false] at hb
  rcases hb with rfl | rfl | rfl
  ·exact lS1
  ·exact lS2
  ·exact lS3) fun xs hs _ _ hp => by
  obtain ⟨u, u'⟩ := xs
  obtain ⟨h, u2⟩ := hs
  exact (k21 writeF writeP smallI padL small2 tail8 outF h).trans (G21_eq h (of_decide_eq_true hp))
def c16 (i : Hs) (W : Wr) (p : List Int → Hs → Bool) (q : Hs → Bool) (S : Hs → List Int) : List (Nat × CSpec) :=
 [(124, .pos nH (fun _ _ => true) fun _ _ => (((), ()), (i, ()))), (125, .pos (wS [bs] []) (fun xs d => p xs.2.1 d.1) fun xs d => ((), (W xs.2.1 d.1, ()))), (126, .pos (wS [] [d32]) (fun _ d => q d.1) fun _ d => ((S d.1, ()), d))]
def h0 : Hs := (init, [], 0, ())
def restP (h : Hs) : Bool := decide (h.2.1.length ≤ 1000000)
theorem c16_sound : CtxSound Try.prog (ctx (c16 h0 writeF writeP restP sumH)) ∧ CtxLocal (ctx (c16 h0 writeF writeP restP sumH)) := ctx_sound ⟨ok19, ok20, ok21, trivial⟩
def shaF (b : List Int) : List Int := sumH (writeF b h0)
def shaP (b : List Int) : Bool := decide (b.length ≤ 100000000000000)
def s16 : CSpec := .slp1 [bs] (fun x => shaP x.1) d32 fun x => shaF x.1
def T16 (i : Hs) (W : Wr) (p : List Int → Hs → Bool) (q : Hs → Bool) (S : Hs → List Int) (b : List Int) : Tr AV := .chk (p b i) (.chk (q (W b i)) (.ret (.v d32 (S (W b i)))))
theorem k16 (i : Hs) (W : Wr) (p : List Int → Hs → Bool) (q : Hs → Bool) (S : Hs → List Int) (b : List Int) : nrm (fnS Try.prog (ctx (c16 i W p q S)) L0 [d32] Try.f111 (mkArgs [bs] (b, ()))) = (T16 i W p q S b).eval := by kernel_rfl
theorem abs_rest (s all : List Int) : (absF s all).2.length = all.length % 64 := by
 unfold absF
 rw [absorb_rest, List.length_drop]
 omega
theorem ok16 : CSound Try.prog 111 s16 ∧ CLocal s16 :=
 slpE1 (L := L0) c16_sound Try.func111 (by kernel_rfl) (noLoopsL (by kernel_rfl)) fun xs hx hp => by
  obtain ⟨b, u⟩ := xs
  have hp : List.length (α := Int) b ≤ 100000000000000 := of_decide_eq_true hp
  have e1 : writeP b h0 = true := decide_eq_true (by show 0 + List.length (α := Int) b ≤ _; omega)
  have e2 : restP (writeF b h0) = true := decide_eq_true (by
   show (absF h0.1 (h0.2.1 ++ b)).2.length ≤ 1000000
   rw [abs_rest]
   omega)
  have e3 : (T16 h0 writeF writeP restP sumH b).eval = some (.v d32 (shaF b)) := by
   unfold T16 shaF
   rw [chk_eval e1, chk_eval e2, Tr.eval]
  exact (k16 h0 writeF writeP restP sumH b).trans e3
end Go.Proofs.Ytffdkniccaebmaa.Sha
end
section
set_option linter.unusedVariables false
set_option maxRecDepth 100000
namespace Go.Proofs.Ytffdkniccaebmaa.Sha
open Go Vse Go.Proofs Gen
abbrev ns : Ty := .imm false false u32
abbrev nt : Ty := .imm true false u32
def SR : RSpec := ⟨[0, 1, 5], 21, [u32, i64, i64], [], [], [], fun _ => ([0], [u32], [])⟩
noncomputable def bR : Code := loopAt Try.f136 0
def half1 (n : Int) : Int := w3 (n.tdiv 2)
def GR (n k i : Int) : Tr SR.End :=
 .ite (decide (i < k)) (.ite (n.tmod 2 == 1) (.ret (.inl ((w3 (half1 n + 2147483648), k, w (i + 1), ()), ()))) (.ret (.inl ((half1 n, k, w (i + 1), ()), ()))))
  (.ret (.inr (.exit 0, encS [0] [u32] [] 21 (n, ()) ())))
theorem rR (n k i : Int) : (SR.round (bodyK Try.prog (ctx []) L0 bR) (n, k, i, ()) ()).eval = (GR n k i).eval := by kernel_rfl
theorem ok52 : CSound Try.prog 137 (.sl1 [] nt fun _ => consts) ∧ CLocal (.sl1 [] nt fun _ => consts) :=
 sl_ok1 (L := L0) nil_sound Try.func137 (by kernel_rfl) (noLoopsL (by kernel_rfl)) (fun xs _ => by kernel_rfl) (fun xs _ => by kernel_rfl)
noncomputable def bF1 : Code := loopAt Try.f131 0
noncomputable def bF2 : Code := loopAt Try.f131 1
abbrev eF (k : Nat) : List ETy := [.vec k u8, .dead, .dead, .dead]
def SF1 : RSpec := ⟨[0, 3], 38, [bs, .vc 0 3], eF 3, eF 2, [], fun _ => ([0, 3], [bs, .vc 0 3], eF 3)⟩
def GF1 (b f : List Int) : Tr SF1.End :=
 .ite ((f.length : Int).tmod 64 != 56) (.chk (Vse.room (f.length + [(0 : Int)].length) 1) (.ret (.inl ((b, (), ()), (f ++ [0], ())))))
  (.ret (.inr (.exit 0, encS [0, 3] [bs, .vc 0 3] (eF 3) 38 (b, (), ()) (f, ()))))
theorem rF1 (b f : List Int) : (SF1.round (bodyK Try.prog (ctx []) L0 bF1) (b, (), ()) (f, ())).eval = (GF1 b f).eval := by kernel_rfl
def SF2 : RSpec := ⟨[3, 4, 5, 6], 38, [.vc 0 4, u64, u64, i64], eF 4, eF 3, [], fun _ => ([3], [.vc 0 4], eF 4)⟩
def GF2 (f : List Int) (n u i : Int) : Tr SF2.End :=
 .ite (decide (i < 8)) (.ite (decide (u = 0)) .fail (.chk (Vse.room (f.length + [(0 : Int)].length) 1) (.ret (.inl (((), n, wu (u.tdiv 256), w (i + 1), ()), (f ++ [wb ((wu (n.tdiv u)).tmod 256)], ()))))))
  (.ret (.inr (.exit 2, encS [3] [.vc 0 4] (eF 4) 38 ((), ()) (f, ()))))
theorem rF2 (f : List Int) (n u i : Int) : (SF2.round (bodyK Try.prog (ctx []) L0 bF2) ((), n, u, i, ()) (f, ())).eval = (GF2 f n u i).eval := by kernel_rfl
abbrev Ri := Int → Int → Int
def cB (r : Ri) (ks : List Int) : List (Nat × CSpec) := [(136, .slp1 [u32, i64] (fun x => decide (0 ≤ x.2.1) && decide (x.2.1 ≤ 32)) u32 fun x => r x.1 x.2.1), (137, .sl1 [] nt fun _ => ks)]
noncomputable def bB1 : Code := loopAt Try.f132 0
noncomputable def bB2 : Code := loopAt Try.f132 1
noncomputable def bB3 : Code := loopAt Try.f132 2
noncomputable def bB4 : Code := loopAt Try.f132 3
def SB1 : RSpec := ⟨[0, 1, 5, 6], 225, [ns, bs, .vc 0 0, i64], [.vec 0 u32], [], [.slot 5 u32], fun _ => ([0, 5], [ns, .vc 0 0], [.vec 0 u32])⟩
def num4 (b : List Int) (i : Int) : Int :=
 let g (k : Int) : Int := w3 (b.getD (w (w (4 * i) + k)).toNat 0)
 w3 (w3 (w3 (w3 (w3 (b.getD (w (4 * i)).toNat 0) * 16777216) + w3 (g 1 * 65536)) + w3 (g 2 * 256)) + g 3)
def GB1 (s b v : List Int) (i : Int) : Tr SB1.End :=
 let ix (k : Int) : Bool := inArr (w (w (4 * i) + k)) b.length
 .ite (decide (i < 16)) (.chk (inArr (w (4 * i)) b.length) (.chk (ix 1) (.chk (ix 2) (.chk (ix 3) (.chk (Vse.room (v.length + [(0 : Int)].length) 4) (.ret (.inl ((s, b, (), w (i + 1), ()), (v ++ [num4 b i], ())))))))))
  (.ret (.inr (.exit 0, encS [0, 5] [ns, .vc 0 0] [.vec 0 u32] 225 (s, (), ()) (v, ()))))
theorem rB1 (r : Ri) (ks s b v : List Int) (i : Int) : (SB1.round (bodyK Try.prog (ctx (cB r ks)) L0 bB1) (s, b, (), i, ()) (v, ())).eval = (GB1 s b v i).eval := by kernel_rfl
def SB2 : RSpec := ⟨[0, 5, 7], 225, [ns, .vc 0 1, i64], [.vec 1 u32], [.vec 0 u32], [], fun _ => ([0, 5], [ns, .vc 0 1], [.vec 1 u32])⟩
def num2 (r : Ri) (v : List Int) (i : Int) : Int :=
 let x := v.getD (w (i - 15)).toNat 0
 let y := v.getD (w (i - 2)).toNat 0
 w3 (w3 (w3 (v.getD (w (i - 16)).toNat 0 + v.getD (w (i - 7)).toNat 0) + xorI .u32 (xorI .u32 (r x 7) (r x 18)) (w3 (x.tdiv 8))) + xorI .u32 (xorI .u32 (r y 17) (r y 19)) (w3 (y.tdiv 1024)))
def GB2 (r : Ri) (s v : List Int) (i : Int) : Tr SB2.End :=
 let ix (k : Int) : Bool := inArr (w (i - k)) v.length
 .ite (decide (i < 64)) (.chk (ix 15) (.chk (ix 2) (.chk (ix 16) (.chk (ix 7) (.chk (Vse.room (v.length + [(0 : Int)].length) 4) (.ret (.inl ((s, (), w (i + 1), ()), (v ++ [num2 r v i], ())))))))))
  (.ret (.inr (.exit 2, encS [0, 5] [ns, .vc 0 1] [.vec 1 u32] 225 (s, (), ()) (v, ()))))
theorem rB2 (r : Ri) (ks s v : List Int) (i : Int) : (SB2.round (bodyK Try.prog (ctx (cB r ks)) L0 bB2) (s, (), i, ()) (v, ())).eval = (GB2 r s v i).eval := by kernel_rfl
abbrev pB3 : List Ty := [ns, .vc 0 1, .vc 1 2, nt, i64]
abbrev eB3 : List ETy := [.vec 1 u32, .vec 2 u32, .dead]
def SB3 : RSpec := ⟨[0, 5, 10, 11, 12], 225, pB3, eB3, [.vec 1 u32, .vec 1 u32, .dead], [], fun _ => ([0, 10], [ns, .vc 1 2], [.dead, .vec 2 u32, .dead])⟩
def rT (r : Ri) (l4 l5 l6 l7 k x : Int) : Int := w3 (w3 (w3 (w3 (l7 + xorI .u32 (xorI .u32 (r l4 6) (r l4 11)) (r l4 25)) + xorI .u32 (andI .u32 l4 l5) (andI .u32 (w3 (4294967295 - l4)) l6)) + k) + x)
def rU (r : Ri) (l0 l1 l2 : Int) : Int := w3 (xorI .u32 (xorI .u32 (r l0 2) (r l0 13)) (r l0 22) + xorI .u32 (xorI .u32 (andI .u32 l0 l1) (andI .u32 l0 l2)) (andI .u32 l1 l2))
def GB3 (r : Ri) (s ks v : List Int) (i l0 l1 l2 l3 l4 l5 l6 l7 : Int) : Tr SB3.End :=
 let t := rT r l4 l5 l6 l7 (ks.getD i.toNat 0) (v.getD i.toNat 0)
 .ite (decide (i < 64)) (.chk (inArr i ks.length) (.chk (inArr i v.length) (.ret (.inl ((s, (), (), ks, w (i + 1), ()), (v, [w3 (t + rU r l0 l1 l2), l0, l1, l2, w3 (l3 + t), l4, l5, l6], ()))))))
  (.ret (.inr (.exit 4, encS [0, 10] [ns, .vc 1 2] [.dead, .vec 2 u32, .dead] 225 (s, (), ()) ([l0, l1, l2, l3, l4, l5, l6, l7], ()))))
theorem rB3 (r : Ri) (ks0 s ks v : List Int) (i l0 l1 l2 l3 l4 l5 l6 l7 : Int) : (SB3.round (bodyK Try.prog (ctx (cB r ks0)) L0 bB3) (s, (), (), ks, i, ()) (v, [l0, l1, l2, l3, l4, l5, l6, l7], ())).eval = (GB3 r s ks v i l0 l1 l2 l3 l4 l5 l6 l7).eval := by kernel_rfl
def SB4 : RSpec := ⟨[0, 10, 17], 225, [ns, .vc 1 2, i64], [.dead, .vec 2 u32, .dead], [.dead, .vec 2 u32, .dead], [], fun _ => ([10], [.vc 1 2], [.dead, .vec 2 u32, .dead])⟩
def GB4 (s l : List Int) (i : Int) : Tr SB4.End :=
 .ite (decide (i < 8)) (.chk (inArr i l.length) (.chk (inArr i s.length) (.chk (inArr i l.length) (.ret (.inl ((s, (), w (i + 1), ()), (l.set i.toNat (w3 (l.getD i.toNat 0 + s.getD i.toNat 0)), ())))))))
  (.ret (.inr (.exit 6, encS [10] [.vc 1 2] [.dead, .vec 2 u32, .dead] 225 ((), ()) (l, ()))))
theorem rB4 (r : Ri) (ks0 s l : List Int) (i : Int) : (SB4.round (bodyK Try.prog (ctx (cB r ks0)) L0 bB4) (s, (), i, ()) (l, ())).eval = (GB4 s l i).eval := by kernel_rfl
abbrev Bk := List Int → List Int → List Int
def cD (f : List Int → List Int) (p : List Int → Bool) (k : Bk) : List (Nat × CSpec) := [(131, .slp1 [bs] (fun x => p x.1) bt fun x => f x.1), (132, .slp1 [ns, bs] (fun x => decide (List.length (α := Int) x.1 = 8) && decide (List.length (α := Int) x.2.1 = 64)) nt fun x => k x.1 x.2.1)]
noncomputable def bD1 : Code := loopAt Try.f129 0
noncomputable def bD2 : Code := loopAt Try.f129 1
def SD1 : RSpec := ⟨[2, 3, 4, 5], 71, [.ptr 0 [], nt, bt, i64], [.box d32, .dead], [.box d32, .vec 0 u32], [], fun _ => ([2, 3], [.ptr 0 [], nt], [.box d32, .dead])⟩
def GD1 (k : Bk) (s a o : List Int) (i : Int) : Tr SD1.End :=
 let q := (a.take (w (i + 64)).toNat).drop i.toNat
 .ite (decide (i < (a.length : Int))) (.chk (decide (0 ≤ i) && (decide (i ≤ w (i + 64)) && decide (w (i + 64) ≤ (a.length : Int)))) (.chk (decide (s.length = 8) && decide (q.length = 64)) (.ret (.inl (((), k s q, a, w (i + 64), ()), (o, ()))))))
  (.ret (.inr (.exit 0, encS [2, 3] [.ptr 0 [], nt] [.box d32, .dead] 71 ((), s, ()) (o, ()))))
theorem rD1 (f : List Int → List Int) (p : List Int → Bool) (k : Bk) (s a o : List Int) (i : Int) : (SD1.round (bodyK Try.prog (ctx (cD f p k)) L0 bD1) ((), s, a, i, ()) (o, ())).eval = (GD1 k s a o i).eval := by kernel_rfl
def SD2 : RSpec := ⟨[2, 3, 6, 7], 71, [.ptr 0 [], nt, .ptr 2 [], i64], [.box d32, .dead, .box d32], [.box d32, .dead, .box d32], [], fun _ => ([2, 6], [.ptr 0 [], .ptr 2 []], [.box d32, .dead, .box d32])⟩
def put8 (s q : List Int) (i : Int) : List Int :=
 let x := s.getD i.toNat 0
 (((q.set (w (4 * i)).toNat (wb (w3 (x.tdiv 16777216)))).set (w (w (4 * i) + 1)).toNat (wb ((w3 (x.tdiv 65536)).tmod 256))).set (w (w (4 * i) + 2)).toNat (wb ((w3 (x.tdiv 256)).tmod 256))).set (w (w (4 * i) + 3)).toNat (wb (x.tmod 256))
def GD2 (s o q : List Int) (i : Int) : Tr SD2.End :=
 let ix (k : Int) : Bool := inArrK .i64 (w (w (4 * i) + k)) 32
 .ite (decide (i < 8)) (.chk (inArr i s.length) (.chk (inArrK .i64 (w (4 * i)) 32) (.chk (inArr i s.length) (.chk (ix 1) (.chk (inArr i s.length) (.chk (ix 2) (.chk (inArr i s.length) (.chk (ix 3)
   (.ret (.inl (((), s, (), w (i + 1), ()), (o, put8 s q i, ()))))))))))))
  (.ret (.inr (.exit 2, encS [2, 6] [.ptr 0 [], .ptr 2 []] [.box d32, .dead, .box d32] 71 ((), (), ()) (o, q, ()))))
theorem rD2 (f : List Int → List Int) (p : List Int → Bool) (k : Bk) (s o q : List Int) (i : Int) : (SD2.round (bodyK Try.prog (ctx (cD f p k)) L0 bD2) ((), s, (), i, ()) (o, q, ())).eval = (GD2 s o q i).eval := by kernel_rfl
end Go.Proofs.Ytffdkniccaebmaa.Sha
end
section
set_option linter.unusedVariables false
set_option maxRecDepth 100000
namespace Go.Proofs.Ytffdkniccaebmaa.Sha
open Go Vse Go.Proofs Gen
def step1 (n : Int) : Int := if n.tmod 2 = 1 then w3 (half1 n + 2147483648) else half1 n
def rightN : Nat → Int → Int
 | 0, n => n
 | m + 1, n => rightN m (step1 n)
def rightF (n k : Int) : Int := rightN k.toNat n
def cR (k i : Int) : Bool := decide (i = 0) && (decide (0 ≤ k) && decide (k ≤ 32))
def FR (c : Int → Int → Bool) (R : Int → Int → Int) (xs : HL SR.Ts) (hs : HD SR.Es) : Tr (Ex × St) := .chk (c xs.2.1 xs.2.2.1) (.ret (.exit 0, encS [0] [u32] [] 21 (R xs.1 xs.2.1, ()) ()))
def LR (c : Int → Int → Bool) (R : Int → Int → Int) : Loops := fun j st => if j = 2 then SR.fn (FR c R) st else .fail
theorem mR (k : Int) (hk : k ≤ 32) : ∀ (m i : Nat) (n : Int), (i : Int) + m = k → SR.many (bodyK Try.prog (ctx []) L0 bR) (m + 1) (n, k, (i : Int), ()) () = some (.exit 0, encS [0] [u32] [] 21 (rightN m n, ()) ())
 | 0, i, n, h => by
  refine rmany_inr ((rR n k i).trans ?_) 0
  simp only [GR, Tr.eval, decide_eq_false (show ¬ ((i : Int) < k) by omega)]
  rfl
 | m + 1, i, n, h => by
  refine (rmany_inl (d := ((step1 n, k, ((i + 1 : Nat) : Int), ()), ())) ((rR n k i).trans ?_) (m + 1)).trans (mR k hk m (i + 1) _ (by omega))
  have w0 : w ((i : Int) + 1) = ((i + 1 : Nat) : Int) := (w_id (by omega) (by omega)).trans (by omega)
  simp only [GR, Tr.eval, decide_eq_true (show ((i : Int) < k) by omega), w0, step1]
  by_cases hn : n.tmod 2 = 1
  ·have : (n.tmod 2 == 1) = true := by simp [hn]
   rw [this, if_pos hn]
  ·have : (n.tmod 2 == 1) = false := by simp [hn]
   rw [this, if_neg hn]
theorem lR : LoopOK Try.prog (LR cR rightF) bR :=
 rloop_ok (L := LR cR rightF) (L' := L0) nil_sound (loopsOK_of (by kernel_rfl)) SR (F := FR cR rightF) (i := 2) (by kernel_rfl) (fun _ => rfl) fun xs hs r h => by
  obtain ⟨n, k, i, u⟩ := xs
  obtain ⟨h1, h2⟩ := Tr.chk_some h
  simp only [cR, Bool.and_eq_true, decide_eq_true_eq] at h1
  obtain ⟨e1, e2, e3⟩ := h1
  have e1 : i = ((0 : Nat) : Int) := e1
  subst e1
  exact ⟨_, (mR k e3 k.toNat 0 n (by show ((0 : Nat) : Int) + (k.toNat : Int) = k; omega)).trans (congrArg some (Tr.ret_some h2))⟩
def s51 : CSpec := .slp1 [u32, i64] (fun x => decide (0 ≤ x.2.1) && decide (x.2.1 ≤ 32)) u32 fun x => rightF x.1 x.2.1
theorem k51 (c : Int → Int → Bool) (R : Int → Int → Int) (n k : Int) : nrm (fnS Try.prog (ctx []) (LR c R) [u32] Try.f136 (mkArgs [u32, i64] (n, k, ()))) = (Tr.chk (c k 0) (.ret (.v u32 (R n k)))).eval := by kernel_rfl
theorem ok51 : CSound Try.prog 136 s51 ∧ CLocal s51 :=
 slpE1 (L := LR cR rightF) nil_sound Try.func136 (by kernel_rfl) (loops1 (by kernel_rfl) lR) fun xs hx hp => by
  obtain ⟨n, k, u⟩ := xs
  have hp : (decide (0 ≤ k) && decide (k ≤ 32)) = true := hp
  have e := (k51 cR rightF n k).trans (chk_eval (by simp only [cR, hp]; rfl) _)
  exact e
def padM (n : Nat) : Nat := (56 + 64 - n % 64) % 64
def smallF (f : List Int) : Bool := decide (f.length ≤ 100000000000)
def padR (f : List Int) : List Int := f ++ List.replicate (padM f.length) 0
def FF1 (c : List Int → Bool) (P : List Int → List Int) (xs : HL SF1.Ts) (hs : HD SF1.Es) : Tr (Ex × St) :=
 .chk (c hs.1) (.ret (.exit 0, encS [0, 3] [bs, .vc 0 3] (eF 3) 38 (xs.1, (), ()) (P hs.1, ())))
def unit1 (m : Nat) : Int := 256 ^ m
def unitP : Nat → Int
 | 0 => 0
 | k + 1 => unit1 k
def tailR (n : Int) : Nat → List Int
 | 0 => []
 | m + 1 => wb ((wu (n.tdiv (unit1 m))).tmod 256) :: tailR n m
def cF2 (f : List Int) (u i : Int) : Bool := decide (i = 0) && (decide (u = 72057594037927936) && decide (f.length ≤ 1000000000000))
def FF2 (c : List Int → Int → Int → Bool) (T : Int → List Int) (xs : HL SF2.Ts) (hs : HD SF2.Es) : Tr (Ex × St) :=
 .chk (c hs.1 xs.2.2.1 xs.2.2.2.1) (.ret (.exit 2, encS [3] [.vc 0 4] (eF 4) 38 ((), ()) (hs.1 ++ T xs.2.1, ())))
def tailF (n : Int) : List Int := tailR n 8
def LF (c1 : List Int → Bool) (P : List Int → List Int) (c2 : List Int → Int → Int → Bool) (T : Int → List Int) : Loops := fun j st => if j = 2 then SF1.fn (FF1 c1 P) st else if j = 7 then SF2.fn (FF2 c2 T) st else .fail
abbrev LFF : Loops := LF smallF padR cF2 tailF
theorem mF1 (b : List Int) : ∀ (m : Nat) (f : List Int), f.length ≤ 200000000000 - m → m ≤ 64 → padM f.length = m →
  SF1.many (bodyK Try.prog (ctx []) L0 bF1) (m + 1) (b, (), ()) (f, ()) = some (.exit 0, encS [0, 3] [bs, .vc 0 3] (eF 3) 38 (b, (), ()) (f ++ List.replicate m 0, ()))
 | 0, f, hf, h64, hp => by
  refine rmany_inr ((rF1 b f).trans ?_) 0
  have e3 : ((f.length : Int).tmod 64 != 56) = false := by
   unfold padM at hp
   rw [Int.tmod_eq_emod_of_nonneg (by omega)]
   have : f.length % 64 = 56 := by omega
   simp; omega
  simp only [GF1, e3, Tr.eval, List.replicate_zero, List.append_nil]
 | m + 1, f, hf, h64, hp => by
  refine (rmany_inl (d := ((b, (), ()), (f ++ [0], ()))) ((rF1 b f).trans ?_) (m + 1)).trans ((mF1 b m (f ++ [0]) (by simp; omega) (by omega) (by unfold padM at hp ⊢; simp only [List.length_append, List.length_singleton]; omega)).trans ?_)
  ·have e3 : ((f.length : Int).tmod 64 != 56) = true := by
    unfold padM at hp
    rw [Int.tmod_eq_emod_of_nonneg (by omega), bne_iff_ne]
    have : f.length % 64 ≠ 56 := by omega
    omega
   have e4 : Vse.room (f.length + [(0 : Int)].length) 1 = true := by simp only [Vse.room, decide_eq_true_eq, List.length_singleton]; omega
   simp only [GF1, e3, e4, Tr.eval, Tr.chk]
  ·rw [rep_snoc]
theorem padM_lt (n : Nat) : padM n < 64 := Nat.mod_lt _ (by omega)
theorem lF1 : LoopOK Try.prog LFF bF1 :=
 rloop_ok (L := LFF) (L' := L0) nil_sound (loopsOK_of (by kernel_rfl)) SF1 (F := FF1 smallF padR) (i := 2) (by kernel_rfl) (fun _ => rfl) fun xs hs r h => by
  obtain ⟨b, u1, u2⟩ := xs
  obtain ⟨f, u3⟩ := hs
  obtain ⟨h1, h2⟩ := Tr.chk_some h
  have h1 : List.length (α := Int) f ≤ 100000000000 := of_decide_eq_true h1
  have hp := padM_lt (List.length (α := Int) f)
  exact ⟨_, (mF1 b _ f (by omega) (by omega) rfl).trans (congrArg some (Tr.ret_some h2))⟩
theorem mF2 (n : Int) : ∀ (m : Nat) (f : List Int), f.length ≤ 2000000000000 - m → m ≤ 8 →
  SF2.many (bodyK Try.prog (ctx []) L0 bF2) (m + 1) ((), n, unitP m, (8 : Int) - m, ()) (f, ()) = some (.exit 2, encS [3] [.vc 0 4] (eF 4) 38 ((), ()) (f ++ tailR n m, ()))
 | 0, f, hf, h8 => by
  refine rmany_inr ((rF2 f n _ _).trans ?_) 0
  simp only [GF2, Tr.eval, decide_eq_false (show ¬ ((8 : Int) - ((0 : Nat) : Int) < 8) by omega), tailR, List.append_nil]
 | m + 1, f, hf, h8 => by
  refine (rmany_inl (d := (((), n, unitP m, (8 : Int) - m, ()), (f ++ [wb ((wu (n.tdiv (unit1 m))).tmod 256)], ()))) ((rF2 f n _ _).trans ?_) (m + 1)).trans ((mF2 n m _ (by simp; omega) (by omega)).trans ?_)
  ·have e4 : Vse.room (f.length + [(0 : Int)].length) 1 = true := by simp only [Vse.room, decide_eq_true_eq, List.length_singleton]; omega
   have hu : decide (unit1 m = 0) = false := by
    match m, h8 with
    | 0, _ => rfl
    | 1, _ => rfl
    | 2, _ => rfl
    | 3, _ => rfl
    | 4, _ => rfl
    | 5, _ => rfl
    | 6, _ => rfl
    | 7, _ => rfl
   have hn : wu ((unit1 m).tdiv 256) = unitP m := by
    match m, h8 with
    | 0, _ => decide
    | 1, _ => decide
    | 2, _ => decide
    | 3, _ => decide
    | 4, _ => decide
    | 5, _ => decide
    | 6, _ => decide
    | 7, _ => decide
   have hw : w ((8 : Int) - ((m + 1 : Nat) : Int) + 1) = (8 : Int) - m := by rw [w_id (by omega) (by omega)]; omega
   simp only [GF2, Tr.eval, Tr.chk, decide_eq_true (show ((8 : Int) - ((m + 1 : Nat) : Int) < 8) by omega), show unitP (m + 1) = unit1 m from rfl, hu, e4, hw, hn]
  ·simp only [tailR, List.append_assoc, List.singleton_append]
theorem lF2 : LoopOK Try.prog LFF bF2 :=
 rloop_ok (L := LFF) (L' := L0) nil_sound (loopsOK_of (by kernel_rfl)) SF2 (F := FF2 cF2 tailF) (i := 7) (by kernel_rfl) (fun _ => rfl) fun xs hs r h => by
  obtain ⟨u1, n, u, i, u2⟩ := xs
  obtain ⟨f, u3⟩ := hs
  obtain ⟨h1, h2⟩ := Tr.chk_some h
  simp only [cF2, Bool.and_eq_true, decide_eq_true_eq] at h1
  obtain ⟨e1, e2, e3⟩ := h1
  have e1 : i = (8 : Int) - ((8 : Nat) : Int) := e1
  have e2 : u = unit1 7 := e2
  subst e1; subst e2
  exact ⟨_, (mF2 n 8 f (by omega) (by omega)).trans (congrArg some (Tr.ret_some h2))⟩
def filledF (b : List Int) : List Int := padR (b ++ [128]) ++ tailF (wu (w (8 * (b.length : Int))))
def filledP (b : List Int) : Bool := decide (b.length ≤ 10000000000)
def T40 (c1 : List Int → Bool) (P : List Int → List Int) (c2 : List Int → Int → Int → Bool) (T : Int → List Int) (b : List Int) : Tr AV :=
 .chk (Vse.room (([] : List Int).length + b.length) 1) (.chk (Vse.room (([] ++ b).length + [(128 : Int)].length) 1) (.chk (c1 (([] ++ b) ++ [128])) (.chk (c2 (P (([] ++ b) ++ [128])) 72057594037927936 0) (.ret (.v bt (P (([] ++ b) ++ [128]) ++ T (wu (w (8 * (b.length : Int))))))))))
theorem k40 (c1 : List Int → Bool) (P : List Int → List Int) (c2 : List Int → Int → Int → Bool) (T : Int → List Int) (b : List Int) :
  nrm (fnS Try.prog (ctx []) (LF c1 P c2 T) [bt] Try.f131 (mkArgs [bs] (b, ()))) = (T40 c1 P c2 T b).eval := by kernel_rfl
def s40 : CSpec := .slp1 [bs] (fun x => filledP x.1) bt fun x => filledF x.1
theorem ok40 : CSound Try.prog 131 s40 ∧ CLocal s40 :=
 slpE1 (L := LFF) nil_sound Try.func131 (by kernel_rfl) (loops2 (by kernel_rfl) lF1 lF2) fun xs hx hp => by
  obtain ⟨b, u⟩ := xs
  have hp : List.length (α := Int) b ≤ 10000000000 := of_decide_eq_true hp
  have hm := padM_lt (List.length (α := Int) b + 1)
  have e1 : Vse.room (([] : List Int).length + List.length (α := Int) b) 1 = true := by simp only [Vse.room, decide_eq_true_eq, List.length_nil]; omega
  have e2 : Vse.room (([] ++ b : List Int).length + [(128 : Int)].length) 1 = true := by simp only [Vse.room, decide_eq_true_eq, List.nil_append, List.length_singleton]; omega
  have e3 : smallF (([] ++ b) ++ [128]) = true := by simp only [smallF, decide_eq_true_eq, List.nil_append, List.length_append, List.length_singleton]; omega
  have e4 : cF2 (padR (([] ++ b) ++ [128])) 72057594037927936 0 = true := by
   simp only [cF2, padR, List.nil_append, List.length_append, List.length_singleton, List.length_replicate, Bool.and_eq_true, decide_eq_true_eq, true_and]; omega
  have e5 : (T40 smallF padR cF2 tailF b).eval = some (.v bt (filledF b)) := by
   unfold T40 filledF
   rw [chk_eval e1, chk_eval e2, chk_eval e3, chk_eval e4, List.nil_append]
   rfl
  have e6 := (k40 smallF padR cF2 tailF b).trans e5
  exact e6
abbrev CB : Ctx := ctx (cB rightF consts)
theorem cB_sound : CtxSound Try.prog CB ∧ CtxLocal CB := ctx_sound ⟨ok51, ok52, trivial⟩
def sch1 (b : List Int) : Nat → Nat → List Int → List Int
 | _, 0, v => v
 | i, m + 1, v => sch1 b (i + 1) m (v ++ [num4 b i])
def sch2 (r : Ri) : Nat → Nat → List Int → List Int
 | _, 0, v => v
 | i, m + 1, v => sch2 r (i + 1) m (v ++ [num2 r v i])
def cB1 (b v : List Int) (i : Int) : Bool := decide (i = 0) && (decide (v.length = 0) && decide (b.length = 64))
def FB1 (c : List Int → List Int → Int → Bool) (S : List Int → List Int) (xs : HL SB1.Ts) (hs : HD SB1.Es) : Tr (Ex × St) :=
 .chk (c xs.2.1 hs.1 xs.2.2.2.1) (.ret (.exit 0, encS [0, 5] [ns, .vc 0 0] [.vec 0 u32] 225 (xs.1, (), ()) (S xs.2.1, ())))
def cB2 (v : List Int) (i : Int) : Bool := decide (i = 16) && decide (v.length = 16)
def FB2 (c : List Int → Int → Bool) (S : List Int → List Int) (xs : HL SB2.Ts) (hs : HD SB2.Es) : Tr (Ex × St) :=
 .chk (c hs.1 xs.2.2.1) (.ret (.exit 2, encS [0, 5] [ns, .vc 0 1] [.vec 1 u32] 225 (xs.1, (), ()) (S hs.1, ())))
def roundR (r : Ri) (l : List Int) (k x : Int) : List Int :=
 let t := rT r (l.getD 4 0) (l.getD 5 0) (l.getD 6 0) (l.getD 7 0) k x
 [w3 (t + rU r (l.getD 0 0) (l.getD 1 0) (l.getD 2 0)), l.getD 0 0, l.getD 1 0, l.getD 2 0, w3 (l.getD 3 0 + t), l.getD 4 0, l.getD 5 0, l.getD 6 0]
def rndsR (r : Ri) (ks v : List Int) : Nat → Nat → List Int → List Int
 | _, 0, l => l
 | i, m + 1, l => rndsR r ks v (i + 1) m (roundR r l (ks.getD i 0) (v.getD i 0))
def cB3 (ks v l : List Int) (i : Int) : Bool := decide (i = 0) && (decide (ks.length = 64) && (decide (v.length = 64) && decide (l.length = 8)))
def FB3 (c : List Int → List Int → List Int → Int → Bool) (S : List Int → List Int → List Int → List Int) (xs : HL SB3.Ts) (hs : HD SB3.Es) : Tr (Ex × St) :=
 .chk (c xs.2.2.2.1 hs.1 hs.2.1 xs.2.2.2.2.1) (.ret (.exit 4, encS [0, 10] [ns, .vc 1 2] [.dead, .vec 2 u32, .dead] 225 (xs.1, (), ()) (S xs.2.2.2.1 hs.1 hs.2.1, ())))
def addR (s : List Int) : Nat → Nat → List Int → List Int
 | _, 0, l => l
 | i, m + 1, l => addR s (i + 1) m (l.set i (w3 (l.getD i 0 + s.getD i 0)))
def cB4 (s l : List Int) (i : Int) : Bool := decide (i = 0) && (decide (s.length = 8) && decide (l.length = 8))
def FB4 (c : List Int → List Int → Int → Bool) (S : List Int → List Int → List Int) (xs : HL SB4.Ts) (hs : HD SB4.Es) : Tr (Ex × St) :=
 .chk (c xs.1 hs.1 xs.2.2.1) (.ret (.exit 6, encS [10] [.vc 1 2] [.dead, .vec 2 u32, .dead] 225 ((), ()) (S xs.1 hs.1, ())))
def LB (c1 : List Int → List Int → Int → Bool) (S1 : List Int → List Int) (c2 : List Int → Int → Bool) (S2 : List Int → List Int) (c3 : List Int → List Int → List Int → Int → Bool) (S3 : List Int → List Int → List Int → List Int) (c4 : List Int → List Int → Int → Bool) (S4 : List Int → List Int → List Int) : Loops := fun j st =>
 if j = 3 then SB1.fn (FB1 c1 S1) st else if j = 7 then SB2.fn (FB2 c2 S2) st else if j = 15 then SB3.fn (FB3 c3 S3) st else if j = 23 then SB4.fn (FB4 c4 S4) st else .fail
def sch1F (b : List Int) : List Int := sch1 b 0 16 []
def sch2F (v : List Int) : List Int := sch2 rightF 16 48 v
def rndsF (ks v l : List Int) : List Int := rndsR rightF ks v 0 64 l
def addRF (s l : List Int) : List Int := addR s 0 8 l
abbrev LBF : Loops := LB cB1 sch1F cB2 sch2F cB3 rndsF cB4 addRF
theorem inArr_nat {k n : Nat} (h : k < n) : inArr (k : Int) n = true := by simp only [inArr, Bool.and_eq_true, decide_eq_true_eq]; omega
theorem room_small {n k : Nat} (h : n ≤ 1000000) (hk : k ≤ 4) : Vse.room n k = true := by
 simp only [Vse.room, decide_eq_true_eq]
 have : n * k ≤ 1000000 * 4 := Nat.mul_le_mul h hk
 omega
theorem mB1 (s b : List Int) (hb : b.length = 64) : ∀ (m i : Nat) (v : List Int), i + m = 16 → v.length = i →
  SB1.many (bodyK Try.prog CB L0 bB1) (m + 1) (s, b, (), (i : Int), ()) (v, ()) = some (.exit 0, encS [0, 5] [ns, .vc 0 0] [.vec 0 u32] 225 (s, (), ()) (sch1 b i m v, ()))
 | 0, i, v, h, hv => by
  refine rmany_inr ((rB1 rightF consts s b v i).trans ?_) 0
  simp only [GB1, Tr.eval, decide_eq_false (show ¬ ((i : Int) < 16) by omega)]
  rfl
 | m + 1, i, v, h, hv => by
  refine (rmany_inl (d := ((s, b, (), ((i + 1 : Nat) : Int), ()), (v ++ [num4 b i], ()))) ((rB1 rightF consts s b v i).trans ?_) (m + 1)).trans (mB1 s b hb m (i + 1) _ (by omega) (by simp [hv]))
  have w0 : w ((i : Int) + 1) = ((i + 1 : Nat) : Int) := (w_id (by omega) (by omega)).trans (by omega)
  have w1 : w (4 * (i : Int)) = ((4 * i : Nat) : Int) := (w_id (by omega) (by omega)).trans (by omega)
  have w2 : w (((4 * i : Nat) : Int) + 1) = ((4 * i + 1 : Nat) : Int) := (w_id (by omega) (by omega)).trans (by omega)
  have w3' : w (((4 * i : Nat) : Int) + 2) = ((4 * i + 2 : Nat) : Int) := (w_id (by omega) (by omega)).trans (by omega)
  have w4 : w (((4 * i : Nat) : Int) + 3) = ((4 * i + 3 : Nat) : Int) := (w_id (by omega) (by omega)).trans (by omega)
  have hr : Vse.room (v.length + [(0 : Int)].length) 4 = true := room_small (by simp only [List.length_singleton]; omega) (by omega)
  simp only [GB1, Tr.eval, Tr.chk, decide_eq_true (show ((i : Int) < 16) by omega), w0, w1, w2, w3', w4, inArr_nat (k := 4 * i) (n := b.length) (by omega), inArr_nat (k := 4 * i + 1) (n := b.length) (by omega), inArr_nat (k := 4 * i + 2) (n := b.length) (by omega), inArr_nat (k := 4 * i + 3) (n := b.length) (by omega), hr]
theorem lB1 : LoopOK Try.prog LBF bB1 :=
 rloop_ok (L := LBF) (L' := L0) cB_sound (loopsOK_of (by kernel_rfl)) SB1 (F := FB1 cB1 sch1F) (i := 3) (by kernel_rfl) (fun _ => rfl) fun xs hs r h => by
  obtain ⟨s, b, u1, i, u2⟩ := xs
  obtain ⟨v, u3⟩ := hs
  obtain ⟨h1, h2⟩ := Tr.chk_some h
  simp only [cB1, Bool.and_eq_true, decide_eq_true_eq] at h1
  obtain ⟨e1, e2, e3⟩ := h1
  have e1 : i = ((0 : Nat) : Int) := e1
  have e2 : v = [] := List.eq_nil_of_length_eq_zero e2
  subst e1; subst e2
  exact ⟨_, (mB1 s b e3 16 0 [] (by omega) rfl).trans (congrArg some (Tr.ret_some h2))⟩
theorem mB2 (s : List Int) : ∀ (m i : Nat) (v : List Int), i + m = 64 → v.length = i → 16 ≤ i →
  SB2.many (bodyK Try.prog CB L0 bB2) (m + 1) (s, (), (i : Int), ()) (v, ()) = some (.exit 2, encS [0, 5] [ns, .vc 0 1] [.vec 1 u32] 225 (s, (), ()) (sch2 rightF i m v, ()))
 | 0, i, v, h, hv, h16 => by
  refine rmany_inr ((rB2 rightF consts s v i).trans ?_) 0
  simp only [GB2, Tr.eval, decide_eq_false (show ¬ ((i : Int) < 64) by omega)]
  rfl
 | m + 1, i, v, h, hv, h16 => by
  refine (rmany_inl (d := ((s, (), ((i + 1 : Nat) : Int), ()), (v ++ [num2 rightF v i], ()))) ((rB2 rightF consts s v i).trans ?_) (m + 1)).trans (mB2 s m (i + 1) _ (by omega) (by simp [hv]) (by omega))
  have w0 : w ((i : Int) + 1) = ((i + 1 : Nat) : Int) := (w_id (by omega) (by omega)).trans (by omega)
  have j1 : w ((i : Int) - 15) = ((i - 15 : Nat) : Int) := (w_id (by omega) (by omega)).trans (by omega)
  have j2 : w ((i : Int) - 2) = ((i - 2 : Nat) : Int) := (w_id (by omega) (by omega)).trans (by omega)
  have j3 : w ((i : Int) - 16) = ((i - 16 : Nat) : Int) := (w_id (by omega) (by omega)).trans (by omega)
  have j4 : w ((i : Int) - 7) = ((i - 7 : Nat) : Int) := (w_id (by omega) (by omega)).trans (by omega)
  have hr : Vse.room (v.length + [(0 : Int)].length) 4 = true := room_small (by simp only [List.length_singleton]; omega) (by omega)
  simp only [GB2, Tr.eval, Tr.chk, decide_eq_true (show ((i : Int) < 64) by omega), w0, j1, j2, j3, j4, inArr_nat (k := i - 15) (n := v.length) (by omega), inArr_nat (k := i - 2) (n := v.length) (by omega), inArr_nat (k := i - 16) (n := v.length) (by omega), inArr_nat (k := i - 7) (n := v.length) (by omega), hr]
theorem lB2 : LoopOK Try.prog LBF bB2 :=
 rloop_ok (L := LBF) (L' := L0) cB_sound (loopsOK_of (by kernel_rfl)) SB2 (F := FB2 cB2 sch2F) (i := 7) (by kernel_rfl) (fun _ => rfl) fun xs hs r h => by
  obtain ⟨s, u1, i, u2⟩ := xs
  obtain ⟨v, u3⟩ := hs
  obtain ⟨h1, h2⟩ := Tr.chk_some h
  simp only [cB2, Bool.and_eq_true, decide_eq_true_eq] at h1
  obtain ⟨e1, e2⟩ := h1
  have e1 : i = ((16 : Nat) : Int) := e1
  subst e1
  exact ⟨_, (mB2 s 48 16 v (by omega) e2 (by omega)).trans (congrArg some (Tr.ret_some h2))⟩
theorem eight {l : List Int} (h : l.length = 8) : ∃ l0 l1 l2 l3 l4 l5 l6 l7, l = [l0, l1, l2, l3, l4, l5, l6, l7] := by
 match l, h with
 | [l0, l1, l2, l3, l4, l5, l6, l7], _ => exact ⟨_, _, _, _, _, _, _, _, rfl⟩
theorem mB3 (s ks v : List Int) (hk : ks.length = 64) (hv : v.length = 64) : ∀ (m i : Nat) (l : List Int), i + m = 64 → l.length = 8 →
  SB3.many (bodyK Try.prog CB L0 bB3) (m + 1) (s, (), (), ks, (i : Int), ()) (v, l, ()) = some (.exit 4, encS [0, 10] [ns, .vc 1 2] [.dead, .vec 2 u32, .dead] 225 (s, (), ()) (rndsR rightF ks v i m l, ()))
 | 0, i, l, h, hl => by
  obtain ⟨l0, l1, l2, l3, l4, l5, l6, l7, rfl⟩ := eight hl
  refine rmany_inr ((rB3 rightF consts s ks v i l0 l1 l2 l3 l4 l5 l6 l7).trans ?_) 0
  simp only [GB3, Tr.eval, decide_eq_false (show ¬ ((i : Int) < 64) by omega)]
  rfl
 | m + 1, i, l, h, hl => by
  obtain ⟨l0, l1, l2, l3, l4, l5, l6, l7, rfl⟩ := eight hl
  refine (rmany_inl (d := ((s, (), (), ks, ((i + 1 : Nat) : Int), ()), (v, roundR rightF [l0, l1, l2, l3, l4, l5, l6, l7] (ks.getD i 0) (v.getD i 0), ()))) ((rB3 rightF consts s ks v i l0 l1 l2 l3 l4 l5 l6 l7).trans ?_) (m + 1)).trans (mB3 s ks v hk hv m (i + 1) _ (by omega) rfl)
  have w0 : w ((i : Int) + 1) = ((i + 1 : Nat) : Int) := (w_id (by omega) (by omega)).trans (by omega)
  simp only [GB3, Tr.eval, Tr.chk, decide_eq_true (show ((i : Int) < 64) by omega), w0, inArr_nat (k := i) (n := ks.length) (by omega), inArr_nat (k := i) (n := v.length) (by omega), Int.toNat_natCast]
  rfl
theorem lB3 : LoopOK Try.prog LBF bB3 :=
 rloop_ok (L := LBF) (L' := L0) cB_sound (loopsOK_of (by kernel_rfl)) SB3 (F := FB3 cB3 rndsF) (i := 15) (by kernel_rfl) (fun _ => rfl) fun xs hs r h => by
  obtain ⟨s, u1, u2, ks, i, u3⟩ := xs
  obtain ⟨v, l, u4⟩ := hs
  obtain ⟨h1, h2⟩ := Tr.chk_some h
  simp only [cB3, Bool.and_eq_true, decide_eq_true_eq] at h1
  obtain ⟨e1, e2, e3, e4⟩ := h1
  have e1 : i = ((0 : Nat) : Int) := e1
  subst e1
  exact ⟨_, (mB3 s ks v e2 e3 64 0 l (by omega) e4).trans (congrArg some (Tr.ret_some h2))⟩
theorem mB4 (s : List Int) (hs : s.length = 8) : ∀ (m i : Nat) (l : List Int), i + m = 8 → l.length = 8 →
  SB4.many (bodyK Try.prog CB L0 bB4) (m + 1) (s, (), (i : Int), ()) (l, ()) = some (.exit 6, encS [10] [.vc 1 2] [.dead, .vec 2 u32, .dead] 225 ((), ()) (addR s i m l, ()))
 | 0, i, l, h, hl => by
  refine rmany_inr ((rB4 rightF consts s l i).trans ?_) 0
  simp only [GB4, Tr.eval, decide_eq_false (show ¬ ((i : Int) < 8) by omega)]
  rfl
 | m + 1, i, l, h, hl => by
  refine (rmany_inl (d := ((s, (), ((i + 1 : Nat) : Int), ()), (l.set i (w3 (l.getD i 0 + s.getD i 0)), ()))) ((rB4 rightF consts s l i).trans ?_) (m + 1)).trans (mB4 s hs m (i + 1) _ (by omega) (by simp [hl]))
  have w0 : w ((i : Int) + 1) = ((i + 1 : Nat) : Int) := (w_id (by omega) (by omega)).trans (by omega)
  simp only [GB4, Tr.eval, Tr.chk, decide_eq_true (show ((i : Int) < 8) by omega), w0, inArr_nat (k := i) (n := s.length) (by omega), inArr_nat (k := i) (n := l.length) (by omega), Int.toNat_natCast]
theorem lB4 : LoopOK Try.prog LBF bB4 :=
 rloop_ok (L := LBF) (L' := L0) cB_sound (loopsOK_of (by kernel_rfl)) SB4 (F := FB4 cB4 addRF) (i := 23) (by kernel_rfl) (fun _ => rfl) fun xs hs r h => by
  obtain ⟨s, u1, i, u3⟩ := xs
  obtain ⟨l, u4⟩ := hs
  obtain ⟨h1, h2⟩ := Tr.chk_some h
  simp only [cB4, Bool.and_eq_true, decide_eq_true_eq] at h1
  obtain ⟨e1, e2, e3⟩ := h1
  have e1 : i = ((0 : Nat) : Int) := e1
  subst e1
  exact ⟨_, (mB4 s e2 8 0 l (by omega) e3).trans (congrArg some (Tr.ret_some h2))⟩
def blockF (s b : List Int) : List Int := addRF s (rndsF consts (sch2F (sch1F b)) s)
def T41 (ks : List Int) (c1 : List Int → List Int → Int → Bool) (S1 : List Int → List Int) (c2 : List Int → Int → Bool) (S2 : List Int → List Int) (c3 : List Int → List Int → List Int → Int → Bool) (S3 : List Int → List Int → List Int → List Int) (c4 : List Int → List Int → Int → Bool) (S4 : List Int → List Int → List Int) (s b : List Int) : Tr AV :=
 .chk (c1 b [] 0) (.chk (c2 (S1 b) 16) (.chk (Vse.room (([] : List Int).length + s.length) 4) (.chk (c3 ks (S2 (S1 b)) ([] ++ s) 0) (.chk (c4 s (S3 ks (S2 (S1 b)) ([] ++ s)) 0) (.ret (.v nt (S4 s (S3 ks (S2 (S1 b)) ([] ++ s)))))))))
theorem k41 (r : Ri) (ks : List Int) (c1 : List Int → List Int → Int → Bool) (S1 : List Int → List Int) (c2 : List Int → Int → Bool) (S2 : List Int → List Int) (c3 : List Int → List Int → List Int → Int → Bool) (S3 : List Int → List Int → List Int → List Int) (c4 : List Int → List Int → Int → Bool) (S4 : List Int → List Int → List Int) (s b : List Int) :
  nrm (fnS Try.prog (ctx (cB r ks)) (LB c1 S1 c2 S2 c3 S3 c4 S4) [nt] Try.f132 (mkArgs [ns, bs] (s, b, ()))) = (T41 ks c1 S1 c2 S2 c3 S3 c4 S4 s b).eval := by kernel_rfl
theorem sch1_len (b : List Int) : ∀ (m i : Nat) (v : List Int), (sch1 b i m v).length = v.length + m
 | 0, i, v => rfl
 | m + 1, i, v => by rw [sch1, sch1_len b m]; simp; omega
theorem sch2_len (r : Ri) : ∀ (m i : Nat) (v : List Int), (sch2 r i m v).length = v.length + m
 | 0, i, v => rfl
 | m + 1, i, v => by rw [sch2, sch2_len r m]; simp; omega
theorem rndsR_len (r : Ri) (ks v : List Int) : ∀ (m i : Nat) (l : List Int), l.length = 8 → (rndsR r ks v i m l).length = 8
 | 0, i, l, h => h
 | m + 1, i, l, h => by rw [rndsR]; exact rndsR_len r ks v m _ _ rfl
theorem addR_len (s : List Int) : ∀ (m i : Nat) (l : List Int), (addR s i m l).length = l.length
 | 0, i, l => rfl
 | m + 1, i, l => by rw [addR, addR_len s m]; simp
def s41 : CSpec := .slp1 [ns, bs] (fun x => decide (List.length (α := Int) x.1 = 8) && decide (List.length (α := Int) x.2.1 = 64)) nt fun x => blockF x.1 x.2.1
theorem ok41 : CSound Try.prog 132 s41 ∧ CLocal s41 :=
 slpE1 (L := LBF) cB_sound Try.func132 (by kernel_rfl) (fun b hb => by
  have : loopsOf (bodyOf Try.f132) = [bB1, bB2, bB3, bB4] := by kernel_rfl
  rw [this] at hb
  simp only [List.mem_cons, List.not_mem_nil, or_false] at hb
  rcases hb with rfl | rfl | rfl | rfl
  ·exact lB1
  ·exact lB2
  ·exact lB3
  ·exact lB4) fun xs hx hp => by
  obtain ⟨s, b, u⟩ := xs
  have hp : (decide (List.length (α := Int) s = 8) && decide (List.length (α := Int) b = 64)) = true := hp
  simp only [Bool.and_eq_true, decide_eq_true_eq] at hp
  obtain ⟨h8, h64⟩ := hp
  have l1 : (sch1F b).length = 16 := sch1_len b 16 0 []
  have l2 : (sch2F (sch1F b)).length = 64 := (sch2_len rightF 48 16 _).trans (by rw [l1])
  have l3 : (rndsF consts (sch2F (sch1F b)) s).length = 8 := rndsR_len rightF consts _ 64 0 s h8
  have e1 : cB1 b [] 0 = true := by simp only [cB1, h64]; rfl
  have e2 : cB2 (sch1F b) 16 = true := by simp only [cB2, l1]; rfl
  have e3 : Vse.room (([] : List Int).length + List.length (α := Int) s) 4 = true := by rw [h8]; rfl
  have lc : consts.length = 64 := rfl
  have e4 : cB3 consts (sch2F (sch1F b)) ([] ++ s) 0 = true := by simp only [cB3, List.nil_append, l2, h8, lc]; rfl
  have e5 : cB4 s (rndsF consts (sch2F (sch1F b)) ([] ++ s)) 0 = true := by simp only [cB4, List.nil_append, l3, h8]; rfl
  have e6 : (T41 consts cB1 sch1F cB2 sch2F cB3 rndsF cB4 addRF s b).eval = some (.v nt (blockF s b)) := by
   unfold T41 blockF
   rw [chk_eval e1, chk_eval e2, chk_eval e3, chk_eval e4, chk_eval e5, List.nil_append, Tr.eval]
  have e7 := (k41 rightF consts cB1 sch1F cB2 sch2F cB3 rndsF cB4 addRF s b).trans e6
  exact e7
end Go.Proofs.Ytffdkniccaebmaa.Sha
end
section
set_option linter.unusedVariables false
set_option maxRecDepth 100000
namespace Go.Proofs.Ytffdkniccaebmaa.Sha
open Go Vse Go.Proofs Gen
abbrev CD : Ctx := ctx (cD filledF filledP blockF)
theorem cD_sound : CtxSound Try.prog CD ∧ CtxLocal CD := ctx_sound ⟨ok40, ok41, trivial⟩
theorem addR_len8 {s l : List Int} (h : l.length = 8) : (addRF s l).length = 8 := (addR_len s 8 0 l).trans h
theorem blockF_len {s : List Int} (b : List Int) (h : s.length = 8) : (blockF s b).length = 8 := addR_len8 (rndsR_len rightF consts _ 64 0 s h)
def blocksF : Nat → List Int → List Int → List Int
 | 0, s, a => s
 | n + 1, s, a => blocksF n (blockF s (a.take 64)) (a.drop 64)
theorem blocksF_len : ∀ (n : Nat) (s a : List Int), s.length = 8 → (blocksF n s a).length = 8
 | 0, s, a, h => h
 | n + 1, s, a, h => blocksF_len n _ _ (blockF_len _ h)
def blkF (s a : List Int) : List Int := blocksF (a.length / 64) s a
def cD1 (s a : List Int) (i : Int) : Bool := decide (i = 0) && (decide (s.length = 8) && (decide (a.length % 64 = 0) && decide (a.length ≤ 1000000000000)))
def FD1 (c : List Int → List Int → Int → Bool) (S : List Int → List Int → List Int) (xs : HL SD1.Ts) (hs : HD SD1.Es) : Tr (Ex × St) :=
 .chk (c xs.2.1 xs.2.2.1 xs.2.2.2.1) (.ret (.exit 0, encS [2, 3] [.ptr 0 [], nt] [.box d32, .dead] 71 ((), S xs.2.1 xs.2.2.1, ()) (hs.1, ())))
def put8L (s : List Int) : Nat → Nat → List Int → List Int
 | _, 0, q => q
 | i, m + 1, q => put8L s (i + 1) m (put8 s q i)
def put8F (s q : List Int) : List Int := put8L s 0 8 q
def cD2 (s : List Int) (i : Int) : Bool := decide (i = 0) && decide (s.length = 8)
def FD2 (c : List Int → Int → Bool) (S : List Int → List Int → List Int) (xs : HL SD2.Ts) (hs : HD SD2.Es) : Tr (Ex × St) :=
 .chk (c xs.2.1 xs.2.2.2.1) (.ret (.exit 2, encS [2, 6] [.ptr 0 [], .ptr 2 []] [.box d32, .dead, .box d32] 71 ((), (), ()) (hs.1, S xs.2.1 hs.2.1, ())))
def LD (c1 : List Int → List Int → Int → Bool) (S1 : List Int → List Int → List Int) (c2 : List Int → Int → Bool) (S2 : List Int → List Int → List Int) : Loops := fun j st => if j = 4 then SD1.fn (FD1 c1 S1) st else if j = 9 then SD2.fn (FD2 c2 S2) st else .fail
abbrev LDF : Loops := LD cD1 blkF cD2 put8F
theorem mD1 (a o : List Int) (ha : a.length ≤ 1000000000000) : ∀ (m k : Nat) (s : List Int), 64 * k + 64 * m = a.length → s.length = 8 →
  SD1.many (bodyK Try.prog CD L0 bD1) (m + 1) ((), s, a, ((64 * k : Nat) : Int), ()) (o, ()) = some (.exit 0, encS [2, 3] [.ptr 0 [], nt] [.box d32, .dead] 71 ((), blocksF m s (a.drop (64 * k)), ()) (o, ()))
 | 0, k, s, h, hs => by
  refine rmany_inr ((rD1 filledF filledP blockF s a o _).trans ?_) 0
  simp only [GD1, Tr.eval, decide_eq_false (show ¬ (((64 * k : Nat) : Int) < (a.length : Int)) by omega)]
  rfl
 | m + 1, k, s, h, hs => by
  have w0 : w (((64 * k : Nat) : Int) + 64) = ((64 * (k + 1) : Nat) : Int) := (w_id (by omega) (by omega)).trans (by omega)
  have hq : (a.take (64 * (k + 1))).drop (64 * k) = (a.drop (64 * k)).take 64 := by
   rw [List.drop_take]; congr 1; omega
  have hql : ((a.drop (64 * k)).take 64).length = 64 := by rw [List.length_take, List.length_drop]; omega
  refine (rmany_inl (d := (((), blockF s ((a.drop (64 * k)).take 64), a, ((64 * (k + 1) : Nat) : Int), ()), (o, ()))) ((rD1 filledF filledP blockF s a o _).trans ?_) (m + 1)).trans ((mD1 a o ha m (k + 1) _ (by omega) (blockF_len _ hs)).trans ?_)
  ·have e1 : (decide (0 ≤ ((64 * k : Nat) : Int)) && (decide (((64 * k : Nat) : Int) ≤ ((64 * (k + 1) : Nat) : Int)) && decide (((64 * (k + 1) : Nat) : Int) ≤ (a.length : Int)))) = true := by
    simp only [Bool.and_eq_true, decide_eq_true_eq]; omega
   have e2 : (decide (s.length = 8) && decide (((a.drop (64 * k)).take 64).length = 64)) = true := by rw [hs, hql]; rfl
   simp only [GD1, Tr.eval, Tr.chk, decide_eq_true (show (((64 * k : Nat) : Int) < (a.length : Int)) by omega), w0, Int.toNat_natCast, hq, e1, e2]
  ·rw [blocksF, List.drop_drop]
   rfl
theorem lD1 : LoopOK Try.prog LDF bD1 :=
 rloop_ok (L := LDF) (L' := L0) cD_sound (loopsOK_of (by kernel_rfl)) SD1 (F := FD1 cD1 blkF) (i := 4) (by kernel_rfl) (fun _ => rfl) fun xs hs r h => by
  obtain ⟨u1, s, a, i, u2⟩ := xs
  obtain ⟨o, u3⟩ := hs
  obtain ⟨h1, h2⟩ := Tr.chk_some h
  simp only [cD1, Bool.and_eq_true, decide_eq_true_eq] at h1
  obtain ⟨e1, e2, e3, e4⟩ := h1
  have e1 : i = ((64 * 0 : Nat) : Int) := e1
  subst e1
  exact ⟨_, (mD1 a o e4 (List.length (α := Int) a / 64) 0 s (by omega) e2).trans (congrArg some (Tr.ret_some h2))⟩
theorem mD2 (s o : List Int) (hs : s.length = 8) : ∀ (m i : Nat) (q : List Int), i + m = 8 →
  SD2.many (bodyK Try.prog CD L0 bD2) (m + 1) ((), s, (), (i : Int), ()) (o, q, ()) = some (.exit 2, encS [2, 6] [.ptr 0 [], .ptr 2 []] [.box d32, .dead, .box d32] 71 ((), (), ()) (o, put8L s i m q, ()))
 | 0, i, q, h => by
  refine rmany_inr ((rD2 filledF filledP blockF s o q i).trans ?_) 0
  simp only [GD2, Tr.eval, decide_eq_false (show ¬ ((i : Int) < 8) by omega)]
  rfl
 | m + 1, i, q, h => by
  refine (rmany_inl (d := (((), s, (), ((i + 1 : Nat) : Int), ()), (o, put8 s q i, ()))) ((rD2 filledF filledP blockF s o q i).trans ?_) (m + 1)).trans (mD2 s o hs m (i + 1) _ (by omega))
  have w0 : w ((i : Int) + 1) = ((i + 1 : Nat) : Int) := (w_id (by omega) (by omega)).trans (by omega)
  have w1 : w (4 * (i : Int)) = ((4 * i : Nat) : Int) := (w_id (by omega) (by omega)).trans (by omega)
  have w2 : w (((4 * i : Nat) : Int) + 1) = ((4 * i + 1 : Nat) : Int) := (w_id (by omega) (by omega)).trans (by omega)
  have w3' : w (((4 * i : Nat) : Int) + 2) = ((4 * i + 2 : Nat) : Int) := (w_id (by omega) (by omega)).trans (by omega)
  have w4 : w (((4 * i : Nat) : Int) + 3) = ((4 * i + 3 : Nat) : Int) := (w_id (by omega) (by omega)).trans (by omega)
  have ok : ∀ k : Nat, k < 32 → inArrK .i64 (k : Int) 32 = true := fun k hk => inArrK64 (by omega) (by omega) (by omega)
  simp only [GD2, Tr.eval, Tr.chk, decide_eq_true (show ((i : Int) < 8) by omega), w0, w1, w2, w3', w4, inArr_nat (k := i) (n := s.length) (by omega), ok (4 * i) (by omega), ok (4 * i + 1) (by omega), ok (4 * i + 2) (by omega), ok (4 * i + 3) (by omega)]
theorem lD2 : LoopOK Try.prog LDF bD2 :=
 rloop_ok (L := LDF) (L' := L0) cD_sound (loopsOK_of (by kernel_rfl)) SD2 (F := FD2 cD2 put8F) (i := 9) (by kernel_rfl) (fun _ => rfl) fun xs hs r h => by
  obtain ⟨u1, s, u2, i, u3⟩ := xs
  obtain ⟨o, q, u4⟩ := hs
  obtain ⟨h1, h2⟩ := Tr.chk_some h
  simp only [cD2, Bool.and_eq_true, decide_eq_true_eq] at h1
  obtain ⟨e1, e2⟩ := h1
  have e1 : i = ((0 : Nat) : Int) := e1
  subst e1
  exact ⟨_, (mD2 s o e2 8 0 q (by omega)).trans (congrArg some (Tr.ret_some h2))⟩
def rsumF (b : List Int) : List Int := put8F (blkF init (filledF b)) zeros32
def T17 (f : List Int → List Int) (p : List Int → Bool) (c1 : List Int → List Int → Int → Bool) (S1 : List Int → List Int → List Int) (c2 : List Int → Int → Bool) (S2 : List Int → List Int → List Int) (b : List Int) : Tr AV :=
 .chk (p b) (.chk (c1 init (f b) 0) (.chk (c2 (S1 init (f b)) 0) (.ret (.v d32 (S2 (S1 init (f b)) zeros32)))))
theorem k17 (f : List Int → List Int) (p : List Int → Bool) (k : Bk) (c1 : List Int → List Int → Int → Bool) (S1 : List Int → List Int → List Int) (c2 : List Int → Int → Bool) (S2 : List Int → List Int → List Int) (b : List Int) :
  nrm (fnS Try.prog (ctx (cD f p k)) (LD c1 S1 c2 S2) [d32] Try.f129 (mkArgs [bs] (b, ()))) = (T17 f p c1 S1 c2 S2 b).eval := by kernel_rfl
def s17 : CSpec := .slp1 [bs] (fun x => filledP x.1) d32 fun x => rsumF x.1
theorem tailR_len (n : Int) : ∀ m, (tailR n m).length = m
 | 0 => rfl
 | m + 1 => by rw [tailR, List.length_cons, tailR_len n m]
theorem filledF_len (b : List Int) : (filledF b).length = b.length + 1 + padM (b.length + 1) + 8 := by
 unfold filledF padR tailF
 simp only [List.length_append, List.length_replicate, List.length_singleton, tailR_len]
theorem ok17 : CSound Try.prog 129 s17 ∧ CLocal s17 :=
 slpE1 (L := LDF) cD_sound Try.func129 (by kernel_rfl) (loops2 (by kernel_rfl) lD1 lD2) fun xs hx hp => by
  obtain ⟨b, u⟩ := xs
  have hp : filledP b = true := hp
  have hb : List.length (α := Int) b ≤ 10000000000 := of_decide_eq_true hp
  have hl := filledF_len b
  have hm := padM_lt (List.length (α := Int) b + 1)
  have li : init.length = 8 := rfl
  have e1 : cD1 init (filledF b) 0 = true := by
   simp only [cD1, li, Bool.and_eq_true, decide_eq_true_eq, true_and]
   rw [hl]
   unfold padM at hm ⊢
   omega
  have e2 : cD2 (blkF init (filledF b)) 0 = true := by
   have : (blkF init (filledF b)).length = 8 := blocksF_len _ _ _ rfl
   simp only [cD2, this]; rfl
  have e3 : (T17 filledF filledP cD1 blkF cD2 put8F b).eval = some (.v d32 (rsumF b)) := by
   unfold T17 rsumF
   rw [chk_eval hp, chk_eval e1, chk_eval e2, Tr.eval]
  exact (k17 filledF filledP blockF cD1 blkF cD2 put8F b).trans e3
end Go.Proofs.Ytffdkniccaebmaa.Sha
end
end
section
section
set_option linter.unusedVariables false
set_option maxRecDepth 100000
namespace Go.Proofs.Ytffdkniccaebmaa.Sha
open Go Vse Go.Proofs Gen
end Go.Proofs.Ytffdkniccaebmaa.Sha
end
section
set_option linter.unusedVariables false
set_option maxRecDepth 100000
namespace Go.Proofs.Ytffdkniccaebmaa.Sha
open Go Vse Go.Proofs Gen
theorem absF_short {s all : List Int} (h : all.length < 64) : absF s all = (s, all) := by
 unfold absF
 rw [Nat.div_eq_of_lt h]
 rfl
theorem absF_long {s all : List Int} (h : 64 ≤ all.length) : absF s all = absF (mixF s (all.take 64)) (all.drop 64) := by
 unfold absF
 have : all.length / 64 = (all.drop 64).length / 64 + 1 := by rw [List.length_drop]; omega
 rw [this, absorb]
theorem absF_append : ∀ (n : Nat) (s y x : List Int), y.length / 64 = n → absF (absF s y).1 ((absF s y).2 ++ x) = absF s (y ++ x)
 | 0, s, y, x, h => by rw [absF_short (s := s) (all := y) (by omega)]
 | n + 1, s, y, x, h => by
  have hy : 64 ≤ y.length := by omega
  rw [absF_long (s := s) hy, absF_append n _ _ x (by rw [List.length_drop]; omega), absF_long (s := s) (all := y ++ x) (by rw [List.length_append]; omega)]
  rw [List.take_append_of_le_length hy, List.drop_append_of_le_length hy]
def hashOf (y : List Int) : Hs := writeF y h0
theorem wu_id {x : Int} (h : 0 ≤ x) (h' : x ≤ 18446744073709551615) : wu x = x := by
 simp [IntKind.wrap, IntKind.signed, IntKind.bits]
 omega
theorem shaF_hash (y : List Int) : shaF y = sumH (hashOf y) := rfl
end Go.Proofs.Ytffdkniccaebmaa.Sha
end
section
set_option linter.unusedVariables false
set_option maxRecDepth 100000
namespace Go.Proofs.Ytffdkniccaebmaa.Sha
open Go Vse Go.Proofs Gen
def U (x : Int) : Prop := 0 ≤ x ∧ x < 4294967296
def Us (l : List Int) : Prop := ∀ x ∈ l, U x
def Bytes (l : List Int) : Prop := ∀ x ∈ l, 0 ≤ x ∧ x < 256
theorem w3_mod (x : Int) : w3 x = x % 4294967296 := by
 simp [IntKind.wrap, IntKind.signed, IntKind.bits]
theorem w3_U (x : Int) : U (w3 x) := by rw [w3_mod]; exact ⟨Int.emod_nonneg _ (by omega), Int.emod_lt_of_pos _ (by omega)⟩
theorem w3_id {x : Int} (h : U x) : w3 x = x := by rw [w3_mod]; exact Int.emod_eq_of_lt h.1 h.2
theorem wb_mod (x : Int) : wb x = x % 256 := by
 simp [IntKind.wrap, IntKind.signed, IntKind.bits]
theorem U.nat {x : Int} (h : U x) : ∃ n : Nat, x = n ∧ n < 4294967296 := ⟨x.toNat, by have := h.1; omega, by have := h.1; have := h.2; omega⟩
theorem U_nat {n : Nat} (h : n < 4294967296) : U (n : Int) := ⟨by omega, by omega⟩
def stepN (n : Nat) : Nat := n / 2 + n % 2 * 2147483648
theorem step1_nat {n : Nat} (h : n < 4294967296) : step1 (n : Int) = ((stepN n : Nat) : Int) := by
 have e1 : ((n : Nat) : Int).tmod 2 = ((n % 2 : Nat) : Int) := by rw [Int.tmod_eq_emod_of_nonneg (by omega)]; omega
 have e2 : ((n : Nat) : Int).tdiv 2 = ((n / 2 : Nat) : Int) := by rw [Int.tdiv_eq_ediv_of_nonneg (by omega)]; omega
 have e3 : half1 (n : Int) = ((n / 2 : Nat) : Int) := by unfold half1; rw [e2]; exact w3_id (U_nat (by omega))
 unfold step1 stepN
 rw [e1, e3]
 by_cases hn : ((n % 2 : Nat) : Int) = 1
 ·rw [if_pos hn, w3_id ⟨by omega, by omega⟩]; omega
 ·rw [if_neg hn]; omega
theorem stepN_lt {n : Nat} (h : n < 4294967296) : stepN n < 4294967296 := by unfold stepN; omega
def rotN (n m : Nat) : Nat := n / 2 ^ m + n % 2 ^ m * 2 ^ (32 - m)
theorem rotN_step (n m : Nat) (hm : m ≤ 31) : rotN (stepN n) m = rotN n (m + 1) := by
 unfold rotN stepN
 have hp : 0 < 2 ^ m := Nat.two_pow_pos _
 have h1 : n % 2 * 2147483648 = (n % 2 * 2 ^ (31 - m)) * 2 ^ m := by
  rw [Nat.mul_assoc, ← Nat.pow_add, show 31 - m + m = 31 by omega]
 have h2 : (n / 2 + n % 2 * 2147483648) / 2 ^ m = n / 2 / 2 ^ m + n % 2 * 2 ^ (31 - m) := by rw [h1, Nat.add_mul_div_right _ _ hp]
 have h3 : (n / 2 + n % 2 * 2147483648) % 2 ^ m = n / 2 % 2 ^ m := by rw [h1, Nat.add_mul_mod_self_right]
 have h4 : n / 2 ^ (m + 1) = n / 2 / 2 ^ m := by rw [Nat.pow_succ, Nat.mul_comm, ← Nat.div_div_eq_div_mul]
 have h5 : n % 2 ^ (m + 1) = n % 2 + 2 * (n / 2 % 2 ^ m) := by rw [Nat.pow_succ, Nat.mul_comm, Nat.mod_mul]
 have h6 : 2 ^ (32 - m) = 2 * 2 ^ (31 - m) := by rw [show 32 - m = (31 - m) + 1 by omega, Nat.pow_succ, Nat.mul_comm]
 rw [h2, h3, h4, h5, h6, show 32 - (m + 1) = 31 - m by omega]
 generalize n / 2 / 2 ^ m = a
 generalize n / 2 % 2 ^ m = b
 generalize 2 ^ (31 - m) = c
 generalize n % 2 = d
 rw [Nat.add_mul, Nat.mul_assoc 2 b c, ← Nat.mul_assoc b 2 c, Nat.mul_comm b 2, Nat.mul_assoc 2 b c]
 omega
theorem rightN_rot : ∀ (m n : Nat), m ≤ 32 → n < 4294967296 → rightN m (n : Int) = ((rotN n m : Nat) : Int)
 | 0, n, _, h => by simp [rightN, rotN, Nat.mod_one]
 | m + 1, n, hm, h => by
  rw [rightN, step1_nat h, rightN_rot m _ (by omega) (stepN_lt h), rotN_step n m (by omega)]
theorem or_add {a b k : Nat} (h : b < 2 ^ k) : a * 2 ^ k ||| b = a * 2 ^ k + b := by
 rw [Nat.mul_comm, ← Nat.two_pow_add_eq_or_of_lt h]
theorem rotF_rot {n : Nat} (h : n < 4294967296) (a : Nat) (h1 : 1 ≤ a) (h2 : a ≤ 31) : rotF (n : Int) (-(a : Int)) = ((rotN n a : Nat) : Int) := by
 have s1 : andI .u64 (IntKind.u64.wrap (-(a : Int))) 31 = ((32 - a : Nat) : Int) := by
  have key : ∀ a : Nat, a < 32 → 1 ≤ a → andI .u64 (IntKind.u64.wrap (-(a : Int))) 31 = ((32 - a : Nat) : Int) := by decide
  exact key a (by omega) h1
 have s2 : IntKind.u64.wrap (32 - ((32 - a : Nat) : Int)) = (a : Int) := (wu_id (by omega) (by omega)).trans (by omega)
 unfold rotF
 rw [s1, s2]
 have hp : 0 < 2 ^ a := Nat.two_pow_pos _
 have hmul : 4294967296 = 2 ^ a * 2 ^ (32 - a) := by rw [← Nat.pow_add, show a + (32 - a) = 32 by omega]
 have e1 : shlI .u32 (n : Int) ((32 - a : Nat) : Int) = ((n % 2 ^ a * 2 ^ (32 - a) : Nat) : Int) := by
  unfold shlI
  have hmin : min (((32 - a : Nat) : Int)).toNat IntKind.u32.bits = 32 - a := by
   rw [Int.toNat_natCast]; show min (32 - a) 32 = 32 - a; omega
  rw [hmin]
  show w3 ((n : Int) * 2 ^ (32 - a)) = _
  rw [w3_mod]
  have : ((n : Int) * 2 ^ (32 - a)) % 4294967296 = ((n * 2 ^ (32 - a) % 4294967296 : Nat) : Int) := by
   rw [Int.natCast_emod, Int.natCast_mul, Int.natCast_pow]; rfl
  rw [this, hmul, Nat.mul_mod_mul_right]
 have e2 : shrI .u32 (n : Int) (a : Int) = ((n / 2 ^ a : Nat) : Int) := by
  unfold shrI
  have hmin : min ((a : Int)).toNat IntKind.u32.bits = a := by
   rw [Int.toNat_natCast]; show min a 32 = a; omega
  rw [hmin, Int.fdiv_eq_ediv_of_nonneg _ (by exact_mod_cast Nat.zero_le _)]
  rw [Int.natCast_ediv, Int.natCast_pow]; rfl
 rw [e1, e2]
 have hlt : n / 2 ^ a < 2 ^ (32 - a) := by
  rw [Nat.div_lt_iff_lt_mul hp, Nat.mul_comm, ← hmul]; exact h
 have hlt2 : n % 2 ^ a * 2 ^ (32 - a) + n / 2 ^ a < 4294967296 := by
  have h3 : n % 2 ^ a < 2 ^ a := Nat.mod_lt _ hp
  have h4 : (n % 2 ^ a + 1) * 2 ^ (32 - a) ≤ 2 ^ a * 2 ^ (32 - a) := Nat.mul_le_mul_right _ h3
  rw [← hmul, Nat.add_mul, Nat.one_mul] at h4
  omega
 have hor : n % 2 ^ a * 2 ^ (32 - a) ||| n / 2 ^ a = n % 2 ^ a * 2 ^ (32 - a) + n / 2 ^ a := or_add hlt
 unfold rotN
 generalize n % 2 ^ a * 2 ^ (32 - a) = p at hor hlt2 ⊢
 generalize n / 2 ^ a = q at hor hlt2 ⊢
 rw [orI_nat (by rw [max_u32]; omega) (by rw [max_u32]; omega) (by rw [hor, max_u32]; omega), hor]
 congr 1
 omega
theorem rot_right {x : Int} (h : U x) (a : Nat) (h1 : 1 ≤ a) (h2 : a ≤ 31) : rotF x (-(a : Int)) = rightF x (a : Int) := by
 obtain ⟨n, rfl, hn⟩ := h.nat
 rw [rotF_rot hn a h1 h2]
 unfold rightF
 rw [Int.toNat_natCast, rightN_rot a n (by omega) hn]
theorem turn_right {x : Int} (h : U x) (a b : Nat) (ha : 1 ≤ a ∧ a ≤ 31) (hb : 1 ≤ b ∧ b ≤ 31) (v : Int) : turnF x (a : Int) (b : Int) v = xorI .u32 (xorI .u32 (rightF x a) (rightF x b)) v := by
 show xorI .u32 (xorI .u32 (rotF x (w (0 - (a : Int)))) (rotF x (w (0 - (b : Int))))) v = _
 rw [w_id (x := 0 - (a : Int)) (by omega) (by omega), w_id (x := 0 - (b : Int)) (by omega) (by omega), show 0 - (a : Int) = -(a : Int) by omega, show 0 - (b : Int) = -(b : Int) by omega, rot_right h a ha.1 ha.2, rot_right h b hb.1 hb.2]
theorem shr_div {x : Int} (h : U x) (k : Nat) (hk : k ≤ 31) : shrI .u32 x (k : Int) = w3 (x.tdiv (2 ^ k : Nat)) := by
 obtain ⟨n, rfl, hn⟩ := h.nat
 have hp : 0 < 2 ^ k := Nat.two_pow_pos _
 have e : ((n : Nat) : Int).tdiv ((2 ^ k : Nat) : Int) = ((n / 2 ^ k : Nat) : Int) := by rw [Int.tdiv_eq_ediv_of_nonneg (by omega)]; rfl
 rw [e, w3_id (U_nat (Nat.lt_of_le_of_lt (Nat.div_le_self _ _) hn))]
 unfold shrI
 have hmin : min ((k : Int)).toNat IntKind.u32.bits = k := by
  rw [Int.toNat_natCast]; show min k 32 = k; omega
 rw [hmin, Int.fdiv_eq_ediv_of_nonneg _ (by exact_mod_cast Nat.zero_le _), Int.natCast_ediv, Int.natCast_pow]; rfl
theorem not_sub {x : Int} (h : U x) : xorI .u32 4294967295 x = w3 (4294967295 - x) := by
 obtain ⟨n, rfl, hn⟩ := h.nat
 have e : BitVec.ofInt IntKind.u32.bits 4294967295 = BitVec.allOnes 32 := by show BitVec.ofInt 32 4294967295 = BitVec.allOnes 32; decide
 unfold xorI
 rw [e, ofInt_nat]
 show w3 (((BitVec.allOnes 32 ^^^ BitVec.ofNat 32 n).toNat : Nat) : Int) = _
 rw [BitVec.allOnes_xor, BitVec.toNat_not, BitVec.toNat_ofNat, Nat.mod_eq_of_lt (by omega)]
 congr 1
 omega
end Go.Proofs.Ytffdkniccaebmaa.Sha
end
section
set_option linter.unusedVariables false
set_option maxRecDepth 100000
namespace Go.Proofs.Ytffdkniccaebmaa.Sha
open Go Vse Go.Proofs Gen
theorem shl_or {x c : Nat} (hx : x < 16777216) (hc : c < 256) : orI .u32 (shlI .u32 (x : Int) 8) (w3 (c : Int)) = ((x * 256 + c : Nat) : Int) := by
 have e1 : shlI .u32 (x : Int) 8 = ((x * 2 ^ 8 : Nat) : Int) := by
  unfold shlI
  show w3 ((x : Int) * 2 ^ (min (8 : Int).toNat 32)) = _
  have : min (8 : Int).toNat 32 = 8 := by decide
  rw [this, w3_id ⟨by omega, by omega⟩]
  omega
 have hor : x * 2 ^ 8 ||| c = x * 2 ^ 8 + c := or_add (by omega)
 rw [e1, w3_id (U_nat (by omega)), orI_nat (by rw [max_u32]; omega) (by rw [max_u32]; omega) (by rw [hor, max_u32]; omega), hor]
theorem getD_set {v : List Int} {k : Nat} (h : k < v.length) (x : Int) : (v.set k x).getD k 0 = x := by
 rw [List.getD_eq_getElem?_getD, List.getElem?_set_self h]; rfl
theorem put4_num {v : List Int} {k : Nat} (hk : k < v.length) (h0 : v.getD k 0 = 0) {c0 c1 c2 c3 : Nat} (h0' : c0 < 256) (h1 : c1 < 256) (h2 : c2 < 256) (h3 : c3 < 256) :
  put4 v (k : Int) [(c0 : Int), (c1 : Int), (c2 : Int), (c3 : Int)] = v.set k (((c0 * 16777216 + c1 * 65536 + c2 * 256 + c3 : Nat)) : Int) := by
 have step : ∀ (u : List Int) (x c : Nat), k < u.length → u.getD k 0 = (x : Int) → x < 16777216 → c < 256 → put1 u (k : Int) (c : Int) = u.set k ((x * 256 + c : Nat) : Int) := by
  intro u x c hu hx hx2 hc
  unfold put1
  rw [Int.toNat_natCast, hx, shl_or hx2 hc]
 show put1 (put1 (put1 (put1 v k c0) k c1) k c2) k c3 = _
 rw [step v 0 c0 hk h0 (by omega) h0']
 rw [step _ (0 * 256 + c0) c1 (by simpa using hk) (getD_set hk _) (by omega) h1, List.set_set]
 rw [step _ ((0 * 256 + c0) * 256 + c1) c2 (by simpa using hk) (getD_set hk _) (by omega) h2, List.set_set]
 rw [step _ (((0 * 256 + c0) * 256 + c1) * 256 + c2) c3 (by simpa using hk) (getD_set hk _) (by omega) h3, List.set_set]
 congr 2
 omega
theorem byte_nat {l : List Int} (h : Bytes l) {k : Nat} (hk : k < l.length) : ∃ c : Nat, l[k] = (c : Int) ∧ c < 256 := by
 have := h _ (List.getElem_mem hk)
 exact ⟨l[k].toNat, by omega, by omega⟩
theorem part4_four {b : List Int} {i : Nat} (h : 4 * i + 3 < b.length) : part4 b i = [b[4 * i]'(by omega), b[4 * i + 1]'(by omega), b[4 * i + 2]'(by omega), b[4 * i + 3]] := by
 unfold part4
 rw [List.drop_take, show 4 * i + 4 - 4 * i = 4 by omega, List.drop_eq_getElem_cons (by omega), List.drop_eq_getElem_cons (by omega), List.drop_eq_getElem_cons (by omega), List.drop_eq_getElem_cons (by omega)]
 simp only [List.take_succ_cons, List.take_zero]
theorem num4_eq {b : List Int} {i : Nat} (hi : i < 16) (h : b.length = 64) {c0 c1 c2 c3 : Nat} (e0 : b[4 * i]'(by omega) = (c0 : Int)) (e1 : b[4 * i + 1]'(by omega) = (c1 : Int)) (e2 : b[4 * i + 2]'(by omega) = (c2 : Int)) (e3 : b[4 * i + 3]'(by omega) = (c3 : Int))
  (h0 : c0 < 256) (h1 : c1 < 256) (h2 : c2 < 256) (h3 : c3 < 256) : num4 b (i : Int) = ((c0 * 16777216 + c1 * 65536 + c2 * 256 + c3 : Nat) : Int) := by
 have w1 : w (4 * (i : Int)) = ((4 * i : Nat) : Int) := (w_id (by omega) (by omega)).trans (by omega)
 have w2 : w (((4 * i : Nat) : Int) + 1) = ((4 * i + 1 : Nat) : Int) := (w_id (by omega) (by omega)).trans (by omega)
 have w3' : w (((4 * i : Nat) : Int) + 2) = ((4 * i + 2 : Nat) : Int) := (w_id (by omega) (by omega)).trans (by omega)
 have w4 : w (((4 * i : Nat) : Int) + 3) = ((4 * i + 3 : Nat) : Int) := (w_id (by omega) (by omega)).trans (by omega)
 unfold num4
 simp only [w1, w2, w3', w4, Int.toNat_natCast, getD_cons (show 4 * i < b.length by omega), getD_cons (show 4 * i + 1 < b.length by omega), getD_cons (show 4 * i + 2 < b.length by omega), getD_cons (show 4 * i + 3 < b.length by omega), e0, e1, e2, e3]
 simp only [w3_mod]
 omega
theorem schedL_add (t : Tu) (b : List Int) : ∀ (m n i : Nat) (v : List Int), schedL t b i (m + n) v = schedL t b (i + m) n (schedL t b i m v)
 | 0, n, i, v => by rw [Nat.zero_add, Nat.add_zero]; rfl
 | m + 1, n, i, v => by
  rw [show m + 1 + n = (m + n) + 1 by omega, schedL, schedL_add t b m n (i + 1), show i + 1 + m = i + (m + 1) by omega]
  rfl
theorem set_mid (p : List Int) (n : Nat) (x : Int) : (p ++ List.replicate (n + 1) 0).set p.length x = (p ++ [x]) ++ List.replicate n 0 := by
 rw [List.set_append_right _ _ (Nat.le_refl _), Nat.sub_self, List.replicate_succ, List.set_cons_zero, List.append_assoc]
 rfl
theorem getD_left (p q : List Int) {k : Nat} (h : k < p.length) : (p ++ q).getD k 0 = p.getD k 0 := by
 rw [List.getD_eq_getElem?_getD, List.getElem?_append_left h, ← List.getD_eq_getElem?_getD]
theorem getD_mid (p : List Int) (n : Nat) : (p ++ List.replicate (n + 1) 0).getD p.length 0 = 0 := by
 rw [List.getD_eq_getElem?_getD, List.getElem?_append_right (Nat.le_refl _), Nat.sub_self]
 rfl
theorem num4_part {b : List Int} (hb : b.length = 64) (hB : Bytes b) {v : List Int} {i : Nat} (hi : i < 16) (hv : i < v.length) (h0 : v.getD i 0 = 0) : put4 v (i : Int) (part4 b i) = v.set i (num4 b (i : Int)) ∧ U (num4 b (i : Int)) := by
 obtain ⟨c0, e0, l0⟩ := byte_nat hB (k := 4 * i) (by omega)
 obtain ⟨c1, e1, l1⟩ := byte_nat hB (k := 4 * i + 1) (by omega)
 obtain ⟨c2, e2, l2⟩ := byte_nat hB (k := 4 * i + 2) (by omega)
 obtain ⟨c3, e3, l3⟩ := byte_nat hB (k := 4 * i + 3) (by omega)
 rw [part4_four (by omega), e0, e1, e2, e3, put4_num hv h0 l0 l1 l2 l3, num4_eq hi hb e0 e1 e2 e3 l0 l1 l2 l3]
 exact ⟨rfl, U_nat (by omega)⟩
theorem Us_snoc {p : List Int} {x : Int} (h : Us p) (hx : U x) : Us (p ++ [x]) := by
 intro y hy
 rcases List.mem_append.1 hy with hy | hy
 ·exact h y hy
 ·rw [List.mem_singleton.1 hy]; exact hx
theorem stage1 {b : List Int} (hb : b.length = 64) (hB : Bytes b) (t : Tu) : ∀ (m i : Nat) (p : List Int), i + m = 16 → p.length = i → Us p →
  schedL t b i m (p ++ List.replicate (64 - i) 0) = sch1 b i m p ++ List.replicate 48 0 ∧ Us (sch1 b i m p)
 | 0, i, p, h, hp, hU => by
  have : i = 16 := by omega
  subst this
  exact ⟨rfl, hU⟩
 | m + 1, i, p, h, hp, hU => by
  have hi : i < 16 := by omega
  subst hp
  have e64 : 64 - p.length = (63 - p.length) + 1 := by omega
  obtain ⟨q1, q2⟩ := num4_part hb hB (v := p ++ List.replicate (64 - p.length) 0) hi (by simp; omega) (by rw [e64]; exact getD_mid p _)
  have hm : schedL t b p.length (m + 1) (p ++ List.replicate (64 - p.length) 0) = schedL t b (p.length + 1) m ((p ++ [num4 b (p.length : Int)]) ++ List.replicate (63 - p.length) 0) := by
   rw [schedL, if_pos hi, q1, e64, set_mid]
  rw [hm]
  have := stage1 hb hB t m (p.length + 1) (p ++ [num4 b (p.length : Int)]) (by omega) (by simp) (Us_snoc hU q2)
  rw [show 64 - (p.length + 1) = 63 - p.length by omega] at this
  exact this
theorem getD_U {l : List Int} (h : Us l) (k : Nat) : U (l.getD k 0) := by
 rw [List.getD_eq_getElem?_getD]
 cases hk : l[k]? with
 | none => exact ⟨by simp, by simp⟩
 | some x => exact h x (List.mem_of_getElem? hk)
theorem step2_eq {p q : List Int} (hU : Us p) (h16 : 16 ≤ p.length) (h64 : p.length < 64) : step2 turnF (p ++ q) (p.length : Int) = (p ++ q).set p.length (num2 rightF p (p.length : Int)) ∧ U (num2 rightF p (p.length : Int)) := by
 have j1 : w ((p.length : Int) - 15) = ((p.length - 15 : Nat) : Int) := (w_id (by omega) (by omega)).trans (by omega)
 have j2 : w ((p.length : Int) - 2) = ((p.length - 2 : Nat) : Int) := (w_id (by omega) (by omega)).trans (by omega)
 have j3 : w ((p.length : Int) - 16) = ((p.length - 16 : Nat) : Int) := (w_id (by omega) (by omega)).trans (by omega)
 have j4 : w ((p.length : Int) - 7) = ((p.length - 7 : Nat) : Int) := (w_id (by omega) (by omega)).trans (by omega)
 have x1 := getD_U hU (p.length - 15)
 have x2 := getD_U hU (p.length - 2)
 refine ⟨?_, ?_⟩
 ·unfold step2 num2
  simp only [j1, j2, j3, j4, Int.toNat_natCast, getD_left p q (show p.length - 15 < p.length by omega), getD_left p q (show p.length - 2 < p.length by omega), getD_left p q (show p.length - 16 < p.length by omega), getD_left p q (show p.length - 7 < p.length by omega)]
  have t1 := turn_right x1 7 18 (by omega) (by omega) (shrI .u32 (p.getD (p.length - 15) 0) ((3 : Nat) : Int))
  have t2 := turn_right x2 17 19 (by omega) (by omega) (shrI .u32 (p.getD (p.length - 2) 0) ((10 : Nat) : Int))
  rw [shr_div x1 3 (by omega)] at t1
  rw [shr_div x2 10 (by omega)] at t2
  have s1 := shr_div x1 3 (by omega)
  have s2 := shr_div x2 10 (by omega)
  have t1' : turnF (p.getD (p.length - 15) 0) 7 18 (shrI .u32 (p.getD (p.length - 15) 0) 3) = xorI .u32 (xorI .u32 (rightF (p.getD (p.length - 15) 0) 7) (rightF (p.getD (p.length - 15) 0) 18)) (w3 ((p.getD (p.length - 15) 0).tdiv 8)) := by
   have : shrI .u32 (p.getD (p.length - 15) 0) 3 = w3 ((p.getD (p.length - 15) 0).tdiv ((2 ^ 3 : Nat) : Int)) := s1
   rw [this]; exact t1
  have t2' : turnF (p.getD (p.length - 2) 0) 17 19 (shrI .u32 (p.getD (p.length - 2) 0) 10) = xorI .u32 (xorI .u32 (rightF (p.getD (p.length - 2) 0) 17) (rightF (p.getD (p.length - 2) 0) 19)) (w3 ((p.getD (p.length - 2) 0).tdiv 1024)) := by
   have : shrI .u32 (p.getD (p.length - 2) 0) 10 = w3 ((p.getD (p.length - 2) 0).tdiv ((2 ^ 10 : Nat) : Int)) := s2
   rw [this]; exact t2
  rw [t1', t2']
 ·unfold num2
  exact w3_U _
theorem stage2 {b : List Int} : ∀ (m i : Nat) (p : List Int), i + m = 64 → 16 ≤ i → p.length = i → Us p → schedL turnF b i m (p ++ List.replicate (64 - i) 0) = sch2 rightF i m p
 | 0, i, p, h, h16, hp, hU => by
  have : i = 64 := by omega
  subst this
  simp [schedL, sch2]
 | m + 1, i, p, h, h16, hp, hU => by
  subst hp
  have e64 : 64 - p.length = (63 - p.length) + 1 := by omega
  obtain ⟨q1, q2⟩ := step2_eq (q := List.replicate (64 - p.length) 0) hU h16 (by omega)
  have hm : schedL turnF b p.length (m + 1) (p ++ List.replicate (64 - p.length) 0) = schedL turnF b (p.length + 1) m ((p ++ [num2 rightF p (p.length : Int)]) ++ List.replicate (63 - p.length) 0) := by
   rw [schedL, if_neg (by omega), q1, e64, set_mid]
  rw [hm]
  have := stage2 (b := b) m (p.length + 1) (p ++ [num2 rightF p (p.length : Int)]) (by omega) (by omega) (by simp) (Us_snoc hU q2)
  rw [show 64 - (p.length + 1) = 63 - p.length by omega] at this
  rw [this]
  rfl
theorem sched_same {b : List Int} (hb : b.length = 64) (hB : Bytes b) : schedF b zeros64 = sch2F (sch1F b) := by
 have z : zeros64 = [] ++ List.replicate (64 - 0) 0 := by rfl
 obtain ⟨h1, h2⟩ := stage1 hb hB turnF 16 0 [] rfl rfl (fun x hx => by cases hx)
 have hl : (sch1 b 0 16 []).length = 16 := sch1_len b 16 0 []
 unfold schedF
 rw [show (64 : Nat) = 16 + 48 from rfl, schedL_add, z, h1, Nat.zero_add]
 exact stage2 48 16 _ rfl (by omega) hl h2
theorem round_same {l0 l1 l2 l3 l4 l5 l6 l7 : Int} (h0 : U l0) (h4 : U l4) (k x : Int) : round1 rotF turnF [l0, l1, l2, l3, l4, l5, l6, l7] k x = roundR rightF [l0, l1, l2, l3, l4, l5, l6, l7] k x := by
 have ht : tF rotF turnF [l0, l1, l2, l3, l4, l5, l6, l7] k x = rT rightF l4 l5 l6 l7 k x := by
  show w3 (w3 (w3 (w3 (l7 + turnF l4 ((6 : Nat) : Int) ((11 : Nat) : Int) (rotF l4 (-((25 : Nat) : Int)))) + xorI .u32 (andI .u32 l4 l5) (andI .u32 (xorI .u32 4294967295 l4) l6)) + k) + x) = _
  rw [turn_right h4 6 11 (by omega) (by omega), rot_right h4 25 (by omega) (by omega), not_sub h4]
  rfl
 have hu : uF rotF turnF [l0, l1, l2, l3, l4, l5, l6, l7] = rU rightF l0 l1 l2 := by
  show w3 (turnF l0 ((2 : Nat) : Int) ((13 : Nat) : Int) (rotF l0 (-((22 : Nat) : Int))) + xorI .u32 (xorI .u32 (andI .u32 l0 l1) (andI .u32 l0 l2)) (andI .u32 l1 l2)) = _
  rw [turn_right h0 2 13 (by omega) (by omega), rot_right h0 22 (by omega) (by omega)]
  rfl
 unfold round1
 rw [ht, hu]
 rfl
theorem roundR_U {l0 l1 l2 l3 l4 l5 l6 l7 : Int} (h : Us [l0, l1, l2, l3, l4, l5, l6, l7]) (k x : Int) : Us (roundR rightF [l0, l1, l2, l3, l4, l5, l6, l7] k x) := by
 intro y hy
 have hy : y ∈ [w3 (rT rightF l4 l5 l6 l7 k x + rU rightF l0 l1 l2), l0, l1, l2, w3 (l3 + rT rightF l4 l5 l6 l7 k x), l4, l5, l6] := hy
 simp only [List.mem_cons, List.not_mem_nil, or_false] at hy
 rcases hy with rfl | rfl | rfl | rfl | rfl | rfl | rfl | rfl
 ·exact w3_U _
 ·exact h _ (by simp)
 ·exact h _ (by simp)
 ·exact h _ (by simp)
 ·exact w3_U _
 ·exact h _ (by simp)
 ·exact h _ (by simp)
 ·exact h _ (by simp)
theorem rounds_same (ks v : List Int) : ∀ (m i : Nat) (l : List Int), l.length = 8 → Us l → roundsL turnF rotF ks v i m l = rndsR rightF ks v i m l ∧ Us (rndsR rightF ks v i m l)
 | 0, i, l, h, hU => ⟨rfl, hU⟩
 | m + 1, i, l, h, hU => by
  obtain ⟨l0, l1, l2, l3, l4, l5, l6, l7, rfl⟩ := eight h
  rw [roundsL, round_same (hU _ (by simp)) (hU _ (by simp)), rndsR]
  exact rounds_same ks v m (i + 1) _ rfl (roundR_U hU _ _)
theorem add_same {l s : List Int} (hl : l.length = 8) (hs : s.length = 8) : addF l s = addRF s l ∧ Us (addRF s l) := by
 obtain ⟨l0, l1, l2, l3, l4, l5, l6, l7, rfl⟩ := eight hl
 obtain ⟨s0, s1, s2, s3, s4, s5, s6, s7, rfl⟩ := eight hs
 have e1 : addF [l0, l1, l2, l3, l4, l5, l6, l7] [s0, s1, s2, s3, s4, s5, s6, s7] = [w3 (s0 + l0), w3 (s1 + l1), w3 (s2 + l2), w3 (s3 + l3), w3 (s4 + l4), w3 (s5 + l5), w3 (s6 + l6), w3 (s7 + l7)] := rfl
 have e2 : addRF [s0, s1, s2, s3, s4, s5, s6, s7] [l0, l1, l2, l3, l4, l5, l6, l7] = [w3 (l0 + s0), w3 (l1 + s1), w3 (l2 + s2), w3 (l3 + s3), w3 (l4 + s4), w3 (l5 + s5), w3 (l6 + s6), w3 (l7 + s7)] := rfl
 rw [e1, e2, Int.add_comm l0, Int.add_comm l1, Int.add_comm l2, Int.add_comm l3, Int.add_comm l4, Int.add_comm l5, Int.add_comm l6, Int.add_comm l7]
 refine ⟨rfl, fun y hy => ?_⟩
 simp only [List.mem_cons, List.not_mem_nil, or_false] at hy
 rcases hy with rfl | rfl | rfl | rfl | rfl | rfl | rfl | rfl <;> exact w3_U _
theorem mix_block {s b : List Int} (hs : s.length = 8) (hU : Us s) (hb : b.length = 64) (hB : Bytes b) : mixF s b = blockF s b ∧ Us (blockF s b) := by
 obtain ⟨r1, r2⟩ := rounds_same consts (sch2F (sch1F b)) 64 0 s hs hU
 have hlen : (rndsF consts (sch2F (sch1F b)) s).length = 8 := rndsR_len rightF consts _ 64 0 s hs
 obtain ⟨a1, a2⟩ := add_same hlen hs
 refine ⟨?_, a2⟩
 unfold mixF blockF
 rw [sched_same hb hB]
 show addF (roundsL turnF rotF consts (sch2F (sch1F b)) 0 64 s) s = _
 rw [r1]
 exact a1
theorem abs_blocks : ∀ (n : Nat) (s a : List Int), a.length / 64 = n → s.length = 8 → Us s → Bytes a → (absF s a).1 = blocksF n s a ∧ Us (blocksF n s a)
 | 0, s, a, h, hs, hU, hB => ⟨by rw [absF_short (by omega)]; rfl, hU⟩
 | n + 1, s, a, h, hs, hU, hB => by
  obtain ⟨m1, m2⟩ := mix_block hs hU (b := a.take 64) (by rw [List.length_take]; omega) (fun x hx => hB x (List.mem_of_mem_take hx))
  rw [absF_long (by omega), m1, blocksF]
  exact abs_blocks n _ _ (by rw [List.length_drop]; omega) (blockF_len _ hs) m2 (fun x hx => hB x (List.mem_of_mem_drop hx))
theorem out_same {s : List Int} (hs : s.length = 8) (hU : Us s) : outF s zeros32 = put8F s zeros32 := by
 obtain ⟨s0, s1, s2, s3, s4, s5, s6, s7, rfl⟩ := eight hs
 have b3 : ∀ x, U x → wb (shrI .u32 x 24) = wb (w3 (x.tdiv 16777216)) := fun x hx => by rw [show shrI .u32 x 24 = w3 (x.tdiv ((2 ^ 24 : Nat) : Int)) from shr_div hx 24 (by omega)]; rfl
 have b2 : ∀ x, U x → wb (shrI .u32 x 16) = wb ((w3 (x.tdiv 65536)).tmod 256) := fun x hx => by
  rw [show shrI .u32 x 16 = w3 (x.tdiv ((2 ^ 16 : Nat) : Int)) from shr_div hx 16 (by omega)]
  show wb (w3 (x.tdiv 65536)) = _
  have := (w3_U (x.tdiv 65536)).1
  generalize w3 (x.tdiv 65536) = y at this ⊢
  rw [wb_mod, wb_mod, Int.tmod_eq_emod_of_nonneg this]; omega
 have b1 : ∀ x, U x → wb (shrI .u32 x 8) = wb ((w3 (x.tdiv 256)).tmod 256) := fun x hx => by
  rw [show shrI .u32 x 8 = w3 (x.tdiv ((2 ^ 8 : Nat) : Int)) from shr_div hx 8 (by omega)]
  show wb (w3 (x.tdiv 256)) = _
  have := (w3_U (x.tdiv 256)).1
  generalize w3 (x.tdiv 256) = y at this ⊢
  rw [wb_mod, wb_mod, Int.tmod_eq_emod_of_nonneg this]; omega
 have b0 : ∀ x, U x → wb (shrI .u32 x 0) = wb (x.tmod 256) := fun x hx => by
  rw [show shrI .u32 x 0 = w3 (x.tdiv ((2 ^ 0 : Nat) : Int)) from shr_div hx 0 (by omega)]
  show wb (w3 (x.tdiv 1)) = _
  rw [Int.tdiv_one, w3_id hx, wb_mod, wb_mod, Int.tmod_eq_emod_of_nonneg hx.1]; omega
 have four : ∀ x, U x → [wb (shrI .u32 x 24), wb (shrI .u32 x 16), wb (shrI .u32 x 8), wb (shrI .u32 x 0)] = [wb (w3 (x.tdiv 16777216)), wb ((w3 (x.tdiv 65536)).tmod 256), wb ((w3 (x.tdiv 256)).tmod 256), wb (x.tmod 256)] := fun x hx => by rw [b3 x hx, b2 x hx, b1 x hx, b0 x hx]
 have h0 := four s0 (hU _ (by simp))
 have h1 := four s1 (hU _ (by simp))
 have h2 := four s2 (hU _ (by simp))
 have h3 := four s3 (hU _ (by simp))
 have h4 := four s4 (hU _ (by simp))
 have h5 := four s5 (hU _ (by simp))
 have h6 := four s6 (hU _ (by simp))
 have h7 := four s7 (hU _ (by simp))
 have e1 : outF [s0, s1, s2, s3, s4, s5, s6, s7] zeros32 = [wb (shrI .u32 s0 24), wb (shrI .u32 s0 16), wb (shrI .u32 s0 8), wb (shrI .u32 s0 0)] ++ ([wb (shrI .u32 s1 24), wb (shrI .u32 s1 16), wb (shrI .u32 s1 8), wb (shrI .u32 s1 0)] ++ ([wb (shrI .u32 s2 24), wb (shrI .u32 s2 16), wb (shrI .u32 s2 8), wb (shrI .u32 s2 0)] ++
  ([wb (shrI .u32 s3 24), wb (shrI .u32 s3 16), wb (shrI .u32 s3 8), wb (shrI .u32 s3 0)] ++ ([wb (shrI .u32 s4 24), wb (shrI .u32 s4 16), wb (shrI .u32 s4 8), wb (shrI .u32 s4 0)] ++ ([wb (shrI .u32 s5 24), wb (shrI .u32 s5 16), wb (shrI .u32 s5 8), wb (shrI .u32 s5 0)] ++
  ([wb (shrI .u32 s6 24), wb (shrI .u32 s6 16), wb (shrI .u32 s6 8), wb (shrI .u32 s6 0)] ++ [wb (shrI .u32 s7 24), wb (shrI .u32 s7 16), wb (shrI .u32 s7 8), wb (shrI .u32 s7 0)])))))) := by kernel_rfl
 have e2 : put8F [s0, s1, s2, s3, s4, s5, s6, s7] zeros32 = [wb (w3 (s0.tdiv 16777216)), wb ((w3 (s0.tdiv 65536)).tmod 256), wb ((w3 (s0.tdiv 256)).tmod 256), wb (s0.tmod 256)] ++ ([wb (w3 (s1.tdiv 16777216)), wb ((w3 (s1.tdiv 65536)).tmod 256), wb ((w3 (s1.tdiv 256)).tmod 256), wb (s1.tmod 256)] ++ ([wb (w3 (s2.tdiv 16777216)), wb ((w3 (s2.tdiv 65536)).tmod 256), wb ((w3 (s2.tdiv 256)).tmod 256), wb (s2.tmod 256)] ++ ([wb (w3 (s3.tdiv 16777216)), wb ((w3 (s3.tdiv 65536)).tmod 256), wb ((w3 (s3.tdiv 256)).tmod 256), wb (s3.tmod 256)] ++ ([wb (w3 (s4.tdiv 16777216)), wb ((w3 (s4.tdiv 65536)).tmod 256), wb ((w3 (s4.tdiv 256)).tmod 256), wb (s4.tmod 256)] ++ ([wb (w3 (s5.tdiv 16777216)), wb ((w3 (s5.tdiv 65536)).tmod 256), wb ((w3 (s5.tdiv 256)).tmod 256), wb (s5.tmod 256)] ++ ([wb (w3 (s6.tdiv 16777216)), wb ((w3 (s6.tdiv 65536)).tmod 256), wb ((w3 (s6.tdiv 256)).tmod 256), wb (s6.tmod 256)] ++ ([wb (w3 (s7.tdiv 16777216)), wb ((w3 (s7.tdiv 65536)).tmod 256), wb ((w3 (s7.tdiv 256)).tmod 256), wb (s7.tmod 256)]))))))) := by kernel_rfl
 rw [e1, h0, h1, h2, h3, h4, h5, h6, h7, e2]
theorem tail_byte {n i : Nat} (hn : n < 2305843009213693952) (hi : i ≤ 7) : wb (shrI .u64 (shlI .u64 (n : Int) 3) (w (8 * (i : Int)))) = wb ((wu (((8 * n : Nat) : Int).tdiv (unit1 i))).tmod 256) := by
 have e1 : shlI .u64 (n : Int) 3 = ((8 * n : Nat) : Int) := by
  unfold shlI
  show wu ((n : Int) * 2 ^ (min (3 : Int).toNat 64)) = _
  have : min (3 : Int).toNat 64 = 3 := by decide
  rw [this, wu_id (by omega) (by omega)]
  omega
 have e2 : w (8 * (i : Int)) = ((8 * i : Nat) : Int) := (w_id (by omega) (by omega)).trans (by omega)
 have e3 : unit1 i = ((2 ^ (8 * i) : Nat) : Int) := by
  unfold unit1
  rw [Nat.pow_mul]
  exact (Int.natCast_pow 256 i).symm
 have e4 : shrI .u64 ((8 * n : Nat) : Int) ((8 * i : Nat) : Int) = ((8 * n / 2 ^ (8 * i) : Nat) : Int) := by
  unfold shrI
  have hmin : min (((8 * i : Nat) : Int)).toNat IntKind.u64.bits = 8 * i := by
   rw [Int.toNat_natCast]; show min (8 * i) 64 = 8 * i; omega
  rw [hmin, Int.fdiv_eq_ediv_of_nonneg _ (by exact_mod_cast Nat.zero_le _), Int.natCast_ediv, Int.natCast_pow]; rfl
 have e5 : ((8 * n : Nat) : Int).tdiv ((2 ^ (8 * i) : Nat) : Int) = ((8 * n / 2 ^ (8 * i) : Nat) : Int) := by
  rw [Int.tdiv_eq_ediv_of_nonneg (by omega)]; exact (Int.natCast_ediv _ _).symm
 have hle : 8 * n / 2 ^ (8 * i) ≤ 8 * n := Nat.div_le_self _ _
 rw [e1, e2, e4, e3, e5]
 generalize 8 * n / 2 ^ (8 * i) = y at hle ⊢
 rw [wu_id (by omega) (by omega), wb_mod, wb_mod, Int.tmod_eq_emod_of_nonneg (by omega)]
 omega
theorem fill_same {b : List Int} (hb : b.length ≤ 10000000000) : b ++ fillF (hashOf b) = filledF b := by
 have hm : (hashOf b).2.2.1 = (b.length : Int) := by
  show wu (0 + wu (b.length : Int)) = _
  rw [wu_id (x := (b.length : Int)) (by omega) (by omega), wu_id (by omega) (by omega)]; omega
 have hr : (hashOf b).2.1.length = b.length % 64 := by
  show (absF h0.1 (h0.2.1 ++ b)).2.length = _
  rw [abs_rest]
  rfl
 have hp : padN ((hashOf b).2.1.length + 1) = padM (b.length + 1) := by
  rw [hr]; unfold padN padM; omega
 have ht : tail8 (hashOf b) = tailF (wu (w (8 * (b.length : Int)))) := by
  have e1 : wu (w (8 * (b.length : Int))) = ((8 * b.length : Nat) : Int) := by
   rw [w_id (by omega) (by omega), wu_id (by omega) (by omega)]; omega
  have tb : ∀ i : Nat, i ≤ 7 → tailB (hashOf b) i = wb ((wu (((8 * b.length : Nat) : Int).tdiv (unit1 i))).tmod 256) := fun i hi => by
   unfold tailB
   rw [hm]
   exact tail_byte (by omega) hi
  rw [e1]
  unfold tail8
  rw [tb 7 (by omega), tb 6 (by omega), tb 5 (by omega), tb 4 (by omega), tb 3 (by omega), tb 2 (by omega), tb 1 (by omega), tb 0 (by omega)]
  rfl
 unfold fillF filledF padL padR
 rw [ht, List.length_append, List.length_singleton]
 rw [hp]
 simp only [List.append_assoc]
theorem init_U : Us init := by
 intro x hx
 have : ∀ x ∈ init, 0 ≤ x ∧ x < 4294967296 := by decide
 exact this x hx
theorem filled_bytes {b : List Int} (hB : Bytes b) : Bytes (filledF b) := by
 have hw : ∀ x, 0 ≤ wb x ∧ wb x < 256 := fun x => by rw [wb_mod]; omega
 have ht : ∀ (n : Int) (m : Nat), Bytes (tailR n m) := by
  intro n m
  induction m with
  | zero => intro x hx; cases hx
  | succ m ih =>
   intro x hx
   rcases List.mem_cons.1 hx with rfl | hx
   ·exact hw _
   ·exact ih x hx
 intro x hx
 unfold filledF padR at hx
 simp only [List.mem_append, List.mem_singleton, List.mem_replicate] at hx
 rcases hx with ((hx | hx) | hx) | hx
 ·exact hB x hx
 ·subst hx; omega
 ·obtain ⟨_, rfl⟩ := hx; omega
 ·exact ht _ _ x hx
theorem sums_same {b : List Int} (hB : Bytes b) (hb : b.length ≤ 10000000000) : shaF b = rsumF b := by
 have hl := filledF_len b
 have h1 : (writeF (fillF (hashOf b)) ((hashOf b).1, (hashOf b).2.1, 0, ())).1 = (absF init (filledF b)).1 := by
  show (absF (absF h0.1 (h0.2.1 ++ b)).1 ((absF h0.1 (h0.2.1 ++ b)).2 ++ fillF (hashOf b))).1 = _
  show (absF (absF init b).1 ((absF init b).2 ++ fillF (hashOf b))).1 = _
  rw [absF_append _ init b _ rfl, fill_same hb]
 obtain ⟨a1, a2⟩ := abs_blocks _ init (filledF b) rfl rfl init_U (filled_bytes hB)
 have hlen : (blocksF ((filledF b).length / 64) init (filledF b)).length = 8 := blocksF_len _ _ _ rfl
 rw [shaF_hash]
 unfold sumH rsumF blkF
 rw [h1, a1, out_same hlen a2]
end Go.Proofs.Ytffdkniccaebmaa.Sha
end
end
section
section
set_option linter.unusedVariables false
namespace Vse
open Go Go.ChangeShapes
end Vse
end
section
set_option linter.unusedVariables false
namespace Vse
open Go Go.ChangeShapes
section
variable {P : Program} {C : Ctx} {L : Loops} {g : G} {H : Heap} {w : World}
end
end Vse
end
section
set_option linter.unusedVariables false
namespace Vse
open Go Go.Sort
section
variable {P : Program} {g : G} {H : Heap} {w : World}
theorem HInv.later (h : HInv g H w) {w' : World} (hh : ∀ (b : Nat) (o : Obj), w.heap[b]? = some o → w'.heap[b]? = some o) (hx : Goes w w') : HInv g H w' :=
 ⟨h.sh, fun b o x => hh b o (h.fr b o x), fun b o x => hh b o (h.gr b o x), fun e => ERep_world (fun b _ o ho => hh b o ho) (h.ent e), h.own, h.sep, h.dis, h.ext.goes hx⟩
theorem setRow_put {w : World} {b : Nat} {cs : Array Value} {t : TypeId} {fz : Nat × Nat} (h : w.heap[b]? = some (.cells cs t fz)) (F : Array Value) : putRow id w b 0 F = w.setRow b (putCells id 0 F cs) := by
 unfold putRow mapBlock World.setRow
 congr 1
 apply Array.ext_getElem?
 intro k
 simp only [Array.getElem?_modify]
 by_cases hk : b = k
 ·subst hk
  simp only [if_true, h]
  rfl
 ·simp only [if_neg hk]
theorem putCells_list {cs F : Array Value} {vs r : List Value} (hcs : cs.toList = vs ++ r) (hF : F.size = vs.length) : (putCells id 0 F cs).toList = F.toList ++ r := by
 have hsz : cs.size = vs.length + r.length := by rw [← Array.length_toList, hcs, List.length_append]
 apply List.ext_getElem
 ·simp [putCells, hsz, hF]
 ·intro i h1 h2
  have h1' : i < cs.size := by simpa [putCells] using h1
  have e1 : (putCells id 0 F cs).toList[i] = if 0 ≤ i ∧ i < 0 + F.size then F[i]! else cs[i] := by
   simp [putCells]
  rw [e1]
  by_cases hi : i < F.size
  ·rw [if_pos ⟨Nat.zero_le _, by omega⟩, List.getElem_append_left (by simpa using hi), getElem!_pos F i hi, Array.getElem_toList]
  ·rw [if_neg (by omega), List.getElem_append_right (by simpa using Nat.not_lt.1 hi)]
   have : cs[i] = cs.toList[i]'(by simpa using h1') := (Array.getElem_toList (h := h1')).symm
   rw [this]
   simp only [hcs]
   rw [List.getElem_append_right (by omega)]
   congr 1
   have : F.toList.length = vs.length := by rw [Array.length_toList, hF]
   omega
end
end Vse
end
end
section
set_option linter.unusedVariables false
namespace Vse
open Go Go.ChangeShapes Go.Proofs Go.Shelf
section
variable {P : Program} {C : Ctx} {L : Loops}
theorem clone_sound (hC : CtxSound P C ∧ CtxLocal C) {k : Nat} {fn : Func} (hf : P.funcs[k]? = some fn) {A : Ty} (hA : A.still true = true) (hA' : A.still false = true)
  (hside : ((fn.name == "runtime.NumGoroutine") == false && fn.body.isSome) = true)
  (hl : ∀ b ∈ loopsOf (bodyOf fn), LoopOK P L b)
  (hn : ∀ (n c : Nat) (w : World), Calls P k #[.slice none n c] w fun e w' => e = .returned (.slice none 0 0) ∧ w' = w)
  {q : Bool} {pre : List A.den → Bool} (h1 : ∀ l : List A.den, pre l = true → nrm (fnS P C L [.imm true false A] fn (mkArgs [.imm q true A] (l, ()))) = some (.v (.imm true false A) l)) :
  CSound P k (CSpec.slp1 [.imm q false A] (fun xs => pre xs.1) (.imm true false A) fun xs => xs.1) ∧ CLocal (CSpec.slp1 [.imm q false A] (fun xs => pre xs.1) (.imm true false A) fun xs => xs.1) := by
 simp only [Bool.and_eq_true, beq_iff_eq] at hside
 obtain ⟨hname, hb⟩ := hside
 obtain ⟨body, hb⟩ := Option.isSome_iff_exists.1 hb
 have hl : LoopsOK P L body := by
  refine loopsOK_all ?_
  unfold bodyOf at hl
  rw [hb] at hl
  exact hl
 have hAs : ([Ty.imm q false A].all fun A => A.still false) = true := by simp [Ty.still, hA']
 refine ⟨⟨fun args w => callFunc_enter hf hname hb args w, ?_⟩, slp_local _ _ _ _⟩
 intro g H w vs rvs fr out hI hargs _ he
 simp only [CSpec.slp1, CSpec.slp] at he
 rw [takeE_takeAs] at he
 split at he
 ·rename_i xs hxs
  obtain ⟨hp, he⟩ := Tr.chk_some he
  have := Tr.ret_some he
  subst this
  have hargs' := takeAs_rep hI hAs hargs hxs
  obtain ⟨l, u⟩ := xs
  obtain ⟨r, rs, rfl, hv, hr⟩ := hargs'
  have hr : rs = [] := hr
  subst hr
  have hv := (VRep_v (by simp)).1 hv
  simp only [TRep, Ty.agg, Ty.sk, Sk.agg, Bool.false_eq_true, if_false, Rep, List.cons.injEq, and_true] at hv
  obtain ⟨pv, cap, rfl, hcap, _, hne⟩ := hv
  cases pv with
  | none =>
   have hl0 : l = [] := by
    cases l with
    | nil => rfl
    | cons a t => obtain ⟨_, _, h, _⟩ := hne (by simp); cases h
   subst hl0
   refine (hn _ _ w).mono ?_
   rintro e w' ⟨rfl, rfl⟩
   refine ⟨_, g, rfl, G.le.refl g, hI, ?_⟩
   show VRep g (.v (.imm true false A) []) (.slice none 0 0)
   refine (VRep_v (by simp)).2 ?_
   simp only [TRep, Ty.agg, Ty.sk, Sk.agg, Bool.false_eq_true, if_false, Rep, List.cons.injEq, and_true]
   exact ⟨none, 0, rfl, ⟨Nat.le_refl _, Nat.zero_le _⟩, by simp, fun h => absurd rfl h⟩
  | some ad =>
   have hargs2 : argsRep (g.lend H w) (mkArgs [.imm q true A] (l, ())) [.slice (some ad) l.length cap] := by
    refine ⟨_, _, rfl, (VRep_v (by simp)).2 ?_, rfl⟩
    simp only [TRep, Ty.agg, Ty.sk, Sk.agg, Bool.false_eq_true, if_false, Rep, List.cons.injEq, and_true]
    exact ⟨some ad, cap, rfl, hcap, by simp, hne⟩
   obtain ⟨H', h5⟩ := nrm_some (h1 l hp)
   obtain ⟨r, h6, h7⟩ := Tr.bind_some h5
   have h7 := Tr.ret_some h7
   refine (fn_sound hC.1 hC.2 hf hb hl (lend_inv hI) hargs2 (fnK_ok h6)).mono ?_
   rintro e w' ⟨rv, g', rfl, hle, hI', hv⟩
   obtain ⟨g1, s1, s2, s3⟩ := sealR_rep [.imm true false A] (r := r) hI' hv
   rw [h7] at s2 s3
   obtain ⟨g'', q1, q2, q3⟩ := lend_back hI (hle.trans s1) s2
   exact ⟨rv, g'', rfl, q1, q2, still_VRep q3 (ofHL_still (Rs := [.imm true false A]) (by simp [stillL, Ty.still, hA]) (l, ())) s3⟩
 ·exact (Tr.fail_some he).elim
end
end Vse
end
section
set_option linter.unusedVariables false
namespace Vse
open Go Go.ChangeShapes
section
variable {F : Fence} {n : Nat} {P : Program} {Q : Exit → Act → World → Prop} {a : Act} {w : World}
theorem stepR_scope {b : Frame} {c : Code} {k : List Item} {cs : List Frame} : step P (lone (b.atR a (.code (.scope c) :: k)) cs w) = .next (lone (b.atR a (.code c :: .inScope c :: k)) cs w) :=
 step_lone_go (by simp [stepG, stepG.exec, Frame.atR])
theorem stepR_inScope {b : Frame} {c : Code} {k : List Item} {cs : List Frame} : step P (lone (b.atR a (.inScope c :: k)) cs w) = .next (lone (b.atR a k) cs w) :=
 step_lone_go (by simp [stepG, stepG.exec, Frame.atR])
theorem wpIn_scope {c : Code} (h : c.wpIn F n P (Exit.noGoto Q) a w) : (Code.scope c).wpIn F n P Q a w := by
 intro b k cs hro hb hr
 have h0 : (lone (b.atR a (.code (.scope c) :: k)) cs w).fenced P F := fenced_calm hb hr rfl
 obtain ⟨e, a₁, w₁, hq, harr⟩ := h b (.inScope c :: k) cs hro hb hr
 cases e with
 | normal => exact ⟨.normal, a₁, w₁, hq, StepsIn.head h0 stepR_scope (StepsIn.trans harr (.one (fenced_calm hb hr rfl) stepR_inScope))⟩
 | exit id => exact ⟨.exit id, a₁, w₁, hq, .of_steps (.one h0 stepR_scope) ⟨fun k' hk => harr.1 k' (by simp [exitTo, hk]), fun hr2 hk => harr.2 hr2 (by simp [exitTo, hk])⟩⟩
 | goto l => exact hq.elim
 | ret => exact ⟨_, a₁, w₁, hq, .of_steps (.one h0 stepR_scope) harr⟩
 | panic ch => exact ⟨_, a₁, w₁, hq, .of_steps (.one h0 stepR_scope) harr⟩
 | outgrown => exact ⟨_, a₁, w₁, hq, .of_steps (.one h0 stepR_scope) harr⟩
theorem scope_ok {rn : St → Tr (Ex × St)} {c : Code} (h : RunOK P rn c) : RunOK P rn (.scope c) := by
 intro g st st' a w x Q hs hm he hn
 refine wpIn_scope (h hs hm he fun g' a' w' hle hs' hm' => ?_)
 have := hn g' a' w' hle hs' hm'
 cases x <;> exact this
end
def runS (P : Program) (C : Ctx) (L : Loops) : Code → St → Tr (Ex × St)
 | .seq a b, st => (run P C L a st).bind fun r => match r with
  | (.normal, s) => runS P C L b s
  | r => .ret r
 | .scope c, st => run P C L c st
 | c, st => run P C L c st
def LoopsS (P : Program) (L : Loops) : Code → Prop
 | .seq a b => LoopsOK P L a ∧ LoopsS P L b
 | .scope c => LoopsOK P L c
 | c => LoopsOK P L c
theorem runS_ok {P : Program} {C : Ctx} {L : Loops} (hC : CtxSound P C ∧ CtxLocal C) : ∀ (c : Code), LoopsS P L c → RunOK P (runS P C L c) c := by
 intro c
 induction c with
 | seq p q ihp ihq =>
  intro hl g st st' a w x Q hs hm he hn
  obtain ⟨r, h1, h2⟩ := Tr.bind_some (show ((run P C L p st).bind fun r => match r with | (.normal, s) => runS P C L q s | r => .ret r).eval = _ from he)
  obtain ⟨y, s⟩ := r
  refine wpIn_seq (run_ok hC p hl.1 hs hm h1 fun g' a' w' hle hs' hm' => ?_)
  cases y with
  | normal =>
   simp only [Ex.out, Exit.then]
   exact ihq hl.2 hs' hm' h2 fun g'' a'' w'' hle' hs'' hm'' => hn g'' a'' w'' (hle.trans hle') hs'' hm''
  | exit i =>
   have := Tr.ret_some h2
   simp only [Prod.mk.injEq] at this
   obtain ⟨rfl, rfl⟩ := this
   exact hn g' a' w' hle hs' hm'
  | ret =>
   have := Tr.ret_some h2
   simp only [Prod.mk.injEq] at this
   obtain ⟨rfl, rfl⟩ := this
   exact hn g' a' w' hle hs' hm'
 | scope c ih => intro hl; exact scope_ok (run_ok hC c hl)
 | _ => intro hl; exact run_ok hC _ hl
def loopsOfS : Code → List Code
 | .seq a b => loopsOf a ++ loopsOfS b
 | .scope c => loopsOf c
 | c => loopsOf c
theorem loopsS_all {P : Program} {L : Loops} : ∀ {c : Code}, (∀ b ∈ loopsOfS c, LoopOK P L b) → LoopsS P L c := by
 intro c
 induction c with
 | seq a b iha ihb => intro h; exact ⟨loopsOK_all fun d hd => h d (List.mem_append_left _ hd), ihb fun d hd => h d (List.mem_append_right _ hd)⟩
 | scope c ih => intro h; exact loopsOK_all h
 | _ => intro h; exact loopsOK_all h
def fnPX (P : Program) (rn : St → Tr (Ex × St)) (S : PSpec) (fn : Func) (xs : HL S.As) (hs : HD S.Es) : Tr S.Out :=
 (fnTX P rn fn (mkArgs S.As xs) (encH S.Es hs)).bind fun r => match S.norm r with
  | some d => .ret d
  | none => .fail
theorem pos_scope {P : Program} {C : Ctx} {L : Loops} (hC : CtxSound P C ∧ CtxLocal C) {k : Nat} {fn : Func} (hf : P.funcs[k]? = some fn) {c : Code} (hb : fn.body = some c) (hname : (fn.name == "runtime.NumGoroutine") = false)
  (hl : ∀ b ∈ loopsOfS c, LoopOK P L b) {S : PSpec} {pre : HL S.As → HD S.Es → Bool} {f : HL S.As → HD S.Es → S.Out}
  (h1 : ∀ xs hs, HL.ok S.As xs → HD.ok S.Es hs → pre xs hs = true → (fnPX P (runS P C L c) S fn xs hs).eval = some (f xs hs)) : CSound P k (CSpec.pos S pre f) ∧ CLocal (CSpec.pos S pre f) :=
 pos_soundX (fnX := fnTX P (runS P C L c) fn) (fun args w => callFunc_enter hf hname hb args w) (fun hI hargs he => fn_soundX hf hb (runS_ok hC c (loopsS_all hl)) hI hargs he) h1
end Vse
end
section
set_option linter.unusedVariables false
namespace Vse
open Go Go.ChangeShapes
structure Cut where
 depth : Nat
 E0 : List ETy
 inis : List IniT
 live : List Nat
 Ts : List Ty
 Es : List ETy
 nt : Nat
end Vse
end
section
set_option linter.unusedVariables false
namespace Vse
open Go Go.ChangeShapes
abbrev CutE (K : Cut) : Type := (HL K.Ts × HD K.Es) ⊕ (Ex × St)
def cutR (K : Cut) (r : Ex × St) : Tr (CutE K) := match r with
 | (.normal, s) => if heapIs K.E0 s.heap then match renTo K.E0 K.inis K.live K.Ts K.Es K.nt s with
  | some d => .ret (.inl d)
  | none => .fail
  else .fail
 | r => .ret (.inr r)
def headC (P : Program) (C : Ctx) (L : Loops) (K : Cut) : Nat → Code → St → Tr (CutE K)
 | 0, .seq a b, st => (run P C L a st).bind (cutR K)
 | n + 1, .seq a b, st => (run P C L a st).bind fun r => match r with
  | (.normal, s) => headC P C L K n b s
  | r => .ret (.inr r)
 | _, _, _ => .fail
def restC : Nat → Code → Code
 | 0, .seq a b => b
 | n + 1, .seq a b => restC n b
 | _, c => c
def runCuts (P : Program) (C : Ctx) (L : Loops) : List Cut → Code → St → Tr (Ex × St)
 | [], c, st => run P C L c st
 | K :: Ks, c, st => (headC P C L K K.depth c st).bind fun r => match r with
  | .inl d => runCuts P C L Ks (restC K.depth c) (encS K.live K.Ts K.Es K.nt d.1 d.2)
  | .inr r => .ret r
theorem headC_ok {P : Program} {C : Ctx} {L : Loops} (hC : CtxSound P C ∧ CtxLocal C) (K : Cut) {rn : St → Tr (Ex × St)} : ∀ (n : Nat) (c : Code), LoopsOK P L c → RunOK P rn (restC n c) →
  RunOK P (fun st => (headC P C L K n c st).bind fun r => match r with
   | .inl d => rn (encS K.live K.Ts K.Es K.nt d.1 d.2)
   | .inr r => .ret r) c := by
 intro n
 induction n with
 | zero =>
  intro c hl hr g st st' a w x Q hs hm he hn
  cases c with
  | seq p q =>
   obtain ⟨e, h0, h3⟩ := Tr.bind_some he
   obtain ⟨r, h1, h2⟩ := Tr.bind_some (show ((run P C L p st).bind (cutR K)).eval = _ from h0)
   obtain ⟨y, s⟩ := r
   refine wpIn_seq (run_ok hC p hl.1 hs hm h1 fun g' a' w' hle hs' hm' => ?_)
   cases y with
   | normal =>
    simp only [Ex.out, Exit.then]
    unfold cutR at h2
    simp only at h2
    split at h2
    ·rename_i hh
     have h00 : ∀ t, isY (g'.sh t) K.E0[t]? := fun t => by rw [hs'.heap.sh]; exact heapIs_isY hh t
     split at h2
     ·rename_i d hd
      have := Tr.ret_some h2
      subst this
      obtain ⟨g3, q1, q2⟩ := renTo_rep (G.le.refl g') hs' h00 hd
      exact hr q2 (by rw [q1.ext]; exact hm'.mono q1) h3 fun g'' a'' w'' hle' hs'' hm'' => hn g'' a'' w'' ((hle.trans q1.d).trans hle') hs'' hm''
     ·exact (Tr.fail_some h2).elim
    ·exact (Tr.fail_some h2).elim
   | exit i =>
    have := Tr.ret_some h2
    subst this
    have := Tr.ret_some h3
    simp only [Prod.mk.injEq] at this
    obtain ⟨rfl, rfl⟩ := this
    exact hn g' a' w' hle hs' hm'
   | ret =>
    have := Tr.ret_some h2
    subst this
    have := Tr.ret_some h3
    simp only [Prod.mk.injEq] at this
    obtain ⟨rfl, rfl⟩ := this
    exact hn g' a' w' hle hs' hm'
  | _ => obtain ⟨e, h0, h3⟩ := Tr.bind_some he; exact (Tr.fail_some h0).elim
 | succ n ih =>
  intro c hl hr g st st' a w x Q hs hm he hn
  cases c with
  | seq p q =>
   obtain ⟨e, h0, h3⟩ := Tr.bind_some he
   obtain ⟨r, h1, h2⟩ := Tr.bind_some (show ((run P C L p st).bind fun r => match r with
    | (.normal, s) => headC P C L K n q s
    | r => (.ret (.inr r) : Tr (CutE K))).eval = _ from h0)
   obtain ⟨y, s⟩ := r
   refine wpIn_seq (run_ok hC p hl.1 hs hm h1 fun g' a' w' hle hs' hm' => ?_)
   cases y with
   | normal =>
    simp only [Ex.out, Exit.then]
    refine ih q hl.2 hr hs' hm' ?_ fun g'' a'' w'' hle' hs'' hm'' => hn g'' a'' w'' (hle.trans hle') hs'' hm''
    rw [Tr.eval_bind, show (headC P C L K n q s).eval = some e from h2]
    exact h3
   | exit i =>
    have := Tr.ret_some h2
    subst this
    have := Tr.ret_some h3
    simp only [Prod.mk.injEq] at this
    obtain ⟨rfl, rfl⟩ := this
    exact hn g' a' w' hle hs' hm'
   | ret =>
    have := Tr.ret_some h2
    subst this
    have := Tr.ret_some h3
    simp only [Prod.mk.injEq] at this
    obtain ⟨rfl, rfl⟩ := this
    exact hn g' a' w' hle hs' hm'
  | _ => obtain ⟨e, h0, h3⟩ := Tr.bind_some he; exact (Tr.fail_some h0).elim
theorem restC_loops {P : Program} {L : Loops} : ∀ {n : Nat} {c : Code}, LoopsOK P L c → LoopsOK P L (restC n c)
 | 0, c, h => by
  cases c with
  | seq p q => exact h.2
  | _ => exact h
 | n + 1, c, h => by
  cases c with
  | seq p q => exact restC_loops (n := n) h.2
  | _ => exact h
theorem runCuts_ok {P : Program} {C : Ctx} {L : Loops} (hC : CtxSound P C ∧ CtxLocal C) : ∀ (Ks : List Cut) (c : Code), LoopsOK P L c → RunOK P (runCuts P C L Ks c) c
 | [], c, hl => fun hs hm he hn => run_ok hC c hl hs hm he hn
 | K :: Ks, c, hl => headC_ok hC K K.depth c hl (runCuts_ok hC Ks _ (restC_loops hl))
def finC (P : Program) (S : PSpec) (fn : Func) (r : Ex × St) : Tr S.Out := match r with
 | (.exit _, _) => .fail
 | (_, s) => match resT P fn s with
  | some v => match S.norm (v, s.heap) with
   | some d => .ret d
   | none => .fail
  | none => .fail
def stC (P : Program) (C : Ctx) (L : Loops) (S : PSpec) (fn : Func) (Ks : List Cut) (c : Code) (st : St) : Tr S.Out := (runCuts P C L Ks c st).bind (finC P S fn)
theorem fnPX_st {P : Program} {C : Ctx} {L : Loops} {S : PSpec} {fn : Func} {Ks : List Cut} {c : Code} {xs : HL S.As} {hs : HD S.Es} :
  (fnPX P (runCuts P C L Ks c) S fn xs hs).eval = (stC P C L S fn Ks c (begin_ fn (mkArgs S.As xs) (encH S.Es hs))).eval := by
 unfold fnPX fnTX stC
 rw [Tr.eval_bind, Tr.eval_bind, Tr.eval_bind]
 cases (runCuts P C L Ks c (begin_ fn (mkArgs S.As xs) (encH S.Es hs))).eval with
 | none => rfl
 | some r =>
  obtain ⟨x, s⟩ := r
  simp only [Option.bind_some]
  cases x with
  | exit i => rfl
  | normal => simp only [finC]; cases h : resT P fn s <;> rfl
  | ret => simp only [finC]; cases h : resT P fn s <;> rfl
theorem pos_cuts {P : Program} {C : Ctx} {L : Loops} (hC : CtxSound P C ∧ CtxLocal C) (Ks : List Cut) {k : Nat} {fn : Func} (hf : P.funcs[k]? = some fn) {c : Code} (hb : fn.body = some c) (hname : (fn.name == "runtime.NumGoroutine") = false)
  (hl : ∀ b ∈ loopsOf c, LoopOK P L b) {S : PSpec} {pre : HL S.As → HD S.Es → Bool} {f : HL S.As → HD S.Es → S.Out}
  (h1 : ∀ xs hs, HL.ok S.As xs → HD.ok S.Es hs → pre xs hs = true → (stC P C L S fn Ks c (begin_ fn (mkArgs S.As xs) (encH S.Es hs))).eval = some (f xs hs)) : CSound P k (CSpec.pos S pre f) ∧ CLocal (CSpec.pos S pre f) :=
 pos_soundX (fnX := fnTX P (runCuts P C L Ks c) fn) (fun args w => callFunc_enter hf hname hb args w) (fun hI hargs he => fn_soundX hf hb (runCuts_ok hC Ks c (loopsOK_all hl)) hI hargs he)
  fun xs hs hx hh hp => fnPX_st.trans (h1 xs hs hx hh hp)
end Vse
end
section
set_option linter.unusedVariables false
namespace Vse
open Go Go.ChangeShapes Go.Proofs Go.Shelf
section
variable {P : Program} {C : Ctx} {L : Loops} {g : G} {H : Heap} {w : World}
def CSpec.grow0 (A : Ty) : CSpec :=
 ⟨1, fun _ _ => [], fun _ _ => [], fun vs _ fr => match vs with
  | [.v .nils _, .v (.int .i64) n] => .chk (decide (1 ≤ n ∧ n ≤ 140737488355328)) (.ret (.v (.vc fr 0) (), [(fr, .vec 0 A [])]))
  | _ => .fail⟩
theorem grow0_local (A : Ty) : CLocal (CSpec.grow0 A) where
 same vs H H' h := ⟨rfl, rfl⟩
 turns vs H fr out h x hx := by
  simp only [CSpec.grow0] at h
  split at h
  ·obtain ⟨_, h⟩ := Tr.chk_some h
   have := Tr.ret_some h
   subst this
   simp only [List.mem_singleton] at hx
   subst hx
   exact .inr (by simp [CSpec.grow0])
  ·exact (Tr.fail_some h).elim
theorem grow0_sound {A : Ty} (hA : A.sk = .leaf) {ρ : Ren} (hL : Lays8.n4 P ρ) {i0 : TypeInfo} {z : Value} (hi0 : P.info? (ρ.t 25) = some i0) (hz0 : i0.zero = some z) (hs0 : i0.size = 1) (hb0 : i0.bytes = 1) (hzc : z.cells = #[z]) (hzo : z.oneCell' = true)
  {kf : Nat} (hk : ρ.f 4 = kf) (henter : ∀ args w, (callFunc kf args).run P w = .ok (.enter kf args) w) : CSound P kf (CSpec.grow0 A) ∧ CLocal (CSpec.grow0 A) := by
 refine ⟨⟨henter, ?_⟩, grow0_local A⟩
 intro g H w vs rvs fr out hI hargs hfr he
 simp only [CSpec.grow0] at he
 split at he
 ·rename_i u n
  obtain ⟨hp, he⟩ := Tr.chk_some he
  have := Tr.ret_some he
  subst this
  have hp := of_decide_eq_true hp
  obtain ⟨n', hn'⟩ : ∃ m : Nat, n = (m : Int) := Int.eq_ofNat_of_zero_le (Int.le_trans (by decide) hp.1)
  subst hn'
  have hp : (1 : Int) ≤ (n' : Int) ∧ (n' : Int) ≤ 140737488355328 := hp
  rcases freeAt_one hfr with h0 | ⟨hf, hlt⟩
  ·cases h0
  obtain ⟨r1, rs, rfl, hv1, r2, rs2, rfl, hv2, hr3⟩ := hargs
  have hr3 : rs2 = [] := hr3
  subst hr3
  have hv := (VRep_v (by simp)).1 hv1
  simp only [TRep, Ty.agg, Ty.sk, Sk.agg, Bool.false_eq_true, if_false, Rep, List.cons.injEq, and_true] at hv
  subst hv
  obtain ⟨rfl, _⟩ := TRep_int.1 ((VRep_v (by simp)).1 hv2)
  have hcon := Any8.slices_Grow_grow hL i0 z hi0 hz0 (by omega) none 0 0 n' [] w (Nat.le_refl _) (by omega) (by rw [hb0]; omega) (by omega) (by simp) (fun _ => rfl) (fun a h => by cases h)
  rw [hk] at hcon
  refine hcon.mono ?_
  rintro ed w' ⟨rfl, rfl⟩
  rw [Nat.zero_add, hzc]
  have hG := Go.grownCap_ge w n' 0 (ρ.t 25)
  have hGm := Go.grownCap_le_maxLen w n' 0 (ρ.t 25) (by unfold maxLen; omega)
  generalize grownCap w n' 0 (ρ.t 25) = K at hG hGm ⊢
  unfold maxLen at hGm
  generalize hcs : ([] : List Value).toArray ++ Builtin.zeroCells #[z] (n' - 0) ++ Builtin.zeroCells #[z] (K - n') = cs
  have hsz : cs.size = K := by
   rw [← hcs]
   simp [Builtin.zeroCells]
   omega
  have hone : ∀ v ∈ cs.toList, v.oneCell' = true := by
   intro v hv
   rw [← hcs] at hv
   simp only [Builtin.zeroCells, Array.toList_append, Array.toList_map, List.mem_append, List.mem_map] at hv
   rcases hv with (h | ⟨i, _, rfl⟩) | ⟨i, _, rfl⟩
   ·cases h
   ·rw [show i % #[z].size = 0 from Nat.mod_one i]; exact hzo
   ·rw [show i % #[z].size = 0 from Nat.mod_one i]; exact hzo
  obtain ⟨g', w1, w2, w3, w4, w5⟩ := hI.newVec (w1 := w.drew) hf hlt 0 (a := A) (l := []) (cs := cs) (vs := []) (r := cs.toList) (ρ.t 25) rfl ⟨rfl, Nat.le_succ _⟩ rfl rfl hone
  refine ⟨_, g', rfl, w1, w2, (VRep_v (by simp)).2 (TRep_of_leaf rfl ?_)⟩
  simp only [Rep, G.vcr, w3]
  refine ⟨⟨_, rfl, rfl⟩, Nat.le_refl _, fun _ => .inr ⟨w.heap.size, K, w4, rfl, ⟨Nat.zero_le _, by omega⟩, ?_⟩⟩
  rw [w5, hsz]
  unfold Sk.nc
  rw [hA]
  simp
 ·exact (Tr.fail_some he).elim
end
end Vse
end
section
set_option linter.unusedVariables false
set_option maxRecDepth 100000
namespace Go.Proofs.Ytffdkniccaebmaa.Sto
open Go Vse Go.Proofs Fld
abbrev stT (v K : Nat) : Ty := .prod (.vc v K) (.prod i64 (.prod i64 (.prod i64 (.prod .bool .unit))))
abbrev D := (Unit × Int × Int × Int × Bool × Unit) × List Int × Unit
abbrev Ox := Int × Int × List Int × Unit
def D.b (d : D) : List Int := d.2.1
def D.sure (d : D) : Int := d.1.2.1
def D.room (d : D) : Int := d.1.2.2.1
def D.fuse (d : D) : Int := d.1.2.2.2.1
def D.down (d : D) : Bool := d.1.2.2.2.2.1
def mk (b : List Int) (sure room fuse : Int) (down : Bool) : D := (((), sure, room, fuse, down, ()), b, ())
abbrev R1 := (Int × Unit) × D
abbrev R0 := Unit × D
def er (e : Int) (d : D) : R1 := ((e, ()), d)
theorem bf {x y : Int} (h : ¬ x = y) : (x == y) = false := by simp [h]
theorem nt {x y : Int} (h : ¬ x = y) : (x != y) = true := by simp [h]
def rdyF (m : Int) (d : D) : R1 :=
 if d.down = true ∨ d.fuse = 0 then er 8 (mk d.b d.sure d.room d.fuse true)
 else er (if m > d.room then 7 else 0) (mk d.b d.sure d.room (if d.fuse = -1 then d.fuse else w (d.fuse - 1)) false)
def rdyG (m : Int) (d : D) : Tr R1 :=
 let E (e : Int) (fuse : Int) (down : Bool) : Tr R1 := .ret ((e, ()), ((), d.1.2.1, d.1.2.2.1, fuse, down, ()), d.2.1, ())
 let fin (fuse : Int) (down : Bool) : Tr R1 := .ite (decide (m > d.1.2.2.1)) (E 7 fuse down) (E 0 fuse down)
 .ite d.1.2.2.2.2.1 (E 8 d.1.2.2.2.1 true) (.ite (d.1.2.2.2.1 == 0) (E 8 d.1.2.2.2.1 (d.1.2.2.2.1 == 0)) (.ite (d.1.2.2.2.1 != -1) (fin (w (d.1.2.2.2.1 - 1)) (d.1.2.2.2.1 == 0)) (fin d.1.2.2.2.1 (d.1.2.2.2.1 == 0))))
theorem rdy_eq (m : Int) (d : D) : (rdyG m d).eval = some (rdyF m d) := by
 obtain ⟨⟨u, sure, room, fuse, down, u'⟩, b, u''⟩ := d
 simp only [rdyG, rdyF, D.down, D.fuse, D.b, D.sure, D.room, mk, er]
 cases down
 ·by_cases h0 : fuse = 0
  ·subst h0; rfl
  ·by_cases h1 : fuse = -1
   ·subst h1
    by_cases h2 : m > room <;> simp [Tr.eval, h2]
   ·by_cases h2 : m > room <;> simp [Tr.eval, h2, bf h0, nt h1, h0, h1]
 ·simp [Tr.eval]
def fits (d : D) (x : List Int) : Bool := room (d.b.length + x.length) 1
def appF (e : Int → D → R1) (x : List Int) (d : D) : R1 :=
 let q := e (w ((d.b.length : Int) + x.length)) d
 if q.1.1 = 0 then (q.1, q.2.1, q.2.2.1 ++ x, ()) else q
def appP (e : Int → D → R1) (x : List Int) (d : D) : Bool := fits (e (w ((d.b.length : Int) + x.length)) d).2 x
def appG (e : Int → D → R1) (x : List Int) (d : D) : Tr R1 :=
 let q := e (w ((d.2.1.length : Int) + x.length)) d
 .ite (q.1.1 == 0) (.chk (room (q.2.2.1.length + x.length) 1) (.ret (q.1, q.2.1, q.2.2.1 ++ x, ()))) (.ret q)
theorem app_eq (e : Int → D → R1) (x : List Int) (d : D) (h : appP e x d = true) : (appG e x d).eval = some (appF e x d) := by
 simp only [appP, fits, D.b] at h
 simp only [appG, appF, D.b, Tr.chk, h]
 by_cases h0 : (e (w ((d.2.1.length : Int) + x.length)) d).1.1 = 0
 ·simp [Tr.eval, h0]
 ·simp [Tr.eval, h0, bf h0]
def syncF (e : Int → D → R1) (d : D) : R1 :=
 let q := e 0 d
 if q.1.1 = 0 then (q.1, mk q.2.b q.2.b.length q.2.room q.2.fuse q.2.down) else q
def syncG (e : Int → D → R1) (d : D) : Tr R1 :=
 let q := e 0 d
 .ite (q.1.1 == 0) (.ret (q.1, ((), (q.2.2.1.length : Int), q.2.1.2.2.1, q.2.1.2.2.2.1, q.2.1.2.2.2.2.1, ()), q.2.2.1, ())) (.ret q)
theorem sync_eq (e : Int → D → R1) (d : D) : (syncG e d).eval = some (syncF e d) := by
 simp only [syncG, syncF]
 by_cases h0 : (e 0 d).1.1 = 0
 ·simp [Tr.eval, h0]; rfl
 ·simp [Tr.eval, h0, bf h0]
def repF (e : Int → D → R1) (x : List Int) (d : D) : R1 :=
 let q := e x.length d
 if q.1.1 = 0 then (q.1, mk x x.length q.2.room q.2.fuse q.2.down) else q
def repG (e : Int → D → R1) (x : List Int) (d : D) : Tr R1 :=
 let q := e x.length d
 .ite (q.1.1 == 0) (.chk (decide ((x.length : Int) = x.length) && (decide (0 ≤ (x.length : Int)) && room (x.length : Int).toNat 1))
  (.ret (q.1, ((), (x.length : Int), q.2.1.2.2.1, q.2.1.2.2.2.1, q.2.1.2.2.2.2.1, ()), overL (List.replicate (x.length : Int).toNat 0) x, ()))) (.ret q)
theorem over_zero (x : List Int) : overL (List.replicate (x.length : Int).toNat 0) x = x := by
 simp [overL]
theorem rep_eq (e : Int → D → R1) (x : List Int) (d : D) (h : room x.length 1 = true) : (repG e x d).eval = some (repF e x d) := by
 have h1 : (decide ((x.length : Int) = x.length) && (decide (0 ≤ (x.length : Int)) && room (x.length : Int).toNat 1)) = true := by simp [h]
 simp only [repG, repF, Tr.chk, over_zero]
 by_cases h0 : (e x.length d).1.1 = 0
 ·simp [Tr.eval, h0, h]; rfl
 ·simp [Tr.eval, h0, bf h0]
def fuseF (n : Int) (d : D) : R0 := ((), mk d.b d.sure d.room (maxI n (-1)) d.down)
def crashS (n : Int) (d : D) : Int := w (d.sure + minI (maxI n 0) (w (d.b.length - d.sure)))
def crashF (n : Int) (d : D) : R0 := ((), mk (d.b.take (crashS n d).toNat) (crashS n d) d.room (-1) false)
def crashP (n : Int) (d : D) : Bool := decide (0 ≤ crashS n d) && decide (crashS n d ≤ (d.b.length : Int))
def powF (d : D) : (Bool × Unit) × D :=
 if d.down = true ∨ d.fuse = 0 then ((false, ()), mk d.b d.sure d.room d.fuse true)
 else ((true, ()), mk d.b d.sure d.room (if d.fuse > 0 then w (d.fuse - 1) else d.fuse) d.down)
def powG (d : D) : Tr ((Bool × Unit) × D) :=
 let X : Tr ((Bool × Unit) × D) := .ret ((false, ()), ((), d.1.2.1, d.1.2.2.1, d.1.2.2.2.1, true, ()), d.2.1, ())
 .ite d.1.2.2.2.2.1 X (.ite (d.1.2.2.2.1 == 0) X (.ite (decide (d.1.2.2.2.1 > 0)) (.ret ((true, ()), ((), d.1.2.1, d.1.2.2.1, w (d.1.2.2.2.1 - 1), d.1.2.2.2.2.1, ()), d.2.1, ())) (.ret ((true, ()), d))))
theorem pow_eq (d : D) : (powG d).eval = some (powF d) := by
 obtain ⟨⟨u, sure, room, fuse, down, u'⟩, b, u''⟩ := d
 simp only [powG, powF, D.down, D.fuse, D.b, D.sure, D.room, mk]
 cases down
 ·by_cases h0 : fuse = 0
  ·subst h0; rfl
  ·by_cases h1 : fuse > 0 <;> simp [Tr.eval, h0, h1, bf h0]
 ·simp [Tr.eval]
abbrev Pw := D → (Bool × Unit) × D
def rappF (e : Pw) (x : List Int) (d : D) : R1 :=
 if (e d).1.1 = true then (if w (((e d).2.b.length : Int) + x.length) > (e d).2.room then er 7 (e d).2 else ((0, ()), (e d).2.1, (e d).2.2.1 ++ x, ())) else er 8 (e d).2
def rappP (e : Pw) (x : List Int) (d : D) : Bool := fits (e d).2 x
def rappG (e : Pw) (x : List Int) (d : D) : Tr R1 :=
 .ite (!(e d).1.1) (.ret ((8, ()), (e d).2)) (.ite (decide (w (((e d).2.2.1.length : Int) + x.length) > (e d).2.1.2.2.1)) (.ret ((7, ()), (e d).2))
  (.chk (room (([] : List Int).length + (e d).2.2.1.length) 1) (.chk (room ((([] : List Int) ++ (e d).2.2.1).length + x.length) 1) (.ret ((0, ()), (e d).2.1, (([] : List Int) ++ (e d).2.2.1) ++ x, ())))))
theorem rapp_eq (e : Pw) (x : List Int) (d : D) (h : rappP e x d = true) : (rappG e x d).eval = some (rappF e x d) := by
 simp only [rappP, fits, D.b] at h
 have h1 : room (([] : List Int).length + (e d).2.2.1.length) 1 = true := by
  simp only [room, decide_eq_true_eq, List.length_nil] at h ⊢; omega
 simp only [rappG, rappF, er, D.b, D.room, List.nil_append, Tr.chk, h, h1]
 cases (e d).1.1
 ·simp [Tr.eval]
 ·by_cases h2 : w (((e d).2.2.1.length : Int) + x.length) > (e d).2.1.2.2.1 <;> simp [Tr.eval, h2]
def rsyncF (e : Pw) (d : D) : R1 := if (e d).1.1 = true then er 0 (mk (e d).2.b (e d).2.b.length (e d).2.room (e d).2.fuse (e d).2.down) else er 8 (e d).2
def rsyncG (e : Pw) (d : D) : Tr R1 :=
 .ite (!(e d).1.1) (.ret ((8, ()), (e d).2)) (.ret ((0, ()), ((), ((e d).2.2.1.length : Int), (e d).2.1.2.2.1, (e d).2.1.2.2.2.1, (e d).2.1.2.2.2.2.1, ()), (e d).2.2.1, ()))
theorem rsync_eq (e : Pw) (d : D) : (rsyncG e d).eval = some (rsyncF e d) := by
 simp only [rsyncG, rsyncF, er]
 cases (e d).1.1 <;> rfl
def rrepF (e : Pw) (x : List Int) (d : D) : R1 :=
 if (e d).1.1 = true then (if (x.length : Int) > (e d).2.room then er 7 (e d).2 else er 0 (mk x x.length (e d).2.room (e d).2.fuse (e d).2.down)) else er 8 (e d).2
def rrepG (e : Pw) (x : List Int) (d : D) : Tr R1 :=
 .ite (!(e d).1.1) (.ret ((8, ()), (e d).2)) (.ite (decide ((x.length : Int) > (e d).2.1.2.2.1)) (.ret ((7, ()), (e d).2))
  (.chk (room (([] : List Int).length + x.length) 1) (.ret ((0, ()), ((), (x.length : Int), (e d).2.1.2.2.1, (e d).2.1.2.2.2.1, (e d).2.1.2.2.2.2.1, ()), (([] : List Int) ++ x), ()))))
theorem rrep_eq (e : Pw) (x : List Int) (d : D) (h : room x.length 1 = true) : (rrepG e x d).eval = some (rrepF e x d) := by
 have h1 : room (([] : List Int).length + x.length) 1 = true := by simpa using h
 simp only [rrepG, rrepF, er, D.room, List.nil_append, Tr.chk, h1]
 cases (e d).1.1
 ·simp [Tr.eval]
 ·by_cases h2 : (x.length : Int) > (e d).2.1.2.2.1 <;> simp [Tr.eval, h2] <;> rfl
def rcrS (n : Int) (d : D) : Int := w (d.sure + maxI n 0)
def rcrB (n : Int) (d : D) : List Int := bif decide (n < w ((d.b.length : Int) - d.sure)) then d.b.take (rcrS n d).toNat else d.b
def rcrashF (n : Int) (d : D) : R0 := ((), mk (rcrB n d) (rcrB n d).length d.room (-1) false)
def rcrashP (n : Int) (d : D) : Bool := !decide (n < w ((d.b.length : Int) - d.sure)) || (decide (0 ≤ rcrS n d) && decide (rcrS n d ≤ (d.b.length : Int)))
def rcrashG (n : Int) (d : D) : Tr R0 :=
 .ite (decide (n < w ((d.2.1.length : Int) - d.1.2.1)))
  (.chk (decide (0 ≤ w (d.1.2.1 + maxI n 0)) && decide (w (d.1.2.1 + maxI n 0) ≤ (d.2.1.length : Int))) (.ret ((), ((), (((d.2.1.take (w (d.1.2.1 + maxI n 0)).toNat).length : Nat) : Int), d.1.2.2.1, -1, false, ()), d.2.1.take (w (d.1.2.1 + maxI n 0)).toNat, ())))
  (.ret ((), ((), (d.2.1.length : Int), d.1.2.2.1, -1, false, ()), d.2.1, ()))
theorem rcrash_eq (n : Int) (d : D) (h : rcrashP n d = true) : (rcrashG n d).eval = some (rcrashF n d) := by
 obtain ⟨⟨u, sure, rm, fuse, down, u'⟩, b, u''⟩ := d
 have h : (!decide (n < w ((b.length : Int) - sure)) || (decide (0 ≤ w (sure + maxI n 0)) && decide (w (sure + maxI n 0) ≤ (b.length : Int)))) = true := h
 show (match decide (n < w ((b.length : Int) - sure)) with
  | true => (match (decide (0 ≤ w (sure + maxI n 0)) && decide (w (sure + maxI n 0) ≤ (b.length : Int))) with
   | true => some ((), ((), (((b.take (w (sure + maxI n 0)).toNat).length : Nat) : Int), rm, -1, false, ()), b.take (w (sure + maxI n 0)).toNat, ())
   | false => none)
  | false => some ((), ((), (b.length : Int), rm, -1, false, ()), b, ())) =
  some ((), ((), (((bif decide (n < w ((b.length : Int) - sure)) then b.take (w (sure + maxI n 0)).toNat else b).length : Nat) : Int), rm, -1, false, ()), (bif decide (n < w ((b.length : Int) - sure)) then b.take (w (sure + maxI n 0)).toNat else b), ())
 cases hd : decide (n < w ((b.length : Int) - sure)) with
 | true =>
  rw [hd] at h
  simp only [Bool.not_true, Bool.false_or] at h
  rw [h]
  rfl
 | false => rfl
end Go.Proofs.Ytffdkniccaebmaa.Sto
end
section
set_option linter.unusedVariables false
set_option maxRecDepth 100000
namespace Go.Proofs.Ytffdkniccaebmaa.Sto
open Go Vse Go.Proofs Fld
theorem noL {L : Loops} {fn : Func} (h : loopsOf (bodyOf fn) = []) : ∀ b ∈ loopsOf (bodyOf fn), LoopOK Try.prog L b := by rw [h]; intro b hb; cases hb
abbrev sE (k : Nat) : List ETy := [.box (stT 1 k), .vec k u8]
abbrev sS (As Rs : List Ty) : PSpec := ⟨.ptr 0 [] :: As, Rs, sE 0, sE 1, []⟩
def c63 (e : Int → D → R1) : List (Nat × CSpec) := [(113, .pos (sS [i64] [i64]) (fun _ _ => true) fun xs d => e xs.2.1 d)]
theorem k63 (m : Int) (d : D) : (fnP Try.prog (ctx []) L0 (sS [i64] [i64]) Try.f113 ((), m, ()) d).eval = (rdyG m d).eval := by kernel_rfl
theorem c63_sound : CtxSound Try.prog (ctx (c63 rdyF)) ∧ CtxLocal (ctx (c63 rdyF)) := ctx_sound ⟨pos_sound nil_sound Try.func113 (by kernel_rfl) (noL (by kernel_rfl)) fun xs hs _ _ _ => (k63 xs.2.1 hs).trans (rdy_eq xs.2.1 hs), trivial⟩
theorem k48 (e : Int → D → R1) (x : List Int) (d : D) : (fnP Try.prog (ctx (c63 e)) L0 (sS [bs] [i64]) Try.f92 ((), x, ()) d).eval = (appG e x d).eval := by kernel_rfl
theorem k49 (e : Int → D → R1) (d : D) : (fnP Try.prog (ctx (c63 e)) L0 (sS [] [i64]) Try.f93 ((), ()) d).eval = (syncG e d).eval := by kernel_rfl
theorem k51 (e : Int → D → R1) (x : List Int) (d : D) : (fnP Try.prog (ctx (c63 e)) L0 (sS [bs] [i64]) Try.f89 ((), x, ()) d).eval = (repG e x d).eval := by kernel_rfl
theorem k22 (n : Int) (d : D) : (fnP Try.prog (ctx []) L0 (sS [i64] []) Try.f43 ((), n, ()) d).eval = some (fuseF n d) := by kernel_rfl
theorem k21 (n : Int) (d : D) : (fnP Try.prog (ctx []) L0 (sS [i64] []) Try.f46 ((), n, ()) d).eval = (Tr.chk (crashP n d) (.ret (crashF n d))).eval := by kernel_rfl
theorem k20 (d : D) : (fnP Try.prog (ctx []) L0 (sS [] [bt]) Try.f76 ((), ()) d).eval = (Tr.chk (decide ((d.2.1.length : Int) = d.2.1.length) && (decide (0 ≤ (d.2.1.length : Int)) && room (d.2.1.length : Int).toNat 1)) (.ret ((overL (List.replicate (d.2.1.length : Int).toNat 0) d.2.1, ()), d))).eval := by kernel_rfl
def s48 : CSpec := .pos (sS [bs] [i64]) (fun xs d => appP rdyF xs.2.1 d) fun xs d => appF rdyF xs.2.1 d
def s49 : CSpec := .pos (sS [] [i64]) (fun _ _ => true) fun xs d => syncF rdyF d
def s51 : CSpec := .pos (sS [bs] [i64]) (fun xs _ => room (List.length (α := Int) xs.2.1) 1) fun xs d => repF rdyF xs.2.1 d
def s22 : CSpec := .pos (sS [i64] []) (fun _ _ => true) fun xs d => fuseF xs.2.1 d
def s21 : CSpec := .pos (sS [i64] []) (fun xs d => crashP xs.2.1 d) fun xs d => crashF xs.2.1 d
def s20 : CSpec := .pos (sS [] [bt]) (fun _ d => room (D.b d).length 1) fun xs d => ((D.b d, ()), d)
theorem ok48 : CSound Try.prog 92 s48 ∧ CLocal s48 := pos_sound c63_sound Try.func92 (by kernel_rfl) (noL (by kernel_rfl)) fun xs hs _ _ hp => (k48 rdyF xs.2.1 hs).trans (app_eq rdyF xs.2.1 hs hp)
theorem ok49 : CSound Try.prog 93 s49 ∧ CLocal s49 := pos_sound c63_sound Try.func93 (by kernel_rfl) (noL (by kernel_rfl)) fun xs hs _ _ hp => (k49 rdyF hs).trans (sync_eq rdyF hs)
theorem ok51 : CSound Try.prog 89 s51 ∧ CLocal s51 := pos_sound c63_sound Try.func89 (by kernel_rfl) (noL (by kernel_rfl)) fun xs hs _ _ hp => (k51 rdyF xs.2.1 hs).trans (rep_eq rdyF xs.2.1 hs hp)
theorem ok22 : CSound Try.prog 43 s22 ∧ CLocal s22 := pos_sound nil_sound Try.func43 (by kernel_rfl) (noL (by kernel_rfl)) fun xs hs _ _ hp => k22 xs.2.1 hs
theorem ok21 : CSound Try.prog 46 s21 ∧ CLocal s21 := pos_sound nil_sound Try.func46 (by kernel_rfl) (noL (by kernel_rfl)) fun xs hs _ _ hp => (k21 xs.2.1 hs).trans (by rw [show crashP xs.2.1 hs = true from hp]; rfl)
theorem ok20 : CSound Try.prog 76 s20 ∧ CLocal s20 := pos_sound nil_sound Try.func76 (by kernel_rfl) (noL (by kernel_rfl)) fun xs hs _ _ hp => (k20 hs).trans (by
 have hp : room (List.length (α := Int) hs.2.1) 1 = true := hp
 have h1 : (decide ((List.length (α := Int) hs.2.1 : Int) = List.length (α := Int) hs.2.1) && (decide (0 ≤ (List.length (α := Int) hs.2.1 : Int)) && room (List.length (α := Int) hs.2.1 : Int).toNat 1)) = true := by simp [hp]
 rw [h1, over_zero]
 rfl)
def c64 (e : Pw) : List (Nat × CSpec) := [(128, .pos (sS [] [.bool]) (fun _ _ => true) fun _ d => e d)]
theorem k64 (d : D) : (fnP Try.prog (ctx []) L0 (sS [] [.bool]) Try.f128 ((), ()) d).eval = (powG d).eval := by kernel_rfl
theorem c64_sound : CtxSound Try.prog (ctx (c64 powF)) ∧ CtxLocal (ctx (c64 powF)) := ctx_sound ⟨pos_sound nil_sound Try.func128 (by kernel_rfl) (noL (by kernel_rfl)) fun xs hs _ _ _ => (k64 hs).trans (pow_eq hs), trivial⟩
theorem k52 (e : Pw) (x : List Int) (d : D) : (fnP Try.prog (ctx (c64 e)) L0 (sS [bs] [i64]) Try.f121 ((), x, ()) d).eval = (rappG e x d).eval := by kernel_rfl
theorem k53 (e : Pw) (d : D) : (fnP Try.prog (ctx (c64 e)) L0 (sS [] [i64]) Try.f123 ((), ()) d).eval = (rsyncG e d).eval := by kernel_rfl
theorem k54 (e : Pw) (x : List Int) (d : D) : (fnP Try.prog (ctx (c64 e)) L0 (sS [bs] [i64]) Try.f120 ((), x, ()) d).eval = (rrepG e x d).eval := by kernel_rfl
theorem k55 (n : Int) (d : D) : (fnP Try.prog (ctx []) L0 (sS [i64] []) Try.f70 ((), n, ()) d).eval = some (fuseF n d) := by kernel_rfl
theorem k56 (n : Int) (d : D) : (fnP Try.prog (ctx []) L0 (sS [i64] []) Try.f71 ((), n, ()) d).eval = (rcrashG n d).eval := by kernel_rfl
end Go.Proofs.Ytffdkniccaebmaa.Sto
end
section
set_option linter.unusedVariables false
set_option maxRecDepth 100000
namespace Go.Proofs.Ytffdkniccaebmaa.Sto
open Go Vse Go.Proofs Fld
def okRoom (n : Int) : Bool := decide (0 ≤ n) && decide (n ≤ 1048576)
abbrev nA : PSpec := ⟨[i64], [.ptr 0 [], i64], [], sE 0, [(0, 0, u8)]⟩
abbrev nB : PSpec := ⟨[i64], [.nilp, i64], [], [], []⟩
def newF (n : Int) : (Unit × Int × Unit) × D := (((), 0, ()), mk [] 0 n (-1) false)
def newS : CSpec := .two (posSel nA fun xs _ => okRoom xs.1) (.pos nA (fun xs _ => okRoom xs.1) fun xs _ => newF xs.1) (.pos nB (fun xs _ => !okRoom xs.1) fun xs _ => (((), 1, ()), ()))
theorem k15a (n : Int) : (fnP Try.prog (ctx []) L0 nA Try.f41 (n, ()) ()).eval = (Tr.ite (decide (n < 0)) .fail (.ite (decide (n > 1048576)) .fail (.ret (newF n)))).eval := by kernel_rfl
theorem k15b (n : Int) : (fnP Try.prog (ctx []) L0 nB Try.f41 (n, ()) ()).eval = (Tr.ite (decide (n < 0)) (.ret (((), (1 : Int), ()), ())) (.ite (decide (n > 1048576)) (.ret (((), (1 : Int), ()), ())) .fail)).eval := by kernel_rfl
theorem k16a (n : Int) : (fnP Try.prog (ctx []) L0 nA Try.f67 (n, ()) ()).eval = (Tr.ite (decide (n < 0)) .fail (.ite (decide (n > 1048576)) .fail (.ret (newF n)))).eval := by kernel_rfl
theorem k16b (n : Int) : (fnP Try.prog (ctx []) L0 nB Try.f67 (n, ()) ()).eval = (Tr.ite (decide (n < 0)) (.ret (((), (1 : Int), ()), ())) (.ite (decide (n > 1048576)) (.ret (((), (1 : Int), ()), ())) .fail)).eval := by kernel_rfl
theorem newA {α : Type} {n : Int} (h : okRoom n = true) (r : α) : (Tr.ite (decide (n < 0)) .fail (.ite (decide (n > 1048576)) .fail (.ret r))).eval = some r := by
 simp only [okRoom, Bool.and_eq_true, decide_eq_true_eq] at h
 simp only [Tr.eval, decide_eq_false (show ¬ n < 0 by omega), decide_eq_false (show ¬ n > 1048576 by omega)]
theorem newB {α : Type} {n : Int} (h : (!okRoom n) = true) (r : α) : (Tr.ite (decide (n < 0)) (.ret r) (.ite (decide (n > 1048576)) (.ret r) .fail)).eval = some r := by
 simp only [okRoom, Bool.not_eq_true', Bool.and_eq_false_iff, decide_eq_false_iff_not] at h
 by_cases h0 : n < 0
 ·simp [Tr.eval, h0]
 ·simp [Tr.eval, h0, show n > 1048576 by omega]
theorem ok15 : CSound Try.prog 41 newS ∧ CLocal newS :=
 two_sound _ rfl rfl (pos_sound nil_sound Try.func41 (by kernel_rfl) (noL (by kernel_rfl)) fun xs hs _ _ hp => (k15a xs.1).trans (newA hp _))
  (pos_sound nil_sound Try.func41 (by kernel_rfl) (noL (by kernel_rfl)) fun xs hs _ _ hp => (k15b xs.1).trans (newB hp _))
theorem ok16 : CSound Try.prog 67 newS ∧ CLocal newS :=
 two_sound _ rfl rfl (pos_sound nil_sound Try.func67 (by kernel_rfl) (noL (by kernel_rfl)) fun xs hs _ _ hp => (k16a xs.1).trans (newA hp _))
  (pos_sound nil_sound Try.func67 (by kernel_rfl) (noL (by kernel_rfl)) fun xs hs _ _ hp => (k16b xs.1).trans (newB hp _))
end Go.Proofs.Ytffdkniccaebmaa.Sto
end
section
set_option linter.unusedVariables false
set_option linter.unusedSimpArgs false
set_option maxRecDepth 100000
namespace Go.Proofs.Ytffdkniccaebmaa.Jnl
open Go Vse Go.Proofs Gen
theorem w_succ {k n : Nat} (h : k < n) (hn : n ≤ 9223372036854775807) : w ((k : Int) + 1) = ((k + 1 : Nat) : Int) := by rw [w_id (by omega) (by omega)]; omega
theorem inArr_of {k n : Nat} (h : k < n) : inArr (k : Int) n = true := by simp [inArr]; omega
theorem getD_of {α : Type} {l : List α} {k : Nat} (h : k < l.length) (d : α) : l.getD k d = l[k] := by rw [List.getD_eq_getElem?_getD, List.getElem?_eq_getElem h]; rfl
def SEq : RSpec := ⟨[0, 1, 12, 13], 26, [bs, bs, i64, i64], [], [], [], fun x => match x with | .ret => ([4], [.bool], []) | _ => ([], [], [])⟩
noncomputable def bEq : Code := loopAt Try.f87 0
def GEq (a b : List Int) (n i : Int) : Tr SEq.End :=
 .ite (decide (i < n)) (.chk (inArr i a.length) (.chk (inArr i b.length) (.ite (!decide (a.getD i.toNat 0 = b.getD i.toNat 0)) (.ret (.inr (.ret, encS [4] [.bool] [] 26 (false, ()) ()))) (.ret (.inl ((a, b, n, w (i + 1), ()), ()))))))
  (.ret (.inr (.exit 0, encS [] [] [] 26 () ())))
theorem rEq (a b : List Int) (n i : Int) : (SEq.round (bodyK Try.prog (ctx []) L0 bEq) (a, b, n, i, ()) ()).eval = (GEq a b n i).eval := by kernel_rfl
theorem mEq (a b : List Int) (hl : a.length ≤ 9223372036854775807) (hb : b.length = a.length) : ∀ (m k : Nat), k + m = a.length →
  SEq.many (bodyK Try.prog (ctx []) L0 bEq) (m + 1) (a, b, (a.length : Int), (k : Int), ()) () = if a.drop k = b.drop k then some (.exit 0, encS [] [] [] 26 () ()) else some (.ret, encS [4] [.bool] [] 26 (false, ()) ())
 | 0, k, h => by
  have e1 : a.drop k = [] := List.drop_eq_nil_of_le (by omega)
  have e2 : b.drop k = [] := List.drop_eq_nil_of_le (by omega)
  rw [e1, e2, if_pos rfl]
  refine rmany_inr ((rEq a b _ _).trans ?_) 0
  unfold GEq
  rw [ite_f (decide_eq_false (by omega))]
  rfl
 | m + 1, k, h => by
  have h1 : k < a.length := by omega
  have h2 : k < b.length := by omega
  have e1 := List.drop_eq_getElem_cons h1
  have e2 := List.drop_eq_getElem_cons h2
  by_cases hq : a[k] = b[k]
  ·have e3 : (a.drop k = b.drop k) = (a.drop (k + 1) = b.drop (k + 1)) := by simp only [e1, e2, hq, List.cons.injEq, true_and]
   simp only [e3]
   refine (rmany_inl (d := ((a, b, (a.length : Int), ((k + 1 : Nat) : Int), ()), ())) ((rEq a b _ _).trans ?_) (m + 1)).trans (mEq a b hl hb m (k + 1) (by omega))
   unfold GEq
   rw [ite_t (decide_eq_true (by omega)), chk_eval (inArr_of h1), chk_eval (inArr_of h2), Int.toNat_natCast, getD_of h1, getD_of h2, ite_f (by simp [hq]), w_succ h1 hl]
   rfl
  ·rw [if_neg (by rw [e1, e2]; exact fun hh => hq (List.cons.inj hh).1)]
   refine rmany_inr ((rEq a b _ _).trans ?_) _
   unfold GEq
   rw [ite_t (decide_eq_true (by omega)), chk_eval (inArr_of h1), chk_eval (inArr_of h2), Int.toNat_natCast, getD_of h1, getD_of h2, ite_t (by simp [hq])]
   rfl
def cEq (a b : List Int) (n i : Int) : Bool := decide (a.length ≤ 9223372036854775807) && (decide (b.length = a.length) && (decide (n = (a.length : Int)) && decide (i = 0)))
abbrev sameF : List Int → List Int → Bool := Fld.sameI
def FEq (c : List Int → List Int → Int → Int → Bool) (f : List Int → List Int → Bool) (xs : HL SEq.Ts) (hs : HD SEq.Es) : Tr (Ex × St) :=
 .chk (c xs.1 xs.2.1 xs.2.2.1 xs.2.2.2.1) (.ite (f xs.1 xs.2.1) (.ret (.exit 0, encS [] [] [] 26 () ())) (.ret (.ret, encS [4] [.bool] [] 26 (false, ()) ())))
def LEq (c : List Int → List Int → Int → Int → Bool) (f : List Int → List Int → Bool) : Loops := fun j st => if j = 4 then SEq.fn (FEq c f) st else .fail
theorem lEq : LoopOK Try.prog (LEq cEq sameF) bEq :=
 rloop_ok (L := LEq cEq sameF) (L' := L0) nil_sound (loopsOK_of (by kernel_rfl)) SEq (F := FEq cEq sameF) (i := 4) (by kernel_rfl) (fun _ => rfl) fun xs hs q h => by
  obtain ⟨a, b, n, i, u⟩ := xs
  obtain ⟨h1, h2⟩ := Tr.chk_some h
  simp only [cEq, Bool.and_eq_true, decide_eq_true_eq] at h1
  obtain ⟨hl, hb, hn, e2⟩ := h1
  have e2 : i = ((0 : Nat) : Int) := e2
  have hn : n = ((List.length (α := Int) a : Nat) : Int) := hn
  subst e2; subst hn
  refine ⟨List.length (α := Int) a + 1, ?_⟩
  have := mEq a b hl hb (List.length (α := Int) a) 0 (by omega)
  rw [List.drop_zero, List.drop_zero] at this
  refine this.trans ?_
  rcases Tr.ite_some h2 with ⟨hx, h3⟩ | ⟨hx, h3⟩
  ·have hx : a = b := of_decide_eq_true hx
   rw [if_pos hx]
   exact congrArg some (Tr.ret_some h3)
  ·have hx : ¬ a = b := of_decide_eq_false hx
   rw [if_neg hx]
   exact congrArg some (Tr.ret_some h3)
def TEq (c : List Int → List Int → Int → Int → Bool) (f : List Int → List Int → Bool) (a b : List Int) : Tr AV :=
 .ite (!decide ((a.length : Int) = (b.length : Int))) (.ret (.v .bool false)) (.chk (c a b (a.length : Int) 0) (.ite (f a b) (.ret (.v .bool true)) (.ret (.v .bool false))))
theorem tEqL (c : List Int → List Int → Int → Int → Bool) (f : List Int → List Int → Bool) (a b : List Int) :
  nrm (fnS Try.prog (ctx []) (LEq c f) [.bool] Try.f87 (mkArgs [bs, bs] (a, b, ()))) = (TEq c f a b).eval := by kernel_rfl
def sSl2 (f : List Int → List Int → Bool) : CSpec := .slp1 [bs, bs] (fun _ => true) .bool fun x => f x.1 x.2.1
theorem okEqL : CSound Try.prog 87 (sSl2 sameF) ∧ CLocal (sSl2 sameF) :=
 slpE1 (L := LEq cEq sameF) nil_sound Try.func87 (by kernel_rfl) (loops1 (by kernel_rfl) lEq) fun xs hx hp => by
  obtain ⟨a, b, u⟩ := xs
  have hl : List.length (α := Int) a ≤ 9223372036854775807 := hx.1.1
  refine (tEqL cEq sameF a b).trans ?_
  show _ = some (AV.v .bool (sameF a b))
  unfold TEq
  by_cases h : List.length (α := Int) a = List.length (α := Int) b
  ·rw [ite_f (by simp [h]), chk_eval (by unfold cEq; rw [decide_eq_true hl, decide_eq_true h.symm]; simp)]
   cases sameF a b <;> rfl
  ·rw [ite_t (by simp; omega), show sameF a b = false from decide_eq_false fun hh => h (by rw [hh])]; rfl
def cloB_ren : Go.Shelf.Ren := ⟨fun | 41 => 86 | n => n, fun | 22 => 52 | 23 => 5 | 4 => 4 | n => n, fun | n => n⟩
theorem cloB : Go.Proofs.SlLaysE0.n41 Try.prog cloB_ren := {
 mixed := by kernel_rfl
 f41 := ⟨Try.f86.name, by decide, Try.func86.trans (congrArg some (by kernel_rfl))⟩
 t4 := Try.underlying4
 a4 := Try.isAgg4
 z4 := Try.sizeOf4
 v4 := Try.zeroValue4
 t22 := Try.underlying52
 a22 := Try.isAgg52
 z22 := Try.sizeOf52
 v22 := Try.zeroValue52 }
theorem tClS (l : List Int) : nrm (fnS Try.prog (ctx []) L0 [bt] Try.f86 (mkArgs [.imm false true u8] (l, ()))) = (Tr.chk (Vse.room (0 + l.length) 1) (.ret (.v bt l)) : Tr AV).eval := by kernel_rfl
def okC (l : List Int) : Bool := decide (l.length ≤ 140737488355328)
def sClS : CSpec := .slp1 [bs] (fun xs => okC xs.1) bt fun xs => xs.1
theorem okClS : CSound Try.prog 86 sClS ∧ CLocal sClS :=
 clone_sound (A := u8) nil_sound Try.func86 rfl rfl (by kernel_rfl) (noLoopsL (by kernel_rfl)) (fun n c w => AnyE.slices_Clone_nil cloB n c w) fun l hl => (tClS l).trans (chk_eval (by
  have := of_decide_eq_true hl
  simp [Vse.room]; omega) _)
def groB_ren : Go.Shelf.Ren := ⟨fun | 4 => 127 | n => n, fun | 22 => 52 | 25 => 5 | n => n, fun | n => n⟩
theorem groB : Go.Proofs.Lays8.n4 Try.prog groB_ren := {
 mixed := by kernel_rfl
 f4 := ⟨Try.f127.name, by decide, Try.func127.trans (congrArg some (by kernel_rfl))⟩
 t0 := Try.underlying0
 a0 := Try.isAgg0
 z0 := Try.sizeOf0
 v0 := Try.zeroValue0
 t3 := Try.underlying3
 a3 := Try.isAgg3
 z3 := Try.sizeOf3
 v3 := Try.zeroValue3
 t4 := Try.underlying4
 a4 := Try.isAgg4
 z4 := Try.sizeOf4
 v4 := Try.zeroValue4
 t9 := Try.underlying9
 a9 := Try.isAgg9
 z9 := Try.sizeOf9
 v9 := Try.zeroValue9
 t20 := Try.underlying20
 a20 := Try.isAgg20
 z20 := Try.sizeOf20
 v20 := Try.zeroValue20
 t22 := Try.underlying52
 a22 := Try.isAgg52
 z22 := Try.sizeOf52
 v22 := Try.zeroValue52 }
theorem enterF {k : Nat} {fn : Func} (hf : Try.prog.funcs[k]? = some fn) (h : ((fn.name == "runtime.NumGoroutine") == false && fn.body.isSome) = true) (args : Array Value) (w : World) : (callFunc k args).run Try.prog w = .ok (.enter k args) w := by
 simp only [Bool.and_eq_true, beq_iff_eq] at h
 obtain ⟨c, hc⟩ := Option.isSome_iff_exists.1 h.2
 exact callFunc_enter hf h.1 hc args w
theorem okGr : CSound Try.prog 127 (CSpec.grow0 u8) ∧ CLocal (CSpec.grow0 u8) :=
 grow0_sound (A := u8) rfl groB (z := .int .u8 0) rfl rfl rfl rfl rfl rfl rfl (fun a w => enterF Try.func127 (by kernel_rfl) a w)
end Go.Proofs.Ytffdkniccaebmaa.Jnl
end
section
set_option linter.unusedVariables false
set_option linter.unusedSimpArgs false
set_option maxRecDepth 100000
namespace Go.Proofs.Ytffdkniccaebmaa.Jnl
open Go Vse Go.Proofs Gen
abbrev lb : Ty := .imm false false bs
noncomputable def bCa : Code := loopAt Try.f112 0
noncomputable def bCb : Code := loopAt Try.f112 1
def SCa : RSpec := ⟨[0, 3, 9, 10, 11], 36, [lb, i64, lb, i64, i64], [], [], [], fun x => match x with | .ret => ([], [], []) | _ => ([0, 3], [lb, i64], [])⟩
def GCa (l : List (List Int)) (s n i : Int) : Tr SCa.End :=
 .ite (decide (i < n)) (.chk (inArr i l.length) (.ite (decide (w (s + ((l.getD i.toNat []).length : Int)) < 0)) .fail (.ret (.inl ((l, w (s + ((l.getD i.toNat []).length : Int)), l, n, w (i + 1), ()), ())))))
  (.ret (.inr (.exit 0, encS [0, 3] [lb, i64] [] 36 (l, s, ()) ())))
theorem rCa (l : List (List Int)) (s n i : Int) : (SCa.round (bodyK Try.prog (ctx []) L0 bCa) (l, s, l, n, i, ()) ()).eval = (GCa l s n i).eval := by kernel_rfl
def SCb : RSpec := ⟨[6, 25, 26, 27], 36, [.vc 0 1, lb, i64, i64], [.vec 1 u8], [.vec 0 u8], [], fun x => match x with | .ret => ([], [], []) | _ => ([6], [.vc 0 1], [.vec 1 u8])⟩
def GCb (l : List (List Int)) (o : List Int) (n i : Int) : Tr SCb.End :=
 .ite (decide (i < n)) (.chk (inArr i l.length) (.chk (Vse.room (o.length + (l.getD i.toNat []).length) 1) (.ret (.inl (((), l, n, w (i + 1), ()), (o ++ l.getD i.toNat [], ()))))))
  (.ret (.inr (.exit 2, encS [6] [.vc 0 1] [.vec 1 u8] 36 ((), ()) (o, ()))))
theorem rCb (l : List (List Int)) (o : List Int) (n i : Int) : (SCb.round (bodyK Try.prog (ctx []) L0 bCb) ((), l, n, i, ()) (o, ())).eval = (GCb l o n i).eval := by kernel_rfl
def flat (l : List (List Int)) : List Int := l.flatten
theorem flat_take {l : List (List Int)} {k : Nat} (h : k < l.length) : flat (l.take (k + 1)) = flat (l.take k) ++ l[k] := by
 unfold flat
 rw [List.take_add_one, List.getElem?_eq_getElem h, List.flatten_append]
 simp
theorem flat_le (l : List (List Int)) (k : Nat) : (flat (l.take k)).length ≤ (flat l).length := by
 have : flat l = flat (l.take k) ++ flat (l.drop k) := by unfold flat; rw [← List.flatten_append, List.take_append_drop]
 rw [this, List.length_append]; omega
theorem mCa (l : List (List Int)) (hl : l.length ≤ 9223372036854775807) (hf : (flat l).length ≤ 140737488355328) : ∀ (m k : Nat), k + m = l.length →
  SCa.many (bodyK Try.prog (ctx []) L0 bCa) (m + 1) (l, ((flat (l.take k)).length : Int), l, (l.length : Int), (k : Int), ()) () = some (.exit 0, encS [0, 3] [lb, i64] [] 36 (l, ((flat l).length : Int), ()) ())
 | 0, k, h => by
  have e1 : l.take k = l := List.take_of_length_le (by omega)
  rw [e1]
  refine rmany_inr ((rCa l _ _ _).trans ?_) 0
  unfold GCa
  rw [ite_f (decide_eq_false (by omega))]
  rfl
 | m + 1, k, h => by
  have h1 : k < l.length := by omega
  have e2 := flat_take h1
  have h3 := flat_le l (k + 1)
  have e3 : w (((flat (l.take k)).length : Int) + ((l.getD k []).length : Int)) = ((flat (l.take (k + 1))).length : Int) := by
   rw [getD_of h1, e2, List.length_append]
   rw [e2, List.length_append] at h3
   rw [w_id (by omega) (by omega)]; omega
  refine (rmany_inl (d := ((l, ((flat (l.take (k + 1))).length : Int), l, (l.length : Int), ((k + 1 : Nat) : Int), ()), ())) ((rCa l _ _ _).trans ?_) (m + 1)).trans (mCa l hl hf m (k + 1) (by omega))
  unfold GCa
  rw [Int.toNat_natCast, ite_t (decide_eq_true (by omega)), chk_eval (inArr_of h1), e3, ite_f (decide_eq_false (by omega)), w_succ h1 hl]
  rfl
theorem mCb (l : List (List Int)) (hl : l.length ≤ 9223372036854775807) (hf : (flat l).length ≤ 140737488355328) : ∀ (m k : Nat), k + m = l.length →
  SCb.many (bodyK Try.prog (ctx []) L0 bCb) (m + 1) ((), l, (l.length : Int), (k : Int), ()) (flat (l.take k), ()) = some (.exit 2, encS [6] [.vc 0 1] [.vec 1 u8] 36 ((), ()) (flat l, ()))
 | 0, k, h => by
  have e1 : l.take k = l := List.take_of_length_le (by omega)
  rw [e1]
  refine rmany_inr ((rCb l _ _ _).trans ?_) 0
  unfold GCb
  rw [ite_f (decide_eq_false (by omega))]
  rfl
 | m + 1, k, h => by
  have h1 : k < l.length := by omega
  have e2 := flat_take h1
  have h3 := flat_le l (k + 1)
  have hr : Vse.room ((flat (l.take k)).length + l[k].length) 1 = true := by
   rw [e2, List.length_append] at h3
   simp only [Vse.room, decide_eq_true_eq]; omega
  refine (rmany_inl (d := (((), l, (l.length : Int), ((k + 1 : Nat) : Int), ()), (flat (l.take (k + 1)), ()))) ((rCb l _ _ _).trans ?_) (m + 1)).trans (mCb l hl hf m (k + 1) (by omega))
  unfold GCb
  rw [Int.toNat_natCast, ite_t (decide_eq_true (by omega)), chk_eval (inArr_of h1), getD_of h1, chk_eval hr, e2, w_succ h1 hl]
  rfl
def okT (l : List (List Int)) : Bool := decide (l.length ≤ 9223372036854775807) && decide ((flat l).length ≤ 140737488355328)
def cCa (l : List (List Int)) (s : Int) (l2 : List (List Int)) (n i : Int) : Bool := okT l && (decide (s = 0) && (decide (l2 = l) && (decide (n = (l.length : Int)) && decide (i = 0))))
def cCb (o : List Int) (l : List (List Int)) (n i : Int) : Bool := okT l && (decide (o.length = 0) && (decide (n = (l.length : Int)) && decide (i = 0)))
abbrev Cca := List (List Int) → Int → List (List Int) → Int → Int → Bool
abbrev Ccb := List Int → List (List Int) → Int → Int → Bool
def FCa (c : Cca) (t : List (List Int) → Int) (xs : HL SCa.Ts) (hs : HD SCa.Es) : Tr (Ex × St) := .chk (c xs.1 xs.2.1 xs.2.2.1 xs.2.2.2.1 xs.2.2.2.2.1) (.ret (.exit 0, encS [0, 3] [lb, i64] [] 36 (xs.1, t xs.1, ()) ()))
def FCb (c : Ccb) (f : List (List Int) → List Int) (xs : HL SCb.Ts) (hs : HD SCb.Es) : Tr (Ex × St) := .chk (c hs.1 xs.2.1 xs.2.2.1 xs.2.2.2.1) (.ret (.exit 2, encS [6] [.vc 0 1] [.vec 1 u8] 36 ((), ()) (f xs.2.1, ())))
def LCo (ca : Cca) (t : List (List Int) → Int) (cb : Ccb) (f : List (List Int) → List Int) : Loops := fun j st => if j = 3 then SCa.fn (FCa ca t) st else if j = 11 then SCb.fn (FCb cb f) st else .fail
def totF (l : List (List Int)) : Int := ((flat l).length : Int)
abbrev LCoF := LCo cCa totF cCb flat
theorem lCa : LoopOK Try.prog LCoF bCa :=
 rloop_ok (L := LCoF) (L' := L0) nil_sound (loopsOK_of (by kernel_rfl)) SCa (F := FCa cCa totF) (i := 3) (by kernel_rfl) (fun _ => rfl) fun xs hs q h => by
  obtain ⟨l, s, l2, n, i, u⟩ := xs
  obtain ⟨h1, h2⟩ := Tr.chk_some h
  simp only [cCa, okT, Bool.and_eq_true, decide_eq_true_eq] at h1
  obtain ⟨⟨hl, hf⟩, e1, e2, hn, e3⟩ := h1
  have e1 : s = (0 : Int) := e1
  have e2 : l2 = l := e2
  have hn : n = ((List.length (α := List Int) l : Nat) : Int) := hn
  have e3 : i = ((0 : Nat) : Int) := e3
  subst e1; subst e2; subst hn; subst e3
  exact ⟨_, (mCa l2 hl hf (List.length (α := List Int) l2) 0 (by omega)).trans (congrArg some (Tr.ret_some h2))⟩
theorem lCb : LoopOK Try.prog LCoF bCb :=
 rloop_ok (L := LCoF) (L' := L0) nil_sound (loopsOK_of (by kernel_rfl)) SCb (F := FCb cCb flat) (i := 11) (by kernel_rfl) (fun _ => rfl) fun xs hs q h => by
  obtain ⟨u1, l, n, i, u⟩ := xs
  obtain ⟨o, u2⟩ := hs
  obtain ⟨h1, h2⟩ := Tr.chk_some h
  simp only [cCb, okT, Bool.and_eq_true, decide_eq_true_eq] at h1
  obtain ⟨⟨hl, hf⟩, e1, hn, e3⟩ := h1
  have e1 : o = ([] : List Int) := List.eq_nil_of_length_eq_zero e1
  have hn : n = ((List.length (α := List Int) l : Nat) : Int) := hn
  have e3 : i = ((0 : Nat) : Int) := e3
  subst e1; subst hn; subst e3
  exact ⟨_, (mCb l hl hf (List.length (α := List Int) l) 0 (by omega)).trans (congrArg some (Tr.ret_some h2))⟩
def cCo : List (Nat × CSpec) := [(127, CSpec.grow0 u8)]
def TCo (ca : Cca) (t : List (List Int) → Int) (cb : Ccb) (f : List (List Int) → List Int) (l : List (List Int)) : Tr AV :=
 .chk (ca l 0 l (l.length : Int) 0) (.chk (decide (1 ≤ t l ∧ t l ≤ 140737488355328)) (.chk (cb [] l (l.length : Int) 0) (.ret (.v bt (f l)))))
theorem tCo (ca : Cca) (t : List (List Int) → Int) (cb : Ccb) (f : List (List Int) → List Int) (l : List (List Int)) :
  nrm (fnS Try.prog (ctx cCo) (LCo ca t cb f) [bt] Try.f112 (mkArgs [lb] (l, ()))) = (TCo ca t cb f l).eval := by kernel_rfl
def preCo (l : List (List Int)) : Bool := decide (1 ≤ (flat l).length) && decide ((flat l).length ≤ 140737488355328)
def sCo : CSpec := .slp1 [lb] (fun x => preCo x.1) bt fun x => flat x.1
theorem okCo : CSound Try.prog 112 sCo ∧ CLocal sCo :=
 slpE1 (L := LCoF) (ctx_sound (l := cCo) ⟨okGr, trivial⟩) Try.func112 (by kernel_rfl) (loops2 (by kernel_rfl) lCa lCb) fun xs hx hp => by
  obtain ⟨l, u⟩ := xs
  have hl : List.length (α := List Int) l ≤ 9223372036854775807 := hx.1.1
  have hp : preCo l = true := hp
  unfold preCo at hp
  simp only [Bool.and_eq_true, decide_eq_true_eq] at hp
  refine (tCo cCa totF cCb flat l).trans ?_
  have ho : okT l = true := by unfold okT; rw [decide_eq_true hl, decide_eq_true hp.2]; rfl
  unfold TCo
  rw [chk_eval (by unfold cCa; rw [ho]; simp), chk_eval (decide_eq_true (by unfold totF; omega)), chk_eval (by unfold cCb; rw [ho]; simp)]
  rfl
end Go.Proofs.Ytffdkniccaebmaa.Jnl
end
section
set_option linter.unusedVariables false
set_option linter.unusedSimpArgs false
set_option maxRecDepth 100000
namespace Go.Proofs.Ytffdkniccaebmaa.Jnl
open Go Vse Go.Proofs Gen
open Sto (stT D R1 R0)
abbrev d32 : Ty := .arr 32 u8
abbrev jT (s l K : Nat) : Ty := .prod (.ptr s []) (.prod (.vc l K) (.prod .bool .unit))
abbrev jE (k : Nat) : List ETy := [.box (jT 1 2 k), .box (stT 3 k), .vec k bt, .vec k u8]
abbrev JD := (Unit × Unit × Bool × Unit) × (Unit × Int × Int × Int × Bool × Unit) × List (List Int) × List Int × Unit
abbrev nJ (As Rs : List Ty) (k : Nat) : PSpec := ⟨.ptr 0 [] :: As, Rs, jE 0, jE k, []⟩
abbrev nLd : PSpec := ⟨[bs], [bt], [], [], []⟩
def kLd : List Cut := [⟨1, [.vec 0 u8], [], [0, 3], [bs, bt], [.dead], 23⟩, ⟨0, [.dead, .dead, .box d32], [], [0, 3, 4], [bs, bt, .ip true d32], [.dead, .dead, .dead], 23⟩]
def cLd (pc : List (List Int) → Bool) (f : List (List Int) → List Int) (ps : List Int → Bool) (S : List Int → List Int) : List (Nat × CSpec) :=
 [(112, .slp1 [lb] (fun x => pc x.1) bt fun x => f x.1), (111, .slp1 [bs] (fun x => ps x.1) d32 fun x => S x.1)]
def hd14 (b : List Int) : List Int := [wb (shrI .i64 (b.length : Int) 8), wb (b.length : Int)]
noncomputable abbrev bLd : Code := bodyOf Try.f88
def TLd (pc : List (List Int) → Bool) (f : List (List Int) → List Int) (ps : List Int → Bool) (S : List Int → List Int) (b : List Int) : Tr nLd.Out :=
 let c := f [hd14 b, b]
 .chk (pc [hd14 b, b]) (.chk (ps c) (.chk (pc [hd14 b, ((S c).take 8).drop 0, b]) (.ret ((f [hd14 b, ((S c).take 8).drop 0, b], ()), ()))))
theorem tLd (pc : List (List Int) → Bool) (f : List (List Int) → List Int) (ps : List Int → Bool) (S : List Int → List Int) (b : List Int) :
  (stC Try.prog (ctx (cLd pc f ps S)) L0 nLd Try.f88 kLd bLd (begin_ Try.f88 (mkArgs [bs] (b, ())) [])).eval = (TLd pc f ps S b).eval := by kernel_rfl
abbrev nCp : PSpec := ⟨[Gen.ls], [.vc 0 0], [], [.vec 0 bt], []⟩
noncomputable def bCp : Code := loopAt Try.f91 0
def SCp : RSpec := ⟨[3, 6, 7, 8], 19, [.vc 0 0, Gen.ls, i64, i64], [.vec 0 bt], [], [.slot 3 bt], fun _ => ([3], [.vc 0 0], [.vec 0 bt])⟩
def cCp (pk : List Int → Bool) : List (Nat × CSpec) := [(86, .slp1 [bs] (fun x => pk x.1) bt fun x => x.1)]
def GCp (pk : List Int → Bool) (o l : List (List Int)) (n i : Int) : Tr SCp.End :=
 .ite (decide (i < n)) (.chk (inArr i l.length) (.chk (pk (l.getD i.toNat [])) (.chk (Vse.room (o.length + 1) 24) (.ret (.inl (((), l, n, w (i + 1), ()), (o ++ [l.getD i.toNat []], ())))))))
  (.ret (.inr (.exit 0, encS [3] [.vc 0 0] [.vec 0 bt] 19 ((), ()) (o, ()))))
theorem rCp (pk : List Int → Bool) (o l : List (List Int)) (n i : Int) : (SCp.round (bodyK Try.prog (ctx (cCp pk)) L0 bCp) ((), l, n, i, ()) (o, ())).eval = (GCp pk o l n i).eval := by kernel_rfl
abbrev Ccp := List (List Int) → List (List Int) → Int → Int → Bool
def FCp (c : Ccp) (xs : HL SCp.Ts) (hs : HD SCp.Es) : Tr (Ex × St) := .chk (c hs.1 xs.2.1 xs.2.2.1 xs.2.2.2.1) (.ret (.exit 0, encS [3] [.vc 0 0] [.vec 0 bt] 19 ((), ()) (xs.2.1, ())))
def LCp (c : Ccp) : Loops := fun j st => if j = 3 then SCp.fn (FCp c) st else .fail
theorem tCp (pk : List Int → Bool) (c : Ccp) (l : List (List Int)) : (fnP Try.prog (ctx (cCp pk)) (LCp c) nCp Try.f91 (l, ()) ()).eval = (.chk (c [] l (l.length : Int) 0) (.ret (((), ()), (l, ()))) : Tr nCp.Out).eval := by kernel_rfl
def sCp (p : List (List Int) → Bool) : CSpec := .pos nCp (fun xs _ => p xs.1) fun xs _ => (((), ()), (xs.1, ()))
abbrev nRc : PSpec := ⟨[.ptr 0 []], [.vc 4 0], jE 0, jE 0 ++ [.vec 0 bt], []⟩
theorem tRc (p : List (List Int) → Bool) (h : JD) : (fnP Try.prog (ctx [(91, sCp p)]) L0 nRc Try.f48 ((), ()) h).eval = (.chk (p h.2.2.1) (.ret (((), ()), (h.1, h.2.1, h.2.2.1, h.2.2.2.1, h.2.2.1, ()))) : Tr nRc.Out).eval := by kernel_rfl
def TDi (e : Int) (h : JD) : Tr (nJ [i64] [i64] 0).Out := .ite (!decide (e = 0)) (.ret ((e, ()), (((), (), e != 7, ()), h.2))) (.ret ((e, ()), (((), (), false, ()), h.2)))
theorem tDi (e : Int) (h : JD) : (fnP Try.prog (ctx []) L0 (nJ [i64] [i64] 0) Try.f90 ((), e, ()) h).eval = (TDi e h).eval := by kernel_rfl
def broke (e : Int) : Bool := e != 0 && e != 7
def sDi : CSpec := .pos (nJ [i64] [i64] 0) (fun _ _ => true) fun xs h => ((xs.2.1, ()), (((), (), broke xs.2.1, ()), h.2))
def sLd (p : List Int → Bool) (f : List Int → List Int) : CSpec := .pos nLd (fun xs _ => p xs.1) fun xs _ => ((f xs.1, ()), ())
def cAd (pl : List Int → Bool) (ld : List Int → List Int) (pa : List Int → D → Bool) (ap : List Int → D → R1) (sy : D → R1) (pk : List Int → Bool) : List (Nat × CSpec) :=
 [(88, sLd pl ld), (92, .pos (Sto.sS [bs] [i64]) (fun xs d => pa xs.2.1 d) fun xs d => ap xs.2.1 d), (93, .pos (Sto.sS [] [i64]) (fun _ _ => true) fun _ d => sy d), (90, sDi),
  (86, .slp1 [bs] (fun x => pk x.1) bt fun x => x.1)]
end Go.Proofs.Ytffdkniccaebmaa.Jnl
end
section
set_option linter.unusedVariables false
set_option linter.unusedSimpArgs false
set_option maxRecDepth 100000
namespace Go.Proofs.Ytffdkniccaebmaa.Jnl
open Go Vse Go.Proofs Gen
open Sto (stT D R1 R0)
def stD (h : JD) : D := (h.2.1, h.2.2.2.1, ())
def putS (br : Bool) (d : D) (l : List (List Int)) : JD := (((), (), br, ()), d.1, l, d.2.1, ())
def TAd (pl : List Int → Bool) (ld : List Int → List Int) (pa : List Int → D → Bool) (ap : List Int → D → R1) (sy : D → R1) (pk : List Int → Bool) (b : List Int) (h : JD) : Tr (nJ [bs] [i64] 1).Out :=
 let q := ap (ld b) (stD h)
 let q2 := sy q.2
 .ite h.1.2.2.1 (.ret (((8 : Int), ()), h)) (.ite (decide ((b.length : Int) > 1000)) (.ret (((7 : Int), ()), h)) (.chk (pl b) (.chk (pa (ld b) (stD h)) (.ite (!decide (q.1.1 = 0)) (.ret ((q.1.1, ()), putS (broke q.1.1) q.2 h.2.2.1))
  (.ite (!decide (q2.1.1 = 0)) (.ret ((q2.1.1, ()), putS (broke q2.1.1) q2.2 h.2.2.1)) (.chk (pk b) (.chk (Vse.room (h.2.2.1.length + 1) 24) (.ret (((0 : Int), ()), putS (broke q2.1.1) q2.2 (h.2.2.1 ++ [b]))))))))))
theorem tAd (pl : List Int → Bool) (ld : List Int → List Int) (pa : List Int → D → Bool) (ap : List Int → D → R1) (sy : D → R1) (pk : List Int → Bool) (b : List Int) (h : JD) :
  (fnP Try.prog (ctx (cAd pl ld pa ap sy pk)) L0 (nJ [bs] [i64] 1) Try.f45 ((), b, ()) h).eval = (TAd pl ld pa ap sy pk b h).eval := by kernel_rfl
noncomputable def bOn : Code := loopAt Try.f44 0
abbrev jD : List ETy := jE 0 ++ [.vec 0 u8]
def SOn : RSpec := ⟨[0, 1, 5, 13, 14, 15], 43, [.ptr 0 [], Gen.ls, .vc 4 0, Gen.ls, i64, i64], jD, jE 0, [.slot 5 u8], fun x => match x with | .ret => ([4], [i64], jE 0 ++ [.dead]) | _ => ([0, 1, 5], [.ptr 0 [], Gen.ls, .vc 4 0], jD)⟩
def cOn (pl : List Int → Bool) (ld : List Int → List Int) (pr : List Int → D → Bool) (rp : List Int → D → R1) (pc : List (List Int) → Bool) : List (Nat × CSpec) :=
 [(88, sLd pl ld), (89, .pos (Sto.sS [bs] [i64]) (fun xs d => pr xs.2.1 d) fun xs d => rp xs.2.1 d), (90, sDi), (91, sCp pc)]
def hdO (h : JD) (o : List Int) : HD jD := (h.1, h.2.1, h.2.2.1, h.2.2.2.1, o, ())
def GOn (pl : List Int → Bool) (ld : List Int → List Int) (h : JD) (l l2 : List (List Int)) (o : List Int) (n i : Int) : Tr SOn.End :=
 let x := l2.getD i.toNat []
 .ite (decide (i < n)) (.chk (inArr i l2.length) (.ite (decide ((x.length : Int) > 1000)) (.ret (.inr (.ret, encS [4] [i64] (jE 0 ++ [.dead]) 43 ((7 : Int), ()) h)))
  (.chk (pl x) (.chk (Vse.room (o.length + (ld x).length) 1) (.ret (.inl (((), l, (), l2, n, w (i + 1), ()), hdO h (o ++ ld x))))))))
  (.ret (.inr (.exit 0, encS [0, 1, 5] [.ptr 0 [], Gen.ls, .vc 4 0] jD 43 ((), l, (), ()) (hdO h o))))
theorem rOn (pl : List Int → Bool) (ld : List Int → List Int) (pr : List Int → D → Bool) (rp : List Int → D → R1) (pc : List (List Int) → Bool) (h : JD) (l l2 : List (List Int)) (o : List Int) (n i : Int) :
  (SOn.round (bodyK Try.prog (ctx (cOn pl ld pr rp pc)) L0 bOn) ((), l, (), l2, n, i, ()) (hdO h o)).eval = (GOn pl ld h l l2 o n i).eval := by kernel_rfl
abbrev Con := JD → List Int → List (List Int) → List (List Int) → Int → Int → Bool
def FOn (c : Con) (bg : List (List Int) → Bool) (al : List (List Int) → List Int) (xs : HL SOn.Ts) (hs : HD SOn.Es) : Tr (Ex × St) :=
 let h : JD := (hs.1, hs.2.1, hs.2.2.1, hs.2.2.2.1, ())
 .chk (c h hs.2.2.2.2.1 xs.2.1 xs.2.2.2.1 xs.2.2.2.2.1 xs.2.2.2.2.2.1) (.ite (bg xs.2.1) (.ret (.ret, encS [4] [i64] (jE 0 ++ [.dead]) 43 ((7 : Int), ()) h))
  (.ret (.exit 0, encS [0, 1, 5] [.ptr 0 [], Gen.ls, .vc 4 0] jD 43 ((), xs.2.1, (), ()) (hdO h (al xs.2.1)))))
def LOn (c : Con) (bg : List (List Int) → Bool) (al : List (List Int) → List Int) : Loops := fun j st => if j = 5 then SOn.fn (FOn c bg al) st else .fail
def TOn (c : Con) (bg : List (List Int) → Bool) (al : List (List Int) → List Int) (pr : List Int → D → Bool) (rp : List Int → D → R1) (pc : List (List Int) → Bool) (l : List (List Int)) (h : JD) : Tr (nJ [Gen.ls] [i64] 1).Out :=
 let q := rp (al l) (stD h)
 .ite h.1.2.2.1 (.ret (((8 : Int), ()), h)) (.chk (c h [] l l (l.length : Int) 0) (.ite (bg l) (.ret (((7 : Int), ()), h)) (.chk (pr (al l) (stD h)) (.ite (!decide (q.1.1 = 0)) (.ret ((q.1.1, ()), putS (broke q.1.1) q.2 h.2.2.1))
  (.chk (pc l) (.ret (((0 : Int), ()), putS (broke q.1.1) q.2 l)))))))
theorem tOn (c : Con) (bg : List (List Int) → Bool) (al : List (List Int) → List Int) (pl : List Int → Bool) (ld : List Int → List Int) (pr : List Int → D → Bool) (rp : List Int → D → R1) (pc : List (List Int) → Bool) (l : List (List Int)) (h : JD) :
  (fnP Try.prog (ctx (cOn pl ld pr rp pc)) (LOn c bg al) (nJ [Gen.ls] [i64] 1) Try.f44 ((), l, ()) h).eval = (TOn c bg al pr rp pc l h).eval := by kernel_rfl
noncomputable def bOp : Code := (loopsOfS (bodyOf Try.f42)).getD 0 .skip
abbrev oE (k : Nat) : List ETy := Sto.sE k ++ [.box (jT 0 3 1), .vec 1 bt]
def SOp : RSpec := ⟨[0, 4, 5, 6], 83, [.ptr 0 [], .ptr 2 [], bt, bt], oE 1, Sto.sE 1 ++ [.box (.prod (.ptr 0 []) (.prod .nils (.prod .bool .unit)))], [.fld 2 1 bt], fun x => match x with | .ret => ([2, 3], [.nilp, i64], Sto.sE 1 ++ [.dead, .dead]) | _ => ([0, 4, 5, 6], [.ptr 0 [], .ptr 2 [], bt, bt], oE 1)⟩
def cOp (pl : List Int → Bool) (ld : List Int → List Int) (eq : List Int → List Int → Bool) (pk : List Int → Bool) (pd : D → Bool) (pr : List Int → D → Bool) (rp : List Int → D → R1) : List (Nat × CSpec) :=
 [(88, sLd pl ld), (87, sSl2 eq), (86, .slp1 [bs] (fun x => pk x.1) bt fun x => x.1), (76, .pos (Sto.sS [] [bt]) (fun _ d => pd d) fun xs d => ((Sto.D.b d, ()), d)),
  (89, .pos (Sto.sS [bs] [i64]) (fun xs d => pr xs.2.1 d) fun xs d => rp xs.2.1 d)]
abbrev Hop := HD (oE 1)
def hop (d : D) (br : Bool) (l : List (List Int)) : Hop := (d.1, d.2.1, ((), (), br, ()), l, ())
def exOp (all rest : List Int) (h : Hop) : Ex × St := (.exit 0, encS [0, 4, 5, 6] [.ptr 0 [], .ptr 2 [], bt, bt] (oE 1) 83 ((), (), all, rest, ()) h)
def erOp (h : Hop) : Ex × St := (.ret, encS [2, 3] [.nilp, i64] (Sto.sE 1 ++ [.dead, .dead]) 83 ((), (9 : Int), ()) (h.1, h.2.1, ()))
def mOp (r : List Int) : Int := orI .i64 (shlI .i64 (IntKind.i64.wrap (r.getD 0 0)) 8) (IntKind.i64.wrap (r.getD 1 0))
def recOp (r : List Int) : List Int := (r.take (w (10 + mOp r)).toNat).drop 10
def GOp (pl : List Int → Bool) (ld : List Int → List Int) (eq : List Int → List Int → Bool) (pk : List Int → Bool) (all rest : List Int) (h : Hop) : Tr SOp.End :=
 let e := w (10 + mOp rest)
 let ex : Tr SOp.End := .ret (.inr (exOp all rest h))
 let er : Tr SOp.End := .ret (.inr (erOp h))
 let go : Tr SOp.End := .ret (.inl (((), (), all, (rest.take rest.length).drop e.toNat, ()), (h.1, h.2.1, h.2.2.1, h.2.2.2.1 ++ [recOp rest], ())))
 let in3 : Tr SOp.End := .chk (pk (recOp rest)) (.chk (Vse.room (h.2.2.2.1.length + 1) 24) (.chk (decide (0 ≤ e) && (decide (e ≤ (rest.length : Int)) && decide ((rest.length : Int) ≤ (rest.length : Int)))) go))
 let in2 : Tr SOp.End := .chk (decide (10 ≤ e) && decide (e ≤ (rest.length : Int))) (.chk (pl (recOp rest)) (.chk (decide (0 ≤ e) && decide (e ≤ (rest.length : Int))) (.ite (!eq (ld (recOp rest)) ((rest.take e.toNat).drop 0)) er in3)))
 .ite (decide ((rest.length : Int) ≥ 2)) (.chk (inArr 0 rest.length) (.chk (inArr 1 rest.length) (.ite (decide (mOp rest > 1000)) er (.ite (decide ((rest.length : Int) < e)) ex in2)))) ex
theorem rOp (pl : List Int → Bool) (ld : List Int → List Int) (eq : List Int → List Int → Bool) (pk : List Int → Bool) (pd : D → Bool) (pr : List Int → D → Bool) (rp : List Int → D → R1) (all rest : List Int) (h : Hop) :
  (SOp.round (bodyK Try.prog (ctx (cOp pl ld eq pk pd pr rp)) L0 bOp) ((), (), all, rest, ()) h).eval = (GOp pl ld eq pk all rest h).eval := by kernel_rfl
abbrev Bo := List Int → Bool
abbrev Re := List Int → List (List Int)
abbrev Tl := List Int → List Int
def FOp (c : List Int → Hop → Bool) (bad : Bo) (re : Re) (tl : Tl) (xs : HL SOp.Ts) (hs : HD SOp.Es) : Tr (Ex × St) :=
 .chk (c xs.2.2.2.1 hs) (.ite (bad xs.2.2.2.1) (.ret (erOp hs)) (.ret (exOp xs.2.2.1 (tl xs.2.2.2.1) (hs.1, hs.2.1, hs.2.2.1, re xs.2.2.2.1, ()))))
def LOp (c : List Int → Hop → Bool) (bad : Bo) (re : Re) (tl : Tl) : Loops := fun j st => if j = 6 then SOp.fn (FOp c bad re tl) st else .fail
abbrev nOk : PSpec := ⟨[.ptr 0 []], [.ptr 2 [], i64], Sto.sE 0, oE 1, []⟩
def cutOp (tl : Tl) (b : List Int) : List Int := (b.take (w ((b.length : Int) - ((tl b).length : Int))).toNat).drop 0
def TOk (c : List Int → Hop → Bool) (bad : Bo) (re : Re) (tl : Tl) (pd : D → Bool) (pr : List Int → D → Bool) (rp : List Int → D → R1) (d : D) : Tr nOk.Out :=
 let b := Sto.D.b d
 let q := rp (cutOp tl b) d
 .chk (pd d) (.chk (c b (hop d false [])) (.ite (bad b) .fail (.ite (decide (((tl b).length : Int) > 0)) (.chk (decide (0 ≤ w ((b.length : Int) - ((tl b).length : Int))) && decide (w ((b.length : Int) - ((tl b).length : Int)) ≤ (b.length : Int))) (.chk (pr (cutOp tl b) d)
  (.ite (!decide (q.1.1 = 0)) .fail (.ret (((), (0 : Int), ()), hop q.2 false (re b)))))) (.ret (((), (0 : Int), ()), hop d false (re b))))))
theorem tOk (pl : List Int → Bool) (ld : List Int → List Int) (eq : List Int → List Int → Bool) (pk : List Int → Bool) (c : List Int → Hop → Bool) (bad : Bo) (re : Re) (tl : Tl) (pd : D → Bool) (pr : List Int → D → Bool) (rp : List Int → D → R1) (d : D) :
  (fnPX Try.prog (runS Try.prog (ctx (cOp pl ld eq pk pd pr rp)) (LOp c bad re tl) (bodyOf Try.f42)) nOk Try.f42 ((), ()) d).eval = (TOk c bad re tl pd pr rp d).eval := by kernel_rfl
end Go.Proofs.Ytffdkniccaebmaa.Jnl
end
section
set_option linter.unusedVariables false
set_option linter.unusedSimpArgs false
set_option maxRecDepth 100000
namespace Go.Proofs.Ytffdkniccaebmaa.Jnl
open Go Vse Go.Proofs Gen
open Sto (stT D R1 R0 rdyF appF syncF repF appP)
open Fld (lenN or_bytes Bytes bytes_get bytes_drop)
theorem outL_len (s : List Int) : ∀ (m i : Nat) (q : List Int), (Sha.outL s i m q).length = q.length
 | 0, i, q => rfl
 | m + 1, i, q => by rw [Sha.outL, outL_len s m, List.length_set]
theorem shaF_len (b : List Int) : (Sha.shaF b).length = 32 := by
 rw [Sha.shaF_hash]
 unfold Sha.sumH Sha.outF
 rw [outL_len]
 rfl
def laidF (b : List Int) : List Int := hd14 b ++ ((Sha.shaF (hd14 b ++ b)).take 8 ++ b)
theorem laid_len (b : List Int) : (laidF b).length = 10 + b.length := by
 unfold laidF
 rw [List.length_append, List.length_append, List.length_take, shaF_len]
 show 2 + (min 8 32 + b.length) = _
 omega
def okLd (b : List Int) : Bool := decide (b.length ≤ 1000000000)
theorem TLd_eq (b : List Int) (h : okLd b = true) : (TLd preCo flat Sha.shaP Sha.shaF b).eval = some ((laidF b, ()), ()) := by
 have hb : b.length ≤ 1000000000 := of_decide_eq_true h
 have e0 : (hd14 b).length = 2 := rfl
 have e1 : flat [hd14 b, b] = hd14 b ++ b := by unfold flat; simp
 have e2 : flat [hd14 b, ((Sha.shaF (hd14 b ++ b)).take 8).drop 0, b] = laidF b := by unfold flat laidF; simp
 unfold TLd
 rw [e1]
 dsimp only
 rw [e2]
 rw [chk_eval (by unfold preCo; rw [e1, List.length_append, e0, decide_eq_true (by omega), decide_eq_true (by omega)]; rfl)]
 rw [chk_eval (show Sha.shaP (hd14 b ++ b) = true from decide_eq_true (by rw [List.length_append, e0]; omega))]
 rw [chk_eval (by unfold preCo; rw [e2, laid_len, decide_eq_true (by omega), decide_eq_true (by omega)]; rfl)]
 rfl
theorem okLa : CSound Try.prog 88 (sLd okLd laidF) ∧ CLocal (sLd okLd laidF) :=
 pos_cuts (L := L0) (C := ctx (cLd preCo flat Sha.shaP Sha.shaF)) (ctx_sound ⟨okCo, Sha.ok16, trivial⟩) kLd Try.func88 (c := bLd) (by kernel_rfl) (by kernel_rfl) (noLoopsL (by kernel_rfl)) fun xs hs hx hh hp => by
  obtain ⟨b, u⟩ := xs
  exact (tLd preCo flat Sha.shaP Sha.shaF b).trans (TLd_eq b hp)
def okR (l : List (List Int)) : Bool := decide (l.length ≤ 1000000000000) && l.all okC
def cCpF : Ccp := fun o l n i => okR l && (decide (o.length = 0) && (decide (n = (l.length : Int)) && decide (i = 0)))
theorem cCp_sound : CtxSound Try.prog (ctx (cCp okC)) ∧ CtxLocal (ctx (cCp okC)) := ctx_sound ⟨okClS, trivial⟩
theorem mCp (l : List (List Int)) (hl : l.length ≤ 1000000000000) (ha : l.all okC = true) : ∀ (m k : Nat), k + m = l.length →
  SCp.many (bodyK Try.prog (ctx (cCp okC)) L0 bCp) (m + 1) ((), l, (l.length : Int), (k : Int), ()) (l.take k, ()) = some (.exit 0, encS [3] [.vc 0 0] [.vec 0 bt] 19 ((), ()) (l, ()))
 | 0, k, h => by
  rw [List.take_of_length_le (by omega)]
  refine rmany_inr ((rCp okC l l _ _).trans ?_) 0
  unfold GCp
  rw [ite_f (decide_eq_false (by omega))]
  rfl
 | m + 1, k, h => by
  have h1 : k < l.length := by omega
  have hc : okC l[k] = true := List.all_eq_true.1 ha _ (List.getElem_mem h1)
  have ht : l.take k ++ [l[k]] = l.take (k + 1) := by rw [List.take_add_one, List.getElem?_eq_getElem h1]; rfl
  refine (rmany_inl (d := (((), l, (l.length : Int), ((k + 1 : Nat) : Int), ()), (l.take (k + 1), ()))) ((rCp okC (l.take k) l _ _).trans ?_) (m + 1)).trans (mCp l hl ha m (k + 1) (by omega))
  unfold GCp
  rw [Int.toNat_natCast, getD_of h1, ite_t (decide_eq_true (by omega)), chk_eval (inArr_of h1), chk_eval hc, chk_eval (by simp only [Vse.room, decide_eq_true_eq, List.length_take]; omega), ht, w_succ h1 (by omega)]
  rfl
theorem lCp : LoopOK Try.prog (LCp cCpF) bCp :=
 rloop_ok (L := LCp cCpF) (L' := L0) cCp_sound (loopsOK_of (by kernel_rfl)) SCp (F := FCp cCpF) (i := 3) (by kernel_rfl) (fun _ => rfl) fun xs hs q h => by
  obtain ⟨u1, l, n, i, u⟩ := xs
  obtain ⟨o, u2⟩ := hs
  obtain ⟨h1, h2⟩ := Tr.chk_some h
  simp only [cCpF, okR, Bool.and_eq_true, decide_eq_true_eq] at h1
  obtain ⟨⟨hl, ha⟩, e1, hn, e3⟩ := h1
  have e1 : o = ([] : List (List Int)) := List.eq_nil_of_length_eq_zero e1
  have hn : n = ((List.length (α := List Int) l : Nat) : Int) := hn
  have e3 : i = ((0 : Nat) : Int) := e3
  subst e1; subst hn; subst e3
  exact ⟨_, (mCp l hl ha (List.length (α := List Int) l) 0 (by omega)).trans (congrArg some (Tr.ret_some h2))⟩
theorem okCp : CSound Try.prog 91 (sCp okR) ∧ CLocal (sCp okR) :=
 pos_sound (L := LCp cCpF) cCp_sound Try.func91 (by kernel_rfl) (loops1 (by kernel_rfl) lCp) fun xs hs hx hh hp => by
  obtain ⟨l, u⟩ := xs
  have hp : okR l = true := hp
  exact (tCp okC cCpF l).trans (chk_eval (by unfold cCpF; rw [hp]; simp) _)
def sRc : CSpec := .pos nRc (fun _ h => okR h.2.2.1) fun _ h => (((), ()), (h.1, h.2.1, h.2.2.1, h.2.2.2.1, h.2.2.1, ()))
theorem okRc : CSound Try.prog 48 sRc ∧ CLocal sRc :=
 pos_sound (L := L0) (C := ctx [(91, sCp okR)]) (ctx_sound ⟨okCp, trivial⟩) Try.func48 (by kernel_rfl) (noLoopsL (by kernel_rfl)) fun xs hs hx hh hp => (tRc okR hs).trans (chk_eval hp _)
theorem TDi_eq (e : Int) (h : JD) : (TDi e h).eval = some ((e, ()), (((), (), broke e, ()), h.2)) := by
 unfold TDi broke
 by_cases he : e = (0 : Int)
 ·rw [ite_f (by rw [decide_eq_true he]; rfl), show (e != 0) = false by rw [he]; rfl]; rfl
 ·rw [ite_t (by rw [decide_eq_false he]; rfl), Sto.nt he]; rfl
theorem okDi : CSound Try.prog 90 sDi ∧ CLocal sDi :=
 pos_sound (L := L0) nil_sound Try.func90 (by kernel_rfl) (noLoopsL (by kernel_rfl)) fun xs hs hx hh hp => (tDi xs.2.1 hs).trans (TDi_eq xs.2.1 hs)
abbrev RJ := (Int × Unit) × JD
def ej (e : Int) (h : JD) : RJ := ((e, ()), h)
def addF (b : List Int) (h : JD) : RJ :=
 if h.1.2.2.1 = true then ej 8 h else if (b.length : Int) > 1000 then ej 7 h else
  if (appF rdyF (laidF b) (stD h)).1.1 = 0 then
   (if (syncF rdyF (appF rdyF (laidF b) (stD h)).2).1.1 = 0 then ej 0 (putS false (syncF rdyF (appF rdyF (laidF b) (stD h)).2).2 (h.2.2.1 ++ [b]))
    else ej (syncF rdyF (appF rdyF (laidF b) (stD h)).2).1.1 (putS (broke (syncF rdyF (appF rdyF (laidF b) (stD h)).2).1.1) (syncF rdyF (appF rdyF (laidF b) (stD h)).2).2 h.2.2.1))
  else ej (appF rdyF (laidF b) (stD h)).1.1 (putS (broke (appF rdyF (laidF b) (stD h)).1.1) (appF rdyF (laidF b) (stD h)).2 h.2.2.1)
def addP (b : List Int) (h : JD) : Bool := decide ((b.length : Int) > 1000) || (appP rdyF (laidF b) (stD h) && decide (h.2.2.1.length ≤ 1000000))
theorem TAd_eq (b : List Int) (h : JD) (hp : addP b h = true) : (TAd okLd laidF (appP rdyF) (appF rdyF) (syncF rdyF) okC b h).eval = some (addF b h) := by
 unfold TAd addF
 dsimp only
 cases h0 : h.1.2.2.1 with
 | true => rw [ite_t rfl, if_pos rfl]; rfl
 | false =>
  rw [ite_f rfl, if_neg (by simp)]
  by_cases h1 : (b.length : Int) > 1000
  ·rw [ite_t (decide_eq_true h1), if_pos h1]; rfl
  ·rw [ite_f (decide_eq_false h1), if_neg h1]
   unfold addP at hp
   rw [decide_eq_false h1, Bool.false_or, Bool.and_eq_true, decide_eq_true_eq] at hp
   rw [chk_eval (show okLd b = true from decide_eq_true (by omega)), chk_eval hp.1]
   generalize appF rdyF (laidF b) (stD h) = q
   by_cases h2 : q.1.1 = 0
   ·rw [ite_f (by simp [h2]), if_pos h2]
    generalize syncF rdyF q.2 = q2
    by_cases h3 : q2.1.1 = 0
    ·rw [ite_f (by simp [h3]), if_pos h3, chk_eval (show okC b = true from decide_eq_true (by omega)), chk_eval (by simp only [Vse.room, decide_eq_true_eq]; omega), h3]
     rfl
    ·rw [ite_t (by simp [h3]), if_neg h3]; rfl
   ·rw [ite_t (by simp [h2]), if_neg h2]; rfl
def sAd : CSpec := .pos (nJ [bs] [i64] 1) (fun xs h => addP xs.2.1 h) fun xs h => addF xs.2.1 h
theorem okAd : CSound Try.prog 45 sAd ∧ CLocal sAd :=
 pos_sound (L := L0) (C := ctx (cAd okLd laidF (appP rdyF) (appF rdyF) (syncF rdyF) okC)) (ctx_sound ⟨okLa, Sto.ok48, Sto.ok49, okDi, okClS, trivial⟩) Try.func45 (by kernel_rfl) (noLoopsL (by kernel_rfl)) fun xs hs hx hh hp => by
  obtain ⟨u1, b, u⟩ := xs
  exact (tAd okLd laidF (appP rdyF) (appF rdyF) (syncF rdyF) okC b hs).trans (TAd_eq b hs hp)
end Go.Proofs.Ytffdkniccaebmaa.Jnl
end
section
set_option linter.unusedVariables false
set_option linter.unusedSimpArgs false
set_option maxRecDepth 100000
namespace Go.Proofs.Ytffdkniccaebmaa.Jnl
open Go Vse Go.Proofs Gen
open Sto (stT D R1 R0 rdyF appF syncF repF appP)
open Fld (lenN or_bytes Bytes bytes_get bytes_drop)
def bigF (l : List (List Int)) : Bool := l.any fun b => decide ((b.length : Int) > 1000)
def alF (l : List (List Int)) : List Int := flat (l.map laidF)
theorem al_nil : alF [] = [] := rfl
theorem al_cons (b : List Int) (l : List (List Int)) : alF (b :: l) = laidF b ++ alF l := by unfold alF flat; simp
theorem al_snoc (l : List (List Int)) (b : List Int) : alF (l ++ [b]) = alF l ++ laidF b := by unfold alF flat; simp
abbrev cOnS : List (Nat × CSpec) := cOn okLd laidF (fun x _ => Vse.room x.length 1) (repF rdyF) okR
theorem cOn_sound : CtxSound Try.prog (ctx cOnS) ∧ CtxLocal (ctx cOnS) := ctx_sound ⟨okLa, Sto.ok51, okDi, okCp, trivial⟩
def cOnF : Con := fun h o l l2 n i => decide (o.length = 0) && (decide (l2 = l) && (decide (n = (l.length : Int)) && (decide (i = 0) && decide (l.length ≤ 1000000))))
theorem mOn (h : JD) (l : List (List Int)) (hl : l.length ≤ 1000000) : ∀ (m k : Nat), k + m = l.length → (alF (l.take k)).length ≤ 1010 * k →
  SOn.many (bodyK Try.prog (ctx cOnS) L0 bOn) (m + 1) ((), l, (), l, (l.length : Int), (k : Int), ()) (hdO h (alF (l.take k))) =
   if bigF (l.drop k) = true then some (.ret, encS [4] [i64] (jE 0 ++ [.dead]) 43 ((7 : Int), ()) h) else some (.exit 0, encS [0, 1, 5] [.ptr 0 [], Gen.ls, .vc 4 0] jD 43 ((), l, (), ()) (hdO h (alF l)))
 | 0, k, hk, ho => by
  rw [List.take_of_length_le (by omega), List.drop_eq_nil_of_le (by omega), if_neg (by simp [bigF])]
  refine rmany_inr ((rOn okLd laidF _ _ okR h l l (alF l) _ _).trans ?_) 0
  unfold GOn
  dsimp only
  rw [ite_f (decide_eq_false (by omega))]
  rfl
 | m + 1, k, hk, ho => by
  have h1 : k < l.length := by omega
  have ht : l.take (k + 1) = l.take k ++ [l[k]] := by rw [List.take_add_one, List.getElem?_eq_getElem h1]; rfl
  have hd := List.drop_eq_getElem_cons h1
  by_cases hb : (l[k].length : Int) > 1000
  ·rw [if_pos (by rw [hd]; unfold bigF; rw [List.any_cons, decide_eq_true hb]; rfl)]
   refine rmany_inr ((rOn okLd laidF _ _ okR h l l _ _ _).trans ?_) _
   unfold GOn
   dsimp only
   rw [Int.toNat_natCast, getD_of h1, ite_t (decide_eq_true (by omega)), chk_eval (inArr_of h1), ite_t (decide_eq_true hb)]
   rfl
  ·have e1 : bigF (l.drop k) = bigF (l.drop (k + 1)) := by rw [hd]; unfold bigF; rw [List.any_cons, decide_eq_false hb, Bool.false_or]
   have e2 : (alF (l.take (k + 1))).length ≤ 1010 * (k + 1) := by rw [ht, al_snoc, List.length_append, laid_len]; omega
   rw [e1]
   refine (rmany_inl (d := (((), l, (), l, (l.length : Int), ((k + 1 : Nat) : Int), ()), hdO h (alF (l.take (k + 1))))) ((rOn okLd laidF _ _ okR h l l _ _ _).trans ?_) (m + 1)).trans (mOn h l hl m (k + 1) (by omega) e2)
   unfold GOn
   dsimp only
   rw [Int.toNat_natCast, getD_of h1, ite_t (decide_eq_true (by omega)), chk_eval (inArr_of h1), ite_f (decide_eq_false hb), chk_eval (show okLd l[k] = true from decide_eq_true (by omega)),
    chk_eval (by rw [laid_len]; simp only [Vse.room, decide_eq_true_eq]; omega), w_succ h1 (by omega), ht, al_snoc]
   rfl
theorem lOn : LoopOK Try.prog (LOn cOnF bigF alF) bOn :=
 rloop_ok (L := LOn cOnF bigF alF) (L' := L0) cOn_sound (loopsOK_of (by kernel_rfl)) SOn (F := FOn cOnF bigF alF) (i := 5) (by kernel_rfl) (fun _ => rfl) fun xs hs q hq => by
  obtain ⟨u1, l, u2, l2, n, i, u3⟩ := xs
  obtain ⟨a, b, c, d, o, u4⟩ := hs
  obtain ⟨h1, h2⟩ := Tr.chk_some hq
  simp only [cOnF, Bool.and_eq_true, decide_eq_true_eq] at h1
  obtain ⟨e1, e2, hn, e3, hl⟩ := h1
  have e1 : o = ([] : List Int) := List.eq_nil_of_length_eq_zero e1
  have e2 : l2 = l := e2
  have hn : n = ((List.length (α := List Int) l : Nat) : Int) := hn
  have e3 : i = ((0 : Nat) : Int) := e3
  subst e1; subst e2; subst hn; subst e3
  refine ⟨_, (mOn (a, b, c, d, ()) l2 hl (List.length (α := List Int) l2) 0 (by omega) (Nat.zero_le _)).trans ?_⟩
  rw [List.drop_zero]
  rcases Tr.ite_some h2 with ⟨hx, h3⟩ | ⟨hx, h3⟩
  ·have hx : bigF l2 = true := hx
   rw [if_pos hx]
   exact congrArg some (Tr.ret_some h3)
  ·have hx : bigF l2 = false := hx
   rw [if_neg (by rw [hx]; simp)]
   exact congrArg some (Tr.ret_some h3)
def onF (l : List (List Int)) (h : JD) : RJ :=
 if h.1.2.2.1 = true then ej 8 h else if bigF l = true then ej 7 h else
  if (repF rdyF (alF l) (stD h)).1.1 = 0 then ej 0 (putS false (repF rdyF (alF l) (stD h)).2 l)
  else ej (repF rdyF (alF l) (stD h)).1.1 (putS (broke (repF rdyF (alF l) (stD h)).1.1) (repF rdyF (alF l) (stD h)).2 h.2.2.1)
def onP (l : List (List Int)) : Bool := decide (l.length ≤ 1000000)
theorem al_le : ∀ (l : List (List Int)), bigF l = false → (alF l).length ≤ 1010 * l.length
 | [], _ => Nat.le_refl _
 | b :: l, h => by
  unfold bigF at h
  rw [List.any_cons, Bool.or_eq_false_iff] at h
  have h1 := of_decide_eq_false h.1
  have := al_le l h.2
  rw [al_cons, List.length_append, laid_len, List.length_cons]; omega
theorem big_all : ∀ (l : List (List Int)), bigF l = false → l.all okC = true
 | [], _ => rfl
 | b :: l, h => by
  unfold bigF at h
  rw [List.any_cons, Bool.or_eq_false_iff] at h
  have h1 := of_decide_eq_false h.1
  rw [List.all_cons, big_all l h.2, show okC b = true from decide_eq_true (by omega)]; rfl
theorem TOn_eq (l : List (List Int)) (h : JD) (hp : onP l = true) : (TOn cOnF bigF alF (fun x _ => Vse.room x.length 1) (repF rdyF) okR l h).eval = some (onF l h) := by
 have hl : l.length ≤ 1000000 := of_decide_eq_true hp
 unfold TOn onF
 dsimp only
 cases h0 : h.1.2.2.1 with
 | true => rw [ite_t rfl, if_pos rfl]; rfl
 | false =>
  rw [ite_f rfl, if_neg (by simp), chk_eval (by unfold cOnF; rw [decide_eq_true hl]; simp)]
  cases hb : bigF l with
  | true => rw [ite_t rfl, if_pos rfl]; rfl
  | false =>
   have ha := al_le l hb
   rw [ite_f rfl, if_neg (by simp), chk_eval (by simp only [Vse.room, decide_eq_true_eq]; omega)]
   generalize repF rdyF (alF l) (stD h) = q
   by_cases h2 : q.1.1 = 0
   ·rw [ite_f (by simp [h2]), if_pos h2, chk_eval (by unfold okR; rw [big_all l hb, decide_eq_true (by omega)]; rfl), h2]
    rfl
   ·rw [ite_t (by simp [h2]), if_neg h2]; rfl
def sOn : CSpec := .pos (nJ [Gen.ls] [i64] 1) (fun xs _ => onP xs.2.1) fun xs h => onF xs.2.1 h
theorem okOn : CSound Try.prog 44 sOn ∧ CLocal sOn :=
 pos_sound (L := LOn cOnF bigF alF) cOn_sound Try.func44 (by kernel_rfl) (loops1 (by kernel_rfl) lOn) fun xs hs hx hh hp => by
  obtain ⟨u1, l, u⟩ := xs
  exact (tOn cOnF bigF alF okLd laidF _ (repF rdyF) okR l hs).trans (TOn_eq l hs hp)
theorem mOp_eq {r : List Int} (h : Bytes r) : mOp r = lenN r := or_bytes (bytes_get h 0) (bytes_get h 1)
theorem lenN_pos {r : List Int} (h : Bytes r) : 0 ≤ lenN r ∧ lenN r < 65536 := by
 have := bytes_get h 0
 have := bytes_get h 1
 unfold lenN; omega
def recF (r : List Int) : List Int := (r.take (10 + (lenN r).toNat)).drop 10
def scan : Nat → List Int → Option (List (List Int) × List Int)
 | 0, r => some ([], r)
 | n + 1, r => if r.length ≥ 2 then (if lenN r > 1000 then none else if r.length < 10 + (lenN r).toNat then some ([], r) else
   if laidF (recF r) = r.take (10 + (lenN r).toNat) then (match scan n (r.drop (10 + (lenN r).toNat)) with
    | some q => some (recF r :: q.1, q.2)
    | none => none) else none) else some ([], r)
def outOp (all : List Int) (h : Hop) : Option (List (List Int) × List Int) → Ex × St
 | some q => exOp all q.2 (h.1, h.2.1, h.2.2.1, h.2.2.2.1 ++ q.1, ())
 | none => erOp h
theorem mOpF (all : List Int) : ∀ (m : Nat) (r : List Int) (h : Hop), Bytes r → r.length ≤ m → m ≤ 1000000000 → h.2.2.2.1.length + r.length ≤ 2000000000 →
  SOp.many (bodyK Try.prog (ctx (cOp okLd laidF sameF okC (fun d => Vse.room (Sto.D.b d).length 1) (fun x _ => Vse.room x.length 1) (repF rdyF))) L0 bOp) (m + 1) ((), (), all, r, ()) h = some (outOp all h (scan m r))
 | 0, r, h, hb, hr, hm, hl => by
  have hz : r = [] := List.eq_nil_of_length_eq_zero (by omega)
  subst hz
  refine rmany_inr ((rOp _ _ _ _ _ _ _ all [] h).trans ?_) 0
  unfold GOp
  dsimp only
  rw [ite_f (show (decide (((([] : List Int).length : Nat) : Int) ≥ 2)) = false from rfl)]
  show _ = some (Sum.inr (exOp all [] (h.1, h.2.1, h.2.2.1, h.2.2.2.1 ++ [], ())))
  rw [List.append_nil]
  rfl
 | m + 1, r, h, hb, hr, hm, hl => by
  have hn := lenN_pos hb
  have hw : w (10 + mOp r) = ((10 + (lenN r).toNat : Nat) : Int) := by rw [mOp_eq hb, w_id (by omega) (by omega)]; omega
  have hrec : recOp r = recF r := by unfold recOp recF; rw [hw, Int.toNat_natCast]
  by_cases h2 : r.length ≥ 2
  ·have hh : (decide ((r.length : Int) ≥ 2)) = true := decide_eq_true (by omega)
   rw [scan, if_pos h2]
   by_cases h3 : lenN r > 1000
   ·rw [if_pos h3]
    refine rmany_inr ((rOp _ _ _ _ _ _ _ all r h).trans ?_) _
    unfold GOp
    dsimp only
    rw [ite_t hh, chk_eval (show inArr 0 r.length = true from inArr_of (k := 0) (by omega)), chk_eval (show inArr 1 r.length = true from inArr_of (k := 1) (by omega)), ite_t (by rw [mOp_eq hb]; exact decide_eq_true h3)]
    rfl
   ·rw [if_neg h3]
    by_cases h4 : r.length < 10 + (lenN r).toNat
    ·rw [if_pos h4]
     refine rmany_inr ((rOp _ _ _ _ _ _ _ all r h).trans ?_) _
     unfold GOp
     dsimp only
     rw [ite_t hh, chk_eval (show inArr 0 r.length = true from inArr_of (k := 0) (by omega)), chk_eval (show inArr 1 r.length = true from inArr_of (k := 1) (by omega)), ite_f (by rw [mOp_eq hb]; exact decide_eq_false h3), hw, ite_t (decide_eq_true (by omega))]
     show _ = some (Sum.inr (exOp all r (h.1, h.2.1, h.2.2.1, h.2.2.2.1 ++ [], ())))
     rw [List.append_nil]
     rfl
    ·rw [if_neg h4]
     have hrl : (recF r).length ≤ 1000 := by unfold recF; rw [List.length_drop, List.length_take]; omega
     by_cases h5 : laidF (recF r) = r.take (10 + (lenN r).toNat)
     ·rw [if_pos h5]
      have hdl : (r.drop (10 + (lenN r).toNat)).length = r.length - (10 + (lenN r).toNat) := List.length_drop
      refine (rmany_inl (d := (((), (), all, r.drop (10 + (lenN r).toNat), ()), (h.1, h.2.1, h.2.2.1, h.2.2.2.1 ++ [recF r], ()))) ((rOp _ _ _ _ _ _ _ all r h).trans ?_) (m + 1)).trans
       ((mOpF all m (r.drop (10 + (lenN r).toNat)) (h.1, h.2.1, h.2.2.1, h.2.2.2.1 ++ [recF r], ()) (bytes_drop hb _) (by omega) (by omega) ?_).trans ?_)
      ·unfold GOp
       dsimp only
       rw [ite_t hh, chk_eval (show inArr 0 r.length = true from inArr_of (k := 0) (by omega)), chk_eval (show inArr 1 r.length = true from inArr_of (k := 1) (by omega)), ite_f (by rw [mOp_eq hb]; exact decide_eq_false h3), hw, ite_f (decide_eq_false (by omega)), hrec,
        chk_eval (by rw [Bool.and_eq_true, decide_eq_true_eq, decide_eq_true_eq]; omega), chk_eval (show okLd (recF r) = true from decide_eq_true (by omega)), chk_eval (by rw [Bool.and_eq_true, decide_eq_true_eq, decide_eq_true_eq]; omega),
        Int.toNat_natCast, List.drop_zero, ite_f (by rw [show sameF (laidF (recF r)) (r.take (10 + (lenN r).toNat)) = true from decide_eq_true h5]; rfl), chk_eval (show okC (recF r) = true from decide_eq_true (by omega)),
        chk_eval (by simp only [Vse.room, decide_eq_true_eq]; omega), chk_eval (by simp only [Bool.and_eq_true, decide_eq_true_eq]; omega), List.take_of_length_le (Nat.le_refl _)]
       rfl
      ·show (h.2.2.2.1 ++ [recF r]).length + _ ≤ _
       rw [List.length_append, hdl]
       show h.2.2.2.1.length + 1 + _ ≤ _
       omega
      ·cases hs : scan m (r.drop (10 + (lenN r).toNat)) with
       | none => rfl
       | some q =>
        show some (exOp all q.2 (h.1, h.2.1, h.2.2.1, (h.2.2.2.1 ++ [recF r]) ++ q.1, ())) = some (exOp all q.2 (h.1, h.2.1, h.2.2.1, h.2.2.2.1 ++ (recF r :: q.1), ()))
        rw [List.append_assoc]; rfl
     ·rw [if_neg h5]
      refine rmany_inr ((rOp _ _ _ _ _ _ _ all r h).trans ?_) _
      unfold GOp
      dsimp only
      rw [ite_t hh, chk_eval (show inArr 0 r.length = true from inArr_of (k := 0) (by omega)), chk_eval (show inArr 1 r.length = true from inArr_of (k := 1) (by omega)), ite_f (by rw [mOp_eq hb]; exact decide_eq_false h3), hw, ite_f (decide_eq_false (by omega)), hrec,
        chk_eval (by rw [Bool.and_eq_true, decide_eq_true_eq, decide_eq_true_eq]; omega), chk_eval (show okLd (recF r) = true from decide_eq_true (by omega)), chk_eval (by rw [Bool.and_eq_true, decide_eq_true_eq, decide_eq_true_eq]; omega),
        Int.toNat_natCast, List.drop_zero, ite_t (by rw [show sameF (laidF (recF r)) (r.take (10 + (lenN r).toNat)) = false from decide_eq_false h5]; rfl)]
      rfl
  ·rw [scan, if_neg h2]
   refine rmany_inr ((rOp _ _ _ _ _ _ _ all r h).trans ?_) _
   unfold GOp
   dsimp only
   rw [ite_f (decide_eq_false (by omega))]
   show _ = some (Sum.inr (exOp all r (h.1, h.2.1, h.2.2.1, h.2.2.2.1 ++ [], ())))
   rw [List.append_nil]
   rfl
end Go.Proofs.Ytffdkniccaebmaa.Jnl
end
section
set_option linter.unusedVariables false
set_option linter.unusedSimpArgs false
set_option maxRecDepth 100000
namespace Go.Proofs.Ytffdkniccaebmaa.Jnl
open Go Vse Go.Proofs Gen
open Sto (stT D R1 R0 rdyF appF syncF repF appP)
open Fld (lenN or_bytes Bytes bytes_get bytes_drop)
def badF (b : List Int) : Bool := (scan b.length b).isNone
def reF (b : List Int) : List (List Int) := match scan b.length b with
 | some q => q.1
 | none => []
def tlF (b : List Int) : List Int := match scan b.length b with
 | some q => q.2
 | none => []
theorem scan_le : ∀ (n : Nat) (r : List Int) (q : List (List Int) × List Int), scan n r = some q → q.2.length ≤ r.length
 | 0, r, q, h => by
  have h : some (([] : List (List Int)), r) = some q := h
  cases h; exact Nat.le_refl _
 | n + 1, r, q, h => by
  rw [scan] at h
  split at h
  ·split at h
   ·cases h
   ·split at h
    ·cases h; exact Nat.le_refl _
    ·split at h
     ·split at h
      ·rename_i q' hq
       cases h
       have := scan_le n _ q' hq
       rw [List.length_drop] at this
       exact Nat.le_trans this (Nat.sub_le _ _)
      ·cases h
     ·cases h
  ·cases h; exact Nat.le_refl _
theorem tl_le (b : List Int) : (tlF b).length ≤ b.length := by
 unfold tlF
 cases h : scan b.length b with
 | none => exact Nat.zero_le _
 | some q => exact scan_le _ _ _ h
abbrev cOpS : List (Nat × CSpec) := cOp okLd laidF sameF okC (fun d => Vse.room (Sto.D.b d).length 1) (fun x _ => Vse.room x.length 1) (repF rdyF)
theorem cOp_sound : CtxSound Try.prog (ctx cOpS) ∧ CtxLocal (ctx cOpS) := ctx_sound ⟨okLa, okEqL, okClS, Sto.ok20, Sto.ok51, trivial⟩
def byB (b : List Int) : Bool := b.all fun x => decide (0 ≤ x ∧ x < 256)
theorem by_Bytes {b : List Int} (h : byB b = true) : Bytes b := fun x hx => of_decide_eq_true (List.all_eq_true.1 h x hx)
theorem Bytes_by {b : List Int} (h : Bytes b) : byB b = true := List.all_eq_true.2 fun x hx => decide_eq_true (h x hx)
def cOpF (b : List Int) (h : Hop) : Bool := decide (b.length ≤ 2000000) && (byB b && decide (h.2.2.2.1.length = 0))
theorem lOp : LoopOK Try.prog (LOp cOpF badF reF tlF) bOp :=
 rloop_ok (L := LOp cOpF badF reF tlF) (L' := L0) cOp_sound (loopsOK_of (by kernel_rfl)) SOp (F := FOp cOpF badF reF tlF) (i := 6) (by kernel_rfl) (fun _ => rfl) fun xs hs q hq => by
  obtain ⟨u1, u2, all, r, u3⟩ := xs
  obtain ⟨a, b, c, o, u4⟩ := hs
  obtain ⟨h1, h2⟩ := Tr.chk_some hq
  simp only [cOpF, Bool.and_eq_true, decide_eq_true_eq] at h1
  obtain ⟨hl, hb, e1⟩ := h1
  have hl : List.length (α := Int) r ≤ 2000000 := hl
  have hb : Bytes r := by_Bytes hb
  have e1 : o = ([] : List (List Int)) := List.eq_nil_of_length_eq_zero e1
  subst e1
  refine ⟨_, (mOpF all (List.length (α := Int) r) r (a, b, c, [], ()) hb (Nat.le_refl _) (by omega) (by show 0 + List.length (α := Int) r ≤ _; omega)).trans ?_⟩
  rcases Tr.ite_some h2 with ⟨hx, h3⟩ | ⟨hx, h3⟩
  ·have hx : badF r = true := hx
   unfold badF at hx
   rw [Option.isNone_iff_eq_none.1 hx]
   exact congrArg some (Tr.ret_some h3)
  ·have hx : badF r = false := hx
   unfold badF at hx
   have h3 := Tr.ret_some h3
   cases hs : scan (List.length (α := Int) r) r with
   | none => rw [hs] at hx; cases hx
   | some p =>
    rw [← h3]
    show some (exOp all p.2 (a, b, c, [] ++ p.1, ())) = some (exOp all (tlF r) (a, b, c, reF r, ()))
    rw [show tlF r = p.2 by unfold tlF; rw [hs], show reF r = p.1 by unfold reF; rw [hs]]
    rfl
def cutB (b : List Int) : List Int := b.take (b.length - (tlF b).length)
theorem cut_eq {b : List Int} (h : b.length ≤ 2000000) : w ((b.length : Int) - ((tlF b).length : Int)) = ((b.length - (tlF b).length : Nat) : Int) ∧ cutOp tlF b = cutB b := by
 have ht := tl_le b
 have e : w ((b.length : Int) - ((tlF b).length : Int)) = ((b.length - (tlF b).length : Nat) : Int) := by rw [w_id (by omega) (by omega)]; omega
 refine ⟨e, ?_⟩
 unfold cutOp cutB
 rw [e, Int.toNat_natCast, List.drop_zero]
def opP (d : D) : Bool := decide (d.b.length ≤ 2000000)
def opOk (d : D) : Bool := !badF d.b && (decide ((tlF d.b).length = 0) || decide ((repF rdyF (cutB d.b) d).1.1 = 0))
def opF (d : D) : (Unit × Int × Unit) × Hop := (((), 0, ()), if (tlF d.b).length = 0 then hop d false (reF d.b) else hop (repF rdyF (cutB d.b) d).2 false (reF d.b))
theorem cO_eq {d : D} (hl : d.b.length ≤ 2000000) (hb : Bytes d.b) : cOpF d.b (hop d false []) = true := by
 unfold cOpF
 rw [decide_eq_true hl, Bytes_by hb]
 rfl
theorem TOk_eq (d : D) (hp : opP d = true) (hb : Bytes d.b) (ho : opOk d = true) : (TOk cOpF badF reF tlF (fun d => Vse.room (Sto.D.b d).length 1) (fun x _ => Vse.room x.length 1) (repF rdyF) d).eval = some (opF d) := by
 have hl : d.b.length ≤ 2000000 := of_decide_eq_true hp
 obtain ⟨c1, c2⟩ := cut_eq hl
 have ht := tl_le d.b
 unfold opOk at ho
 rw [Bool.and_eq_true, Bool.not_eq_true', Bool.or_eq_true, decide_eq_true_eq, decide_eq_true_eq] at ho
 unfold TOk opF
 dsimp only
 rw [chk_eval (by simp only [Vse.room, decide_eq_true_eq]; omega), chk_eval (cO_eq hl hb), ite_f ho.1, c1, c2]
 by_cases h0 : (tlF d.b).length = 0
 ·rw [ite_f (decide_eq_false (by omega)), if_pos h0]; rfl
 ·rw [ite_t (decide_eq_true (by omega)), if_neg h0, chk_eval (by rw [Bool.and_eq_true, decide_eq_true_eq, decide_eq_true_eq]; omega),
   chk_eval (by unfold cutB; rw [List.length_take]; simp only [Vse.room, decide_eq_true_eq]; omega)]
  rcases ho.2 with h | h
  ·exact absurd h h0
  ·rw [ite_f (by simp [h])]; rfl
def sOk : CSpec := .pos nOk (fun _ d => opP d && opOk d) fun _ d => opF d
theorem u8_ok {x : Int} (h : Ty.ok u8 x) : 0 ≤ x ∧ x < 256 := by
 have h : inK .u8 x = true := h
 have h1 : IntKind.u8.min = 0 := by decide
 have h2 : IntKind.u8.max = 255 := by decide
 simp only [inK, h1, h2, Bool.and_eq_true, decide_eq_true_eq] at h
 omega
theorem loops_Op : loopsOfS (bodyOf Try.f42) = [bOp] := by kernel_rfl
theorem lOps : ∀ b ∈ loopsOfS (bodyOf Try.f42), LoopOK Try.prog (LOp cOpF badF reF tlF) b := fun b hb => by
 rw [loops_Op, List.mem_singleton] at hb
 subst hb
 exact lOp
theorem okOk : CSound Try.prog 42 sOk ∧ CLocal sOk :=
 pos_scope (L := LOp cOpF badF reF tlF) cOp_sound Try.func42 (c := bodyOf Try.f42) (by kernel_rfl) (by kernel_rfl) lOps fun xs hs hx hh hp => by
  have hp : (opP hs && opOk hs) = true := hp
  rw [Bool.and_eq_true] at hp
  have hb : Bytes (Sto.D.b hs) := fun x hx => u8_ok (hh.2.1 x hx)
  exact (tOk okLd laidF sameF okC cOpF badF reF tlF _ _ (repF rdyF) hs).trans (TOk_eq hs hp.1 hb hp.2)
end Go.Proofs.Ytffdkniccaebmaa.Jnl
end
section
set_option linter.unusedVariables false
namespace Vse
open Go Go.ChangeShapes
section
variable {P : Program} {C : Ctx} {L : Loops}
def CSpec.cloneO (A : Ty) (pre : List A.den → Bool) : CSpec :=
 ⟨1, fun _ _ => [], fun _ _ => [], fun vs _ fr => match vs with
  | [.v (.imm _ _ B) l] => match castL ⟨B, l⟩ A with
   | some l => .chk (pre l) (.ret (.v (.vc fr 0) (), [(fr, .vec 0 A l)]))
   | none => .fail
  | _ => .fail⟩
theorem cloneO_local (A : Ty) (pre : List A.den → Bool) : CLocal (CSpec.cloneO A pre) where
 same vs H H' h := ⟨rfl, rfl⟩
 turns vs H fr out h x hx := by
  simp only [CSpec.cloneO] at h
  split at h
  ·split at h
   ·obtain ⟨_, h⟩ := Tr.chk_some h
    have := Tr.ret_some h
    subst this
    simp only [List.mem_singleton] at hx
    subst hx
    exact .inr (by simp [CSpec.cloneO])
   ·exact (Tr.fail_some h).elim
  ·exact (Tr.fail_some h).elim
theorem cloneO_sound {k : Nat} {c : CSpec} (hc : CSound P k c) {A : Ty} {pre : List A.den → Bool} (hnew : c.new = 1) (hids : ∀ (p : Bool) (l : List A.den) (H : Heap), c.ids [.v (.imm p true A) l] H = [])
  (hcore : ∀ (p : Bool) (l : List A.den) (fr : Nat), pre l = true → (c.core [.v (.imm p true A) l] [] fr).eval = some (.v (.vc fr 0) (), [(fr, .vec 0 A l)]))
  (hn : ∀ (n c : Nat) (w : World), Calls P k #[.slice none n c] w fun e w' => e = .returned (.slice none 0 0) ∧ w' = w) :
  CSound P k (CSpec.cloneO A pre) ∧ CLocal (CSpec.cloneO A pre) := by
 refine ⟨⟨hc.enter, ?_⟩, cloneO_local A pre⟩
 intro g H w vs rvs fr out hI hargs hfr he
 simp only [CSpec.cloneO] at he
 split at he
 ·rename_i p f B l0
  split at he
  ·rename_i l hl
   obtain ⟨hp, he⟩ := Tr.chk_some he
   have := Tr.ret_some he
   subst this
   have hB := castL_some hl
   simp only [Sigma.mk.injEq] at hB
   obtain ⟨rfl, hB⟩ := hB
   have hB := eq_of_heq hB
   subst hB
   obtain ⟨r, rs, rfl, hv, hr⟩ := hargs
   have hr : rs = [] := hr
   subst hr
   have hv := (VRep_v (by simp)).1 hv
   simp only [TRep, Ty.agg, Ty.sk, Sk.agg, Bool.false_eq_true, if_false, Rep, List.cons.injEq, and_true] at hv
   obtain ⟨pv, cap, rfl, hcap, _, hne⟩ := hv
   cases pv with
   | none =>
    have hl0 : l0 = [] := by
     cases l0 with
     | nil => rfl
     | cons a t => obtain ⟨_, _, h, _⟩ := hne (by simp); cases h
    subst hl0
    rcases freeAt_one hfr with h0 | ⟨hf, hlt⟩
    ·cases h0
    refine (hn _ _ w).mono ?_
    rintro e w' ⟨rfl, rfl⟩
    obtain ⟨g', q1, q2, q3, q4⟩ := hI.nilVec (k := 0) (a := B) hlt (.inl hf)
    exact ⟨_, g', rfl, q1, q2, vc_rep_nil q3 q4⟩
   | some ad =>
    have hargs2 : argsRep g [.v (.imm p true B) l0] [.slice (some ad) l0.length cap] := by
     refine ⟨_, _, rfl, (VRep_v (by simp)).2 ?_, rfl⟩
     simp only [TRep, Ty.agg, Ty.sk, Sk.agg, Bool.false_eq_true, if_false, Rep, List.cons.injEq, and_true]
     exact ⟨some ad, cap, rfl, hcap, by simp, hne⟩
    have he2 := hcore p l0 fr hp
    have hf2 : freeAt H fr c.new = true := by rw [hnew]; exact hfr
    have he3 : (c.core [.v (.imm p true B) l0] (ents H (c.ids [.v (.imm p true B) l0] H)) fr).eval = some (.v (.vc fr 0) (), [(fr, .vec 0 B l0)]) := by rw [hids]; exact he2
    exact hc.calls g H w [.v (.imm p true B) l0] _ fr _ hI hargs2 hf2 he3
  ·exact (Tr.fail_some he).elim
 ·exact (Tr.fail_some he).elim
end
end Vse
end

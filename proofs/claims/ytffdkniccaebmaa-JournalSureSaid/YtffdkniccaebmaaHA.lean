import Derived.Test.YtffdkniccaebmaaG1

section
/- What the functions of layer 1 (sha) give: turning bits, constants, a block mixed in: rounds. -/
set_option linter.unusedVariables false
set_option maxRecDepth 100000
namespace Go.Proofs.Ytffdkniccaebmaa.Sha
open Go Vse Go.Proofs Gen

abbrev u32 : Ty := .int .u32
abbrev u64 : Ty := .int .u64
abbrev w3 (x : Int) : Int := IntKind.u32.wrap x
abbrev a8 : Ty := .arr 8 u32
abbrev a64 : Ty := .arr 64 u32
abbrev d32 : Ty := .arr 32 u8

/-! bits turned -/

def rotF (x k : Int) : Int := orI .u32 (shlI .u32 x (andI .u64 (IntKind.u64.wrap k) 31)) (shrI .u32 x (IntKind.u64.wrap (32 - andI .u64 (IntKind.u64.wrap k) 31)))
def s55 : CSpec := .fn1 [u32, i64] u32 fun x => rotF x.1 x.2.1
theorem ok55 : CSound Try.prog 135 s55 ∧ CLocal s55 := fn_ok1 nil_sound Try.func135 (by kernel_rfl) (fun xs _ => by kernel_rfl) (fun xs _ => by kernel_rfl)

def c53 (r : Int → Int → Int) : List (Nat × CSpec) := [(135, .fn1 [u32, i64] u32 fun x => r x.1 x.2.1)]
def turnE (r : Int → Int → Int) (n a b v : Int) : Int := xorI .u32 (xorI .u32 (r n (w (0 - a))) (r n (w (0 - b)))) v
theorem c53_sound : CtxSound Try.prog (ctx (c53 rotF)) ∧ CtxLocal (ctx (c53 rotF)) := ctx_sound ⟨ok55, trivial⟩
def turnF : Int → Int → Int → Int → Int := turnE rotF
def s53 : CSpec := .fn1 [u32, i64, i64, u32] u32 fun x => turnF x.1 x.2.1 x.2.2.1 x.2.2.2.1
theorem k53f (r : Int → Int → Int) (n a b v : Int) : (fnK Try.prog (ctx (c53 r)) L0 Try.f133 (mkArgs [u32, i64, i64, u32] (n, a, b, v, ())) []).fine [u32] = true := by kernel_rfl
theorem k53 (r : Int → Int → Int) (n a b v : Int) : (fnK Try.prog (ctx (c53 r)) L0 Try.f133 (mkArgs [u32, i64, i64, u32] (n, a, b, v, ())) []).fold1 u32 = turnE r n a b v := by kernel_rfl
theorem ok53 : CSound Try.prog 133 s53 ∧ CLocal s53 := fn_ok1 c53_sound Try.func133 (by kernel_rfl) (fun xs _ => k53f rotF xs.1 xs.2.1 xs.2.2.1 xs.2.2.2.1) (fun xs _ => k53 rotF xs.1 xs.2.1 xs.2.2.1 xs.2.2.2.1)

/-! constants -/

def consts : List Int := [
  0x428a2f98, 0x71374491, 0xb5c0fbcf, 0xe9b5dba5, 0x3956c25b, 0x59f111f1, 0x923f82a4, 0xab1c5ed5,
  0xd807aa98, 0x12835b01, 0x243185be, 0x550c7dc3, 0x72be5d74, 0x80deb1fe, 0x9bdc06a7, 0xc19bf174,
  0xe49b69c1, 0xefbe4786, 0x0fc19dc6, 0x240ca1cc, 0x2de92c6f, 0x4a7484aa, 0x5cb0a9dc, 0x76f988da,
  0x983e5152, 0xa831c66d, 0xb00327c8, 0xbf597fc7, 0xc6e00bf3, 0xd5a79147, 0x06ca6351, 0x14292967,
  0x27b70a85, 0x2e1b2138, 0x4d2c6dfc, 0x53380d13, 0x650a7354, 0x766a0abb, 0x81c2c92e, 0x92722c85,
  0xa2bfe8a1, 0xa81a664b, 0xc24b8b70, 0xc76c51a3, 0xd192e819, 0xd6990624, 0xf40e3585, 0x106aa070,
  0x19a4c116, 0x1e376c08, 0x2748774c, 0x34b0bcb5, 0x391c0cb3, 0x4ed8aa4a, 0x5b9cca4f, 0x682e6ff3,
  0x748f82ee, 0x78a5636f, 0x84c87814, 0x8cc70208, 0x90befffa, 0xa4506ceb, 0xbef9a3f7, 0xc67178f2]
def s54 : CSpec := .fn1 [] a64 fun _ => consts
theorem ok54 : CSound Try.prog 134 s54 ∧ CLocal s54 := fn_ok1 nil_sound Try.func134 (by kernel_rfl) (fun xs _ => by kernel_rfl) (fun xs _ => by kernel_rfl)

/-! mixed -/

abbrev Tu := Int → Int → Int → Int → Int
def cM (r : Int → Int → Int) (t : Tu) (ks : List Int) : List (Nat × CSpec) :=
  [(135, .fn1 [u32, i64] u32 fun x => r x.1 x.2.1), (133, .fn1 [u32, i64, i64, u32] u32 fun x => t x.1 x.2.1 x.2.2.1 x.2.2.2.1), (134, .fn1 [] a64 fun _ => ks)]
theorem cM_sound : CtxSound Try.prog (ctx (cM rotF turnF consts)) ∧ CtxLocal (ctx (cM rotF turnF consts)) := ctx_sound ⟨ok55, ok53, ok54, trivial⟩

noncomputable def bM1 : Code := loopAt Try.f130 0
noncomputable def bM2 : Code := ((loopsOf bM1)[0]?).getD .skip
noncomputable def bM3 : Code := loopAt Try.f130 1
noncomputable def bM4 : Code := loopAt Try.f130 2

abbrev eM : List ETy := [.box a8, .box a8, .box a64]
/-- four bytes are put together -/
def SM2 : RSpec := ⟨[1, 2, 4, 5, 6, 20, 31, 32, 33], 157, [bs, .ptr 0 [], .ptr 1 [], .ptr 2 [], i64, i64, bs, i64, i64], eM, eM, [], fun _ => ([1, 2, 4, 5, 20], [bs, .ptr 0 [], .ptr 1 [], .ptr 2 [], i64], eM)⟩
def put1 (v : List Int) (k c : Int) : List Int := v.set k.toNat (orI .u32 (shlI .u32 (v.getD k.toNat 0) 8) (w3 c))
def GM2 (b : List Int) (k i : Int) (q : List Int) (n j : Int) (s r v : List Int) : Tr SM2.End :=
  .ite (decide (j < n)) (.chk (inArr j q.length) (.chk (inArrK .i64 k 64) (.chk (inArrK .i64 k 64) (.ret (.inl ((b, (), (), (), k, i, q, n, w (j + 1), ()), (s, r, put1 v k (q.getD j.toNat 0), ()))))))) 
    (.ret (.inr (.exit 2, encS [1, 2, 4, 5, 20] [bs, .ptr 0 [], .ptr 1 [], .ptr 2 [], i64] eM 157 (b, (), (), (), i, ()) (s, r, v, ()))))
theorem rM2 (r0 : Int → Int → Int) (t : Tu) (ks : List Int) (b : List Int) (k i : Int) (q : List Int) (n j : Int) (s r v : List Int) :
    (SM2.round (bodyK Try.prog (ctx (cM r0 t ks)) L0 bM2) (b, (), (), (), k, i, q, n, j, ()) (s, r, v, ())).eval = (GM2 b k i q n j s r v).eval := by kernel_rfl

end Go.Proofs.Ytffdkniccaebmaa.Sha

end
section
/- A block mixed in (layer 1, sha): all rounds. -/
set_option linter.unusedVariables false
set_option maxRecDepth 100000
namespace Go.Proofs.Ytffdkniccaebmaa.Sha
open Go Vse Go.Proofs Gen

def cM2 (k : Int) (q : List Int) (n j : Int) : Bool := decide (j = 0) && (decide (n = 4) && (decide (q.length = 4) && inArrK .i64 k 64))
def put4 (v : List Int) (k : Int) (q : List Int) : List Int := q.foldl (fun v c => put1 v k c) v
def FM2 (c : Int → List Int → Int → Int → Bool) (p : List Int → Int → List Int → List Int) (xs : HL SM2.Ts) (hs : HD SM2.Es) : Tr (Ex × St) :=
  .chk (c xs.2.2.2.2.1 xs.2.2.2.2.2.2.1 xs.2.2.2.2.2.2.2.1 xs.2.2.2.2.2.2.2.2.1)
    (.ret (.exit 2, encS [1, 2, 4, 5, 20] [bs, .ptr 0 [], .ptr 1 [], .ptr 2 [], i64] eM 157 (xs.1, (), (), (), xs.2.2.2.2.2.1, ()) (hs.1, hs.2.1, p hs.2.2.1 xs.2.2.2.2.1 xs.2.2.2.2.2.2.1, ())))

/-! sixty-four numbers -/

def SM1 : RSpec := ⟨[1, 2, 4, 5, 20], 157, [bs, .ptr 0 [], .ptr 1 [], .ptr 2 [], i64], eM, eM, [], fun _ => ([2, 4, 5], [.ptr 0 [], .ptr 1 [], .ptr 2 []], eM)⟩
def LM2 (c : Int → List Int → Int → Int → Bool) (p : List Int → Int → List Int → List Int) : Loops := fun j st => if j = 7 then SM2.fn (FM2 c p) st else .fail
/-- a number made of four that were -/
def step2 (t : Tu) (v : List Int) (i : Int) : List Int :=
  v.set i.toNat (w3 (w3 (w3 (v.getD (w (i - 16)).toNat 0 + v.getD (w (i - 7)).toNat 0) + t (v.getD (w (i - 15)).toNat 0) 7 18 (shrI .u32 (v.getD (w (i - 15)).toNat 0) 3)) + t (v.getD (w (i - 2)).toNat 0) 17 19 (shrI .u32 (v.getD (w (i - 2)).toNat 0) 10)))
def GM1 (c : Int → List Int → Int → Int → Bool) (p : List Int → Int → List Int → List Int) (t : Tu) (b : List Int) (i : Int) (s r v : List Int) : Tr SM1.End :=
  let lo := w (4 * i)
  let hi := w (w (4 * i) + 4)
  let q := (b.take hi.toNat).drop lo.toNat
  .ite (decide (i < 64)) (.ite (decide (i < 16))
      (.chk (decide (0 ≤ lo) && (decide (lo ≤ hi) && decide (hi ≤ (b.length : Int)))) (.chk (c i q (q.length : Int) 0) (.ret (.inl ((b, (), (), (), w (i + 1), ()), (s, r, p v i q, ()))))))
      (.chk (inArrK .i64 (w (i - 15)) 64) (.chk (inArrK .i64 (w (i - 2)) 64) (.chk (inArrK .i64 (w (i - 16)) 64) (.chk (inArrK .i64 (w (i - 7)) 64) (.chk (inArrK .i64 i 64)
        (.ret (.inl ((b, (), (), (), w (i + 1), ()), (s, r, step2 t v i, ()))))))))))
    (.ret (.inr (.exit 0, encS [2, 4, 5] [.ptr 0 [], .ptr 1 [], .ptr 2 []] eM 157 ((), (), (), ()) (s, r, v, ()))))
theorem rM1 (r0 : Int → Int → Int) (t : Tu) (ks : List Int) (c : Int → List Int → Int → Int → Bool) (p : List Int → Int → List Int → List Int) (b : List Int) (i : Int) (s r v : List Int) :
    (SM1.round (bodyK Try.prog (ctx (cM r0 t ks)) (LM2 c p) bM1) (b, (), (), (), i, ()) (s, r, v, ())).eval = (GM1 c p t b i s r v).eval := by kernel_rfl

/-! sixty-four rounds -/

abbrev eM3 : List ETy := [.box a8, .box a8, .box a64, .box a8]
def SM3 : RSpec := ⟨[2, 4, 5, 11, 78, 79], 157, [.ptr 0 [], .ptr 1 [], .ptr 2 [], .ptr 3 [], a64, i64], eM3, eM3, [], fun _ => ([2, 4, 11], [.ptr 0 [], .ptr 1 [], .ptr 3 []], [.box a8, .box a8, .dead, .box a8])⟩
def shift7 (l : List Int) : List Int := l.take 1 ++ (overL ((l.drop 1).take 7) ((l.drop 0).take 7) ++ l.drop (1 + 7))
def tF (r : Int → Int → Int) (t : Tu) (l : List Int) (k x : Int) : Int :=
  let e := l.getD 4 0
  w3 (w3 (w3 (w3 (l.getD 7 0 + t e 6 11 (r e (-25))) + xorI .u32 (andI .u32 e (l.getD 5 0)) (andI .u32 (xorI .u32 4294967295 e) (l.getD 6 0))) + k) + x)
def uF (r : Int → Int → Int) (t : Tu) (l : List Int) : Int :=
  let a := l.getD 0 0
  w3 (t a 2 13 (r a (-22)) + xorI .u32 (xorI .u32 (andI .u32 a (l.getD 1 0)) (andI .u32 a (l.getD 2 0))) (andI .u32 (l.getD 1 0) (l.getD 2 0)))
/-- a round -/
def round1 (r : Int → Int → Int) (t : Tu) (l : List Int) (k x : Int) : List Int :=
  ((shift7 l).set 0 (w3 (tF r t l k x + uF r t l))).set 4 (w3 ((shift7 l).getD 4 0 + tF r t l k x))
def GM3 (r0 : Int → Int → Int) (t : Tu) (ks : List Int) (i : Int) (s r v l : List Int) : Tr SM3.End :=
  .ite (decide (i < 64)) (.chk (inArrK .i64 i 64) (.chk (inArrK .i64 i 64) (.ret (.inl (((), (), (), (), ks, w (i + 1), ()), (s, r, v, round1 r0 t l (ks.getD i.toNat 0) (v.getD i.toNat 0), ()))))))
    (.ret (.inr (.exit 4, encS [2, 4, 11] [.ptr 0 [], .ptr 1 [], .ptr 3 []] [.box a8, .box a8, .dead, .box a8] 157 ((), (), (), ()) (s, r, l, ()))))
theorem rM3 (r0 : Int → Int → Int) (t : Tu) (ks0 ks : List Int) (i : Int) (s r v l : List Int) :
    (SM3.round (bodyK Try.prog (ctx (cM r0 t ks0)) L0 bM3) ((), (), (), (), ks, i, ()) (s, r, v, l, ())).eval = (GM3 r0 t ks i s r v l).eval := by kernel_rfl

/-! added -/

def SM4 : RSpec := ⟨[2, 4, 144, 145], 157, [.ptr 0 [], .ptr 1 [], a8, i64], [.box a8, .box a8, .dead, .dead], [.box a8, .box a8, .dead, .box a8], [], fun _ => ([2, 4], [.ptr 0 [], .ptr 1 []], [.box a8, .box a8, .dead, .dead])⟩
def GM4 (l : List Int) (i : Int) (s r : List Int) : Tr SM4.End :=
  .ite (decide (i < 8)) (.chk (inArrK .i64 i 8) (.chk (inArrK .i64 i 8) (.chk (inArrK .i64 i 8) (.ret (.inl (((), (), l, w (i + 1), ()), (s.set i.toNat (w3 (s.getD i.toNat 0 + l.getD i.toNat 0)), r, ())))))))
    (.ret (.inr (.exit 6, encS [2, 4] [.ptr 0 [], .ptr 1 []] [.box a8, .box a8, .dead, .dead] 157 ((), (), ()) (s, r, ()))))
theorem rM4 (r0 : Int → Int → Int) (t : Tu) (ks0 l : List Int) (i : Int) (s r : List Int) :
    (SM4.round (bodyK Try.prog (ctx (cM r0 t ks0)) L0 bM4) ((), (), l, i, ()) (s, r, ())).eval = (GM4 l i s r).eval := by kernel_rfl

end Go.Proofs.Ytffdkniccaebmaa.Sha

end
section
/- A block mixed in (layer 1, sha): what comes out. -/
set_option linter.unusedVariables false
set_option maxRecDepth 100000
namespace Go.Proofs.Ytffdkniccaebmaa.Sha
open Go Vse Go.Proofs Gen

theorem inArrK64 {i : Int} {n : Nat} (hn : (n : Int) ≤ 9223372036854775807) (h0 : 0 ≤ i) (h1 : i < (n : Int)) : inArrK .i64 i n = true := by
  have e : (decide (0 ≤ IntKind.i64.min) && decide (IntKind.i64.max < (n : Int))) = false := by
    have : decide (0 ≤ IntKind.i64.min) = false := by decide
    rw [this]; rfl
  unfold inArrK
  rw [e]
  simp only [inArr, Bool.and_eq_true, decide_eq_true_eq]
  exact ⟨h0, h1⟩

theorem getD_cons {α : Type} {l : List α} {k : Nat} (h : k < l.length) (d : α) : l.getD k d = l[k] := by rw [List.getD_eq_getElem?_getD, List.getElem?_eq_getElem h]; rfl

abbrev CM : Ctx := ctx (cM rotF turnF consts)

theorem mM2 (b : List Int) (k i : Int) (q : List Int) (s r : List Int) (hq : (q.length : Int) ≤ 9223372036854775807) (hk : inArrK .i64 k 64 = true) : ∀ (m j : Nat) (v : List Int), j + m = q.length →
    SM2.many (bodyK Try.prog CM L0 bM2) (m + 1) (b, (), (), (), k, i, q, (q.length : Int), (j : Int), ()) (s, r, v, ()) = some (.exit 2, encS [1, 2, 4, 5, 20] [bs, .ptr 0 [], .ptr 1 [], .ptr 2 [], i64] eM 157 (b, (), (), (), i, ()) (s, r, put4 v k (q.drop j), ()))
  | 0, j, v, h => by
    rw [List.drop_eq_nil_of_le (by omega)]
    refine rmany_inr ((rM2 rotF turnF consts b k i q _ j s r v).trans ?_) 0
    simp only [GM2, Tr.eval, decide_eq_false (show ¬ ((j : Int) < (q.length : Int)) by omega)]
    rfl
  | m + 1, j, v, h => by
    have h1 : j < q.length := by omega
    have i1 : inArr (j : Int) q.length = true := by simp [inArr]; omega
    rw [List.drop_eq_getElem_cons h1]
    refine (rmany_inl (d := ((b, (), (), (), k, i, q, (q.length : Int), ((j + 1 : Nat) : Int), ()), (s, r, put1 v k q[j], ()))) ((rM2 rotF turnF consts b k i q _ j s r v).trans ?_) (m + 1)).trans (mM2 b k i q s r hq hk m (j + 1) _ (by omega))
    simp only [GM2, Tr.eval, Tr.chk, decide_eq_true (show ((j : Int) < (q.length : Int)) by omega), i1, hk, Int.toNat_natCast, getD_cons h1]
    rw [w_id (by omega) (by omega)]
    rfl

theorem lM2 : LoopOK Try.prog (LM2 cM2 put4) bM2 :=
  rloop_ok (L := LM2 cM2 put4) (L' := L0) cM_sound (loopsOK_of (by kernel_rfl)) SM2 (F := FM2 cM2 put4) (i := 7) (by kernel_rfl) (fun _ => rfl) fun xs hs r h => by
    obtain ⟨b, u1, u2, u3, k, i, q, n, j, u4⟩ := xs
    obtain ⟨s, r', v, u5⟩ := hs
    obtain ⟨h1, h2⟩ := Tr.chk_some h
    simp only [cM2, Bool.and_eq_true, decide_eq_true_eq] at h1
    obtain ⟨e1, e2, e3, e4⟩ := h1
    have e1 : j = ((0 : Nat) : Int) := e1
    have e2 : n = ((List.length (α := Int) q : Nat) : Int) := by rw [e3]; exact e2
    subst e1; subst e2
    exact ⟨_, (mM2 b k i q s r' (by rw [e3]; decide) e4 (List.length (α := Int) q) 0 v (by omega)).trans (congrArg some (Tr.ret_some h2))⟩

/-! sixty-four numbers -/

def part4 (b : List Int) (i : Nat) : List Int := (b.take (4 * i + 4)).drop (4 * i)
def schedL (t : Tu) (b : List Int) : Nat → Nat → List Int → List Int
  | _, 0, v => v
  | i, m + 1, v => schedL t b (i + 1) m (if i < 16 then put4 v (i : Int) (part4 b i) else step2 t v (i : Int))
def schedF (b v : List Int) : List Int := schedL turnF b 0 64 v

theorem mM1 (b : List Int) (hb : b.length = 64) (s r : List Int) : ∀ (m i : Nat) (v : List Int), i + m = 64 →
    SM1.many (bodyK Try.prog CM (LM2 cM2 put4) bM1) (m + 1) (b, (), (), (), (i : Int), ()) (s, r, v, ()) = some (.exit 0, encS [2, 4, 5] [.ptr 0 [], .ptr 1 [], .ptr 2 []] eM 157 ((), (), (), ()) (s, r, schedL turnF b i m v, ()))
  | 0, i, v, h => by
    refine rmany_inr ((rM1 rotF turnF consts cM2 put4 b i s r v).trans ?_) 0
    simp only [GM1, Tr.eval, decide_eq_false (show ¬ ((i : Int) < 64) by omega)]
    rfl
  | m + 1, i, v, h => by
    refine (rmany_inl (d := ((b, (), (), (), ((i + 1 : Nat) : Int), ()), (s, r, (if i < 16 then put4 v (i : Int) (part4 b i) else step2 turnF v (i : Int)), ()))) ((rM1 rotF turnF consts cM2 put4 b i s r v).trans ?_) (m + 1)).trans (mM1 b hb s r m (i + 1) _ (by omega))
    have w0 : w ((i : Int) + 1) = ((i + 1 : Nat) : Int) := (w_id (by omega) (by omega)).trans (by omega)
    by_cases hi : i < 16
    · have w1 : w (4 * (i : Int)) = ((4 * i : Nat) : Int) := (w_id (by omega) (by omega)).trans (by omega)
      have w2 : w (((4 * i : Nat) : Int) + 4) = ((4 * i + 4 : Nat) : Int) := (w_id (by omega) (by omega)).trans (by omega)
      have hlen : ((b.take (4 * i + 4)).drop (4 * i)).length = 4 := by rw [List.length_drop, List.length_take]; omega
      have hc : (decide (0 ≤ ((4 * i : Nat) : Int)) && (decide (((4 * i : Nat) : Int) ≤ ((4 * i + 4 : Nat) : Int)) && decide (((4 * i + 4 : Nat) : Int) ≤ (b.length : Int)))) = true := by
        simp only [Bool.and_eq_true, decide_eq_true_eq]; omega
      have hc2 : cM2 (i : Int) ((b.take (4 * i + 4)).drop (4 * i)) (((b.take (4 * i + 4)).drop (4 * i)).length : Int) 0 = true := by
        simp only [cM2, hlen, inArrK64 (i := (i : Int)) (n := 64) (by omega) (by omega) (by omega)]; decide
      simp only [GM1, w1, w2, Int.toNat_natCast, Tr.eval, Tr.chk, decide_eq_true (show ((i : Int) < 64) by omega), decide_eq_true (show ((i : Int) < 16) by omega), hc, hc2, w0, if_pos hi]
      rfl
    · have j1 : w ((i : Int) - 15) = ((i - 15 : Nat) : Int) := (w_id (by omega) (by omega)).trans (by omega)
      have j2 : w ((i : Int) - 2) = ((i - 2 : Nat) : Int) := (w_id (by omega) (by omega)).trans (by omega)
      have j3 : w ((i : Int) - 16) = ((i - 16 : Nat) : Int) := (w_id (by omega) (by omega)).trans (by omega)
      have j4 : w ((i : Int) - 7) = ((i - 7 : Nat) : Int) := (w_id (by omega) (by omega)).trans (by omega)
      have ok : ∀ k : Nat, k < 64 → inArrK .i64 (k : Int) 64 = true := fun k hk => inArrK64 (by omega) (by omega) (by omega)
      simp only [GM1, Tr.eval, Tr.chk, decide_eq_true (show ((i : Int) < 64) by omega), decide_eq_false (show ¬ ((i : Int) < 16) by omega), j1, j2, j3, j4, ok (i - 15) (by omega), ok (i - 2) (by omega), ok (i - 16) (by omega), ok (i - 7) (by omega), ok i (by omega), w0, if_neg hi]

def cM1 (b : List Int) (i : Int) : Bool := decide (i = 0) && decide (b.length = 64)
def FM1 (c : List Int → Int → Bool) (S : List Int → List Int → List Int) (xs : HL SM1.Ts) (hs : HD SM1.Es) : Tr (Ex × St) :=
  .chk (c xs.1 xs.2.2.2.2.1) (.ret (.exit 0, encS [2, 4, 5] [.ptr 0 [], .ptr 1 [], .ptr 2 []] eM 157 ((), (), (), ()) (hs.1, hs.2.1, S xs.1 hs.2.2.1, ())))
def roundsL (t : Tu) (r : Int → Int → Int) (ks v : List Int) : Nat → Nat → List Int → List Int
  | _, 0, l => l
  | i, m + 1, l => roundsL t r ks v (i + 1) m (round1 r t l (ks.getD i 0) (v.getD i 0))
def roundsF (ks v l : List Int) : List Int := roundsL turnF rotF ks v 0 64 l
def FM3 (S : List Int → List Int → List Int → List Int) (xs : HL SM3.Ts) (hs : HD SM3.Es) : Tr (Ex × St) :=
  .chk (decide (xs.2.2.2.2.2.1 = (0 : Int))) (.ret (.exit 4, encS [2, 4, 11] [.ptr 0 [], .ptr 1 [], .ptr 3 []] [.box a8, .box a8, .dead, .box a8] 157 ((), (), (), ()) (hs.1, hs.2.1, S xs.2.2.2.2.1 hs.2.2.1 hs.2.2.2.1, ())))
def addL (l : List Int) : Nat → Nat → List Int → List Int
  | _, 0, s => s
  | i, m + 1, s => addL l (i + 1) m (s.set i (w3 (s.getD i 0 + l.getD i 0)))
def addF (l s : List Int) : List Int := addL l 0 8 s
def FM4 (S : List Int → List Int → List Int) (xs : HL SM4.Ts) (hs : HD SM4.Es) : Tr (Ex × St) :=
  .chk (decide (xs.2.2.2.1 = (0 : Int))) (.ret (.exit 6, encS [2, 4] [.ptr 0 [], .ptr 1 []] [.box a8, .box a8, .dead, .dead] 157 ((), (), ()) (S xs.2.2.1 hs.1, hs.2.1, ())))

def LM (c2 : Int → List Int → Int → Int → Bool) (p2 : List Int → Int → List Int → List Int) (c1 : List Int → Int → Bool) (S1 : List Int → List Int → List Int) (S3 : List Int → List Int → List Int → List Int) (S4 : List Int → List Int → List Int) : Loops := fun j st =>
  if j = 7 then SM2.fn (FM2 c2 p2) st else if j = 3 then SM1.fn (FM1 c1 S1) st else if j = 16 then SM3.fn (FM3 S3) st else if j = 25 then SM4.fn (FM4 S4) st else .fail
abbrev LMF : Loops := LM cM2 put4 cM1 schedF roundsF addF

theorem lM1 : LoopOK Try.prog LMF bM1 :=
  rloop_ok (L := LMF) (L' := LM2 cM2 put4) cM_sound (loopsOK_all fun b hb => by
    have : loopsOf bM1 = [bM2] := by kernel_rfl
    rw [this] at hb
    rw [List.mem_singleton.1 hb]
    exact lM2) SM1 (F := FM1 cM1 schedF) (i := 3) (by kernel_rfl) (fun _ => rfl) fun xs hs r h => by
    obtain ⟨b, u1, u2, u3, i, u4⟩ := xs
    obtain ⟨s, r', v, u5⟩ := hs
    obtain ⟨h1, h2⟩ := Tr.chk_some h
    simp only [cM1, Bool.and_eq_true, decide_eq_true_eq] at h1
    obtain ⟨e1, e2⟩ := h1
    have e1 : i = ((0 : Nat) : Int) := e1
    subst e1
    exact ⟨_, (mM1 b e2 s r' 64 0 v (by omega)).trans (congrArg some (Tr.ret_some h2))⟩

theorem mM3 (ks s r v : List Int) : ∀ (m i : Nat) (l : List Int), i + m = 64 →
    SM3.many (bodyK Try.prog CM L0 bM3) (m + 1) ((), (), (), (), ks, (i : Int), ()) (s, r, v, l, ()) = some (.exit 4, encS [2, 4, 11] [.ptr 0 [], .ptr 1 [], .ptr 3 []] [.box a8, .box a8, .dead, .box a8] 157 ((), (), (), ()) (s, r, roundsL turnF rotF ks v i m l, ()))
  | 0, i, l, h => by
    refine rmany_inr ((rM3 rotF turnF consts ks i s r v l).trans ?_) 0
    simp only [GM3, Tr.eval, decide_eq_false (show ¬ ((i : Int) < 64) by omega)]
    rfl
  | m + 1, i, l, h => by
    refine (rmany_inl (d := (((), (), (), (), ks, ((i + 1 : Nat) : Int), ()), (s, r, v, round1 rotF turnF l (ks.getD i 0) (v.getD i 0), ()))) ((rM3 rotF turnF consts ks i s r v l).trans ?_) (m + 1)).trans (mM3 ks s r v m (i + 1) _ (by omega))
    have w0 : w ((i : Int) + 1) = ((i + 1 : Nat) : Int) := (w_id (by omega) (by omega)).trans (by omega)
    simp only [GM3, Tr.eval, Tr.chk, decide_eq_true (show ((i : Int) < 64) by omega), inArrK64 (i := (i : Int)) (n := 64) (by omega) (by omega) (by omega), w0, Int.toNat_natCast]

theorem lM3 : LoopOK Try.prog LMF bM3 :=
  rloop_ok (L := LMF) (L' := L0) cM_sound (loopsOK_of (by kernel_rfl)) SM3 (F := FM3 roundsF) (i := 16) (by kernel_rfl) (fun _ => rfl) fun xs hs r h => by
    obtain ⟨u1, u2, u3, u4, ks, i, u6⟩ := xs
    obtain ⟨s, r', v, l, u5⟩ := hs
    obtain ⟨h1, h2⟩ := Tr.chk_some h
    have e1 : i = ((0 : Nat) : Int) := of_decide_eq_true h1
    subst e1
    exact ⟨_, (mM3 ks s r' v 64 0 l (by omega)).trans (congrArg some (Tr.ret_some h2))⟩

theorem mM4 (l r : List Int) : ∀ (m i : Nat) (s : List Int), i + m = 8 →
    SM4.many (bodyK Try.prog CM L0 bM4) (m + 1) ((), (), l, (i : Int), ()) (s, r, ()) = some (.exit 6, encS [2, 4] [.ptr 0 [], .ptr 1 []] [.box a8, .box a8, .dead, .dead] 157 ((), (), ()) (addL l i m s, r, ()))
  | 0, i, s, h => by
    refine rmany_inr ((rM4 rotF turnF consts l i s r).trans ?_) 0
    simp only [GM4, Tr.eval, decide_eq_false (show ¬ ((i : Int) < 8) by omega)]
    rfl
  | m + 1, i, s, h => by
    refine (rmany_inl (d := (((), (), l, ((i + 1 : Nat) : Int), ()), (s.set i (w3 (s.getD i 0 + l.getD i 0)), r, ()))) ((rM4 rotF turnF consts l i s r).trans ?_) (m + 1)).trans (mM4 l r m (i + 1) _ (by omega))
    have w0 : w ((i : Int) + 1) = ((i + 1 : Nat) : Int) := (w_id (by omega) (by omega)).trans (by omega)
    simp only [GM4, Tr.eval, Tr.chk, decide_eq_true (show ((i : Int) < 8) by omega), inArrK64 (i := (i : Int)) (n := 8) (by omega) (by omega) (by omega), w0, Int.toNat_natCast]

theorem lM4 : LoopOK Try.prog LMF bM4 :=
  rloop_ok (L := LMF) (L' := L0) cM_sound (loopsOK_of (by kernel_rfl)) SM4 (F := FM4 addF) (i := 25) (by kernel_rfl) (fun _ => rfl) fun xs hs r h => by
    obtain ⟨u1, u2, l, i, u6⟩ := xs
    obtain ⟨s, r', u5⟩ := hs
    obtain ⟨h1, h2⟩ := Tr.chk_some h
    have e1 : i = ((0 : Nat) : Int) := of_decide_eq_true h1
    subst e1
    exact ⟨_, (mM4 l r' 8 0 s (by omega)).trans (congrArg some (Tr.ret_some h2))⟩

/-! all together -/

def zeros64 : List Int := [0, 0, 0, 0, 0, 0, 0, 0, 0, 0, 0, 0, 0, 0, 0, 0, 0, 0, 0, 0, 0, 0, 0, 0, 0, 0, 0, 0, 0, 0, 0, 0, 0, 0, 0, 0, 0, 0, 0, 0, 0, 0, 0, 0, 0, 0, 0, 0, 0, 0, 0, 0, 0, 0, 0, 0, 0, 0, 0, 0, 0, 0, 0, 0]
def mixF (s b : List Int) : List Int := addF (roundsF consts (schedF b zeros64) s) s
def s42 : CSpec := .slp1 [a8, bs] (fun x => decide (List.length (α := Int) x.2.1 = 64)) a8 fun x => mixF x.1 x.2.1

theorem k42 (r0 : Int → Int → Int) (t : Tu) (ks : List Int) (c2 : Int → List Int → Int → Int → Bool) (p2 : List Int → Int → List Int → List Int) (c1 : List Int → Int → Bool) (S1 : List Int → List Int → List Int) (S3 : List Int → List Int → List Int → List Int) (S4 : List Int → List Int → List Int) (s b : List Int) :
    (fnS Try.prog (ctx (cM r0 t ks)) (LM c2 p2 c1 S1 S3 S4) [a8] Try.f130 (mkArgs [a8, bs] (s, b, ()))).fold1 a8 = S4 (S3 ks (S1 b zeros64) s) s := by kernel_rfl
theorem f42 (r0 : Int → Int → Int) (t : Tu) (ks : List Int) (c2 : Int → List Int → Int → Int → Bool) (p2 : List Int → Int → List Int → List Int) (c1 : List Int → Int → Bool) (S1 : List Int → List Int → List Int) (S3 : List Int → List Int → List Int → List Int) (S4 : List Int → List Int → List Int) (s b : List Int) :
    (fnS Try.prog (ctx (cM r0 t ks)) (LM c2 p2 c1 S1 S3 S4) [a8] Try.f130 (mkArgs [a8, bs] (s, b, ()))).fine [a8] = c1 b 0 := by kernel_rfl
theorem ok42 : CSound Try.prog 130 s42 ∧ CLocal s42 :=
  slp_ok1 (L := LMF) cM_sound Try.func130 (by kernel_rfl) (fun b hb => by
    have : loopsOf (bodyOf Try.f130) = [bM1, bM3, bM4] := by kernel_rfl
    rw [this] at hb
    simp only [List.mem_cons, List.not_mem_nil, or_false] at hb
    rcases hb with rfl | rfl | rfl
    · exact lM1
    · exact lM3
    · exact lM4) (fun xs hx hp => by
      refine (f42 _ _ _ _ _ _ _ _ _ xs.1 xs.2.1).trans ?_
      have hp : decide (List.length (α := Int) xs.2.1 = 64) = true := hp
      simp only [cM1, hp]
      rfl) (fun xs hx hp => k42 _ _ _ _ _ _ _ _ _ xs.1 xs.2.1)

end Go.Proofs.Ytffdkniccaebmaa.Sha

end
section
/- A hash (layer 1, sha): rounds of writing and of the digest. -/
set_option linter.unusedVariables false
set_option maxRecDepth 100000
namespace Go.Proofs.Ytffdkniccaebmaa.Sha
open Go Vse Go.Proofs Gen

/-- a hash: its state, bytes that are no block yet, how many were written -/
abbrev hT : Ty := .prod a8 (.prod bt (.prod u64 .unit))
abbrev Hs := List Int × List Int × Int × Unit
abbrev wu (x : Int) : Int := IntKind.u64.wrap x
abbrev wb (x : Int) : Int := IntKind.u8.wrap x

def init : List Int := [1779033703, 3144134277, 1013904242, 2773480762, 1359893119, 2600822924, 528734635, 1541459225]
abbrev nH : PSpec := ⟨[], [.ptr 0 []], [], [.box hT], []⟩
def s19 : CSpec := .pos nH (fun _ _ => true) fun _ _ => (((), ()), ((init, [], 0, ()), ()))
theorem ok19 : CSound Try.prog 124 s19 ∧ CLocal s19 := pos_sound (L := L0) nil_sound Try.func124 (by kernel_rfl) (noLoopsL (by kernel_rfl)) fun xs hs _ _ _ => by kernel_rfl

/-! writing -/

abbrev Mx := List Int → List Int → List Int
def c42 (m : Mx) : List (Nat × CSpec) := [(130, .slp1 [a8, bs] (fun x => decide (List.length (α := Int) x.2.1 = 64)) a8 fun x => m x.1 x.2.1)]
theorem c42_sound : CtxSound Try.prog (ctx (c42 mixF)) ∧ CtxLocal (ctx (c42 mixF)) := ctx_sound ⟨ok42, trivial⟩
noncomputable def bW : Code := loopAt Try.f125 0
def SW : RSpec := ⟨[0, 4], 53, [.ptr 0 [], bt], [.box hT, .dead], [.box hT, .dead], [], fun _ => ([0, 4], [.ptr 0 [], bt], [.box hT, .dead])⟩
def GW (m : Mx) (all s rest : List Int) (many : Int) : Tr SW.End :=
  .ite (decide ((all.length : Int) ≥ 64)) (.chk (decide (64 ≤ (all.length : Int))) (.chk (decide (((all.take 64).drop 0).length = 64)) (.chk (decide (64 ≤ (all.length : Int)) && decide ((all.length : Int) ≤ (all.length : Int)))
      (.ret (.inl (((), ((all.take (all.length : Int).toNat).drop 64), ()), ((m s ((all.take 64).drop 0), rest, many, ()), ())))))))
    (.ret (.inr (.exit 0, encS [0, 4] [.ptr 0 [], bt] [.box hT, .dead] 53 ((), all, ()) ((s, rest, many, ()), ()))))
theorem rW (m : Mx) (all s rest : List Int) (many : Int) : (SW.round (bodyK Try.prog (ctx (c42 m)) L0 bW) ((), all, ()) ((s, rest, many, ()), ())).eval = (GW m all s rest many).eval := by kernel_rfl

def FW (A : List Int → List Int → List Int × List Int) (xs : HL SW.Ts) (hs : HD SW.Es) : Tr (Ex × St) :=
  .ret (.exit 0, encS [0, 4] [.ptr 0 [], bt] [.box hT, .dead] 53 ((), (A hs.1.1 xs.2.1).2, ()) (((A hs.1.1 xs.2.1).1, hs.1.2.1, hs.1.2.2.1, ()), ()))
def LW (A : List Int → List Int → List Int × List Int) : Loops := fun j st => if j = 2 then SW.fn (FW A) st else .fail
abbrev wS (As Rs : List Ty) : PSpec := ⟨.ptr 0 [] :: As, Rs, [.box hT], [.box hT], []⟩
def G20 (A : List Int → List Int → List Int × List Int) (b s rest : List Int) (many : Int) : Tr (wS [bs] []).Out :=
  let r := (rest.take (rest.length : Int).toNat).drop (0 : Int).toNat
  let P (all : List Int) : Tr (wS [bs] []).Out := .chk (Vse.room (([] : List Int).length + (A s all).2.length) 1) (.ret ((), (((A s all).1, [] ++ (A s all).2, wu (many + wu (b.length : Int)), ()), ())))
  .chk (decide ((0 : Int) ≤ 0) && (decide ((0 : Int) ≤ (rest.length : Int)) && (decide ((rest.length : Int) = (rest.length : Int)) && decide ((rest.length : Int) ≤ (rest.length : Int)))))
    (.ite (decide (b.length = 0)) (P r) (.chk (Vse.room (r.length + b.length) 1) (P (r ++ b))))
theorem k20 (m : Mx) (A : List Int → List Int → List Int × List Int) (b s rest : List Int) (many : Int) :
    (fnP Try.prog (ctx (c42 m)) (LW A) (wS [bs] []) Try.f125 ((), b, ()) ((s, rest, many, ()), ())).eval = (G20 A b s rest many).eval := by kernel_rfl

/-! the digest -/

abbrev Wr := List Int → Hs → Hs
def c20 (W : Wr) (p : List Int → Hs → Bool) : List (Nat × CSpec) := [(125, .pos (wS [bs] []) (fun xs d => p xs.2.1 d.1) fun xs d => ((), (W xs.2.1 d.1, ())))]
noncomputable def bS1 : Code := loopAt Try.f126 0
noncomputable def bS2 : Code := loopAt Try.f126 1
noncomputable def bS3 : Code := loopAt Try.f126 2
abbrev pS : List Ty := [.ptr 0 [], .ptr 1 [], .ptr 2 []]
abbrev eS (k : Nat) : List ETy := [.box hT, .box d32, .box hT, .vec k u8]
def SS1 : RSpec := ⟨[0, 2, 3, 4], 68, [.ptr 0 [], .ptr 1 [], .ptr 2 [], .vc 3 1], eS 1, eS 0, [], fun _ => ([0, 2, 3, 4], [.ptr 0 [], .ptr 1 [], .ptr 2 [], .vc 3 1], eS 1)⟩
def GS1 (h l : Hs) (o f : List Int) : Tr SS1.End :=
  .ite ((w (w ((h.2.1.length : Int) + (f.length : Int)) + 8)).tmod 64 != 0) (.chk (Vse.room (f.length + [(0 : Int)].length) 1) (.ret (.inl (((), (), (), (), ()), (h, o, l, f ++ [0], ())))))
    (.ret (.inr (.exit 0, encS [0, 2, 3, 4] [.ptr 0 [], .ptr 1 [], .ptr 2 [], .vc 3 1] (eS 1) 68 ((), (), (), (), ()) (h, o, l, f, ()))))
theorem rS1 (W : Wr) (p : List Int → Hs → Bool) (h l : Hs) (o f : List Int) : (SS1.round (bodyK Try.prog (ctx (c20 W p)) L0 bS1) ((), (), (), (), ()) (h, o, l, f, ())).eval = (GS1 h l o f).eval := by kernel_rfl

def SS2 : RSpec := ⟨[0, 2, 3, 4, 5], 68, [.ptr 0 [], .ptr 1 [], .ptr 2 [], .vc 3 2, i64], eS 2, eS 1, [], fun _ => ([0, 2, 3, 4], [.ptr 0 [], .ptr 1 [], .ptr 2 [], .vc 3 2], eS 2)⟩
def GS2 (h l : Hs) (o f : List Int) (i : Int) : Tr SS2.End :=
  .ite (decide (i ≥ 0)) (.chk (decide (0 ≤ w (8 * i))) (.chk (Vse.room (f.length + [(0 : Int)].length) 1) (.ret (.inl (((), (), (), (), w (i - 1), ()), (h, o, l, f ++ [wb (shrI .u64 (shlI .u64 h.2.2.1 3) (w (8 * i)))], ()))))))
    (.ret (.inr (.exit 2, encS [0, 2, 3, 4] [.ptr 0 [], .ptr 1 [], .ptr 2 [], .vc 3 2] (eS 2) 68 ((), (), (), (), ()) (h, o, l, f, ()))))
theorem rS2 (W : Wr) (p : List Int → Hs → Bool) (h l : Hs) (o f : List Int) (i : Int) : (SS2.round (bodyK Try.prog (ctx (c20 W p)) L0 bS2) ((), (), (), (), i, ()) (h, o, l, f, ())).eval = (GS2 h l o f i).eval := by kernel_rfl

abbrev eS3 : List ETy := [.box hT, .box d32, .box hT, .dead, .box d32]
def SS3 : RSpec := ⟨[2, 3, 6, 50], 68, [.ptr 1 [], .ptr 2 [], .ptr 4 [], i64], eS3, [.box hT, .box d32, .box hT, .vec 2 u8, .box d32], [], fun _ => ([2, 6], [.ptr 1 [], .ptr 4 []], [.box hT, .box d32, .dead, .dead, .box d32])⟩
def GS3 (h l : Hs) (o q : List Int) (i : Int) : Tr SS3.End :=
  .ite (decide (i < 32)) (.chk (inArrK .i64 (w (i.tdiv 4)) 8) (.chk (decide (0 ≤ w (8 * w (3 - i.tmod 4)))) (.chk (inArrK .i64 i 32)
      (.ret (.inl (((), (), (), w (i + 1), ()), (h, o, l, q.set i.toNat (wb (shrI .u32 (l.1.getD (w (i.tdiv 4)).toNat 0) (w (8 * w (3 - i.tmod 4))))), ())))))))
    (.ret (.inr (.exit 4, encS [2, 6] [.ptr 1 [], .ptr 4 []] [.box hT, .box d32, .dead, .dead, .box d32] 68 ((), (), ()) (h, o, q, ()))))
theorem rS3 (W : Wr) (p : List Int → Hs → Bool) (h l : Hs) (o q : List Int) (i : Int) : (SS3.round (bodyK Try.prog (ctx (c20 W p)) L0 bS3) ((), (), (), i, ()) (h, o, l, q, ())).eval = (GS3 h l o q i).eval := by kernel_rfl

end Go.Proofs.Ytffdkniccaebmaa.Sha

end
section
/- A hash (layer 1, sha): what is written, and the digest. -/
set_option linter.unusedVariables false
set_option maxRecDepth 100000
namespace Go.Proofs.Ytffdkniccaebmaa.Sha
open Go Vse Go.Proofs Gen

abbrev CW : Ctx := ctx (c42 mixF)

/-- blocks are mixed in, as many as there are -/
def absorb (m : Mx) : Nat → List Int → List Int → List Int × List Int
  | 0, s, all => (s, all)
  | n + 1, s, all => absorb m n (m s (all.take 64)) (all.drop 64)
def absF (s all : List Int) : List Int × List Int := absorb mixF (all.length / 64) s all

theorem mW : ∀ (n : Nat) (all s rest : List Int) (many : Int), all.length / 64 = n →
    SW.many (bodyK Try.prog CW L0 bW) (n + 1) ((), all, ()) ((s, rest, many, ()), ()) = some (.exit 0, encS [0, 4] [.ptr 0 [], bt] [.box hT, .dead] 53 ((), (absorb mixF n s all).2, ()) (((absorb mixF n s all).1, rest, many, ()), ()))
  | 0, all, s, rest, many, h => by
    refine rmany_inr ((rW mixF all s rest many).trans ?_) 0
    simp only [GW, Tr.eval, decide_eq_false (show ¬ ((all.length : Int) ≥ 64) by omega)]
    rfl
  | n + 1, all, s, rest, many, h => by
    have hl : 64 ≤ all.length := by omega
    refine (rmany_inl (d := (((), all.drop 64, ()), ((mixF s (all.take 64), rest, many, ()), ()))) ((rW mixF all s rest many).trans ?_) (n + 1)).trans (mW n _ _ rest many (by rw [List.length_drop]; omega))
    have h1 : decide ((all.take 64).length = 64) = true := by
      rw [List.length_take]; simp; omega
    have h2 : (decide (64 ≤ (all.length : Int)) && decide ((all.length : Int) ≤ (all.length : Int))) = true := by
      simp only [Bool.and_eq_true, decide_eq_true_eq]; omega
    simp only [GW, Tr.eval, Tr.chk, decide_eq_true (show ((all.length : Int) ≥ 64) by omega), decide_eq_true (show (64 ≤ (all.length : Int)) by omega), h1, Int.toNat_natCast, List.drop_zero, List.take_length, Bool.true_and, decide_eq_true (Int.le_refl (all.length : Int))]

theorem lW : LoopOK Try.prog (LW absF) bW :=
  rloop_ok (L := LW absF) (L' := L0) c42_sound (loopsOK_of (by kernel_rfl)) SW (F := FW absF) (i := 2) (by kernel_rfl) (fun _ => rfl) fun xs hs r h => by
    obtain ⟨u1, all, u2⟩ := xs
    obtain ⟨⟨s, rest, many, u3⟩, u4⟩ := hs
    exact ⟨_, (mW (List.length (α := Int) all / 64) all s rest many rfl).trans (congrArg some (Tr.ret_some h))⟩

/-- a hash behind some bytes -/
def writeF (b : List Int) (h : Hs) : Hs := ((absF h.1 (h.2.1 ++ b)).1, (absF h.1 (h.2.1 ++ b)).2, wu (h.2.2.1 + wu (b.length : Int)), ())
def writeP (b : List Int) (h : Hs) : Bool := decide (h.2.1.length + b.length ≤ 100000000000000)
def s20 : CSpec := .pos (wS [bs] []) (fun xs d => writeP xs.2.1 d.1) fun xs d => ((), (writeF xs.2.1 d.1, ()))

theorem absorb_rest (m : Mx) : ∀ (n : Nat) (s all : List Int), (absorb m n s all).2 = all.drop (64 * n)
  | 0, s, all => by simp [absorb]
  | n + 1, s, all => by
    rw [absorb, absorb_rest m n, List.drop_drop]
    congr 1
    omega

theorem room_le {n k : Nat} (h : n ≤ 100000000000000) : Vse.room (k * 0 + n) 1 = true := by simp only [Vse.room, decide_eq_true_eq]; omega

theorem G20_eq (b s rest : List Int) (many : Int) (h : writeP b (s, rest, many, ()) = true) : (G20 absF b s rest many).eval = some ((), (writeF b (s, rest, many, ()), ())) := by
  have h : rest.length + b.length ≤ 100000000000000 := of_decide_eq_true h
  have h0 : (decide ((0 : Int) ≤ 0) && (decide ((0 : Int) ≤ (rest.length : Int)) && (decide ((rest.length : Int) = (rest.length : Int)) && decide ((rest.length : Int) ≤ (rest.length : Int))))) = true := by simp
  have hr : (rest.take (rest.length : Int).toNat).drop (0 : Int).toNat = rest := by
    rw [Int.toNat_natCast, List.take_length]
    exact List.drop_zero
  have hp : ∀ all : List Int, all.length ≤ 100000000000000 → Vse.room (([] : List Int).length + (absF s all).2.length) 1 = true := by
    intro all hall
    have : (absF s all).2.length ≤ all.length := by unfold absF; rw [absorb_rest, List.length_drop]; omega
    simp only [Vse.room, decide_eq_true_eq, List.length_nil]; omega
  unfold G20
  simp only
  refine (chk_eval (by simp) _).trans ?_
  rw [hr]
  by_cases hb : b.length = 0
  · have hb0 : b = [] := List.eq_nil_of_length_eq_zero hb
    subst hb0
    rw [ite_t (decide_eq_true (show ([] : List Int).length = 0 from rfl)), chk_eval (hp rest (by omega))]
    simp only [Tr.eval, List.nil_append, writeF, List.append_nil]
  · have hroom : Vse.room (rest.length + b.length) 1 = true := by simp only [Vse.room, decide_eq_true_eq]; omega
    rw [ite_f (decide_eq_false hb), chk_eval hroom, chk_eval (hp (rest ++ b) (by rw [List.length_append]; omega))]
    simp only [Tr.eval, List.nil_append, writeF]

theorem ok20 : CSound Try.prog 125 s20 ∧ CLocal s20 :=
  pos_sound (L := LW absF) c42_sound Try.func125 (by kernel_rfl) (loops1 (by kernel_rfl) lW) fun xs hs _ _ hp => by
    obtain ⟨u, b, u'⟩ := xs
    obtain ⟨⟨s, rest, many, u1⟩, u2⟩ := hs
    exact (k20 mixF absF b s rest many).trans (G20_eq b s rest many hp)

/-! the digest -/

abbrev CS : Ctx := ctx (c20 writeF writeP)
theorem c20_sound : CtxSound Try.prog CS ∧ CtxLocal CS := ctx_sound ⟨ok20, trivial⟩

/-- how many bytes 0 are to be laid behind so many -/
def padN (n : Nat) : Nat := (64 - (n + 8) % 64) % 64
def smallI (h : Hs) (f : List Int) : Bool := decide (h.2.1.length ≤ 1000000) && decide (f.length ≤ 1000000)
def padL (h : Hs) (f : List Int) : List Int := f ++ List.replicate (padN (h.2.1.length + f.length)) 0
def FS1 (c : Hs → List Int → Bool) (P : Hs → List Int → List Int) (xs : HL SS1.Ts) (hs : HD SS1.Es) : Tr (Ex × St) :=
  .chk (c hs.1 hs.2.2.2.1) (.ret (.exit 0, encS [0, 2, 3, 4] [.ptr 0 [], .ptr 1 [], .ptr 2 [], .vc 3 1] (eS 1) 68 ((), (), (), (), ()) (hs.1, hs.2.1, hs.2.2.1, P hs.1 hs.2.2.2.1, ())))
def tailB (h : Hs) (i : Nat) : Int := wb (shrI .u64 (shlI .u64 h.2.2.1 3) (w (8 * (i : Int))))
def tail8 (h : Hs) : List Int := [tailB h 7, tailB h 6, tailB h 5, tailB h 4, tailB h 3, tailB h 2, tailB h 1, tailB h 0]
def FS2 (c : List Int → Int → Bool) (P : Hs → List Int) (xs : HL SS2.Ts) (hs : HD SS2.Es) : Tr (Ex × St) :=
  .chk (c hs.2.2.2.1 xs.2.2.2.2.1) (.ret (.exit 2, encS [0, 2, 3, 4] [.ptr 0 [], .ptr 1 [], .ptr 2 [], .vc 3 2] (eS 2) 68 ((), (), (), (), ()) (hs.1, hs.2.1, hs.2.2.1, hs.2.2.2.1 ++ P hs.1, ())))
def outB (s : List Int) (i : Nat) : Int := wb (shrI .u32 (s.getD (i / 4) 0) (8 * (3 - (i % 4 : Nat))))
def outL (s : List Int) : Nat → Nat → List Int → List Int
  | _, 0, q => q
  | i, m + 1, q => outL s (i + 1) m (q.set i (outB s i))
def outF (s q : List Int) : List Int := outL s 0 32 q
def FS3 (P : List Int → List Int → List Int) (xs : HL SS3.Ts) (hs : HD SS3.Es) : Tr (Ex × St) :=
  .chk (decide (xs.2.2.2.1 = (0 : Int))) (.ret (.exit 4, encS [2, 6] [.ptr 1 [], .ptr 4 []] [.box hT, .box d32, .dead, .dead, .box d32] 68 ((), (), ()) (hs.1, hs.2.1, P hs.2.2.1.1 hs.2.2.2.1, ())))
def LS (c1 : Hs → List Int → Bool) (P1 : Hs → List Int → List Int) (c2 : List Int → Int → Bool) (P2 : Hs → List Int) (P3 : List Int → List Int → List Int) : Loops := fun j st =>
  if j = 3 then SS1.fn (FS1 c1 P1) st else if j = 6 then SS2.fn (FS2 c2 P2) st else if j = 12 then SS3.fn (FS3 P3) st else .fail
def small2 (f : List Int) (i : Int) : Bool := decide (i = 7) && decide (f.length ≤ 10000000)
abbrev LSF : Loops := LS smallI padL small2 tail8 outF

theorem rep_snoc (n : Nat) (f : List Int) : (f ++ [0]) ++ List.replicate n 0 = f ++ List.replicate (n + 1) 0 := by
  rw [List.append_assoc]; rfl

theorem mS1 (h l : Hs) (o : List Int) (hr : h.2.1.length ≤ 1000000) : ∀ (m : Nat) (f : List Int), f.length ≤ 2000000 - m → m ≤ 64 → padN (h.2.1.length + f.length) = m →
    SS1.many (bodyK Try.prog CS L0 bS1) (m + 1) ((), (), (), (), ()) (h, o, l, f, ()) = some (.exit 0, encS [0, 2, 3, 4] [.ptr 0 [], .ptr 1 [], .ptr 2 [], .vc 3 1] (eS 1) 68 ((), (), (), (), ()) (h, o, l, f ++ List.replicate m 0, ()))
  | 0, f, hf, h64, hp => by
    refine rmany_inr ((rS1 writeF writeP h l o f).trans ?_) 0
    have e1 : w ((h.2.1.length : Int) + (f.length : Int)) = ((h.2.1.length + f.length : Nat) : Int) := (w_id (by omega) (by omega)).trans (by omega)
    have e2 : w (((h.2.1.length + f.length : Nat) : Int) + 8) = ((h.2.1.length + f.length + 8 : Nat) : Int) := (w_id (by omega) (by omega)).trans (by omega)
    have e3 : ((h.2.1.length + f.length + 8 : Nat) : Int).tmod 64 = 0 := by
      unfold padN at hp
      have : (h.2.1.length + f.length + 8) % 64 = 0 := by omega
      rw [Int.tmod_eq_emod_of_nonneg (by omega)]
      omega
    simp only [GS1, e1, e2, e3, Tr.eval, bne_self_eq_false, List.replicate_zero, List.append_nil]
  | m + 1, f, hf, h64, hp => by
    refine (rmany_inl (d := (((), (), (), (), ()), (h, o, l, f ++ [0], ()))) ((rS1 writeF writeP h l o f).trans ?_) (m + 1)).trans ((mS1 h l o hr m (f ++ [0]) (by simp; omega) (by omega) (by unfold padN at hp ⊢; simp only [List.length_append, List.length_singleton]; omega)).trans ?_)
    · have e1 : w ((h.2.1.length : Int) + (f.length : Int)) = ((h.2.1.length + f.length : Nat) : Int) := (w_id (by omega) (by omega)).trans (by omega)
      have e2 : w (((h.2.1.length + f.length : Nat) : Int) + 8) = ((h.2.1.length + f.length + 8 : Nat) : Int) := (w_id (by omega) (by omega)).trans (by omega)
      have e3 : (((h.2.1.length + f.length + 8 : Nat) : Int).tmod 64 != 0) = true := by
        unfold padN at hp
        have : (h.2.1.length + f.length + 8) % 64 ≠ 0 := by omega
        rw [Int.tmod_eq_emod_of_nonneg (by omega), bne_iff_ne]
        omega
      have e4 : Vse.room (f.length + [(0 : Int)].length) 1 = true := by simp only [Vse.room, decide_eq_true_eq, List.length_singleton]; omega
      simp only [GS1, e1, e2, e3, e4, Tr.eval, Tr.chk]
    · rw [rep_snoc]

theorem lS1 : LoopOK Try.prog LSF bS1 :=
  rloop_ok (L := LSF) (L' := L0) c20_sound (loopsOK_of (by kernel_rfl)) SS1 (F := FS1 smallI padL) (i := 3) (by kernel_rfl) (fun _ => rfl) fun xs hs r h => by
    obtain ⟨u1, u2, u3, u4, u5⟩ := xs
    obtain ⟨hh, o, l, f, u6⟩ := hs
    obtain ⟨h1, h2⟩ := Tr.chk_some h
    simp only [smallI, Bool.and_eq_true, decide_eq_true_eq] at h1
    obtain ⟨e1, e2⟩ := h1
    exact ⟨_, (mS1 hh l o e1 _ f (by have : padN (hh.2.1.length + List.length (α := Int) f) < 64 := Nat.mod_lt _ (by omega); omega) (by have : padN (hh.2.1.length + List.length (α := Int) f) < 64 := Nat.mod_lt _ (by omega); omega) rfl).trans (congrArg some (Tr.ret_some h2))⟩

theorem mS2 (h l : Hs) (o : List Int) : ∀ (m : Nat) (f : List Int), f.length ≤ 20000000 - m → m ≤ 8 →
    SS2.many (bodyK Try.prog CS L0 bS2) (m + 1) ((), (), (), (), ((m : Int) - 1), ()) (h, o, l, f, ()) = some (.exit 2, encS [0, 2, 3, 4] [.ptr 0 [], .ptr 1 [], .ptr 2 [], .vc 3 2] (eS 2) 68 ((), (), (), (), ()) (h, o, l, f ++ (tail8 h).drop (8 - m), ()))
  | 0, f, hf, h8 => by
    refine rmany_inr ((rS2 writeF writeP h l o f _).trans ?_) 0
    have : (tail8 h).drop (8 - 0) = [] := rfl
    rw [this, List.append_nil]
    rfl
  | m + 1, f, hf, h8 => by
    have e1 : ((m + 1 : Nat) : Int) - 1 = (m : Int) := by omega
    rw [e1]
    refine (rmany_inl (d := (((), (), (), (), (m : Int) - 1, ()), (h, o, l, f ++ [tailB h m], ()))) ((rS2 writeF writeP h l o f _).trans ?_) (m + 1)).trans ((mS2 h l o m (f ++ [tailB h m]) (by simp; omega) (by omega)).trans ?_)
    · have e2 : decide (0 ≤ w (8 * (m : Int))) = true := decide_eq_true (by rw [w_id (by omega) (by omega)]; omega)
      have e4 : Vse.room (f.length + [(0 : Int)].length) 1 = true := by simp only [Vse.room, decide_eq_true_eq, List.length_singleton]; omega
      simp only [GS2, Tr.eval, Tr.chk, decide_eq_true (show ((m : Int) ≥ 0) by omega), e2, e4]
      rw [w_id (x := (m : Int) - 1) (by omega) (by omega)]
      rfl
    · have : (tail8 h).drop (8 - (m + 1)) = tailB h m :: (tail8 h).drop (8 - m) := by
        match m, h8 with
        | 0, _ => rfl
        | 1, _ => rfl
        | 2, _ => rfl
        | 3, _ => rfl
        | 4, _ => rfl
        | 5, _ => rfl
        | 6, _ => rfl
        | 7, _ => rfl
      rw [this, List.append_assoc]
      rfl

theorem lS2 : LoopOK Try.prog LSF bS2 :=
  rloop_ok (L := LSF) (L' := L0) c20_sound (loopsOK_of (by kernel_rfl)) SS2 (F := FS2 small2 tail8) (i := 6) (by kernel_rfl) (fun _ => rfl) fun xs hs r h => by
    obtain ⟨u1, u2, u3, u4, i, u5⟩ := xs
    obtain ⟨hh, o, l, f, u6⟩ := hs
    obtain ⟨h1, h2⟩ := Tr.chk_some h
    simp only [small2, Bool.and_eq_true, decide_eq_true_eq] at h1
    obtain ⟨e1, e2⟩ := h1
    have e1 : i = ((8 : Nat) : Int) - 1 := e1
    subst e1
    exact ⟨_, (mS2 hh l o 8 f (by omega) (by omega)).trans (congrArg some (Tr.ret_some h2))⟩

theorem mS3 (h l : Hs) (o : List Int) : ∀ (m i : Nat) (q : List Int), i + m = 32 →
    SS3.many (bodyK Try.prog CS L0 bS3) (m + 1) ((), (), (), (i : Int), ()) (h, o, l, q, ()) = some (.exit 4, encS [2, 6] [.ptr 1 [], .ptr 4 []] [.box hT, .box d32, .dead, .dead, .box d32] 68 ((), (), ()) (h, o, outL l.1 i m q, ()))
  | 0, i, q, hi => by
    refine rmany_inr ((rS3 writeF writeP h l o q i).trans ?_) 0
    simp only [GS3, Tr.eval, decide_eq_false (show ¬ ((i : Int) < 32) by omega)]
    rfl
  | m + 1, i, q, hi => by
    refine (rmany_inl (d := (((), (), (), ((i + 1 : Nat) : Int), ()), (h, o, l, q.set i (outB l.1 i), ()))) ((rS3 writeF writeP h l o q i).trans ?_) (m + 1)).trans (mS3 h l o m (i + 1) _ (by omega))
    have d4 : ((i : Nat) : Int).tdiv 4 = ((i / 4 : Nat) : Int) := by rw [Int.tdiv_eq_ediv_of_nonneg (by omega)]; omega
    have m4 : ((i : Nat) : Int).tmod 4 = ((i % 4 : Nat) : Int) := by rw [Int.tmod_eq_emod_of_nonneg (by omega)]; omega
    have w1 : w ((i / 4 : Nat) : Int) = ((i / 4 : Nat) : Int) := w_id (by omega) (by omega)
    have w2 : w (3 - ((i % 4 : Nat) : Int)) = 3 - ((i % 4 : Nat) : Int) := w_id (by omega) (by omega)
    have w3' : w (8 * (3 - ((i % 4 : Nat) : Int))) = 8 * (3 - ((i % 4 : Nat) : Int)) := w_id (by omega) (by omega)
    have w4 : w ((i : Int) + 1) = ((i + 1 : Nat) : Int) := (w_id (by omega) (by omega)).trans (by omega)
    simp only [GS3, Tr.eval, Tr.chk, decide_eq_true (show ((i : Int) < 32) by omega), d4, m4, w1, w2, w3', w4, inArrK64 (i := ((i / 4 : Nat) : Int)) (n := 8) (by omega) (by omega) (by omega), decide_eq_true (show 0 ≤ 8 * (3 - ((i % 4 : Nat) : Int)) by omega),
      inArrK64 (i := (i : Int)) (n := 32) (by omega) (by omega) (by omega), Int.toNat_natCast]
    rfl

theorem lS3 : LoopOK Try.prog LSF bS3 :=
  rloop_ok (L := LSF) (L' := L0) c20_sound (loopsOK_of (by kernel_rfl)) SS3 (F := FS3 outF) (i := 12) (by kernel_rfl) (fun _ => rfl) fun xs hs r h => by
    obtain ⟨u1, u2, u3, i, u5⟩ := xs
    obtain ⟨hh, o, l, q, u6⟩ := hs
    obtain ⟨h1, h2⟩ := Tr.chk_some h
    have e1 : i = ((0 : Nat) : Int) := of_decide_eq_true h1
    subst e1
    exact ⟨_, (mS3 hh l o 32 0 q (by omega)).trans (congrArg some (Tr.ret_some h2))⟩

def zeros32 : List Int := [0, 0, 0, 0, 0, 0, 0, 0, 0, 0, 0, 0, 0, 0, 0, 0, 0, 0, 0, 0, 0, 0, 0, 0, 0, 0, 0, 0, 0, 0, 0, 0]
def G21 (W : Wr) (p : List Int → Hs → Bool) (c1 : Hs → List Int → Bool) (P1 : Hs → List Int → List Int) (c2 : List Int → Int → Bool) (P2 : Hs → List Int) (P3 : List Int → List Int → List Int) (h : Hs) : Tr (wS [] [d32]).Out :=
  .chk (c1 h [128]) (.chk (c2 (P1 h [128]) 7) (.chk (p (P1 h [128] ++ P2 h) (h.1, h.2.1, 0, ())) (.ret ((P3 (W (P1 h [128] ++ P2 h) (h.1, h.2.1, 0, ())).1 zeros32, ()), (h, ())))))
theorem k21 (W : Wr) (p : List Int → Hs → Bool) (c1 : Hs → List Int → Bool) (P1 : Hs → List Int → List Int) (c2 : List Int → Int → Bool) (P2 : Hs → List Int) (P3 : List Int → List Int → List Int) (h : Hs) :
    (fnP Try.prog (ctx (c20 W p)) (LS c1 P1 c2 P2 P3) (wS [] [d32]) Try.f126 ((), ()) (h, ())).eval = (G21 W p c1 P1 c2 P2 P3 h).eval := by kernel_rfl

/-- the digest of a hash -/
def fillF (h : Hs) : List Int := padL h [128] ++ tail8 h
def sumH (h : Hs) : List Int := outF (writeF (fillF h) (h.1, h.2.1, 0, ())).1 zeros32
def s21 : CSpec := .pos (wS [] [d32]) (fun _ d => decide (d.1.2.1.length ≤ 1000000)) fun _ d => ((sumH d.1, ()), d)

theorem padN_lt (n : Nat) : padN n < 64 := Nat.mod_lt _ (by omega)

theorem G21_eq (h : Hs) (hr : h.2.1.length ≤ 1000000) : (G21 writeF writeP smallI padL small2 tail8 outF h).eval = some ((sumH h, ()), (h, ())) := by
  have hp := padN_lt (h.2.1.length + 1)
  have hl : (padL h [128]).length = 1 + padN (h.2.1.length + 1) := by simp [padL]; omega
  have e1 : smallI h [128] = true := by simp only [smallI, Bool.and_eq_true, decide_eq_true_eq]; exact ⟨hr, by decide⟩
  have e2 : small2 (padL h [128]) 7 = true := by simp only [small2, Bool.and_eq_true, decide_eq_true_eq, hl]; exact ⟨trivial, by omega⟩
  have e3 : writeP (padL h [128] ++ tail8 h) (h.1, h.2.1, 0, ()) = true := by
    have : (tail8 h).length = 8 := rfl
    simp only [writeP, decide_eq_true_eq, List.length_append, hl, this]; omega
  simp only [G21, Tr.chk, e1, e2, e3, Tr.eval]
  rfl

theorem ok21 : CSound Try.prog 126 s21 ∧ CLocal s21 :=
  pos_sound (L := LSF) c20_sound Try.func126 (by kernel_rfl) (fun b hb => by
    have : loopsOf (bodyOf Try.f126) = [bS1, bS2, bS3] := by kernel_rfl
    rw [this] at hb
    simp only [List.mem_cons, List.not_mem_nil, or_false] at hb
    rcases hb with rfl | rfl | rfl
    · exact lS1
    · exact lS2
    · exact lS3) fun xs hs _ _ hp => by
    obtain ⟨u, u'⟩ := xs
    obtain ⟨h, u2⟩ := hs
    exact (k21 writeF writeP smallI padL small2 tail8 outF h).trans (G21_eq h (of_decide_eq_true hp))

/-! the digest of bytes -/

def c16 (i : Hs) (W : Wr) (p : List Int → Hs → Bool) (q : Hs → Bool) (S : Hs → List Int) : List (Nat × CSpec) :=
  [(124, .pos nH (fun _ _ => true) fun _ _ => (((), ()), (i, ()))), (125, .pos (wS [bs] []) (fun xs d => p xs.2.1 d.1) fun xs d => ((), (W xs.2.1 d.1, ()))), (126, .pos (wS [] [d32]) (fun _ d => q d.1) fun _ d => ((S d.1, ()), d))]
def h0 : Hs := (init, [], 0, ())
def restP (h : Hs) : Bool := decide (h.2.1.length ≤ 1000000)
theorem c16_sound : CtxSound Try.prog (ctx (c16 h0 writeF writeP restP sumH)) ∧ CtxLocal (ctx (c16 h0 writeF writeP restP sumH)) := ctx_sound ⟨ok19, ok20, ok21, trivial⟩
def shaF (b : List Int) : List Int := sumH (writeF b h0)
def shaP (b : List Int) : Bool := decide (b.length ≤ 100000000000000)
def s16 : CSpec := .slp1 [bs] (fun x => shaP x.1) d32 fun x => shaF x.1
def T16 (i : Hs) (W : Wr) (p : List Int → Hs → Bool) (q : Hs → Bool) (S : Hs → List Int) (b : List Int) : Tr AV := .chk (p b i) (.chk (q (W b i)) (.ret (.v d32 (S (W b i)))))
theorem k16 (i : Hs) (W : Wr) (p : List Int → Hs → Bool) (q : Hs → Bool) (S : Hs → List Int) (b : List Int) : nrm (fnS Try.prog (ctx (c16 i W p q S)) L0 [d32] Try.f111 (mkArgs [bs] (b, ()))) = (T16 i W p q S b).eval := by kernel_rfl

theorem abs_rest (s all : List Int) : (absF s all).2.length = all.length % 64 := by
  unfold absF
  rw [absorb_rest, List.length_drop]
  omega

theorem ok16 : CSound Try.prog 111 s16 ∧ CLocal s16 :=
  slpE1 (L := L0) c16_sound Try.func111 (by kernel_rfl) (noLoopsL (by kernel_rfl)) fun xs hx hp => by
    obtain ⟨b, u⟩ := xs
    have hp : List.length (α := Int) b ≤ 100000000000000 := of_decide_eq_true hp
    have e1 : writeP b h0 = true := decide_eq_true (by show 0 + List.length (α := Int) b ≤ _; omega)
    have e2 : restP (writeF b h0) = true := decide_eq_true (by
      show (absF h0.1 (h0.2.1 ++ b)).2.length ≤ 1000000
      rw [abs_rest]
      omega)
    have e3 : (T16 h0 writeF writeP restP sumH b).eval = some (.v d32 (shaF b)) := by
      unfold T16 shaF
      rw [chk_eval e1, chk_eval e2, Tr.eval]
    exact (k16 h0 writeF writeP restP sumH b).trans e3

end Go.Proofs.Ytffdkniccaebmaa.Sha

end
section
/- The document's digest (layer 1, sha): rounds. -/
set_option linter.unusedVariables false
set_option maxRecDepth 100000
namespace Go.Proofs.Ytffdkniccaebmaa.Sha
open Go Vse Go.Proofs Gen

abbrev ns : Ty := .imm false false u32
abbrev nt : Ty := .imm true false u32

/-! right -/

def SR : RSpec := ⟨[0, 1, 5], 21, [u32, i64, i64], [], [], [], fun _ => ([0], [u32], [])⟩
noncomputable def bR : Code := loopAt Try.f136 0
def half1 (n : Int) : Int := w3 (n.tdiv 2)
def GR (n k i : Int) : Tr SR.End :=
  .ite (decide (i < k)) (.ite (n.tmod 2 == 1) (.ret (.inl ((w3 (half1 n + 2147483648), k, w (i + 1), ()), ()))) (.ret (.inl ((half1 n, k, w (i + 1), ()), ()))))
    (.ret (.inr (.exit 0, encS [0] [u32] [] 21 (n, ()) ())))
theorem rR (n k i : Int) : (SR.round (bodyK Try.prog (ctx []) L0 bR) (n, k, i, ()) ()).eval = (GR n k i).eval := by kernel_rfl
theorem ok52 : CSound Try.prog 137 (.sl1 [] nt fun _ => consts) ∧ CLocal (.sl1 [] nt fun _ => consts) :=
  sl_ok1 (L := L0) nil_sound Try.func137 (by kernel_rfl) (noLoopsL (by kernel_rfl)) (fun xs _ => by kernel_rfl) (fun xs _ => by kernel_rfl)

/-! filled -/

noncomputable def bF1 : Code := loopAt Try.f131 0
noncomputable def bF2 : Code := loopAt Try.f131 1
abbrev eF (k : Nat) : List ETy := [.vec k u8, .dead, .dead, .dead]
def SF1 : RSpec := ⟨[0, 3], 38, [bs, .vc 0 3], eF 3, eF 2, [], fun _ => ([0, 3], [bs, .vc 0 3], eF 3)⟩
def GF1 (b f : List Int) : Tr SF1.End :=
  .ite ((f.length : Int).tmod 64 != 56) (.chk (Vse.room (f.length + [(0 : Int)].length) 1) (.ret (.inl ((b, (), ()), (f ++ [0], ())))))
    (.ret (.inr (.exit 0, encS [0, 3] [bs, .vc 0 3] (eF 3) 38 (b, (), ()) (f, ()))))
theorem rF1 (b f : List Int) : (SF1.round (bodyK Try.prog (ctx []) L0 bF1) (b, (), ()) (f, ())).eval = (GF1 b f).eval := by kernel_rfl

def SF2 : RSpec := ⟨[3, 4, 5, 6], 38, [.vc 0 4, u64, u64, i64], eF 4, eF 3, [], fun _ => ([3], [.vc 0 4], eF 4)⟩
def GF2 (f : List Int) (n u i : Int) : Tr SF2.End :=
  .ite (decide (i < 8)) (.ite (decide (u = 0)) .fail (.chk (Vse.room (f.length + [(0 : Int)].length) 1) (.ret (.inl (((), n, wu (u.tdiv 256), w (i + 1), ()), (f ++ [wb ((wu (n.tdiv u)).tmod 256)], ()))))))
    (.ret (.inr (.exit 2, encS [3] [.vc 0 4] (eF 4) 38 ((), ()) (f, ()))))
theorem rF2 (f : List Int) (n u i : Int) : (SF2.round (bodyK Try.prog (ctx []) L0 bF2) ((), n, u, i, ()) (f, ())).eval = (GF2 f n u i).eval := by kernel_rfl

/-! block -/

abbrev Ri := Int → Int → Int
def cB (r : Ri) (ks : List Int) : List (Nat × CSpec) := [(136, .slp1 [u32, i64] (fun x => decide (0 ≤ x.2.1) && decide (x.2.1 ≤ 32)) u32 fun x => r x.1 x.2.1), (137, .sl1 [] nt fun _ => ks)]
noncomputable def bB1 : Code := loopAt Try.f132 0
noncomputable def bB2 : Code := loopAt Try.f132 1
noncomputable def bB3 : Code := loopAt Try.f132 2
noncomputable def bB4 : Code := loopAt Try.f132 3
def SB1 : RSpec := ⟨[0, 1, 5, 6], 225, [ns, bs, .vc 0 0, i64], [.vec 0 u32], [], [.slot 5 u32], fun _ => ([0, 5], [ns, .vc 0 0], [.vec 0 u32])⟩
def num4 (b : List Int) (i : Int) : Int :=
  let g (k : Int) : Int := w3 (b.getD (w (w (4 * i) + k)).toNat 0)
  w3 (w3 (w3 (w3 (w3 (b.getD (w (4 * i)).toNat 0) * 16777216) + w3 (g 1 * 65536)) + w3 (g 2 * 256)) + g 3)
def GB1 (s b v : List Int) (i : Int) : Tr SB1.End :=
  let ix (k : Int) : Bool := inArr (w (w (4 * i) + k)) b.length
  .ite (decide (i < 16)) (.chk (inArr (w (4 * i)) b.length) (.chk (ix 1) (.chk (ix 2) (.chk (ix 3) (.chk (Vse.room (v.length + [(0 : Int)].length) 4) (.ret (.inl ((s, b, (), w (i + 1), ()), (v ++ [num4 b i], ())))))))))
    (.ret (.inr (.exit 0, encS [0, 5] [ns, .vc 0 0] [.vec 0 u32] 225 (s, (), ()) (v, ()))))
theorem rB1 (r : Ri) (ks s b v : List Int) (i : Int) : (SB1.round (bodyK Try.prog (ctx (cB r ks)) L0 bB1) (s, b, (), i, ()) (v, ())).eval = (GB1 s b v i).eval := by kernel_rfl

def SB2 : RSpec := ⟨[0, 5, 7], 225, [ns, .vc 0 1, i64], [.vec 1 u32], [.vec 0 u32], [], fun _ => ([0, 5], [ns, .vc 0 1], [.vec 1 u32])⟩
def num2 (r : Ri) (v : List Int) (i : Int) : Int :=
  let x := v.getD (w (i - 15)).toNat 0
  let y := v.getD (w (i - 2)).toNat 0
  w3 (w3 (w3 (v.getD (w (i - 16)).toNat 0 + v.getD (w (i - 7)).toNat 0) + xorI .u32 (xorI .u32 (r x 7) (r x 18)) (w3 (x.tdiv 8))) + xorI .u32 (xorI .u32 (r y 17) (r y 19)) (w3 (y.tdiv 1024)))
def GB2 (r : Ri) (s v : List Int) (i : Int) : Tr SB2.End :=
  let ix (k : Int) : Bool := inArr (w (i - k)) v.length
  .ite (decide (i < 64)) (.chk (ix 15) (.chk (ix 2) (.chk (ix 16) (.chk (ix 7) (.chk (Vse.room (v.length + [(0 : Int)].length) 4) (.ret (.inl ((s, (), w (i + 1), ()), (v ++ [num2 r v i], ())))))))))
    (.ret (.inr (.exit 2, encS [0, 5] [ns, .vc 0 1] [.vec 1 u32] 225 (s, (), ()) (v, ()))))
theorem rB2 (r : Ri) (ks s v : List Int) (i : Int) : (SB2.round (bodyK Try.prog (ctx (cB r ks)) L0 bB2) (s, (), i, ()) (v, ())).eval = (GB2 r s v i).eval := by kernel_rfl

abbrev pB3 : List Ty := [ns, .vc 0 1, .vc 1 2, nt, i64]
abbrev eB3 : List ETy := [.vec 1 u32, .vec 2 u32, .dead]
def SB3 : RSpec := ⟨[0, 5, 10, 11, 12], 225, pB3, eB3, [.vec 1 u32, .vec 1 u32, .dead], [], fun _ => ([0, 10], [ns, .vc 1 2], [.dead, .vec 2 u32, .dead])⟩
def rT (r : Ri) (l4 l5 l6 l7 k x : Int) : Int := w3 (w3 (w3 (w3 (l7 + xorI .u32 (xorI .u32 (r l4 6) (r l4 11)) (r l4 25)) + xorI .u32 (andI .u32 l4 l5) (andI .u32 (w3 (4294967295 - l4)) l6)) + k) + x)
def rU (r : Ri) (l0 l1 l2 : Int) : Int := w3 (xorI .u32 (xorI .u32 (r l0 2) (r l0 13)) (r l0 22) + xorI .u32 (xorI .u32 (andI .u32 l0 l1) (andI .u32 l0 l2)) (andI .u32 l1 l2))
def GB3 (r : Ri) (s ks v : List Int) (i l0 l1 l2 l3 l4 l5 l6 l7 : Int) : Tr SB3.End :=
  let t := rT r l4 l5 l6 l7 (ks.getD i.toNat 0) (v.getD i.toNat 0)
  .ite (decide (i < 64)) (.chk (inArr i ks.length) (.chk (inArr i v.length) (.ret (.inl ((s, (), (), ks, w (i + 1), ()), (v, [w3 (t + rU r l0 l1 l2), l0, l1, l2, w3 (l3 + t), l4, l5, l6], ()))))))
    (.ret (.inr (.exit 4, encS [0, 10] [ns, .vc 1 2] [.dead, .vec 2 u32, .dead] 225 (s, (), ()) ([l0, l1, l2, l3, l4, l5, l6, l7], ()))))
theorem rB3 (r : Ri) (ks0 s ks v : List Int) (i l0 l1 l2 l3 l4 l5 l6 l7 : Int) : (SB3.round (bodyK Try.prog (ctx (cB r ks0)) L0 bB3) (s, (), (), ks, i, ()) (v, [l0, l1, l2, l3, l4, l5, l6, l7], ())).eval = (GB3 r s ks v i l0 l1 l2 l3 l4 l5 l6 l7).eval := by kernel_rfl

def SB4 : RSpec := ⟨[0, 10, 17], 225, [ns, .vc 1 2, i64], [.dead, .vec 2 u32, .dead], [.dead, .vec 2 u32, .dead], [], fun _ => ([10], [.vc 1 2], [.dead, .vec 2 u32, .dead])⟩
def GB4 (s l : List Int) (i : Int) : Tr SB4.End :=
  .ite (decide (i < 8)) (.chk (inArr i l.length) (.chk (inArr i s.length) (.chk (inArr i l.length) (.ret (.inl ((s, (), w (i + 1), ()), (l.set i.toNat (w3 (l.getD i.toNat 0 + s.getD i.toNat 0)), ())))))))
    (.ret (.inr (.exit 6, encS [10] [.vc 1 2] [.dead, .vec 2 u32, .dead] 225 ((), ()) (l, ()))))
theorem rB4 (r : Ri) (ks0 s l : List Int) (i : Int) : (SB4.round (bodyK Try.prog (ctx (cB r ks0)) L0 bB4) (s, (), i, ()) (l, ())).eval = (GB4 s l i).eval := by kernel_rfl

/-! Sum -/

abbrev Bk := List Int → List Int → List Int
def cD (f : List Int → List Int) (p : List Int → Bool) (k : Bk) : List (Nat × CSpec) := [(131, .slp1 [bs] (fun x => p x.1) bt fun x => f x.1), (132, .slp1 [ns, bs] (fun x => decide (List.length (α := Int) x.1 = 8) && decide (List.length (α := Int) x.2.1 = 64)) nt fun x => k x.1 x.2.1)]
noncomputable def bD1 : Code := loopAt Try.f129 0
noncomputable def bD2 : Code := loopAt Try.f129 1
def SD1 : RSpec := ⟨[2, 3, 4, 5], 71, [.ptr 0 [], nt, bt, i64], [.box d32, .dead], [.box d32, .vec 0 u32], [], fun _ => ([2, 3], [.ptr 0 [], nt], [.box d32, .dead])⟩
def GD1 (k : Bk) (s a o : List Int) (i : Int) : Tr SD1.End :=
  let q := (a.take (w (i + 64)).toNat).drop i.toNat
  .ite (decide (i < (a.length : Int))) (.chk (decide (0 ≤ i) && (decide (i ≤ w (i + 64)) && decide (w (i + 64) ≤ (a.length : Int)))) (.chk (decide (s.length = 8) && decide (q.length = 64)) (.ret (.inl (((), k s q, a, w (i + 64), ()), (o, ()))))))
    (.ret (.inr (.exit 0, encS [2, 3] [.ptr 0 [], nt] [.box d32, .dead] 71 ((), s, ()) (o, ()))))
theorem rD1 (f : List Int → List Int) (p : List Int → Bool) (k : Bk) (s a o : List Int) (i : Int) : (SD1.round (bodyK Try.prog (ctx (cD f p k)) L0 bD1) ((), s, a, i, ()) (o, ())).eval = (GD1 k s a o i).eval := by kernel_rfl

def SD2 : RSpec := ⟨[2, 3, 6, 7], 71, [.ptr 0 [], nt, .ptr 2 [], i64], [.box d32, .dead, .box d32], [.box d32, .dead, .box d32], [], fun _ => ([2, 6], [.ptr 0 [], .ptr 2 []], [.box d32, .dead, .box d32])⟩
def put8 (s q : List Int) (i : Int) : List Int :=
  let x := s.getD i.toNat 0
  (((q.set (w (4 * i)).toNat (wb (w3 (x.tdiv 16777216)))).set (w (w (4 * i) + 1)).toNat (wb ((w3 (x.tdiv 65536)).tmod 256))).set (w (w (4 * i) + 2)).toNat (wb ((w3 (x.tdiv 256)).tmod 256))).set (w (w (4 * i) + 3)).toNat (wb (x.tmod 256))
def GD2 (s o q : List Int) (i : Int) : Tr SD2.End :=
  let ix (k : Int) : Bool := inArrK .i64 (w (w (4 * i) + k)) 32
  .ite (decide (i < 8)) (.chk (inArr i s.length) (.chk (inArrK .i64 (w (4 * i)) 32) (.chk (inArr i s.length) (.chk (ix 1) (.chk (inArr i s.length) (.chk (ix 2) (.chk (inArr i s.length) (.chk (ix 3)
      (.ret (.inl (((), s, (), w (i + 1), ()), (o, put8 s q i, ()))))))))))))
    (.ret (.inr (.exit 2, encS [2, 6] [.ptr 0 [], .ptr 2 []] [.box d32, .dead, .box d32] 71 ((), (), ()) (o, q, ()))))
theorem rD2 (f : List Int → List Int) (p : List Int → Bool) (k : Bk) (s o q : List Int) (i : Int) : (SD2.round (bodyK Try.prog (ctx (cD f p k)) L0 bD2) ((), s, (), i, ()) (o, q, ())).eval = (GD2 s o q i).eval := by kernel_rfl

end Go.Proofs.Ytffdkniccaebmaa.Sha

end
section
/- The document's digest (layer 1, sha): all rounds. -/
set_option linter.unusedVariables false
set_option maxRecDepth 100000
namespace Go.Proofs.Ytffdkniccaebmaa.Sha
open Go Vse Go.Proofs Gen

/-! right -/

def step1 (n : Int) : Int := if n.tmod 2 = 1 then w3 (half1 n + 2147483648) else half1 n
def rightN : Nat → Int → Int
  | 0, n => n
  | m + 1, n => rightN m (step1 n)
def rightF (n k : Int) : Int := rightN k.toNat n
def cR (k i : Int) : Bool := decide (i = 0) && (decide (0 ≤ k) && decide (k ≤ 32))
def FR (c : Int → Int → Bool) (R : Int → Int → Int) (xs : HL SR.Ts) (hs : HD SR.Es) : Tr (Ex × St) := .chk (c xs.2.1 xs.2.2.1) (.ret (.exit 0, encS [0] [u32] [] 21 (R xs.1 xs.2.1, ()) ()))
def LR (c : Int → Int → Bool) (R : Int → Int → Int) : Loops := fun j st => if j = 2 then SR.fn (FR c R) st else .fail

theorem mR (k : Int) (hk : k ≤ 32) : ∀ (m i : Nat) (n : Int), (i : Int) + m = k → SR.many (bodyK Try.prog (ctx []) L0 bR) (m + 1) (n, k, (i : Int), ()) () = some (.exit 0, encS [0] [u32] [] 21 (rightN m n, ()) ())
  | 0, i, n, h => by
    refine rmany_inr ((rR n k i).trans ?_) 0
    simp only [GR, Tr.eval, decide_eq_false (show ¬ ((i : Int) < k) by omega)]
    rfl
  | m + 1, i, n, h => by
    refine (rmany_inl (d := ((step1 n, k, ((i + 1 : Nat) : Int), ()), ())) ((rR n k i).trans ?_) (m + 1)).trans (mR k hk m (i + 1) _ (by omega))
    have w0 : w ((i : Int) + 1) = ((i + 1 : Nat) : Int) := (w_id (by omega) (by omega)).trans (by omega)
    simp only [GR, Tr.eval, decide_eq_true (show ((i : Int) < k) by omega), w0, step1]
    by_cases hn : n.tmod 2 = 1
    · have : (n.tmod 2 == 1) = true := by simp [hn]
      rw [this, if_pos hn]
    · have : (n.tmod 2 == 1) = false := by simp [hn]
      rw [this, if_neg hn]

theorem lR : LoopOK Try.prog (LR cR rightF) bR :=
  rloop_ok (L := LR cR rightF) (L' := L0) nil_sound (loopsOK_of (by kernel_rfl)) SR (F := FR cR rightF) (i := 2) (by kernel_rfl) (fun _ => rfl) fun xs hs r h => by
    obtain ⟨n, k, i, u⟩ := xs
    obtain ⟨h1, h2⟩ := Tr.chk_some h
    simp only [cR, Bool.and_eq_true, decide_eq_true_eq] at h1
    obtain ⟨e1, e2, e3⟩ := h1
    have e1 : i = ((0 : Nat) : Int) := e1
    subst e1
    exact ⟨_, (mR k e3 k.toNat 0 n (by show ((0 : Nat) : Int) + (k.toNat : Int) = k; omega)).trans (congrArg some (Tr.ret_some h2))⟩

def preR (k : Int) : Bool := decide (0 ≤ k) && decide (k ≤ 32)
def s51 : CSpec := .slp1 [u32, i64] (fun x => decide (0 ≤ x.2.1) && decide (x.2.1 ≤ 32)) u32 fun x => rightF x.1 x.2.1
theorem k51 (c : Int → Int → Bool) (R : Int → Int → Int) (n k : Int) : nrm (fnS Try.prog (ctx []) (LR c R) [u32] Try.f136 (mkArgs [u32, i64] (n, k, ()))) = (Tr.chk (c k 0) (.ret (.v u32 (R n k)))).eval := by kernel_rfl
theorem ok51 : CSound Try.prog 136 s51 ∧ CLocal s51 :=
  slpE1 (L := LR cR rightF) nil_sound Try.func136 (by kernel_rfl) (loops1 (by kernel_rfl) lR) fun xs hx hp => by
    obtain ⟨n, k, u⟩ := xs
    have hp : (decide (0 ≤ k) && decide (k ≤ 32)) = true := hp
    have e := (k51 cR rightF n k).trans (chk_eval (by simp only [cR, hp]; rfl) _)
    exact e

/-! filled -/

def padM (n : Nat) : Nat := (56 + 64 - n % 64) % 64
def smallF (f : List Int) : Bool := decide (f.length ≤ 100000000000)
def padR (f : List Int) : List Int := f ++ List.replicate (padM f.length) 0
def FF1 (c : List Int → Bool) (P : List Int → List Int) (xs : HL SF1.Ts) (hs : HD SF1.Es) : Tr (Ex × St) :=
  .chk (c hs.1) (.ret (.exit 0, encS [0, 3] [bs, .vc 0 3] (eF 3) 38 (xs.1, (), ()) (P hs.1, ())))
def unit1 (m : Nat) : Int := 256 ^ m
def unitP : Nat → Int
  | 0 => 0
  | k + 1 => unit1 k
def tailR (n : Int) : Nat → List Int
  | 0 => []
  | m + 1 => wb ((wu (n.tdiv (unit1 m))).tmod 256) :: tailR n m
def cF2 (f : List Int) (u i : Int) : Bool := decide (i = 0) && (decide (u = 72057594037927936) && decide (f.length ≤ 1000000000000))
def FF2 (c : List Int → Int → Int → Bool) (T : Int → List Int) (xs : HL SF2.Ts) (hs : HD SF2.Es) : Tr (Ex × St) :=
  .chk (c hs.1 xs.2.2.1 xs.2.2.2.1) (.ret (.exit 2, encS [3] [.vc 0 4] (eF 4) 38 ((), ()) (hs.1 ++ T xs.2.1, ())))
def tailF (n : Int) : List Int := tailR n 8
def LF (c1 : List Int → Bool) (P : List Int → List Int) (c2 : List Int → Int → Int → Bool) (T : Int → List Int) : Loops := fun j st => if j = 2 then SF1.fn (FF1 c1 P) st else if j = 7 then SF2.fn (FF2 c2 T) st else .fail
abbrev LFF : Loops := LF smallF padR cF2 tailF

theorem mF1 (b : List Int) : ∀ (m : Nat) (f : List Int), f.length ≤ 200000000000 - m → m ≤ 64 → padM f.length = m →
    SF1.many (bodyK Try.prog (ctx []) L0 bF1) (m + 1) (b, (), ()) (f, ()) = some (.exit 0, encS [0, 3] [bs, .vc 0 3] (eF 3) 38 (b, (), ()) (f ++ List.replicate m 0, ()))
  | 0, f, hf, h64, hp => by
    refine rmany_inr ((rF1 b f).trans ?_) 0
    have e3 : ((f.length : Int).tmod 64 != 56) = false := by
      unfold padM at hp
      rw [Int.tmod_eq_emod_of_nonneg (by omega)]
      have : f.length % 64 = 56 := by omega
      simp; omega
    simp only [GF1, e3, Tr.eval, List.replicate_zero, List.append_nil]
  | m + 1, f, hf, h64, hp => by
    refine (rmany_inl (d := ((b, (), ()), (f ++ [0], ()))) ((rF1 b f).trans ?_) (m + 1)).trans ((mF1 b m (f ++ [0]) (by simp; omega) (by omega) (by unfold padM at hp ⊢; simp only [List.length_append, List.length_singleton]; omega)).trans ?_)
    · have e3 : ((f.length : Int).tmod 64 != 56) = true := by
        unfold padM at hp
        rw [Int.tmod_eq_emod_of_nonneg (by omega), bne_iff_ne]
        have : f.length % 64 ≠ 56 := by omega
        omega
      have e4 : Vse.room (f.length + [(0 : Int)].length) 1 = true := by simp only [Vse.room, decide_eq_true_eq, List.length_singleton]; omega
      simp only [GF1, e3, e4, Tr.eval, Tr.chk]
    · rw [rep_snoc]

theorem padM_lt (n : Nat) : padM n < 64 := Nat.mod_lt _ (by omega)

theorem lF1 : LoopOK Try.prog LFF bF1 :=
  rloop_ok (L := LFF) (L' := L0) nil_sound (loopsOK_of (by kernel_rfl)) SF1 (F := FF1 smallF padR) (i := 2) (by kernel_rfl) (fun _ => rfl) fun xs hs r h => by
    obtain ⟨b, u1, u2⟩ := xs
    obtain ⟨f, u3⟩ := hs
    obtain ⟨h1, h2⟩ := Tr.chk_some h
    have h1 : List.length (α := Int) f ≤ 100000000000 := of_decide_eq_true h1
    have hp := padM_lt (List.length (α := Int) f)
    exact ⟨_, (mF1 b _ f (by omega) (by omega) rfl).trans (congrArg some (Tr.ret_some h2))⟩

theorem mF2 (n : Int) : ∀ (m : Nat) (f : List Int), f.length ≤ 2000000000000 - m → m ≤ 8 →
    SF2.many (bodyK Try.prog (ctx []) L0 bF2) (m + 1) ((), n, unitP m, (8 : Int) - m, ()) (f, ()) = some (.exit 2, encS [3] [.vc 0 4] (eF 4) 38 ((), ()) (f ++ tailR n m, ()))
  | 0, f, hf, h8 => by
    refine rmany_inr ((rF2 f n _ _).trans ?_) 0
    simp only [GF2, Tr.eval, decide_eq_false (show ¬ ((8 : Int) - ((0 : Nat) : Int) < 8) by omega), tailR, List.append_nil]
  | m + 1, f, hf, h8 => by
    refine (rmany_inl (d := (((), n, unitP m, (8 : Int) - m, ()), (f ++ [wb ((wu (n.tdiv (unit1 m))).tmod 256)], ()))) ((rF2 f n _ _).trans ?_) (m + 1)).trans ((mF2 n m _ (by simp; omega) (by omega)).trans ?_)
    · have e4 : Vse.room (f.length + [(0 : Int)].length) 1 = true := by simp only [Vse.room, decide_eq_true_eq, List.length_singleton]; omega
      have hu : decide (unit1 m = 0) = false := by
        match m, h8 with
        | 0, _ => rfl
        | 1, _ => rfl
        | 2, _ => rfl
        | 3, _ => rfl
        | 4, _ => rfl
        | 5, _ => rfl
        | 6, _ => rfl
        | 7, _ => rfl
      have hn : wu ((unit1 m).tdiv 256) = unitP m := by
        match m, h8 with
        | 0, _ => decide
        | 1, _ => decide
        | 2, _ => decide
        | 3, _ => decide
        | 4, _ => decide
        | 5, _ => decide
        | 6, _ => decide
        | 7, _ => decide
      have hw : w ((8 : Int) - ((m + 1 : Nat) : Int) + 1) = (8 : Int) - m := by rw [w_id (by omega) (by omega)]; omega
      simp only [GF2, Tr.eval, Tr.chk, decide_eq_true (show ((8 : Int) - ((m + 1 : Nat) : Int) < 8) by omega), show unitP (m + 1) = unit1 m from rfl, hu, e4, hw, hn]
    · simp only [tailR, List.append_assoc, List.singleton_append]

theorem lF2 : LoopOK Try.prog LFF bF2 :=
  rloop_ok (L := LFF) (L' := L0) nil_sound (loopsOK_of (by kernel_rfl)) SF2 (F := FF2 cF2 tailF) (i := 7) (by kernel_rfl) (fun _ => rfl) fun xs hs r h => by
    obtain ⟨u1, n, u, i, u2⟩ := xs
    obtain ⟨f, u3⟩ := hs
    obtain ⟨h1, h2⟩ := Tr.chk_some h
    simp only [cF2, Bool.and_eq_true, decide_eq_true_eq] at h1
    obtain ⟨e1, e2, e3⟩ := h1
    have e1 : i = (8 : Int) - ((8 : Nat) : Int) := e1
    have e2 : u = unit1 7 := e2
    subst e1; subst e2
    exact ⟨_, (mF2 n 8 f (by omega) (by omega)).trans (congrArg some (Tr.ret_some h2))⟩

/-- bytes, filled up -/
def filledF (b : List Int) : List Int := padR (b ++ [128]) ++ tailF (wu (w (8 * (b.length : Int))))
def filledP (b : List Int) : Bool := decide (b.length ≤ 10000000000)
def T40 (c1 : List Int → Bool) (P : List Int → List Int) (c2 : List Int → Int → Int → Bool) (T : Int → List Int) (b : List Int) : Tr AV :=
  .chk (Vse.room (([] : List Int).length + b.length) 1) (.chk (Vse.room (([] ++ b).length + [(128 : Int)].length) 1) (.chk (c1 (([] ++ b) ++ [128])) (.chk (c2 (P (([] ++ b) ++ [128])) 72057594037927936 0) (.ret (.v bt (P (([] ++ b) ++ [128]) ++ T (wu (w (8 * (b.length : Int))))))))))
theorem k40 (c1 : List Int → Bool) (P : List Int → List Int) (c2 : List Int → Int → Int → Bool) (T : Int → List Int) (b : List Int) :
    nrm (fnS Try.prog (ctx []) (LF c1 P c2 T) [bt] Try.f131 (mkArgs [bs] (b, ()))) = (T40 c1 P c2 T b).eval := by kernel_rfl
def s40 : CSpec := .slp1 [bs] (fun x => filledP x.1) bt fun x => filledF x.1
theorem ok40 : CSound Try.prog 131 s40 ∧ CLocal s40 :=
  slpE1 (L := LFF) nil_sound Try.func131 (by kernel_rfl) (loops2 (by kernel_rfl) lF1 lF2) fun xs hx hp => by
    obtain ⟨b, u⟩ := xs
    have hp : List.length (α := Int) b ≤ 10000000000 := of_decide_eq_true hp
    have hm := padM_lt (List.length (α := Int) b + 1)
    have e1 : Vse.room (([] : List Int).length + List.length (α := Int) b) 1 = true := by simp only [Vse.room, decide_eq_true_eq, List.length_nil]; omega
    have e2 : Vse.room (([] ++ b : List Int).length + [(128 : Int)].length) 1 = true := by simp only [Vse.room, decide_eq_true_eq, List.nil_append, List.length_singleton]; omega
    have e3 : smallF (([] ++ b) ++ [128]) = true := by simp only [smallF, decide_eq_true_eq, List.nil_append, List.length_append, List.length_singleton]; omega
    have e4 : cF2 (padR (([] ++ b) ++ [128])) 72057594037927936 0 = true := by
      simp only [cF2, padR, List.nil_append, List.length_append, List.length_singleton, List.length_replicate, Bool.and_eq_true, decide_eq_true_eq, true_and]; omega
    have e5 : (T40 smallF padR cF2 tailF b).eval = some (.v bt (filledF b)) := by
      unfold T40 filledF
      rw [chk_eval e1, chk_eval e2, chk_eval e3, chk_eval e4, List.nil_append]
      rfl
    have e6 := (k40 smallF padR cF2 tailF b).trans e5
    exact e6

/-! block -/

abbrev CB : Ctx := ctx (cB rightF consts)
theorem cB_sound : CtxSound Try.prog CB ∧ CtxLocal CB := ctx_sound ⟨ok51, ok52, trivial⟩

def sch1 (b : List Int) : Nat → Nat → List Int → List Int
  | _, 0, v => v
  | i, m + 1, v => sch1 b (i + 1) m (v ++ [num4 b i])
def sch2 (r : Ri) : Nat → Nat → List Int → List Int
  | _, 0, v => v
  | i, m + 1, v => sch2 r (i + 1) m (v ++ [num2 r v i])
def cB1 (b v : List Int) (i : Int) : Bool := decide (i = 0) && (decide (v.length = 0) && decide (b.length = 64))
def FB1 (c : List Int → List Int → Int → Bool) (S : List Int → List Int) (xs : HL SB1.Ts) (hs : HD SB1.Es) : Tr (Ex × St) :=
  .chk (c xs.2.1 hs.1 xs.2.2.2.1) (.ret (.exit 0, encS [0, 5] [ns, .vc 0 0] [.vec 0 u32] 225 (xs.1, (), ()) (S xs.2.1, ())))
def cB2 (v : List Int) (i : Int) : Bool := decide (i = 16) && decide (v.length = 16)
def FB2 (c : List Int → Int → Bool) (S : List Int → List Int) (xs : HL SB2.Ts) (hs : HD SB2.Es) : Tr (Ex × St) :=
  .chk (c hs.1 xs.2.2.1) (.ret (.exit 2, encS [0, 5] [ns, .vc 0 1] [.vec 1 u32] 225 (xs.1, (), ()) (S hs.1, ())))
/-- a round -/
def roundR (r : Ri) (l : List Int) (k x : Int) : List Int :=
  let t := rT r (l.getD 4 0) (l.getD 5 0) (l.getD 6 0) (l.getD 7 0) k x
  [w3 (t + rU r (l.getD 0 0) (l.getD 1 0) (l.getD 2 0)), l.getD 0 0, l.getD 1 0, l.getD 2 0, w3 (l.getD 3 0 + t), l.getD 4 0, l.getD 5 0, l.getD 6 0]
def rndsR (r : Ri) (ks v : List Int) : Nat → Nat → List Int → List Int
  | _, 0, l => l
  | i, m + 1, l => rndsR r ks v (i + 1) m (roundR r l (ks.getD i 0) (v.getD i 0))
def cB3 (ks v l : List Int) (i : Int) : Bool := decide (i = 0) && (decide (ks.length = 64) && (decide (v.length = 64) && decide (l.length = 8)))
def FB3 (c : List Int → List Int → List Int → Int → Bool) (S : List Int → List Int → List Int → List Int) (xs : HL SB3.Ts) (hs : HD SB3.Es) : Tr (Ex × St) :=
  .chk (c xs.2.2.2.1 hs.1 hs.2.1 xs.2.2.2.2.1) (.ret (.exit 4, encS [0, 10] [ns, .vc 1 2] [.dead, .vec 2 u32, .dead] 225 (xs.1, (), ()) (S xs.2.2.2.1 hs.1 hs.2.1, ())))
def addR (s : List Int) : Nat → Nat → List Int → List Int
  | _, 0, l => l
  | i, m + 1, l => addR s (i + 1) m (l.set i (w3 (l.getD i 0 + s.getD i 0)))
def cB4 (s l : List Int) (i : Int) : Bool := decide (i = 0) && (decide (s.length = 8) && decide (l.length = 8))
def FB4 (c : List Int → List Int → Int → Bool) (S : List Int → List Int → List Int) (xs : HL SB4.Ts) (hs : HD SB4.Es) : Tr (Ex × St) :=
  .chk (c xs.1 hs.1 xs.2.2.1) (.ret (.exit 6, encS [10] [.vc 1 2] [.dead, .vec 2 u32, .dead] 225 ((), ()) (S xs.1 hs.1, ())))
def LB (c1 : List Int → List Int → Int → Bool) (S1 : List Int → List Int) (c2 : List Int → Int → Bool) (S2 : List Int → List Int) (c3 : List Int → List Int → List Int → Int → Bool) (S3 : List Int → List Int → List Int → List Int) (c4 : List Int → List Int → Int → Bool) (S4 : List Int → List Int → List Int) : Loops := fun j st =>
  if j = 3 then SB1.fn (FB1 c1 S1) st else if j = 7 then SB2.fn (FB2 c2 S2) st else if j = 15 then SB3.fn (FB3 c3 S3) st else if j = 23 then SB4.fn (FB4 c4 S4) st else .fail
def sch1F (b : List Int) : List Int := sch1 b 0 16 []
def sch2F (v : List Int) : List Int := sch2 rightF 16 48 v
def rndsF (ks v l : List Int) : List Int := rndsR rightF ks v 0 64 l
def addRF (s l : List Int) : List Int := addR s 0 8 l
abbrev LBF : Loops := LB cB1 sch1F cB2 sch2F cB3 rndsF cB4 addRF

theorem inArr_nat {k n : Nat} (h : k < n) : inArr (k : Int) n = true := by simp only [inArr, Bool.and_eq_true, decide_eq_true_eq]; omega
theorem room_small {n k : Nat} (h : n ≤ 1000000) (hk : k ≤ 4) : Vse.room n k = true := by
  simp only [Vse.room, decide_eq_true_eq]
  have : n * k ≤ 1000000 * 4 := Nat.mul_le_mul h hk
  omega

theorem mB1 (s b : List Int) (hb : b.length = 64) : ∀ (m i : Nat) (v : List Int), i + m = 16 → v.length = i →
    SB1.many (bodyK Try.prog CB L0 bB1) (m + 1) (s, b, (), (i : Int), ()) (v, ()) = some (.exit 0, encS [0, 5] [ns, .vc 0 0] [.vec 0 u32] 225 (s, (), ()) (sch1 b i m v, ()))
  | 0, i, v, h, hv => by
    refine rmany_inr ((rB1 rightF consts s b v i).trans ?_) 0
    simp only [GB1, Tr.eval, decide_eq_false (show ¬ ((i : Int) < 16) by omega)]
    rfl
  | m + 1, i, v, h, hv => by
    refine (rmany_inl (d := ((s, b, (), ((i + 1 : Nat) : Int), ()), (v ++ [num4 b i], ()))) ((rB1 rightF consts s b v i).trans ?_) (m + 1)).trans (mB1 s b hb m (i + 1) _ (by omega) (by simp [hv]))
    have w0 : w ((i : Int) + 1) = ((i + 1 : Nat) : Int) := (w_id (by omega) (by omega)).trans (by omega)
    have w1 : w (4 * (i : Int)) = ((4 * i : Nat) : Int) := (w_id (by omega) (by omega)).trans (by omega)
    have w2 : w (((4 * i : Nat) : Int) + 1) = ((4 * i + 1 : Nat) : Int) := (w_id (by omega) (by omega)).trans (by omega)
    have w3' : w (((4 * i : Nat) : Int) + 2) = ((4 * i + 2 : Nat) : Int) := (w_id (by omega) (by omega)).trans (by omega)
    have w4 : w (((4 * i : Nat) : Int) + 3) = ((4 * i + 3 : Nat) : Int) := (w_id (by omega) (by omega)).trans (by omega)
    have hr : Vse.room (v.length + [(0 : Int)].length) 4 = true := room_small (by simp only [List.length_singleton]; omega) (by omega)
    simp only [GB1, Tr.eval, Tr.chk, decide_eq_true (show ((i : Int) < 16) by omega), w0, w1, w2, w3', w4, inArr_nat (k := 4 * i) (n := b.length) (by omega), inArr_nat (k := 4 * i + 1) (n := b.length) (by omega), inArr_nat (k := 4 * i + 2) (n := b.length) (by omega), inArr_nat (k := 4 * i + 3) (n := b.length) (by omega), hr]

theorem lB1 : LoopOK Try.prog LBF bB1 :=
  rloop_ok (L := LBF) (L' := L0) cB_sound (loopsOK_of (by kernel_rfl)) SB1 (F := FB1 cB1 sch1F) (i := 3) (by kernel_rfl) (fun _ => rfl) fun xs hs r h => by
    obtain ⟨s, b, u1, i, u2⟩ := xs
    obtain ⟨v, u3⟩ := hs
    obtain ⟨h1, h2⟩ := Tr.chk_some h
    simp only [cB1, Bool.and_eq_true, decide_eq_true_eq] at h1
    obtain ⟨e1, e2, e3⟩ := h1
    have e1 : i = ((0 : Nat) : Int) := e1
    have e2 : v = [] := List.eq_nil_of_length_eq_zero e2
    subst e1; subst e2
    exact ⟨_, (mB1 s b e3 16 0 [] (by omega) rfl).trans (congrArg some (Tr.ret_some h2))⟩

theorem mB2 (s : List Int) : ∀ (m i : Nat) (v : List Int), i + m = 64 → v.length = i → 16 ≤ i →
    SB2.many (bodyK Try.prog CB L0 bB2) (m + 1) (s, (), (i : Int), ()) (v, ()) = some (.exit 2, encS [0, 5] [ns, .vc 0 1] [.vec 1 u32] 225 (s, (), ()) (sch2 rightF i m v, ()))
  | 0, i, v, h, hv, h16 => by
    refine rmany_inr ((rB2 rightF consts s v i).trans ?_) 0
    simp only [GB2, Tr.eval, decide_eq_false (show ¬ ((i : Int) < 64) by omega)]
    rfl
  | m + 1, i, v, h, hv, h16 => by
    refine (rmany_inl (d := ((s, (), ((i + 1 : Nat) : Int), ()), (v ++ [num2 rightF v i], ()))) ((rB2 rightF consts s v i).trans ?_) (m + 1)).trans (mB2 s m (i + 1) _ (by omega) (by simp [hv]) (by omega))
    have w0 : w ((i : Int) + 1) = ((i + 1 : Nat) : Int) := (w_id (by omega) (by omega)).trans (by omega)
    have j1 : w ((i : Int) - 15) = ((i - 15 : Nat) : Int) := (w_id (by omega) (by omega)).trans (by omega)
    have j2 : w ((i : Int) - 2) = ((i - 2 : Nat) : Int) := (w_id (by omega) (by omega)).trans (by omega)
    have j3 : w ((i : Int) - 16) = ((i - 16 : Nat) : Int) := (w_id (by omega) (by omega)).trans (by omega)
    have j4 : w ((i : Int) - 7) = ((i - 7 : Nat) : Int) := (w_id (by omega) (by omega)).trans (by omega)
    have hr : Vse.room (v.length + [(0 : Int)].length) 4 = true := room_small (by simp only [List.length_singleton]; omega) (by omega)
    simp only [GB2, Tr.eval, Tr.chk, decide_eq_true (show ((i : Int) < 64) by omega), w0, j1, j2, j3, j4, inArr_nat (k := i - 15) (n := v.length) (by omega), inArr_nat (k := i - 2) (n := v.length) (by omega), inArr_nat (k := i - 16) (n := v.length) (by omega), inArr_nat (k := i - 7) (n := v.length) (by omega), hr]

theorem lB2 : LoopOK Try.prog LBF bB2 :=
  rloop_ok (L := LBF) (L' := L0) cB_sound (loopsOK_of (by kernel_rfl)) SB2 (F := FB2 cB2 sch2F) (i := 7) (by kernel_rfl) (fun _ => rfl) fun xs hs r h => by
    obtain ⟨s, u1, i, u2⟩ := xs
    obtain ⟨v, u3⟩ := hs
    obtain ⟨h1, h2⟩ := Tr.chk_some h
    simp only [cB2, Bool.and_eq_true, decide_eq_true_eq] at h1
    obtain ⟨e1, e2⟩ := h1
    have e1 : i = ((16 : Nat) : Int) := e1
    subst e1
    exact ⟨_, (mB2 s 48 16 v (by omega) e2 (by omega)).trans (congrArg some (Tr.ret_some h2))⟩

theorem eight {l : List Int} (h : l.length = 8) : ∃ l0 l1 l2 l3 l4 l5 l6 l7, l = [l0, l1, l2, l3, l4, l5, l6, l7] := by
  match l, h with
  | [l0, l1, l2, l3, l4, l5, l6, l7], _ => exact ⟨_, _, _, _, _, _, _, _, rfl⟩

theorem mB3 (s ks v : List Int) (hk : ks.length = 64) (hv : v.length = 64) : ∀ (m i : Nat) (l : List Int), i + m = 64 → l.length = 8 →
    SB3.many (bodyK Try.prog CB L0 bB3) (m + 1) (s, (), (), ks, (i : Int), ()) (v, l, ()) = some (.exit 4, encS [0, 10] [ns, .vc 1 2] [.dead, .vec 2 u32, .dead] 225 (s, (), ()) (rndsR rightF ks v i m l, ()))
  | 0, i, l, h, hl => by
    obtain ⟨l0, l1, l2, l3, l4, l5, l6, l7, rfl⟩ := eight hl
    refine rmany_inr ((rB3 rightF consts s ks v i l0 l1 l2 l3 l4 l5 l6 l7).trans ?_) 0
    simp only [GB3, Tr.eval, decide_eq_false (show ¬ ((i : Int) < 64) by omega)]
    rfl
  | m + 1, i, l, h, hl => by
    obtain ⟨l0, l1, l2, l3, l4, l5, l6, l7, rfl⟩ := eight hl
    refine (rmany_inl (d := ((s, (), (), ks, ((i + 1 : Nat) : Int), ()), (v, roundR rightF [l0, l1, l2, l3, l4, l5, l6, l7] (ks.getD i 0) (v.getD i 0), ()))) ((rB3 rightF consts s ks v i l0 l1 l2 l3 l4 l5 l6 l7).trans ?_) (m + 1)).trans (mB3 s ks v hk hv m (i + 1) _ (by omega) rfl)
    have w0 : w ((i : Int) + 1) = ((i + 1 : Nat) : Int) := (w_id (by omega) (by omega)).trans (by omega)
    simp only [GB3, Tr.eval, Tr.chk, decide_eq_true (show ((i : Int) < 64) by omega), w0, inArr_nat (k := i) (n := ks.length) (by omega), inArr_nat (k := i) (n := v.length) (by omega), Int.toNat_natCast]
    rfl

theorem lB3 : LoopOK Try.prog LBF bB3 :=
  rloop_ok (L := LBF) (L' := L0) cB_sound (loopsOK_of (by kernel_rfl)) SB3 (F := FB3 cB3 rndsF) (i := 15) (by kernel_rfl) (fun _ => rfl) fun xs hs r h => by
    obtain ⟨s, u1, u2, ks, i, u3⟩ := xs
    obtain ⟨v, l, u4⟩ := hs
    obtain ⟨h1, h2⟩ := Tr.chk_some h
    simp only [cB3, Bool.and_eq_true, decide_eq_true_eq] at h1
    obtain ⟨e1, e2, e3, e4⟩ := h1
    have e1 : i = ((0 : Nat) : Int) := e1
    subst e1
    exact ⟨_, (mB3 s ks v e2 e3 64 0 l (by omega) e4).trans (congrArg some (Tr.ret_some h2))⟩

theorem mB4 (s : List Int) (hs : s.length = 8) : ∀ (m i : Nat) (l : List Int), i + m = 8 → l.length = 8 →
    SB4.many (bodyK Try.prog CB L0 bB4) (m + 1) (s, (), (i : Int), ()) (l, ()) = some (.exit 6, encS [10] [.vc 1 2] [.dead, .vec 2 u32, .dead] 225 ((), ()) (addR s i m l, ()))
  | 0, i, l, h, hl => by
    refine rmany_inr ((rB4 rightF consts s l i).trans ?_) 0
    simp only [GB4, Tr.eval, decide_eq_false (show ¬ ((i : Int) < 8) by omega)]
    rfl
  | m + 1, i, l, h, hl => by
    refine (rmany_inl (d := ((s, (), ((i + 1 : Nat) : Int), ()), (l.set i (w3 (l.getD i 0 + s.getD i 0)), ()))) ((rB4 rightF consts s l i).trans ?_) (m + 1)).trans (mB4 s hs m (i + 1) _ (by omega) (by simp [hl]))
    have w0 : w ((i : Int) + 1) = ((i + 1 : Nat) : Int) := (w_id (by omega) (by omega)).trans (by omega)
    simp only [GB4, Tr.eval, Tr.chk, decide_eq_true (show ((i : Int) < 8) by omega), w0, inArr_nat (k := i) (n := s.length) (by omega), inArr_nat (k := i) (n := l.length) (by omega), Int.toNat_natCast]

theorem lB4 : LoopOK Try.prog LBF bB4 :=
  rloop_ok (L := LBF) (L' := L0) cB_sound (loopsOK_of (by kernel_rfl)) SB4 (F := FB4 cB4 addRF) (i := 23) (by kernel_rfl) (fun _ => rfl) fun xs hs r h => by
    obtain ⟨s, u1, i, u3⟩ := xs
    obtain ⟨l, u4⟩ := hs
    obtain ⟨h1, h2⟩ := Tr.chk_some h
    simp only [cB4, Bool.and_eq_true, decide_eq_true_eq] at h1
    obtain ⟨e1, e2, e3⟩ := h1
    have e1 : i = ((0 : Nat) : Int) := e1
    subst e1
    exact ⟨_, (mB4 s e2 8 0 l (by omega) e3).trans (congrArg some (Tr.ret_some h2))⟩

/-- a state behind a block -/
def blockF (s b : List Int) : List Int := addRF s (rndsF consts (sch2F (sch1F b)) s)
def T41 (ks : List Int) (c1 : List Int → List Int → Int → Bool) (S1 : List Int → List Int) (c2 : List Int → Int → Bool) (S2 : List Int → List Int) (c3 : List Int → List Int → List Int → Int → Bool) (S3 : List Int → List Int → List Int → List Int) (c4 : List Int → List Int → Int → Bool) (S4 : List Int → List Int → List Int) (s b : List Int) : Tr AV :=
  .chk (c1 b [] 0) (.chk (c2 (S1 b) 16) (.chk (Vse.room (([] : List Int).length + s.length) 4) (.chk (c3 ks (S2 (S1 b)) ([] ++ s) 0) (.chk (c4 s (S3 ks (S2 (S1 b)) ([] ++ s)) 0) (.ret (.v nt (S4 s (S3 ks (S2 (S1 b)) ([] ++ s)))))))))
theorem k41 (r : Ri) (ks : List Int) (c1 : List Int → List Int → Int → Bool) (S1 : List Int → List Int) (c2 : List Int → Int → Bool) (S2 : List Int → List Int) (c3 : List Int → List Int → List Int → Int → Bool) (S3 : List Int → List Int → List Int → List Int) (c4 : List Int → List Int → Int → Bool) (S4 : List Int → List Int → List Int) (s b : List Int) :
    nrm (fnS Try.prog (ctx (cB r ks)) (LB c1 S1 c2 S2 c3 S3 c4 S4) [nt] Try.f132 (mkArgs [ns, bs] (s, b, ()))) = (T41 ks c1 S1 c2 S2 c3 S3 c4 S4 s b).eval := by kernel_rfl

theorem sch1_len (b : List Int) : ∀ (m i : Nat) (v : List Int), (sch1 b i m v).length = v.length + m
  | 0, i, v => rfl
  | m + 1, i, v => by rw [sch1, sch1_len b m]; simp; omega
theorem sch2_len (r : Ri) : ∀ (m i : Nat) (v : List Int), (sch2 r i m v).length = v.length + m
  | 0, i, v => rfl
  | m + 1, i, v => by rw [sch2, sch2_len r m]; simp; omega
theorem rndsR_len (r : Ri) (ks v : List Int) : ∀ (m i : Nat) (l : List Int), l.length = 8 → (rndsR r ks v i m l).length = 8
  | 0, i, l, h => h
  | m + 1, i, l, h => by rw [rndsR]; exact rndsR_len r ks v m _ _ rfl
theorem addR_len (s : List Int) : ∀ (m i : Nat) (l : List Int), (addR s i m l).length = l.length
  | 0, i, l => rfl
  | m + 1, i, l => by rw [addR, addR_len s m]; simp

def s41 : CSpec := .slp1 [ns, bs] (fun x => decide (List.length (α := Int) x.1 = 8) && decide (List.length (α := Int) x.2.1 = 64)) nt fun x => blockF x.1 x.2.1
theorem ok41 : CSound Try.prog 132 s41 ∧ CLocal s41 :=
  slpE1 (L := LBF) cB_sound Try.func132 (by kernel_rfl) (fun b hb => by
    have : loopsOf (bodyOf Try.f132) = [bB1, bB2, bB3, bB4] := by kernel_rfl
    rw [this] at hb
    simp only [List.mem_cons, List.not_mem_nil, or_false] at hb
    rcases hb with rfl | rfl | rfl | rfl
    · exact lB1
    · exact lB2
    · exact lB3
    · exact lB4) fun xs hx hp => by
    obtain ⟨s, b, u⟩ := xs
    have hp : (decide (List.length (α := Int) s = 8) && decide (List.length (α := Int) b = 64)) = true := hp
    simp only [Bool.and_eq_true, decide_eq_true_eq] at hp
    obtain ⟨h8, h64⟩ := hp
    have l1 : (sch1F b).length = 16 := sch1_len b 16 0 []
    have l2 : (sch2F (sch1F b)).length = 64 := (sch2_len rightF 48 16 _).trans (by rw [l1])
    have l3 : (rndsF consts (sch2F (sch1F b)) s).length = 8 := rndsR_len rightF consts _ 64 0 s h8
    have e1 : cB1 b [] 0 = true := by simp only [cB1, h64]; rfl
    have e2 : cB2 (sch1F b) 16 = true := by simp only [cB2, l1]; rfl
    have e3 : Vse.room (([] : List Int).length + List.length (α := Int) s) 4 = true := by rw [h8]; rfl
    have lc : consts.length = 64 := rfl
    have e4 : cB3 consts (sch2F (sch1F b)) ([] ++ s) 0 = true := by simp only [cB3, List.nil_append, l2, h8, lc]; rfl
    have e5 : cB4 s (rndsF consts (sch2F (sch1F b)) ([] ++ s)) 0 = true := by simp only [cB4, List.nil_append, l3, h8]; rfl
    have e6 : (T41 consts cB1 sch1F cB2 sch2F cB3 rndsF cB4 addRF s b).eval = some (.v nt (blockF s b)) := by
      unfold T41 blockF
      rw [chk_eval e1, chk_eval e2, chk_eval e3, chk_eval e4, chk_eval e5, List.nil_append, Tr.eval]
    have e7 := (k41 rightF consts cB1 sch1F cB2 sch2F cB3 rndsF cB4 addRF s b).trans e6
    exact e7

end Go.Proofs.Ytffdkniccaebmaa.Sha

end
section
/- The laws of layer 1 (sha): walks. -/
set_option linter.unusedVariables false
set_option maxRecDepth 100000
namespace Go.Proofs.Ytffdkniccaebmaa.Sha
open Go Vse Go.Proofs Gen

/-! the document's digest -/

abbrev CD : Ctx := ctx (cD filledF filledP blockF)
theorem cD_sound : CtxSound Try.prog CD ∧ CtxLocal CD := ctx_sound ⟨ok40, ok41, trivial⟩

theorem addR_len8 {s l : List Int} (h : l.length = 8) : (addRF s l).length = 8 := (addR_len s 8 0 l).trans h
theorem blockF_len {s : List Int} (b : List Int) (h : s.length = 8) : (blockF s b).length = 8 := addR_len8 (rndsR_len rightF consts _ 64 0 s h)

def blocksF : Nat → List Int → List Int → List Int
  | 0, s, a => s
  | n + 1, s, a => blocksF n (blockF s (a.take 64)) (a.drop 64)
theorem blocksF_len : ∀ (n : Nat) (s a : List Int), s.length = 8 → (blocksF n s a).length = 8
  | 0, s, a, h => h
  | n + 1, s, a, h => blocksF_len n _ _ (blockF_len _ h)
def blkF (s a : List Int) : List Int := blocksF (a.length / 64) s a
def cD1 (s a : List Int) (i : Int) : Bool := decide (i = 0) && (decide (s.length = 8) && (decide (a.length % 64 = 0) && decide (a.length ≤ 1000000000000)))
def FD1 (c : List Int → List Int → Int → Bool) (S : List Int → List Int → List Int) (xs : HL SD1.Ts) (hs : HD SD1.Es) : Tr (Ex × St) :=
  .chk (c xs.2.1 xs.2.2.1 xs.2.2.2.1) (.ret (.exit 0, encS [2, 3] [.ptr 0 [], nt] [.box d32, .dead] 71 ((), S xs.2.1 xs.2.2.1, ()) (hs.1, ())))
def put8L (s : List Int) : Nat → Nat → List Int → List Int
  | _, 0, q => q
  | i, m + 1, q => put8L s (i + 1) m (put8 s q i)
def put8F (s q : List Int) : List Int := put8L s 0 8 q
def cD2 (s : List Int) (i : Int) : Bool := decide (i = 0) && decide (s.length = 8)
def FD2 (c : List Int → Int → Bool) (S : List Int → List Int → List Int) (xs : HL SD2.Ts) (hs : HD SD2.Es) : Tr (Ex × St) :=
  .chk (c xs.2.1 xs.2.2.2.1) (.ret (.exit 2, encS [2, 6] [.ptr 0 [], .ptr 2 []] [.box d32, .dead, .box d32] 71 ((), (), ()) (hs.1, S xs.2.1 hs.2.1, ())))
def LD (c1 : List Int → List Int → Int → Bool) (S1 : List Int → List Int → List Int) (c2 : List Int → Int → Bool) (S2 : List Int → List Int → List Int) : Loops := fun j st => if j = 4 then SD1.fn (FD1 c1 S1) st else if j = 9 then SD2.fn (FD2 c2 S2) st else .fail
abbrev LDF : Loops := LD cD1 blkF cD2 put8F

theorem mD1 (a o : List Int) (ha : a.length ≤ 1000000000000) : ∀ (m k : Nat) (s : List Int), 64 * k + 64 * m = a.length → s.length = 8 →
    SD1.many (bodyK Try.prog CD L0 bD1) (m + 1) ((), s, a, ((64 * k : Nat) : Int), ()) (o, ()) = some (.exit 0, encS [2, 3] [.ptr 0 [], nt] [.box d32, .dead] 71 ((), blocksF m s (a.drop (64 * k)), ()) (o, ()))
  | 0, k, s, h, hs => by
    refine rmany_inr ((rD1 filledF filledP blockF s a o _).trans ?_) 0
    simp only [GD1, Tr.eval, decide_eq_false (show ¬ (((64 * k : Nat) : Int) < (a.length : Int)) by omega)]
    rfl
  | m + 1, k, s, h, hs => by
    have w0 : w (((64 * k : Nat) : Int) + 64) = ((64 * (k + 1) : Nat) : Int) := (w_id (by omega) (by omega)).trans (by omega)
    have hq : (a.take (64 * (k + 1))).drop (64 * k) = (a.drop (64 * k)).take 64 := by
      rw [List.drop_take]; congr 1; omega
    have hql : ((a.drop (64 * k)).take 64).length = 64 := by rw [List.length_take, List.length_drop]; omega
    refine (rmany_inl (d := (((), blockF s ((a.drop (64 * k)).take 64), a, ((64 * (k + 1) : Nat) : Int), ()), (o, ()))) ((rD1 filledF filledP blockF s a o _).trans ?_) (m + 1)).trans ((mD1 a o ha m (k + 1) _ (by omega) (blockF_len _ hs)).trans ?_)
    · have e1 : (decide (0 ≤ ((64 * k : Nat) : Int)) && (decide (((64 * k : Nat) : Int) ≤ ((64 * (k + 1) : Nat) : Int)) && decide (((64 * (k + 1) : Nat) : Int) ≤ (a.length : Int)))) = true := by
        simp only [Bool.and_eq_true, decide_eq_true_eq]; omega
      have e2 : (decide (s.length = 8) && decide (((a.drop (64 * k)).take 64).length = 64)) = true := by rw [hs, hql]; rfl
      simp only [GD1, Tr.eval, Tr.chk, decide_eq_true (show (((64 * k : Nat) : Int) < (a.length : Int)) by omega), w0, Int.toNat_natCast, hq, e1, e2]
    · rw [blocksF, List.drop_drop]
      rfl

theorem lD1 : LoopOK Try.prog LDF bD1 :=
  rloop_ok (L := LDF) (L' := L0) cD_sound (loopsOK_of (by kernel_rfl)) SD1 (F := FD1 cD1 blkF) (i := 4) (by kernel_rfl) (fun _ => rfl) fun xs hs r h => by
    obtain ⟨u1, s, a, i, u2⟩ := xs
    obtain ⟨o, u3⟩ := hs
    obtain ⟨h1, h2⟩ := Tr.chk_some h
    simp only [cD1, Bool.and_eq_true, decide_eq_true_eq] at h1
    obtain ⟨e1, e2, e3, e4⟩ := h1
    have e1 : i = ((64 * 0 : Nat) : Int) := e1
    subst e1
    exact ⟨_, (mD1 a o e4 (List.length (α := Int) a / 64) 0 s (by omega) e2).trans (congrArg some (Tr.ret_some h2))⟩

theorem mD2 (s o : List Int) (hs : s.length = 8) : ∀ (m i : Nat) (q : List Int), i + m = 8 →
    SD2.many (bodyK Try.prog CD L0 bD2) (m + 1) ((), s, (), (i : Int), ()) (o, q, ()) = some (.exit 2, encS [2, 6] [.ptr 0 [], .ptr 2 []] [.box d32, .dead, .box d32] 71 ((), (), ()) (o, put8L s i m q, ()))
  | 0, i, q, h => by
    refine rmany_inr ((rD2 filledF filledP blockF s o q i).trans ?_) 0
    simp only [GD2, Tr.eval, decide_eq_false (show ¬ ((i : Int) < 8) by omega)]
    rfl
  | m + 1, i, q, h => by
    refine (rmany_inl (d := (((), s, (), ((i + 1 : Nat) : Int), ()), (o, put8 s q i, ()))) ((rD2 filledF filledP blockF s o q i).trans ?_) (m + 1)).trans (mD2 s o hs m (i + 1) _ (by omega))
    have w0 : w ((i : Int) + 1) = ((i + 1 : Nat) : Int) := (w_id (by omega) (by omega)).trans (by omega)
    have w1 : w (4 * (i : Int)) = ((4 * i : Nat) : Int) := (w_id (by omega) (by omega)).trans (by omega)
    have w2 : w (((4 * i : Nat) : Int) + 1) = ((4 * i + 1 : Nat) : Int) := (w_id (by omega) (by omega)).trans (by omega)
    have w3' : w (((4 * i : Nat) : Int) + 2) = ((4 * i + 2 : Nat) : Int) := (w_id (by omega) (by omega)).trans (by omega)
    have w4 : w (((4 * i : Nat) : Int) + 3) = ((4 * i + 3 : Nat) : Int) := (w_id (by omega) (by omega)).trans (by omega)
    have ok : ∀ k : Nat, k < 32 → inArrK .i64 (k : Int) 32 = true := fun k hk => inArrK64 (by omega) (by omega) (by omega)
    simp only [GD2, Tr.eval, Tr.chk, decide_eq_true (show ((i : Int) < 8) by omega), w0, w1, w2, w3', w4, inArr_nat (k := i) (n := s.length) (by omega), ok (4 * i) (by omega), ok (4 * i + 1) (by omega), ok (4 * i + 2) (by omega), ok (4 * i + 3) (by omega)]

theorem lD2 : LoopOK Try.prog LDF bD2 :=
  rloop_ok (L := LDF) (L' := L0) cD_sound (loopsOK_of (by kernel_rfl)) SD2 (F := FD2 cD2 put8F) (i := 9) (by kernel_rfl) (fun _ => rfl) fun xs hs r h => by
    obtain ⟨u1, s, u2, i, u3⟩ := xs
    obtain ⟨o, q, u4⟩ := hs
    obtain ⟨h1, h2⟩ := Tr.chk_some h
    simp only [cD2, Bool.and_eq_true, decide_eq_true_eq] at h1
    obtain ⟨e1, e2⟩ := h1
    have e1 : i = ((0 : Nat) : Int) := e1
    subst e1
    exact ⟨_, (mD2 s o e2 8 0 q (by omega)).trans (congrArg some (Tr.ret_some h2))⟩

def rsumF (b : List Int) : List Int := put8F (blkF init (filledF b)) zeros32
def T17 (f : List Int → List Int) (p : List Int → Bool) (c1 : List Int → List Int → Int → Bool) (S1 : List Int → List Int → List Int) (c2 : List Int → Int → Bool) (S2 : List Int → List Int → List Int) (b : List Int) : Tr AV :=
  .chk (p b) (.chk (c1 init (f b) 0) (.chk (c2 (S1 init (f b)) 0) (.ret (.v d32 (S2 (S1 init (f b)) zeros32)))))
theorem k17 (f : List Int → List Int) (p : List Int → Bool) (k : Bk) (c1 : List Int → List Int → Int → Bool) (S1 : List Int → List Int → List Int) (c2 : List Int → Int → Bool) (S2 : List Int → List Int → List Int) (b : List Int) :
    nrm (fnS Try.prog (ctx (cD f p k)) (LD c1 S1 c2 S2) [d32] Try.f129 (mkArgs [bs] (b, ()))) = (T17 f p c1 S1 c2 S2 b).eval := by kernel_rfl
def s17 : CSpec := .slp1 [bs] (fun x => filledP x.1) d32 fun x => rsumF x.1

theorem tailR_len (n : Int) : ∀ m, (tailR n m).length = m
  | 0 => rfl
  | m + 1 => by rw [tailR, List.length_cons, tailR_len n m]
theorem filledF_len (b : List Int) : (filledF b).length = b.length + 1 + padM (b.length + 1) + 8 := by
  unfold filledF padR tailF
  simp only [List.length_append, List.length_replicate, List.length_singleton, tailR_len]

theorem ok17 : CSound Try.prog 129 s17 ∧ CLocal s17 :=
  slpE1 (L := LDF) cD_sound Try.func129 (by kernel_rfl) (loops2 (by kernel_rfl) lD1 lD2) fun xs hx hp => by
    obtain ⟨b, u⟩ := xs
    have hp : filledP b = true := hp
    have hb : List.length (α := Int) b ≤ 10000000000 := of_decide_eq_true hp
    have hl := filledF_len b
    have hm := padM_lt (List.length (α := Int) b + 1)
    have li : init.length = 8 := rfl
    have e1 : cD1 init (filledF b) 0 = true := by
      simp only [cD1, li, Bool.and_eq_true, decide_eq_true_eq, true_and]
      rw [hl]
      unfold padM at hm ⊢
      omega
    have e2 : cD2 (blkF init (filledF b)) 0 = true := by
      have : (blkF init (filledF b)).length = 8 := blocksF_len _ _ _ rfl
      simp only [cD2, this]; rfl
    have e3 : (T17 filledF filledP cD1 blkF cD2 put8F b).eval = some (.v d32 (rsumF b)) := by
      unfold T17 rsumF
      rw [chk_eval hp, chk_eval e1, chk_eval e2, Tr.eval]
    exact (k17 filledF filledP blockF cD1 blkF cD2 put8F b).trans e3

/-! the law's own trial -/

def s15 : CSpec := .slp1 [] (fun _ => true) .bool fun _ => true
def cA : List (Nat × CSpec) := [(111, s16), (124, s19)]
theorem cA_sound : CtxSound Try.prog (ctx cA) ∧ CtxLocal (ctx cA) := ctx_sound ⟨ok16, ok19, trivial⟩
end Go.Proofs.Ytffdkniccaebmaa.Sha

end

/- A block mixed in (layer 1, sha): all rounds. -/
import Derived.Test.YtlkddajnebjlcaaH1
set_option linter.unusedVariables false
set_option maxRecDepth 100000
namespace Go.Proofs.Ytlkddajnebjlcaa.Sha
open Go Vse Go.Proofs Gen

def cM2 (k : Int) (q : List Int) (n j : Int) : Bool := decide (j = 0) && (decide (n = 4) && (decide (q.length = 4) && inArrK .i64 k 64))
def put4 (v : List Int) (k : Int) (q : List Int) : List Int := q.foldl (fun v c => put1 v k c) v
def FM2 (c : Int → List Int → Int → Int → Bool) (p : List Int → Int → List Int → List Int) (xs : HL SM2.Ts) (hs : HD SM2.Es) : Tr (Ex × St) :=
  .chk (c xs.2.2.2.2.1 xs.2.2.2.2.2.2.1 xs.2.2.2.2.2.2.2.1 xs.2.2.2.2.2.2.2.2.1)
    (.ret (.exit 2, encS [1, 2, 4, 5, 20] [bs, .ptr 0 [], .ptr 1 [], .ptr 2 [], i64] eM 157 (xs.1, (), (), (), xs.2.2.2.2.2.1, ()) (hs.1, hs.2.1, p hs.2.2.1 xs.2.2.2.2.1 xs.2.2.2.2.2.2.1, ())))

/-! sixty-four numbers -/

def SM1 : RSpec := ⟨[1, 2, 4, 5, 20], 157, [bs, .ptr 0 [], .ptr 1 [], .ptr 2 [], i64], eM, eM, [], fun _ => ([2, 4, 5], [.ptr 0 [], .ptr 1 [], .ptr 2 []], eM)⟩
def LM2 (c : Int → List Int → Int → Int → Bool) (p : List Int → Int → List Int → List Int) : Loops := fun j st => if j = 7 then SM2.fn (FM2 c p) st else .fail
/-- a number made of four that were -/
def step2 (t : Tu) (v : List Int) (i : Int) : List Int :=
  v.set i.toNat (w3 (w3 (w3 (v.getD (w (i - 16)).toNat 0 + v.getD (w (i - 7)).toNat 0) + t (v.getD (w (i - 15)).toNat 0) 7 18 (shrI .u32 (v.getD (w (i - 15)).toNat 0) 3)) + t (v.getD (w (i - 2)).toNat 0) 17 19 (shrI .u32 (v.getD (w (i - 2)).toNat 0) 10)))
def GM1 (c : Int → List Int → Int → Int → Bool) (p : List Int → Int → List Int → List Int) (t : Tu) (b : List Int) (i : Int) (s r v : List Int) : Tr SM1.End :=
  let lo := w (4 * i)
  let hi := w (w (4 * i) + 4)
  let q := (b.take hi.toNat).drop lo.toNat
  .ite (decide (i < 64)) (.ite (decide (i < 16))
      (.chk (decide (0 ≤ lo) && (decide (lo ≤ hi) && decide (hi ≤ (b.length : Int)))) (.chk (c i q (q.length : Int) 0) (.ret (.inl ((b, (), (), (), w (i + 1), ()), (s, r, p v i q, ()))))))
      (.chk (inArrK .i64 (w (i - 15)) 64) (.chk (inArrK .i64 (w (i - 2)) 64) (.chk (inArrK .i64 (w (i - 16)) 64) (.chk (inArrK .i64 (w (i - 7)) 64) (.chk (inArrK .i64 i 64)
        (.ret (.inl ((b, (), (), (), w (i + 1), ()), (s, r, step2 t v i, ()))))))))))
    (.ret (.inr (.exit 0, encS [2, 4, 5] [.ptr 0 [], .ptr 1 [], .ptr 2 []] eM 157 ((), (), (), ()) (s, r, v, ()))))
theorem rM1 (r0 : Int → Int → Int) (t : Tu) (ks : List Int) (c : Int → List Int → Int → Int → Bool) (p : List Int → Int → List Int → List Int) (b : List Int) (i : Int) (s r v : List Int) :
    (SM1.round (bodyK Try.prog (ctx (cM r0 t ks)) (LM2 c p) bM1) (b, (), (), (), i, ()) (s, r, v, ())).eval = (GM1 c p t b i s r v).eval := by kernel_rfl

/-! sixty-four rounds -/

abbrev eM3 : List ETy := [.box a8, .box a8, .box a64, .box a8]
def SM3 : RSpec := ⟨[2, 4, 5, 11, 78, 79], 157, [.ptr 0 [], .ptr 1 [], .ptr 2 [], .ptr 3 [], a64, i64], eM3, eM3, [], fun _ => ([2, 4, 11], [.ptr 0 [], .ptr 1 [], .ptr 3 []], [.box a8, .box a8, .dead, .box a8])⟩
def shift7 (l : List Int) : List Int := l.take 1 ++ (overL ((l.drop 1).take 7) ((l.drop 0).take 7) ++ l.drop (1 + 7))
def tF (r : Int → Int → Int) (t : Tu) (l : List Int) (k x : Int) : Int :=
  let e := l.getD 4 0
  w3 (w3 (w3 (w3 (l.getD 7 0 + t e 6 11 (r e (-25))) + xorI .u32 (andI .u32 e (l.getD 5 0)) (andI .u32 (xorI .u32 4294967295 e) (l.getD 6 0))) + k) + x)
def uF (r : Int → Int → Int) (t : Tu) (l : List Int) : Int :=
  let a := l.getD 0 0
  w3 (t a 2 13 (r a (-22)) + xorI .u32 (xorI .u32 (andI .u32 a (l.getD 1 0)) (andI .u32 a (l.getD 2 0))) (andI .u32 (l.getD 1 0) (l.getD 2 0)))
/-- a round -/
def round1 (r : Int → Int → Int) (t : Tu) (l : List Int) (k x : Int) : List Int :=
  ((shift7 l).set 0 (w3 (tF r t l k x + uF r t l))).set 4 (w3 ((shift7 l).getD 4 0 + tF r t l k x))
def GM3 (r0 : Int → Int → Int) (t : Tu) (ks : List Int) (i : Int) (s r v l : List Int) : Tr SM3.End :=
  .ite (decide (i < 64)) (.chk (inArrK .i64 i 64) (.chk (inArrK .i64 i 64) (.ret (.inl (((), (), (), (), ks, w (i + 1), ()), (s, r, v, round1 r0 t l (ks.getD i.toNat 0) (v.getD i.toNat 0), ()))))))
    (.ret (.inr (.exit 4, encS [2, 4, 11] [.ptr 0 [], .ptr 1 [], .ptr 3 []] [.box a8, .box a8, .dead, .box a8] 157 ((), (), (), ()) (s, r, l, ()))))
theorem rM3 (r0 : Int → Int → Int) (t : Tu) (ks0 ks : List Int) (i : Int) (s r v l : List Int) :
    (SM3.round (bodyK Try.prog (ctx (cM r0 t ks0)) L0 bM3) ((), (), (), (), ks, i, ()) (s, r, v, l, ())).eval = (GM3 r0 t ks i s r v l).eval := by kernel_rfl

/-! added -/

def SM4 : RSpec := ⟨[2, 4, 144, 145], 157, [.ptr 0 [], .ptr 1 [], a8, i64], [.box a8, .box a8, .dead, .dead], [.box a8, .box a8, .dead, .box a8], [], fun _ => ([2, 4], [.ptr 0 [], .ptr 1 []], [.box a8, .box a8, .dead, .dead])⟩
def GM4 (l : List Int) (i : Int) (s r : List Int) : Tr SM4.End :=
  .ite (decide (i < 8)) (.chk (inArrK .i64 i 8) (.chk (inArrK .i64 i 8) (.chk (inArrK .i64 i 8) (.ret (.inl (((), (), l, w (i + 1), ()), (s.set i.toNat (w3 (s.getD i.toNat 0 + l.getD i.toNat 0)), r, ())))))))
    (.ret (.inr (.exit 6, encS [2, 4] [.ptr 0 [], .ptr 1 []] [.box a8, .box a8, .dead, .dead] 157 ((), (), ()) (s, r, ()))))
theorem rM4 (r0 : Int → Int → Int) (t : Tu) (ks0 l : List Int) (i : Int) (s r : List Int) :
    (SM4.round (bodyK Try.prog (ctx (cM r0 t ks0)) L0 bM4) ((), (), l, i, ()) (s, r, ())).eval = (GM4 l i s r).eval := by kernel_rfl

end Go.Proofs.Ytlkddajnebjlcaa.Sha

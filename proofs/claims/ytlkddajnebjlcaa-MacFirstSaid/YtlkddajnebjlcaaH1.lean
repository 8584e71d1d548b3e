/- What the functions of layer 1 (sha) give: turning bits, constants, a block mixed in: rounds. -/
import Derived.Test.YtlkddajnebjlcaaG1
set_option linter.unusedVariables false
set_option maxRecDepth 100000
namespace Go.Proofs.Ytlkddajnebjlcaa.Sha
open Go Vse Go.Proofs Gen

abbrev u32 : Ty := .int .u32
abbrev u64 : Ty := .int .u64
abbrev w3 (x : Int) : Int := IntKind.u32.wrap x
abbrev a8 : Ty := .arr 8 u32
abbrev a64 : Ty := .arr 64 u32
abbrev d32 : Ty := .arr 32 u8

/-! bits turned -/

def rotF (x k : Int) : Int := orI .u32 (shlI .u32 x (andI .u64 (IntKind.u64.wrap k) 31)) (shrI .u32 x (IntKind.u64.wrap (32 - andI .u64 (IntKind.u64.wrap k) 31)))
def s55 : CSpec := .fn1 [u32, i64] u32 fun x => rotF x.1 x.2.1
theorem ok55 : CSound Try.prog 55 s55 ∧ CLocal s55 := fn_ok1 nil_sound Try.func55 (by kernel_rfl) (fun xs _ => by kernel_rfl) (fun xs _ => by kernel_rfl)

def c53 (r : Int → Int → Int) : List (Nat × CSpec) := [(55, .fn1 [u32, i64] u32 fun x => r x.1 x.2.1)]
def turnE (r : Int → Int → Int) (n a b v : Int) : Int := xorI .u32 (xorI .u32 (r n (w (0 - a))) (r n (w (0 - b)))) v
theorem c53_sound : CtxSound Try.prog (ctx (c53 rotF)) ∧ CtxLocal (ctx (c53 rotF)) := ctx_sound ⟨ok55, trivial⟩
def turnF : Int → Int → Int → Int → Int := turnE rotF
def s53 : CSpec := .fn1 [u32, i64, i64, u32] u32 fun x => turnF x.1 x.2.1 x.2.2.1 x.2.2.2.1
theorem k53f (r : Int → Int → Int) (n a b v : Int) : (fnK Try.prog (ctx (c53 r)) L0 Try.f53 (mkArgs [u32, i64, i64, u32] (n, a, b, v, ())) []).fine [u32] = true := by kernel_rfl
theorem k53 (r : Int → Int → Int) (n a b v : Int) : (fnK Try.prog (ctx (c53 r)) L0 Try.f53 (mkArgs [u32, i64, i64, u32] (n, a, b, v, ())) []).fold1 u32 = turnE r n a b v := by kernel_rfl
theorem ok53 : CSound Try.prog 53 s53 ∧ CLocal s53 := fn_ok1 c53_sound Try.func53 (by kernel_rfl) (fun xs _ => k53f rotF xs.1 xs.2.1 xs.2.2.1 xs.2.2.2.1) (fun xs _ => k53 rotF xs.1 xs.2.1 xs.2.2.1 xs.2.2.2.1)

/-! constants -/

def consts : List Int := [
  0x428a2f98, 0x71374491, 0xb5c0fbcf, 0xe9b5dba5, 0x3956c25b, 0x59f111f1, 0x923f82a4, 0xab1c5ed5,
  0xd807aa98, 0x12835b01, 0x243185be, 0x550c7dc3, 0x72be5d74, 0x80deb1fe, 0x9bdc06a7, 0xc19bf174,
  0xe49b69c1, 0xefbe4786, 0x0fc19dc6, 0x240ca1cc, 0x2de92c6f, 0x4a7484aa, 0x5cb0a9dc, 0x76f988da,
  0x983e5152, 0xa831c66d, 0xb00327c8, 0xbf597fc7, 0xc6e00bf3, 0xd5a79147, 0x06ca6351, 0x14292967,
  0x27b70a85, 0x2e1b2138, 0x4d2c6dfc, 0x53380d13, 0x650a7354, 0x766a0abb, 0x81c2c92e, 0x92722c85,
  0xa2bfe8a1, 0xa81a664b, 0xc24b8b70, 0xc76c51a3, 0xd192e819, 0xd6990624, 0xf40e3585, 0x106aa070,
  0x19a4c116, 0x1e376c08, 0x2748774c, 0x34b0bcb5, 0x391c0cb3, 0x4ed8aa4a, 0x5b9cca4f, 0x682e6ff3,
  0x748f82ee, 0x78a5636f, 0x84c87814, 0x8cc70208, 0x90befffa, 0xa4506ceb, 0xbef9a3f7, 0xc67178f2]
def s54 : CSpec := .fn1 [] a64 fun _ => consts
theorem ok54 : CSound Try.prog 54 s54 ∧ CLocal s54 := fn_ok1 nil_sound Try.func54 (by kernel_rfl) (fun xs _ => by kernel_rfl) (fun xs _ => by kernel_rfl)

/-! mixed -/

abbrev Tu := Int → Int → Int → Int → Int
def cM (r : Int → Int → Int) (t : Tu) (ks : List Int) : List (Nat × CSpec) :=
  [(55, .fn1 [u32, i64] u32 fun x => r x.1 x.2.1), (53, .fn1 [u32, i64, i64, u32] u32 fun x => t x.1 x.2.1 x.2.2.1 x.2.2.2.1), (54, .fn1 [] a64 fun _ => ks)]
theorem cM_sound : CtxSound Try.prog (ctx (cM rotF turnF consts)) ∧ CtxLocal (ctx (cM rotF turnF consts)) := ctx_sound ⟨ok55, ok53, ok54, trivial⟩

noncomputable def bM1 : Code := loopAt Try.f42 0
noncomputable def bM2 : Code := ((loopsOf bM1)[0]?).getD .skip
noncomputable def bM3 : Code := loopAt Try.f42 1
noncomputable def bM4 : Code := loopAt Try.f42 2

abbrev eM : List ETy := [.box a8, .box a8, .box a64]
/-- four bytes are put together -/
def SM2 : RSpec := ⟨[1, 2, 4, 5, 6, 20, 31, 32, 33], 157, [bs, .ptr 0 [], .ptr 1 [], .ptr 2 [], i64, i64, bs, i64, i64], eM, eM, [], fun _ => ([1, 2, 4, 5, 20], [bs, .ptr 0 [], .ptr 1 [], .ptr 2 [], i64], eM)⟩
def put1 (v : List Int) (k c : Int) : List Int := v.set k.toNat (orI .u32 (shlI .u32 (v.getD k.toNat 0) 8) (w3 c))
def GM2 (b : List Int) (k i : Int) (q : List Int) (n j : Int) (s r v : List Int) : Tr SM2.End :=
  .ite (decide (j < n)) (.chk (inArr j q.length) (.chk (inArrK .i64 k 64) (.chk (inArrK .i64 k 64) (.ret (.inl ((b, (), (), (), k, i, q, n, w (j + 1), ()), (s, r, put1 v k (q.getD j.toNat 0), ()))))))) 
    (.ret (.inr (.exit 2, encS [1, 2, 4, 5, 20] [bs, .ptr 0 [], .ptr 1 [], .ptr 2 [], i64] eM 157 (b, (), (), (), i, ()) (s, r, v, ()))))
theorem rM2 (r0 : Int → Int → Int) (t : Tu) (ks : List Int) (b : List Int) (k i : Int) (q : List Int) (n j : Int) (s r v : List Int) :
    (SM2.round (bodyK Try.prog (ctx (cM r0 t ks)) L0 bM2) (b, (), (), (), k, i, q, n, j, ()) (s, r, v, ())).eval = (GM2 b k i q n j s r v).eval := by kernel_rfl

end Go.Proofs.Ytlkddajnebjlcaa.Sha

/- Counters (layer 4, ctr): what Flip ranges over: its pieces. -/
import Derived.Test.YtlkddajnebjlcaaL4
set_option linter.unusedVariables false
set_option maxRecDepth 100000
namespace Go.Proofs.Ytlkddajnebjlcaa.Ctr
open Go Vse Go.Proofs Gen

abbrev CI (E : En) (N : Nx) : Ctx := ctx [(57, .fn1 [w16, w16] w16 fun x => E x.1 x.2.1), (26, .slp1 [w16, u64] (fun _ => true) w16 fun x => N x.1 x.2.1)]
def hL (k a b k' a' out : List Int) : Heap := encH eL (k, a, b, (), k', a', out, ())
/-- the iterator's slots -/
def e0 (l : Nat) : List AV := (encS [0, 1, 2] [.it l, .ptr 4 [], .ptr 5 []] [] 19 ((), (), (), ()) ()).env
def e1 (l : Nat) (e : List Int) (j : Int) : List AV := (encS [0, 1, 2, 8, 9] [.it l, .ptr 4 [], .ptr 5 [], w16, i64] [] 19 ((), (), (), e, j, ()) ()).env
def e2 (l : Nat) (e : List Int) (j : Int) (t : Bool) : List AV := (encS [0, 1, 2, 8, 9, 10] [.it l, .ptr 4 [], .ptr 5 [], w16, i64, .bool] [] 19 ((), (), (), e, j, t, ()) ()).env
def e3 (l : Nat) (e : List Int) (j x : Int) : List AV := (encS [0, 1, 2, 5, 8, 9] [.it l, .ptr 4 [], .ptr 5 [], u8, w16, i64] [] 19 ((), (), (), x, e, j, ()) ()).env
noncomputable def pc (E : En) (N : Nx) (c : Code) (live : List Nat) (env : List AV) (H : Heap) : Tr (Ex × List AV × Heap) :=
  (run Try.prog (CI E N) L0 c ⟨env, H⟩).bind fun r => .ret (r.1, (keepS live r.2).env, r.2.heap)
theorem p0 (l : Nat) (E : En) (N : Nx) (k a b k' a' out : List Int) : (pc E N R0 [0, 1, 2, 8, 9] (e0 l) (hL k a b k' a' out)).eval = some (.normal, e1 l (E k' a') 0, hL k a b k' a' out) := by kernel_rfl
theorem p1 (l : Nat) (E : En) (N : Nx) (e : List Int) (j : Int) (k a b k' a' out : List Int) : (pc E N R1 [0, 1, 2, 8, 9, 10] (e1 l e j) (hL k a b k' a' out)).eval = some (.normal, e2 l e j (decide (j < 16)), hL k a b k' a' out) := by kernel_rfl
theorem pD (l : Nat) (E : En) (N : Nx) (e : List Int) (j : Int) (t : Bool) (k a b k' a' out : List Int) : (pc E N CD [0, 1, 2, 8, 9] (e2 l e j t) (hL k a b k' a' out)).eval =
    match t with | true => some (.normal, e1 l e j, hL k a b k' a' out) | false => some (.exit 2, e1 l e j, hL k a b k' a' out) := by kernel_rfl
theorem p2 (l : Nat) (E : En) (N : Nx) (e : List Int) (j : Int) (k a b k' a' out : List Int) : (pc E N R2 [0, 1, 2, 5, 8, 9] (e1 l e j) (hL k a b k' a' out)).eval =
    (Tr.chk (inArrK .i64 j 16) (.ret ((.normal, e3 l e j (e.getD j.toNat 0), hL k a b k' a' out) : Ex × List AV × Heap))).eval := by kernel_rfl
theorem p4 (l : Nat) (E : En) (N : Nx) (e : List Int) (j : Int) (k a b k' a' out : List Int) : (pc E N R4 [0, 1, 2, 8, 9] (e1 l e j) (hL k a b k' a' out)).eval = some (.normal, e1 l e (w (j + 1)), hL k a b k' a' out) := by kernel_rfl
theorem p5 (l : Nat) (E : En) (N : Nx) (e : List Int) (j : Int) (k a b k' a' out : List Int) : (pc E N R5 [0, 1, 2] (e1 l e j) (hL k a b k' a' out)).eval = some (.normal, e0 l, hL k a b k' (N a' 1) out) := by kernel_rfl

end Go.Proofs.Ytlkddajnebjlcaa.Ctr

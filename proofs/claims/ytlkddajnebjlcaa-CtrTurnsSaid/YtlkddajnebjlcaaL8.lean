/- Counters (layer 4, ctr): the region that calls yield. -/
import Derived.Test.YtlkddajnebjlcaaL7
set_option linter.unusedVariables false
set_option maxRecDepth 100000
namespace Go.Proofs.Ytlkddajnebjlcaa.Ctr
open Go Vse Go.Proofs Gen

/-- slots 12 and 13 set; and 14, 15 -/
def e5 (l : Nat) (e : List Int) (j x : Int) : List AV := (encS [0, 1, 2, 5, 8, 9, 12, 13] [.it l, .ptr 4 [], .ptr 5 [], u8, w16, i64, .it l, u8] [] 19 ((), (), (), x, e, j, (), x, ()) ()).env
def e6 (l : Nat) (e : List Int) (j : Int) (t : Bool) : List AV := (encS [0, 1, 2, 8, 9, 14] [.it l, .ptr 4 [], .ptr 5 [], w16, i64, .bool] [] 19 ((), (), (), e, j, t, ()) ()).env
def e7 (l : Nat) (e : List Int) (j : Int) (t : Bool) : List AV := (encS [0, 1, 2, 8, 9, 15] [.it l, .ptr 4 [], .ptr 5 [], w16, i64, .bool] [] 19 ((), (), (), e, j, t, ()) ()).env
theorem s0 (l : Nat) (e : List Int) (j x : Int) (H : Heap) : ((Vse.stepT Try.prog (ctx []) (opsOf R3).toList (oY 0) 0 ⟨e3 l e j x, H⟩).bind fun s => Vse.stepT Try.prog (ctx []) (opsOf R3).toList (oY 1) 0 s).eval = some ⟨e5 l e j x, H⟩ := by kernel_rfl
theorem s3 (l : Nat) (e : List Int) (j : Int) (t : Bool) (H : Heap) : ((Vse.stepT Try.prog (ctx []) (opsOf R3).toList (oY 3) 0 ⟨e6 l e j t, H⟩).bind fun s => .ret (keepE [0, 1, 2, 8, 9, 15] 0 s.env, s.heap)).eval = some (e7 l e j (!t), H) := by kernel_rfl

end Go.Proofs.Ytlkddajnebjlcaa.Ctr

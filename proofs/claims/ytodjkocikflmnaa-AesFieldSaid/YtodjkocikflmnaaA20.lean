/- Layer 3 (aes): the statements' own code, in any functions that it calls. -/
import Derived.Test.YtodjkocikflmnaaA17
set_option linter.unusedVariables false
set_option maxRecDepth 1000000
namespace Go.Proofs.Ytodjkocikflmnaa.Aes
open Go Vse Go.Proofs

abbrev t2 : Ty := .arr 2 t16
abbrev F1 := HL [u8] → Int
abbrev F2 := HL [u8, u8] → Int
abbrev FB := HL [t16, t16] → List Int
abbrev FK := HL [t16] → List (List Int)

def cA (e46 : FB) (e44 : FK) (e42 : F1) (e40 : F2) : List (Nat × CSpec) := [(46, .fn1 [t16, t16] t16 e46), (44, .fn1 [t16] t11 e44), (42, .fn1 [u8] u8 e42), (40, .fn1 [u8, u8] u8 e40)]
def keyA : List Int := [0, 1, 2, 3, 4, 5, 6, 7, 8, 9, 10, 11, 12, 13, 14, 15]
def blkA : List Int := [0, 17, 34, 51, 68, 85, 102, 119, 136, 153, 170, 187, 204, 221, 238, 255]

theorem r38 (e46 : FB) (e44 : FK) (e42 : F1) (e40 : F2) : (fnK Try.prog (ctx (cA e46 e44 e42 e40)) L0 Try.f38 (mkArgs [] ()) []).fold1 .bool =
    bif decide ((e46 (keyA, blkA, ())).getD 0 0 = 105) then (bif decide ((e46 (keyA, blkA, ())).getD 15 0 = 90) then (bif decide (e42 (0, ()) = 99) then (bif decide (e40 (2, 128, ()) = 27) then
      (bif eqT t16 ((e44 (keyA, ())).getD 0 (dflt t16)) keyA then decide (((e44 (keyA, ())).getD 10 (dflt t16)).getD 15 0 = 197) else false) else false) else false) else false) else false := by kernel_rfl
theorem f38 (e46 : FB) (e44 : FK) (e42 : F1) (e40 : F2) : (fnK Try.prog (ctx (cA e46 e44 e42 e40)) L0 Try.f38 (mkArgs [] ()) []).fine [.bool] = true := by kernel_rfl

def cL (up : Bool) (e46 e47 : FB) (e44 e45 : FK) (e42 e43 : F1) (e40 e41 : F2) (bx : List Int) : List (Nat × CSpec) :=
  [(38, .fn1 [] .bool fun _ => up), (46, .fn1 [t16, t16] t16 e46), (47, .fn1 [t16, t16] t16 e47), (44, .fn1 [t16] t11 e44), (45, .fn1 [t16] t11 e45), (42, .fn1 [u8] u8 e42), (43, .fn1 [u8] u8 e43),
    (40, .fn1 [u8, u8] u8 e40), (41, .fn1 [u8, u8] u8 e41), (39, .fn1 [] t256 fun _ => bx)]
section
variable (up : Bool) (e46 e47 : FB) (e44 e45 : FK) (e42 e43 : F1) (e40 e41 : F2) (bx : List Int)

theorem r9 (a b : Int) : (fnK Try.prog (ctx (cL up e46 e47 e44 e45 e42 e43 e40 e41 bx)) L0 Try.f9 (mkArgs [u8, u8] (a, b, ())) []).fold1 .bool =
    bif up then (bif decide (e40 (a, b, ()) = e41 (a, b, ())) then (bif decide (e42 (a, ()) = e43 (a, ())) then decide (e42 (b, ()) = bx.getD b.toNat 0) else false) else false) else false := by kernel_rfl
theorem f9 (a b : Int) : (fnK Try.prog (ctx (cL up e46 e47 e44 e45 e42 e43 e40 e41 bx)) L0 Try.f9 (mkArgs [u8, u8] (a, b, ())) []).fine [.bool] = true := by kernel_rfl
theorem r10 (k b : List Int) : (fnK Try.prog (ctx (cL up e46 e47 e44 e45 e42 e43 e40 e41 bx)) L0 Try.f10 (mkArgs [t16, t16] (k, b, ())) []).fold1 .bool =
    bif up then (bif eqT t11 (e44 (k, ())) (e45 (k, ())) then eqT t16 (e46 (k, b, ())) (e47 (k, b, ())) else false) else false := by kernel_rfl
theorem f10 (k b : List Int) : (fnK Try.prog (ctx (cL up e46 e47 e44 e45 e42 e43 e40 e41 bx)) L0 Try.f10 (mkArgs [t16, t16] (k, b, ())) []).fine [.bool] = true := by kernel_rfl
theorem r11 (a b c : Int) : (fnK Try.prog (ctx (cL up e46 e47 e44 e45 e42 e43 e40 e41 bx)) L0 Try.f11 (mkArgs [u8, u8, u8] (a, b, c, ())) []).fold1 .bool =
    bif decide (e40 (a, b, ()) = e40 (b, a, ())) then (bif decide (e40 (a, xorI .u8 b c, ()) = xorI .u8 (e40 (a, b, ())) (e40 (a, c, ()))) then
      (bif up then (bif decide (e40 (e40 (a, b, ()), c, ()) = e40 (a, e40 (b, c, ()), ())) then (bif decide (e40 (1, a, ()) = a) then (decide (e42 (a, ()) = e42 (b, ())) == decide (a = b)) else false) else false) else false)
      else (bif up then false else false)) else (bif up then false else false) := by kernel_rfl
theorem f11 (a b c : Int) : (fnK Try.prog (ctx (cL up e46 e47 e44 e45 e42 e43 e40 e41 bx)) L0 Try.f11 (mkArgs [u8, u8, u8] (a, b, c, ())) []).fine [.bool] = true := by kernel_rfl
theorem r12 (k l0 l1 : List Int) : (fnK Try.prog (ctx (cL up e46 e47 e44 e45 e42 e43 e40 e41 bx)) L0 Try.f12 (mkArgs [t16, t2] (k, [l0, l1], ())) []).fold1 .bool =
    bif up then (eqT t16 (e46 (k, l0, ())) (e46 (k, l1, ())) == eqT t16 l0 l1) else false := by kernel_rfl
theorem f12 (k l0 l1 : List Int) : (fnK Try.prog (ctx (cL up e46 e47 e44 e45 e42 e43 e40 e41 bx)) L0 Try.f12 (mkArgs [t16, t2] (k, [l0, l1], ())) []).fine [.bool] = true := by kernel_rfl
end

end Go.Proofs.Ytodjkocikflmnaa.Aes

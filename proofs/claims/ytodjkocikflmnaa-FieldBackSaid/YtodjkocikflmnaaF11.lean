/- What the functions of layer 9 (field) give: two parts, and a number that are known; the statements' own code, in any functions that it calls. -/
import Derived.Test.YtodjkocikflmnaaF10
set_option linter.unusedVariables false
set_option maxRecDepth 100000
namespace Go.Proofs.Ytodjkocikflmnaa.Fld
open Go Vse Go.Proofs

def CA : List (Nat × CSpec) := [(25, s25), (27, s27), (34, s34), (29, s29), (31, s31), (36, s36)]
theorem CA_sound : CtxSound Try.prog (ctx CA) ∧ CtxLocal (ctx CA) := ctx_sound ⟨ok25, ok27, ok34, ok29, ok31, ok36, trivial⟩
def s23 : CSpec := .sl1 [] .bool fun _ => true
theorem r23 : (fnS Try.prog (ctx CA) L0 [.bool] Try.f23 (mkArgs [] ())).fold1 .bool = true := by kernel_rfl
theorem f23 : (fnS Try.prog (ctx CA) L0 [.bool] Try.f23 (mkArgs [] ())).fine [.bool] = true := by kernel_rfl
theorem ok23 : CSound Try.prog 23 s23 ∧ CLocal s23 :=
  sl_ok1 (L := L0) CA_sound Try.func23 (by kernel_rfl) (fun b hb => by
    have : loopsOf (bodyOf Try.f23) = [] := by kernel_rfl
    rw [this] at hb; cases hb) (fun xs hx => f23) (fun xs hx => r23)

abbrev Fs := HL [bs] → HL [lt, i64]
abbrev Fp := HL [ls] → HL [bt, i64]
abbrev Fi := HL [bs] → HL [i64, i64]
abbrev Fw := HL [bs] → HL [t16, i64]
abbrev Fn := HL [i64] → List Int
abbrev Fb := HL [.str] → Bool
def cL (up : Bool) (p24 : HL [ls] → Bool) (e24 e25 e26 : Fp) (pb : HL [bs] → Bool) (e27 e28 : Fs) (e29 e30 : Fi) (e31 e32 : Fw) (e19 : HL [bs, bs] → Bool) (e33 : HL [ls, ls] → Bool) (e34 e35 : Fn) (e36 e37 : Fb) : List (Nat × CSpec) :=
  [(23, .sl1 [] .bool fun _ => up), (24, .slp [ls] p24 [bt, i64] e24), (25, .sl [ls] [bt, i64] e25), (26, .sl [ls] [bt, i64] e26), (27, .slp [bs] pb [lt, i64] e27), (28, .slp [bs] pb [lt, i64] e28),
    (29, .sl [bs] [i64, i64] e29), (30, .sl [bs] [i64, i64] e30), (31, .sl [bs] [t16, i64] e31), (32, .sl [bs] [t16, i64] e32), (19, .sl1 [bs, bs] .bool e19), (33, .sl1 [ls, ls] .bool e33),
    (34, .sl1 [i64] bt e34), (35, .sl1 [i64] bt e35), (36, .sl1 [.str] .bool e36), (37, .sl1 [.str] .bool e37)]
section
variable (up : Bool) (p24 : HL [ls] → Bool) (e24 e25 e26 : Fp) (pb : HL [bs] → Bool) (e27 e28 : Fs) (e29 e30 : Fi) (e31 e32 : Fw) (e19 : HL [bs, bs] → Bool) (e33 : HL [ls, ls] → Bool) (e34 e35 : Fn) (e36 e37 : Fb)

theorem r6 (l : List (List Int)) (b : List Int) (n : Int) : (fnK Try.prog (ctx (cL up p24 e24 e25 e26 pb e27 e28 e29 e30 e31 e32 e19 e33 e34 e35 e36 e37)) L0 Try.f6 (mkArgs [lt, bt, i64] (l, b, n, ())) []).fold1 .bool =
    bif decide ((e24 (l, ())).2.1 > (2000 : Int)) then up else (bif decide ((b.length : Int) > 2000) then up else
      (bif up then (bif e19 ((e25 (l, ())).1, (e26 (l, ())).1, ()) then (bif ((e25 (l, ())).2.1 == (e26 (l, ())).2.1) then (bif e33 ((e27 (b, ())).1, (e28 (b, ())).1, ()) then (bif ((e27 (b, ())).2.1 == (e28 (b, ())).2.1) then
        (bif ((e29 (b, ())).1 == (e30 (b, ())).1) then (bif ((e29 (b, ())).2.1 == (e30 (b, ())).2.1) then (bif eqT t16 (e31 (b, ())).1 (e32 (b, ())).1 then (bif ((e31 (b, ())).2.1 == (e32 (b, ())).2.1) then
          (bif e19 (e34 (n, ()), e35 (n, ()), ()) then (e36 (bytesStr b, ()) == e37 (bytesStr b, ())) else false) else false) else false) else false) else false) else false) else false) else false) else false) else false)) := by kernel_rfl
theorem f6 (l : List (List Int)) (b : List Int) (n : Int) : (fnK Try.prog (ctx (cL up p24 e24 e25 e26 pb e27 e28 e29 e30 e31 e32 e19 e33 e34 e35 e36 e37)) L0 Try.f6 (mkArgs [lt, bt, i64] (l, b, n, ())) []).fine [.bool] =
    ((((((pb (b, ()) || !pb (b, ())) && pb (b, ())) || decide ((b.length : Int) > 2000)) || decide ((e24 (l, ())).2.1 > (2000 : Int))) || !p24 (l, ())) && p24 (l, ())) := by kernel_rfl
end

end Go.Proofs.Ytodjkocikflmnaa.Fld

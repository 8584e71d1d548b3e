/- Counters (layer 4, ctr): Flip's walk: what it ranges over, and the body of its loop. -/
import Derived.Test.YtlkddajnebjlcaaL2
set_option linter.unusedVariables false
set_option maxRecDepth 100000
namespace Go.Proofs.Ytlkddajnebjlcaa.Ctr
open Go Vse Go.Proofs Gen

/-! made: a function value that holds its two variables -/

abbrev kM : Nat := 56
abbrev fM (e e' : Nat) : Ty := .fn kM (.prod (.ptr e []) (.prod (.ptr e' []) .unit))
abbrev nM : PSpec := ⟨[w16, w16], [fM 0 1], [], [.box w16, .box w16], []⟩
def s43 : CSpec := .pos nM (fun _ _ => true) fun xs _ => ((((), (), ()), ()), (xs.1, xs.2.1, ()))
theorem ok43 : CSound Try.prog 43 s43 ∧ CLocal s43 :=
  pos_sound (L := L0) nil_sound Try.func43 (by kernel_rfl) (noLoopsL (by kernel_rfl)) fun xs hs _ _ _ => by
    obtain ⟨key, at_, u⟩ := xs
    kernel_rfl

/-! the code of the loop, and of what it ranges over -/

def rngAt : Code → List (Operand × Array Tmp × Code × Code)
  | .seq a b => rngAt a ++ rngAt b
  | .block _ c => rngAt c
  | .rangeFunc g ps x y => [(g, ps, x, y)]
  | _ => []
noncomputable def rngF : Operand × Array Tmp × Code × Code := ((rngAt (bodyOf Try.f24))[0]?).getD (.tmp 0, #[], .skip, .skip)
noncomputable def asgF : Code := rngF.2.2.1
noncomputable def bdyF : Code := rngF.2.2.2
theorem rng_shape : rngF = (.tmp 14, #[15], asgF, bdyF) := by kernel_rfl

def fst_ : Code → Code | .seq a _ => a | c => c
def snd_ : Code → Code | .seq _ b => b | c => c
def inn_ : Code → Code | .block _ c => c | .loop c => c | c => c
noncomputable def cI : Code := bodyOf Try.f56
noncomputable def cA : Code := inn_ (inn_ (inn_ cI))
noncomputable def R0 : Code := fst_ (fst_ cA)
noncomputable def R5 : Code := snd_ cA
noncomputable def cB : Code := inn_ (inn_ (snd_ (fst_ cA)))
noncomputable def R1 : Code := fst_ cB
noncomputable def CD : Code := fst_ (snd_ cB)
noncomputable def cY : Code := inn_ (fst_ (snd_ (snd_ cB)))
noncomputable def R2 : Code := fst_ cY
noncomputable def R3 : Code := fst_ (snd_ cY)
noncomputable def CR : Code := snd_ (snd_ cY)
noncomputable def R4 : Code := snd_ (snd_ (snd_ cB))
theorem cI_shape : cI = .block 0 (.loop (.block 1 (.seq (.seq R0 (.block 2 (.loop cB))) R5))) := by kernel_rfl
theorem cB_shape : cB = .seq R1 (.seq CD (.seq (.block 3 (.seq R2 (.seq R3 CR))) R4)) := by kernel_rfl
theorem CD_shape : CD = .cond (.tmp 10) .skip (.exit 2) := by kernel_rfl
theorem CR_shape : CR = .cond (.tmp 15) .ret .skip := by kernel_rfl

/-! a round of the body: Flip's variables (key, at, b, out), those of made (key, at), and the bytes so far -/

abbrev eL : List ETy := [.box w16, .box w16, .box bs, .box (.vc 6 0), .box w16, .box w16, .vec 0 u8]
def SL : RSpec := ⟨[5, 7, 15], 32, [.ptr 2 [], .ptr 3 [], u8], eL, [.box w16, .box w16, .box bs, .box .nils, .box w16, .box w16], [.all 3 u8], fun _ => ([], [], eL)⟩
noncomputable def bodyL (st : St) : Tr (Ex × St) := (run Try.prog (ctx []) L0 asgF st).bind fun r => match r with
  | (.normal, s) => run Try.prog (ctx []) L0 bdyF s
  | r => .ret r
def GL (x : Int) (k a b k' a' out : List Int) : Tr SL.End :=
  let o : List Int := out ++ [xorI .u8 (b.getD (out.length : Int).toNat 0) x]
  .chk (inArr (out.length : Int) b.length) (.chk (Vse.room (out.length + [xorI .u8 (b.getD (out.length : Int).toNat 0) x].length) 1)
    (.ite ((o.length : Int) == (b.length : Int)) (.ret (.inr (.exit 0, encS [] [] eL 32 () (k, a, b, (), k', a', o, ())))) (.ret (.inl (((), (), x, ()), (k, a, b, (), k', a', o, ()))))))
theorem rL (x : Int) (k a b k' a' out : List Int) : (SL.round bodyL ((), (), x, ()) (k, a, b, (), k', a', out, ())).eval = (GL x k a b k' a' out).eval := by kernel_rfl

end Go.Proofs.Ytlkddajnebjlcaa.Ctr

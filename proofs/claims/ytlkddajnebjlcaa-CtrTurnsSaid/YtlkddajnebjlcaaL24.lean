/- Counters (layer 4, ctr): Flip, whole. -/
import Derived.Test.YtlkddajnebjlcaaL23
import Derived.Test.YtlkddajnebjlcaaE44
set_option linter.unusedVariables false
set_option maxRecDepth 100000
namespace Go.Proofs.Ytlkddajnebjlcaa.Ctr
open Go Vse Go.Proofs Gen

/-- the loop, told in other words -/
def rngX (c : List Int → List Int → Bool) (A : List Int → List Int → List Int) (O : List Int → List Int → List Int → List Int) (st : St) : Tr (Ex × St) :=
  if heapIs SL.E0 st.heap then
    match renTo SL.E0 [.all 3 u8] [5, 7, 14] [.ptr 2 [], .ptr 3 [], fM 4 5] eL 32 st with
    | some (_, (k, a, b, _, k', a', out, _)) => .chk (c out b) (.ret (.exit 0, encS [7] [.ptr 3 []] eL 32 ((), ()) (k, a, b, (), k', A a' b, O k' a' b, ())))
    | none => .fail
  else .fail
def cX (out b : List Int) : Bool := decide (out = []) && decide (0 < b.length ∧ b.length ≤ 1000000)
def aX (N : Nx) (a' b : List Int) : List Int := atB N a' ((b.length - 1) / 16)
def oX (E : En) (N : Nx) (k' a' b : List Int) : List Int := outs (E k' (atB N a' ((b.length - 1) / 16))) b (outB E N k' a' b ((b.length - 1) / 16)) ((b.length - 1) % 16 + 1)
theorem rngX_ok {E : En} {N : Nx} (hC : CtxSound Try.prog (CI E N) ∧ CtxLocal (CI E N)) : RunOK Try.prog (rngX cX (aX N) (oX E N)) (.rangeFunc (.tmp 14) #[15] asgF bdyF) := rng_ok hC

abbrev C24 : Ctx := ctx [(43, s43)]
theorem C24_sound : CtxSound Try.prog C24 ∧ CtxLocal C24 := ctx_sound ⟨ok43, trivial⟩
def RX (c : List Int → List Int → Bool) (A : List Int → List Int → List Int) (O : List Int → List Int → List Int → List Int) : Loops := fun _ st => rngX c A O st
noncomputable def cFl : Code := bodyOf Try.f24
theorem rngs_shape : rngsOf cFl = [(.tmp 14, #[15], asgF, bdyF)] := by kernel_rfl
def TX (c : List Int → List Int → Bool) (O : List Int → List Int → List Int → List Int) (key at_ b : List Int) : Tr AV := .ite ((b.length : Int) == 0) (.ret (.v bt [])) (.chk (c [] b) (.ret (.v bt (O key at_ b))))
theorem tX (c : List Int → List Int → Bool) (A : List Int → List Int → List Int) (O : List Int → List Int → List Int → List Int) (key at_ b : List Int) :
    nrm (fnSX Try.prog (runR Try.prog C24 L0 (RX c A O) cFl) [bt] Try.f24 (mkArgs [w16, w16, bs] (key, at_, b, ()))) = (TX c O key at_ b).eval := by kernel_rfl

/-- what Flip gives -/
def flipX (E : En) (N : Nx) (key at_ b : List Int) : List Int := if b.length = 0 then [] else oX E N key at_ b

theorem rn_ok {E : En} {N : Nx} (hC : CtxSound Try.prog (CI E N) ∧ CtxLocal (CI E N)) : RunOK Try.prog (runR Try.prog C24 L0 (RX cX (aX N) (oX E N)) cFl) cFl := by
  refine runR_ok C24_sound cFl (loopsOK_of (by kernel_rfl)) (rngsOK_all fun t ht i hi => ?_)
  rw [rngs_shape, List.mem_singleton] at ht
  subst ht
  exact rngX_ok hC

def sX (E : En) (N : Nx) : CSpec := .slp1 [w16, w16, bs] (fun x => decide (List.length (α := Int) x.2.2.1 ≤ 1000000)) bt fun x => flipX E N x.1 x.2.1 x.2.2.1
theorem okX {E : En} {N : Nx} (hC : CtxSound Try.prog (CI E N) ∧ CtxLocal (CI E N)) : CSound Try.prog 24 (sX E N) ∧ CLocal (sX E N) :=
  slpX1 Try.func24 (rn_ok hC) (by kernel_rfl) fun xs hx hp => by
    obtain ⟨key, at_, b, u⟩ := xs
    have hb : List.length (α := Int) b ≤ 1000000 := of_decide_eq_true hp
    refine (tX cX (aX N) (oX E N) key at_ b).trans ?_
    have : (TX cX (oX E N) key at_ b).eval = some (.v bt (flipX E N key at_ b)) := by
      unfold TX flipX
      by_cases h0 : List.length (α := Int) b = 0
      · rw [if_pos h0]
        refine (ite_t ?_ _ _).trans rfl
        rw [h0]; rfl
      · rw [if_neg h0]
        refine (ite_f ?_ _ _).trans ((chk_eval ?_ _).trans rfl)
        · simp only [beq_eq_false_iff_ne, ne_eq]; omega
        · simp only [cX, Bool.and_eq_true, decide_eq_true_eq, true_and]; omega
    exact this

end Go.Proofs.Ytlkddajnebjlcaa.Ctr

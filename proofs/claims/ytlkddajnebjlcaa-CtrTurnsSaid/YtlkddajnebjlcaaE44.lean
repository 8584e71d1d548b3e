/- Functions with a loop over a function: summaries of slices and plain values. Nothing here is about one program. -/
import Derived.Test.YtlkddajnebjlcaaM5
set_option linter.unusedVariables false
namespace Vse
open Go Go.ChangeShapes

/-- the loops over functions in a code -/
def rngsOf : Code → List (Operand × Array Tmp × Code × Code)
  | .seq a b => rngsOf a ++ rngsOf b
  | .block _ c => rngsOf c
  | .rangeFunc g ps x y => [(g, ps, x, y)]
  | _ => []

theorem rngsOK_all {P : Program} {R : Loops} : ∀ {c : Code}, (∀ t ∈ rngsOf c, ∀ i, firstReg t.2.2.1 = some i → RunOK P (R i) (.rangeFunc t.1 t.2.1 t.2.2.1 t.2.2.2)) → RngsOK P R c := by
  intro c
  induction c with
  | seq a b iha ihb => intro h; exact ⟨iha fun t ht => h t (List.mem_append_left _ ht), ihb fun t ht => h t (List.mem_append_right _ ht)⟩
  | block id c ih => intro h; exact ih h
  | rangeFunc g ps x y => intro h; exact fun i hi => h (g, ps, x, y) (List.mem_singleton.2 rfl) i hi
  | _ => intro _; trivial

def fnSX (P : Program) (rn : St → Tr (Ex × St)) (Rs : List Ty) (fn : Func) (args : List AV) : Tr (AV × Heap) := (fnTX P rn fn args []).bind fun r => .ret (sealR Rs r)

/-- a function of slices, its body gone through in some way -/
theorem slpX {P : Program} {k : Nat} {fn : Func} (hf : P.funcs[k]? = some fn) {rn : St → Tr (Ex × St)} (hrn : RunOK P rn (bodyOf fn)) {As Rs : List Ty} {pre : HL As → Bool} {f : HL As → HL Rs}
    (hside : ((fn.name == "runtime.NumGoroutine") == false && fn.body.isSome && (As.all fun A => A.still false) && stillL Rs) = true)
    (h1 : ∀ xs, HL.ok As xs → pre xs = true → nrm (fnSX P rn Rs fn (mkArgs As xs)) = some (ofHL Rs (f xs))) :
    CSound P k (CSpec.slp As pre Rs f) ∧ CLocal (CSpec.slp As pre Rs f) := by
  simp only [Bool.and_eq_true, beq_iff_eq] at hside
  obtain ⟨⟨⟨hname, hb⟩, hA⟩, hR⟩ := hside
  obtain ⟨body, hb⟩ := Option.isSome_iff_exists.1 hb
  have hrn : RunOK P rn body := by
    unfold bodyOf at hrn
    rw [hb] at hrn
    exact hrn
  refine ⟨⟨fun args w => callFunc_enter hf hname hb args w, ?_⟩, slp_local As pre Rs f⟩
  intro g H w vs rvs fr out hI hargs _ he
  simp only [CSpec.slp] at he
  rw [takeE_takeAs] at he
  split at he
  · rename_i xs hxs
    obtain ⟨hp, he⟩ := Tr.chk_some he
    have := Tr.ret_some he
    subst this
    have hargs' := takeAs_rep hI hA hargs hxs
    have hx := args_ok hargs'
    obtain ⟨H', h5⟩ := nrm_some (h1 xs hx hp)
    obtain ⟨r, h6, h7⟩ := Tr.bind_some h5
    have h7 := Tr.ret_some h7
    refine (fn_soundX hf hb hrn (lend_inv hI) hargs' h6).mono ?_
    rintro e w' ⟨rv, g', rfl, hle, hI', hv⟩
    obtain ⟨g1, s1, s2, s3⟩ := sealR_rep Rs (r := r) hI' hv
    rw [h7] at s2 s3
    obtain ⟨g'', q1, q2, q3⟩ := lend_back hI (hle.trans s1) s2
    exact ⟨rv, g'', rfl, q1, q2, still_VRep q3 (ofHL_still hR _) s3⟩
  · exact (Tr.fail_some he).elim

theorem slpX1 {P : Program} {k : Nat} {fn : Func} (hf : P.funcs[k]? = some fn) {rn : St → Tr (Ex × St)} (hrn : RunOK P rn (bodyOf fn)) {As : List Ty} {R : Ty} {pre : HL As → Bool} {f : HL As → R.den}
    (hside : ((fn.name == "runtime.NumGoroutine") == false && fn.body.isSome && (As.all fun A => A.still false) && stillL [R]) = true)
    (h1 : ∀ xs, HL.ok As xs → pre xs = true → nrm (fnSX P rn [R] fn (mkArgs As xs)) = some (.v R (f xs))) :
    CSound P k (CSpec.slp1 As pre R f) ∧ CLocal (CSpec.slp1 As pre R f) := slpX hf hrn hside h1

end Vse

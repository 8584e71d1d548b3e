/- Sorting: the kit's contract of slices.SortFunc as a summary. Nothing here is about one program. -/
import Derived.Test.YtmolcddccjgliaaM6
import Derived.Shelf.SlSortCmp.NoneTotal
set_option linter.unusedVariables false
namespace Vse
open Go Go.ChangeShapes Go.Proofs Go.Sort Go.Shelf

section
variable {P : Program} {C : Ctx} {L : Loops} {g : G} {H : Heap} {w : World}

/-! worlds behind one another -/

theorem HInv.later (h : HInv g H w) {w' : World} (hh : ∀ (b : Nat) (o : Obj), w.heap[b]? = some o → w'.heap[b]? = some o) (hx : Goes w w') : HInv g H w' :=
  ⟨h.sh, fun b o x => hh b o (h.fr b o x), fun b o x => hh b o (h.gr b o x), fun e => ERep_world (fun b _ o ho => hh b o ho) (h.ent e), h.own, h.sep, h.dis, h.ext.goes hx⟩

/-- a memory in which all is lent -/
def G.all (w : World) : G := ⟨fun _ => none, fun b => w.heap[b]?, fun _ => none, fun _ => 0, fun _ => .free, (((w.os, w.output, w.tape), w.drawn), [])⟩

theorem all_inv (w : World) : HInv (G.all w) [] w where
  sh _ := rfl
  fr _ _ h := by cases h
  gr _ _ h := h
  ent _ := trivial
  own e b h := by simp [getE, Entry.live] at h
  sep _ _ _ h := by cases h
  dis e e' b h := by simp [getE, Entry.live] at h
  ext := Goes.refl w

theorem all_grown {w w' : World} {g' : G} {H' : Heap} (hle : (G.all w).le g') (hI' : HInv g' H' w') : ∃ q os, w' = grow (w.drewN q) os := by
  have hb : ∀ b o, w.heap[b]? = some o → w'.heap[b]? = some o := fun b o hb => hI'.gr b o (by rw [hle.gr]; exact hb)
  have hsz : w.heap.size ≤ w'.heap.size := by
    rcases Nat.lt_or_ge w'.heap.size w.heap.size with hlt | hge
    · have h1 := hb w'.heap.size _ (Array.getElem?_eq_getElem hlt)
      have := (Array.getElem?_eq_some_iff.1 h1).1
      omega
    · exact hge
  have hx := hI'.ext
  rw [hle.ext] at hx
  obtain ⟨h1, h2⟩ := hx
  simp only [G.all, Prod.mk.injEq] at h1 h2
  refine ⟨w'.drawn - w.drawn, w'.heap.extract w.heap.size w'.heap.size, ?_⟩
  have hheap : w'.heap = w.heap ++ w'.heap.extract w.heap.size w'.heap.size := by
    apply Array.ext
    · rw [Array.size_append, Array.size_extract]; omega
    · intro i h3 h4
      by_cases hi : i < w.heap.size
      · rw [Array.getElem_append_left hi]
        have := hb i _ (Array.getElem?_eq_getElem hi)
        rw [Array.getElem?_eq_getElem h3] at this
        exact Option.some.inj this
      · rw [Array.getElem_append_right (by omega), Array.getElem_extract]
        congr 1
        omega
  obtain ⟨a1, a2, a3⟩ := h1
  cases w with
  | mk heap tape drawn os output =>
    cases w' with
    | mk heap' tape' drawn' os' output' =>
      simp only at a1 a2 a3 h2 hheap
      subst a1; subst a2; subst a3
      show World.mk heap' _ _ _ _ = World.mk (heap ++ _) _ _ _ _
      rw [← hheap]
      congr 1
      show drawn' = drawn + (drawn' - drawn)
      omega

/-! elements of two numbers -/

/-- two numbers of a struct -/
abbrev Pr := { p : Int × Int // inK .i64 p.1 = true ∧ inK .i64 p.2 = true }
instance : Inhabited Pr := ⟨⟨(0, 0), by decide⟩⟩
abbrev tP : Ty := .prod (.int .i64) (.prod (.int .i64) .unit)
def encPr (x : Pr) : List Value := [.int .i64 x.1.1, .int .i64 x.1.2]
def ofP (x : tP.den) : Int × Int := (x.1, x.2.1)
def toP (p : Int × Int) : tP.den := (p.1, p.2, ())

theorem rep_pr {g : G} {x : tP.den} {cs : List Value} (h : Rep g tP x cs) : ∃ p : Pr, toP p.1 = x ∧ cs = encPr p := by
  obtain ⟨c1, c2, rfl, ⟨rfl, h1⟩, c3, c4, rfl, ⟨rfl, h2⟩, h3⟩ := h
  have h3 : c4 = [] := h3
  subst h3
  exact ⟨⟨(x.1, x.2.1), h1, h2⟩, rfl, rfl⟩
theorem pr_rep {g : G} (p : Pr) : Rep g tP (toP p.1) (encPr p) := ⟨[.int .i64 p.1.1], [.int .i64 p.1.2], rfl, ⟨rfl, p.2.1⟩, [.int .i64 p.1.2], [], rfl, ⟨rfl, p.2.2⟩, rfl⟩

theorem repL_prs {g : G} : ∀ {l : List tP.den} {vs : List Value}, repL (Rep g tP) l vs → ∃ ps : List Pr, l = ps.map (fun p => toP p.1) ∧ vs = ps.flatMap encPr
  | [], vs, h => ⟨[], rfl, h⟩
  | x :: l, vs, ⟨c1, c2, e, h1, h2⟩ => by
    obtain ⟨p, rfl, rfl⟩ := rep_pr h1
    obtain ⟨ps, rfl, rfl⟩ := repL_prs h2
    exact ⟨p :: ps, rfl, e⟩
theorem prs_repL {g : G} : ∀ (ps : List Pr), repL (Rep g tP) (ps.map fun p => toP p.1) (ps.flatMap encPr)
  | [] => rfl
  | p :: ps => ⟨_, _, rfl, pr_rep p, prs_repL ps⟩

theorem flat_len : ∀ (ps : List Pr), (ps.flatMap encPr).length = ps.length * 2
  | [] => rfl
  | p :: ps => by rw [List.flatMap_cons, List.length_append, flat_len ps]; simp [encPr]; omega
theorem flat_get : ∀ (ps : List Pr) (t : Nat), t < ps.length * 2 → (ps.flatMap encPr)[t]! = (encPr ps.toArray[t / 2]!)[t % 2]!
  | [], t, h => by simp at h
  | p :: ps, 0, h => by simp [encPr]
  | p :: ps, 1, h => by simp [encPr]
  | p :: ps, t + 2, h => by
    have ih := flat_get ps t (by simp at h; omega)
    have e1 : (t + 2) / 2 = t / 2 + 1 := by omega
    have e2 : (t + 2) % 2 = t % 2 := by omega
    rw [List.flatMap_cons, e1, e2]
    have : (encPr p ++ ps.flatMap encPr)[t + 2]! = (ps.flatMap encPr)[t]! := by
      simp only [List.getElem!_eq_getElem?_getD, encPr, List.cons_append, List.nil_append, List.getElem?_cons_succ]
    rw [this, ih]
    congr 2
    simp only [List.getElem!_toArray, List.getElem!_eq_getElem?_getD, List.getElem?_cons_succ]

theorem flatK_eq (ps : List Pr) : (flatK encPr 2 ps.toArray).toList = ps.flatMap encPr := by
  apply List.ext_getElem
  · rw [Array.length_toList, size_flatK, flat_len, List.size_toArray]
  · intro t h1 h2
    have h1 : t < (flatK encPr 2 ps.toArray).size := by simpa using h1
    have ht : t < ps.length * 2 := by rw [flat_len] at h2; exact h2
    rw [Array.getElem_toList, ← getElem!_pos (flatK encPr 2 ps.toArray) t h1, get_flatK _ _ _ _ (by simpa using ht), ← flat_get ps t ht, getElem!_pos _ t h2]

/-! the summary -/

def ltI (cf : Int × Int → Int × Int → Int) (x y : Int × Int) : Bool := decide (cf x y < 0)
/-- pairs, sorted -/
def sortI (cf : Int × Int → Int × Int → Int) (l : List (Int × Int)) : List (Int × Int) := l.mergeSort fun x y => !ltI cf y x
def sortT (cf : Int × Int → Int × Int → Int) (l : List tP.den) : List tP.den := (sortI cf (l.map ofP)).map toP
def cfP (cf : Int × Int → Int × Int → Int) (x y : Pr) : Int := cf x.1 y.1

def CSpec.sort (cf : Int × Int → Int × Int → Int) (gk : Nat) : CSpec :=
  ⟨0, fun vs _ => match vs with | [.v (.vc e _) _, _] => [e] | _ => [], fun vs _ => match vs with | [.v (.vc e _) _, _] => [e] | _ => [],
   fun vs es _ => match vs with
    | [.v (.vc e k) _, .v (.fn f c) _] => match es with
      | [.vec k' a l] => if k = k' ∧ f = gk ∧ c = .unit then (match castL ⟨a, l⟩ tP with
        | some m => .chk (decide (m.length ≠ 0 ∧ m.length < 1000000000)) (.ret (.tup [], [(e, .vec k' tP (sortT cf m))]))
        | none => .fail) else .fail
      | _ => .fail
    | _ => .fail⟩

theorem sort_local (cf : Int × Int → Int × Int → Int) (gk : Nat) : CLocal (CSpec.sort cf gk) where
  same vs H H' h := by
    exact ⟨rfl, rfl⟩
  turns vs H fr out h x hx := by
    simp only [CSpec.sort] at h
    split at h
    · split at h
      · split at h
        · split at h
          · obtain ⟨_, h⟩ := Tr.chk_some h
            have := Tr.ret_some h
            subst this
            simp only [List.mem_singleton] at hx
            subst hx
            exact .inl (by simp [CSpec.sort])
          · exact (Tr.fail_some h).elim
        · exact (Tr.fail_some h).elim
      · exact (Tr.fail_some h).elim
    · exact (Tr.fail_some h).elim

theorem sort_same (cf : Int × Int → Int × Int → Int) (ps : List Pr) : (ps.mergeSort fun x y => !(ltOf (cfP cf)) y x).map (fun p => toP p.1) = sortT cf (ps.map fun p => toP p.1) := by
  have h : (ps.mergeSort fun x y => !(ltOf (cfP cf)) y x).map (fun p => p.1) = sortI cf (ps.map fun p => p.1) :=
    List.map_mergeSort fun a _ b _ => rfl
  unfold sortT
  have e1 : (ps.map fun p => toP p.1).map ofP = ps.map fun p => p.1 := by rw [List.map_map]; rfl
  rw [e1, ← h, List.map_map]
  rfl

theorem setRow_put {w : World} {b : Nat} {cs : Array Value} {t : TypeId} {fz : Nat × Nat} (h : w.heap[b]? = some (.cells cs t fz)) (F : Array Value) : putRow id w b 0 F = w.setRow b (putCells id 0 F cs) := by
  unfold putRow mapBlock World.setRow
  congr 1
  apply Array.ext_getElem?
  intro k
  simp only [Array.getElem?_modify]
  by_cases hk : b = k
  · subst hk
    simp only [if_true, h]
    rfl
  · simp only [if_neg hk]

theorem putCells_list {cs F : Array Value} {vs r : List Value} (hcs : cs.toList = vs ++ r) (hF : F.size = vs.length) : (putCells id 0 F cs).toList = F.toList ++ r := by
  have hsz : cs.size = vs.length + r.length := by rw [← Array.length_toList, hcs, List.length_append]
  apply List.ext_getElem
  · simp [putCells, hsz, hF]
  · intro i h1 h2
    have h1' : i < cs.size := by simpa [putCells] using h1
    have e1 : (putCells id 0 F cs).toList[i] = if 0 ≤ i ∧ i < 0 + F.size then F[i]! else cs[i] := by
      simp [putCells]
    rw [e1]
    by_cases hi : i < F.size
    · rw [if_pos ⟨Nat.zero_le _, by omega⟩, List.getElem_append_left (by simpa using hi), getElem!_pos F i hi, Array.getElem_toList]
    · rw [if_neg (by omega), List.getElem_append_right (by simpa using Nat.not_lt.1 hi)]
      have : cs[i] = cs.toList[i]'(by simpa using h1') := (Array.getElem_toList (h := h1')).symm
      rw [this]
      simp only [hcs]
      rw [List.getElem_append_right (by omega)]
      congr 1
      have : F.toList.length = vs.length := by rw [Array.length_toList, hF]
      omega

theorem sort_sound {ρ : Ren} (hL : SlLaysF0.n6 P ρ) (aE : ∀ w, (isAgg (ρ.t 24)).run P w = .ok true w) (zE : ∀ w, (Go.sizeOf (ρ.t 24)).run P w = .ok 2 w) {cf : Int × Int → Int × Int → Int}
    (hO : SWO (ltOf (cfP cf))) (hT : ∀ x y, (ltOf (cfP cf)) x y = false → (ltOf (cfP cf)) y x = false → x = y) {gk : Nat} (eg : ∀ args w, (callFunc gk args).run P w = .ok (.enter gk args) w)
    (hcmp : ∀ (x y : Pr) (W : World), Calls P gk #[.agg (encPr x).toArray, .agg (encPr y).toArray] W fun e w' => e = .returned (.int .i64 (cf x.1 y.1)) ∧ ∃ q os', w' = grow (W.drewN q) os')
    {kf : Nat} (hk : ρ.f 6 = kf) (henter : ∀ args w, (callFunc kf args).run P w = .ok (.enter kf args) w) : CSound P kf (CSpec.sort cf gk) ∧ CLocal (CSpec.sort cf gk) := by
  refine ⟨⟨henter, ?_⟩, sort_local cf gk⟩
  intro g H w vs rvs fr out hI hargs _ he
  simp only [CSpec.sort] at he
  split at he
  · rename_i e k u f c x
    simp only [ents] at he
    split at he
    · rename_i k' a l hes
      simp only [List.cons.injEq, and_true] at hes
      split at he
      · rename_i hh
        obtain ⟨rfl, rfl, rfl⟩ := hh
        split at he
        · rename_i m hm
          unfold castL at hm
          simp only at hm
          split at hm
          · rename_i ha
            subst ha
            simp only [Option.some.injEq] at hm
            subst hm
            obtain ⟨hp, he⟩ := Tr.chk_some he
            have := Tr.ret_some he
            subst this
            obtain ⟨hne, hlt⟩ := of_decide_eq_true hp
            obtain ⟨r1, rs, rfl, hv1, r2, rs2, rfl, hv2, hr3⟩ := hargs
            have hr3 : rs2 = [] := hr3
            subst hr3
            -- the function
            have hv2 := (VRep_v (by simp)).1 hv2
            simp only [TRep, Ty.agg, Ty.sk, Sk.agg, Bool.false_eq_true, if_false] at hv2
            obtain ⟨cb, hcb, hcb2⟩ := hv2
            have hcb2 : cb.toList = [] := hcb2
            have hcb3 : cb = #[] := by apply Array.ext'; rw [hcb2]
            subst hcb3
            simp only [List.cons.injEq, and_true] at hcb
            subst hcb
            -- the slice
            have hE : getE H e = .vec k tP l := hes
            have hlive : (getE H e).live = true := by rw [hE]; rfl
            have hent := hI.ent e
            rw [hE] at hent
            have hv := (VRep_v (by simp)).1 hv1
            simp only [TRep, Ty.agg, Ty.sk, Sk.agg, Bool.false_eq_true, if_false, Rep, G.vcr, hI.sh, hE, shp] at hv
            obtain ⟨_, _, hv⟩ := hv
            rcases hv trivial with ⟨_, h0, _⟩ | ⟨b, cap, hb, hsl, hcap, _⟩
            · exact absurd h0 hne
            simp only [List.cons.injEq, and_true] at hsl
            subst hsl
            rcases hent with ⟨q1, _⟩ | ⟨b', cs, t, fz, us, r, q1, q2, q3, q4, q5, q6, q7⟩
            · rw [hb] at q1; cases q1
            rw [hb] at q1
            cases q1
            obtain ⟨ps, rfl, rfl⟩ := repL_prs q6
            have hblk : b < w.heap.size := (Array.getElem?_eq_some_iff.1 q2).1
            have hfl : (flatK encPr 2 ps.toArray).size = (ps.flatMap encPr).length := by rw [size_flatK, flat_len, List.size_toArray]
            have hH : HoldsK encPr 2 w b 0 ps.toArray := by
              intro j hj
              have hj2 : j < (ps.flatMap encPr).length := by rw [← hfl]; exact hj
              have hjc : j < cs.size := by rw [← Array.length_toList, q5, List.length_append]; omega
              refine ⟨?_, ?_⟩
              · show World.cell? w ⟨b, 0 + j, none⟩ = _
                simp only [World.cell?, q2, Option.isSome_none, Bool.false_eq_true, if_false, Nat.zero_add]
                rw [Array.getElem?_eq_getElem hjc]
                have e1 : cs[j] = cs.toList[j]'(by simpa using hjc) := (Array.getElem_toList (h := hjc)).symm
                rw [e1]
                simp only [q5]
                rw [List.getElem_append_left hj2, getElem!_pos _ j hj]
                have e2 : (flatK encPr 2 ps.toArray)[j] = (flatK encPr 2 ps.toArray).toList[j]'(by simpa using hj) := (Array.getElem_toList (h := hj)).symm
                show _ = some (flatK encPr 2 ps.toArray)[j]
                rw [e2]
                simp only [flatK_eq]
              · show World.frozen? w ⟨b, 0 + j, none⟩ = false
                obtain ⟨lo, hi⟩ := fz
                simp only [World.frozen?, q2, Nat.zero_add]
                rcases q3 with h | h
                · simp only at h
                  simp; omega
                · simp only at h
                  simp; omega
            have hsz : (ps.toArray).size = (ps.map fun p => toP p.1).length := by simp
            have hcon := AnyQ.slices_SortFunc_total hL 2 aE zE encPr (fun _ => rfl) (fun x v hv => by
                simp only [encPr, List.mem_cons, List.not_mem_nil, or_false] at hv
                rcases hv with rfl | rfl <;> rfl) (cfP cf) hO f #[] b 0 cap ps.toArray w eg
              (fun m os dk _ x y => hcmp x y _) hH hblk (by rw [hsz]; omega) hT
            rw [hk, hsz] at hcon
            refine hcon.mono ?_
            rintro ed w' ⟨rfl, n, os, rfl⟩
            -- the world behind it
            generalize hd : (ps.mergeSort fun x y => !(ltOf (cfP cf)) y x) = d
            have hdl : d.length = ps.length := by rw [← hd, List.length_mergeSort]
            have hI1 : HInv g H (ahead w n) := hI.later (fun b o h => h) ⟨rfl, Nat.le_add_right _ _⟩
            have q2' : (ahead w n).heap[b]? = some (.cells cs t fz) := q2
            have hF : (flatK encPr 2 d.toArray).size = (ps.flatMap encPr).length := by rw [size_flatK, flat_len, List.size_toArray, hdl]
            have hcs' := putCells_list (F := flatK encPr 2 d.toArray) q5 hF
            rw [flatK_eq] at hcs'
            have hsize : (putCells id 0 (flatK encPr 2 d.toArray) cs).size = cs.size := by simp [putCells]
            obtain ⟨g', w1, w2, w3, w4, w5⟩ := hI1.setVec (k' := k) (l' := d.map fun p => toP p.1) hE hb q2' (by rw [hsize]; exact q4) (by unfold thawed at q3 ⊢; rw [hsize]; exact q3) (.inr ⟨rfl, by rw [List.length_map, List.length_map, hdl]⟩) hcs' (prs_repL d) q7
            refine ⟨_, g', rfl, w1, ?_, ⟨#[], rfl, rfl⟩⟩
            have hfin := w2.later (w' := sortWorldK encPr 2 w b 0 n (d.toArray) os) (fun b' o ho => ?_) ⟨rfl, Nat.le_refl _⟩
            · rw [← sort_same, hd]
              exact hfin
            · unfold sortWorldK putRowK
              rw [setRow_put q2']
              show (((ahead w n).setRow b _).heap ++ os)[b']? = _
              rw [Array.getElem?_append_left (Array.getElem?_eq_some_iff.1 ho).1]
              exact ho
          · cases hm
        · exact (Tr.fail_some he).elim
      · exact (Tr.fail_some he).elim
    · exact (Tr.fail_some he).elim
  · exact (Tr.fail_some he).elim

/-- a function of two pairs, called in whatever world -/
theorem cmp_calls (hC : CtxSound P C ∧ CtxLocal C) {k : Nat} {fn : Func} (hf : P.funcs[k]? = some fn) {cf : Int × Int → Int × Int → Int}
    (hside : fn.body.isSome = true) (hl : ∀ b ∈ loopsOf (bodyOf fn), LoopOK P L b)
    (h1 : ∀ x y : Pr, nrm (fnK P C L fn (mkArgs [tP, tP] (toP x.1, toP y.1, ())) []) = some (.v (.int .i64) (cf x.1 y.1)))
    (x y : Pr) (W : World) : Calls P k #[.agg (encPr x).toArray, .agg (encPr y).toArray] W fun e w' => e = .returned (.int .i64 (cf x.1 y.1)) ∧ ∃ q os', w' = grow (W.drewN q) os' := by
  obtain ⟨body, hb⟩ := Option.isSome_iff_exists.1 hside
  have hl : LoopsOK P L body := by
    refine loopsOK_all ?_
    unfold bodyOf at hl
    rw [hb] at hl
    exact hl
  obtain ⟨H', h5⟩ := nrm_some (h1 x y)
  have ha : ∀ p : Pr, VRep (G.all W) (.v tP (toP p.1)) (.agg (encPr p).toArray) := fun p => by
    refine (VRep_v (by simp)).2 ?_
    exact ⟨(encPr p).toArray, rfl, pr_rep p⟩
  have hargs : argsRep (G.all W) (mkArgs [tP, tP] (toP x.1, toP y.1, ())) [.agg (encPr x).toArray, .agg (encPr y).toArray] := ⟨_, _, rfl, ha x, _, _, rfl, ha y, rfl⟩
  refine (fn_sound hC.1 hC.2 hf hb hl (all_inv W) hargs (fnK_ok h5)).mono ?_
  rintro e w' ⟨rv, g', rfl, hle, hI', hv⟩
  have hv := (VRep_v (by simp)).1 hv
  simp only [TRep, Ty.agg, Ty.sk, Sk.agg, Bool.false_eq_true, if_false, Rep, List.cons.injEq, and_true] at hv
  exact ⟨by rw [hv.1], all_grown hle hI'⟩

end
end Vse

/- Entries put into other places: an own slice that was made anew, seen where the old one was. Nothing here is about one program. -/
import Derived.Test.YtodjkocikflmnaaE32
set_option linter.unusedVariables false
namespace Vse
open Go

/-- neither of two entries -/
def nei (f t : Nat) (e : Nat) : Bool := decide (e ≠ f) && decide (e ≠ t)

/-- a type that looks at entry f's k-th growth, and else at neither -/
def Ty.okM (f k t : Nat) : Ty → Bool
  | .vc i j => (decide (i = f) && decide (j = k)) || nei f t i
  | .prod a b => a.okM f k t && b.okM f k t
  | T => T.inn (nei f t) false

def Ty.mv (f t K : Nat) : Ty → Ty
  | .vc i j => .vc (if i = f then t else i) (if i = f then K else j)
  | .prod a b => .prod (a.mv f t K) (b.mv f t K)
  | T => T

def mvD (f t K : Nat) : (T : Ty) → T.den → (T.mv f t K).den
  | .prod a b, x => (mvD f t K a x.1, mvD f t K b x.2)
  | .vc _ _, _ => ()
  | .bool, x => x
  | .int _, x => x
  | .str, x => x
  | .unit, x => x
  | .und, x => x
  | .arr _ _, x => x
  | .imm _ _ _, x => x
  | .nils, x => x
  | .sv _ _, x => x
  | .vp _ _ _, x => x
  | .sub _ _, x => x
  | .nilp, x => x
  | .ptr _ _, x => x
  | .ip _ _, x => x
  | .nilm, x => x
  | .mp _, x => x
  | .nilf, x => x
  | .fn _ _, x => x
  | .nili, x => x
  | .it _, x => x
  | .ch _, x => x

theorem mv_sk (f t K : Nat) : ∀ T : Ty, (T.mv f t K).sk = T.sk := by
  intro T
  induction T with
  | prod a b iha ihb => simp only [Ty.mv, Ty.sk, iha, ihb]
  | _ => rfl

structure G.moved (f k t K : Nat) (g g' : G) : Prop where
  ag : g.agree (nei f t) false g'
  vec : ∃ s n, g.sh f = .vec k s n ∧ g'.sh t = .vec K s n
  bl : g'.bl t = g.bl f
  sz : g'.sz t = g.sz f

theorem mv_Rep {f k t K : Nat} {g g' : G} (h : g.moved f k t K g') : ∀ (T : Ty) (x : T.den) (cs : List Value), T.okM f k t = true → Rep g T x cs → Rep g' (T.mv f t K) (mvD f t K T x) cs := by
  intro T
  induction T with
  | prod a b iha ihb =>
    intro x cs ho
    simp only [Ty.okM, Bool.and_eq_true] at ho
    rintro ⟨c1, c2, rfl, h1, h2⟩
    exact ⟨c1, c2, rfl, iha _ _ ho.1 h1, ihb _ _ ho.2 h2⟩
  | vc i j =>
    intro x cs ho hr
    simp only [Ty.okM, Bool.or_eq_true, Bool.and_eq_true, decide_eq_true_eq] at ho
    by_cases hi : i = f
    · subst hi
      have hj : j = k := by
        rcases ho with ho | ho
        · exact ho.2
        · simp [nei] at ho
      subst hj
      obtain ⟨s, n, h1, h2⟩ := h.vec
      show Rep g' (.vc (if i = i then t else i) (if i = i then K else j)) () cs
      rw [if_pos rfl, if_pos rfl]
      simp only [Rep, G.vcr, h1, h2] at hr ⊢
      obtain ⟨q1, _, q2⟩ := hr
      refine ⟨q1, Nat.le_refl _, fun _ => ?_⟩
      rw [h.bl, h.sz]
      exact q2 trivial
    · have hn : nei f t i = true := by
        rcases ho with ho | ho
        · exact absurd ho.1 hi
        · exact ho
      show Rep g' (.vc (if i = f then t else i) (if i = f then K else j)) () cs
      rw [if_neg hi, if_neg hi]
      exact (inn_Rep h.ag (.vc i j) () cs hn).1 hr
  | _ => intro x cs ho hr; exact (inn_Rep h.ag _ x cs ho).1 hr

theorem mv_TRep {f k t K : Nat} {g g' : G} (h : g.moved f k t K g') {T : Ty} {x : T.den} {v : Value} (ho : T.okM f k t = true) (hr : TRep g T x v) : TRep g' (T.mv f t K) (mvD f t K T x) v := by
  have hag : (T.mv f t K).agg = T.agg := by unfold Ty.agg; rw [mv_sk]
  unfold TRep at hr ⊢
  rw [hag]
  split
  · rw [if_pos (by assumption)] at hr; obtain ⟨cs, h1, h2⟩ := hr; exact ⟨cs, h1, mv_Rep h _ _ _ ho h2⟩
  · rw [if_neg (by assumption)] at hr; exact mv_Rep h _ _ _ ho hr

def AV.mv (f k t K : Nat) : AV → AV
  | .v T x => if T.okM f k t then .v (T.mv f t K) (mvD f t K T x) else AV.und
  | .tup l => if l.all fun v => v.T.inn (nei f t) false then .tup l else AV.und

def Entry.mv (f t K : Nat) : Entry → Entry
  | .box T x => .box (T.mv f t K) (mvD f t K T x)
  | e => e

def Entry.okM (f k t : Nat) : Entry → Bool
  | .box T _ => T.okM f k t
  | .vec _ a _ => a.inn (nei f t) false
  | _ => true

/-- entry f's slice is put into entry t, its growths counted from K on -/
def movSt (f t K : Nat) (st : St) : Option St :=
  match getE st.heap f with
  | .vec k a l => if decide (t < st.heap.length) && st.heap.all (Entry.okM f k t) then
      some ⟨st.env.map (AV.mv f k t K), setE (setE (st.heap.map (Entry.mv f t K)) f .dead) t (.vec K a l)⟩ else none
  | _ => none

theorem getE_mapH (h : Entry → Entry) (hf : h .free = .free) : ∀ (H : Heap) (i : Nat), getE (H.map h) i = h (getE H i)
  | [], _ => hf.symm
  | a :: l, 0 => rfl
  | a :: l, i + 1 => by simpa only [List.map_cons, getE] using getE_mapH h hf l i

theorem mv_und {f t K : Nat} {T : Ty} (h : T ≠ .und) : T.mv f t K ≠ .und := by
  cases T <;> first | (simp [Ty.mv]; done) | exact h

theorem movSt_rep {g g2 : G} {st st' : St} {a : Act} {w : World} {f t K : Nat} (hle : g.le g2) (h : SRep g2 st a w) (hs : movSt f t K st = some st') (hT : g.sh t = .free ∨ ∃ k0 s n, g.sh t = .vec k0 s n ∧ k0 < K) (hF : f = t ∨ g.sh f = .free) :
    (∃ g3, g.le g3 ∧ SRep g3 st' a w) ∧ st'.heap.length = st.heap.length := by
  unfold movSt at hs
  split at hs
  · rename_i k b l hE
    split at hs
    · rename_i hc
      simp only [Option.some.injEq] at hs
      subst hs
      simp only [Bool.and_eq_true, decide_eq_true_eq] at hc
      obtain ⟨htl, hok⟩ := hc
      refine ⟨?_, by simp [setE_length]⟩
      have hI := h.heap
      have hlive : (getE st.heap f).live = true := by rw [hE]; rfl
      have hfl := lt_of_live hlive
      have hokE : ∀ i, Entry.okM f k t (getE st.heap i) = true := getE_all (p := Entry.okM f k t) rfl hok
      have hb : b.inn (nei f t) false = true := by have := hokE f; rw [hE] at this; exact this
      have hsh : g2.sh f = .vec k b.sk l.length := by rw [hI.sh, hE]; rfl
      let g3 : G := { g2 with
        sh := fun i => if i = t then .vec K b.sk l.length else if i = f then .dead else g2.sh i
        bl := fun i => if i = t then g2.bl f else g2.bl i
        sz := fun i => if i = t then g2.sz f else g2.sz i }
      have hag : g2.agree (nei f t) false g3 := by
        refine ⟨fun _ _ h => h, fun _ _ _ h => h, fun e he => ?_⟩
        simp only [nei, Bool.and_eq_true, decide_eq_true_eq] at he
        simp [g3, he.1, he.2]
      have hmv : g2.moved f k t K g3 := ⟨hag, ⟨_, _, hsh, by simp [g3]⟩, by simp [g3], by simp [g3]⟩
      have hget : ∀ i, getE (setE (setE (st.heap.map (Entry.mv f t K)) f .dead) t (.vec K b l)) i = if i = t then .vec K b l else if i = f then .dead else Entry.mv f t K (getE st.heap i) := by
        intro i
        rw [getE_setE, getE_setE, getE_mapH _ rfl]
        by_cases h1 : i = t
        · rw [if_pos ⟨h1, by simpa [setE_length] using htl⟩, if_pos h1]
        · rw [if_neg (fun x => h1 x.1), if_neg h1]
          by_cases h2 : i = f
          · rw [if_pos ⟨h2, by simpa using hfl⟩, if_pos h2]
          · rw [if_neg (fun x => h2 x.1), if_neg h2]
      have hmvl : ∀ E : Entry, (Entry.mv f t K E).live = E.live := fun E => by cases E <;> rfl
      have hmvs : ∀ E : Entry, shp (Entry.mv f t K E) = shp E := fun E => by cases E <;> simp [Entry.mv, shp, mv_sk]
      have hle3 : g.le g3 := by
        refine ⟨hle.fr, hle.gr, hle.ext, fun i => ?_⟩
        by_cases hi : i = t
        · subst hi
          rcases hT with hT | ⟨k0, s, n, hT, hlt⟩
          · exact .new hT
          · exact .grew (s' := b.sk) (n' := l.length) hT (by simp [g3]) hlt
        · by_cases hf : i = f
          · subst hf
            rcases hF with hF | hF
            · exact absurd hF hi
            · exact .new hF
          · have e1 : g3.sh i = g2.sh i := by simp [g3, hi, hf]
            have e2 : g3.bl i = g2.bl i := by simp [g3, hi]
            have e3 : g3.sz i = g2.sz i := by simp [g3, hi]
            cases hle.ent i with
            | same a b c => exact .same (e1.trans a) (e2.trans b) (e3.trans c)
            | dead a => exact .dead (e1.trans a)
            | grew a b c => exact .grew a (e1.trans b) c
            | new a => exact .new a
      refine ⟨g3, hle3, ⟨?_, ?_, h.defers⟩⟩
      · refine ⟨by rw [List.length_map]; exact h.env.1, fun i => ?_⟩
        have hv := h.env.2 i
        simp only
        rw [getV_map _ (by simp [AV.mv, AV.none])]
        generalize getV st.env i = v at hv ⊢
        cases v with
        | v T x =>
          simp only [AV.mv]
          split
          · rename_i ho
            by_cases hu : T = .und
            · subst hu; trivial
            · exact (VRep_v (mv_und hu)).2 (mv_TRep hmv ho ((VRep_v hu).1 hv))
          · trivial
        | tup l' =>
          simp only [AV.mv]
          split
          · rename_i ho
            obtain ⟨vs, h1, h2⟩ := hv
            exact ⟨vs, h1, inn_tup hag ho h2⟩
          · trivial
      · refine ⟨?_, hI.fr, hI.gr, ?_, ?_, hI.sep, ?_, hI.ext⟩
        · intro i
          simp only
          rw [hget]
          by_cases hi : i = t
          · simp [g3, hi, shp]
          · by_cases hf : i = f
            · rw [if_neg hi, if_pos hf]
              subst hf
              simp only [g3, if_neg hi, if_true]
              rfl
            · rw [if_neg hi, if_neg hf, hmvs]
              simp only [g3, if_neg hi, if_neg hf]
              exact hI.sh i
        · intro i
          simp only
          rw [hget]
          by_cases hi : i = t
          · subst hi
            rw [if_pos rfl]
            have he := hI.ent f
            rw [hE] at he
            rcases he with ⟨q1, q2⟩ | ⟨b', cs, tt, fz, vs, r, q1, q2, q3, q4, q5, q6, q7⟩
            · exact .inl ⟨by simp [g3, q1], q2⟩
            · exact .inr ⟨b', cs, tt, fz, vs, r, by simp [g3, q1], q2, q3, by simp [g3, q4], q5, repL_mono (fun y _ cs => (inn_Rep hag b y cs hb).1) q6, q7⟩
          · by_cases hf : i = f
            · rw [if_neg hi, if_pos hf]; trivial
            · rw [if_neg hi, if_neg hf]
              have he := hI.ent i
              have ho := hokE i
              cases hEi : getE st.heap i with
              | free => trivial
              | dead => trivial
              | box T x =>
                rw [hEi] at he ho
                obtain ⟨b', cs, tt, fz, q1, q2, q3, q4⟩ := he
                exact ⟨b', cs, tt, fz, by simp [g3, hi, q1], q2, q3, mv_Rep hmv _ _ _ ho q4⟩
              | vec k2 a2 l2 =>
                rw [hEi] at he ho
                rcases he with ⟨q1, q2⟩ | ⟨b', cs, tt, fz, vs, r, q1, q2, q3, q4, q5, q6, q7⟩
                · exact .inl ⟨by simp [g3, hi, q1], q2⟩
                · exact .inr ⟨b', cs, tt, fz, vs, r, by simp [g3, hi, q1], q2, q3, by simp [g3, hi, q4], q5, repL_mono (fun y _ cs => (inn_Rep hag a2 y cs ho).1) q6, q7⟩
        · intro i b' hl hb'
          simp only at hl
          rw [hget] at hl
          by_cases hi : i = t
          · have : g2.bl f = some b' := by simpa [g3, hi] using hb'
            exact hI.own f b' hlive this
          · by_cases hf : i = f
            · rw [if_neg hi, if_pos hf] at hl; cases hl
            · rw [if_neg hi, if_neg hf, hmvl] at hl
              exact hI.own i b' hl (by simpa [g3, hi] using hb')
        · intro i j b' hl hl' hb1 hb2
          simp only at hl hl'
          rw [hget] at hl hl'
          by_cases hi : i = t
          · have e1 : g2.bl f = some b' := by simpa [g3, hi] using hb1
            by_cases hj : j = t
            · rw [hi, hj]
            · exfalso
              by_cases hjf : j = f
              · rw [if_neg hj, if_pos hjf] at hl'; cases hl'
              · rw [if_neg hj, if_neg hjf, hmvl] at hl'
                have e2 : g2.bl j = some b' := by simpa [g3, hj] using hb2
                exact hjf (hI.dis j f b' hl' hlive e2 e1)
          · by_cases hif : i = f
            · rw [if_neg hi, if_pos hif] at hl; cases hl
            · rw [if_neg hi, if_neg hif, hmvl] at hl
              have e1 : g2.bl i = some b' := by simpa [g3, hi] using hb1
              by_cases hj : j = t
              · exfalso
                have e2 : g2.bl f = some b' := by simpa [g3, hj] using hb2
                exact hif (hI.dis i f b' hl hlive e1 e2)
              · by_cases hjf : j = f
                · rw [if_neg hj, if_pos hjf] at hl'; cases hl'
                · rw [if_neg hj, if_neg hjf, hmvl] at hl'
                  exact hI.dis i j b' hl hl' e1 (by simpa [g3, hj] using hb2)
    · cases hs
  · cases hs

end Vse

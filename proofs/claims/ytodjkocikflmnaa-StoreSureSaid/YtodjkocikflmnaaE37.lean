/- Functions on entries, wherever these stand: one summary for all calls. Nothing here is about one program. -/
import Derived.Test.YtodjkocikflmnaaE36
set_option linter.unusedVariables false
namespace Vse
open Go Go.ChangeShapes

/-! entries in types -/

def genE : Entry → Nat
  | .vec k _ _ => k
  | _ => 0

def genY : Option ETy → Nat
  | some (.vec k _) => k
  | _ => 0

def idxOf : List Nat → Nat → Nat
  | [], _ => 0
  | x :: l, e => if x = e then 0 else idxOf l e + 1

def dedupN : List Nat → List Nat
  | [] => []
  | x :: l => x :: (dedupN l).filter fun y => !(y == x)

/-- entries to data, under other names -/
def decC (R : Rn) : (Fs : List ETy) → List Entry → Option (HD Fs)
  | [], [] => some ()
  | .dead :: l, _ :: h => decC R l h
  | .box W :: l, .box T x :: h => match conv R W T x with
    | some y => match decC R l h with
      | some r => some (y, r)
      | none => none
    | none => none
  | .vec _ a :: l, .vec _ b x :: h => if b.inn noE false then (match castL ⟨b, x⟩ a with
    | some y => match decC R l h with
      | some r => some (y, r)
      | none => none
    | none => none) else none
  | _, _ => none

def liveY : Option ETy → Bool
  | some (.box _) => true
  | some (.vec _ _) => true
  | _ => false

theorem decC_EC {R : Rn} : ∀ {Fs : List ETy} {h : List Entry} {y : HD Fs}, decC R Fs h = some y → h.length = Fs.length ∧ ∀ t, liveY Fs[t]? = true → EC R (getE h t) (getE (encH Fs y) t)
  | [], [], y, _ => ⟨rfl, fun t ht => by simp [liveY] at ht⟩
  | [], _ :: _, y, h => by simp [decC] at h
  | .free :: l, [], y, h => by simp [decC] at h
  | .free :: l, _ :: _, y, h => by simp [decC] at h
  | .dead :: l, [], y, h => by simp [decC] at h
  | .dead :: l, e :: hh, y, h => by
    simp only [decC] at h
    obtain ⟨q1, q2⟩ := decC_EC h
    refine ⟨by simp [q1], fun t ht => ?_⟩
    cases t with
    | zero => simp [liveY] at ht
    | succ t => exact q2 t (by simpa using ht)
  | .box W :: l, [], y, h => by simp [decC] at h
  | .box W :: l, e :: hh, y, h => by
    cases e <;> simp only [decC] at h <;> try (cases h; done)
    split at h
    · rename_i z hz
      split at h
      · rename_i r hr
        simp only [Option.some.injEq] at h
        subst h
        obtain ⟨q1, q2⟩ := decC_EC hr
        refine ⟨by simp [q1], fun t ht => ?_⟩
        cases t with
        | zero => exact hz
        | succ t => exact q2 t (by simpa using ht)
      · cases h
    · cases h
  | .vec k a :: l, [], y, h => by simp [decC] at h
  | .vec k a :: l, e :: hh, y, h => by
    cases e <;> simp only [decC] at h <;> try (cases h; done)
    split at h
    · rename_i hi
      split at h
      · rename_i z hz
        split at h
        · rename_i r hr
          simp only [Option.some.injEq] at h
          subst h
          obtain ⟨q1, q2⟩ := decC_EC hr
          refine ⟨by simp [q1], fun t ht => ?_⟩
          cases t with
          | zero => exact ⟨castL_some hz, hi⟩
          | succ t => exact q2 t (by simpa using ht)
        · cases h
      · cases h
    · cases h

theorem encH_dead : ∀ {Fs : List ETy} {y : HD Fs} {t : Nat}, liveY Fs[t]? = false → (getE (encH Fs y) t).live = false
  | [], y, t, h => rfl
  | E :: l, y, 0, h => by cases E <;> simp [liveY] at h <;> rfl
  | E :: l, y, t + 1, h => by
    cases E <;> exact encH_dead (Fs := l) (by simpa using h)

theorem encH_gen : ∀ {Fs : List ETy} {y : HD Fs} {t K : Nat} {a : Ty} {l : List a.den}, getE (encH Fs y) t = .vec K a l → genY Fs[t]? = K
  | [], y, t, K, a, l, h => by simp [encH, getE] at h
  | E :: Es, y, 0, K, a, l, h => by
    cases E <;> simp [encH, getE] at h
    simp [genY, h.1]
  | E :: Es, y, t + 1, K, a, l, h => by
    have : genY Es[t]? = K := by
      cases E <;> exact encH_gen (Fs := Es) h
    simpa using this

/-- entries as they are told -/
structure PSpec where
  As : List Ty
  Rs : List Ty
  Es : List ETy
  Fs : List ETy
  inis : List (Nat × Nat × Ty)

abbrev PSpec.Out (S : PSpec) := HL S.Rs × HD S.Fs
def PSpec.dfl (S : PSpec) : S.Out := (dflL S.Rs, dflE S.Fs)
def PSpec.news (S : PSpec) : Nat := S.Fs.length - S.Es.length

def convL (R : Rn) : (Ws : List Ty) → List TV → Option (HL Ws)
  | [], [] => some ()
  | W :: Ws, t :: ts => match conv R W t.T t.x with
    | some y => match convL R Ws ts with
      | some r => some (y, r)
      | none => none
    | none => none
  | _, _ => none

def convR (R : Rn) : (Ws : List Ty) → AV → Option (HL Ws)
  | [W], .v T x => match conv R W T x with
    | some y => some (y, ())
    | none => none
  | [_], .tup _ => none
  | Ws, .tup l => convL R Ws l
  | _, _ => none

theorem convL_rep {R : Rn} {g g' : G} (hc : CRel R g g') : ∀ {Ws : List Ty} {l : List TV} {y : HL Ws} {vs : List Value}, convL R Ws l = some y → tupRep g l vs → tupRep g' (tvs Ws y) vs
  | [], [], y, vs, _, hr => hr
  | [], _ :: _, y, vs, h, _ => by simp [convL] at h
  | W :: Ws, [], y, vs, h, _ => by simp [convL] at h
  | W :: Ws, t :: ts, y, vs, h, ⟨v, r, h1, h2, h3⟩ => by
    simp only [convL] at h
    split at h
    · rename_i z hz
      split at h
      · rename_i q hq
        simp only [Option.some.injEq] at h
        subst h
        exact ⟨v, r, h1, conv_TRep hc hz h2, convL_rep hc hq h3⟩
      · cases h
    · cases h

theorem convR_rep {R : Rn} {g g' : G} (hc : CRel R g g') {Ws : List Ty} {a : AV} {y : HL Ws} {v : Value} (h : convR R Ws a = some y) (hr : VRep g a v) : VRep g' (ofHL Ws y) v := by
  unfold convR at h
  split at h
  · split at h
    · rename_i z hz
      simp only [Option.some.injEq] at h
      subst h
      exact conv_VRep hc hz hr
    · cases h
  · cases h
  · rename_i Ws' l hne
    obtain ⟨vs, rfl, hr⟩ := hr
    have := convL_rep hc h hr
    unfold ofHL
    split
    · exact absurd rfl (hne _)
    · exact ⟨vs, rfl, this⟩
  · cases h

/-! what a function leaves, under the names that are told -/

/-- which entry stands for which name -/
def unifU : Ty → Ty → List (Nat × Nat)
  | .vc i _, .vc e _ => [(e, i)]
  | .ptr i _, .ptr e _ => [(e, i)]
  | .prod a b, .prod c d => unifU a c ++ unifU b d
  | .fn _ a, .fn _ b => unifU a b
  | _, _ => []

def unifTs : List Ty → List TV → List (Nat × Nat)
  | W :: Ws, t :: ts => unifU t.T W ++ unifTs Ws ts
  | _, _ => []

def unifR : List Ty → AV → List (Nat × Nat)
  | [W], .v T _ => unifU T W
  | Ws, .tup l => unifTs Ws l
  | _, _ => []

def lookP (d : Nat) : List (Nat × Nat) → Nat
  | [] => d
  | (e, i) :: l => if e = d then i else lookP d l

/-- ..of all, one behind the other -/
def srcs (H : Heap) : List ETy → Nat → List (Nat × Nat) → List Nat
  | [], _, _ => []
  | .box W :: Fs, t, ps => lookP t ps :: srcs H Fs (t + 1) (ps ++ match getE H (lookP t ps) with
    | .box T _ => unifU T W
    | _ => [])
  | .vec _ _ :: Fs, t, ps => lookP t ps :: srcs H Fs (t + 1) ps
  | _ :: Fs, t, ps => (H.length + t) :: srcs H Fs (t + 1) ps

def boxIds : List ETy → Nat → List (Nat × Nat)
  | [], _ => []
  | .box _ :: Es, t => (t, t) :: boxIds Es (t + 1)
  | _ :: Es, t => boxIds Es (t + 1)

def addNils : List (Nat × Nat × Ty) → St → St
  | [], st => st
  | (b, m, a) :: l, st => match addIniB b m 0 a st with
    | some st' => addNils l st'
    | none => addNils l st

/-- may an entry that was there turn so? -/
def turnOk : ETy → ETy → Bool → Bool
  | .box _, .box _, same => same
  | .vec k _, .vec k' _, same => decide (k < k') || (decide (k = k') && same)
  | .box _, .dead, _ => true
  | .vec _ _, .dead, _ => true
  | .dead, .dead, _ => true
  | _, _, _ => false

def turnsOk (H : Heap) : List ETy → List ETy → List Nat → Nat → Bool
  | [], _, _, _ => true
  | E :: Es, F :: Fs, s :: ss, t => turnOk E F (s == t && decide (genE (getE H s) = genY (some F))) && turnsOk H Es Fs ss (t + 1)
  | _, _, _, _ => false

def rnOf (Fs : List ETy) (H : Heap) (ss : List Nat) : Rn where
  p e := decide (idxOf ss e < Fs.length) && liveY Fs[idxOf ss e]? && decide (ss[idxOf ss e]? = some e)
  cur e := genE (getE H e)
  to e := idxOf ss e
  gT t := genY Fs[t]?
  lent _ := .dead

def PSpec.norm (S : PSpec) (r0 : AV × Heap) : Option S.Out :=
  let r1 := sealR S.Rs r0
  let H := (addNils S.inis ⟨[], r1.2⟩).heap
  let ss := srcs H S.Fs 0 (unifR S.Rs r1.1 ++ boxIds S.Es 0)
  if turnsOk H S.Es S.Fs ss 0 && (List.range S.Fs.length).all fun t => !(liveY S.Fs[t]?) || decide (idxOf ss (ss.getD t 0) = t) then
    match convR (rnOf S.Fs H ss) S.Rs r1.1 with
    | some x => match decC (rnOf S.Fs H ss) S.Fs (ss.map (getE H)) with
      | some y => some (x, y)
      | none => none
    | none => none
  else none

/-- what the function makes of data -/
def fnP (P : Program) (C : Ctx) (L : Loops) (S : PSpec) (fn : Func) (xs : HL S.As) (hs : HD S.Es) : Tr S.Out :=
  (fnK P C L fn (mkArgs S.As xs) (encH S.Es hs)).bind fun r => match S.norm r with
    | some d => .ret d
    | none => .fail

theorem addNils_rep {a : Act} {w : World} : ∀ {l : List (Nat × Nat × Ty)} {g : G} {st : St}, SRep g st a w → ∃ g', g.le g' ∧ SRep g' (addNils l st) a w
  | [], g, st, h => ⟨g, G.le.refl g, h⟩
  | (b, m, A) :: l, g, st, h => by
    simp only [addNils]
    split
    · rename_i st' hs
      obtain ⟨g1, q1, q2⟩ := addIniB_rep h hs
      obtain ⟨g2, w1, w2⟩ := addNils_rep (l := l) q2
      exact ⟨g2, q1.trans w1, w2⟩
    · exact addNils_rep h

theorem turnsOk_spec {H : Heap} : ∀ {Es Fs : List ETy} {ss : List Nat} {t0 : Nat}, turnsOk H Es Fs ss t0 = true → ∀ t, t < Es.length → ∃ E F s, Es[t]? = some E ∧ Fs[t]? = some F ∧ ss[t]? = some s ∧ turnOk E F (s == t0 + t && decide (genE (getE H s) = genY (some F))) = true
  | [], _, _, _, _, t, h => by simp at h
  | E :: Es, [], _, _, h, _, _ => by simp [turnsOk] at h
  | E :: Es, F :: Fs, [], _, h, _, _ => by simp [turnsOk] at h
  | E :: Es, F :: Fs, s :: ss, t0, h, t, ht => by
    simp only [turnsOk, Bool.and_eq_true] at h
    cases t with
    | zero => exact ⟨E, F, s, rfl, rfl, rfl, h.1⟩
    | succ t =>
      obtain ⟨E', F', s', a, b, c, d⟩ := turnsOk_spec h.2 t (by simpa using ht)
      exact ⟨E', F', s', by simpa using a, by simpa using b, by simpa using c, by rw [show t0 + (t + 1) = t0 + 1 + t by omega]; exact d⟩

theorem encH_shp : ∀ {Es : List ETy} {y : HD Es} {t : Nat} {E : ETy}, Es[t]? = some E → match E with
    | .box T => ∃ x, getE (encH Es y) t = .box T x
    | .vec k a => ∃ l, getE (encH Es y) t = .vec k a l
    | .dead => getE (encH Es y) t = .dead
    | .free => getE (encH Es y) t = .free
  | [], y, t, E, h => by simp at h
  | E0 :: l, y, 0, E, h => by
    simp only [List.getElem?_cons_zero, Option.some.injEq] at h
    subst h
    cases E0 <;> first | rfl | exact ⟨_, rfl⟩
  | E0 :: l, y, t + 1, E, h => by
    have h : l[t]? = some E := by simpa using h
    cases E0 <;> exact encH_shp (Es := l) h

theorem getE_map' (f : Nat → Entry) : ∀ (l : List Nat) (t : Nat), getE (l.map f) t = match l[t]? with | some s => f s | none => .free
  | [], t => rfl
  | s :: l, 0 => rfl
  | s :: l, t + 1 => by simpa only [List.map_cons, getE, List.getElem?_cons_succ] using getE_map' f l t

/-- what an entry is known to be -/
def isY (s : ESh) : Option ETy → Prop
  | some (.box _) => ∃ k, s = .box k
  | some (.vec k _) => ∃ a n, s = .vec k a n
  | some _ => True
  | none => s = .free

theorem ren_step {g gn : G} {H : Heap} {w : World} {E0 Fs : List ETy} {ss : List Nat} {y : HD Fs} (hle : g.le gn) (hI : HInv gn H w) (h0 : ∀ t, isY (g.sh t) E0[t]?)
    (hturn : turnsOk H E0 Fs ss 0 = true) (hall : ((List.range Fs.length).all fun t => !(liveY Fs[t]?) || decide (idxOf ss (ss.getD t 0) = t)) = true) (hy : decC (rnOf Fs H ss) Fs (ss.map (getE H)) = some y) :
    ∃ g3, g.le g3 ∧ HInv g3 (encH Fs y) w ∧ CRel (rnOf Fs H ss) gn g3 := by
  obtain ⟨hlen, hEC⟩ := decC_EC hy
  have hlen : ss.length = Fs.length := by simpa using hlen
  have hlv : ∀ t, liveY Fs[t]? = true → t < Fs.length := by
    intro t ht
    rcases Nat.lt_or_ge t Fs.length with h | h
    · exact h
    · rw [List.getElem?_eq_none h] at ht; cases ht
  have hidx : ∀ t, liveY Fs[t]? = true → idxOf ss (ss.getD t 0) = t := by
    intro t ht
    have := List.all_eq_true.1 hall t (List.mem_range.2 (hlv t ht))
    simpa [ht] using this
  have hgd : ∀ t, t < Fs.length → ss[t]? = some (ss.getD t 0) := by
    intro t ht
    rw [List.getD_eq_getElem?_getD, List.getElem?_eq_getElem (by omega)]
    rfl
  have key := conv_inv (R := rnOf Fs H ss) (q := fun t => liveY Fs[t]?) (from_ := fun t => ss.getD t 0) (H' := encH Fs y) hI
    (fun e he => by
      simp only [rnOf, Bool.and_eq_true, decide_eq_true_eq] at he
      refine ⟨he.1.2, ?_⟩
      simp only [rnOf, List.getD_eq_getElem?_getD, he.2, Option.getD_some])
    (fun t ht => by
      refine ⟨?_, hidx t ht⟩
      simp only [rnOf, hidx t ht, Bool.and_eq_true, decide_eq_true_eq]
      exact ⟨⟨hlv t ht, ht⟩, hgd t (hlv t ht)⟩)
    (fun e k a l he hE => by simp only [rnOf, hE, genE])
    (fun t K a l ht hE => encH_gen hE)
    (fun t ht => by
      have := hEC t ht
      rw [getE_map', hgd t (hlv t ht)] at this
      exact this)
    (fun t ht => encH_dead ht)
    (fun e => rfl)
  obtain ⟨k1, k2⟩ := key
  refine ⟨_, ?_, k1, k2⟩
  refine ⟨hle.fr, hle.gr, hle.ext, fun t => ?_⟩
  show Turn g (gn.rn _ (encH Fs y)) t
  rcases Nat.lt_or_ge t E0.length with ht | ht
  · obtain ⟨E, F, s, e1, e2, e3, e4⟩ := turnsOk_spec hturn t ht
    rw [Nat.zero_add] at e4
    have hs1 := h0 t
    rw [e1] at hs1
    have hs2 := encH_shp (y := y) e2
    have hsrc : ss.getD t 0 = s := by rw [List.getD_eq_getElem?_getD, e3]; rfl
    have same : (s == t) = true → liveY Fs[t]? = true → (∀ k s n, gn.sh t = .vec k s n → genY Fs[t]? = k) → (∀ k s n k' s' n', g.sh t = .vec k s n → gn.sh t = .vec k' s' n' → ¬ k < k') → g.sh t ≠ .free → Turn g (gn.rn (fun t => ss.getD t 0) (encH Fs y)) t := by
      intro hst hlt hg hno hnf
      have hst : s = t := by simpa using hst
      subst hst
      have hsm := k2.sh s (by
        simp only [rnOf, Bool.and_eq_true, decide_eq_true_eq]
        have := hidx s hlt
        rw [hsrc] at this
        rw [this]
        exact ⟨⟨hlv _ hlt, hlt⟩, e3⟩)
      have hto : (rnOf Fs H ss).to s = s := by
        have := hidx s hlt
        rw [hsrc] at this
        exact this
      rw [hto] at hsm
      have hb : (gn.rn (fun t => ss.getD t 0) (encH Fs y)).bl s = gn.bl s := by show gn.bl (ss.getD s 0) = _; rw [hsrc]
      have hz : (gn.rn (fun t => ss.getD t 0) (encH Fs y)).sz s = gn.sz s := by show gn.sz (ss.getD s 0) = _; rw [hsrc]
      have hsm' : gn.sh s = .free ∨ (gn.rn (fun t => ss.getD t 0) (encH Fs y)).sh s = gn.sh s := by
        cases hgs : gn.sh s with
        | free => exact .inl rfl
        | dead => rw [hgs] at hsm; exact .inr hsm
        | box q => rw [hgs] at hsm; exact .inr hsm
        | vec k q n =>
          rw [hgs] at hsm
          refine .inr (hsm.2.trans ?_)
          show ESh.vec (genY Fs[s]?) q n = _
          rw [hg _ _ _ hgs]
      cases hle.ent s with
      | same a b c =>
        rcases hsm' with hf | hsm'
        · exact absurd (a.symm.trans hf) hnf
        · exact .same (hsm'.trans a) (hb.trans b) (hz.trans c)
      | dead a =>
        rcases hsm' with hf | hsm'
        · rw [a] at hf; cases hf
        · exact .dead (hsm'.trans a)
      | grew a b c => exact absurd c (hno _ _ _ _ _ _ a b)
      | new a => exact absurd a hnf
    have gone : F = .dead → Turn g (gn.rn (fun t => ss.getD t 0) (encH Fs y)) t := by
      rintro rfl
      refine .dead ?_
      show shp (getE (encH Fs y) t) = .dead
      rw [hs2]; rfl
    cases E with
    | free => cases F <;> simp [turnOk] at e4
    | dead => cases F <;> first | (simp [turnOk] at e4; done) | exact gone rfl
    | box T =>
      obtain ⟨k0, hg0⟩ := hs1
      cases F with
      | free => simp [turnOk] at e4
      | vec => simp [turnOk] at e4
      | dead => exact gone rfl
      | box W =>
        refine same (by simp only [turnOk, Bool.and_eq_true] at e4; exact e4.1) (by rw [e2]; rfl) ?_ ?_ (by rw [hg0]; simp)
        · intro k s' n' hk
          cases hle.ent t with
          | same a b c => rw [a, hg0] at hk; cases hk
          | dead a => rw [a] at hk; cases hk
          | grew a b c => rw [hg0] at a; cases a
          | new a => rw [hg0] at a; cases a
        · intro k s n k' s' n' hk
          rw [hg0] at hk; cases hk
    | vec k a =>
      obtain ⟨a0, n0, hg0⟩ := hs1
      cases F with
      | free => simp [turnOk] at e4
      | box => simp [turnOk] at e4
      | dead => exact gone rfl
      | vec k' b =>
        obtain ⟨y0, hy0⟩ := hs2
        simp only [turnOk, Bool.or_eq_true, Bool.and_eq_true, decide_eq_true_eq] at e4
        rcases e4 with e4 | ⟨e4, e5⟩
        · refine .grew (s' := b.sk) (n' := y0.length) hg0 ?_ e4
          show shp (getE (encH Fs y) t) = _
          rw [hy0]; rfl
        · subst e4
          have hlt : liveY Fs[t]? = true := by rw [e2]; rfl
          have hst : s = t := by simpa using e5.1
          have hgn : genE (getE H t) = k := by
            rw [hst] at e5
            exact e5.2
          have hgen : ∀ k1 s1 n1, gn.sh t = .vec k1 s1 n1 → k1 = k := by
            intro k1 s1 n1 hk
            have := hI.sh t
            rw [hk] at this
            cases hE : getE H t <;> rw [hE] at this hgn <;> simp only [shp] at this <;> cases this
            exact hgn
          refine same (by simpa using hst) hlt ?_ ?_ (by rw [hg0]; simp)
          · intro k1 s1 n1 hk
            rw [e2]
            exact (hgen _ _ _ hk).symm
          · intro q1 q2 q3 q4 q5 q6 hk hk' hlt2
            rw [hg0] at hk
            cases hk
            have := hgen _ _ _ hk'
            omega
  · refine .new ?_
    have := h0 t
    rw [List.getElem?_eq_none ht] at this
    exact this

theorem isY_enc {Es : List ETy} {hs : HD Es} (t : Nat) : isY (shp (getE (encH Es hs) t)) Es[t]? := by
  rcases Nat.lt_or_ge t Es.length with ht | ht
  · have h := encH_shp (y := hs) (List.getElem?_eq_getElem ht)
    rw [List.getElem?_eq_getElem ht]
    cases hE : Es[t] with
    | free => trivial
    | dead => trivial
    | box T => rw [hE] at h; obtain ⟨x, hx⟩ := h; rw [hx]; exact ⟨_, rfl⟩
    | vec k a => rw [hE] at h; obtain ⟨x, hx⟩ := h; rw [hx]; exact ⟨_, _, rfl⟩
  · rw [List.getElem?_eq_none ht, getE_past _ (by rw [encH_length]; exact ht)]
    rfl

theorem pnorm_rep {S : PSpec} {g g2 : G} {hs : HD S.Es} {r : AV × Heap} {rv : Value} {w : World} {d : S.Out} (hsh : ∀ e, g.sh e = shp (getE (encH S.Es hs) e)) (hle : g.le g2) (hI : HInv g2 r.2 w) (hv : VRep g2 r.1 rv)
    (hn : S.norm r = some d) : ∃ g3, g.le g3 ∧ HInv g3 (encH S.Fs d.2) w ∧ VRep g3 (ofHL S.Rs d.1) rv := by
  unfold PSpec.norm at hn
  obtain ⟨gs, hle', hI, hv⟩ := sealR_rep S.Rs hI hv
  have hle := hle.trans hle'
  simp only at hn
  have h0 : SRep gs ⟨[], (sealR S.Rs r).2⟩ ⟨#[], []⟩ w := ⟨⟨rfl, fun i => ⟨#[], by simp [undef], rfl⟩⟩, hI, rfl⟩
  obtain ⟨gn, hle2, h1⟩ := addNils_rep (l := S.inis) h0
  have hI := h1.heap
  have hv := VRep_mono hle2 hv
  have hle := hle.trans hle2
  generalize (addNils S.inis ⟨[], (sealR S.Rs r).2⟩).heap = H at hn hI
  split at hn
  · rename_i hok
    simp only [Bool.and_eq_true] at hok
    obtain ⟨hturn, hall⟩ := hok
    split at hn
    · rename_i x hx
      split at hn
      · rename_i y hy
        simp only [Option.some.injEq] at hn
        subst hn
        obtain ⟨g3, q1, q2, q3⟩ := ren_step hle hI (fun t => by rw [hsh]; exact isY_enc t) hturn hall hy
        exact ⟨g3, q1, q2, convR_rep q3 hx hv⟩
      · cases hn
    · cases hn
  · cases hn

end Vse

/- Each operation of the symbolic machine is one of the model's (7): slices. Nothing here is about one program. -/
import Derived.Test.YtodjkocikflmnaaE11
import Derived.Laws.OwnMore
import Derived.Laws.AppendOwn
import Derived.Laws.MakeOwn
import Derived.Laws.BytesString
import Derived.Lib.ConvBytes
set_option linter.unusedVariables false
set_option linter.unusedSimpArgs false
namespace Vse
open Go

section
variable {P : Program} {g : G} {H : Heap} {w : World}

theorem seen_spec (hI : HInv g H w) {a : AV} {r : Value} (ha : VRep g a r) {T : Ty} {l : List T.den} (hs : seen a (ents H (vcOf a)) = some ⟨T, l⟩) :
    ∃ pv cap vs, r = .slice pv l.length cap ∧ l.length ≤ cap ∧ cap ≤ 9223372036854775807 ∧ repL (Rep g T) l vs ∧ (∀ ad, pv = some ad → ∀ j v, vs[j]? = some v → w.cell? (ad.add j) = some v) ∧ (pv = none → l = []) := by
  unfold seen at hs
  split at hs
  · rename_i q f T' l'
    simp only [Option.some.injEq, Sigma.mk.injEq] at hs
    obtain ⟨rfl, hl⟩ := hs
    have hl := eq_of_heq hl
    subst hl
    have hr := (VRep_v (by simp)).1 ha
    simp only [TRep, Ty.agg, Ty.sk, Sk.agg, Bool.false_eq_true, if_false, Rep] at hr
    obtain ⟨pv, cap, h1, ⟨h2, h3⟩, _, h4⟩ := hr
    simp only [List.cons.injEq, and_true] at h1
    subst h1
    by_cases hl : l' = []
    · subst hl
      exact ⟨pv, cap, [], rfl, h2, h3, rfl, by simp, fun _ => rfl⟩
    · obtain ⟨ad, vs, rfl, h5, h6⟩ := h4 hl
      refine ⟨_, cap, vs, rfl, h2, h3, h5, ?_, by simp⟩
      rintro ad' hx j v hv
      cases hx
      have hrd : ∃ F, (∀ b o, F b = some o → w.heap[b]? = some o) ∧ reads F ad vs := by
        rcases h6 with h6 | ⟨_, h6⟩
        · exact ⟨g.fr, hI.fr, h6⟩
        · exact ⟨g.gr, hI.gr, h6⟩
      obtain ⟨F, hF, hsp, cs, tt, fz, hc, hcs⟩ := hrd
      obtain ⟨b, off, sp⟩ := ad
      simp only at hsp hc hcs
      subst hsp
      rw [addr_add]
      simp only [World.cell?, hF _ _ hc, Option.isSome_none, Bool.false_eq_true, if_false]
      exact hcs j v hv
  · rename_i e k _
    simp only [vcOf, ents] at hs
    split at hs
    · rename_i k' T' l' hE
      simp only [List.cons.injEq, and_true] at hE
      split at hs
      · rename_i hk
        subst hk
        simp only [Option.some.injEq, Sigma.mk.injEq] at hs
        obtain ⟨rfl, hl⟩ := hs
        have hl := eq_of_heq hl
        subst hl
        have hr := (VRep_v (by simp)).1 ha
        simp only [TRep, Ty.agg, Ty.sk, Sk.agg, Bool.false_eq_true, if_false, Rep, G.vcr, hI.sh, hE, shp] at hr
        obtain ⟨_, _, hr⟩ := hr
        have he := hI.ent e
        rw [hE] at he
        rcases hr trivial with ⟨h1, h2, h3⟩ | ⟨b, cap, h1, h2, h3, h4⟩
        · simp only [List.cons.injEq, and_true] at h3
          subst h3
          have hl : l' = [] := List.eq_nil_of_length_eq_zero h2
          subst hl
          exact ⟨none, 0, [], rfl, by simp, by omega, rfl, by simp, fun _ => rfl⟩
        · simp only [List.cons.injEq, and_true] at h2
          subst h2
          rcases he with ⟨q1, _⟩ | ⟨b', cs, t, fz, vs, rr, q1, q2, q3, q4, q5, q6, q7⟩
          · rw [h1] at q1; cases q1
          rw [h1] at q1
          cases q1
          refine ⟨_, cap, vs, rfl, h3.1, h3.2, q6, ?_, by simp⟩
          rintro ad' hx j v hv
          cases hx
          rw [addr_add]
          simp only [World.cell?, q2, Option.isSome_none, Bool.false_eq_true, if_false, Nat.zero_add]
          have hj : j < vs.length := (List.getElem?_eq_some_iff.1 hv).1
          have : cs.toList[j]? = some v := by rw [q5, List.getElem?_append_left hj]; exact hv
          simpa using this
      · cases hs
    · cases hs
  · cases hs

theorem done_next (hI : HInv g H w) {s : Sem Value} {v : Value} {a : AV} (h : s.run P w = .ok v w) (hv : VRep g a v) : Done P g H w (do pure (.value (← s))) (a, []) := done_val hI h hv

theorem inK_len {n : Nat} (h : n ≤ 9223372036854775807) : inK .i64 (n : Int) = true := by
  rw [inK_iff]
  have h1 : IntKind.i64.min = -9223372036854775808 := by decide
  have h2 : IntKind.i64.max = 9223372036854775807 := by decide
  rw [h1, h2]; omega

theorem do_len (hI : HInv g H w) {t : TypeId} {ats : Array TypeId} (hat : ats[0]? = some t) {ty : TypeId} {cts : Array Bool} {vs : List AV} {rs : List Value} (ha : argsRep g vs rs) {out : Out} {c : Call}
    (hc : ∃ args at', c = { callee := .builtin .len, args := args, argTypes := at' })
    (he : (c_len P t vs (ents H (idsOf (.call c) vs))).eval = some out) : Done P g H w (builtin .len ats ty cts rs.toArray) out := by
  obtain ⟨cargs, at', rfl⟩ := hc
  have hb : builtin .len ats ty cts rs.toArray = (do pure (.value (← Builtin.len_ ats ty rs.toArray)) : Sem Next) := rfl
  rw [hb]
  unfold c_len at he
  split at he
  · rename_i s
    obtain ⟨v, r, rfl, hv, hr⟩ := ha
    simp only [argsRep] at hr
    subst hr
    split at he
    · rename_i hu
      have := Tr.ret_some he; subst this
      have hv := (VRep_v (by simp)).1 hv
      rw [TRep_str] at hv
      obtain ⟨rfl, hs⟩ := hv
      refine done_val hI (v := .int .i64 (s.size : Int)) ?_ ((VRep_v (by simp)).2 (TRep_int.2 ⟨rfl, inK_len hs⟩))
      simp [Builtin.len_, hat, run_underlying hu, goInt]
    · exact (Tr.fail_some he).elim
  · rename_i x
    obtain ⟨v, r, rfl, hv, hr⟩ := ha
    simp only [argsRep] at hr
    subst hr
    split at he
    · rename_i e hel
      have := Tr.ret_some he; subst this
      have hu := sliceEl_spec hel
      have hv := (VRep_v (by simp)).1 hv
      simp only [TRep, Ty.agg, Ty.sk, Sk.agg, Bool.false_eq_true, if_false, Rep, List.cons.injEq, and_true] at hv
      subst hv
      refine done_val hI (v := .int .i64 (0 : Int)) ?_ ((VRep_v (by simp)).2 (TRep_int.2 ⟨rfl, inK_zero _⟩))
      simp [Builtin.len_, hat, run_underlying hu, goInt]
    · exact (Tr.fail_some he).elim
  · rename_i x _ _
    obtain ⟨v, r, rfl, hv, hr⟩ := ha
    simp only [argsRep] at hr
    subst hr
    split at he
    · rename_i e hel
      have hu := sliceEl_spec hel
      split at he
      · rename_i T l hs
        have := Tr.ret_some he; subst this
        simp only [idsOf] at hs
        obtain ⟨pv, cap, us, rfl, h2, h3, _⟩ := seen_spec hI hv hs
        refine done_val hI (v := .int .i64 (l.length : Int)) ?_ ((VRep_v (by simp)).2 (TRep_int.2 ⟨rfl, inK_len (by omega)⟩))
        simp [Builtin.len_, hat, run_underlying hu, goInt]
      · exact (Tr.fail_some he).elim
    · exact (Tr.fail_some he).elim
  · exact (Tr.fail_some he).elim

theorem elBytes_spec {t : TypeId} {n : Nat} (h : elBytes P t = some n) : ∃ e i z, P.underlying t = some (.slice e) ∧ P.info? e = some i ∧ i.zero = some z ∧ z.cells.size = i.size ∧ i.bytes = n ∧ (n ≠ 0 ∧ n ≤ 1073741824) ∧ ∀ v ∈ z.cells.toList, v.oneCell' = true := by
  unfold elBytes at h
  split at h
  · rename_i e hel
    split at h
    · rename_i i hi
      split at h
      · rename_i z hz
        split at h
        · rename_i hc
          simp only [Option.some.injEq] at h
          subst h
          simp only [Bool.and_eq_true, decide_eq_true_eq, Array.all_eq_true] at hc
          refine ⟨e, i, z, sliceEl_spec hel, hi, hz, hc.1, rfl, ⟨hc.2.1, hc.2.2.1⟩, fun v hv => ?_⟩
          obtain ⟨j, hj, rfl⟩ := List.mem_iff_getElem.1 hv
          exact hc.2.2.2 j (by simpa using hj)
        · cases h
      · cases h
    · cases h
  · cases h

theorem elOk_spec {t e : TypeId} {a : Ty} (h : elOk P t a = true) (hu : P.underlying t = some (.slice e)) : sk? P e = some a.sk ∧ 0 < a.nc := by
  unfold elOk sliceEl at h
  rw [hu] at h
  simp only [Bool.and_eq_true, beq_iff_eq, decide_eq_true_eq] at h
  exact ⟨h.1, by omega⟩

theorem zero_one {z : Array Value} (hz : ∀ v ∈ z.toList, v.oneCell' = true) (h0 : 0 < z.size) (n : Nat) : ∀ v ∈ (Builtin.zeroCells z n).toList, v.oneCell' = true := by
  intro v hv
  simp only [Builtin.zeroCells, Array.toList_map, List.mem_map] at hv
  obtain ⟨i, _, rfl⟩ := hv
  have hm := Nat.mod_lt i h0
  rw [getElem!_pos z _ hm]
  exact hz _ (Array.getElem_mem_toList hm)

theorem repL_append {α : Type} {R : α → List Value → Prop} : ∀ {l m : List α} {cs ds : List Value}, repL R l cs → repL R m ds → repL R (l ++ m) (cs ++ ds)
  | [], m, cs, ds, h, h' => by simp only [repL] at h; subst h; exact h'
  | x :: l, m, cs, ds, ⟨c1, c2, h1, h2, h3⟩, h' => ⟨c1, c2 ++ ds, by rw [h1, List.append_assoc], h2, repL_append h3 h'⟩

/-- the header of an own slice -/
theorem vc_rep {g : G} {e k n b cap : Nat} {s : Sk} (hs : g.sh e = .vec k s n) (hb : g.bl e = some b) (h1 : n ≤ cap) (h2 : cap ≤ 9223372036854775807) (h3 : cap * s.nc ≤ g.sz e) :
    VRep g (.v (.vc e k) ()) (.slice (some ⟨b, 0, none⟩) n cap) := by
  refine (VRep_v (by simp)).2 ?_
  simp only [TRep, Ty.agg, Ty.sk, Sk.agg, Bool.false_eq_true, if_false, Rep, G.vcr, hs]
  exact ⟨⟨_, rfl, rfl⟩, Nat.le_refl _, fun _ => .inr ⟨b, cap, hb, rfl, ⟨h1, h2⟩, h3⟩⟩

theorem vc_rep_nil {g : G} {e k : Nat} {s : Sk} (hs : g.sh e = .vec k s 0) (hb : g.bl e = none) : VRep g (.v (.vc e k) ()) (.slice none 0 0) := by
  refine (VRep_v (by simp)).2 ?_
  simp only [TRep, Ty.agg, Ty.sk, Sk.agg, Bool.false_eq_true, if_false, Rep, G.vcr, hs]
  exact ⟨⟨_, rfl, rfl⟩, Nat.le_refl _, fun _ => .inl ⟨hb, trivial, trivial⟩⟩

/-- an entry becomes an own slice that is nil -/
theorem HInv.nilVec {g : G} {H : Heap} {w : World} (h : HInv g H w) {e k : Nat} {a : Ty} (hlt : e < H.length) (hf : getE H e = .free ∨ ∃ k0 a0 l0, getE H e = .vec k0 a0 l0 ∧ k0 < k) :
    ∃ g', g.le g' ∧ HInv g' (setE H e (.vec k a [])) w ∧ g'.sh e = .vec k a.sk 0 ∧ g'.bl e = none := by
  have hle : g.le (g.put e (shp (.vec k a [])) none 0) := by
    refine G.put_le ?_
    rcases hf with hf | ⟨k0, a0, l0, hf, hk⟩
    · exact .new (by rw [h.sh, hf]; rfl)
    · exact .grew (k := k0) (s := a0.sk) (n := l0.length) (s' := a.sk) (n' := 0) (by rw [h.sh, hf]; rfl) (by simp [G.put, shp]) hk
  refine ⟨_, hle, h.turn hlt hle (fun b' o _ ho => ho) (.inl ⟨by simp [G.put], rfl⟩) (by simp) (by simp) h.ext, by simp [G.put, shp], by simp [G.put]⟩

theorem run_append_empty {t ty e : TypeId} {i : TypeInfo} (ht : P.underlying t = some (.slice e)) (hi : P.info? e = some i) (base : Option Addr) (n cap : Nat) (hn : n ≤ cap) (pv : Option Addr) (c : Nat) (w : World) :
    (Builtin.append_ #[t, t] ty #[.slice base n cap, .slice pv 0 c]).run P w = .ok (.slice base n cap) w := by
  cases pv with
  | none =>
    cases base with
    | none => simp [Builtin.append_, run_underlying ht, Go.sizeOf, typeInfo, hi, Builtin.lenOf, hn, Builtin.firstCells]
    | some a => simp [Builtin.append_, run_underlying ht, Go.sizeOf, typeInfo, hi, Builtin.lenOf, hn, Builtin.firstCells, storeCells]
  | some b =>
    cases base with
    | none => simp [Builtin.append_, run_underlying ht, Go.sizeOf, typeInfo, hi, Builtin.lenOf, hn, Builtin.firstCells, loadCells, loadCellsFrom]
    | some a => simp [Builtin.append_, run_underlying ht, Go.sizeOf, typeInfo, hi, Builtin.lenOf, hn, Builtin.firstCells, loadCells, loadCellsFrom, storeCells]

theorem run_append_in (w : World) (t ty e : TypeId) (i : TypeInfo) (ht : P.underlying t = some (.slice e)) (hi : P.info? e = some i)
    (b sLen sCap : Nat) (cur : Array Value) (tt : TypeId) (fz : Nat × Nat) (hg : w.heap[b]? = some (.cells cur tt fz)) (hth : thawed cur fz)
    (a : Addr) (m c : Nat) (news : List Value) (hl : news.length = m * i.size) (hnews : ∀ j u, news[j]? = some u → w.cell? (a.add j) = some u) (h1 : ∀ u ∈ news, u.oneCell' = true)
    (hroom : sLen + m ≤ sCap) (hfit : sLen * i.size + news.length ≤ cur.size) :
    (Builtin.append_ #[t, t] ty #[.slice (some ⟨b, 0, none⟩) sLen sCap, .slice (some a) m c]).run P w = .ok (.slice (some ⟨b, 0, none⟩) (sLen + m) sCap) (w.setRow b (splice cur.toList (sLen * i.size) news).toArray) := by
  have hf := run_firstCells_some (P := P) w i.size m a m c news hl hnews
  have hst := run_storeCells_thaw (P := P) b (sLen * i.size) tt fz news 0 cur w hg hth (by simpa using hfit) h1
  simp only [Nat.add_zero] at hst
  simp [Builtin.append_, run_underlying ht, Go.sizeOf, typeInfo, hi, Builtin.lenOf, hroom, hf, Addr.add_lit, hst]

def appIds : List AV → List Nat
  | [s, x] => vcOf s ++ vcOf x
  | _ => []

theorem growBy_le (need : Nat) : ∀ (k c : Nat), Builtin.growBy need k c ≤ max c (need + (need + 768) / 4)
  | 0, c => Nat.le_max_left _ _
  | k + 1, c => by
    simp only [Builtin.growBy]
    split
    · exact Nat.le_max_left _ _
    · have := growBy_le need k (c + (c + 768) / 4)
      omega

theorem nextcap_le {need old : Nat} (h : old < need) : Builtin.nextslicecap need old ≤ need + need / 4 + 512 := by
  unfold Builtin.nextslicecap
  split
  · omega
  · split
    · omega
    · have := growBy_le need 4 old
      omega

theorem grow_fits {need old bytes : Nat} (h : old < need) (hb : need * bytes ≤ 180000000000000) (h1 : bytes ≤ 1073741824) : Builtin.nextslicecap need old * bytes ≤ 281474976710656 := by
  have h2 : Builtin.nextslicecap need old * bytes ≤ (need + need / 4 + 512) * bytes := Nat.mul_le_mul_right _ (nextcap_le h)
  have h3 : need / 4 * bytes ≤ need * bytes / 4 := by
    rw [Nat.le_div_iff_mul_le (by decide)]
    have : need / 4 * bytes * 4 = need / 4 * 4 * bytes := by rw [Nat.mul_assoc, Nat.mul_comm bytes 4, ← Nat.mul_assoc]
    rw [this]
    exact Nat.mul_le_mul_right _ (Nat.div_mul_le_self _ _)
  rw [Nat.add_mul, Nat.add_mul] at h2
  have h4 : 512 * bytes ≤ 512 * 1073741824 := Nat.mul_le_mul_left _ h1
  omega

/-- behind own elements others are put -/
theorem do_append (hI : HInv g H w) {t t2 ty : TypeId} {vs : List AV} {rs : List Value} (ha : argsRep g vs rs) {fr : Nat} (hfr : getE H fr = .free ∧ fr < H.length) {out : Out} {cts : Array Bool}
    (he : (c_append P t t2 vs (ents H (appIds vs)) fr).eval = some out) : Done P g H w (builtin .append #[t, t2] ty cts rs.toArray) out := by
  have hbi : builtin .append #[t, t2] ty cts rs.toArray = (do pure (.value (← Builtin.append_ #[t, t2] ty rs.toArray)) : Sem Next) := rfl
  rw [hbi]
  unfold c_append at he
  split at he
  · rename_i s x
    obtain ⟨v1, r1, rfl, hv1, v2, r2, rfl, hv2, hr⟩ := ha
    simp only [argsRep] at hr
    subst hr
    split at he
    · rename_i ht
      subst ht
      split at he
      · rename_i by_ hby
        obtain ⟨el, i, z, hu, hi, hz, hzs, rfl, ⟨hb0, hb1⟩, hz1⟩ := elBytes_spec hby
        -- what is appended
        have hsize : ∀ a, elOk P t a = true → i.size = a.sk.nc ∧ 0 < a.nc := by
          intro a h
          obtain ⟨h1, h2⟩ := elOk_spec h hu
          obtain ⟨i', hi', hs', _⟩ := skOf_spec h1
          rw [hi] at hi'
          simp only [Option.some.injEq] at hi'
          subst hi'
          exact ⟨hs', h2⟩
        have done : ∀ {rv : Value} {w' : World} {g' : G}, (Builtin.append_ #[t, t] ty #[v1, v2]).run P w = .ok rv w' → g.le g' → HInv g' (upd H out.2) w' → VRep g' out.1 rv → Done P g H w (do pure (.value (← Builtin.append_ #[t, t] ty #[v1, v2])) : Sem Next) out := by
          intro rv w' g' h1 h2 h3 h4
          exact ⟨.value rv, rv, w', g', by simp [h1], .inl rfl, h2, h3, h4⟩
        split at he
        · rename_i ux
          have hv1 := (VRep_v (by simp)).1 hv1
          simp only [TRep, Ty.agg, Ty.sk, Sk.agg, Bool.false_eq_true, if_false, Rep, List.cons.injEq, and_true] at hv1
          subst hv1
          split at he
          · rename_i hn
            have := Tr.ret_some he; subst this
            have hx : v2 = .slice none 0 0 := by
              unfold isNils at hn
              split at hn
              · have hv2 := (VRep_v (by simp)).1 hv2
                simpa only [TRep, Ty.agg, Ty.sk, Sk.agg, Bool.false_eq_true, if_false, Rep, List.cons.injEq, and_true] using hv2
              · cases hn
            subst hx
            refine done (run_append_empty hu hi none 0 0 (Nat.le_refl _) none 0 w) (G.le.refl g) hI ((VRep_v (by simp)).2 ?_)
            simp [TRep, Ty.agg, Ty.sk, Sk.agg, Rep]
          · split at he
            · rename_i a l hs
              split at he
              · rename_i hel
                obtain ⟨hroom, he⟩ := Tr.chk_some he
                have := Tr.ret_some he; subst this
                simp only [appIds, vcOf, List.nil_append] at hs
                obtain ⟨pv, cap, us, rfl, h2, h3, h4, h5, h6⟩ := seen_spec hI hv2 hs
                obtain ⟨hsz, hnc⟩ := hsize a hel
                simp only [room, decide_eq_true_eq] at hroom
                by_cases hl : l = []
                · subst hl
                  obtain ⟨g', q1, q2, q3, q4⟩ := hI.nilVec (k := 0) (a := a) hfr.2 (.inl hfr.1)
                  exact done (run_append_empty hu hi none 0 0 (Nat.le_refl _) pv cap w) q1 q2 (vc_rep_nil q3 q4)
                · have hlen : 0 < l.length := by cases l with | nil => exact absurd rfl hl | cons _ _ => simp
                  cases pv with
                  | none => exact absurd (h6 rfl) hl
                  | some ad =>
                    have hul : us.length = l.length * i.size := by rw [hsz]; exact repL_length (fun x cs => Rep_length a x cs) h4
                    have hbytes : l.length * i.bytes ≤ 281474976710656 := by omega
                    have hrun := run_append_nil (P := P) w t ty el i z hu hi hz ad l.length cap us hul (h5 ad rfl) hlen (by omega) hbytes
                    obtain ⟨g', q1, q2, q3, q4, q5⟩ := hI.newVec (w1 := w.drew) hfr.1 hfr.2 0 (a := a) (l := l) (cs := us.toArray ++ Builtin.zeroCells z.cells (grownCap w l.length 0 el - l.length)) (vs := us)
                      (r := (Builtin.zeroCells z.cells (grownCap w l.length 0 el - l.length)).toList) el rfl rfl (by simp) h4 (zero_one hz1 (by rw [hzs, hsz]; exact hnc) _)
                    refine done hrun q1 q2 ?_
                    have hge := grownCap_ge w l.length 0 el
                    have hle := grownCap_le_maxLen w l.length 0 el (by simp only [maxLen]; omega)
                    refine vc_rep q3 q4 hge (by simpa [maxLen] using hle) ?_
                    rw [q5]
                    simp only [Array.size_append, List.size_toArray, size_zeroCells, hul, hzs, hsz, ← Nat.add_mul]
                    exact Nat.mul_le_mul_right _ (by omega)
              · exact (Tr.fail_some he).elim
            · exact (Tr.fail_some he).elim
        · rename_i e k ux
          simp only [appIds, vcOf, List.cons_append, List.nil_append, ents] at he
          split at he
          · rename_i k' a l es' hE
            simp only [List.cons.injEq] at hE
            obtain ⟨hE, rfl⟩ := hE
            have hlive : (getE H e).live = true := by rw [hE]; rfl
            have hlt := lt_of_live hlive
            split at he
            · rename_i hc
              simp only [Bool.and_eq_true, decide_eq_true_eq] at hc
              obtain ⟨rfl, hel⟩ := hc
              obtain ⟨hsz, hnc⟩ := hsize a hel
              have hsh : g.sh e = .vec k a.sk l.length := by rw [hI.sh, hE]; rfl
              have hv1' := hv1
              have hv1 := (VRep_v (by simp)).1 hv1
              simp only [TRep, Ty.agg, Ty.sk, Sk.agg, Bool.false_eq_true, if_false, Rep, G.vcr, hsh] at hv1
              obtain ⟨_, _, hv1⟩ := hv1
              split at he
              · rename_i hn
                have := Tr.ret_some he; subst this
                have hx : v2 = .slice none 0 0 := by
                  unfold isNils at hn
                  split at hn
                  · have hv2 := (VRep_v (by simp)).1 hv2
                    simpa only [TRep, Ty.agg, Ty.sk, Sk.agg, Bool.false_eq_true, if_false, Rep, List.cons.injEq, and_true] using hv2
                  · cases hn
                subst hx
                rcases hv1 trivial with ⟨_, _, h3⟩ | ⟨b, cap, _, h2, h3, _⟩
                · simp only [List.cons.injEq, and_true] at h3
                  subst h3
                  exact done (run_append_empty hu hi none 0 0 (Nat.le_refl _) none 0 w) (G.le.refl g) hI hv1'
                · simp only [List.cons.injEq, and_true] at h2
                  subst h2
                  exact done (run_append_empty hu hi _ _ _ h3.1 none 0 w) (G.le.refl g) hI hv1'
              · split at he
                · rename_i y hs
                  split at he
                  · rename_i m hm
                    obtain ⟨hroom, he⟩ := Tr.chk_some he
                    have := Tr.ret_some he; subst this
                    obtain ⟨a2, m2⟩ := y
                    unfold castL at hm
                    simp only at hm
                    split at hm
                    · rename_i heq
                      subst heq
                      simp only [Option.some.injEq] at hm
                      subst hm
                      obtain ⟨pv, xcap, us, rfl, h2, h3, h4, h5, h6⟩ := seen_spec hI hv2 hs
                      simp only [room, decide_eq_true_eq] at hroom
                      have hul : us.length = m2.length * i.size := by rw [hsz]; exact repL_length (fun x cs => Rep_length a2 x cs) h4
                      have hsmall : l.length + m2.length ≤ 180000000000000 := by
                        have : (l.length + m2.length) * 1 ≤ (l.length + m2.length) * i.bytes := Nat.mul_le_mul_left _ (by omega)
                        omega
                      rcases hv1 trivial with ⟨hbn, hl0, hh⟩ | ⟨b, cap, hb, hh, ⟨hcap, hcm⟩, hcz⟩
                      · -- it was nil
                        simp only [List.cons.injEq, and_true] at hh
                        subst hh
                        have hl : l = [] := List.eq_nil_of_length_eq_zero hl0
                        subst hl
                        by_cases hm0 : m2 = []
                        · subst hm0
                          obtain ⟨g', q1, q2, q3, q4⟩ := hI.nilVec (k := k + 1) (a := a2) hlt (.inr ⟨k, a2, [], hE, Nat.lt_succ_self k⟩)
                          exact done (run_append_empty hu hi none 0 0 (Nat.le_refl _) pv xcap w) q1 q2 (vc_rep_nil q3 q4)
                        · have hlen : 0 < m2.length := by cases m2 with | nil => exact absurd rfl hm0 | cons _ _ => simp
                          cases pv with
                          | none => exact absurd (h6 rfl) hm0
                          | some ad =>
                            have hbytes : m2.length * i.bytes ≤ 281474976710656 := by simp only [List.length_nil, Nat.zero_add] at hroom; omega
                            have hrun := run_append_nil (P := P) w t ty el i z hu hi hz ad m2.length xcap us hul (h5 ad rfl) hlen (by omega) hbytes
                            obtain ⟨g', q1, q2, q3, q4, q5⟩ := hI.growVec (w1 := w.drew) (k' := k + 1) (l' := [] ++ m2) hE (Nat.lt_succ_self k) (cs := us.toArray ++ Builtin.zeroCells z.cells (grownCap w m2.length 0 el - m2.length)) (vs := us)
                              (r := (Builtin.zeroCells z.cells (grownCap w m2.length 0 el - m2.length)).toList) el rfl rfl (by simp) h4 (zero_one hz1 (by rw [hzs, hsz]; exact hnc) _)
                            refine done hrun q1 q2 ?_
                            have hge := grownCap_ge w m2.length 0 el
                            have hle := grownCap_le_maxLen w m2.length 0 el (by simp only [maxLen]; omega)
                            refine vc_rep q3 q4 hge (by simpa [maxLen] using hle) ?_
                            rw [q5]
                            simp only [Array.size_append, List.size_toArray, size_zeroCells, hul, hzs, hsz, ← Nat.add_mul]
                            exact Nat.mul_le_mul_right _ (by omega)
                      · simp only [List.cons.injEq, and_true] at hh
                        subst hh
                        have hent := hI.ent e
                        rw [hE] at hent
                        rcases hent with ⟨q1, _⟩ | ⟨b', cs, tt, fz, ls, rr, q1, q2, q3, q4, q5, q6, q7⟩
                        · rw [hb] at q1; cases q1
                        rw [hb] at q1
                        cases q1
                        have hll : ls.length = l.length * i.size := by rw [hsz]; exact repL_length (fun x cs => Rep_length a2 x cs) q6
                        have hcsz : cs.size = ls.length + rr.length := by rw [← Array.length_toList, q5, List.length_append]
                        have happ : repL (Rep g a2) (l ++ m2) (ls ++ us) := repL_append q6 h4
                        by_cases hm0 : m2 = []
                        · subst hm0
                          obtain ⟨g', w1, w2, w3, w4, w5⟩ := hI.setVec (k' := k + 1) (l' := l ++ []) (cs' := cs) hE hb q2 q4 q3 (.inl (Nat.lt_succ_self k)) q5 (by simpa using q6) q7
                          rw [setRow_self w b cs tt fz q2] at w2
                          refine done (run_append_empty hu hi _ _ _ hcap pv xcap w) w1 w2 ?_
                          have := vc_rep w3 w4 (by simpa using hcap) hcm (by rw [w5]; exact hcz)
                          simpa using this
                        · cases pv with
                          | none => exact absurd (h6 rfl) hm0
                          | some ad =>
                            by_cases hr : l.length + m2.length ≤ cap
                            · have hfit : l.length * i.size + us.length ≤ cs.size := by
                                rw [hul, ← Nat.add_mul, ← q4, hsz]
                                exact Nat.le_trans (Nat.mul_le_mul_right _ hr) hcz
                              have hone : ∀ u ∈ us, u.oneCell' = true := repL_cells (fun x cs => Rep_cells a2 x cs) h4
                              have hrun := run_append_in (P := P) w t ty el i hu hi b l.length cap cs tt fz q2 q3 ad m2.length xcap us hul (h5 ad rfl) hone hr hfit
                              have hsp : splice cs.toList (l.length * i.size) us = (ls ++ us) ++ rr.drop us.length := by
                                unfold splice
                                rw [q5, ← hll, List.take_left, List.drop_append, List.drop_eq_nil_of_le (by omega)]
                                simp
                              have hsplen : (splice cs.toList (l.length * i.size) us).length = cs.size := by
                                unfold splice; simp; omega
                              obtain ⟨g', w1, w2, w3, w4, w5⟩ := hI.setVec (k' := k + 1) (l' := l ++ m2) (cs' := (splice cs.toList (l.length * i.size) us).toArray) hE hb q2 (by simpa [hsplen] using q4)
                                (by unfold thawed at q3 ⊢; simpa [hsplen] using q3) (.inl (Nat.lt_succ_self k)) (vs := ls ++ us) (r := rr.drop us.length) (by simpa using hsp) happ (fun v hv => q7 v (List.mem_of_mem_drop hv))
                              refine done hrun w1 w2 ?_
                              have := vc_rep w3 w4 (by simpa using hr) hcm (by rw [w5]; exact hcz)
                              simpa using this
                            · have holds : ∀ j v, ls[j]? = some v → w.cell? ((⟨b, 0, none⟩ : Addr).add j) = some v := by
                                intro j v hv
                                rw [addr_add]
                                simp only [World.cell?, q2, Option.isSome_none, Bool.false_eq_true, if_false, Nat.zero_add]
                                have hj : j < ls.length := (List.getElem?_eq_some_iff.1 hv).1
                                have : cs.toList[j]? = some v := by rw [q5, List.getElem?_append_left hj]; exact hv
                                simpa using this
                              have hrun := run_append_grow (P := P) w t ty el i z hu hi hz ⟨b, 0, none⟩ l.length cap ls hll holds ad m2.length xcap us hul (h5 ad rfl) (by omega) (by omega) (grow_fits (by omega) hroom hb1)
                              obtain ⟨g', w1, w2, w3, w4, w5⟩ := hI.growVec (w1 := w.drew) (k' := k + 1) (l' := l ++ m2) hE (Nat.lt_succ_self k) (cs := ls.toArray ++ us.toArray ++ Builtin.zeroCells z.cells (grownCap w (l.length + m2.length) cap el - (l.length + m2.length))) (vs := ls ++ us)
                                (r := (Builtin.zeroCells z.cells (grownCap w (l.length + m2.length) cap el - (l.length + m2.length))).toList) el rfl rfl (by simp) happ (zero_one hz1 (by rw [hzs, hsz]; exact hnc) _)
                              refine done hrun w1 w2 ?_
                              have hge := grownCap_ge w (l.length + m2.length) cap el
                              have hle := grownCap_le_maxLen w (l.length + m2.length) cap el (by simp only [maxLen]; omega)
                              have := vc_rep w3 w4 (cap := grownCap w (l.length + m2.length) cap el) (by simpa using hge) (by simpa [maxLen] using hle) (by
                                rw [w5]
                                simp only [Array.size_append, List.size_toArray, size_zeroCells, hul, hll, hzs, hsz, ← Nat.add_mul]
                                exact Nat.mul_le_mul_right _ (by omega))
                              simpa using this
                    · cases hm
                  · exact (Tr.fail_some he).elim
                · exact (Tr.fail_some he).elim
            · exact (Tr.fail_some he).elim
          · exact (Tr.fail_some he).elim
        · exact (Tr.fail_some he).elim
      · exact (Tr.fail_some he).elim
    · exact (Tr.fail_some he).elim
  · exact (Tr.fail_some he).elim

/-! new slices -/

theorem argsRep_length' {g : G} : ∀ {vs : List AV} {rs : List Value}, argsRep g vs rs → vs.length = rs.length
  | [], rs, h => by simp only [argsRep] at h; subst h; rfl
  | a :: vs, rs, ⟨v, r, h1, h2, h3⟩ => by subst h1; simp [argsRep_length' h3]

theorem manyV_rep {a : Ty} : ∀ {vs : List AV} {rs : List Value} {l : List a.den}, manyV a vs = some l → argsRep g vs rs →
    l.length = rs.length ∧ (∀ v ∈ rs, v.cells.size = a.nc) ∧ repL (Rep g a) l (rs.flatMap fun v => v.cells.toList)
  | [], rs, l, h, hr => by
    simp only [manyV, Option.some.injEq] at h
    subst h
    simp only [argsRep] at hr
    subst hr
    exact ⟨rfl, by simp, rfl⟩
  | v :: vs, rs, l, h, ⟨r, rs', hrs, hv, hr⟩ => by
    subst hrs
    simp only [manyV] at h
    split at h
    · rename_i t ht
      split at h
      · rename_i x hx
        split at h
        · rename_i l' hl
          simp only [Option.some.injEq] at h
          subst h
          have := castT_spec hx
          subst this
          have hc := TRep_cells (tvOf_spec ht hv)
          obtain ⟨h1, h2, h3⟩ := manyV_rep hl hr
          have hlen := Rep_length _ _ _ hc
          refine ⟨by simp [h1], ?_, r.cells.toList, _, by simp, hc, h3⟩
          intro u hu
          rcases List.mem_cons.1 hu with rfl | hu
          · simpa using hlen
          · exact h2 u hu
        · cases h
      · cases h
    · cases h

theorem fill_range (size : Nat) : ∀ (rs : List Value) (j : Nat) (cells : Array Value) (done rest : List Value), cells.toList = done ++ rest → done.length = j * size → rest.length = rs.length * size → (∀ v ∈ rs, v.cells.size = size) →
    ∃ cells', Instr.fill (fun i => some (i * size, size)) cells ((List.range' j rs.length).zip rs) = some cells' ∧ cells'.toList = done ++ rs.flatMap fun v => v.cells.toList
  | [], j, cells, done, rest, h, hd, hr, hv => by
    have : rest = [] := List.eq_nil_of_length_eq_zero (by simpa using hr)
    subst this
    exact ⟨cells, by simp [Instr.fill], by simpa using h⟩
  | v :: rs, j, cells, done, rest, h, hd, hr, hv => by
    have hvs := hv v (by simp)
    have hcs : cells.size = done.length + rest.length := by rw [← Array.length_toList, h, List.length_append]
    have hrl : rest.length = rs.length * size + size := by rw [hr, List.length_cons, Nat.add_mul, Nat.one_mul]
    have hfit : j * size + v.cells.size ≤ cells.size := by omega
    have hone := fill_one cells v (j * size) hfit
    have hsp : splice cells.toList (j * size) v.cells.toList = (done ++ v.cells.toList) ++ rest.drop size := by
      unfold splice
      rw [h, ← hd, List.take_left, List.drop_append, List.drop_eq_nil_of_le (by omega)]
      simp [hvs]
    obtain ⟨cells', h1, h2⟩ := fill_range size rs (j + 1) (splice cells.toList (j * size) v.cells.toList).toArray (done ++ v.cells.toList) (rest.drop size) (by simpa using hsp) (by simp [hd, hvs, Nat.add_mul]) (by simp; omega) (fun u hu => hv u (by simp [hu]))
    refine ⟨cells', ?_, by rw [h2]; simp⟩
    rw [List.length_cons, List.range'_succ, List.zip_cons_cons]
    simp only [Instr.fill, hvs]
    rw [if_neg (by simp; omega), hone]
    exact h1

theorem do_build (hI : HInv g H w) {t : TypeId} {n : Nat} {ps : Array (Nat × Operand)} {ρ : Operand → Value} {vs : List AV} (ha : argsRep g vs (ps.toList.map fun x => ρ x.2)) {fr : Nat} (hfr : getE H fr = .free ∧ fr < H.length) {out : Out}
    (he : (c_buildS P t n (ps.toList.map (·.1)) vs fr).eval = some out) : Done P g H w (do pure (.value (← Instr.buildSlice t n (ps.map fun (i, x) => (i, ρ x))))) out := by
  unfold c_buildS at he
  split at he
  · rename_i hc
    simp only [Bool.and_eq_true, decide_eq_true_eq] at hc
    obtain ⟨hns, hvn⟩ := hc
    have hlen := argsRep_length' ha
    have key : ∀ {a : Ty} {l : List a.den} {e : TypeId} {zc : Array Value}, P.underlying t = some (.slice e) → sk? P e = some a.sk → manyV a vs = some l → n * a.sk.nc ≤ 16777216 → 0 < a.sk.nc →
        ((n * a.sk.nc = 0 ∧ zc = #[]) ∨ (n * a.sk.nc ≠ 0 ∧ ∃ z, zc = z.cells ∧ ∀ w : World, (zeroValue e).run P w = .ok z w)) → out = (.v (.vc fr 0) (), [(fr, .vec 0 a l)]) →
        Done P g H w (do pure (.value (← Instr.buildSlice t n (ps.map fun (i, x) => (i, ρ x))))) out := by
      rintro a l e zc hu hsk hl hsz hnc hz rfl
      obtain ⟨h1, h2, h3⟩ := manyV_rep hl ha
      have h2 : ∀ v ∈ (ps.toList.map fun x => ρ x.2), v.cells.size = a.sk.nc := h2
      obtain ⟨cells', q1, q2⟩ := fill_range a.sk.nc (ps.toList.map fun x => ρ x.2) 0 (madeCells zc (n * a.sk.nc)) [] (madeCells zc (n * a.sk.nc)).toList (by simp) (by simp) (by simp only [Array.length_toList, size_madeCells]; rw [← hlen, hvn]) h2
      simp only [List.nil_append] at q2
      have hparts : (ps.map fun (i, x) => (i, ρ x)).toList = (List.range' 0 (ps.toList.map fun x => ρ x.2).length).zip (ps.toList.map fun x => ρ x.2) := by
        have e1 : List.range' 0 (ps.toList.map fun x => ρ x.2).length = ps.toList.map (·.1) := by
          rw [hns, List.range_eq_range', ← hlen, hvn]
        rw [e1, List.zip_map']
        simp
      have hrun : (Instr.buildSlice t n (ps.map fun (i, x) => (i, ρ x))).run P w = .ok (.slice (some ⟨w.heap.size, 0, none⟩) n n) (World.mk' w (.cells cells' e)) := by
        have hfill : Instr.fill (fun i => some (i * a.sk.nc, a.sk.nc)) ((Array.range (n * a.sk.nc)).map (zc[· % zc.size]!)) (ps.map fun (i, x) => (i, ρ x)).toList = some cells' := by rw [hparts]; exact q1
        have hbig : ¬ (n * a.sk.nc > 2 ^ 24) := by omega
        simp only [Instr.buildSlice, Sem.run_bind, run_underlying hu, Result.andThen_ok, run_sizeOf_sk hsk]
        rw [if_neg hbig]
        have hfill' : Instr.fill (fun i => some (i * a.sk.nc, a.sk.nc)) ((Array.range (n * a.sk.nc)).map (zc[· % zc.size]!)) (ps.map fun x => (x.1, ρ x.2)).toList = some cells' := hfill
        rcases hz with ⟨h0, hzc⟩ | ⟨h0, z, hzc, hzr⟩
        · rw [if_pos h0]
          rw [hzc] at hfill'
          simp only [Sem.run_bind, Sem.run_pure, Result.andThen_ok, hfill', newRow, run_newObj, World.mk']
        · rw [if_neg h0]
          rw [hzc] at hfill'
          simp only [Sem.run_bind, Sem.run_pure, Result.andThen_ok, hzr, hfill', newRow, run_newObj, World.mk']
      obtain ⟨g', w1, w2, w3, w4, w5⟩ := hI.newVec (w1 := w) hfr.1 hfr.2 0 (a := a) (l := l) (cs := cells') (vs := cells'.toList) (r := []) e rfl rfl (by simp) (by rw [q2]; exact h3) (by simp)
      refine ⟨.value (.slice (some ⟨w.heap.size, 0, none⟩) n n), .slice (some ⟨w.heap.size, 0, none⟩) n n, _, g', by simp [hrun], .inl rfl, w1, w2, ?_⟩
      have hnl : n = l.length := by rw [h1, ← hlen, hvn]
      subst hnl
      refine vc_rep w3 w4 (Nat.le_refl _) ?_ ?_
      · have : l.length * 1 ≤ l.length * a.sk.nc := Nat.mul_le_mul_left _ (by omega)
        omega
      · rw [w5, ← Array.length_toList, q2]
        have := repL_length (fun x cs => Rep_length a x cs) h3
        rw [this]
        exact Nat.le_refl _
    split at he
    · split at he
      · rename_i e hel
        split at he
        · rename_i z hz
          split at he
          · rename_i hok
            have := Tr.ret_some he; subst this
            have hu := sliceEl_spec hel
            obtain ⟨h1, h2⟩ := elOk_spec hok hu
            have hv0 : vs = [] := List.eq_nil_of_length_eq_zero (by omega)
            subst hv0
            exact key (zc := #[]) hu h1 rfl (by simp) h2 (.inl ⟨by simp, rfl⟩) rfl
          · exact (Tr.fail_some he).elim
        · exact (Tr.fail_some he).elim
      · exact (Tr.fail_some he).elim
    · rename_i hn0
      split at he
      · rename_i a _
        split at he
        · rename_i l hl
          split at he
          · rename_i hc
            have := Tr.ret_some he; subst this
            simp only [Bool.and_eq_true, decide_eq_true_eq] at hc
            obtain ⟨⟨c1, c2⟩, c3⟩ := hc
            obtain ⟨by_, hby⟩ := Option.isSome_iff_exists.1 c3
            obtain ⟨e, i, z, hu, hi, hz, _⟩ := elBytes_spec hby
            obtain ⟨h1, h2⟩ := elOk_spec c1 hu
            have hz' : ∀ w : World, (zeroValue e).run P w = .ok z w := fun w => by simp [zeroValue, typeInfo, hi, hz]
            have hnn : n ≠ 0 := fun h => hn0 h
            exact key (zc := z.cells) hu h1 hl c2 h2 (.inr ⟨Nat.mul_ne_zero hnn (by have : a.sk.nc = a.nc := rfl; omega), z, rfl, hz'⟩) rfl
          · exact (Tr.fail_some he).elim
        · exact (Tr.fail_some he).elim
      · exact (Tr.fail_some he).elim
  · exact (Tr.fail_some he).elim

theorem toList_made_one (z : Value) (n : Nat) : (madeCells #[z] n).toList = List.replicate n z := toList_madeCells_one z n

theorem repL_replicate {α : Type} {R : α → List Value → Prop} {x : α} {v : Value} (h : R x [v]) : ∀ n, repL R (List.replicate n x) (List.replicate n v)
  | 0 => rfl
  | n + 1 => ⟨[v], List.replicate n v, rfl, h, repL_replicate h n⟩

theorem do_make (hI : HInv g H w) {t : TypeId} {vs : List AV} {r1 r2 : Value} (ha : argsRep g vs [r1, r2]) {fr : Nat} (hfr : getE H fr = .free ∧ fr < H.length) {out : Out}
    (he : (c_makeSlice P t vs fr).eval = some out) : Done P g H w (do pure (.value (← Instr.makeSlice t r1 r2))) out := by
  obtain ⟨a1, a2, rfl, h1, h2⟩ := argsRep2 ha
  unfold c_makeSlice at he
  split at he
  · rename_i n c heq
    simp only [List.cons.injEq, and_true] at heq
    obtain ⟨rfl, rfl⟩ := heq
    have h1 := (VRep_v (by simp)).1 h1
    have h2 := (VRep_v (by simp)).1 h2
    rw [TRep_int] at h1 h2
    obtain ⟨rfl, _⟩ := h1
    obtain ⟨rfl, hck⟩ := h2
    split at he
    · rename_i e hel
      have hu := sliceEl_spec hel
      split at he
      · rename_i z hz
        split at he
        · rename_i by_ hby
          obtain ⟨e', i, zv, hu', hi, hzv, hzs, rfl, ⟨hb0, hb1⟩, hz1⟩ := elBytes_spec hby
          rw [hu] at hu'
          simp only [Option.some.injEq, TypeDesc.slice.injEq] at hu'
          subst hu'
          split at he
          · rename_i hc
            obtain ⟨hroom, he⟩ := Tr.chk_some he
            have := Tr.ret_some he; subst this
            simp only [Bool.and_eq_true, decide_eq_true_eq, room, Bool.not_eq_true'] at hc hroom
            obtain ⟨⟨hok, hn1⟩, hna⟩ := hc
            obtain ⟨hnc, hn0, hrm⟩ := hroom
            have hnc : n = c := hnc
            have hn0 : (0 : Int) ≤ n := hn0
            subst hnc
            obtain ⟨hsk, _⟩ := elOk_spec hok hu
            obtain ⟨i', hi', hsz, _⟩ := skOf_spec hsk
            rw [hi] at hi'
            simp only [Option.some.injEq] at hi'
            subst hi'
            obtain ⟨_, i2, zv2, hi2, hzv2, hzr, _⟩ := zeroT_spec (g := g) hz
            rw [hi] at hi2
            simp only [Option.some.injEq] at hi2
            subst hi2
            rw [hzv] at hzv2
            simp only [Option.some.injEq] at hzv2
            subst hzv2
            have hsz1 : i.size = 1 := by rw [hsz]; exact hn1
            have hrep : Rep g z.T z.x [zv] := by
              unfold TRep at hzr
              rw [if_neg (by simp [hna])] at hzr
              exact hzr
            have hcells : zv.cells = #[zv] := by
              have h1 := Rep_cells _ _ _ hrep zv (by simp)
              cases zv <;> first | rfl | (simp [Value.oneCell'] at h1)
            obtain ⟨m, hm⟩ : ∃ m : Nat, n = (m : Int) := ⟨n.toNat, (Int.toNat_of_nonneg hn0).symm⟩
            subst hm
            have hrm : m * i.bytes ≤ 180000000000000 := by simpa using hrm
            have hsmall : m ≤ 180000000000000 := by
              have : m * 1 ≤ m * i.bytes := Nat.mul_le_mul_left _ (by omega)
              omega
            have hbi : (i.bytes : Int) * (m : Int) ≤ 281474976710656 := by
              rw [← Int.natCast_mul, Nat.mul_comm]; omega
            have hrun := run_make (P := P) w t e i zv hu hi hzv .i64 .i64 m m hn0 (Int.le_refl _) hbi (by omega)
            simp only [Int.toNat_natCast, hsz1, Nat.mul_one, hcells] at hrun
            obtain ⟨g', w1, w2, w3, w4, w5⟩ := hI.newVec (w1 := w) hfr.1 hfr.2 0 (a := z.T) (l := List.replicate m z.x) (cs := madeCells #[zv] m) (vs := List.replicate m zv) (r := []) e rfl rfl (by rw [toList_made_one]; simp) (repL_replicate hrep m) (by simp)
            refine ⟨.value (.slice (some ⟨w.heap.size, 0, none⟩) m m), .slice (some ⟨w.heap.size, 0, none⟩) m m, _, g', by rw [Sem.run_bind, hrun]; rfl, .inl rfl, w1, by simp only [Int.toNat_natCast, upd]; exact w2, ?_⟩
            simp only [Int.toNat_natCast]
            refine vc_rep (n := m) (by simpa using w3) w4 (Nat.le_refl _) (by omega) ?_
            rw [w5, size_madeCells]
            have : z.T.sk.nc = 1 := hn1
            rw [this, Nat.mul_one]
            exact Nat.le_refl _
          · exact (Tr.fail_some he).elim
        · exact (Tr.fail_some he).elim
      · exact (Tr.fail_some he).elim
    · exact (Tr.fail_some he).elim
  · exact (Tr.fail_some he).elim

theorem bytesStr_size (l : List Int) : (bytesStr l).size = l.length := by
  have : ∀ (l : List Int) (s : ByteArray), (l.foldl (fun r n => r.push (UInt8.ofNat n.toNat)) s).size = s.size + l.length := by
    intro l
    induction l with
    | nil => intro s; rfl
    | cons x l ih => intro s; simp only [List.foldl_cons, ih, ByteArray.size_push, List.length_cons]; omega
  unfold bytesStr
  rw [this]
  show 0 + _ = _
  omega

theorem isBytes_spec {t : TypeId} (h : isBytes P t = true) : ∃ e, P.underlying t = some (.slice e) ∧ P.underlying e = some (.int .u8) := by
  unfold isBytes at h
  split at h
  · rename_i e hu
    split at h
    · rename_i he; exact ⟨e, hu, he⟩
    · cases h
  · cases h

theorem repL_u8 {l : List Int} {vs : List Value} (h : repL (Rep g (.int .u8)) l vs) : vs = l.map (Value.int .u8) := by
  induction l generalizing vs with
  | nil => exact h
  | cons x l ih =>
    obtain ⟨c1, c2, rfl, h1, h2⟩ := h
    obtain ⟨h1, _⟩ := h1
    rw [h1, ih h2]
    rfl

theorem do_str (hI : HInv g H w) {s d : TypeId} {q f : Bool} {l : List Int} {r : Value} (hr : VRep g (.v (.imm q f (.int .u8)) l) r) (hs : isBytes P s = true) (hd : P.underlying d = some .string) :
    (convert s d r).run P w = .ok (.string (bytesStr l)) w ∧ (bytesStr l).size ≤ 9223372036854775807 := by
  obtain ⟨e, hu, he⟩ := isBytes_spec hs
  obtain ⟨pv, cap, us, rfl, h2, h3, h4, h5, h6⟩ := seen_spec hI hr (T := .int .u8) (l := l) rfl
  refine ⟨?_, by rw [bytesStr_size]; exact Nat.le_trans h2 h3⟩
  rw [run_convert_bytes_string w s d e pv l.length cap hu he hd]
  cases pv with
  | none =>
    have hl := h6 rfl
    subst hl
    rfl
  | some ad =>
    refine run_bytesToString w ad l.length cap l ?_
    have h4 := repL_u8 h4
    subst h4
    have := run_loadCells_list (P := P) w ad (l.map (Value.int .u8)) (h5 ad rfl)
    rwa [List.length_map] at this

/-! parts -/

def Bound (o : Option Value) (i : Option Int) : Prop := match o, i with
  | none, none => True
  | some v, some n => ∃ k, v = .int k n
  | _, _ => False

theorem bnd_spec {o : Option Value} {b : Bool} (hb : b = o.isSome) {vs r : List AV} {i : Option Int} {rest : List Value} (h : bnd b vs = some (i, r)) (ha : argsRep g vs (o.toList ++ rest)) : Bound o i ∧ argsRep g r rest := by
  cases o with
  | none =>
    subst hb
    simp only [bnd, Option.isSome_none, Option.some.injEq, Prod.mk.injEq] at h
    obtain ⟨rfl, rfl⟩ := h
    exact ⟨trivial, ha⟩
  | some v =>
    subst hb
    obtain ⟨a, vs', rfl, h1⟩ : ∃ a vs', vs = a :: vs' ∧ (VRep g a v ∧ argsRep g vs' rest) := by
      cases vs with
      | nil => cases ha
      | cons a vs' =>
        obtain ⟨v', r', hh, h1, h2⟩ := ha
        simp only [Option.toList_some, List.cons_append, List.nil_append, List.cons.injEq] at hh
        obtain ⟨rfl, rfl⟩ := hh
        exact ⟨a, vs', rfl, h1, h2⟩
    simp only [bnd, Option.isSome_some] at h
    split at h
    · rename_i n hn
      simp only [Option.some.injEq, Prod.mk.injEq] at h
      obtain ⟨rfl, rfl⟩ := h
      unfold intOf at hn
      split at hn
      · rename_i k n'
        simp only [Option.some.injEq] at hn
        subst hn
        have h3 := (VRep_v (by simp)).1 h1.1
        rw [TRep_int] at h3
        exact ⟨⟨k, h3.1⟩, h1.2⟩
      · cases hn
    · cases h

theorem run_bounds {b : Bool} {len cap : Nat} {lo hi : Option Value} {l h : Option Int} (hl : Bound lo l) (hh : Bound hi h) {m : Int} (hm : h.getD (len : Int) = m) (h1 : m ≤ (cap : Int)) (h0 : 0 ≤ l.getD 0) (h2 : l.getD 0 ≤ m) (w : World) :
    (Instr.sliceBounds b len cap lo hi none).run P w = .ok ((l.getD 0).toNat, m.toNat, cap) w := by
  have sb : ∀ {k : IntKind} {i : Int} {y : Nat} {code : BoundsCode}, 0 ≤ i → i ≤ (y : Int) → (Instr.sliceBound (.int k i) y code).run P w = .ok i.toNat w := by
    intro k i y code q1 q2
    simp only [Instr.sliceBound, asIntOf, Sem.run_bind, Sem.run_pure, Result.andThen_ok]
    rw [if_pos ⟨q1, q2⟩]; rfl
  have hhi : (match hi, (none : Option Value) with
    | some v, some _ => Instr.sliceBound v cap .slice3B
    | some v, none => Instr.sliceBound v cap (if b then .sliceAcap else .sliceAlen)
    | none, none => pure len
    | none, some _ => stuck "Slice: max without high" : Sem Nat).run P w = .ok m.toNat w := by
    cases hi with
    | none => cases h with
      | none => simp only [Option.getD_none] at hm; subst hm; simp
      | some _ => exact hh.elim
    | some v => cases h with
      | none => exact hh.elim
      | some n =>
        obtain ⟨k, rfl⟩ := hh
        simp only [Option.getD_some] at hm; subst hm
        exact sb (by omega) h1
  have hlo : (match lo with
    | some v => Instr.sliceBound v m.toNat (if (none : Option Value).isSome then .slice3C else .sliceB)
    | none => pure 0 : Sem Nat).run P w = .ok (l.getD 0).toNat w := by
    cases lo with
    | none => cases l with
      | none => simp
      | some _ => exact hl.elim
    | some v => cases l with
      | none => exact hl.elim
      | some n =>
        obtain ⟨k, rfl⟩ := hl
        exact sb h0 (by simp only [Option.getD_some] at h2; omega)
  cases hi <;> cases lo <;> simp_all [Instr.sliceBounds, Sem.run_bind, Result.andThen_ok, Sem.run_pure]

theorem repL_take {α : Type} {R : α → List Value → Prop} {n : Nat} (hn : ∀ x cs, R x cs → cs.length = n) : ∀ {l : List α} {cs : List Value} (k : Nat), repL R l cs → repL R (l.take k) (cs.take (k * n))
  | l, cs, 0, h => by simp [repL]
  | [], cs, k + 1, h => by simp only [repL] at h; subst h; simp [repL]
  | x :: l, cs, k + 1, ⟨c1, c2, h1, h2, h3⟩ => by
    have e := hn _ _ h2
    refine ⟨c1, c2.take (k * n), ?_, h2, repL_take hn k h3⟩
    rw [h1, Nat.add_mul, Nat.one_mul, List.take_append, List.take_of_length_le (by omega)]
    congr 2
    omega

theorem repL_drop {α : Type} {R : α → List Value → Prop} {n : Nat} (hn : ∀ x cs, R x cs → cs.length = n) : ∀ {l : List α} {cs : List Value} (k : Nat), repL R l cs → repL R (l.drop k) (cs.drop (k * n))
  | l, cs, 0, h => by simpa using h
  | [], cs, k + 1, h => by simp only [repL] at h; subst h; simp [repL]
  | x :: l, cs, k + 1, ⟨c1, c2, h1, h2, h3⟩ => by
    have e := hn _ _ h2
    have := repL_drop hn k h3
    have hd : c1.drop (k * n + n) = [] := List.drop_eq_nil_of_le (by omega)
    rw [List.drop_succ_cons, h1, Nat.add_mul, Nat.one_mul, List.drop_append, hd, List.nil_append]
    rwa [show k * n + n - c1.length = k * n by omega]

theorem setE_same : ∀ (H : Heap) (e : Nat), setE H e (getE H e) = H
  | [], _ => rfl
  | x :: H, 0 => rfl
  | x :: H, e + 1 => by simp only [setE, getE, setE_same H e]

/-- the first ones of an own slice -/
theorem do_cut (hI : HInv g H w) {t : TypeId} {e k : Nat} {u : Unit} {r : Value} {lo hi : Option Value} {h : Option Int} {a : Ty} {xs : List a.den} (hx : VRep g (.v (.vc e k) u) r) (hE : getE H e = .vec k a xs) (hok : elOk P t a = true)
    (hlo : Bound lo none) (hhi : Bound hi h) (c1 : 0 ≤ h.getD xs.length) (c3 : h.getD xs.length ≤ (xs.length : Int)) :
    Done P g H w (do pure (.value (← Instr.sliceAt t r lo hi none))) (.v (.vc e (k + 1)) (), [(e, .vec (k + 1) a (xs.take (h.getD xs.length).toNat))]) := by
  obtain ⟨el, hu⟩ : ∃ e, P.underlying t = some (.slice e) := by
    unfold elOk at hok
    split at hok
    · rename_i e hel; exact ⟨e, sliceEl_spec hel⟩
    · cases hok
  obtain ⟨hsk, hnc⟩ := elOk_spec hok hu
  have hlive : (getE H e).live = true := by rw [hE]; rfl
  have hlt := lt_of_live hlive
  have hsh : g.sh e = .vec k a.sk xs.length := by rw [hI.sh, hE]; rfl
  have hr := (VRep_v (by simp)).1 hx
  simp only [TRep, Ty.agg, Ty.sk, Sk.agg, Bool.false_eq_true, if_false, Rep, G.vcr, hsh] at hr
  obtain ⟨_, _, hr⟩ := hr
  have go : ∀ (pv : Option Addr) (cap : Nat), r = .slice pv xs.length cap → xs.length ≤ cap → (Instr.sliceAt t r lo hi none).run P w = .ok (.slice (if cap = 0 then pv else pv.map (·.add (0 * a.sk.nc))) (h.getD xs.length).toNat cap) w := by
    rintro pv cap rfl hcap
    have hrun := run_bounds (P := P) (b := true) (len := xs.length) (cap := cap) hlo hhi rfl (Int.le_trans c3 (by omega)) (by simp) (by simpa using c1) w
    simp only [Option.getD_none, Int.toNat_zero] at hrun
    have hsl : (Instr.slice t (.slice pv xs.length cap) lo hi none).run P w = .ok (.slice (if cap = 0 then pv else pv.map (·.add (0 * a.sk.nc))) (h.getD xs.length).toNat cap) w := by
      simp only [Instr.slice, Sem.run_bind, run_underlying hu, Result.andThen_ok, hrun, run_sizeOf_sk hsk, Sem.run_pure, Nat.sub_zero]
    simp only [Instr.sliceAt, Sem.run_bind, run_underlying hu, Result.andThen_ok, hsl]
  have hlen : (xs.take (h.getD xs.length).toNat).length = (h.getD xs.length).toNat := by rw [List.length_take]; omega
  rcases hr trivial with ⟨hbn, hl0, hh⟩ | ⟨b, cap, hb, hh, ⟨hcap, hcm⟩, hcz⟩
  · simp only [List.cons.injEq, and_true] at hh
    have hl : xs = [] := List.eq_nil_of_length_eq_zero hl0
    subst hl
    have hz : (h.getD (([] : List a.den).length : Int)).toNat = 0 := by simp only [List.length_nil] at c3 c1 ⊢; omega
    obtain ⟨g', q1, q2, q3, q4⟩ := hI.nilVec (k := k + 1) (a := a) hlt (.inr ⟨k, a, [], hE, Nat.lt_succ_self k⟩)
    have hgo := go none 0 hh (by simp)
    rw [hz] at hgo
    simp only [if_true] at hgo
    refine ⟨.value (.slice none 0 0), .slice none 0 0, w, g', by rw [Sem.run_bind, hgo]; rfl, .inl rfl, q1, by simpa [upd] using q2, vc_rep_nil q3 q4⟩
  · simp only [List.cons.injEq, and_true] at hh
    have hgo := go _ _ hh hcap
    have hent := hI.ent e
    rw [hE] at hent
    rcases hent with ⟨q1, _⟩ | ⟨b', cs, tt, fz, ls, rr, q1, q2, q3, q4, q5, q6, q7⟩
    · rw [hb] at q1; cases q1
    rw [hb] at q1
    cases q1
    obtain ⟨g', w1, w2, w3, w4, w5⟩ := hI.setVec (k' := k + 1) (l' := xs.take (h.getD xs.length).toNat) (cs' := cs) (vs := ls.take ((h.getD xs.length).toNat * a.nc)) (r := ls.drop ((h.getD xs.length).toNat * a.nc) ++ rr) hE hb q2 q4 q3 (.inl (Nat.lt_succ_self k))
      (by rw [← List.append_assoc, List.take_append_drop]; exact q5) (repL_take (fun x cs => Rep_length a x cs) _ q6) (by
        intro v hv
        rcases List.mem_append.1 hv with hv | hv
        · exact repL_cells (fun x cs => Rep_cells a x cs) q6 v (List.mem_of_mem_drop hv)
        · exact q7 v hv)
    rw [setRow_self w b cs tt fz q2] at w2
    have hpv : (if cap = 0 then some (⟨b, 0, none⟩ : Addr) else (some (⟨b, 0, none⟩ : Addr)).map (·.add (0 * a.sk.nc))) = some ⟨b, 0, none⟩ := by
      split
      · rfl
      · simp [addr_add]
    rw [hpv] at hgo
    refine ⟨.value _, .slice (some ⟨b, 0, none⟩) (h.getD xs.length).toNat cap, w, g', by rw [Sem.run_bind, hgo]; rfl, .inl rfl, w1, by simpa [upd] using w2, ?_⟩
    exact vc_rep (n := (h.getD xs.length).toNat) (by rw [← hlen]; simpa [hlen] using w3) w4 (by omega) hcm (by rw [w5]; exact hcz)

/-! copies -/

theorem run_copy_empty {ats : Array TypeId} {t ty e : TypeId} {i : TypeInfo} (hat : ats[0]? = some t) (ht : P.underlying t = some (.slice e)) (hi : P.info? e = some i) (base : Option Addr) (n cap : Nat) (pv : Option Addr) (m c : Nat) (hz : min m n = 0) (w : World) :
    (Builtin.copy_ ats ty #[.slice base n cap, .slice pv m c]).run P w = .ok (.int .i64 0) w := by
  have hz' : Nat.min m n = 0 := hz
  cases pv <;> cases base <;> simp [Builtin.copy_, hat, run_underlying ht, Go.sizeOf, typeInfo, hi, Builtin.lenOf, hz', Builtin.firstCells, storeCells, loadCells, loadCellsFrom, goInt]

theorem run_copy_in (w : World) {ats : Array TypeId} {t ty e : TypeId} {i : TypeInfo} (hat : ats[0]? = some t) (ht : P.underlying t = some (.slice e)) (hi : P.info? e = some i)
    (b dLen dCap : Nat) (cur : Array Value) (tt : TypeId) (fz : Nat × Nat) (hg : w.heap[b]? = some (.cells cur tt fz)) (hth : thawed cur fz)
    (a : Addr) (m c : Nat) (news : List Value) (hl : news.length = (min m dLen) * i.size) (hnews : ∀ j u, news[j]? = some u → w.cell? (a.add j) = some u) (h1 : ∀ u ∈ news, u.oneCell' = true)
    (hfit : news.length ≤ cur.size) :
    (Builtin.copy_ ats ty #[.slice (some ⟨b, 0, none⟩) dLen dCap, .slice (some a) m c]).run P w = .ok (.int .i64 ((min m dLen : Nat) : Int)) (w.setRow b (splice cur.toList 0 news).toArray) := by
  have hf := run_firstCells_some (P := P) w i.size (min m dLen) a m c news hl hnews
  have hst := run_storeCells_thaw (P := P) b 0 tt fz news 0 cur w hg hth (by simpa using hfit) h1
  simp only [Nat.add_zero] at hst
  have hm : Nat.min m dLen = min m dLen := rfl
  simp [Builtin.copy_, hat, run_underlying ht, Go.sizeOf, typeInfo, hi, Builtin.lenOf, hm, hf, Addr.add_lit, hst, goInt]

theorem do_copy (hI : HInv g H w) {ats : Array TypeId} {t ty : TypeId} (hat : ats[0]? = some t) {vs : List AV} {rs : List Value} (ha : argsRep g vs rs) {out : Out} {cts : Array Bool}
    (he : (c_copy P t vs (ents H (appIds vs))).eval = some out) : Done P g H w (builtin .copy ats ty cts rs.toArray) out := by
  have hbi : builtin .copy ats ty cts rs.toArray = (do pure (.value (← Builtin.copy_ ats ty rs.toArray)) : Sem Next) := rfl
  rw [hbi]
  unfold c_copy at he
  split at he
  · rename_i e k ux x
    obtain ⟨v1, r1, rfl, hv1, v2, r2, rfl, hv2, hr⟩ := ha
    simp only [argsRep] at hr
    subst hr
    have done : ∀ {rv : Value} {w' : World} {g' : G}, (Builtin.copy_ ats ty #[v1, v2]).run P w = .ok rv w' → g.le g' → HInv g' (upd H out.2) w' → VRep g' out.1 rv → Done P g H w (do pure (.value (← Builtin.copy_ ats ty #[v1, v2])) : Sem Next) out := by
      intro rv w' g' h1 h2 h3 h4
      exact ⟨.value rv, rv, w', g', by simp [h1], .inl rfl, h2, h3, h4⟩
    simp only [appIds, vcOf, List.cons_append, List.nil_append, ents] at he
    split at he
    · rename_i k' a l es' hE
      simp only [List.cons.injEq] at hE
      obtain ⟨hE, rfl⟩ := hE
      have hlive : (getE H e).live = true := by rw [hE]; rfl
      split at he
      · rename_i hc
        simp only [Bool.and_eq_true, decide_eq_true_eq] at hc
        obtain ⟨rfl, hel⟩ := hc
        obtain ⟨el, hu⟩ : ∃ e, P.underlying t = some (.slice e) := by
          have hel2 := hel
          unfold elOk at hel2
          split at hel2
          · rename_i e hq; exact ⟨e, sliceEl_spec hq⟩
          · cases hel2
        obtain ⟨hsk, hnc⟩ := elOk_spec hel hu
        obtain ⟨i, hi, hsz, _⟩ := skOf_spec hsk
        have hsh : g.sh e = .vec k a.sk l.length := by rw [hI.sh, hE]; rfl
        have hv1 := (VRep_v (by simp)).1 hv1
        simp only [TRep, Ty.agg, Ty.sk, Sk.agg, Bool.false_eq_true, if_false, Rep, G.vcr, hsh] at hv1
        obtain ⟨_, _, hv1⟩ := hv1
        have zero : ∀ {g' : G}, VRep g' (.v (.int .i64) (0 : Int)) (.int .i64 0) := (VRep_v (by simp)).2 (TRep_int.2 ⟨rfl, by decide⟩)
        split at he
        · rename_i hn
          have := Tr.ret_some he; subst this
          have hx : v2 = .slice none 0 0 := by
            unfold isNils at hn
            split at hn
            · have hv2 := (VRep_v (by simp)).1 hv2
              simpa only [TRep, Ty.agg, Ty.sk, Sk.agg, Bool.false_eq_true, if_false, Rep, List.cons.injEq, and_true] using hv2
            · cases hn
          subst hx
          rcases hv1 trivial with ⟨_, _, h3⟩ | ⟨b, cap, _, h2, h3, _⟩
          · simp only [List.cons.injEq, and_true] at h3
            subst h3
            exact done (run_copy_empty hat hu hi none 0 0 none 0 0 (by simp) w) (G.le.refl g) hI zero
          · simp only [List.cons.injEq, and_true] at h2
            subst h2
            exact done (run_copy_empty hat hu hi _ _ _ none 0 0 (by simp) w) (G.le.refl g) hI zero
        · split at he
          · rename_i y hs
            split at he
            · rename_i m hm
              have := Tr.ret_some he; subst this
              obtain ⟨a2, m2⟩ := y
              unfold castL at hm
              simp only at hm
              split at hm
              · rename_i heq
                subst heq
                simp only [Option.some.injEq] at hm
                subst hm
                obtain ⟨pv, xcap, us, rfl, h2, h3, h4, h5, h6⟩ := seen_spec hI hv2 hs
                have hul : us.length = m2.length * i.size := by rw [hsz]; exact repL_length (fun x cs => Rep_length a2 x cs) h4
                have num : ∀ {g' : G} (hmin : min m2.length l.length ≤ 9223372036854775807), VRep g' (.v (.int .i64) ((min m2.length l.length : Nat) : Int)) (.int .i64 ((min m2.length l.length : Nat) : Int)) := fun hmin => (VRep_v (by simp)).2 (TRep_int.2 ⟨rfl, inK_len hmin⟩)
                rcases hv1 trivial with ⟨hbn, hl0, hh⟩ | ⟨b, cap, hb, hh, ⟨hcap, hcm⟩, hcz⟩
                · simp only [List.cons.injEq, and_true] at hh
                  subst hh
                  have hl : l = [] := List.eq_nil_of_length_eq_zero hl0
                  subst hl
                  have hov : overL ([] : List a2.den) m2 = [] := by simp [overL]
                  refine done (run_copy_empty hat hu hi none 0 0 pv _ _ (by simp) w) (G.le.refl g) ?_ (by simpa using zero)
                  simp only [upd, hov]
                  rw [← hE, setE_same]
                  exact hI
                · simp only [List.cons.injEq, and_true] at hh
                  subst hh
                  have hent := hI.ent e
                  rw [hE] at hent
                  rcases hent with ⟨q1, _⟩ | ⟨b', cs, tt, fz, ls, rr, q1, q2, q3, q4, q5, q6, q7⟩
                  · rw [hb] at q1; cases q1
                  rw [hb] at q1
                  cases q1
                  have hll : ls.length = l.length * i.size := by rw [hsz]; exact repL_length (fun x cs => Rep_length a2 x cs) q6
                  have hcsz : cs.size = ls.length + rr.length := by rw [← Array.length_toList, q5, List.length_append]
                  by_cases hm0 : m2 = []
                  · subst hm0
                    have hov : overL l ([] : List a2.den) = l := by simp [overL]
                    refine done (run_copy_empty hat hu hi _ _ _ pv _ _ (by simp) w) (G.le.refl g) ?_ (by simpa using zero)
                    simp only [upd, hov]
                    rw [← hE, setE_same]
                    exact hI
                  · cases pv with
                    | none => exact absurd (h6 rfl) hm0
                    | some ad =>
                      have hmul : (min m2.length l.length) * i.size ≤ m2.length * i.size := Nat.mul_le_mul_right _ (Nat.min_le_left _ _)
                      have hmul2 : (min m2.length l.length) * i.size ≤ l.length * i.size := Nat.mul_le_mul_right _ (Nat.min_le_right _ _)
                      have hone : ∀ u ∈ us.take ((min m2.length l.length) * i.size), u.oneCell' = true := fun u hu => repL_cells (fun x cs => Rep_cells a2 x cs) h4 u (List.mem_of_mem_take hu)
                      have hnl : (us.take ((min m2.length l.length) * i.size)).length = (min m2.length l.length) * i.size := by rw [List.length_take]; omega
                      have hrun := run_copy_in (P := P) (ty := ty) w hat hu hi b l.length cap cs tt fz q2 q3 ad m2.length xcap (us.take ((min m2.length l.length) * i.size)) hnl (fun j v hv => h5 ad rfl j v (by
                        have hj := (List.getElem?_eq_some_iff.1 hv).1
                        rw [hnl] at hj
                        rw [List.getElem?_take_of_lt hj] at hv
                        exact hv)) hone (by omega)
                      have hsp : splice cs.toList 0 (us.take ((min m2.length l.length) * i.size)) = (us.take ((min m2.length l.length) * i.size) ++ ls.drop ((min m2.length l.length) * i.size)) ++ rr := by
                        unfold splice
                        rw [hnl, q5]
                        simp only [List.take_zero, List.nil_append, Nat.zero_add]
                        rw [List.drop_append_of_le_length (by omega), List.append_assoc]
                      have hsplen : (splice cs.toList 0 (us.take ((min m2.length l.length) * i.size))).length = cs.size := by
                        rw [hsp]
                        simp only [List.length_append, List.length_take, List.length_drop]
                        omega
                      have hrep : repL (Rep g a2) (overL l m2) (us.take ((min m2.length l.length) * i.size) ++ ls.drop ((min m2.length l.length) * i.size)) := by
                        have ht : m2.take l.length = m2.take (min m2.length l.length) := by
                          rw [Nat.min_comm, ← List.take_take, List.take_length]
                        unfold overL
                        rw [ht, hsz]
                        exact repL_append (repL_take (fun x cs => Rep_length a2 x cs) _ h4) (repL_drop (fun x cs => Rep_length a2 x cs) _ q6)
                      have hovl : (overL l m2).length = l.length := by
                        unfold overL
                        simp only [List.length_append, List.length_take, List.length_drop]
                        omega
                      obtain ⟨g', w1, w2, w3, w4, w5⟩ := hI.setVec (k' := k) (l' := overL l m2) (cs' := (splice cs.toList 0 (us.take ((min m2.length l.length) * i.size))).toArray) hE hb q2 (by simpa [hsplen] using q4)
                        (by unfold thawed at q3 ⊢; simpa [hsplen] using q3) (.inr ⟨rfl, hovl⟩) (vs := us.take ((min m2.length l.length) * i.size) ++ ls.drop ((min m2.length l.length) * i.size)) (r := rr) (by simpa using hsp) hrep q7
                      exact done hrun w1 w2 (num (by omega))
              · cases hm
            · exact (Tr.fail_some he).elim
          · exact (Tr.fail_some he).elim
      · exact (Tr.fail_some he).elim
    · exact (Tr.fail_some he).elim
  · exact (Tr.fail_some he).elim

theorem do_slice (hI : HInv g H w) {t : TypeId} {lo hi : Option Value} {bl bh : Bool} {pos : Bool} (hpos : pos = true → ∃ k n, lo = some (.int k n) ∧ 0 < n) (hbl : bl = lo.isSome) (hbh : bh = hi.isSome) {vs : List AV} {r : Value} (ha : argsRep g vs (r :: (lo.toList ++ (hi.toList ++ [])))) {out : Out}
    (he : (c_slice P t pos bl bh false vs (ents H (headIds vs))).eval = some out) : Done P g H w (do pure (.value (← Instr.sliceAt t r lo hi none))) out := by
  unfold c_slice at he
  simp only at he
  split at he
  · rename_i x rs _
    obtain ⟨v, rest, hrest, hx, ha⟩ := ha
    simp only [List.cons.injEq] at hrest
    obtain ⟨rfl, rfl⟩ := hrest
    split at he
    · rename_i l r1 hb1
      obtain ⟨hlo, ha1⟩ := bnd_spec hbl hb1 ha
      split at he
      · rename_i h hb2
        obtain ⟨hhi, _⟩ := bnd_spec hbh hb2 ha1
        split at he
        · rename_i s
          split at he
          · rename_i hu
            obtain ⟨hc, he⟩ := Tr.chk_some he
            have := Tr.ret_some he; subst this
            simp only [Bool.and_eq_true, decide_eq_true_eq] at hc
            obtain ⟨c1, c2, c3⟩ := hc
            have hv := (VRep_v (by simp)).1 hx
            rw [TRep_str] at hv
            obtain ⟨rfl, hs⟩ := hv
            have hrun := run_bounds (P := P) (b := false) (len := s.size) (cap := s.size) hlo hhi rfl c3 c1 c2 w
            refine done_val hI (v := .string (s.extract (l.getD 0).toNat (h.getD s.size).toNat)) ?_ ((VRep_v (by simp)).2 (TRep_str.2 ⟨rfl, ?_⟩))
            · have hsl : (Instr.slice t (.string s) lo hi none).run P w = .ok (.string (s.extract (l.getD 0).toNat (h.getD s.size).toNat)) w := by
                simp only [Instr.slice, Sem.run_bind, run_underlying hu, Result.andThen_ok]
                simp only [Option.isSome_none, Bool.false_eq_true, if_false, Sem.run_bind, Sem.run_pure, Result.andThen_ok, hrun]
              simp only [Instr.sliceAt, Sem.run_bind, run_underlying hu, Result.andThen_ok, hsl]
            · simp only [ByteArray.size_extract]
              omega
          · exact (Tr.fail_some he).elim
        · rename_i q f a xs
          split at he
          · rename_i hok
            obtain ⟨hc, he⟩ := Tr.chk_some he
            have := Tr.ret_some he; subst this
            simp only [Bool.and_eq_true, decide_eq_true_eq] at hc
            obtain ⟨c1, c2, c3⟩ := hc
            obtain ⟨e, hu⟩ : ∃ e, P.underlying t = some (.slice e) := by
              unfold elOk at hok
              split at hok
              · rename_i e hel; exact ⟨e, sliceEl_spec hel⟩
              · cases hok
            obtain ⟨hsk, hnc⟩ := elOk_spec hok hu
            have hr := (VRep_v (by simp)).1 hx
            simp only [TRep, Ty.agg, Ty.sk, Sk.agg, Bool.false_eq_true, if_false, Rep] at hr
            obtain ⟨pv, cap, h1, ⟨h2, h3⟩, hnn, h4⟩ := hr
            simp only [List.cons.injEq, and_true] at h1
            subst h1
            have hrun := run_bounds (P := P) (b := true) (len := xs.length) (cap := cap) hlo hhi rfl (Int.le_trans c3 (by omega)) c1 c2 w
            have hlen : ((xs.take (h.getD xs.length).toNat).drop (l.getD 0).toNat).length = (h.getD xs.length).toNat - (l.getD 0).toNat := by
              rw [List.length_drop, List.length_take]; omega
            have hsl : (Instr.slice t (.slice pv xs.length cap) lo hi none).run P w = .ok (.slice (if cap = (l.getD 0).toNat then pv else pv.map (·.add ((l.getD 0).toNat * a.sk.nc))) ((h.getD xs.length).toNat - (l.getD 0).toNat) (cap - (l.getD 0).toNat)) w := by
              simp only [Instr.slice, Sem.run_bind, run_underlying hu, Result.andThen_ok, hrun, run_sizeOf_sk hsk, Sem.run_pure]
            refine done_val hI (v := .slice (if cap = (l.getD 0).toNat then pv else pv.map (·.add ((l.getD 0).toNat * a.sk.nc))) ((h.getD xs.length).toNat - (l.getD 0).toNat) (cap - (l.getD 0).toNat)) ?_ ?_
            · simp only [Instr.sliceAt, Sem.run_bind, run_underlying hu, Result.andThen_ok, hsl]
            · refine (VRep_v (by simp)).2 ?_
              simp only [TRep, Ty.agg, Ty.sk, Sk.agg, Bool.false_eq_true, if_false, Rep]
              refine ⟨_, _, by rw [hlen], ?_, ?_, ?_⟩
              · rw [hlen]; omega
              · intro hpf
                have hpv : pv ≠ none := by
                  rw [Bool.or_eq_true] at hpf
                  rcases hpf with hpf | hpf
                  · obtain ⟨kk, nn, hlo', hn'⟩ := hpos hpf
                    rw [hlo'] at hlo
                    cases l with
                    | none => exact hlo.elim
                    | some l0 =>
                      obtain ⟨k2, hk2⟩ := hlo
                      simp only [Value.int.injEq] at hk2
                      obtain ⟨_, rfl⟩ := hk2
                      simp only [Option.getD_some] at c2
                      have hxs : xs ≠ [] := by rintro rfl; simp only [List.length_nil] at c2 c3; omega
                      obtain ⟨ad, us, hpv, _⟩ := h4 hxs
                      rw [hpv]; simp
                  · exact hnn hpf
                split
                · exact hpv
                · cases pv with
                  | none => exact absurd rfl hpv
                  | some _ => simp
              · intro hne
                have hxs : xs ≠ [] := by rintro rfl; simp at hne
                obtain ⟨ad, us, rfl, h5, h6⟩ := h4 hxs
                have hlt : (l.getD 0).toNat < (h.getD xs.length).toNat := by
                  have : ((xs.take (h.getD xs.length).toNat).drop (l.getD 0).toNat).length ≠ 0 := fun h0 => hne (List.eq_nil_of_length_eq_zero h0)
                  omega
                have hul : us.length = xs.length * a.sk.nc := repL_length (fun x cs => Rep_length a x cs) h5
                have hsp : ad.spot = none := by rcases h6 with h6 | ⟨_, h6⟩ <;> exact h6.1
                obtain ⟨b, off, sp⟩ := ad
                simp only at hsp
                subst hsp
                refine ⟨⟨b, off + (l.getD 0).toNat * a.sk.nc, none⟩, seg us ((l.getD 0).toNat * a.sk.nc) ((h.getD xs.length).toNat * a.sk.nc - (l.getD 0).toNat * a.sk.nc), ?_, ?_, ?_⟩
                · rw [if_neg (by omega)]; simp [addr_add]
                · have hT := repL_drop (fun x cs => Rep_length a x cs) (l.getD 0).toNat (repL_take (fun x cs => Rep_length a x cs) (h.getD xs.length).toNat h5)
                  have : seg us ((l.getD 0).toNat * a.sk.nc) ((h.getD xs.length).toNat * a.sk.nc - (l.getD 0).toNat * a.sk.nc) = (us.take ((h.getD xs.length).toNat * a.nc)).drop ((l.getD 0).toNat * a.nc) := by
                    unfold seg
                    rw [List.drop_take]
                    rfl
                  rw [this]
                  exact hT
                · rcases h6 with h6 | ⟨h0, h6⟩
                  · exact .inl (reads_sub h6 _ _)
                  · exact .inr ⟨h0, reads_sub h6 _ _⟩
          · exact (Tr.fail_some he).elim
        · rename_i e k u
          split at he
          · rename_i k' a xs hE
            simp only [headIds, vcOf, ents, List.cons.injEq, and_true] at hE
            split at he
            · rename_i hk
              simp only [Bool.and_eq_true, decide_eq_true_eq] at hk
              obtain ⟨rfl, hok⟩ := hk
              obtain ⟨hc, he⟩ := Tr.chk_some he
              have := Tr.ret_some he; subst this
              simp only [Bool.and_eq_true, decide_eq_true_eq] at hc
              obtain ⟨c1, c3⟩ := hc
              have hl0 : l = none := by
                cases l with
                | none => rfl
                | some l => cases lo with
                  | none => exact hlo.elim
                  | some v => simp at hbl
              subst hl0
              exact do_cut hI hx hE hok hlo hhi c1 c3
            · exact (Tr.fail_some he).elim
          · exact (Tr.fail_some he).elim
        · exact (Tr.fail_some he).elim
      · exact (Tr.fail_some he).elim
    · exact (Tr.fail_some he).elim
  · exact (Tr.fail_some he).elim

/-! more conversions -/

theorem do_nilEq {op : BinOp} {t : TypeId} (hI : HInv g H w) {a b : AV} {va vb : Value} (ha : VRep g a va) (hb : VRep g b vb) {r : Bool} (h : nilEq op a b = some r) (hs : (sliceEl P t).isSome = true) {x y : Operand} :
    ∃ v, (do eqGuard op t x y va vb; binOp op t va vb : Sem Value).run P w = .ok v w ∧ v = .bool r := by
  obtain ⟨e, he⟩ := Option.isSome_iff_exists.1 hs
  have hu := sliceEl_spec he
  have nn : ∀ {q : Bool} {T : Ty} {l : List T.den} {v : Value}, VRep g (.v (.imm q true T) l) v → ∃ ad n c, v = .slice (some ad) n c := by
    intro q T l v hv
    have hv := (VRep_v (by simp)).1 hv
    simp only [TRep, Ty.agg, Ty.sk, Sk.agg, Bool.false_eq_true, if_false, Rep] at hv
    obtain ⟨pv, cap, h1, _, h3, _⟩ := hv
    simp only [List.cons.injEq, and_true] at h1
    cases pv with
    | none => exact absurd rfl (h3 trivial)
    | some ad => exact ⟨ad, _, _, h1⟩
  have nil : ∀ {u : Unit} {v : Value}, VRep g (.v .nils u) v → v = .slice none 0 0 := by
    intro u v hv
    have hv := (VRep_v (by simp)).1 hv
    simpa only [TRep, Ty.agg, Ty.sk, Sk.agg, Bool.false_eq_true, if_false, Rep, List.cons.injEq, and_true] using hv
  have hgd : ∀ (op : BinOp) {v v' : Value}, (∃ a n c, v = .slice a n c) → (∃ a n c, v' = .slice a n c) → (eqGuard op t x y v v').run P w = .ok () w := by
    rintro op _ _ ⟨a, n, c, rfl⟩ ⟨a', n', c', rfl⟩
    exact run_eqGuard_plain w (by simp) (by simp)
  have e1 : ∀ v v' : Option Addr × Nat × Nat, binOp .eql t (.slice v.1 v.2.1 v.2.2) (.slice v'.1 v'.2.1 v'.2.2) = (do pure (.bool (← Op.equal t (.slice v.1 v.2.1 v.2.2) (.slice v'.1 v'.2.1 v'.2.2))) : Sem Value) := fun _ _ => rfl
  have e2 : ∀ v v' : Option Addr × Nat × Nat, binOp .neq t (.slice v.1 v.2.1 v.2.2) (.slice v'.1 v'.2.1 v'.2.2) = (do pure (.bool (!(← Op.equal t (.slice v.1 v.2.1 v.2.2) (.slice v'.1 v'.2.1 v'.2.2)))) : Sem Value) := fun _ _ => rfl
  have q1 : ∀ ad n c, (Op.equal t (.slice (some ad) n c) (.slice none 0 0)).run P w = .ok false w := by
    intro ad n c
    have e : Op.equal t (.slice (some ad) n c) (.slice none 0 0) = Op.equalIn (9999 + 1) t (.slice (some ad) n c) (.slice none 0 0) := rfl
    rw [e, Op.equalIn, Sem.run_bind, run_underlying hu]
    rfl
  have q2 : (Op.equal t (.slice none 0 0) (.slice none 0 0)).run P w = .ok true w := by
    have e : Op.equal t (.slice none 0 0) (.slice none 0 0) = Op.equalIn (9999 + 1) t (.slice none 0 0) (.slice none 0 0) := rfl
    rw [e, Op.equalIn, Sem.run_bind, run_underlying hu]
    rfl
  unfold nilEq at h
  split at h
  · simp only [Option.some.injEq] at h; subst h
    obtain ⟨ad, n, c, rfl⟩ := nn ha
    have := nil hb; subst this
    refine ⟨_, ?_, rfl⟩
    rw [Sem.run_bind, hgd _ ⟨_, _, _, rfl⟩ ⟨_, _, _, rfl⟩, Result.andThen_ok, e1 (some ad, n, c) (none, 0, 0), Sem.run_bind, q1]; rfl
  · simp only [Option.some.injEq] at h; subst h
    obtain ⟨ad, n, c, rfl⟩ := nn ha
    have := nil hb; subst this
    refine ⟨_, ?_, rfl⟩
    rw [Sem.run_bind, hgd _ ⟨_, _, _, rfl⟩ ⟨_, _, _, rfl⟩, Result.andThen_ok, e2 (some ad, n, c) (none, 0, 0), Sem.run_bind, q1]; rfl
  · simp only [Option.some.injEq] at h; subst h
    have := nil ha; subst this
    have := nil hb; subst this
    refine ⟨_, ?_, rfl⟩
    rw [Sem.run_bind, hgd _ ⟨_, _, _, rfl⟩ ⟨_, _, _, rfl⟩, Result.andThen_ok, e1 (none, 0, 0) (none, 0, 0), Sem.run_bind, q2]; rfl
  · simp only [Option.some.injEq] at h; subst h
    have := nil ha; subst this
    have := nil hb; subst this
    refine ⟨_, ?_, rfl⟩
    rw [Sem.run_bind, hgd _ ⟨_, _, _, rfl⟩ ⟨_, _, _, rfl⟩, Result.andThen_ok, e2 (none, 0, 0) (none, 0, 0), Sem.run_bind, q2]; rfl
  · cases h

theorem isAd_rep {a : AV} {va : Value} (ha : VRep g a va) (h : isAd a = true) : ∃ ad, va = .pointer (some ad) := by
  unfold isAd at h
  split at h
  · have ha := (VRep_v (by simp)).1 ha
    simp only [TRep, Ty.agg, Ty.sk, Sk.agg, Bool.false_eq_true, if_false, Rep] at ha
    obtain ⟨⟨ad, had⟩, _⟩ := ha
    simp only [List.cons.injEq, and_true] at had
    exact ⟨ad, had⟩
  · have ha := (VRep_v (by simp)).1 ha
    simp only [TRep, Ty.agg, Ty.sk, Sk.agg, Bool.false_eq_true, if_false, Rep] at ha
    obtain ⟨ad, vs, had, _⟩ := ha
    simp only [List.cons.injEq, and_true] at had
    exact ⟨ad, had⟩
  · have ha := (VRep_v (by simp)).1 ha
    simp only [TRep, Ty.agg, Ty.sk, Sk.agg, Bool.false_eq_true, if_false, Rep] at ha
    obtain ⟨⟨ad, had⟩, _⟩ := ha
    simp only [List.cons.injEq, and_true] at had
    exact ⟨ad, had⟩
  · cases h

theorem do_nilPtr {op : BinOp} {t : TypeId} {a b : AV} {va vb : Value} (ha : VRep g a va) (hb : VRep g b vb) {r : Bool} (h : nilPtr op a b = some r) (hs : isPtrT P t = true) {x y : Operand} :
    ∃ v, (do eqGuard op t x y va vb; binOp op t va vb : Sem Value).run P w = .ok v w ∧ v = .bool r := by
  obtain ⟨el, hu⟩ : ∃ el, P.underlying t = some (.pointer el) := by
    unfold isPtrT at hs
    split at hs
    · rename_i e hu; exact ⟨e, hu⟩
    · cases hs
  unfold nilPtr at h
  split at h
  · rename_i hc
    simp only [Bool.and_eq_true] at hc
    obtain ⟨ad, rfl⟩ := isAd_rep ha hc.1
    have hb' : vb = .pointer none := by
      have hn := hc.2
      unfold isNilp at hn
      split at hn
      · have hb := (VRep_v (by simp)).1 hb
        simpa only [TRep, Ty.agg, Ty.sk, Sk.agg, Bool.false_eq_true, if_false, Rep, List.cons.injEq, and_true] using hb
      · cases hn
    subst hb'
    have hgd : ∀ op : BinOp, (eqGuard op t x y (.pointer (some ad)) (.pointer none)).run P w = .ok () w := fun op => run_eqGuard_plain w (by simp) (by simp)
    have q1 : (Op.equal t (.pointer (some ad)) (.pointer none)).run P w = .ok false w := by
      have e : Op.equal t (.pointer (some ad)) (.pointer none) = Op.equalIn (9999 + 1) t (.pointer (some ad)) (.pointer none) := rfl
      rw [e, Op.equalIn, Sem.run_bind, run_underlying hu]
      rfl
    split at h
    · simp only [Option.some.injEq] at h; subst h
      refine ⟨_, ?_, rfl⟩
      have e : binOp .eql t (.pointer (some ad)) (.pointer none) = (do pure (.bool (← Op.equal t (.pointer (some ad)) (.pointer none))) : Sem Value) := rfl
      rw [Sem.run_bind, hgd, Result.andThen_ok, e, Sem.run_bind, q1]; rfl
    · simp only [Option.some.injEq] at h; subst h
      refine ⟨_, ?_, rfl⟩
      have e : binOp .neq t (.pointer (some ad)) (.pointer none) = (do pure (.bool (!(← Op.equal t (.pointer (some ad)) (.pointer none)))) : Sem Value) := rfl
      rw [Sem.run_bind, hgd, Result.andThen_ok, e, Sem.run_bind, q1]; rfl
    · cases h
  · cases h

theorem do_s2ap (hI : HInv g H w) {t : TypeId} {vs : List AV} {r : Value} (ha : argsRep g vs [r]) {out : Out} (he : (c_s2ap P t vs).eval = some out) : Done P g H w (do pure (.value (← Instr.arrayAt t r))) out := by
  obtain ⟨a, rfl, hr⟩ := argsRep1 ha
  unfold c_s2ap at he
  split at he
  · rename_i q f a l heq
    simp only [List.cons.injEq, and_true] at heq
    subst heq
    split at he
    · rename_i n hn
      obtain ⟨el, hu⟩ := arrLen_spec hn
      split at he
      · rename_i hc
        obtain ⟨hle, he⟩ := Tr.chk_some he
        have := Tr.ret_some he; subst this
        simp only [Bool.and_eq_true, beq_iff_eq, decide_eq_true_eq] at hc hle
        have hr := (VRep_v (by simp)).1 hr
        simp only [TRep, Ty.agg, Ty.sk, Sk.agg, Bool.false_eq_true, if_false, Rep] at hr
        obtain ⟨pv, cap, h1, _, _, h4⟩ := hr
        simp only [List.cons.injEq, and_true] at h1
        subst h1
        obtain ⟨ad, us, rfl, h5, h6⟩ := h4 (by rintro rfl; simp at hle; exact hc.2 hle)
        refine done_val hI (v := .pointer (some ad)) ?_ ((VRep_v (by simp)).2 ?_)
        · simp only [Instr.arrayAt, Sem.run_bind, run_underlying hu, Result.andThen_ok]
          rw [if_neg (by omega)]
          simp
        · simp only [TRep, Ty.agg, Ty.sk, Sk.agg, Bool.false_eq_true, if_false, Rep]
          have cut : ∀ F, reads F ad us → reads F ad (us.take (n * a.nc)) := by
            rintro F ⟨h0, cs, tt, fz, w1, w2⟩
            refine ⟨h0, cs, tt, fz, w1, fun i v hi => w2 i v ?_⟩
            rw [List.getElem?_take] at hi
            split at hi
            · exact hi
            · cases hi
          refine ⟨ad, us.take (n * a.nc), rfl, ⟨by simp [hle], repL_take (fun x cs => Rep_length a x cs) n h5⟩, ?_⟩
          rcases h6 with h6 | ⟨h0, h6⟩
          · exact .inl (cut _ h6)
          · exact .inr ⟨h0, cut _ h6⟩
      · exact (Tr.fail_some he).elim
    · exact (Tr.fail_some he).elim
  · exact (Tr.fail_some he).elim

/-- a new block that is never written again -/
theorem HInv.newFr (h : HInv g H w) {w' : World} {cs : Array Value} {t : TypeId} {fz : Nat × Nat} (hold : ∀ b, b < w.heap.size → w'.heap[b]? = w.heap[b]?) (hnew : w'.heap[w.heap.size]? = some (.cells cs t fz))
    (hx : (w'.os, w'.output, w'.tape) = (w.os, w.output, w.tape)) : ∃ g', g.le g' ∧ HInv g' H w' ∧ g'.fr w.heap.size = some (.cells cs t fz) := by
  have hlt : ∀ {b : Nat} {o : Obj}, w.heap[b]? = some o → b < w.heap.size := fun h => (Array.getElem?_eq_some_iff.1 h).1
  have hk : ∀ {b : Nat} {o : Obj}, w.heap[b]? = some o → w'.heap[b]? = some o := fun {b o} h => by rw [hold b (hlt h)]; exact h
  let g' : G := { g with fr := fun b => if b = w.heap.size then some (.cells cs t fz) else g.fr b }
  have hle : g.le g' := by
    refine ⟨fun b o hb => ?_, rfl, rfl, fun e => .same rfl rfl rfl⟩
    have := hlt (h.fr b o hb)
    simp only [g']
    rw [if_neg (by omega)]; exact hb
  refine ⟨g', hle, ⟨h.sh, ?_, fun b o hb => hk (h.gr b o hb), ?_, ?_, ?_, h.dis, hx.trans h.ext⟩, by simp [g']⟩
  · intro b o hb
    simp only [g'] at hb
    split at hb
    · rename_i hb'; subst hb'; simp only [Option.some.injEq] at hb; subst hb; exact hnew
    · exact hk (h.fr b o hb)
  · intro e
    exact ERep_mono hle rfl rfl (ERep_world (fun b _ o ho => hk ho) (h.ent e))
  · intro e b hl hb
    refine ⟨?_, (h.own e b hl hb).2⟩
    obtain ⟨cs', t', fz', hx'⟩ := h.there hl hb
    have := hlt hx'
    simp only [g']
    rw [if_neg (by omega)]
    exact (h.own e b hl hb).1
  · intro b o o' hb hb'
    simp only [g'] at hb
    split at hb
    · rename_i he
      subst he
      have := hlt (h.gr _ _ hb')
      omega
    · exact h.sep b o o' hb hb'

theorem do_bytes (hI : HInv g H w) {s d : TypeId} {x : ByteArray} (hx : x.size ≤ 9223372036854775807) (hs : P.underlying s = some .string) (hd : isBytes P d = true) :
    Done P g H w (do pure (.value (← convert s d (.string x)))) (.v (.imm true true (.int .u8)) (strBytes x), []) := by
  obtain ⟨e, hu, he⟩ := isBytes_spec hd
  have hrun := Go.Lib.run_convert_string_bytes (P := P) w s d e x hs hu he
  have hbn := Go.Lib.bytesWorld_at_new w e x
  obtain ⟨g', h1, h2, h3⟩ := hI.newFr (w' := Go.Lib.bytesWorld w e x) (Go.Lib.bytesWorld_at_old w e x) hbn rfl
  refine ⟨.value (.slice (some ⟨w.heap.size, 0, none⟩) x.size (grownCap w x.size 0 e)), _, _, g', by simp [hrun], .inl rfl, h1, h2, (VRep_v (by simp)).2 ?_⟩
  simp only [TRep, Ty.agg, Ty.sk, Sk.agg, Bool.false_eq_true, if_false, Rep]
  have hlen : (strBytes x).length = x.size := by simp [strBytes]
  have hcap := grownCap_le_maxLen w x.size 0 e (by simpa [maxLen] using hx)
  refine ⟨_, _, by rw [hlen], ⟨by rw [hlen]; exact grownCap_ge w x.size 0 e, by simpa [maxLen] using hcap⟩, by simp, fun _ => ⟨_, (strBytes x).map (Value.int .u8), rfl, ?_, .inl ⟨rfl, _, _, _, h3, ?_⟩⟩⟩
  · have : ∀ l : List UInt8, repL (Rep g' (.int .u8)) (l.map fun b => (b.toNat : Int)) ((l.map fun b => (b.toNat : Int)).map (Value.int .u8)) := by
      intro l
      induction l with
      | nil => rfl
      | cons b l ih =>
        refine ⟨[.int .u8 b.toNat], _, rfl, ⟨rfl, ?_⟩, ih⟩
        have := UInt8.toNat_lt b
        show inK .u8 (b.toNat : Int) = true
        rw [inK_iff]
        have h1 : IntKind.u8.min = 0 := by decide
        have h2 : IntKind.u8.max = 255 := by decide
        rw [h1, h2]; omega
    exact this x.data.toList
  · intro i v hi
    simp only [Nat.zero_add]
    have hi' : i < x.data.toList.length := by
      have := (List.getElem?_eq_some_iff.1 hi).1
      simpa [strBytes] using this
    have e1 : (Go.Lib.bytesCells w e x).toList = (strBytes x).map (Value.int .u8) ++ List.replicate (grownCap w x.size 0 e - x.size) (.int .u8 0) := by
      simp [Go.Lib.bytesCells, strBytes, Function.comp_def]
    have : (Go.Lib.bytesCells w e x).toList[i]? = some v := by
      rw [e1, List.getElem?_append_left (by simpa [strBytes] using hi')]; exact hi
    simpa using this

theorem do_mark (hI : HInv g H w) {s : TypeId} {e k : Nat} {r : Value} (hr : VRep g (.v (.vc e k) ()) r) {a : Sk} {n : Nat} (hE : shp (getE H e) = .vec k a n) (hn : n ≠ 0) (hs : isBytes P s = true) :
    Done P g H w (do pure (.value (← convert s s r))) (.v (.vc e k) (), []) := by
  obtain ⟨el, hu, he⟩ := isBytes_spec hs
  cases hEe : getE H e with
  | free => rw [hEe] at hE; cases hE
  | dead => rw [hEe] at hE; cases hE
  | box T x => rw [hEe] at hE; cases hE
  | vec k' b l =>
    rw [hEe] at hE
    simp only [shp, ESh.vec.injEq] at hE
    obtain ⟨rfl, rfl, rfl⟩ := hE
    have hlive : (getE H e).live = true := by rw [hEe]; rfl
    have hsh : g.sh e = .vec k' b.sk l.length := by rw [hI.sh, hEe]; rfl
    have hr' := (VRep_v (by simp)).1 hr
    simp only [TRep, Ty.agg, Ty.sk, Sk.agg, Bool.false_eq_true, if_false, Rep, G.vcr, hsh] at hr'
    obtain ⟨_, _, hr'⟩ := hr'
    rcases hr' trivial with ⟨_, h0, _⟩ | ⟨bb, cap, hb, hh, hcap, hcz⟩
    · exact absurd h0 hn
    simp only [List.cons.injEq, and_true] at hh
    subst hh
    have hent := hI.ent e
    rw [hEe] at hent
    rcases hent with ⟨q1, _⟩ | ⟨b', cs, tt, fz, ls, rr, q1, q2, q3, q4, q5, q6, q7⟩
    · rw [hb] at q1; cases q1
    rw [hb] at q1
    cases q1
    have hshape : w.shape? bb = some (tt, cs.size) := by simp [World.shape?, q2]
    have hrun : (convert s s (.slice (some ⟨bb, 0, none⟩) l.length cap)).run P w = .ok (.slice (some ⟨bb, 0, none⟩) l.length cap) (w.freeze ⟨bb, cs.size, none⟩ 1) := by
      simp [convert, run_underlying hu, run_underlying he, markStringish, hshape]
    have hnew : (w.freeze ⟨bb, cs.size, none⟩ 1).heap[bb]? = some (.cells cs tt (if fz.1 == fz.2 then (cs.size, cs.size + 1) else (min fz.1 cs.size, max fz.2 (cs.size + 1)))) := by
      obtain ⟨lo, hi⟩ := fz
      simp only [World.freeze, Nat.one_ne_zero, if_false, Array.getElem?_modify, if_true, q2, Option.map_some]
    have hoth : ∀ b2, b2 ≠ bb → (w.freeze ⟨bb, cs.size, none⟩ 1).heap[b2]? = w.heap[b2]? := by
      intro b2 hne
      simp only [World.freeze, Nat.one_ne_zero, if_false, Array.getElem?_modify, if_neg (Ne.symm hne)]
    have hth : thawed cs (if fz.1 == fz.2 then (cs.size, cs.size + 1) else (min fz.1 cs.size, max fz.2 (cs.size + 1))) := by
      unfold thawed at q3 ⊢
      split
      · exact .inr (Nat.le_refl _)
      · rename_i hne
        rcases q3 with q3 | q3
        · exact absurd (by simp [q3]) hne
        · exact .inr (by simp only; omega)
    have hle : g.le (g.put e (shp (getE H e)) (g.bl e) (g.sz e)) := G.put_le (.same (by simp [G.put, hI.sh]) (by simp [G.put]) (by simp [G.put]))
    have hI' := hI.turn (w' := w.freeze ⟨bb, cs.size, none⟩ 1) (lt_of_live hlive) (E := getE H e) (b := g.bl e) (z := g.sz e) hle
      (fun b2 o hne ho => by rw [hoth b2 (hne bb hlive hb)]; exact ho)
      (by
        rw [hEe]
        exact .inr ⟨bb, cs, tt, _, ls, rr, by simp [G.put, hb], hnew, hth, by simp [G.put, q4], q5, repL_mono (fun y _ cs => (Rep_mono (hEe ▸ hle) b y cs).1) q6, q7⟩)
      (fun b2 hb2 => hI.own e b2 hlive hb2) (fun i b2 hi hl hb1 hb2 => hi (hI.dis i e b2 hl hlive hb1 hb2)) (by
        have : ((w.freeze ⟨bb, cs.size, none⟩ 1).os, (w.freeze ⟨bb, cs.size, none⟩ 1).output, (w.freeze ⟨bb, cs.size, none⟩ 1).tape) = (w.os, w.output, w.tape) := by
          simp [World.freeze]
        exact this.trans hI.ext)
    rw [setE_same] at hI'
    exact ⟨.value _, _, _, _, by rw [Sem.run_bind, hrun]; rfl, .inl rfl, hle, hI', VRep_mono hle hr⟩

/-- an own slice is given up: it is never written again -/
theorem HInv.freeze (h : HInv g H w) {e k : Nat} {a : Ty} {l : List a.den} (hE : getE H e = .vec k a l) :
    ∃ g', g.le g' ∧ HInv g' (setE H e .dead) w ∧ ∀ rv, VRep g (.v (.vc e k) ()) rv → VRep g' (.v (.imm true false a) l) rv := by
  have hlive : (getE H e).live = true := by rw [hE]; rfl
  have hlt := lt_of_live hlive
  have hget : ∀ i, getE (setE H e .dead) i = if i = e then .dead else getE H i := by
    intro i; rw [getE_setE]; by_cases hi : i = e <;> simp [hi, hlt]
  let g' : G := { g with fr := fun b => if g.bl e = some b then w.heap[b]? else g.fr b, sh := fun i => if i = e then .dead else g.sh i }
  have hle : g.le g' := by
    refine ⟨fun b o hb => ?_, rfl, rfl, fun i => ?_⟩
    · simp only [g']
      by_cases hbe : g.bl e = some b
      · rw [(h.own e b hlive hbe).1] at hb; cases hb
      · rw [if_neg hbe]; exact hb
    · by_cases hi : i = e
      · subst hi; exact .dead (by simp [g'])
      · exact .same (by simp [g', hi]) rfl rfl
  have hl : ∀ i, (getE (setE H e .dead) i).live = true → i ≠ e ∧ (getE H i).live = true := by
    intro i hi
    rw [hget] at hi
    by_cases hie : i = e
    · rw [if_pos hie] at hi; cases hi
    · rw [if_neg hie] at hi; exact ⟨hie, hi⟩
  refine ⟨g', hle, ⟨?_, ?_, h.gr, ?_, ?_, ?_, ?_, h.ext⟩, ?_⟩
  · intro i; rw [hget]; by_cases hi : i = e
    · simp [g', hi, shp]
    · simp only [g', if_neg hi]; exact h.sh i
  · intro b o hb
    simp only [g'] at hb
    split at hb
    · exact hb
    · exact h.fr b o hb
  · intro i
    rw [hget]
    by_cases hi : i = e
    · rw [if_pos hi]; trivial
    · rw [if_neg hi]; exact ERep_mono hle rfl rfl (h.ent i)
  · intro i b hi hb
    obtain ⟨hne, hi⟩ := hl i hi
    refine ⟨?_, (h.own i b hi hb).2⟩
    simp only [g']
    rw [if_neg]
    · exact (h.own i b hi hb).1
    · intro hbe
      exact hne (h.dis i e b hi hlive hb hbe)
  · intro b o o' hb hb'
    simp only [g'] at hb
    split at hb
    · rename_i hbe
      rw [(h.own e b hlive hbe).2] at hb'; cases hb'
    · exact h.sep b o o' hb hb'
  · intro i j b hi hj hb hb'
    exact h.dis i j b (hl i hi).2 (hl j hj).2 hb hb'
  · intro rv hv
    have hsh : g.sh e = .vec k a.sk l.length := by rw [h.sh, hE]; rfl
    have hv := (VRep_v (by simp)).1 hv
    simp only [TRep, Ty.agg, Ty.sk, Sk.agg, Bool.false_eq_true, if_false, Rep, G.vcr, hsh] at hv
    obtain ⟨_, _, hv⟩ := hv
    refine (VRep_v (by simp)).2 ?_
    simp only [TRep, Ty.agg, Ty.sk, Sk.agg, Bool.false_eq_true, if_false, Rep]
    have he := h.ent e
    rw [hE] at he
    rcases hv trivial with ⟨_, h0, hh⟩ | ⟨b, cap, hb, hh, hcap, _⟩
    · have hl0 : l = [] := List.eq_nil_of_length_eq_zero h0
      subst hl0
      exact ⟨none, 0, hh, by simp, by simp, by simp⟩
    · rcases he with ⟨q1, _⟩ | ⟨b', cs, t, fz, vs, r, q1, q2, q3, q4, q5, q6, q7⟩
      · rw [hb] at q1; cases q1
      rw [hb] at q1
      cases q1
      refine ⟨_, cap, hh, hcap, by simp, fun _ => ⟨_, vs, rfl, repL_mono (fun y _ cs => (Rep_mono hle a y cs).1) q6, .inl ⟨rfl, cs, t, fz, by simp [g', hb, q2], fun i v hi => ?_⟩⟩⟩
      have hj : i < vs.length := (List.getElem?_eq_some_iff.1 hi).1
      have : cs.toList[i]? = some v := by rw [q5, List.getElem?_append_left hj]; exact hi
      simpa using this

theorem nils_rep {g' : G} {a : Ty} : ∀ {tl : List AV} {rs : List Value}, tl.all isNils = true → argsRep g tl rs → argsRep g' (tl.map fun _ => .v (.imm true false a) []) rs
  | [], rs, _, h => h
  | v :: tl, rs, hn, ⟨r, rs', h1, h2, h3⟩ => by
    simp only [List.all_cons, Bool.and_eq_true] at hn
    refine ⟨r, rs', h1, ?_, nils_rep hn.2 h3⟩
    have hn1 := hn.1
    unfold isNils at hn1
    split at hn1
    · have h2 := (VRep_v (by simp)).1 h2
      refine (VRep_v (by simp)).2 ?_
      simp only [TRep, Ty.agg, Ty.sk, Sk.agg, Bool.false_eq_true, if_false, Rep] at h2 ⊢
      exact ⟨none, 0, h2, by simp, by simp, by simp⟩
    · cases hn1

theorem do_buildSlice (hI : HInv g H w) {t : TypeId} {n : Nat} {ps : Array (Nat × Operand)} {ρ : Operand → Value} {vs : List AV} (ha : argsRep g vs (ps.toList.map fun x => ρ x.2)) {fr : Nat} (hfr : getE H fr = .free ∧ fr < H.length) {out : Out}
    (he : (c_buildSlice P t n (ps.toList.map (·.1)) vs (ents H (bsIds vs)) fr).eval = some out) : Done P g H w (do pure (.value (← Instr.buildSlice t n (ps.map fun (i, x) => (i, ρ x))))) out := by
  unfold c_buildSlice at he
  split at he
  · rename_i e k u tl k' a l hE
    split at he
    · rename_i hk
      have hk := Bool.and_eq_true_iff.1 hk
      obtain ⟨hk, hnil⟩ := hk
      have hk := of_decide_eq_true hk
      subst hk
      simp only [bsIds, hnil, if_true, vcOf, ents, List.cons.injEq, and_true] at hE
      obtain ⟨r, h1, h2⟩ := Tr.bind_some he
      have := Tr.ret_some h2; subst this
      obtain ⟨g', q1, q2, q3⟩ := hI.freeze hE
      obtain ⟨rv, rs, hrs, hv, hr⟩ := ha
      have ha' : argsRep g' (.v (.imm true false a) l :: tl.map fun _ => .v (.imm true false a) []) (ps.toList.map fun x => ρ x.2) := by
        rw [hrs]
        exact ⟨rv, rs, rfl, q3 rv hv, nils_rep hnil hr⟩
      have hne : fr ≠ e := by
        rintro rfl
        rw [hfr.1] at hE; cases hE
      obtain ⟨nx, rv', w', g'', w1, w2, w3, w4, w5⟩ := do_build q2 ha' (fr := fr) ⟨by rw [getE_setE, if_neg (fun h => hne h.1)]; exact hfr.1, by rw [setE_length]; exact hfr.2⟩ h1
      exact ⟨nx, rv', w', g'', w1, w2, q1.trans w3, w4, w5⟩
    · exact (Tr.fail_some he).elim
  · exact do_build hI ha hfr he

end
end Vse

/- Records that are kept (layer 14, journal): behind a crash: JournalSure is true. -/
import Derived.Test.YtffdkniccaebmaaJ11
set_option linter.unusedVariables false
set_option linter.unusedSimpArgs false
set_option maxRecDepth 100000
namespace Go.Proofs.Ytffdkniccaebmaa.Jnl
open Go Vse Go.Proofs Gen
open Sto (stT D R1 R0 rdyF appF syncF repF appP Ox er mk fuseF crashF crashP crashS)
open Fld (lenN or_bytes Bytes bytes_get bytes_drop)

/-- what opens: records, and what is behind them -/
structure Op (d : D) (rs : LL) (t : List Int) : Prop where
  b : d.b = alF rs ++ t
  sc : ∀ m, scan m t = some ([], t)
  ok : ∀ b ∈ rs, b.length ≤ 1000
  room : d.room = 1048576
  fu : d.fuse = -1
  dn : d.down = false
  le : d.b.length ≤ 10000
theorem rep_ok {d : D} (hf : d.fuse = -1) (hd : d.down = false) {x : List Int} (hx : (x.length : Int) ≤ d.room) : repF rdyF x d = er 0 (mk x x.length d.room (-1) false) := by
  unfold repF
  have e : rdyF x.length d = er 0 (mk d.b d.sure d.room (-1) false) := by
    unfold rdyF
    rw [if_neg (by rw [hf, hd]; simp), if_neg (by omega), if_pos hf, hf]
  rw [e]
  rfl
theorem op_open {d : D} {rs : LL} {t : List Int} (h : Op d rs t) : pF d = true ∧ ((fF d).2.2.2.1 = rs ∧ (dOf (fF d)).b = alF rs) ∧ (dOf (fF d)).room = 1048576 ∧ (dOf (fF d)).fuse = -1 ∧ (dOf (fF d)).down = false ∧ (fF d).2.2.1 = ((), (), false, ()) ∧ ((dOf (fF d)).sure = d.sure ∧ t = [] ∨ (dOf (fF d)).sure = ((alF rs).length : Int)) := by
  obtain ⟨h1, h2, h3⟩ := read_al h.ok h.sc
  rw [← h.b] at h1 h2 h3
  have hb := h.b
  have hle := h.le
  have hlen : d.b.length = (alF rs).length + t.length := by rw [hb, List.length_append]
  have hcut : cutB d.b = alF rs := by
    unfold cutB
    rw [h3, hlen, Nat.add_sub_cancel, hb]
    exact List.take_left' rfl
  have hrep := rep_ok h.fu h.dn (x := alF rs) (by rw [h.room]; omega)
  refine ⟨?_, ?_⟩
  · unfold pF opP opOk
    rw [decide_eq_true (show d.b.length ≤ 2000000 by omega), h1, hcut, hrep, show (decide ((er 0 (mk (alF rs) (alF rs).length d.room (-1) false)).1.1 = 0)) = true from rfl, Bool.or_true]
    rfl
  · unfold fF opF
    rw [h3, h2, hcut, hrep]
    by_cases ht : t.length = 0
    · have ht' : t = [] := List.eq_nil_of_length_eq_zero ht
      rw [if_pos ht]
      refine ⟨⟨rfl, ?_⟩, h.room, h.fu, h.dn, rfl, .inl ⟨rfl, ht'⟩⟩
      show d.b = _
      rw [hb, ht', List.append_nil]
    · rw [if_neg ht]
      exact ⟨⟨rfl, rfl⟩, h.room, rfl, rfl, rfl, .inr rfl⟩
/-- behind a crash -/
theorem en_crash {d : D} {su wy : LL} (h : En d su wy) {n : Int} (h0 : -9223372036854775808 ≤ n) (h1 : n ≤ 9223372036854775807) (hf : -1 ≤ d.fuse) (hf1 : d.fuse ≤ 9223372036854775807) :
    crashP n d = true ∧ ∃ rs t, (rs = su ∨ rs = wy) ∧ Op (crashF n d).2 rs t := by
  have hl := h.len
  have hI : Sto.Inv d := by
    refine ⟨by rw [h.sure]; omega, ?_, ?_, by rw [h.room]; omega, hf, hf1⟩
    · rw [h.sure]
      rcases h.b with e | ⟨b, _, hb, e⟩
      · rw [e]; omega
      · rw [e, List.length_append]; omega
    · rw [h.room]
      rcases h.b with e | ⟨b, _, hb, e⟩
      · rw [e]; omega
      · rw [e, List.length_append, laid_len]; omega
  obtain ⟨_, _, c3, _⟩ := Sto.crash_same h0 h1 hI
  have hs := Sto.crash_at h0 h1 hI
  rw [h.sure] at hs
  refine ⟨c3, ?_⟩
  have hcb : (crashF n d).2.b = d.b.take (crashS n d).toNat := rfl
  rcases h.b with e | ⟨b, hw, hb, e⟩
  · refine ⟨su, [], .inl rfl, ?_, scan_nil, h.ok, h.room, rfl, rfl, ?_⟩
    · rw [hcb, List.append_nil, e]
      exact List.take_of_length_le (by rw [e] at hs; omega)
    · rw [hcb, List.length_take, e]; omega
  · have hdl : d.b.length = (alF su).length + (10 + b.length) := by rw [e, List.length_append, laid_len]
    have hle : (d.b.take (crashS n d).toNat).length ≤ 10000 := by rw [List.length_take]; omega
    rw [hdl] at hs
    have hk : ∃ k : Nat, (crashS n d).toNat = (alF su).length + k ∧ k ≤ 10 + b.length := ⟨(crashS n d).toNat - (alF su).length, by omega, by omega⟩
    obtain ⟨k, hk1, hk2⟩ := hk
    have htk : d.b.take (crashS n d).toNat = alF su ++ (laidF b).take k := by
      rw [hk1, e, List.take_append, List.take_of_length_le (by omega), Nat.add_sub_cancel_left]
    by_cases hkk : k < 10 + b.length
    · exact ⟨su, (laidF b).take k, .inl rfl, by rw [hcb, htk], scan_part hb hkk, h.ok, h.room, rfl, rfl, by rw [hcb]; exact hle⟩
    · refine ⟨wy, [], .inr rfl, ?_, scan_nil, ?_, h.room, rfl, rfl, by rw [hcb]; exact hle⟩
      · rw [hcb, htk, List.take_of_length_le (by rw [laid_len]; omega), hw, al_snoc, List.append_nil]
      · intro c hc
        rw [hw] at hc
        rcases List.mem_append.1 hc with hc | hc
        · exact h.ok c hc
        · rw [List.mem_singleton.1 hc]; exact hb

theorem okR_of {rs : LL} (h : ∀ b ∈ rs, b.length ≤ 1000) (hl : rs.length ≤ 10000) : okR rs = true := by
  unfold okR
  rw [decide_eq_true (by omega), Bool.true_and]
  exact List.all_eq_true.2 fun b hb => decide_eq_true (by have := h b hb; omega)
theorem sameL_self (a : LL) : Fld.sameL a a = true := decide_eq_true rfl

/-- the store behind all operations: its fuse -/
structure Fu (d : D) : Prop where
  f0 : -1 ≤ d.fuse
  f1 : d.fuse ≤ 9223372036854775807
theorem fu_ways (m : Int) {d : D} (h : Fu d) : Fu (rdyF m d).2 := by
  have h0 := h.f0
  have h1 := h.f1
  unfold rdyF
  split
  · exact ⟨h0, h1⟩
  · refine ⟨?_, ?_⟩
    · show -1 ≤ (if d.fuse = -1 then d.fuse else Fld.w (d.fuse - 1))
      split
      · exact h0
      · rename_i hh hf
        rw [Fld.w_id (by omega) (by omega)]
        have : d.fuse ≠ 0 := fun he => hh (.inr he)
        omega
    · show (if d.fuse = -1 then d.fuse else Fld.w (d.fuse - 1)) ≤ _
      split
      · exact h1
      · rw [Fld.w_id (by omega) (by omega)]; omega
theorem fu_app {x : List Int} {d : D} (h : Fu d) : Fu (appF rdyF x d).2 := by
  have := fu_ways (Fld.w ((d.b.length : Int) + x.length)) h
  unfold appF
  dsimp only
  split
  · exact ⟨this.f0, this.f1⟩
  · exact this
theorem fu_sync {d : D} (h : Fu d) : Fu (syncF rdyF d).2 := by
  have := fu_ways 0 h
  unfold syncF
  dsimp only
  split
  · exact ⟨this.f0, this.f1⟩
  · exact this
theorem fu_rep {x : List Int} {d : D} (h : Fu d) : Fu (repF rdyF x d).2 := by
  have := fu_ways x.length h
  unfold repF
  dsimp only
  split
  · exact ⟨this.f0, this.f1⟩
  · exact this
theorem fu_add {b : List Int} {h : JD} (hf : Fu (stD h)) : Fu (stD (addF b h).2) := by
  unfold addF
  split
  · exact hf
  split
  · exact hf
  split
  · split
    · exact fu_sync (fu_app hf)
    · exact fu_sync (fu_app hf)
  · exact fu_app hf
theorem fu_on {l : LL} {h : JD} (hf : Fu (stD h)) : Fu (stD (onF l h).2) := by
  unfold onF
  split
  · exact hf
  split
  · exact hf
  split
  · exact fu_rep hf
  · exact fu_rep hf
theorem fu_run : ∀ (l : List Ox) (h : JD) (su wy : LL) (dn : Bool), Fu (stD h) → Fu (runJ l h su wy dn).1
  | [], h, su, wy, dn, hf => hf
  | x :: l, h, su, wy, dn, hf => by
    have hq : Fu (stD (qJ x h).2) := by
      unfold qJ
      split
      · exact fu_on hf
      · exact fu_add hf
    rw [runJ]
    split
    · exact hf
    split
    · exact fu_run l _ _ _ _ hq
    · exact fu_run l _ _ _ _ hq

theorem TJu_true {l : List Ox} {n : List Int} (hz : ¬ szF l > 2000 → szN l ≤ 2000) (hn : ∀ k, -9223372036854775808 ≤ n.getD k 0 ∧ n.getD k 0 ≤ 9223372036854775807) :
    (TJu true szF crashP crashF fuseF pF fF okR Fld.sameL cJ0 (fun l h => (runJ l h [] [] false).1) (fun l h => (runJ l h [] [] false).2.1) (fun l h => (runJ l h [] [] false).2.2) l n).eval = some (.v .bool true) := by
  unfold TJu
  dsimp only
  by_cases h0 : szF l > 2000
  · rw [ite_t (decide_eq_true h0)]; rfl
  have hN := hz h0
  have hOp0 : Op (Sto.newF 1048576).2 [] [] := ⟨rfl, scan_nil, (by intro b hb; cases hb), rfl, rfl, rfl, by decide⟩
  obtain ⟨p0, ⟨p1, p2⟩, p3, p4, p5, p6, p7⟩ := op_open hOp0
  have p7 : (dOf (fF (Sto.newF 1048576).2)).sure = 0 := by
    rcases p7 with ⟨p7, _⟩ | p7
    · exact p7
    · rw [p7]; rfl
  rw [ite_f (decide_eq_false h0), chk_eval p0]
  generalize fF (Sto.newF 1048576).2 = F0 at p1 p2 p3 p4 p5 p6 p7
  have hfu : (fuseF (n.getD 0 0) (dOf F0)).2 = mk (dOf F0).b (dOf F0).sure (dOf F0).room (max (n.getD 0 0) (-1)) (dOf F0).down := by
    have := Sto.maxI_eq (n.getD 0 0) (-1)
    show mk (dOf F0).b (dOf F0).sure (dOf F0).room (maxI (n.getD 0 0) (-1)) (dOf F0).down = _
    rw [this]
  obtain ⟨n0, n1⟩ := hn 0
  obtain ⟨m0, m1⟩ := hn 1
  generalize hH : ((F0.2.2.1, (fuseF (n.getD 0 0) (dOf F0)).2.1, F0.2.2.2.1, (fuseF (n.getD 0 0) (dOf F0)).2.2.1, ()) : JD) = H0
  have hst : stD H0 = (fuseF (n.getD 0 0) (dOf F0)).2 := by rw [← hH]; rfl
  have hG : isG H0 = true := by
    unfold isG
    rw [hst, hfu]
    have e1 : H0.1.2.2.1 = false := by rw [← hH]; show F0.2.2.1.2.2.1 = false; rw [p6]
    have e2 : H0.2.2.1.length = 0 := by rw [← hH]; show F0.2.2.2.1.length = 0; rw [p1]; rfl
    rw [e1, decide_eq_true e2, Sto.b_mk, Sto.sure_mk, Sto.room_mk, Sto.fuse_mk, p2, p7, p3, decide_eq_true (show (-1 : Int) ≤ max (n.getD 0 0) (-1) by omega), decide_eq_true (show max (n.getD 0 0) (-1) ≤ 9223372036854775807 by omega)]
    rfl
  have hGo := isG_go hG hN
  have hE := run_end l H0 [] [] false (.inr ⟨rfl, hGo⟩)
  have hFu := fu_run l H0 [] [] false ⟨hGo.f0, hGo.f1⟩
  rw [chk_eval (show cJ0 l [] [] false 0 H0 = true by unfold cJ0; rw [hG, decide_eq_true hN]; rfl)]
  generalize runJ l H0 [] [] false = R at hE hFu
  obtain ⟨hc, rs, t, hrs, hop⟩ := en_crash hE m0 m1 hFu.f0 hFu.f1
  rw [chk_eval hc]
  generalize (crashF (n.getD 1 0) R.1).2 = d3 at hop
  obtain ⟨q0, ⟨q1, q2⟩, q3, q4, q5, q6, q7⟩ := op_open hop
  rw [chk_eval q0]
  have hlr : rs.length ≤ 10000 := by have := al_ge rs; have := hop.le; rw [hop.b, List.length_append] at this; omega
  have hokr := okR_of hop.ok hlr
  generalize fF d3 = F3 at q1 q2 q3 q4 q5 q6 q7
  have hop4 : Op (dOf F3) rs [] := ⟨by rw [q2, List.append_nil], scan_nil, hop.ok, q3, q4, q5, by rw [q2]; have := hop.le; rw [hop.b, List.length_append] at this; omega⟩
  obtain ⟨r0, ⟨r1, _⟩, _⟩ := op_open hop4
  rw [q1, chk_eval hokr, chk_eval hokr, chk_eval r0]
  generalize fF (dOf F3) = F4 at r1
  rw [r1, chk_eval hokr, chk_eval hokr, ite_t rfl, sameL_self]
  rcases hrs with e | e
  · rw [e, sameL_self, ite_t rfl]; rfl
  · rw [e, sameL_self]
    cases Fld.sameL R.2.2 R.2.1 <;> rfl

/-- how many bytes there are -/
theorem sz_eq : ∀ (l : List Ox) (n : Int), Sto.shortO l = true → 0 ≤ n → n ≤ 2000000000000000 → szJ l n ≤ 2000 → n + (szN l : Int) ≤ 2000
  | [], n, _, _, _, h => by show n + 0 ≤ 2000; rw [Int.add_zero]; exact h
  | x :: l, n, hs, h0, h1, h => by
    have hs' := hs
    simp only [Sto.shortO, List.all_cons, Bool.and_eq_true, decide_eq_true_eq] at hs'
    rw [szJ] at h
    split at h
    · have hw : w (w (n + w (2 * (x.2.2.1.length : Int))) + 10) = n + 2 * (x.2.2.1.length : Int) + 10 := by
        rw [w_id (x := 2 * (x.2.2.1.length : Int)) (by omega) (by omega), w_id (x := n + _) (by omega) (by omega), w_id (by omega) (by omega)]
      rw [hw] at h
      have := sz_eq l _ hs'.2 (by omega) (by omega) h
      show n + ((2 * x.2.2.1.length + 10 + szN l : Nat) : Int) ≤ 2000
      omega
    · omega
theorem int_wf {n : Int} (h : i64.wf n) : -9223372036854775808 ≤ n ∧ n ≤ 9223372036854775807 := by
  have h : (Lit.int .i64 n).wf = true := h
  simp [Lit.wf, IntKind.min, IntKind.max, IntKind.signed, IntKind.bits] at h
  omega
theorem ju_sz {l : List Ox} (hx : Ty.wf lo l) (hz : Ty.sz lo l) : ¬ szF l > 2000 → szN l ≤ 2000 := fun h => by
  have hs : Sto.shortO l = true := by
    simp only [Sto.shortO, List.all_eq_true, decide_eq_true_eq]
    intro x hx
    have := (hz.2 x hx).2.2.1.1
    have h2 : List.length (α := Int) x.2.2.1 ≤ 140737488351232 := by simpa [reachBytes] using this
    omega
  have := sz_eq l 0 hs (Int.le_refl 0) (by decide) (by show szF l ≤ 2000; omega)
  omega
theorem ju_n {n : List Int} (hx : Ty.wf n2 n) (k : Nat) : -9223372036854775808 ≤ n.getD k 0 ∧ n.getD k 0 ≤ 9223372036854775807 := by
  rw [List.getD_eq_getElem?_getD]
  cases h : n[k]? with
  | none => simp
  | some x => exact int_wf (hx.2 x (List.mem_of_getElem? h))
end Go.Proofs.Ytffdkniccaebmaa.Jnl

/- The clock (layer 8): servers that answer, one by one; the time stays within what is known. Plain: no program in sight. -/
import Derived.Test.YtmolcddccjgliaaV6
set_option linter.unusedVariables false
set_option maxRecDepth 100000
namespace Go.Proofs.Ytmolcddccjgliaa.Clock
open Go Vse Go.Proofs Gen Sweep

abbrev VL := List tV.den
def growL (m : TL) (t p : Int) : TL := m.map fun s => growF s t p
structure Sv where
  now : Int
  read : Int
  liars : Int
  m : TL

/-- what is asked of a server; and what it tells -/
def small (x : tV.den) : Bool := (decide (x.1 ≥ 0) && decide (x.2.1 ≥ 0)) && (decide (x.1 < 1099511627776) && decide (x.2.1 < 1099511627776)) && ((decide (x.2.2.2.2.1 ≥ 0) && decide (x.2.2.2.2.2.1 ≥ 0)) && (decide (x.2.2.2.2.1 < 1073741824) && decide (x.2.2.2.2.2.1 < 1073741824)))
def p1 (x : tV.den) (p : Int) := partedF x.2.2.2.2.1 x.2.2.2.2.2.2.1 p
def p2 (x : tV.den) (p : Int) := partedF x.2.2.2.2.2.1 x.2.2.2.2.2.2.2.1 p
def p3 (x : tV.den) (p : Int) := partedF (w (x.2.2.2.2.1 + x.2.2.2.2.2.1)) (w (x.2.2.2.2.2.2.1 + x.2.2.2.2.2.2.2.1)) p
def told (x : tV.den) (now : Int) : tS.den := if x.2.2.1 = true then x.2.2.2.1 else (w (w (now + x.2.2.2.2.1) - x.1), w (w (now + x.2.2.2.2.1) + x.2.1), ())
def okV (x : tV.den) (now p : Int) : Bool := small x && ((p1 x p).2.1 && ((p2 x p).2.1 && ((p3 x p).2.1 && rRightF (told x now))))
def nread (x : tV.den) (read p : Int) : Int := w (w (read + (p1 x p).1) + (p2 x p).1)
def next (x : tV.den) (p : Int) (s : Sv) : Sv :=
  ⟨w (w (s.now + x.2.2.2.2.1) + x.2.2.2.2.2.1), nread x s.read p, if x.2.2.1 = true then w (s.liars + 1) else s.liars, growL s.m (w ((p1 x p).1 + (p2 x p).1)) p ++ [(sampF (told x s.now) s.read (nread x s.read p) p).1]⟩
def run (p : Int) : VL → Sv → Option Sv
  | [], s => some s
  | x :: l, s => if okV x s.now p = true then run p l (next x p s) else none

/-! numbers -/

theorem small_iff {e la to bk : Int} : ((decide (e ≥ 0) && decide (la ≥ 0)) && (decide (e < 1099511627776) && decide (la < 1099511627776)) && ((decide (to ≥ 0) && decide (bk ≥ 0)) && (decide (to < 1073741824) && decide (bk < 1073741824)))) = true ↔
    0 ≤ e ∧ 0 ≤ la ∧ e < 1099511627776 ∧ la < 1099511627776 ∧ 0 ≤ to ∧ 0 ≤ bk ∧ to < 1073741824 ∧ bk < 1073741824 := by
  simp only [Bool.and_eq_true, decide_eq_true_eq]
  omega
theorem small_ok {e la to bk pt pb : Int} {lies : Bool} {says : tS.den} {u : Unit} (h : small ((e, la, lies, says, to, bk, pt, pb, u) : tV.den) = true) : 0 ≤ e ∧ 0 ≤ la ∧ e < 1099511627776 ∧ la < 1099511627776 ∧ 0 ≤ to ∧ 0 ≤ bk ∧ to < 1073741824 ∧ bk < 1073741824 := small_iff.1 h
theorem parted_ok {r b p : Int} (hr : 0 ≤ r) (hr2 : r ≤ 4398046511104) (hp : 0 ≤ p) (hp2 : p ≤ 100000) (h : (partedF r b p).2.1 = true) :
    (partedF r b p).1 = r + b ∧ 0 ≤ r + b ∧ b ≤ 1099511627776 ∧ -1099511627776 ≤ b ∧ b ≤ slackF (r + b) p ∧ -slackF (r + b) p ≤ b := by
  unfold partedF at *
  by_cases hc : b < -1099511627776 ∨ b > 1099511627776 ∨ w (r + b) < 0
  · dsimp only at h
    rw [if_pos hc] at h
    cases h
  · have hb : -1099511627776 ≤ b ∧ b ≤ 1099511627776 := by omega
    have e : w (r + b) = r + b := w_id (by omega) (by omega)
    dsimp only at h ⊢
    rw [if_neg hc] at h ⊢
    rw [e] at h hc ⊢
    dsimp only at h ⊢
    simp only [Bool.and_eq_true, decide_eq_true_eq] at h
    rw [rslack_eq] at h
    have hk : knownF (r + b) p = true := (known_iff _ _).2 ⟨by omega, by omega, hp, hp2⟩
    obtain ⟨s1, s2⟩ := slack_le hk
    have e2 : w (0 - slackF (r + b) p) = 0 - slackF (r + b) p := w_id (by omega) (by omega)
    rw [e2] at h
    exact ⟨rfl, by omega, by omega, by omega, h.1, by omega⟩

/-- a span that had the time, and has grown by what the hardware told, has it still -/
theorem grow_keeps {lo hi t d ticks p : Int} (hr : rightF (lo, hi, ()) = true) (hk : knownF ticks p = true) (h1 : lo ≤ t) (h2 : t ≤ hi) (h3 : ticks - slackF ticks p ≤ d) (h4 : d ≤ ticks + slackF ticks p) (h5 : t + d ≤ 1152921504606846976) :
    ∃ lo' hi' : Int, growF (lo, hi, ()) ticks p = (lo', hi', ()) ∧ lo' ≤ t + d ∧ t + d ≤ hi' := by
  refine ⟨_, _, grow_right hk hr, by omega, by omega⟩
/-- what may be may be behind growth -/
theorem grow_may {lo hi ticks p : Int} (hr : rightF (lo, hi, ()) = true) (hk : knownF ticks p = true) : ∃ lo' hi' : Int, growF (lo, hi, ()) ticks p = (lo', hi', ()) ∧ rightF (lo', hi', ()) = true := by
  obtain ⟨r1, r2, r3⟩ := (right_iff lo hi).1 hr
  obtain ⟨s1, s2⟩ := slack_le hk
  exact ⟨_, _, grow_right hk hr, (right_iff _ _).2 ⟨by omega, by omega, by omega⟩⟩

theorem read_iff (n : Int) : readF n = true ↔ 0 ≤ n ∧ n ≤ 1152921504606846976 := by
  simp [readF]
theorem part_iff (n : Int) : partF n = true ↔ 0 ≤ n ∧ n ≤ 100000 := by
  simp [partF]
theorem samp_ok {s : tS.den} {a g p : Int} (hs : rightF s = true) (ha : 0 ≤ a) (hg : g ≤ 1152921504606846976) (hag : a ≤ g) (hp : partF p = true) : sampF s a g p = ((s.1, (growF s (g - a) p).2.1, ()), 0, ()) := by
  unfold sampF
  rw [if_pos ⟨hs, (read_iff a).2 ⟨ha, by omega⟩, (read_iff g).2 ⟨by omega, hg⟩, by omega, hp⟩, w_id (x := g - a) (by omega) (by omega)]

/-! the servers -/

structure Inv (p : Int) (k : Nat) (s : Sv) : Prop where
  n0 : 0 ≤ s.now
  n1 : s.now ≤ 1099511627776 + k * 2147483648
  r0 : 0 ≤ s.read
  r1 : s.read ≤ 1099511627776 + k * 8796093022208
  l0 : 0 ≤ s.liars
  l1 : s.liars ≤ k
  len : s.m.length = k
  right : ∀ x ∈ s.m, rightF x = true
  most : (k : Int) - s.liars ≤ votes (pl s.m) s.now

theorem votes_cons (x : tS.den) (m : TL) (t : Int) : votes (pl (x :: m)) t = votes (pl m) t + if has (ofP x) t = true then 1 else 0 := by
  unfold votes
  show List.countP _ (ofP x :: pl m) = _
  rw [List.countP_cons]
theorem votes_snoc (x : tS.den) (m : TL) (t : Int) : votes (pl (m ++ [x])) t = votes (pl m) t + if has (ofP x) t = true then 1 else 0 := by
  rw [pl_app]
  unfold votes
  rw [List.countP_append]
  show _ + List.countP _ [ofP x] = _
  rw [List.countP_singleton]
theorem has_iff (lo hi t : Int) : has (ofP ((lo, hi, ()) : tS.den)) t = true ↔ lo ≤ t ∧ t ≤ hi := by
  show (decide (lo ≤ t) && decide (t ≤ hi)) = true ↔ _
  simp
theorem grown {p ticks d t : Int} (hk : knownF ticks p = true) (h3 : ticks - slackF ticks p ≤ d) (h4 : d ≤ ticks + slackF ticks p) (h5 : t + d ≤ 1152921504606846976) : ∀ m : TL, (∀ x ∈ m, rightF x = true) →
    votes (pl m) t ≤ votes (pl (growL m ticks p)) (t + d) ∧ ∀ x ∈ growL m ticks p, rightF x = true
  | [], _ => ⟨Nat.le_refl _, fun x hx => by cases hx⟩
  | s :: m, hr => by
    obtain ⟨i1, i2⟩ := grown hk h3 h4 h5 m fun x hx => hr x (List.mem_cons_of_mem _ hx)
    have hs := hr s (by simp)
    obtain ⟨lo, hi, u⟩ := s
    have e : growL ((lo, hi, u) :: m) ticks p = growF (lo, hi, u) ticks p :: growL m ticks p := rfl
    rw [e]
    refine ⟨?_, fun x hx => ?_⟩
    · rw [votes_cons, votes_cons]
      by_cases hh : has (ofP ((lo, hi, u) : tS.den)) t = true
      · obtain ⟨a1, a2⟩ := (has_iff lo hi t).1 hh
        obtain ⟨lo', hi', q1, q2, q3⟩ := grow_keeps hs hk a1 a2 h3 h4 h5
        rw [if_pos hh, q1, if_pos ((has_iff lo' hi' _).2 ⟨q2, q3⟩)]
        omega
      · rw [if_neg hh]; omega
    · rcases List.mem_cons.1 hx with rfl | hx
      · obtain ⟨lo', hi', q1, q2⟩ := grow_may hs hk
        rw [q1]; exact q2
      · exact i2 x hx

theorem inv_next {p : Int} {k : Nat} {now liars now' read' liars' ticks : Int} {m : TL} {sam : tS.den} (n0 : 0 ≤ now') (n1 : now' ≤ 1099511627776 + ((k + 1 : Nat) : Int) * 2147483648) (r0 : 0 ≤ read') (r1 : read' ≤ 1099511627776 + ((k + 1 : Nat) : Int) * 8796093022208)
    (l0 : 0 ≤ liars) (l1 : liars ≤ k) (len : m.length = k) (most : (k : Int) - liars ≤ votes (pl m) now) (v1 : votes (pl m) now ≤ votes (pl (growL m ticks p)) now') (v2 : ∀ x ∈ growL m ticks p, rightF x = true)
    (hs : rightF sam = true) (hc : (liars' = liars ∧ has (ofP sam) now' = true) ∨ liars' = liars + 1) : Inv p (k + 1) ⟨now', read', liars', growL m ticks p ++ [sam]⟩ := by
  have hl : (growL m ticks p).length = m.length := List.length_map _
  refine ⟨n0, n1, r0, r1, ?_, ?_, ?_, fun y hy => ?_, ?_⟩
  · show 0 ≤ liars'; omega
  · show liars' ≤ ((k + 1 : Nat) : Int); omega
  · dsimp only; rw [List.length_append, hl, len]; rfl
  · rcases List.mem_append.1 hy with hy | hy
    · exact v2 y hy
    · rw [List.mem_singleton.1 hy]; exact hs
  · dsimp only
    rw [votes_snoc]
    rcases hc with ⟨rfl, hh⟩ | rfl
    · rw [if_pos hh]; omega
    · omega
theorem five {a b s : Int} (h : -s ≤ b) : a ≤ a + b + s := by omega
theorem samp_may {p lo hi ticks now to bk : Int} (hr : rightF (lo, hi, ()) = true) (hkn : knownF ticks p = true) (s1 : 0 ≤ slackF ticks p) (m7 : 0 ≤ ticks) (m5 : to + bk ≤ ticks + slackF ticks p) (m6 : now + to + bk ≤ 1152921504606846976) (a5 : 0 ≤ to) (a6 : 0 ≤ bk) :
    rightF (lo, (growF (lo, hi, ()) ticks p).2.1, ()) = true ∧ (lo ≤ now + to → now + to ≤ hi → lo ≤ now + to + bk ∧ now + to + bk ≤ (growF (lo, hi, ()) ticks p).2.1) := by
  obtain ⟨q1, q2, q3⟩ := (right_iff lo hi).1 hr
  rw [grow_right hkn hr]
  show rightF (lo, min (hi + ticks + slackF ticks p) 1152921504606846976, ()) = true ∧ (lo ≤ now + to → now + to ≤ hi → lo ≤ now + to + bk ∧ now + to + bk ≤ min (hi + ticks + slackF ticks p) 1152921504606846976)
  exact ⟨(right_iff _ _).2 ⟨by omega, by omega, by omega⟩, fun _ _ => by omega⟩
theorem next_inv {p : Int} {k : Nat} {s : Sv} {x : tV.den} (hk : k < 12) (hp : 0 ≤ p) (hp2 : p ≤ 100000) (h : Inv p k s) (ho : okV x s.now p = true) :
    Inv p (k + 1) (next x p s) ∧ (sampF (told x s.now) s.read (nread x s.read p) p).2.1 = 0 ∧ (x.2.2.1 = true → w (s.liars + 1) = s.liars + 1) := by
  obtain ⟨n0, n1, r0, r1, l0, l1, len, hright, most⟩ := h
  obtain ⟨now, read, liars, m⟩ := s
  dsimp only at *
  obtain ⟨e, la, lies, says, to, bk, pt, pb, u⟩ := x
  unfold okV at ho
  simp only [Bool.and_eq_true] at ho
  obtain ⟨h1, h2, h3, h4, h5⟩ := ho
  replace h1 := small_ok h1
  obtain ⟨a1, a2, a3, a4, a5, a6, a7, a8⟩ := h1
  replace h2 : (partedF to pt p).2.1 = true := h2
  replace h3 : (partedF bk pb p).2.1 = true := h3
  replace h4 : (partedF (w (to + bk)) (w (pt + pb)) p).2.1 = true := h4
  obtain ⟨b1, b2, b3, b4, b5, b6⟩ := parted_ok (by omega) (by omega) hp hp2 h2
  obtain ⟨c1, c2, c3, c4, c5, c6⟩ := parted_ok (by omega) (by omega) hp hp2 h3
  have w1 : w (to + bk) = to + bk := w_id (by omega) (by omega)
  have w2 : w (pt + pb) = pt + pb := w_id (by omega) (by omega)
  rw [w1, w2] at h4
  obtain ⟨d1, d2, d3, d4, d5, d6⟩ := parted_ok (by omega) (by omega) hp hp2 h4
  have w3 : w (read + (to + pt)) = read + (to + pt) := w_id (by omega) (by omega)
  have w4 : w (read + (to + pt) + (bk + pb)) = read + (to + pt) + (bk + pb) := w_id (by omega) (by omega)
  have w5 : w ((to + pt) + (bk + pb)) = to + bk + (pt + pb) := (w_id (by omega) (by omega)).trans (by omega)
  have w6 : w (now + to) = now + to := w_id (by omega) (by omega)
  have w7 : w (now + to + bk) = now + to + bk := w_id (by omega) (by omega)
  have w8 : w (liars + 1) = liars + 1 := w_id (by omega) (by omega)
  have w9 : w (now + to - e) = now + to - e := w_id (by omega) (by omega)
  have w10 : w (now + to + la) = now + to + la := w_id (by omega) (by omega)
  have en : nread ((e, la, lies, says, to, bk, pt, pb, u) : tV.den) read p = read + (to + pt) + (bk + pb) := by
    show w (w (read + (partedF to pt p).1) + (partedF bk pb p).1) = _
    rw [b1, c1, w3, w4]
  have et : w ((p1 ((e, la, lies, says, to, bk, pt, pb, u) : tV.den) p).1 + (p2 ((e, la, lies, says, to, bk, pt, pb, u) : tV.den) p).1) = to + bk + (pt + pb) := by
    show w ((partedF to pt p).1 + (partedF bk pb p).1) = _
    rw [b1, c1, w5]
  have hkn : knownF (to + bk + (pt + pb)) p = true := (known_iff _ _).2 ⟨by omega, by omega, hp, hp2⟩
  have hpt : partF p = true := (part_iff p).2 ⟨hp, hp2⟩
  obtain ⟨s1, s2⟩ := slack_le hkn
  have hT : told ((e, la, lies, says, to, bk, pt, pb, u) : tV.den) now = if lies = true then says else (now + to - e, now + to + la, ()) := by
    show (if lies = true then says else (w (w (now + to) - e), w (w (now + to) + la), ())) = _
    rw [w6, w9, w10]
  have h5 : rightF (told ((e, la, lies, says, to, bk, pt, pb, u) : tV.den) now) = true := by rw [← rright_fun]; exact h5
  have hS := samp_ok (g := read + (to + pt) + (bk + pb)) h5 r0 (by omega) (by omega) hpt
  rw [show read + (to + pt) + (bk + pb) - read = to + bk + (pt + pb) by omega] at hS
  obtain ⟨v1, v2⟩ := grown (d := to + bk) (t := now) hkn (by omega) (by omega) (by omega) m hright
  refine ⟨?_, by rw [en, hS], fun _ => w8⟩
  have hnx : next ((e, la, lies, says, to, bk, pt, pb, u) : tV.den) p ⟨now, read, liars, m⟩ = ⟨now + to + bk, read + (to + pt) + (bk + pb), if lies = true then liars + 1 else liars, growL m (to + bk + (pt + pb)) p ++ [((told ((e, la, lies, says, to, bk, pt, pb, u) : tV.den) now).1, (growF (told ((e, la, lies, says, to, bk, pt, pb, u) : tV.den) now) (to + bk + (pt + pb)) p).2.1, ())]⟩ := by
    unfold next
    rw [et, en, hS]
    show Sv.mk (w (w (now + to) + bk)) _ (if lies = true then w (liars + 1) else liars) _ = _
    rw [w6, w7, w8]
  rw [hnx]
  rw [show now + (to + bk) = now + to + bk by omega] at v1
  have m1 : 0 ≤ now + to + bk := by omega
  have m2 : now + to + bk ≤ 1099511627776 + ((k + 1 : Nat) : Int) * 2147483648 := by omega
  have m3 : 0 ≤ read + (to + pt) + (bk + pb) := by omega
  have m4 : read + (to + pt) + (bk + pb) ≤ 1099511627776 + ((k + 1 : Nat) : Int) * 8796093022208 := by omega
  rw [hT] at h5 ⊢
  have m5 := five (a := to + bk) d6
  have m6 : now + to + bk ≤ 1152921504606846976 := by omega
  have m7 : 0 ≤ to + bk + (pt + pb) := by omega
  clear hnx hS hT en et w1 w2 w3 w4 w5 w6 w7 w8 w9 w10 b1 b2 b3 b4 b5 b6 c1 c2 c3 c4 c5 c6 d1 d2 d3 d4 d5 d6 h2 h3 h4 n1 r1 r0
  cases lies with
  | true =>
    replace h5 : rightF says = true := h5
    obtain ⟨slo, shi, su⟩ := says
    obtain ⟨z2, z3⟩ := samp_may h5 hkn s1 m7 m5 m6 a5 a6
    exact inv_next m1 m2 m3 m4 l0 l1 len most v1 v2 z2 (.inr rfl)
  | false =>
    replace h5 : rightF (now + to - e, now + to + la, ()) = true := h5
    obtain ⟨z2, z3⟩ := samp_may h5 hkn s1 m7 m5 m6 a5 a6
    exact inv_next m1 m2 m3 m4 l0 l1 len most v1 v2 z2 (.inl ⟨rfl, (has_iff _ _ _).2 (z3 (by omega) (by omega))⟩)

theorem run_inv {p : Int} (hp : 0 ≤ p) (hp2 : p ≤ 100000) : ∀ (l : VL) (k : Nat) (s s' : Sv), k + l.length ≤ 12 → Inv p k s → run p l s = some s' → Inv p (k + l.length) s'
  | [], k, s, s', _, h, hr => by
    cases hr; exact h
  | x :: l, k, s, s', hk, h, hr => by
    have hk' : k + (l.length + 1) ≤ 12 := hk
    unfold run at hr
    by_cases ho : okV x s.now p = true
    · rw [if_pos ho] at hr
      have := run_inv hp hp2 l (k + 1) _ s' (by omega) (next_inv (by omega) hp hp2 h ho).1 hr
      rw [show k + (x :: l).length = k + 1 + l.length by rw [List.length_cons]; omega]
      exact this
    · rw [if_neg ho] at hr; cases hr

end Go.Proofs.Ytmolcddccjgliaa.Clock

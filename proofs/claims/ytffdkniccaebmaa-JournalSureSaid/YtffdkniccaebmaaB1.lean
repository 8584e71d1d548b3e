/- What a store's functions make of what stands in it (layer 13): plain functions, and the ways that the code takes. -/
import Derived.Test.YtffdkniccaebmaaM5
import Derived.Test.YtffdkniccaebmaaF1
set_option linter.unusedVariables false
set_option maxRecDepth 100000
namespace Go.Proofs.Ytffdkniccaebmaa.Sto
open Go Vse Go.Proofs Fld

/-- a store: bytes in entry v at growth K, how many are sure, room, fuse, down -/
abbrev stT (v K : Nat) : Ty := .prod (.vc v K) (.prod i64 (.prod i64 (.prod i64 (.prod .bool .unit))))
abbrev opT : Ty := .prod i64 (.prod i64 (.prod bt .unit))
abbrev D := (Unit × Int × Int × Int × Bool × Unit) × List Int × Unit
abbrev Ox := Int × Int × List Int × Unit

def D.b (d : D) : List Int := d.2.1
def D.sure (d : D) : Int := d.1.2.1
def D.room (d : D) : Int := d.1.2.2.1
def D.fuse (d : D) : Int := d.1.2.2.2.1
def D.down (d : D) : Bool := d.1.2.2.2.2.1
def mk (b : List Int) (sure room fuse : Int) (down : Bool) : D := (((), sure, room, fuse, down, ()), b, ())
abbrev R1 := (Int × Unit) × D
abbrev R0 := Unit × D
def er (e : Int) (d : D) : R1 := ((e, ()), d)

theorem bf {x y : Int} (h : ¬ x = y) : (x == y) = false := by simp [h]
theorem nt {x y : Int} (h : ¬ x = y) : (x != y) = true := by simp [h]

/-! the store's -/

/-- why nothing is done, by which there would be so many bytes -/
def rdyF (m : Int) (d : D) : R1 :=
  if d.down = true ∨ d.fuse = 0 then er 8 (mk d.b d.sure d.room d.fuse true)
  else er (if m > d.room then 7 else 0) (mk d.b d.sure d.room (if d.fuse = -1 then d.fuse else w (d.fuse - 1)) false)

def rdyG (m : Int) (d : D) : Tr R1 :=
  let E (e : Int) (fuse : Int) (down : Bool) : Tr R1 := .ret ((e, ()), ((), d.1.2.1, d.1.2.2.1, fuse, down, ()), d.2.1, ())
  let fin (fuse : Int) (down : Bool) : Tr R1 := .ite (decide (m > d.1.2.2.1)) (E 7 fuse down) (E 0 fuse down)
  .ite d.1.2.2.2.2.1 (E 8 d.1.2.2.2.1 true) (.ite (d.1.2.2.2.1 == 0) (E 8 d.1.2.2.2.1 (d.1.2.2.2.1 == 0)) (.ite (d.1.2.2.2.1 != -1) (fin (w (d.1.2.2.2.1 - 1)) (d.1.2.2.2.1 == 0)) (fin d.1.2.2.2.1 (d.1.2.2.2.1 == 0))))

theorem rdy_eq (m : Int) (d : D) : (rdyG m d).eval = some (rdyF m d) := by
  obtain ⟨⟨u, sure, room, fuse, down, u'⟩, b, u''⟩ := d
  simp only [rdyG, rdyF, D.down, D.fuse, D.b, D.sure, D.room, mk, er]
  cases down
  · by_cases h0 : fuse = 0
    · subst h0; rfl
    · by_cases h1 : fuse = -1
      · subst h1
        by_cases h2 : m > room <;> simp [Tr.eval, h2]
      · by_cases h2 : m > room <;> simp [Tr.eval, h2, bf h0, nt h1, h0, h1]
  · simp [Tr.eval]

/-- is there room for what is laid behind? -/
def fits (d : D) (x : List Int) : Bool := room (d.b.length + x.length) 1

def appF (e : Int → D → R1) (x : List Int) (d : D) : R1 :=
  let q := e (w ((d.b.length : Int) + x.length)) d
  if q.1.1 = 0 then (q.1, q.2.1, q.2.2.1 ++ x, ()) else q
def appP (e : Int → D → R1) (x : List Int) (d : D) : Bool := fits (e (w ((d.b.length : Int) + x.length)) d).2 x
def appG (e : Int → D → R1) (x : List Int) (d : D) : Tr R1 :=
  let q := e (w ((d.2.1.length : Int) + x.length)) d
  .ite (q.1.1 == 0) (.chk (room (q.2.2.1.length + x.length) 1) (.ret (q.1, q.2.1, q.2.2.1 ++ x, ()))) (.ret q)
theorem app_eq (e : Int → D → R1) (x : List Int) (d : D) (h : appP e x d = true) : (appG e x d).eval = some (appF e x d) := by
  simp only [appP, fits, D.b] at h
  simp only [appG, appF, D.b, Tr.chk, h]
  by_cases h0 : (e (w ((d.2.1.length : Int) + x.length)) d).1.1 = 0
  · simp [Tr.eval, h0]
  · simp [Tr.eval, h0, bf h0]

def syncF (e : Int → D → R1) (d : D) : R1 :=
  let q := e 0 d
  if q.1.1 = 0 then (q.1, mk q.2.b q.2.b.length q.2.room q.2.fuse q.2.down) else q
def syncG (e : Int → D → R1) (d : D) : Tr R1 :=
  let q := e 0 d
  .ite (q.1.1 == 0) (.ret (q.1, ((), (q.2.2.1.length : Int), q.2.1.2.2.1, q.2.1.2.2.2.1, q.2.1.2.2.2.2.1, ()), q.2.2.1, ())) (.ret q)
theorem sync_eq (e : Int → D → R1) (d : D) : (syncG e d).eval = some (syncF e d) := by
  simp only [syncG, syncF]
  by_cases h0 : (e 0 d).1.1 = 0
  · simp [Tr.eval, h0]; rfl
  · simp [Tr.eval, h0, bf h0]

def repF (e : Int → D → R1) (x : List Int) (d : D) : R1 :=
  let q := e x.length d
  if q.1.1 = 0 then (q.1, mk x x.length q.2.room q.2.fuse q.2.down) else q
def repG (e : Int → D → R1) (x : List Int) (d : D) : Tr R1 :=
  let q := e x.length d
  .ite (q.1.1 == 0) (.chk (decide ((x.length : Int) = x.length) && (decide (0 ≤ (x.length : Int)) && room (x.length : Int).toNat 1))
    (.ret (q.1, ((), (x.length : Int), q.2.1.2.2.1, q.2.1.2.2.2.1, q.2.1.2.2.2.2.1, ()), overL (List.replicate (x.length : Int).toNat 0) x, ()))) (.ret q)
theorem over_zero (x : List Int) : overL (List.replicate (x.length : Int).toNat 0) x = x := by
  simp [overL]
theorem rep_eq (e : Int → D → R1) (x : List Int) (d : D) (h : room x.length 1 = true) : (repG e x d).eval = some (repF e x d) := by
  have h1 : (decide ((x.length : Int) = x.length) && (decide (0 ≤ (x.length : Int)) && room (x.length : Int).toNat 1)) = true := by simp [h]
  simp only [repG, repF, Tr.chk, over_zero]
  by_cases h0 : (e x.length d).1.1 = 0
  · simp [Tr.eval, h0, h]; rfl
  · simp [Tr.eval, h0, bf h0]

def fuseF (n : Int) (d : D) : R0 := ((), mk d.b d.sure d.room (maxI n (-1)) d.down)

def crashS (n : Int) (d : D) : Int := w (d.sure + minI (maxI n 0) (w (d.b.length - d.sure)))
def crashF (n : Int) (d : D) : R0 := ((), mk (d.b.take (crashS n d).toNat) (crashS n d) d.room (-1) false)
def crashP (n : Int) (d : D) : Bool := decide (0 ≤ crashS n d) && decide (crashS n d ≤ (d.b.length : Int))

def turnF (n by_ : Int) (d : D) : R1 :=
  if n < 0 ∨ n ≥ d.b.length then er 4 d else er 0 (mk (d.b.set n.toNat (xorI .u8 (d.b.getD n.toNat 0) by_)) d.sure d.room d.fuse d.down)
def turnG (n by_ : Int) (d : D) : Tr R1 :=
  .ite (decide (n < 0)) (.ret ((4, ()), d)) (.ite (decide (n ≥ (d.2.1.length : Int))) (.ret ((4, ()), d)) (.chk (inArr n d.2.1.length) (.chk (inArr n d.2.1.length)
    (.ret ((0, ()), d.1, d.2.1.set n.toNat (xorI .u8 (d.2.1.getD n.toNat 0) by_), ())))))
theorem turn_eq (n by_ : Int) (d : D) : (turnG n by_ d).eval = some (turnF n by_ d) := by
  simp only [turnG, turnF, D.b, D.sure, D.room, D.fuse, D.down, er, mk]
  by_cases h0 : n < 0
  · simp [Tr.eval, h0]
  · by_cases h1 : n ≥ (d.2.1.length : Int)
    · simp [Tr.eval, h0, h1]
    · have : inArr n d.2.1.length = true := by simp [inArr]; omega
      simp [Tr.eval, Tr.chk, h0, h1, this]

/-! the document's -/

def powF (d : D) : (Bool × Unit) × D :=
  if d.down = true ∨ d.fuse = 0 then ((false, ()), mk d.b d.sure d.room d.fuse true)
  else ((true, ()), mk d.b d.sure d.room (if d.fuse > 0 then w (d.fuse - 1) else d.fuse) d.down)
def powG (d : D) : Tr ((Bool × Unit) × D) :=
  let X : Tr ((Bool × Unit) × D) := .ret ((false, ()), ((), d.1.2.1, d.1.2.2.1, d.1.2.2.2.1, true, ()), d.2.1, ())
  .ite d.1.2.2.2.2.1 X (.ite (d.1.2.2.2.1 == 0) X (.ite (decide (d.1.2.2.2.1 > 0)) (.ret ((true, ()), ((), d.1.2.1, d.1.2.2.1, w (d.1.2.2.2.1 - 1), d.1.2.2.2.2.1, ()), d.2.1, ())) (.ret ((true, ()), d))))
theorem pow_eq (d : D) : (powG d).eval = some (powF d) := by
  obtain ⟨⟨u, sure, room, fuse, down, u'⟩, b, u''⟩ := d
  simp only [powG, powF, D.down, D.fuse, D.b, D.sure, D.room, mk]
  cases down
  · by_cases h0 : fuse = 0
    · subst h0; rfl
    · by_cases h1 : fuse > 0 <;> simp [Tr.eval, h0, h1, bf h0]
  · simp [Tr.eval]

abbrev Pw := D → (Bool × Unit) × D
def rappF (e : Pw) (x : List Int) (d : D) : R1 :=
  if (e d).1.1 = true then (if w (((e d).2.b.length : Int) + x.length) > (e d).2.room then er 7 (e d).2 else ((0, ()), (e d).2.1, (e d).2.2.1 ++ x, ())) else er 8 (e d).2
def rappP (e : Pw) (x : List Int) (d : D) : Bool := fits (e d).2 x
def rappG (e : Pw) (x : List Int) (d : D) : Tr R1 :=
  .ite (!(e d).1.1) (.ret ((8, ()), (e d).2)) (.ite (decide (w (((e d).2.2.1.length : Int) + x.length) > (e d).2.1.2.2.1)) (.ret ((7, ()), (e d).2))
    (.chk (room (([] : List Int).length + (e d).2.2.1.length) 1) (.chk (room ((([] : List Int) ++ (e d).2.2.1).length + x.length) 1) (.ret ((0, ()), (e d).2.1, (([] : List Int) ++ (e d).2.2.1) ++ x, ())))))
theorem rapp_eq (e : Pw) (x : List Int) (d : D) (h : rappP e x d = true) : (rappG e x d).eval = some (rappF e x d) := by
  simp only [rappP, fits, D.b] at h
  have h1 : room (([] : List Int).length + (e d).2.2.1.length) 1 = true := by
    simp only [room, decide_eq_true_eq, List.length_nil] at h ⊢; omega
  simp only [rappG, rappF, er, D.b, D.room, List.nil_append, Tr.chk, h, h1]
  cases (e d).1.1
  · simp [Tr.eval]
  · by_cases h2 : w (((e d).2.2.1.length : Int) + x.length) > (e d).2.1.2.2.1 <;> simp [Tr.eval, h2]

def rsyncF (e : Pw) (d : D) : R1 := if (e d).1.1 = true then er 0 (mk (e d).2.b (e d).2.b.length (e d).2.room (e d).2.fuse (e d).2.down) else er 8 (e d).2
def rsyncG (e : Pw) (d : D) : Tr R1 :=
  .ite (!(e d).1.1) (.ret ((8, ()), (e d).2)) (.ret ((0, ()), ((), ((e d).2.2.1.length : Int), (e d).2.1.2.2.1, (e d).2.1.2.2.2.1, (e d).2.1.2.2.2.2.1, ()), (e d).2.2.1, ()))
theorem rsync_eq (e : Pw) (d : D) : (rsyncG e d).eval = some (rsyncF e d) := by
  simp only [rsyncG, rsyncF, er]
  cases (e d).1.1 <;> rfl

def rrepF (e : Pw) (x : List Int) (d : D) : R1 :=
  if (e d).1.1 = true then (if (x.length : Int) > (e d).2.room then er 7 (e d).2 else er 0 (mk x x.length (e d).2.room (e d).2.fuse (e d).2.down)) else er 8 (e d).2
def rrepG (e : Pw) (x : List Int) (d : D) : Tr R1 :=
  .ite (!(e d).1.1) (.ret ((8, ()), (e d).2)) (.ite (decide ((x.length : Int) > (e d).2.1.2.2.1)) (.ret ((7, ()), (e d).2))
    (.chk (room (([] : List Int).length + x.length) 1) (.ret ((0, ()), ((), (x.length : Int), (e d).2.1.2.2.1, (e d).2.1.2.2.2.1, (e d).2.1.2.2.2.2.1, ()), (([] : List Int) ++ x), ()))))
theorem rrep_eq (e : Pw) (x : List Int) (d : D) (h : room x.length 1 = true) : (rrepG e x d).eval = some (rrepF e x d) := by
  have h1 : room (([] : List Int).length + x.length) 1 = true := by simpa using h
  simp only [rrepG, rrepF, er, D.room, List.nil_append, Tr.chk, h1]
  cases (e d).1.1
  · simp [Tr.eval]
  · by_cases h2 : (x.length : Int) > (e d).2.1.2.2.1 <;> simp [Tr.eval, h2] <;> rfl

def rcrS (n : Int) (d : D) : Int := w (d.sure + maxI n 0)
def rcrB (n : Int) (d : D) : List Int := bif decide (n < w ((d.b.length : Int) - d.sure)) then d.b.take (rcrS n d).toNat else d.b
def rcrashF (n : Int) (d : D) : R0 := ((), mk (rcrB n d) (rcrB n d).length d.room (-1) false)
def rcrashP (n : Int) (d : D) : Bool := !decide (n < w ((d.b.length : Int) - d.sure)) || (decide (0 ≤ rcrS n d) && decide (rcrS n d ≤ (d.b.length : Int)))
def rcrashG (n : Int) (d : D) : Tr R0 :=
  .ite (decide (n < w ((d.2.1.length : Int) - d.1.2.1)))
    (.chk (decide (0 ≤ w (d.1.2.1 + maxI n 0)) && decide (w (d.1.2.1 + maxI n 0) ≤ (d.2.1.length : Int))) (.ret ((), ((), (((d.2.1.take (w (d.1.2.1 + maxI n 0)).toNat).length : Nat) : Int), d.1.2.2.1, -1, false, ()), d.2.1.take (w (d.1.2.1 + maxI n 0)).toNat, ())))
    (.ret ((), ((), (d.2.1.length : Int), d.1.2.2.1, -1, false, ()), d.2.1, ()))
theorem rcrash_eq (n : Int) (d : D) (h : rcrashP n d = true) : (rcrashG n d).eval = some (rcrashF n d) := by
  obtain ⟨⟨u, sure, rm, fuse, down, u'⟩, b, u''⟩ := d
  have h : (!decide (n < w ((b.length : Int) - sure)) || (decide (0 ≤ w (sure + maxI n 0)) && decide (w (sure + maxI n 0) ≤ (b.length : Int)))) = true := h
  show (match decide (n < w ((b.length : Int) - sure)) with
    | true => (match (decide (0 ≤ w (sure + maxI n 0)) && decide (w (sure + maxI n 0) ≤ (b.length : Int))) with
      | true => some ((), ((), (((b.take (w (sure + maxI n 0)).toNat).length : Nat) : Int), rm, -1, false, ()), b.take (w (sure + maxI n 0)).toNat, ())
      | false => none)
    | false => some ((), ((), (b.length : Int), rm, -1, false, ()), b, ())) =
    some ((), ((), (((bif decide (n < w ((b.length : Int) - sure)) then b.take (w (sure + maxI n 0)).toNat else b).length : Nat) : Int), rm, -1, false, ()), (bif decide (n < w ((b.length : Int) - sure)) then b.take (w (sure + maxI n 0)).toNat else b), ())
  cases hd : decide (n < w ((b.length : Int) - sure)) with
  | true =>
    rw [hd] at h
    simp only [Bool.not_true, Bool.false_or] at h
    rw [h]
    rfl
  | false => rfl

def rturnF (n by_ : Int) (d : D) : R1 := turnF n by_ d
def rturnP (d : D) : Bool := room d.b.length 1
def rturnG (n by_ : Int) (d : D) : Tr R1 :=
  .ite (decide (n < 0)) (.ret ((4, ()), d)) (.ite (decide (n ≥ (d.2.1.length : Int))) (.ret ((4, ()), d)) (.chk (room (([] : List Int).length + d.2.1.length) 1) (.chk (inArr n (([] : List Int) ++ d.2.1).length) (.chk (inArr n (([] : List Int) ++ d.2.1).length)
    (.ret ((0, ()), d.1, (([] : List Int) ++ d.2.1).set n.toNat (xorI .u8 ((([] : List Int) ++ d.2.1).getD n.toNat 0) by_), ()))))))
theorem rturn_eq (n by_ : Int) (d : D) (h : rturnP d = true) : (rturnG n by_ d).eval = some (rturnF n by_ d) := by
  have h1 : room (([] : List Int).length + d.2.1.length) 1 = true := by simpa [rturnP, D.b] using h
  simp only [rturnG, rturnF, turnF, D.b, D.sure, D.room, D.fuse, D.down, er, mk, List.nil_append, Tr.chk, h1]
  by_cases h0 : n < 0
  · simp [Tr.eval, h0]
  · by_cases h2 : n ≥ (d.2.1.length : Int)
    · simp [Tr.eval, h0, h2]
    · have : inArr n d.2.1.length = true := by simp [inArr]; omega
      simp [Tr.eval, h0, h2, this]

/-! all operations -/

/-- an operation on a store, the functions being given -/
def doF (a : List Int → D → R1) (s : D → R1) (r : List Int → D → R1) (f c : Int → D → R0) (t : Int → Int → D → R1) (x : Ox) (d : D) : R1 :=
  if x.1 = 0 then a x.2.2.1 d else if x.1 = 1 then s d else if x.1 = 2 then r x.2.2.1 d else if x.1 = 3 then er 0 (f x.2.1 d).2 else if x.1 = 4 then er 0 (c x.2.1 d).2 else t x.2.1 (wb x.2.2.1.length) d
def doP (pa pr : List Int → D → Bool) (pc : Int → D → Bool) (pt : D → Bool) (x : Ox) (d : D) : Bool :=
  if x.1 = 0 then pa x.2.2.1 d else if x.1 = 1 then true else if x.1 = 2 then pr x.2.2.1 d else if x.1 = 3 then true else if x.1 = 4 then pc x.2.1 d else pt d
def doG (pa pr : List Int → D → Bool) (pc : Int → D → Bool) (pt : D → Bool) (a : List Int → D → R1) (s : D → R1) (r : List Int → D → R1) (f c : Int → D → R0) (t : Int → Int → D → R1) (x : Ox) (d : D) : Tr R1 :=
  .ite (x.1 == 0) (.chk (pa x.2.2.1 d) (.ret (a x.2.2.1 d))) (.ite (x.1 == 1) (.chk true (.ret (s d))) (.ite (x.1 == 2) (.chk (pr x.2.2.1 d) (.ret (r x.2.2.1 d)))
    (.ite (x.1 == 3) (.chk true (.ret ((0, ()), (f x.2.1 d).2))) (.ite (x.1 == 4) (.chk (pc x.2.1 d) (.ret ((0, ()), (c x.2.1 d).2))) (.chk (pt d) (.ret (t x.2.1 (wb x.2.2.1.length) d)))))))
theorem do_eq (pa pr : List Int → D → Bool) (pc : Int → D → Bool) (pt : D → Bool) (a : List Int → D → R1) (s : D → R1) (r : List Int → D → R1) (f c : Int → D → R0) (t : Int → Int → D → R1) (x : Ox) (d : D) (h : doP pa pr pc pt x d = true) :
    (doG pa pr pc pt a s r f c t x d).eval = some (doF a s r f c t x d) := by
  obtain ⟨k, n, y, u⟩ := x
  simp only [doP] at h
  simp only [doG, doF, er, Tr.chk]
  by_cases h0 : k = 0
  · subst h0; simp only [if_true] at h; simp [Tr.eval, h]
  by_cases h1 : k = 1
  · subst h1; simp [Tr.eval]
  by_cases h2 : k = 2
  · subst h2; simp at h; simp [Tr.eval, h]
  by_cases h3 : k = 3
  · subst h3; simp [Tr.eval]
  by_cases h4 : k = 4
  · subst h4; simp at h; simp [Tr.eval, h]
  · simp only [if_neg h0, if_neg h1, if_neg h2, if_neg h3, if_neg h4] at h
    simp [Tr.eval, h, h0, h1, h2, h3, h4, bf h0, bf h1, bf h2, bf h3, bf h4]

end Go.Proofs.Ytffdkniccaebmaa.Sto

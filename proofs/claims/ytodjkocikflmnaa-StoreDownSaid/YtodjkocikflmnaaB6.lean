/- The rows of layer 13 (store): all rounds of their loops. -/
import Derived.Test.YtodjkocikflmnaaB5
set_option linter.unusedVariables false
set_option maxRecDepth 100000
namespace Go.Proofs.Ytodjkocikflmnaa.Sto
open Go Vse Go.Proofs Fld

def okXb (x : Ox) : Bool := decide (-9223372036854775808 ≤ x.2.1) && (decide (x.2.1 ≤ 9223372036854775807) && decide (x.2.2.1.length ≤ 2000))
def okLb (l : List Ox) : Bool := decide (l.length ≤ 9223372036854775807) && l.all okXb
theorem okLb_iff {l : List Ox} : okLb l = true ↔ OkL l := by
  simp only [okLb, Bool.and_eq_true, decide_eq_true_eq, List.all_eq_true, OkL, okXb]
  constructor
  · rintro ⟨h1, h2⟩
    exact ⟨h1, fun x hx => ⟨(h2 x hx).1, (h2 x hx).2.1, (h2 x hx).2.2⟩⟩
  · rintro ⟨h1, h2⟩
    exact ⟨h1, fun x hx => ⟨(h2 x hx).n0, (h2 x hx).n1, (h2 x hx).b1⟩⟩

def isNew (d : D) : Bool := okRoom d.room && (decide (d.b.length = 0) && (decide (d.sure = 0) && (decide (d.fuse = -1) && !d.down)))
theorem isNew_eq {d : D} (h : isNew d = true) : d = mk [] 0 d.room (-1) false ∧ Inv d := by
  obtain ⟨⟨u, s, r, f, dn, u'⟩, b, u''⟩ := d
  simp only [isNew, okRoom, Bool.and_eq_true, decide_eq_true_eq, Bool.not_eq_true'] at h
  obtain ⟨⟨h1, h2⟩, h3, h4, h5, h6⟩ := h
  simp only [D.b, D.sure, D.room, D.fuse, D.down] at h1 h2 h3 h4 h5 h6
  have h3 := List.eq_nil_of_length_eq_zero h3
  subst h3; subst h4; subst h5; subst h6
  refine ⟨rfl, ⟨?_, ?_, ?_, h2, ?_, ?_⟩⟩
  · show (0 : Int) ≤ 0; omega
  · show (0 : Int) ≤ (([] : List Int).length : Int); simp
  · show ((([] : List Int).length : Nat) : Int) ≤ r; simpa using h1
  · show (-1 : Int) ≤ -1; omega
  · show (-1 : Int) ≤ _; omega

theorem room_inv {d : D} (h : Inv d) : Vse.room d.b.length 1 = true := room_of (by have := h.b1; have := h.r1; omega)

abbrev B : Ctx := ctx (cL szF stoP toldP stoF toldF crashP crashF fuseF)
theorem sameI_self (a : List Int) : sameI a a = true := by simp [sameI]

/-! StoreDoes -/

theorem many3 (l : List Ox) (hl : OkL l) (up : Bool) : ∀ (m k : Nat) (d : D), k + m = l.length → Inv d →
    S3.many (bodyK Try.prog B L0 b3) (m + 1) (l, up, (), (), (k : Int), ()) (d.1, d.2.1, d.1, d.2.1, ()) = some (.exit 0, encS [5] [.bool] dd4 75 (up, ()) ())
  | 0, k, d, h, hd => by
    refine rmany_inr ((r3 szF stoP toldP stoF toldF crashP crashF fuseF l up k d d).trans ?_) 0
    simp only [G3, Tr.eval, decide_eq_false (show ¬ ((k : Int) < (l.length : Int)) by omega)]
  | m + 1, k, d, h, hd => by
    have h1 : k < l.length := by omega
    have i1 : inArr (k : Int) l.length = true := by simp [inArr]; omega
    have g1 : l.getD k x0 = l[k] := by rw [List.getD_eq_getElem?_getD, List.getElem?_eq_getElem h1]; rfl
    obtain ⟨e1, e2, e3, e4⟩ := do_same (hl.2 _ (List.getElem_mem h1)) hd
    have e5 : Vse.room (stoF l[k] d).2.2.1.length 1 = true := room_inv e2
    have hl0 := hl.1
    refine (rmany_inl (d := ((l, up, (), (), ((k + 1 : Nat) : Int), ()), ((stoF l[k] d).2.1, (stoF l[k] d).2.2.1, (stoF l[k] d).2.1, (stoF l[k] d).2.2.1, ()))) ((r3 szF stoP toldP stoF toldF crashP crashF fuseF l up k d d).trans ?_) (m + 1)).trans (many3 l hl up m (k + 1) _ (by omega) e2)
    have e6 : sameI (stoF l[k] d).2.2.1 (stoF l[k] d).2.2.1 = true := sameI_self _
    simp only [G3, Tr.eval, Tr.chk, decide_eq_true (show ((k : Int) < (l.length : Int)) by omega), i1, Int.toNat_natCast, g1, e3, e4, ← e1, e5, bne_self_eq_false, e6, Bool.not_true]
    rw [w_id (by omega) (by omega)]
    rfl

def c3 (l : List Ox) (i : Int) (d e : D) : Bool := decide (i = 0) && (okLb l && (isNew d && (isNew e && decide (d.room = e.room))))
theorem c3_eq {l : List Ox} {i : Int} {d e : D} (h : c3 l i d e = true) : i = ((0 : Nat) : Int) ∧ OkL l ∧ d = e ∧ Inv d := by
  simp only [c3, Bool.and_eq_true, decide_eq_true_eq] at h
  obtain ⟨h1, h2, h3, h4, h5⟩ := h
  exact ⟨h1, okLb_iff.1 h2, by rw [(isNew_eq h3).1, (isNew_eq h4).1, h5], (isNew_eq h3).2⟩

def F3 (c : List Ox → Int → D → D → Bool) (xs : HL S3.Ts) (hs : HD S3.Es) : Tr (Ex × St) :=
  .chk (c xs.1 xs.2.2.2.2.1 (hs.1, hs.2.1, ()) (hs.2.2.1, hs.2.2.2.1, ())) (.ret (.exit 0, encS [5] [.bool] dd4 75 (xs.2.1, ()) ()))
def L3 (c : List Ox → Int → D → D → Bool) : Loops := fun j st => if j = 11 then S3.fn (F3 c) st else .fail
theorem l3 : LoopOK Try.prog (L3 c3) b3 :=
  rloop_ok (L := L3 c3) (L' := L0) cL_sound (loopsOK_of (by kernel_rfl)) S3 (F := F3 c3) (i := 11) (by kernel_rfl) (fun _ => rfl) fun xs hs r h => by
    obtain ⟨l, up, u1, u2, i, u3⟩ := xs
    obtain ⟨d1, d2, d3, d4, u4⟩ := hs
    obtain ⟨h1, h2⟩ := Tr.chk_some h
    obtain ⟨e1, e2, e3, e4⟩ := c3_eq h1
    simp only [Prod.mk.injEq, and_true] at e1 e3
    obtain ⟨e3, e5⟩ := e3
    subst e3; subst e5
    have e1 : i = ((0 : Nat) : Int) := e1
    subst e1
    exact ⟨_, (many3 l e2 up (List.length (α := Ox) l) 0 (d1, d2, ()) (by omega) e4).trans (congrArg some (Tr.ret_some h2))⟩

/-! StoreSure -/

/-- behind all operations -/
def runD (l : List Ox) (d : D) : D := l.foldl (fun d x => (stoF x d).2) d
theorem runD_inv : ∀ (l : List Ox) (d : D), (∀ x ∈ l, OkX x) → Inv d → Inv (runD l d)
  | [], d, _, h => h
  | x :: l, d, hl, h => runD_inv l _ (fun y hy => hl y (by simp [hy])) (do_same (hl x (by simp)) h).2.1

theorem many4 (l : List Ox) (hl : OkL l) (n : Int) (up : Bool) : ∀ (m k : Nat) (d : D), k + m = l.length → Inv d →
    S4.many (bodyK Try.prog B L0 b4) (m + 1) (l, n, up, (), (), (k : Int), ()) (d.1, d.2.1, d.1, d.2.1, ()) =
      some (.exit 0, encS [1, 5, 6, 8] [i64, .bool, .ptr 0 [], .ptr 2 []] (e4 1) 88 (n, up, (), (), ()) ((runD (l.drop k) d).1, (runD (l.drop k) d).2.1, (runD (l.drop k) d).1, (runD (l.drop k) d).2.1, ()))
  | 0, k, d, h, hd => by
    rw [List.drop_eq_nil_of_le (by omega)]
    refine rmany_inr ((r4 szF stoP toldP stoF toldF crashP crashF fuseF l n up k d d).trans ?_) 0
    simp only [G4, Tr.eval, decide_eq_false (show ¬ ((k : Int) < (l.length : Int)) by omega)]
    rfl
  | m + 1, k, d, h, hd => by
    have h1 : k < l.length := by omega
    have i1 : inArr (k : Int) l.length = true := by simp [inArr]; omega
    have g1 : l.getD k x0 = l[k] := by rw [List.getD_eq_getElem?_getD, List.getElem?_eq_getElem h1]; rfl
    obtain ⟨e1, e2, e3, e4⟩ := do_same (hl.2 _ (List.getElem_mem h1)) hd
    have hl0 := hl.1
    rw [List.drop_eq_getElem_cons h1]
    refine (rmany_inl (d := ((l, n, up, (), (), ((k + 1 : Nat) : Int), ()), ((stoF l[k] d).2.1, (stoF l[k] d).2.2.1, (stoF l[k] d).2.1, (stoF l[k] d).2.2.1, ()))) ((r4 szF stoP toldP stoF toldF crashP crashF fuseF l n up k d d).trans ?_) (m + 1)).trans (many4 l hl n up m (k + 1) _ (by omega) e2)
    simp only [G4, Tr.eval, Tr.chk, decide_eq_true (show ((k : Int) < (l.length : Int)) by omega), i1, Int.toNat_natCast, g1, e3, e4, ← e1]
    rw [w_id (by omega) (by omega)]
    rfl

def F4 (c : List Ox → Int → D → D → Bool) (e : List Ox → D → D) (xs : HL S4.Ts) (hs : HD S4.Es) : Tr (Ex × St) :=
  .chk (c xs.1 xs.2.2.2.2.2.1 (hs.1, hs.2.1, ()) (hs.2.2.1, hs.2.2.2.1, ())) (.ret (.exit 0, encS [1, 5, 6, 8] [i64, .bool, .ptr 0 [], .ptr 2 []] (e4 1) 88 (xs.2.1, xs.2.2.1, (), (), ())
    ((e xs.1 (hs.1, hs.2.1, ())).1, (e xs.1 (hs.1, hs.2.1, ())).2.1, (e xs.1 (hs.1, hs.2.1, ())).1, (e xs.1 (hs.1, hs.2.1, ())).2.1, ())))
def L4 (c : List Ox → Int → D → D → Bool) (e : List Ox → D → D) : Loops := fun j st => if j = 9 then S4.fn (F4 c e) st else .fail
theorem l4 : LoopOK Try.prog (L4 c3 runD) b4 :=
  rloop_ok (L := L4 c3 runD) (L' := L0) cL_sound (loopsOK_of (by kernel_rfl)) S4 (F := F4 c3 runD) (i := 9) (by kernel_rfl) (fun _ => rfl) fun xs hs r h => by
    obtain ⟨l, n, up, u1, u2, i, u3⟩ := xs
    obtain ⟨d1, d2, d3, d4, u4⟩ := hs
    obtain ⟨h1, h2⟩ := Tr.chk_some h
    obtain ⟨e1, e2, e3, e4⟩ := c3_eq h1
    simp only [Prod.mk.injEq, and_true] at e1 e3
    obtain ⟨e3, e5⟩ := e3
    subst e3; subst e5
    have e1 : i = ((0 : Nat) : Int) := e1
    subst e1
    exact ⟨_, (many4 l e2 n up (List.length (α := Ox) l) 0 (d1, d2, ()) (by omega) e4).trans (congrArg some (Tr.ret_some h2))⟩

/-! StoreDown -/

theorem many5 (l : List Ox) (hl : OkL l) (mo : List Ox) (up : Bool) : ∀ (m k : Nat) (d : D), k + m = l.length → Inv d →
    S5.many (bodyK Try.prog B L0 b5) (m + 1) (l, mo, up, (), (k : Int), ()) (d.1, d.2.1, ()) =
      some (.exit 0, encS [1, 5, 6] [lo, .bool, .ptr 0 []] (sE 1) 79 (mo, up, (), ()) ((runD (l.drop k) d).1, (runD (l.drop k) d).2.1, ()))
  | 0, k, d, h, hd => by
    rw [List.drop_eq_nil_of_le (by omega)]
    refine rmany_inr ((r5 szF stoP toldP stoF toldF crashP crashF fuseF l mo up k d).trans ?_) 0
    simp only [G5, Tr.eval, decide_eq_false (show ¬ ((k : Int) < (l.length : Int)) by omega)]
    rfl
  | m + 1, k, d, h, hd => by
    have h1 : k < l.length := by omega
    have i1 : inArr (k : Int) l.length = true := by simp [inArr]; omega
    have g1 : l.getD k x0 = l[k] := by rw [List.getD_eq_getElem?_getD, List.getElem?_eq_getElem h1]; rfl
    obtain ⟨e1, e2, e3, e4⟩ := do_same (hl.2 _ (List.getElem_mem h1)) hd
    have hl0 := hl.1
    rw [List.drop_eq_getElem_cons h1]
    refine (rmany_inl (d := ((l, mo, up, (), ((k + 1 : Nat) : Int), ()), ((stoF l[k] d).2.1, (stoF l[k] d).2.2.1, ()))) ((r5 szF stoP toldP stoF toldF crashP crashF fuseF l mo up k d).trans ?_) (m + 1)).trans (many5 l hl mo up m (k + 1) _ (by omega) e2)
    simp only [G5, Tr.eval, Tr.chk, decide_eq_true (show ((k : Int) < (l.length : Int)) by omega), i1, Int.toNat_natCast, g1, e3]
    rw [w_id (by omega) (by omega)]
    rfl

def c5 (l : List Ox) (i : Int) (d : D) : Bool := decide (i = 0) && (okLb l && isNew d)
def F5 (c : List Ox → Int → D → Bool) (e : List Ox → D → D) (xs : HL S5.Ts) (hs : HD S5.Es) : Tr (Ex × St) :=
  .chk (c xs.1 xs.2.2.2.2.1 (hs.1, hs.2.1, ())) (.ret (.exit 0, encS [1, 5, 6] [lo, .bool, .ptr 0 []] (sE 1) 79 (xs.2.1, xs.2.2.1, (), ()) ((e xs.1 (hs.1, hs.2.1, ())).1, (e xs.1 (hs.1, hs.2.1, ())).2.1, ())))

/-- an operation of those that ask for power -/
def offD (x : Ox) (d : D) : D := if x.1 < 0 then d else if x.1 > 2 then d else (stoF x d).2
def runO (l : List Ox) (d : D) : D := l.foldl (fun d x => offD x d) d

/-- without power -/
structure Off (d : D) : Prop where
  inv : Inv d
  f0 : d.fuse = 0

theorem off_do {x : Ox} (hx : OkX x) (h1 : ¬ x.1 < 0) (h2 : ¬ x.1 > 2) {d : D} (h : Off d) : (stoF x d).1.1 = 8 ∧ (stoF x d).2 = mk d.b d.sure d.room d.fuse true := by
  obtain ⟨k, n, y, u⟩ := x
  have h1 : ¬ k < 0 := h1
  have h2 : ¬ k > 2 := h2
  have hr : ∀ m, rdyF m d = er 8 (mk d.b d.sure d.room d.fuse true) := fun m => by simp only [rdyF, h.f0, or_true, if_true]
  simp only [stoF, doF]
  by_cases k0 : k = 0
  · simp only [if_pos k0, appF, hr, er]; exact ⟨rfl, rfl⟩
  by_cases k1 : k = 1
  · simp only [if_neg k0, if_pos k1, syncF, hr, er]; exact ⟨rfl, rfl⟩
  have k2 : k = 2 := by omega
  simp only [if_neg k0, if_neg k1, if_pos k2, repF, hr, er]; exact ⟨rfl, rfl⟩

theorem off_off {x : Ox} (hx : OkX x) {d : D} (h : Off d) : Off (offD x d) ∧ (offD x d).b = d.b := by
  unfold offD
  by_cases h1 : x.1 < 0
  · rw [if_pos h1]; exact ⟨h, rfl⟩
  by_cases h2 : x.1 > 2
  · rw [if_neg h1, if_pos h2]; exact ⟨h, rfl⟩
  · rw [if_neg h1, if_neg h2, (off_do hx h1 h2 h).2]
    exact ⟨⟨⟨h.inv.s0, h.inv.s1, h.inv.b1, h.inv.r1, h.inv.f0, h.inv.f1⟩, h.f0⟩, rfl⟩

theorem runO_b : ∀ (l : List Ox) (d : D), (∀ x ∈ l, OkX x) → Off d → (runO l d).b = d.b ∧ Off (runO l d)
  | [], d, _, h => ⟨rfl, h⟩
  | x :: l, d, hl, h => by
    obtain ⟨q1, q2⟩ := off_off (hl x (by simp)) h
    obtain ⟨w1, w2⟩ := runO_b l (offD x d) (fun y hy => hl y (by simp [hy])) q1
    exact ⟨w1.trans q2, w2⟩

theorem many6 (l : List Ox) (hl : OkL l) (was : List Int) (up : Bool) : ∀ (m k : Nat) (d : D), k + m = l.length → Off d →
    S6.many (bodyK Try.prog B L0 b6) (m + 1) (l, up, (), was, (k : Int), ()) (d.1, d.2.1, ()) =
      some (.exit 2, encS [5, 6, 9] [.bool, .ptr 0 [], bt] (sE 4) 79 (up, (), was, ()) ((runO (l.drop k) d).1, (runO (l.drop k) d).2.1, ()))
  | 0, k, d, h, hd => by
    rw [List.drop_eq_nil_of_le (by omega)]
    refine rmany_inr ((r6 szF stoP toldP stoF toldF crashP crashF fuseF l up was k d).trans ?_) 0
    simp only [G6, Tr.eval, decide_eq_false (show ¬ ((k : Int) < (l.length : Int)) by omega)]
    rfl
  | m + 1, k, d, h, hd => by
    have h1 : k < l.length := by omega
    have i1 : inArr (k : Int) l.length = true := by simp [inArr]; omega
    have g1 : l.getD k x0 = l[k] := by rw [List.getD_eq_getElem?_getD, List.getElem?_eq_getElem h1]; rfl
    have hx := hl.2 _ (List.getElem_mem h1)
    obtain ⟨e1, e2, e3, e4⟩ := do_same hx hd.inv
    obtain ⟨q1, q2⟩ := off_off hx hd
    have hl0 := hl.1
    rw [List.drop_eq_getElem_cons h1]
    refine (rmany_inl (d := ((l, up, (), was, ((k + 1 : Nat) : Int), ()), ((offD l[k] d).1, (offD l[k] d).2.1, ()))) ((r6 szF stoP toldP stoF toldF crashP crashF fuseF l up was k d).trans ?_) (m + 1)).trans (many6 l hl was up m (k + 1) _ (by omega) q1)
    simp only [G6, Tr.eval, Tr.chk, decide_eq_true (show ((k : Int) < (l.length : Int)) by omega), i1, Int.toNat_natCast, g1]
    rw [w_id (by omega) (by omega)]
    by_cases n1 : l[k].1 < 0
    · simp only [decide_eq_true n1, offD, if_pos n1]; rfl
    by_cases n2 : l[k].1 > 2
    · simp only [decide_eq_false n1, decide_eq_true n2, offD, if_neg n1, if_pos n2]; rfl
    · have e8 := (off_do hx n1 n2 hd).1
      have e9 : ((stoF l[k] d).1.1 != 8) = false := by rw [e8]; rfl
      simp only [decide_eq_false n1, decide_eq_false n2, offD, if_neg n1, if_neg n2, e3, e9]; rfl

def isOff (d : D) : Bool := decide (0 ≤ d.sure) && (decide (d.sure ≤ (d.b.length : Int)) && (decide ((d.b.length : Int) ≤ d.room) && (decide (d.room ≤ 1048576) && decide (d.fuse = 0))))
theorem isOff_iff {d : D} : isOff d = true ↔ Off d := by
  simp only [isOff, Bool.and_eq_true, decide_eq_true_eq]
  constructor
  · rintro ⟨h1, h2, h3, h4, h5⟩; exact ⟨⟨h1, h2, h3, h4, by omega, by omega⟩, h5⟩
  · rintro ⟨h, h5⟩; exact ⟨h.s0, h.s1, h.b1, h.r1, h5⟩
def c6 (l : List Ox) (i : Int) (d : D) : Bool := decide (i = 0) && (okLb l && isOff d)
def F6 (c : List Ox → Int → D → Bool) (e : List Ox → D → D) (xs : HL S6.Ts) (hs : HD S6.Es) : Tr (Ex × St) :=
  .chk (c xs.1 xs.2.2.2.2.1 (hs.1, hs.2.1, ())) (.ret (.exit 2, encS [5, 6, 9] [.bool, .ptr 0 [], bt] (sE 4) 79 (xs.2.1, (), xs.2.2.2.1, ()) ((e xs.1 (hs.1, hs.2.1, ())).1, (e xs.1 (hs.1, hs.2.1, ())).2.1, ())))
def L5 (c : List Ox → Int → D → Bool) (e : List Ox → D → D) (c' : List Ox → Int → D → Bool) (e' : List Ox → D → D) : Loops := fun j st => if j = 8 then S5.fn (F5 c e) st else if j = 14 then S6.fn (F6 c' e') st else .fail
theorem l5 : LoopOK Try.prog (L5 c5 runD c6 runO) b5 :=
  rloop_ok (L := L5 c5 runD c6 runO) (L' := L0) cL_sound (loopsOK_of (by kernel_rfl)) S5 (F := F5 c5 runD) (i := 8) (by kernel_rfl) (fun _ => rfl) fun xs hs r h => by
    obtain ⟨l, mo, up, u1, i, u3⟩ := xs
    obtain ⟨d1, d2, u4⟩ := hs
    obtain ⟨h1, h2⟩ := Tr.chk_some h
    simp only [c5, Bool.and_eq_true, decide_eq_true_eq] at h1
    obtain ⟨e1, e2, e3⟩ := h1
    have e1 : i = ((0 : Nat) : Int) := e1
    subst e1
    exact ⟨_, (many5 l (okLb_iff.1 e2) mo up (List.length (α := Ox) l) 0 (d1, d2, ()) (by omega) (isNew_eq e3).2).trans (congrArg some (Tr.ret_some h2))⟩
theorem l6 : LoopOK Try.prog (L5 c5 runD c6 runO) b6 :=
  rloop_ok (L := L5 c5 runD c6 runO) (L' := L0) cL_sound (loopsOK_of (by kernel_rfl)) S6 (F := F6 c6 runO) (i := 14) (by kernel_rfl) (fun _ => rfl) fun xs hs r h => by
    obtain ⟨l, up, u1, was, i, u3⟩ := xs
    obtain ⟨d1, d2, u4⟩ := hs
    obtain ⟨h1, h2⟩ := Tr.chk_some h
    simp only [c6, Bool.and_eq_true, decide_eq_true_eq] at h1
    obtain ⟨e1, e2, e3⟩ := h1
    have e1 : i = ((0 : Nat) : Int) := e1
    subst e1
    exact ⟨_, (many6 l (okLb_iff.1 e2) was up (List.length (α := Ox) l) 0 (d1, d2, ()) (by omega) (isOff_iff.1 e3)).trans (congrArg some (Tr.ret_some h2))⟩

end Go.Proofs.Ytodjkocikflmnaa.Sto

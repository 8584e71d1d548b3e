/- What the functions of layer 3 (aes) give: a block under a key. -/
import Derived.Test.YtlkddajnebjlcaaA12
set_option linter.unusedVariables false
set_option maxRecDepth 1000000
namespace Go.Proofs.Ytlkddajnebjlcaa.Aes
open Go Vse Go.Proofs

/-- all bytes through their boxes, and turned -/
def subI (box b : List Int) : List Int := (List.range 16).map fun i => box.getD (b.getD ((i + 4 * (i % 4)) % 16) 0).toNat 0
/-- columns mixed, and the round's key -/
def mixI (t k : List Int) : List Int := (List.range 16).map fun i => xorI .u8 (mixB (t.getD i 0) (t.getD (i - i % 4 + (i + 1) % 4) 0) (t.getD (i - i % 4 + (i + 2) % 4) 0) (t.getD (i - i % 4 + (i + 3) % 4) 0)) (k.getD i 0)

def F46a (xs : HL S46a.Ts) (hs : HD S46a.Es) : Tr (Ex × St) :=
  .chk (decide (xs.2.2.2.2.1 = (0 : Int)) && decide ((hs.2.1 : List Int).length = 16)) (.ret (.exit 0, encS [3, 4, 5, 6] [pt 1, pt 2, pt 3, pt 4] E46 117 ((), (), (), (), ()) (hs.1, xorF hs.2.1 (rowOf hs.2.2.2.2.1 0), hs.2.2)))
def F46b (xs : HL S46b.Ts) (hs : HD S46b.Es) : Tr (Ex × St) :=
  .chk (decide (xs.2.2.2.2.2.2.2.1 = (0 : Int)) && decide ((hs.2.2.2.2.2.1 : List Int).length = 16)) (.ret (.exit 4, encS S46b.out [pt 1, pt 2, pt 3, pt 4, i64, pt 5, i64] E46i 117 ((), (), (), (), xs.2.2.2.2.1, (), xs.2.2.2.2.2.2.1, ())
    (hs.1, hs.2.1, hs.2.2.1, hs.2.2.2.1, hs.2.2.2.2.1, subI hs.2.2.2.1 hs.2.1, ())))
def lineI (n : Int) (t k : List Int) : List Int := bif decide (n < 9) then mixI t k else xorF t k
def F46c (xs : HL S46c.Ts) (hs : HD S46c.Es) : Tr (Ex × St) :=
  .chk (decide (xs.2.2.2.2.2.2.2.1 = (0 : Int)) && (decide ((0 : Int) ≤ xs.2.2.2.2.1) && (decide (xs.2.2.2.2.1 < (10 : Int)) && decide ((hs.2.1 : List Int).length = 16))))
    (.ret (.exit 6, encS S46c.out [pt 1, pt 2, pt 3, pt 4, i64] E46i 117 ((), (), (), (), xs.2.2.2.2.2.2.1, ())
      (hs.1, lineI xs.2.2.2.2.1 hs.2.2.2.2.2.1 (rowOf hs.2.2.2.2.1 (xs.2.2.2.2.1 + 1).toNat), hs.2.2)))

noncomputable def L46i : Loops := fun j st => if j = 12 then S46b.fn F46b st else if j = 17 then S46c.fn F46c st else .fail
noncomputable def L46 : Loops := fun j st => if j = 3 then S46a.fn F46a st else if j = 8 then runLoop Try.prog (ctx C3) L46i 11 b46o st else .fail

theorem l46a : LoopOK Try.prog L46 b46a :=
  loop_ok (L := L46) (L' := L0) C3_sound (loopsOK_of (by kernel_rfl)) S46a (by kernel_rfl) (F := F46a) (i := 3) (by kernel_rfl) (fun _ => rfl) fun xs hs r h => by
    obtain ⟨u0, u1, u2, u3, i, u⟩ := xs
    obtain ⟨key, b, o, box, ks, u7⟩ := hs
    obtain ⟨h1, h2⟩ := Tr.chk_some h
    have := Tr.ret_some h2
    simp only [Bool.and_eq_true, decide_eq_true_eq] at h1
    obtain ⟨e1, e2⟩ := h1
    have e1 : i = (0 : Int) := e1
    subst e1
    obtain ⟨x0, x1, x2, x3, x4, x5, x6, x7, x8, x9, xa, xb, xc, xd, xe, xf, rfl⟩ := len16 (show b.length = 16 from e2)
    refine ⟨17, iter_many (G := G46a) (fun xs hs r h => (r46a xs.2.2.2.2.1 hs.1 hs.2.1 hs.2.2.1 hs.2.2.2.1 hs.2.2.2.2.1).trans h) 17 _ _ _ (Eq.trans ?_ (congrArg some this))⟩
    kernel_rfl

theorem l46b : LoopOK Try.prog L46i b46b :=
  loop_ok (L := L46i) (L' := L0) C3_sound (loopsOK_of (by kernel_rfl)) S46b (by kernel_rfl) (F := F46b) (i := 12) (by kernel_rfl) (fun _ => rfl) fun xs hs r h => by
    obtain ⟨u0, u1, u2, u3, n, u4, n', i, u⟩ := xs
    obtain ⟨key, b, o, box, ks, t, u7⟩ := hs
    obtain ⟨h1, h2⟩ := Tr.chk_some h
    have := Tr.ret_some h2
    simp only [Bool.and_eq_true, decide_eq_true_eq] at h1
    obtain ⟨e1, e2⟩ := h1
    have e1 : i = (0 : Int) := e1
    subst e1
    obtain ⟨x0, x1, x2, x3, x4, x5, x6, x7, x8, x9, xa, xb, xc, xd, xe, xf, rfl⟩ := len16 (show t.length = 16 from e2)
    refine ⟨17, iter_many (G := G46b) (fun xs hs r h => (r46b xs.2.2.2.2.1 xs.2.2.2.2.2.2.1 xs.2.2.2.2.2.2.2.1 hs.1 hs.2.1 hs.2.2.1 hs.2.2.2.1 hs.2.2.2.2.2.1 hs.2.2.2.2.1).trans h) 17 _ _ _ (Eq.trans ?_ (congrArg some this))⟩
    kernel_rfl

theorem lt10 {n : Int} (h : 0 ≤ n) (h' : n < 10) : n = 0 ∨ n = 1 ∨ n = 2 ∨ n = 3 ∨ n = 4 ∨ n = 5 ∨ n = 6 ∨ n = 7 ∨ n = 8 ∨ n = 9 := by omega

theorem l46c : LoopOK Try.prog L46i b46c :=
  loop_ok (L := L46i) (L' := L0) C3_sound (loopsOK_of (by kernel_rfl)) S46c (by kernel_rfl) (F := F46c) (i := 17) (by kernel_rfl) (fun _ => rfl) fun xs hs r h => by
    obtain ⟨u0, u1, u2, u3, n, u4, n', i, u⟩ := xs
    obtain ⟨key, b, o, box, ks, t, u7⟩ := hs
    obtain ⟨h1, h2⟩ := Tr.chk_some h
    have := Tr.ret_some h2
    simp only [Bool.and_eq_true, decide_eq_true_eq] at h1
    obtain ⟨e1, e2, e3, e4⟩ := h1
    have e1 : i = (0 : Int) := e1
    subst e1
    have e2 : (0 : Int) ≤ n := e2
    have e3 : n < (10 : Int) := e3
    obtain ⟨x0, x1, x2, x3, x4, x5, x6, x7, x8, x9, xa, xb, xc, xd, xe, xf, rfl⟩ := len16 (show b.length = 16 from e4)
    refine ⟨17, iter_many (G := G46c) (fun xs hs r h => (r46c xs.2.2.2.2.1 xs.2.2.2.2.2.2.1 xs.2.2.2.2.2.2.2.1 hs.1 hs.2.1 hs.2.2.1 hs.2.2.2.1 hs.2.2.2.2.2.1 hs.2.2.2.2.1).trans h) 17 _ _ _ (Eq.trans ?_ (congrArg some this))⟩
    have hn := lt10 e2 e3
    rcases hn with rfl | rfl | rfl | rfl | rfl | rfl | rfl | rfl | rfl | rfl <;> (refine (?_ : _ = _); kernel_rfl)

theorem l46o : LoopOK Try.prog L46 b46o :=
  runLoop_ok (L' := L46i) C3_sound (loopsOK_all (fun b hb => by
    have : loopsOf b46o = [b46b, b46c] := by kernel_rfl
    rw [this] at hb
    simp only [List.mem_cons, List.not_mem_nil, or_false] at hb
    rcases hb with rfl | rfl
    · exact l46b
    · exact l46c)) (i := 8) (n := 11) (by kernel_rfl) (fun _ => rfl)

def roundE (ks : List (List Int)) (n : Nat) (b : List Int) : List Int := lineI n (subI boxL b) (rowOf ks (n + 1))
def encI (key b : List Int) : List Int :=
  let ks := keysI key
  roundE ks 9 (roundE ks 8 (roundE ks 7 (roundE ks 6 (roundE ks 5 (roundE ks 4 (roundE ks 3 (roundE ks 2 (roundE ks 1 (roundE ks 0 (xorF b (rowOf ks 0)))))))))))

def s46 : CSpec := .fn1 [t16, t16] t16 fun x => encI x.1 x.2.1
theorem ok46 : CSound Try.prog 57 s46 ∧ CLocal s46 :=
  fn_okL (L := L46) C3_sound Try.func57 (by kernel_rfl) (fun b hb => by
    have : loopsOf (bodyOf Try.f57) = [b46a, b46o] := by kernel_rfl
    rw [this] at hb
    simp only [List.mem_cons, List.not_mem_nil, or_false] at hb
    rcases hb with rfl | rfl
    · exact l46a
    · exact l46o) (fun xs hx => by
      obtain ⟨key, b, u⟩ := xs
      have h : b.length = 16 := hx.2.1.1
      obtain ⟨x0, x1, x2, x3, x4, x5, x6, x7, x8, x9, xa, xb, xc, xd, xe, xf, rfl⟩ := len16 h
      refine (?_ : _ = _)
      kernel_rfl) (fun xs _ => by kernel_rfl)

end Go.Proofs.Ytlkddajnebjlcaa.Aes

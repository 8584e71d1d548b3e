/- The document's digest (layer 1, sha): rounds. -/
import Derived.Test.YtlkddajnebjlcaaH5
set_option linter.unusedVariables false
set_option maxRecDepth 100000
namespace Go.Proofs.Ytlkddajnebjlcaa.Sha
open Go Vse Go.Proofs Gen

abbrev ns : Ty := .imm false false u32
abbrev nt : Ty := .imm true false u32

/-! right -/

def SR : RSpec := ⟨[0, 1, 5], 21, [u32, i64, i64], [], [], [], fun _ => ([0], [u32], [])⟩
noncomputable def bR : Code := loopAt Try.f51 0
def half1 (n : Int) : Int := w3 (n.tdiv 2)
def GR (n k i : Int) : Tr SR.End :=
  .ite (decide (i < k)) (.ite (n.tmod 2 == 1) (.ret (.inl ((w3 (half1 n + 2147483648), k, w (i + 1), ()), ()))) (.ret (.inl ((half1 n, k, w (i + 1), ()), ()))))
    (.ret (.inr (.exit 0, encS [0] [u32] [] 21 (n, ()) ())))
theorem rR (n k i : Int) : (SR.round (bodyK Try.prog (ctx []) L0 bR) (n, k, i, ()) ()).eval = (GR n k i).eval := by kernel_rfl
theorem ok52 : CSound Try.prog 52 (.sl1 [] nt fun _ => consts) ∧ CLocal (.sl1 [] nt fun _ => consts) :=
  sl_ok1 (L := L0) nil_sound Try.func52 (by kernel_rfl) (noLoopsL (by kernel_rfl)) (fun xs _ => by kernel_rfl) (fun xs _ => by kernel_rfl)

/-! filled -/

noncomputable def bF1 : Code := loopAt Try.f40 0
noncomputable def bF2 : Code := loopAt Try.f40 1
abbrev eF (k : Nat) : List ETy := [.vec k u8, .dead, .dead, .dead]
def SF1 : RSpec := ⟨[0, 3], 38, [bs, .vc 0 3], eF 3, eF 2, [], fun _ => ([0, 3], [bs, .vc 0 3], eF 3)⟩
def GF1 (b f : List Int) : Tr SF1.End :=
  .ite ((f.length : Int).tmod 64 != 56) (.chk (Vse.room (f.length + [(0 : Int)].length) 1) (.ret (.inl ((b, (), ()), (f ++ [0], ())))))
    (.ret (.inr (.exit 0, encS [0, 3] [bs, .vc 0 3] (eF 3) 38 (b, (), ()) (f, ()))))
theorem rF1 (b f : List Int) : (SF1.round (bodyK Try.prog (ctx []) L0 bF1) (b, (), ()) (f, ())).eval = (GF1 b f).eval := by kernel_rfl

def SF2 : RSpec := ⟨[3, 4, 5, 6], 38, [.vc 0 4, u64, u64, i64], eF 4, eF 3, [], fun _ => ([3], [.vc 0 4], eF 4)⟩
def GF2 (f : List Int) (n u i : Int) : Tr SF2.End :=
  .ite (decide (i < 8)) (.ite (decide (u = 0)) .fail (.chk (Vse.room (f.length + [(0 : Int)].length) 1) (.ret (.inl (((), n, wu (u.tdiv 256), w (i + 1), ()), (f ++ [wb ((wu (n.tdiv u)).tmod 256)], ()))))))
    (.ret (.inr (.exit 2, encS [3] [.vc 0 4] (eF 4) 38 ((), ()) (f, ()))))
theorem rF2 (f : List Int) (n u i : Int) : (SF2.round (bodyK Try.prog (ctx []) L0 bF2) ((), n, u, i, ()) (f, ())).eval = (GF2 f n u i).eval := by kernel_rfl

/-! block -/

abbrev Ri := Int → Int → Int
def cB (r : Ri) (ks : List Int) : List (Nat × CSpec) := [(51, .slp1 [u32, i64] (fun x => decide (0 ≤ x.2.1) && decide (x.2.1 ≤ 32)) u32 fun x => r x.1 x.2.1), (52, .sl1 [] nt fun _ => ks)]
noncomputable def bB1 : Code := loopAt Try.f41 0
noncomputable def bB2 : Code := loopAt Try.f41 1
noncomputable def bB3 : Code := loopAt Try.f41 2
noncomputable def bB4 : Code := loopAt Try.f41 3
def SB1 : RSpec := ⟨[0, 1, 5, 6], 225, [ns, bs, .vc 0 0, i64], [.vec 0 u32], [], [.slot 5 u32], fun _ => ([0, 5], [ns, .vc 0 0], [.vec 0 u32])⟩
def num4 (b : List Int) (i : Int) : Int :=
  let g (k : Int) : Int := w3 (b.getD (w (w (4 * i) + k)).toNat 0)
  w3 (w3 (w3 (w3 (w3 (b.getD (w (4 * i)).toNat 0) * 16777216) + w3 (g 1 * 65536)) + w3 (g 2 * 256)) + g 3)
def GB1 (s b v : List Int) (i : Int) : Tr SB1.End :=
  let ix (k : Int) : Bool := inArr (w (w (4 * i) + k)) b.length
  .ite (decide (i < 16)) (.chk (inArr (w (4 * i)) b.length) (.chk (ix 1) (.chk (ix 2) (.chk (ix 3) (.chk (Vse.room (v.length + [(0 : Int)].length) 4) (.ret (.inl ((s, b, (), w (i + 1), ()), (v ++ [num4 b i], ())))))))))
    (.ret (.inr (.exit 0, encS [0, 5] [ns, .vc 0 0] [.vec 0 u32] 225 (s, (), ()) (v, ()))))
theorem rB1 (r : Ri) (ks s b v : List Int) (i : Int) : (SB1.round (bodyK Try.prog (ctx (cB r ks)) L0 bB1) (s, b, (), i, ()) (v, ())).eval = (GB1 s b v i).eval := by kernel_rfl

def SB2 : RSpec := ⟨[0, 5, 7], 225, [ns, .vc 0 1, i64], [.vec 1 u32], [.vec 0 u32], [], fun _ => ([0, 5], [ns, .vc 0 1], [.vec 1 u32])⟩
def num2 (r : Ri) (v : List Int) (i : Int) : Int :=
  let x := v.getD (w (i - 15)).toNat 0
  let y := v.getD (w (i - 2)).toNat 0
  w3 (w3 (w3 (v.getD (w (i - 16)).toNat 0 + v.getD (w (i - 7)).toNat 0) + xorI .u32 (xorI .u32 (r x 7) (r x 18)) (w3 (x.tdiv 8))) + xorI .u32 (xorI .u32 (r y 17) (r y 19)) (w3 (y.tdiv 1024)))
def GB2 (r : Ri) (s v : List Int) (i : Int) : Tr SB2.End :=
  let ix (k : Int) : Bool := inArr (w (i - k)) v.length
  .ite (decide (i < 64)) (.chk (ix 15) (.chk (ix 2) (.chk (ix 16) (.chk (ix 7) (.chk (Vse.room (v.length + [(0 : Int)].length) 4) (.ret (.inl ((s, (), w (i + 1), ()), (v ++ [num2 r v i], ())))))))))
    (.ret (.inr (.exit 2, encS [0, 5] [ns, .vc 0 1] [.vec 1 u32] 225 (s, (), ()) (v, ()))))
theorem rB2 (r : Ri) (ks s v : List Int) (i : Int) : (SB2.round (bodyK Try.prog (ctx (cB r ks)) L0 bB2) (s, (), i, ()) (v, ())).eval = (GB2 r s v i).eval := by kernel_rfl

abbrev pB3 : List Ty := [ns, .vc 0 1, .vc 1 2, nt, i64]
abbrev eB3 : List ETy := [.vec 1 u32, .vec 2 u32, .dead]
def SB3 : RSpec := ⟨[0, 5, 10, 11, 12], 225, pB3, eB3, [.vec 1 u32, .vec 1 u32, .dead], [], fun _ => ([0, 10], [ns, .vc 1 2], [.dead, .vec 2 u32, .dead])⟩
def rT (r : Ri) (l4 l5 l6 l7 k x : Int) : Int := w3 (w3 (w3 (w3 (l7 + xorI .u32 (xorI .u32 (r l4 6) (r l4 11)) (r l4 25)) + xorI .u32 (andI .u32 l4 l5) (andI .u32 (w3 (4294967295 - l4)) l6)) + k) + x)
def rU (r : Ri) (l0 l1 l2 : Int) : Int := w3 (xorI .u32 (xorI .u32 (r l0 2) (r l0 13)) (r l0 22) + xorI .u32 (xorI .u32 (andI .u32 l0 l1) (andI .u32 l0 l2)) (andI .u32 l1 l2))
def GB3 (r : Ri) (s ks v : List Int) (i l0 l1 l2 l3 l4 l5 l6 l7 : Int) : Tr SB3.End :=
  let t := rT r l4 l5 l6 l7 (ks.getD i.toNat 0) (v.getD i.toNat 0)
  .ite (decide (i < 64)) (.chk (inArr i ks.length) (.chk (inArr i v.length) (.ret (.inl ((s, (), (), ks, w (i + 1), ()), (v, [w3 (t + rU r l0 l1 l2), l0, l1, l2, w3 (l3 + t), l4, l5, l6], ()))))))
    (.ret (.inr (.exit 4, encS [0, 10] [ns, .vc 1 2] [.dead, .vec 2 u32, .dead] 225 (s, (), ()) ([l0, l1, l2, l3, l4, l5, l6, l7], ()))))
theorem rB3 (r : Ri) (ks0 s ks v : List Int) (i l0 l1 l2 l3 l4 l5 l6 l7 : Int) : (SB3.round (bodyK Try.prog (ctx (cB r ks0)) L0 bB3) (s, (), (), ks, i, ()) (v, [l0, l1, l2, l3, l4, l5, l6, l7], ())).eval = (GB3 r s ks v i l0 l1 l2 l3 l4 l5 l6 l7).eval := by kernel_rfl

def SB4 : RSpec := ⟨[0, 10, 17], 225, [ns, .vc 1 2, i64], [.dead, .vec 2 u32, .dead], [.dead, .vec 2 u32, .dead], [], fun _ => ([10], [.vc 1 2], [.dead, .vec 2 u32, .dead])⟩
def GB4 (s l : List Int) (i : Int) : Tr SB4.End :=
  .ite (decide (i < 8)) (.chk (inArr i l.length) (.chk (inArr i s.length) (.chk (inArr i l.length) (.ret (.inl ((s, (), w (i + 1), ()), (l.set i.toNat (w3 (l.getD i.toNat 0 + s.getD i.toNat 0)), ())))))))
    (.ret (.inr (.exit 6, encS [10] [.vc 1 2] [.dead, .vec 2 u32, .dead] 225 ((), ()) (l, ()))))
theorem rB4 (r : Ri) (ks0 s l : List Int) (i : Int) : (SB4.round (bodyK Try.prog (ctx (cB r ks0)) L0 bB4) (s, (), i, ()) (l, ())).eval = (GB4 s l i).eval := by kernel_rfl

/-! Sum -/

abbrev Bk := List Int → List Int → List Int
def cD (f : List Int → List Int) (p : List Int → Bool) (k : Bk) : List (Nat × CSpec) := [(40, .slp1 [bs] (fun x => p x.1) bt fun x => f x.1), (41, .slp1 [ns, bs] (fun x => decide (List.length (α := Int) x.1 = 8) && decide (List.length (α := Int) x.2.1 = 64)) nt fun x => k x.1 x.2.1)]
noncomputable def bD1 : Code := loopAt Try.f17 0
noncomputable def bD2 : Code := loopAt Try.f17 1
def SD1 : RSpec := ⟨[2, 3, 4, 5], 71, [.ptr 0 [], nt, bt, i64], [.box d32, .dead], [.box d32, .vec 0 u32], [], fun _ => ([2, 3], [.ptr 0 [], nt], [.box d32, .dead])⟩
def GD1 (k : Bk) (s a o : List Int) (i : Int) : Tr SD1.End :=
  let q := (a.take (w (i + 64)).toNat).drop i.toNat
  .ite (decide (i < (a.length : Int))) (.chk (decide (0 ≤ i) && (decide (i ≤ w (i + 64)) && decide (w (i + 64) ≤ (a.length : Int)))) (.chk (decide (s.length = 8) && decide (q.length = 64)) (.ret (.inl (((), k s q, a, w (i + 64), ()), (o, ()))))))
    (.ret (.inr (.exit 0, encS [2, 3] [.ptr 0 [], nt] [.box d32, .dead] 71 ((), s, ()) (o, ()))))
theorem rD1 (f : List Int → List Int) (p : List Int → Bool) (k : Bk) (s a o : List Int) (i : Int) : (SD1.round (bodyK Try.prog (ctx (cD f p k)) L0 bD1) ((), s, a, i, ()) (o, ())).eval = (GD1 k s a o i).eval := by kernel_rfl

def SD2 : RSpec := ⟨[2, 3, 6, 7], 71, [.ptr 0 [], nt, .ptr 2 [], i64], [.box d32, .dead, .box d32], [.box d32, .dead, .box d32], [], fun _ => ([2, 6], [.ptr 0 [], .ptr 2 []], [.box d32, .dead, .box d32])⟩
def put8 (s q : List Int) (i : Int) : List Int :=
  let x := s.getD i.toNat 0
  (((q.set (w (4 * i)).toNat (wb (w3 (x.tdiv 16777216)))).set (w (w (4 * i) + 1)).toNat (wb ((w3 (x.tdiv 65536)).tmod 256))).set (w (w (4 * i) + 2)).toNat (wb ((w3 (x.tdiv 256)).tmod 256))).set (w (w (4 * i) + 3)).toNat (wb (x.tmod 256))
def GD2 (s o q : List Int) (i : Int) : Tr SD2.End :=
  let ix (k : Int) : Bool := inArrK .i64 (w (w (4 * i) + k)) 32
  .ite (decide (i < 8)) (.chk (inArr i s.length) (.chk (inArrK .i64 (w (4 * i)) 32) (.chk (inArr i s.length) (.chk (ix 1) (.chk (inArr i s.length) (.chk (ix 2) (.chk (inArr i s.length) (.chk (ix 3)
      (.ret (.inl (((), s, (), w (i + 1), ()), (o, put8 s q i, ()))))))))))))
    (.ret (.inr (.exit 2, encS [2, 6] [.ptr 0 [], .ptr 2 []] [.box d32, .dead, .box d32] 71 ((), (), ()) (o, q, ()))))
theorem rD2 (f : List Int → List Int) (p : List Int → Bool) (k : Bk) (s o q : List Int) (i : Int) : (SD2.round (bodyK Try.prog (ctx (cD f p k)) L0 bD2) ((), s, (), i, ()) (o, q, ())).eval = (GD2 s o q i).eval := by kernel_rfl

end Go.Proofs.Ytlkddajnebjlcaa.Sha

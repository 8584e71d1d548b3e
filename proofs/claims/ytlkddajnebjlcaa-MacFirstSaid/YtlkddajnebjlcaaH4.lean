/- A hash (layer 1, sha): rounds of writing and of the digest. -/
import Derived.Test.YtlkddajnebjlcaaH3
set_option linter.unusedVariables false
set_option maxRecDepth 100000
namespace Go.Proofs.Ytlkddajnebjlcaa.Sha
open Go Vse Go.Proofs Gen

/-- a hash: its state, bytes that are no block yet, how many were written -/
abbrev hT : Ty := .prod a8 (.prod bt (.prod u64 .unit))
abbrev Hs := List Int × List Int × Int × Unit
abbrev wu (x : Int) : Int := IntKind.u64.wrap x
abbrev wb (x : Int) : Int := IntKind.u8.wrap x

def init : List Int := [1779033703, 3144134277, 1013904242, 2773480762, 1359893119, 2600822924, 528734635, 1541459225]
abbrev nH : PSpec := ⟨[], [.ptr 0 []], [], [.box hT], []⟩
def s19 : CSpec := .pos nH (fun _ _ => true) fun _ _ => (((), ()), ((init, [], 0, ()), ()))
theorem ok19 : CSound Try.prog 19 s19 ∧ CLocal s19 := pos_sound (L := L0) nil_sound Try.func19 (by kernel_rfl) (noLoopsL (by kernel_rfl)) fun xs hs _ _ _ => by kernel_rfl

/-! writing -/

abbrev Mx := List Int → List Int → List Int
def c42 (m : Mx) : List (Nat × CSpec) := [(42, .slp1 [a8, bs] (fun x => decide (List.length (α := Int) x.2.1 = 64)) a8 fun x => m x.1 x.2.1)]
theorem c42_sound : CtxSound Try.prog (ctx (c42 mixF)) ∧ CtxLocal (ctx (c42 mixF)) := ctx_sound ⟨ok42, trivial⟩
noncomputable def bW : Code := loopAt Try.f20 0
def SW : RSpec := ⟨[0, 4], 53, [.ptr 0 [], bt], [.box hT, .dead], [.box hT, .dead], [], fun _ => ([0, 4], [.ptr 0 [], bt], [.box hT, .dead])⟩
def GW (m : Mx) (all s rest : List Int) (many : Int) : Tr SW.End :=
  .ite (decide ((all.length : Int) ≥ 64)) (.chk (decide (64 ≤ (all.length : Int))) (.chk (decide (((all.take 64).drop 0).length = 64)) (.chk (decide (64 ≤ (all.length : Int)) && decide ((all.length : Int) ≤ (all.length : Int)))
      (.ret (.inl (((), ((all.take (all.length : Int).toNat).drop 64), ()), ((m s ((all.take 64).drop 0), rest, many, ()), ())))))))
    (.ret (.inr (.exit 0, encS [0, 4] [.ptr 0 [], bt] [.box hT, .dead] 53 ((), all, ()) ((s, rest, many, ()), ()))))
theorem rW (m : Mx) (all s rest : List Int) (many : Int) : (SW.round (bodyK Try.prog (ctx (c42 m)) L0 bW) ((), all, ()) ((s, rest, many, ()), ())).eval = (GW m all s rest many).eval := by kernel_rfl

def FW (A : List Int → List Int → List Int × List Int) (xs : HL SW.Ts) (hs : HD SW.Es) : Tr (Ex × St) :=
  .ret (.exit 0, encS [0, 4] [.ptr 0 [], bt] [.box hT, .dead] 53 ((), (A hs.1.1 xs.2.1).2, ()) (((A hs.1.1 xs.2.1).1, hs.1.2.1, hs.1.2.2.1, ()), ()))
def LW (A : List Int → List Int → List Int × List Int) : Loops := fun j st => if j = 2 then SW.fn (FW A) st else .fail
abbrev wS (As Rs : List Ty) : PSpec := ⟨.ptr 0 [] :: As, Rs, [.box hT], [.box hT], []⟩
def G20 (A : List Int → List Int → List Int × List Int) (b s rest : List Int) (many : Int) : Tr (wS [bs] []).Out :=
  let r := (rest.take (rest.length : Int).toNat).drop (0 : Int).toNat
  let P (all : List Int) : Tr (wS [bs] []).Out := .chk (Vse.room (([] : List Int).length + (A s all).2.length) 1) (.ret ((), (((A s all).1, [] ++ (A s all).2, wu (many + wu (b.length : Int)), ()), ())))
  .chk (decide ((0 : Int) ≤ 0) && (decide ((0 : Int) ≤ (rest.length : Int)) && (decide ((rest.length : Int) = (rest.length : Int)) && decide ((rest.length : Int) ≤ (rest.length : Int)))))
    (.ite (decide (b.length = 0)) (P r) (.chk (Vse.room (r.length + b.length) 1) (P (r ++ b))))
theorem k20 (m : Mx) (A : List Int → List Int → List Int × List Int) (b s rest : List Int) (many : Int) :
    (fnP Try.prog (ctx (c42 m)) (LW A) (wS [bs] []) Try.f20 ((), b, ()) ((s, rest, many, ()), ())).eval = (G20 A b s rest many).eval := by kernel_rfl

/-! the digest -/

abbrev Wr := List Int → Hs → Hs
def c20 (W : Wr) (p : List Int → Hs → Bool) : List (Nat × CSpec) := [(20, .pos (wS [bs] []) (fun xs d => p xs.2.1 d.1) fun xs d => ((), (W xs.2.1 d.1, ())))]
noncomputable def bS1 : Code := loopAt Try.f21 0
noncomputable def bS2 : Code := loopAt Try.f21 1
noncomputable def bS3 : Code := loopAt Try.f21 2
abbrev pS : List Ty := [.ptr 0 [], .ptr 1 [], .ptr 2 []]
abbrev eS (k : Nat) : List ETy := [.box hT, .box d32, .box hT, .vec k u8]
def SS1 : RSpec := ⟨[0, 2, 3, 4], 68, [.ptr 0 [], .ptr 1 [], .ptr 2 [], .vc 3 1], eS 1, eS 0, [], fun _ => ([0, 2, 3, 4], [.ptr 0 [], .ptr 1 [], .ptr 2 [], .vc 3 1], eS 1)⟩
def GS1 (h l : Hs) (o f : List Int) : Tr SS1.End :=
  .ite ((w (w ((h.2.1.length : Int) + (f.length : Int)) + 8)).tmod 64 != 0) (.chk (Vse.room (f.length + [(0 : Int)].length) 1) (.ret (.inl (((), (), (), (), ()), (h, o, l, f ++ [0], ())))))
    (.ret (.inr (.exit 0, encS [0, 2, 3, 4] [.ptr 0 [], .ptr 1 [], .ptr 2 [], .vc 3 1] (eS 1) 68 ((), (), (), (), ()) (h, o, l, f, ()))))
theorem rS1 (W : Wr) (p : List Int → Hs → Bool) (h l : Hs) (o f : List Int) : (SS1.round (bodyK Try.prog (ctx (c20 W p)) L0 bS1) ((), (), (), (), ()) (h, o, l, f, ())).eval = (GS1 h l o f).eval := by kernel_rfl

def SS2 : RSpec := ⟨[0, 2, 3, 4, 5], 68, [.ptr 0 [], .ptr 1 [], .ptr 2 [], .vc 3 2, i64], eS 2, eS 1, [], fun _ => ([0, 2, 3, 4], [.ptr 0 [], .ptr 1 [], .ptr 2 [], .vc 3 2], eS 2)⟩
def GS2 (h l : Hs) (o f : List Int) (i : Int) : Tr SS2.End :=
  .ite (decide (i ≥ 0)) (.chk (decide (0 ≤ w (8 * i))) (.chk (Vse.room (f.length + [(0 : Int)].length) 1) (.ret (.inl (((), (), (), (), w (i - 1), ()), (h, o, l, f ++ [wb (shrI .u64 (shlI .u64 h.2.2.1 3) (w (8 * i)))], ()))))))
    (.ret (.inr (.exit 2, encS [0, 2, 3, 4] [.ptr 0 [], .ptr 1 [], .ptr 2 [], .vc 3 2] (eS 2) 68 ((), (), (), (), ()) (h, o, l, f, ()))))
theorem rS2 (W : Wr) (p : List Int → Hs → Bool) (h l : Hs) (o f : List Int) (i : Int) : (SS2.round (bodyK Try.prog (ctx (c20 W p)) L0 bS2) ((), (), (), (), i, ()) (h, o, l, f, ())).eval = (GS2 h l o f i).eval := by kernel_rfl

abbrev eS3 : List ETy := [.box hT, .box d32, .box hT, .dead, .box d32]
def SS3 : RSpec := ⟨[2, 3, 6, 50], 68, [.ptr 1 [], .ptr 2 [], .ptr 4 [], i64], eS3, [.box hT, .box d32, .box hT, .vec 2 u8, .box d32], [], fun _ => ([2, 6], [.ptr 1 [], .ptr 4 []], [.box hT, .box d32, .dead, .dead, .box d32])⟩
def GS3 (h l : Hs) (o q : List Int) (i : Int) : Tr SS3.End :=
  .ite (decide (i < 32)) (.chk (inArrK .i64 (w (i.tdiv 4)) 8) (.chk (decide (0 ≤ w (8 * w (3 - i.tmod 4)))) (.chk (inArrK .i64 i 32)
      (.ret (.inl (((), (), (), w (i + 1), ()), (h, o, l, q.set i.toNat (wb (shrI .u32 (l.1.getD (w (i.tdiv 4)).toNat 0) (w (8 * w (3 - i.tmod 4))))), ())))))))
    (.ret (.inr (.exit 4, encS [2, 6] [.ptr 1 [], .ptr 4 []] [.box hT, .box d32, .dead, .dead, .box d32] 68 ((), (), ()) (h, o, q, ()))))
theorem rS3 (W : Wr) (p : List Int → Hs → Bool) (h l : Hs) (o q : List Int) (i : Int) : (SS3.round (bodyK Try.prog (ctx (c20 W p)) L0 bS3) ((), (), (), i, ()) (h, o, l, q, ())).eval = (GS3 h l o q i).eval := by kernel_rfl

end Go.Proofs.Ytlkddajnebjlcaa.Sha

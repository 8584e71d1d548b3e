/- A code of bytes (layer 2, mac): of own parts, which are lent. -/
import Derived.Test.YtlkddajnebjlcaaKA
import Derived.Test.YtlkddajnebjlcaaM6
set_option linter.unusedVariables false
set_option maxRecDepth 100000
namespace Go.Proofs.Ytlkddajnebjlcaa.Mac
open Go Vse Go.Proofs Gen Sha

abbrev lq : Ty := .imm false false bs
def SMq : RSpec := ⟨[0, 4, 5, 6, 16, 17, 18], 37, [bs, .ptr 0 [], .ptr 1 [], .ptr 2 [], lq, i64, i64], eM, eM, [], fun _ => ([0, 4, 5, 6], [bs, .ptr 0 [], .ptr 1 [], .ptr 2 []], eM)⟩
theorem rMq (i0 : Hs) (W : Wr) (p : List Int → Hs → Bool) (q : Hs → Bool) (D : Hs → List Int) (F : List Int → Int → List Int) (pf : List Int → Bool) (key : List Int) (l : List (List Int)) (n i : Int) (o : List Int) (h h' : Hs) :
    (SMq.round (bodyK Try.prog (ctx (cM i0 W p q D F pf)) L0 bM) (key, (), (), (), l, n, i, ()) (o, h, h', ())).eval = (GM W p key l n i o h h' : Tr SM.End).eval := by kernel_rfl

def FMq (c : List (List Int) → Int → Int → Hs → Bool) (Z : List (List Int) → Hs → Hs) (xs : HL SMq.Ts) (hs : HD SMq.Es) : Tr (Ex × St) :=
  .chk (c xs.2.2.2.2.1 xs.2.2.2.2.2.1 xs.2.2.2.2.2.2.1 hs.2.1) (.ret (.exit 0, encS [0, 4, 5, 6] [bs, .ptr 0 [], .ptr 1 [], .ptr 2 []] eM 37 (xs.1, (), (), (), ()) (hs.1, Z xs.2.2.2.2.1 hs.2.1, hs.2.2.1, ())))
def LMq (c : List (List Int) → Int → Int → Hs → Bool) (Z : List (List Int) → Hs → Hs) : Loops := fun j st => if j = 4 then SMq.fn (FMq c Z) st else .fail
theorem tMq (i : Hs) (W : Wr) (p : List Int → Hs → Bool) (q : Hs → Bool) (D : Hs → List Int) (F : List Int → Int → List Int) (pf : List Int → Bool) (c : List (List Int) → Int → Int → Hs → Bool) (Z : List (List Int) → Hs → Hs) (key : List Int) (l : List (List Int)) :
    nrm (fnS Try.prog (ctx (cM i W p q D F pf)) (LMq c Z) [d32] Try.f29 (mkArgs [bs, lq] (key, l, ()))) = (TM i W p q D F pf c Z key l).eval := by kernel_rfl

theorem mMq (key : List Int) (l : List (List Int)) (hl : l.length ≤ 1000000) (ht : tot l ≤ 1000000) (o : List Int) (h' : Hs) : ∀ (m k : Nat) (h : Hs), k + m = l.length → h.2.1.length ≤ 1000000 →
    SMq.many (bodyK Try.prog CMF L0 bM) (m + 1) (key, (), (), (), l, (l.length : Int), (k : Int), ()) (o, h, h', ()) = some (.exit 0, encS [0, 4, 5, 6] [bs, .ptr 0 [], .ptr 1 [], .ptr 2 []] eM 37 (key, (), (), (), ()) (o, zP (l.drop k) h, h', ()))
  | 0, k, h, hk, hr => by
    refine rmany_inr ((rMq h0 writeF writeP restP sumH fillK shaP key l l.length k o h h').trans ?_) 0
    rw [List.drop_eq_nil_of_le (by omega)]
    simp only [GM, Tr.eval, decide_eq_false (show ¬ ((k : Int) < (l.length : Int)) by omega)]
    rfl
  | m + 1, k, h, hk, hr => by
    have h1 : k < l.length := by omega
    have g1 : l.getD k [] = l[k] := Gen.getD_cons h1 []
    have hle := getElem_tot l k h1
    refine (rmany_inl (d := ((key, (), (), (), l, (l.length : Int), ((k + 1 : Nat) : Int), ()), (o, writeF l[k] h, h', ()))) ((rMq h0 writeF writeP restP sumH fillK shaP key l l.length k o h h').trans ?_) (m + 1)).trans
      ((mMq key l hl ht o h' m (k + 1) (writeF l[k] h) (by omega) (rest_le _ _)).trans ?_)
    · have w0 : w ((k : Int) + 1) = ((k + 1 : Nat) : Int) := (w_id (by omega) (by omega)).trans (by omega)
      have e1 : writeP l[k] h = true := decide_eq_true (by omega)
      unfold GM
      simp only [Int.toNat_natCast, g1]
      rw [ite_t (decide_eq_true (show ((k : Int) < (l.length : Int)) by omega)), chk_eval (inArr_nat h1), chk_eval e1, w0]
      rfl
    · rw [List.drop_eq_getElem_cons h1]
      simp only [zP, List.foldl_cons]

theorem lMq : LoopOK Try.prog (LMq cM1 zP) bM :=
  rloop_ok (L := LMq cM1 zP) (L' := L0) cM_sound (loopsOK_of (by kernel_rfl)) SMq (F := FMq cM1 zP) (i := 4) (by kernel_rfl) (fun _ => rfl) fun xs hs r h => by
    obtain ⟨key, u1, u2, u3, l, n, i, u4⟩ := xs
    obtain ⟨o, hh, h', u5⟩ := hs
    obtain ⟨h1, h2⟩ := Tr.chk_some h
    simp only [cM1, Bool.and_eq_true, decide_eq_true_eq] at h1
    obtain ⟨e1, e2, e3, e4, e5⟩ := h1
    have e1 : n = ((List.length (α := List Int) l : Nat) : Int) := e1
    have e2 : i = ((0 : Nat) : Int) := e2
    subst e1; subst e2
    have := mMq key l e5 e4 o h' (List.length (α := List Int) l) 0 hh (by omega) e3
    rw [List.drop_zero] at this
    exact ⟨_, this.trans (congrArg some (Tr.ret_some h2))⟩


def s29q : CSpec := .slq bs u8 (fun k l => macP k l) d32 fun k l => macF k (List.flatten (α := Int) l)
theorem ok29q : CSound Try.prog 29 s29q ∧ CLocal s29q :=
  slqE1 (L := LMq cM1 zP) cM_sound Try.func29 (by kernel_rfl) (loops1 (by kernel_rfl) lMq) fun key l hx hp =>
    (tMq h0 writeF writeP restP sumH fillK shaP cM1 zP key l).trans (TM_eq hp)

end Go.Proofs.Ytlkddajnebjlcaa.Mac

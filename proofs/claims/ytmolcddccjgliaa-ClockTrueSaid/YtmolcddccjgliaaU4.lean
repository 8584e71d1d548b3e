/- Spans swept (layer 7, sweep): the most votes, and the document's answers: walks. -/
import Derived.Test.YtmolcddccjgliaaU3
import Derived.Test.YtmolcddccjgliaaE47
set_option linter.unusedVariables false
set_option maxRecDepth 100000
namespace Go.Proofs.Ytmolcddccjgliaa.Sweep
open Go Vse Go.Proofs Gen

theorem tFu (pw W : Pl) (pe : Pl) (E : List tS.den → List tS.den) (pf : List tS.den → Int → Int → Bool) (Y : Fi) (pr : Pl) (R : List tS.den → List tS.den) (l : List tS.den) (liars : Int) :
    (fnP Try.prog (ctx (cFu pw W pe E pf Y pr R)) L0 nFu Try.f10 (l, liars, ()) ()).eval = (TFu pw W pe E pf Y pr R l liars).eval := by kernel_rfl

/-! Most -/

noncomputable def cMo : Code := bodyOf Try.f12
def cMoC (pw W : Pl) (pe : Pl) (E : List tS.den → List tS.den) (pf : List tS.den → Int → Int → Bool) (Y : Fi) : List (Nat × CSpec) :=
  [(33, .slp1 [ss] (fun x => pw x.1) .bool fun x => W x.1), (34, .pos nEn (fun xs _ => pe xs.1) fun xs _ => (((), ()), (E xs.1, ()))), (35, .pos nFi (fun xs _ => pf xs.1 xs.2.1 xs.2.2.1) fun xs _ => (Y xs.1 xs.2.1 xs.2.2.1, ()))]
noncomputable def bMo : Code := ((loopsOfS cMo)[0]?).getD .skip
def SMo : RSpec := ⟨[5, 6, 7], 30, [.vc 0 0, i64, i64], [.vec 0 tS], [.vec 0 tS], [], fun _ => ([6, 7], [i64, i64], [.dead])⟩
def GMo (pf : List tS.den → Int → Int → Bool) (Y : Fi) (need at_ : Int) (e : List tS.den) : Tr SMo.End :=
  let x := fun a : Int => (.ret (.inr (.exit 0, encS [6, 7] [i64, i64] [.dead] 30 (need, a, ()) ())) : Tr SMo.End)
  .ite (decide (need > 0)) (.chk (pf e need 1) (.ite (Y e need 1).2.1 (x (Y e need 1).1) (.ret (.inl (((), w (need - 1), at_, ()), (e, ())))))) (x at_)
theorem rMo (pw W : Pl) (pe : Pl) (E : List tS.den → List tS.den) (pf : List tS.den → Int → Int → Bool) (Y : Fi) (need at_ : Int) (e : List tS.den) :
    (SMo.round (bodyK Try.prog (ctx (cMoC pw W pe E pf Y)) L0 bMo) ((), need, at_, ()) (e, ())).eval = (GMo pf Y need at_ e).eval := by kernel_rfl
def FMo (c : List tS.den → Int → Int → Bool) (X Z : List tS.den → Int → Int) (xs : HL SMo.Ts) (hs : HD SMo.Es) : Tr (Ex × St) :=
  .chk (c hs.1 xs.2.1 xs.2.2.1) (.ret (.exit 0, encS [6, 7] [i64, i64] [.dead] 30 (X hs.1 xs.2.1, Z hs.1 xs.2.1, ()) ()))
def LMo (c : List tS.den → Int → Int → Bool) (X Z : List tS.den → Int → Int) : Loops := fun j st => if j = 6 then SMo.fn (FMo c X Z) st else .fail
abbrev nMo : PSpec := ⟨[ss], [i64, i64, i64], [], [], []⟩
def TMo (pw W : Pl) (pe : Pl) (E : List tS.den → List tS.den) (c : List tS.den → Int → Int → Bool) (X Z : List tS.den → Int → Int) (l : List tS.den) : Tr nMo.Out :=
  .chk (pw l) (.ite (W l) (.ret ((0, 0, 1, ()), ())) (.chk (pe l) (.chk (c (E l) (l.length : Int) 0) (.ret ((Z (E l) (l.length : Int), X (E l) (l.length : Int), 0, ()), ())))))
theorem tMo (pw W : Pl) (pe : Pl) (E : List tS.den → List tS.den) (pf : List tS.den → Int → Int → Bool) (Y : Fi) (c : List tS.den → Int → Int → Bool) (X Z : List tS.den → Int → Int) (l : List tS.den) :
    (fnPX Try.prog (runS Try.prog (ctx (cMoC pw W pe E pf Y)) (LMo c X Z) cMo) nMo Try.f12 (l, ()) ()).eval = (TMo pw W pe E c X Z l).eval := by kernel_rfl

/-! the document's votes -/

noncomputable def bRV : Code := loopAt Try.f15 0
def SRV : RSpec := ⟨[0, 1, 5, 6], 22, [ss, i64, i64, i64], [], [], [], fun _ => ([5], [i64], [])⟩
def cRV (H : tS.den → Int → Bool) : List (Nat × CSpec) := [(38, .fn1 [tS, i64] .bool fun x => H x.1 x.2.1)]
def GRV (H : tS.den → Int → Bool) (l : List tS.den) (t m i : Int) : Tr SRV.End :=
  .ite (decide (i < (l.length : Int))) (.chk (inArr i l.length) (.ite (H (l.getD i.toNat (dflt tS)) t) (.ret (.inl ((l, t, w (m + 1), w (i + 1), ()), ()))) (.ret (.inl ((l, t, m, w (i + 1), ()), ())))))
    (.ret (.inr (.exit 0, encS [5] [i64] [] 22 (m, ()) ())))
theorem rRV (H : tS.den → Int → Bool) (l : List tS.den) (t m i : Int) : (SRV.round (bodyK Try.prog (ctx (cRV H)) L0 bRV) (l, t, m, i, ()) ()).eval = (GRV H l t m i).eval := by kernel_rfl
def FRV (c : List tS.den → Int → Int → Bool) (X : List tS.den → Int → Int) (xs : HL SRV.Ts) (hs : HD SRV.Es) : Tr (Ex × St) := .chk (c xs.1 xs.2.2.1 xs.2.2.2.1) (.ret (.exit 0, encS [5] [i64] [] 22 (X xs.1 xs.2.1, ()) ()))
def LRV (c : List tS.den → Int → Int → Bool) (X : List tS.den → Int → Int) : Loops := fun j st => if j = 3 then SRV.fn (FRV c X) st else .fail
theorem tRV (H : tS.den → Int → Bool) (c : List tS.den → Int → Int → Bool) (X : List tS.den → Int → Int) (l : List tS.den) (t : Int) :
    nrm (fnS Try.prog (ctx (cRV H)) (LRV c X) [i64] Try.f15 (mkArgs [ss, i64] (l, t, ()))) = (.chk (c l 0 0) (.ret (.v i64 (X l t))) : Tr AV).eval := by kernel_rfl

/-! may -/

noncomputable def bMy : Code := loopAt Try.f37 0
def SMy : RSpec := ⟨[0, 3], 28, [ss, i64], [], [], [], fun x => match x with | .ret => ([2], [.bool], []) | _ => ([0], [ss], [])⟩
def cMy (R : tS.den → Bool) : List (Nat × CSpec) := [(16, .fn1 [tS] .bool fun x => R x.1)]
def GMy (R : tS.den → Bool) (l : List tS.den) (i : Int) : Tr SMy.End :=
  let e : Tr SMy.End := .ret (.inr (.exit 0, encS [0] [ss] [] 28 (l, ()) ()))
  .ite (decide (i < (l.length : Int))) (.ite (decide (i < 65)) (.chk (inArr i l.length) (.ite (!R (l.getD i.toNat (dflt tS))) (.ret (.inr (.ret, encS [2] [.bool] [] 28 (false, ()) ()))) (.ret (.inl ((l, w (i + 1), ()), ()))))) e) e
theorem rMy (R : tS.den → Bool) (l : List tS.den) (i : Int) : (SMy.round (bodyK Try.prog (ctx (cMy R)) L0 bMy) (l, i, ()) ()).eval = (GMy R l i).eval := by kernel_rfl
def FMy (c : List tS.den → Int → Bool) (X : List tS.den → Bool) (xs : HL SMy.Ts) (hs : HD SMy.Es) : Tr (Ex × St) := .chk (c xs.1 xs.2.1) (.ite (X xs.1) (.ret (.exit 0, encS [0] [ss] [] 28 (xs.1, ()) ())) (.ret (.ret, encS [2] [.bool] [] 28 (false, ()) ())))
def LMy (c : List tS.den → Int → Bool) (X : List tS.den → Bool) : Loops := fun j st => if j = 2 then SMy.fn (FMy c X) st else .fail
theorem tMy (R : tS.den → Bool) (c : List tS.den → Int → Bool) (X : List tS.den → Bool) (l : List tS.den) :
    nrm (fnS Try.prog (ctx (cMy R)) (LMy c X) [.bool] Try.f37 (mkArgs [ss] (l, ()))) = (.chk (c l 0) (.ite (X l) (.ite (decide ((l.length : Int) ≥ 1)) (.ret (.v .bool (decide ((l.length : Int) ≤ 64)))) (.ret (.v .bool false))) (.ret (.v .bool false))) : Tr AV).eval := by kernel_rfl

/-! the document's Fuse -/

def cRF (pm M : Pl) (pv : Pl) (V : List tS.den → Int → Int) : List (Nat × CSpec) := [(37, .slp1 [ss] (fun x => pm x.1) .bool fun x => M x.1), (15, .slp1 [ss, i64] (fun x => pv x.1) i64 fun x => V x.1 x.2.1)]
abbrev e2 : List ETy := [.box tS, .box tS]
noncomputable def bRa : Code := loopAt Try.f11 0
noncomputable def bRb : Code := loopAt Try.f11 1
def SRa : RSpec := ⟨[0, 1, 4, 6, 7, 8], 97, [ss, i64, .ptr 0 [], .ptr 1 [], .bool, i64], e2, e2, [], fun _ => ([0, 1, 4, 6, 7], [ss, i64, .ptr 0 [], .ptr 1 [], .bool], e2)⟩
def SRb : RSpec := ⟨[0, 1, 4, 6, 9], 97, [ss, i64, .ptr 0 [], .ptr 1 [], i64], e2, e2, [], fun _ => ([4, 6], [.ptr 0 [], .ptr 1 []], e2)⟩
def GRa (pv : Pl) (V : List tS.den → Int → Int) (l : List tS.den) (liars : Int) (sm : Bool) (i : Int) (r o : tS.den) : Tr SRa.End :=
  let x := (l.getD i.toNat (dflt tS)).1
  let no := (.ret (.inl ((l, liars, (), (), sm, w (i + 1), ()), (r, o, ()))) : Tr SRa.End)
  let yes := (.chk (inArr i l.length) (.ret (.inl ((l, liars, (), (), true, w (i + 1), ()), (r, (x, o.2), ())))) : Tr SRa.End)
  .ite (decide (i < (l.length : Int))) (.chk (inArr i l.length) (.chk (pv l) (.ite (decide (V l x ≥ w ((l.length : Int) - liars))) (.ite (!sm) yes (.chk (inArr i l.length) (.ite (decide (x < o.1)) yes no))) no)))
    (.ret (.inr (.exit 0, encS [0, 1, 4, 6, 7] [ss, i64, .ptr 0 [], .ptr 1 [], .bool] e2 97 (l, liars, (), (), sm, ()) (r, o, ()))))
theorem rRa (pm M : Pl) (pv : Pl) (V : List tS.den → Int → Int) (l : List tS.den) (liars : Int) (sm : Bool) (i : Int) (r o : tS.den) :
    (SRa.round (bodyK Try.prog (ctx (cRF pm M pv V)) L0 bRa) (l, liars, (), (), sm, i, ()) (r, o, ())).eval = (GRa pv V l liars sm i r o).eval := by kernel_rfl
def GRb (pv : Pl) (V : List tS.den → Int → Int) (l : List tS.den) (liars : Int) (i : Int) (r o : tS.den) : Tr SRb.End :=
  let x := (l.getD i.toNat (dflt tS)).2.1
  .ite (decide (i < (l.length : Int))) (.chk (inArr i l.length) (.chk (pv l) (.ite (decide (V l x ≥ w ((l.length : Int) - liars))) (.chk (inArr i l.length) (.ret (.inl ((l, liars, (), (), w (i + 1), ()), (r, (o.1, maxI o.2.1 x, ()), ())))))
      (.ret (.inl ((l, liars, (), (), w (i + 1), ()), (r, o, ())))))))
    (.ret (.inr (.exit 2, encS [4, 6] [.ptr 0 [], .ptr 1 []] e2 97 ((), (), ()) (r, o, ()))))
theorem rRb (pm M : Pl) (pv : Pl) (V : List tS.den → Int → Int) (l : List tS.den) (liars : Int) (i : Int) (r o : tS.den) :
    (SRb.round (bodyK Try.prog (ctx (cRF pm M pv V)) L0 bRb) (l, liars, (), (), i, ()) (r, o, ())).eval = (GRb pv V l liars i r o).eval := by kernel_rfl
def FRa (c : List tS.den → Int → Bool → Int → tS.den → Bool) (X : List tS.den → Int → Bool) (Y : List tS.den → Int → Int) (xs : HL SRa.Ts) (hs : HD SRa.Es) : Tr (Ex × St) :=
  .chk (c xs.1 xs.2.1 xs.2.2.2.2.1 xs.2.2.2.2.2.1 hs.2.1) (.ret (.exit 0, encS [0, 1, 4, 6, 7] [ss, i64, .ptr 0 [], .ptr 1 [], .bool] e2 97 (xs.1, xs.2.1, (), (), X xs.1 xs.2.1, ()) (hs.1, (Y xs.1 xs.2.1, hs.2.1.2), ())))
def FRb (c : List tS.den → Int → Int → tS.den → Bool) (Z : List tS.den → Int → Int → Int) (xs : HL SRb.Ts) (hs : HD SRb.Es) : Tr (Ex × St) :=
  .chk (c xs.1 xs.2.1 xs.2.2.2.2.1 hs.2.1) (.ret (.exit 2, encS [4, 6] [.ptr 0 [], .ptr 1 []] e2 97 ((), (), ()) (hs.1, (hs.2.1.1, Z xs.1 xs.2.1 hs.2.1.2.1, ()), ())))
def LRF (ca : List tS.den → Int → Bool → Int → tS.den → Bool) (X : List tS.den → Int → Bool) (Y : List tS.den → Int → Int) (cb : List tS.den → Int → Int → tS.den → Bool) (Z : List tS.den → Int → Int → Int) : Loops :=
  fun j st => if j = 6 then SRa.fn (FRa ca X Y) st else if j = 15 then SRb.fn (FRb cb Z) st else .fail
def TRF (pm M : Pl) (ca : List tS.den → Int → Bool → Int → tS.den → Bool) (X : List tS.den → Int → Bool) (Y : List tS.den → Int → Int) (cb : List tS.den → Int → Int → tS.den → Bool) (Z : List tS.den → Int → Int → Int) (l : List tS.den) (liars : Int) : Tr nFu.Out :=
  let bad := fun n : Int => (.ret (((0, 0, ()), n, ()), ()) : Tr nFu.Out)
  .chk (pm l) (.ite (!M l) (bad 1) (.ite (decide (liars < 0)) (bad 1) (.ite (decide (liars ≥ (l.length : Int))) (bad 1) (.chk (ca l liars false 0 (0, 0, ())) (.ite (!X l liars) (bad 11) (.chk (cb l liars 0 (Y l liars, Y l liars, ())) (.ret (((Y l liars, Z l liars (Y l liars), ()), 0, ()), ()))))))))
theorem tRF (pm M : Pl) (pv : Pl) (V : List tS.den → Int → Int) (ca : List tS.den → Int → Bool → Int → tS.den → Bool) (X : List tS.den → Int → Bool) (Y : List tS.den → Int → Int) (cb : List tS.den → Int → Int → tS.den → Bool) (Z : List tS.den → Int → Int → Int) (l : List tS.den) (liars : Int) :
    (fnP Try.prog (ctx (cRF pm M pv V)) (LRF ca X Y cb Z) nFu Try.f11 (l, liars, ()) ()).eval = (TRF pm M ca X Y cb Z l liars).eval := by kernel_rfl

/-! the document's Most -/

noncomputable def bRM : Code := loopAt Try.f13 0
def SRM : RSpec := ⟨[0, 5, 6], 58, [ss, i64, i64], [], [], [], fun _ => ([0, 5], [ss, i64], [])⟩
def GRM (pv : Pl) (V : List tS.den → Int → Int) (l : List tS.den) (a i : Int) : Tr SRM.End :=
  let x := (l.getD i.toNat (dflt tS)).1
  let no := (.ret (.inl ((l, a, w (i + 1), ()), ())) : Tr SRM.End)
  let yes := (.chk (inArr i l.length) (.ret (.inl ((l, x, w (i + 1), ()), ()))) : Tr SRM.End)
  .ite (decide (i < (l.length : Int))) (.chk (inArr i l.length) (.chk (pv l) (.chk (pv l) (.ite (decide (V l x > V l a)) yes (.ite (V l x == V l a) (.chk (inArr i l.length) (.ite (decide (x < a)) yes no)) no)))))
    (.ret (.inr (.exit 0, encS [0, 5] [ss, i64] [] 58 (l, a, ()) ())))
theorem rRM (pm M : Pl) (pv : Pl) (V : List tS.den → Int → Int) (l : List tS.den) (a i : Int) :
    (SRM.round (bodyK Try.prog (ctx (cRF pm M pv V)) L0 bRM) (l, a, i, ()) ()).eval = (GRM pv V l a i).eval := by kernel_rfl
def FRM (c : List tS.den → Int → Int → Bool) (X : List tS.den → Int) (xs : HL SRM.Ts) (hs : HD SRM.Es) : Tr (Ex × St) :=
  .chk (c xs.1 xs.2.1 xs.2.2.1) (.ret (.exit 0, encS [0, 5] [ss, i64] [] 58 (xs.1, X xs.1, ()) ()))
def LRM (c : List tS.den → Int → Int → Bool) (X : List tS.den → Int) : Loops := fun j st => if j = 5 then SRM.fn (FRM c X) st else .fail
def TRM (pm M : Pl) (pv : Pl) (V : List tS.den → Int → Int) (c : List tS.den → Int → Int → Bool) (X : List tS.den → Int) (l : List tS.den) : Tr nMo.Out :=
  .chk (pm l) (.ite (!M l) (.ret ((0, 0, 1, ()), ())) (.chk (inArr 0 l.length) (.chk (c l (l.getD 0 (dflt tS)).1 0) (.chk (pv l) (.ret ((X l, V l (X l), 0, ()), ()))))))
theorem tRM (pm M : Pl) (pv : Pl) (V : List tS.den → Int → Int) (c : List tS.den → Int → Int → Bool) (X : List tS.den → Int) (l : List tS.den) :
    (fnP Try.prog (ctx (cRF pm M pv V)) (LRM c X) nMo Try.f13 (l, ()) ()).eval = (TRM pm M pv V c X l).eval := by kernel_rfl

end Go.Proofs.Ytmolcddccjgliaa.Sweep

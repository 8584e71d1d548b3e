/- Records that are kept (layer 14, journal): Add, Only, Open: walks. -/
import Derived.Test.YtffdkniccaebmaaJ3
import Derived.Test.YtffdkniccaebmaaE47
set_option linter.unusedVariables false
set_option linter.unusedSimpArgs false
set_option maxRecDepth 100000
namespace Go.Proofs.Ytffdkniccaebmaa.Jnl
open Go Vse Go.Proofs Gen
open Sto (stT D R1 R0)

def stD (h : JD) : D := (h.2.1, h.2.2.2.1, ())
def putS (br : Bool) (d : D) (l : List (List Int)) : JD := (((), (), br, ()), d.1, l, d.2.1, ())
def TAd (pl : List Int → Bool) (ld : List Int → List Int) (pa : List Int → D → Bool) (ap : List Int → D → R1) (sy : D → R1) (pk : List Int → Bool) (b : List Int) (h : JD) : Tr (nJ [bs] [i64] 1).Out :=
  let q := ap (ld b) (stD h)
  let q2 := sy q.2
  .ite h.1.2.2.1 (.ret (((8 : Int), ()), h)) (.ite (decide ((b.length : Int) > 1000)) (.ret (((7 : Int), ()), h)) (.chk (pl b) (.chk (pa (ld b) (stD h)) (.ite (!decide (q.1.1 = 0)) (.ret ((q.1.1, ()), putS (broke q.1.1) q.2 h.2.2.1))
    (.ite (!decide (q2.1.1 = 0)) (.ret ((q2.1.1, ()), putS (broke q2.1.1) q2.2 h.2.2.1)) (.chk (pk b) (.chk (Vse.room (h.2.2.1.length + 1) 24) (.ret (((0 : Int), ()), putS (broke q2.1.1) q2.2 (h.2.2.1 ++ [b]))))))))))
theorem tAd (pl : List Int → Bool) (ld : List Int → List Int) (pa : List Int → D → Bool) (ap : List Int → D → R1) (sy : D → R1) (pk : List Int → Bool) (b : List Int) (h : JD) :
    (fnP Try.prog (ctx (cAd pl ld pa ap sy pk)) L0 (nJ [bs] [i64] 1) Try.f45 ((), b, ()) h).eval = (TAd pl ld pa ap sy pk b h).eval := by kernel_rfl

/-! Only -/

noncomputable def bOn : Code := loopAt Try.f44 0
abbrev jD : List ETy := jE 0 ++ [.vec 0 u8]
def SOn : RSpec := ⟨[0, 1, 5, 13, 14, 15], 43, [.ptr 0 [], Gen.ls, .vc 4 0, Gen.ls, i64, i64], jD, jE 0, [.slot 5 u8], fun x => match x with | .ret => ([4], [i64], jE 0 ++ [.dead]) | _ => ([0, 1, 5], [.ptr 0 [], Gen.ls, .vc 4 0], jD)⟩
def cOn (pl : List Int → Bool) (ld : List Int → List Int) (pr : List Int → D → Bool) (rp : List Int → D → R1) (pc : List (List Int) → Bool) : List (Nat × CSpec) :=
  [(88, sLd pl ld), (89, .pos (Sto.sS [bs] [i64]) (fun xs d => pr xs.2.1 d) fun xs d => rp xs.2.1 d), (90, sDi), (91, sCp pc)]
def hdO (h : JD) (o : List Int) : HD jD := (h.1, h.2.1, h.2.2.1, h.2.2.2.1, o, ())
def GOn (pl : List Int → Bool) (ld : List Int → List Int) (h : JD) (l l2 : List (List Int)) (o : List Int) (n i : Int) : Tr SOn.End :=
  let x := l2.getD i.toNat []
  .ite (decide (i < n)) (.chk (inArr i l2.length) (.ite (decide ((x.length : Int) > 1000)) (.ret (.inr (.ret, encS [4] [i64] (jE 0 ++ [.dead]) 43 ((7 : Int), ()) h)))
    (.chk (pl x) (.chk (Vse.room (o.length + (ld x).length) 1) (.ret (.inl (((), l, (), l2, n, w (i + 1), ()), hdO h (o ++ ld x))))))))
    (.ret (.inr (.exit 0, encS [0, 1, 5] [.ptr 0 [], Gen.ls, .vc 4 0] jD 43 ((), l, (), ()) (hdO h o))))
theorem rOn (pl : List Int → Bool) (ld : List Int → List Int) (pr : List Int → D → Bool) (rp : List Int → D → R1) (pc : List (List Int) → Bool) (h : JD) (l l2 : List (List Int)) (o : List Int) (n i : Int) :
    (SOn.round (bodyK Try.prog (ctx (cOn pl ld pr rp pc)) L0 bOn) ((), l, (), l2, n, i, ()) (hdO h o)).eval = (GOn pl ld h l l2 o n i).eval := by kernel_rfl
abbrev Con := JD → List Int → List (List Int) → List (List Int) → Int → Int → Bool
def FOn (c : Con) (bg : List (List Int) → Bool) (al : List (List Int) → List Int) (xs : HL SOn.Ts) (hs : HD SOn.Es) : Tr (Ex × St) :=
  let h : JD := (hs.1, hs.2.1, hs.2.2.1, hs.2.2.2.1, ())
  .chk (c h hs.2.2.2.2.1 xs.2.1 xs.2.2.2.1 xs.2.2.2.2.1 xs.2.2.2.2.2.1) (.ite (bg xs.2.1) (.ret (.ret, encS [4] [i64] (jE 0 ++ [.dead]) 43 ((7 : Int), ()) h))
    (.ret (.exit 0, encS [0, 1, 5] [.ptr 0 [], Gen.ls, .vc 4 0] jD 43 ((), xs.2.1, (), ()) (hdO h (al xs.2.1)))))
def LOn (c : Con) (bg : List (List Int) → Bool) (al : List (List Int) → List Int) : Loops := fun j st => if j = 5 then SOn.fn (FOn c bg al) st else .fail
def TOn (c : Con) (bg : List (List Int) → Bool) (al : List (List Int) → List Int) (pr : List Int → D → Bool) (rp : List Int → D → R1) (pc : List (List Int) → Bool) (l : List (List Int)) (h : JD) : Tr (nJ [Gen.ls] [i64] 1).Out :=
  let q := rp (al l) (stD h)
  .ite h.1.2.2.1 (.ret (((8 : Int), ()), h)) (.chk (c h [] l l (l.length : Int) 0) (.ite (bg l) (.ret (((7 : Int), ()), h)) (.chk (pr (al l) (stD h)) (.ite (!decide (q.1.1 = 0)) (.ret ((q.1.1, ()), putS (broke q.1.1) q.2 h.2.2.1))
    (.chk (pc l) (.ret (((0 : Int), ()), putS (broke q.1.1) q.2 l)))))))
theorem tOn (c : Con) (bg : List (List Int) → Bool) (al : List (List Int) → List Int) (pl : List Int → Bool) (ld : List Int → List Int) (pr : List Int → D → Bool) (rp : List Int → D → R1) (pc : List (List Int) → Bool) (l : List (List Int)) (h : JD) :
    (fnP Try.prog (ctx (cOn pl ld pr rp pc)) (LOn c bg al) (nJ [Gen.ls] [i64] 1) Try.f44 ((), l, ()) h).eval = (TOn c bg al pr rp pc l h).eval := by kernel_rfl

/-! Open -/

noncomputable def bOp : Code := (loopsOfS (bodyOf Try.f42)).getD 0 .skip
abbrev oE (k : Nat) : List ETy := Sto.sE k ++ [.box (jT 0 3 1), .vec 1 bt]
def SOp : RSpec := ⟨[0, 4, 5, 6], 83, [.ptr 0 [], .ptr 2 [], bt, bt], oE 1, Sto.sE 1 ++ [.box (.prod (.ptr 0 []) (.prod .nils (.prod .bool .unit)))], [.fld 2 1 bt], fun x => match x with | .ret => ([2, 3], [.nilp, i64], Sto.sE 1 ++ [.dead, .dead]) | _ => ([0, 4, 5, 6], [.ptr 0 [], .ptr 2 [], bt, bt], oE 1)⟩
def cOp (pl : List Int → Bool) (ld : List Int → List Int) (eq : List Int → List Int → Bool) (pk : List Int → Bool) (pd : D → Bool) (pr : List Int → D → Bool) (rp : List Int → D → R1) : List (Nat × CSpec) :=
  [(88, sLd pl ld), (87, sSl2 eq), (86, .slp1 [bs] (fun x => pk x.1) bt fun x => x.1), (76, .pos (Sto.sS [] [bt]) (fun _ d => pd d) fun xs d => ((Sto.D.b d, ()), d)),
   (89, .pos (Sto.sS [bs] [i64]) (fun xs d => pr xs.2.1 d) fun xs d => rp xs.2.1 d)]
abbrev Hop := HD (oE 1)
def hop (d : D) (br : Bool) (l : List (List Int)) : Hop := (d.1, d.2.1, ((), (), br, ()), l, ())
def exOp (all rest : List Int) (h : Hop) : Ex × St := (.exit 0, encS [0, 4, 5, 6] [.ptr 0 [], .ptr 2 [], bt, bt] (oE 1) 83 ((), (), all, rest, ()) h)
def erOp (h : Hop) : Ex × St := (.ret, encS [2, 3] [.nilp, i64] (Sto.sE 1 ++ [.dead, .dead]) 83 ((), (9 : Int), ()) (h.1, h.2.1, ()))
def mOp (r : List Int) : Int := orI .i64 (shlI .i64 (IntKind.i64.wrap (r.getD 0 0)) 8) (IntKind.i64.wrap (r.getD 1 0))
def recOp (r : List Int) : List Int := (r.take (w (10 + mOp r)).toNat).drop 10
def GOp (pl : List Int → Bool) (ld : List Int → List Int) (eq : List Int → List Int → Bool) (pk : List Int → Bool) (all rest : List Int) (h : Hop) : Tr SOp.End :=
  let e := w (10 + mOp rest)
  let ex : Tr SOp.End := .ret (.inr (exOp all rest h))
  let er : Tr SOp.End := .ret (.inr (erOp h))
  let go : Tr SOp.End := .ret (.inl (((), (), all, (rest.take rest.length).drop e.toNat, ()), (h.1, h.2.1, h.2.2.1, h.2.2.2.1 ++ [recOp rest], ())))
  let in3 : Tr SOp.End := .chk (pk (recOp rest)) (.chk (Vse.room (h.2.2.2.1.length + 1) 24) (.chk (decide (0 ≤ e) && (decide (e ≤ (rest.length : Int)) && decide ((rest.length : Int) ≤ (rest.length : Int)))) go))
  let in2 : Tr SOp.End := .chk (decide (10 ≤ e) && decide (e ≤ (rest.length : Int))) (.chk (pl (recOp rest)) (.chk (decide (0 ≤ e) && decide (e ≤ (rest.length : Int))) (.ite (!eq (ld (recOp rest)) ((rest.take e.toNat).drop 0)) er in3)))
  .ite (decide ((rest.length : Int) ≥ 2)) (.chk (inArr 0 rest.length) (.chk (inArr 1 rest.length) (.ite (decide (mOp rest > 1000)) er (.ite (decide ((rest.length : Int) < e)) ex in2)))) ex
theorem rOp (pl : List Int → Bool) (ld : List Int → List Int) (eq : List Int → List Int → Bool) (pk : List Int → Bool) (pd : D → Bool) (pr : List Int → D → Bool) (rp : List Int → D → R1) (all rest : List Int) (h : Hop) :
    (SOp.round (bodyK Try.prog (ctx (cOp pl ld eq pk pd pr rp)) L0 bOp) ((), (), all, rest, ()) h).eval = (GOp pl ld eq pk all rest h).eval := by kernel_rfl
abbrev Bo := List Int → Bool
abbrev Re := List Int → List (List Int)
abbrev Tl := List Int → List Int
def FOp (c : List Int → Hop → Bool) (bad : Bo) (re : Re) (tl : Tl) (xs : HL SOp.Ts) (hs : HD SOp.Es) : Tr (Ex × St) :=
  .chk (c xs.2.2.2.1 hs) (.ite (bad xs.2.2.2.1) (.ret (erOp hs)) (.ret (exOp xs.2.2.1 (tl xs.2.2.2.1) (hs.1, hs.2.1, hs.2.2.1, re xs.2.2.2.1, ()))))
def LOp (c : List Int → Hop → Bool) (bad : Bo) (re : Re) (tl : Tl) : Loops := fun j st => if j = 6 then SOp.fn (FOp c bad re tl) st else .fail
abbrev nOk : PSpec := ⟨[.ptr 0 []], [.ptr 2 [], i64], Sto.sE 0, oE 1, []⟩
abbrev nEr : PSpec := ⟨[.ptr 0 []], [.nilp, i64], Sto.sE 0, Sto.sE 1, []⟩
abbrev nNl : PSpec := ⟨[.nilp], [.nilp, i64], [], [], []⟩
def cutOp (tl : Tl) (b : List Int) : List Int := (b.take (w ((b.length : Int) - ((tl b).length : Int))).toNat).drop 0
def TOk (c : List Int → Hop → Bool) (bad : Bo) (re : Re) (tl : Tl) (pd : D → Bool) (pr : List Int → D → Bool) (rp : List Int → D → R1) (d : D) : Tr nOk.Out :=
  let b := Sto.D.b d
  let q := rp (cutOp tl b) d
  .chk (pd d) (.chk (c b (hop d false [])) (.ite (bad b) .fail (.ite (decide (((tl b).length : Int) > 0)) (.chk (decide (0 ≤ w ((b.length : Int) - ((tl b).length : Int))) && decide (w ((b.length : Int) - ((tl b).length : Int)) ≤ (b.length : Int))) (.chk (pr (cutOp tl b) d)
    (.ite (!decide (q.1.1 = 0)) .fail (.ret (((), (0 : Int), ()), hop q.2 false (re b)))))) (.ret (((), (0 : Int), ()), hop d false (re b))))))
theorem tOk (pl : List Int → Bool) (ld : List Int → List Int) (eq : List Int → List Int → Bool) (pk : List Int → Bool) (c : List Int → Hop → Bool) (bad : Bo) (re : Re) (tl : Tl) (pd : D → Bool) (pr : List Int → D → Bool) (rp : List Int → D → R1) (d : D) :
    (fnPX Try.prog (runS Try.prog (ctx (cOp pl ld eq pk pd pr rp)) (LOp c bad re tl) (bodyOf Try.f42)) nOk Try.f42 ((), ()) d).eval = (TOk c bad re tl pd pr rp d).eval := by kernel_rfl
def TEr (c : List Int → Hop → Bool) (bad : Bo) (re : Re) (tl : Tl) (pd : D → Bool) (pr : List Int → D → Bool) (rp : List Int → D → R1) (d : D) : Tr nEr.Out :=
  let b := Sto.D.b d
  let q := rp (cutOp tl b) d
  .chk (pd d) (.chk (c b (hop d false [])) (.ite (bad b) (.ret (((), (9 : Int), ()), d)) (.ite (decide (((tl b).length : Int) > 0)) (.chk (decide (0 ≤ w ((b.length : Int) - ((tl b).length : Int))) && decide (w ((b.length : Int) - ((tl b).length : Int)) ≤ (b.length : Int))) (.chk (pr (cutOp tl b) d)
    (.ite (!decide (q.1.1 = 0)) (.ret (((), q.1.1, ()), q.2)) .fail))) .fail)))
theorem tEr (pl : List Int → Bool) (ld : List Int → List Int) (eq : List Int → List Int → Bool) (pk : List Int → Bool) (c : List Int → Hop → Bool) (bad : Bo) (re : Re) (tl : Tl) (pd : D → Bool) (pr : List Int → D → Bool) (rp : List Int → D → R1) (d : D) :
    (fnPX Try.prog (runS Try.prog (ctx (cOp pl ld eq pk pd pr rp)) (LOp c bad re tl) (bodyOf Try.f42)) nEr Try.f42 ((), ()) d).eval = (TEr c bad re tl pd pr rp d).eval := by kernel_rfl
theorem tNl : (fnPX Try.prog (runS Try.prog (ctx []) L0 (bodyOf Try.f42)) nNl Try.f42 ((), ()) ()).eval = (.ret (((), (1 : Int), ()), ()) : Tr nNl.Out).eval := by kernel_rfl
end Go.Proofs.Ytffdkniccaebmaa.Jnl

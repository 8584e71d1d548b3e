/- Sealed bytes (layer 5, seal): what is done with the keys. -/
import Derived.Test.YtlkddajnebjlcaaP0
set_option linter.unusedVariables false
set_option maxRecDepth 100000
namespace Go.Proofs.Ytlkddajnebjlcaa.Seal
open Go Vse Go.Proofs Gen

abbrev w16 : Ty := .arr 16 u8
abbrev d32 : Ty := .arr 32 u8
abbrev Fl := List Int → List Int → List Int → List Int
abbrev Pb := List Int → Bool
abbrev Mq := List Int → List (List Int) → List Int
abbrev Pm := List Int → List (List Int) → Bool

/-! Seal's own function -/

def cS (P : Pb) (F : Fl) (pm : Pm) (M : Mq) : List (Nat × CSpec) := [(24, .slp1 [w16, w16, bs] (fun x => P x.2.2.1) bt fun x => F x.1 x.2.1 x.2.2.1), (29, .slq bs u8 (fun k l => pm k l) d32 fun k l => M k l)]
abbrev nS : PSpec := ⟨[w16, bs, .ptr 0 [], .ptr 1 []], [bt, i64], [.box bs, .box w16], [.dead, .dead], []⟩

abbrev all (n : Nat) (l : List Int) : List Int := (l.drop 0).take n
def TS (P : Pb) (F : Fl) (pm : Pm) (M : Mq) (hide seals plain first : List Int) : Tr nS.Out :=
  let a := all 16 first
  let fl := F hide first plain
  let d := fun l => all 32 (M seals [l])
  .ite (decide ((plain.length : Int) > 1000)) (.ret (([], 7, ()), ()))
    (.chk (P plain) (.ite (decide (fl.length = 0))
      (.chk (pm seals [a]) (.ite (decide ((d a).length = 0)) (.ret ((a, 0, ()), ())) (.chk (Vse.room (a.length + (d a).length) 1) (.ret ((a ++ d a, 0, ()), ())))))
      (.chk (Vse.room (a.length + fl.length) 1) (.chk (pm seals [a ++ fl]) (.chk (Vse.room ((a ++ fl).length + (d (a ++ fl)).length) 1) (.ret ((a ++ fl ++ d (a ++ fl), 0, ()), ())))))))
theorem tS (P : Pb) (F : Fl) (pm : Pm) (M : Mq) (hide seals plain first : List Int) :
    (fnP Try.prog (ctx (cS P F pm M)) L0 nS Try.f48 (hide, seals, (), (), ()) (plain, first, ())).eval = (TS P F pm M hide seals plain first).eval := by kernel_rfl

/-! Open's own function -/

def cO (P : Pb) (F : Fl) (pm : Pm) (M : Mq) (Q : List Int → List Int → Bool) : List (Nat × CSpec) :=
  [(31, .slp1 [bs, bs] (fun _ => true) .bool fun x => Q x.1 x.2.1), (24, .slp1 [w16, w16, bs] (fun x => P x.2.2.1) bt fun x => F x.1 x.2.1 x.2.2.1), (29, .slq bs u8 (fun k l => pm k l) d32 fun k l => M k l)]
abbrev nO : PSpec := ⟨[w16, bs, .ptr 0 []], [bt, i64], [.box bs], [.dead], []⟩

/-- a part of a slice -/
def cut (l : List Int) (lo hi : Int) : List Int := (l.take hi.toNat).drop lo.toNat
def cutOK (l : List Int) (lo hi : Int) : Bool := decide (0 ≤ lo) && (decide (lo ≤ hi) && decide (hi ≤ (l.length : Int)))
def TO (P : Pb) (F : Fl) (pm : Pm) (M : Mq) (Q : List Int → List Int → Bool) (hide seals b : List Int) : Tr nO.Out :=
  let bad := fun n : Int => (.ret (([], n, ()), ()) : Tr nO.Out)
  let front := cut b 0 (w ((b.length : Int) - 32))
  let x := cut front 0 16
  let y := cut front 16 (front.length : Int)
  .ite (decide ((b.length : Int) < 48)) (bad 2) (.ite (decide ((b.length : Int) > 1048)) (bad 7) (.chk (cutOK b 0 (w ((b.length : Int) - 32))) (.chk (cutOK front 0 16) (.chk (cutOK front 16 (front.length : Int))
    (.chk (pm seals [x, y]) (.chk (cutOK b (front.length : Int) (b.length : Int)) (.ite (!Q (all 32 (M seals [x, y])) (cut b (front.length : Int) (b.length : Int))) (bad 6)
      (.chk (cutOK front 0 16) (.chk (decide (16 ≤ x.length)) (.chk (cutOK front 16 (front.length : Int)) (.chk (P y) (.ret ((F hide (x.take 16) y, 0, ()), ())))))))))))))
theorem tO (P : Pb) (F : Fl) (pm : Pm) (M : Mq) (Q : List Int → List Int → Bool) (hide seals b : List Int) :
    (fnP Try.prog (ctx (cO P F pm M Q)) L0 nO Try.f50 (hide, seals, (), ()) (b, ())).eval = (TO P F pm M Q hide seals b).eval := by kernel_rfl

/-! with, of either -/

abbrev kS : Nat := 48
abbrev kO : Nat := 50
abbrev fS : Ty := .fn kS (.prod (.ptr 0 []) (.prod (.ptr 1 []) .unit))
abbrev fO : Ty := .fn kO (.prod (.ptr 0 []) .unit)
abbrev Ef := List Int → ByteArray → Int → List Int × Int × Unit
abbrev Pe := List Int → ByteArray → Bool
abbrev nE : PSpec := ⟨[bs, .str, i64], [bt, i64], [], [], []⟩
abbrev Rs := List Int × Int × Unit
def cWS (E : Ef) (pe : Pe) (S : List Int → List Int → List Int → List Int → Rs) (ps : List Int → List Int → List Int → List Int → Bool) : List (Nat × CSpec) :=
  [(30, .pos nE (fun xs _ => pe xs.1 xs.2.1) fun xs _ => (E xs.1 xs.2.1 xs.2.2.1, ())), (48, .pos nS (fun xs hs => ps xs.1 xs.2.1 hs.1 hs.2.1) fun xs hs => (S xs.1 xs.2.1 hs.1 hs.2.1, ()))]
abbrev nWS : PSpec := ⟨[w16, .str, fS], [bt, i64], [.box bs, .box w16], [.dead, .dead], []⟩
def cWO (E : Ef) (pe : Pe) (O : List Int → List Int → List Int → Rs) (po : List Int → List Int → List Int → Bool) : List (Nat × CSpec) :=
  [(30, .pos nE (fun xs _ => pe xs.1 xs.2.1) fun xs _ => (E xs.1 xs.2.1 xs.2.2.1, ())), (50, .pos nO (fun xs hs => po xs.1 xs.2.1 hs.1) fun xs hs => (O xs.1 xs.2.1 hs.1, ()))]
abbrev nWO : PSpec := ⟨[w16, .str, fO], [bt, i64], [.box bs], [.dead], []⟩

def pur : ByteArray := ⟨#[98, 97, 114, 116, 105, 122, 97, 110, 32]⟩
/-- the keys of a key, for a label; what is done with them -/
def TW {α : Type} (E : Ef) (pe : Pe) (key : List Int) (s : ByteArray) (out : Rs → α) (p : List Int → List Int → Bool) (D : List Int → List Int → Rs) : Tr α :=
  let r := E (all 16 key) (pur ++ s) 48
  let hide := (cut r.1 0 16).take 16
  let seals := cut r.1 16 (r.1.length : Int)
  .ite (s == ByteArray.empty) (.ret (out ([], 1, ()))) (.ite (decide ((s.size : Int) > 40)) (.ret (out ([], 1, ()))) (.chk (decide (9 + s.size ≤ 9223372036854775807)) (.chk (pe (all 16 key) (pur ++ s))
    (.ite (r.2.1 != 0) (.ret (out ([], r.2.1, ()))) (.chk (cutOK r.1 0 16) (.chk (decide (16 ≤ (cut r.1 0 16).length)) (.chk (cutOK r.1 16 (r.1.length : Int)) (.chk (p hide seals) (.ret (out (D hide seals)))))))))))
theorem tWS (E : Ef) (pe : Pe) (S : List Int → List Int → List Int → List Int → Rs) (ps : List Int → List Int → List Int → List Int → Bool) (key : List Int) (s : ByteArray) (plain first : List Int) :
    (fnP Try.prog (ctx (cWS E pe S ps)) L0 nWS Try.f47 (key, s, ((), (), ()), ()) (plain, first, ())).eval = (TW E pe key s (fun r => (r, ())) (fun h k => ps h k plain first) (fun h k => S h k plain first) : Tr nWS.Out).eval := by kernel_rfl
theorem tWO (E : Ef) (pe : Pe) (O : List Int → List Int → List Int → Rs) (po : List Int → List Int → List Int → Bool) (key : List Int) (s : ByteArray) (b : List Int) :
    (fnP Try.prog (ctx (cWO E pe O po)) L0 nWO Try.f47 (key, s, ((), ()), ()) (b, ())).eval = (TW E pe key s (fun r => (r, ())) (fun h k => po h k b) (fun h k => O h k b) : Tr nWO.Out).eval := by kernel_rfl

/-! Seal, Open -/

def cSe (W : List Int → ByteArray → List Int → List Int → Rs) (pw : List Int → ByteArray → List Int → List Int → Bool) : List (Nat × CSpec) := [(47, .pos nWS (fun xs hs => pw xs.1 xs.2.1 hs.1 hs.2.1) fun xs hs => (W xs.1 xs.2.1 hs.1 hs.2.1, ()))]
abbrev nSe : PSpec := ⟨[w16, .str, w16, bs], [bt, i64], [], [], []⟩
theorem tSe (W : List Int → ByteArray → List Int → List Int → Rs) (pw : List Int → ByteArray → List Int → List Int → Bool) (key : List Int) (s : ByteArray) (first plain : List Int) :
    (fnP Try.prog (ctx (cSe W pw)) L0 nSe Try.f36 (key, s, first, plain, ()) ()).eval = (.chk (pw key s plain first) (.ret (W key s plain first, ())) : Tr nSe.Out).eval := by kernel_rfl
def cOp (W : List Int → ByteArray → List Int → Rs) (pw : List Int → ByteArray → List Int → Bool) : List (Nat × CSpec) := [(47, .pos nWO (fun xs hs => pw xs.1 xs.2.1 hs.1) fun xs hs => (W xs.1 xs.2.1 hs.1, ()))]
abbrev nOp : PSpec := ⟨[w16, .str, bs], [bt, i64], [], [], []⟩
theorem tOp (W : List Int → ByteArray → List Int → Rs) (pw : List Int → ByteArray → List Int → Bool) (key : List Int) (s : ByteArray) (b : List Int) :
    (fnP Try.prog (ctx (cOp W pw)) L0 nOp Try.f38 (key, s, b, ()) ()).eval = (.chk (pw key s b) (.ret (W key s b, ())) : Tr nOp.Out).eval := by kernel_rfl

end Go.Proofs.Ytlkddajnebjlcaa.Seal

/- The rows of layer 13 (store): what the laws answer. -/
import Derived.Test.YtodjkocikflmnaaB6
import Derived.Test.YtodjkocikflmnaaE41
set_option linter.unusedVariables false
set_option maxRecDepth 100000
namespace Go.Proofs.Ytodjkocikflmnaa.Sto
open Go Vse Go.Proofs Fld

abbrev yes : Tr AV := .ret (.v .bool true)
abbrev no : Tr AV := .ret (.v .bool false)

/-! StoreDoes -/

def T3 (z : Zo) (c : List Ox → Int → D → D → Bool) (n : Int) (l : List Ox) : Tr AV :=
  .ite (decide (z l > 2000)) yes (.ite (okRoom n) (.chk (okRoom n) (.ite (okRoom n) (.chk (okRoom n) (.chk (c l 0 (mk [] 0 n (-1) false) (mk [] 0 n (-1) false)) yes)) (.chk (!okRoom n) no)))
    (.chk (!okRoom n) (.ite (okRoom n) (.chk (okRoom n) no) (.chk (!okRoom n) yes))))
theorem t3 (z : Zo) (p q : Po) (f g : Fo) (pc : Int → D → Bool) (fc ff : Int → D → R0) (c : List Ox → Int → D → D → Bool) (n : Int) (l : List Ox) :
    nrm (fnK Try.prog (ctx (cL z p q f g pc fc ff)) (L3 c) Try.f3 (mkArgs [i64, lo] (n, l, ())) []) = (T3 z c n l).eval := by kernel_rfl

/-! StoreSure -/

def T4 (z : Zo) (pc : Int → D → Bool) (fc : Int → D → R0) (c : List Ox → Int → D → D → Bool) (e : List Ox → D → D) (n : Int) (l : List Ox) : Tr AV :=
  let d := e l (mk [] 0 1048576 (-1) false)
  let a := (fc n d).2
  .ite (decide (z l > 2000)) yes (.chk (c l 0 (mk [] 0 1048576 (-1) false) (mk [] 0 1048576 (-1) false)) (.chk (Vse.room d.2.1.length 1) (.chk (pc n d) (.chk (Vse.room a.2.1.length 1)
    (.ite (decide ((a.2.1.length : Int) > (d.2.1.length : Int))) no (.ite (decide ((a.2.1.length : Int) < d.1.2.1)) no
      (.chk (decide ((0 : Int) ≤ 0) && (decide ((0 : Int) ≤ (a.2.1.length : Int)) && decide ((a.2.1.length : Int) ≤ (d.2.1.length : Int))))
        (.chk (pc 0 a) (.chk (Vse.room (fc 0 a).2.2.1.length 1) (.ite (sameI a.2.1 ((d.2.1.take (a.2.1.length : Int).toNat).drop (0 : Int).toNat)) (.ret (.v .bool (sameI (fc 0 a).2.2.1 a.2.1))) no)))))))))) 
theorem t4 (z : Zo) (p q : Po) (f g : Fo) (pc : Int → D → Bool) (fc ff : Int → D → R0) (c : List Ox → Int → D → D → Bool) (e : List Ox → D → D) (n : Int) (l : List Ox) :
    nrm (fnK Try.prog (ctx (cL z p q f g pc fc ff)) (L4 c e) Try.f4 (mkArgs [lo, i64] (l, n, ())) []) = (T4 z pc fc c e n l).eval := by kernel_rfl

/-! StoreDown -/

def T5 (z : Zo) (ff : Int → D → R0) (c : List Ox → Int → D → Bool) (e : List Ox → D → D) (c' : List Ox → Int → D → Bool) (e' : List Ox → D → D) (l m : List Ox) : Tr AV :=
  let d := e l (mk [] 0 1048576 (-1) false)
  let a := e' m (ff 0 d).2
  .ite (decide (z l > 2000)) yes (.ite (decide (z m > 2000)) yes (.chk (c l 0 (mk [] 0 1048576 (-1) false)) (.chk (Vse.room d.2.1.length 1) (.chk (c' m 0 (ff 0 d).2) (.chk (Vse.room a.2.1.length 1)
    (.ret (.v .bool (sameI a.2.1 d.2.1))))))))
theorem t5 (z : Zo) (p q : Po) (f g : Fo) (pc : Int → D → Bool) (fc ff : Int → D → R0) (c : List Ox → Int → D → Bool) (e : List Ox → D → D) (c' : List Ox → Int → D → Bool) (e' : List Ox → D → D) (l m : List Ox) :
    nrm (fnK Try.prog (ctx (cL z p q f g pc fc ff)) (L5 c e c' e') Try.f5 (mkArgs [lo, lo] (l, m, ())) []) = (T5 z ff c e c' e' l m).eval := by kernel_rfl

end Go.Proofs.Ytodjkocikflmnaa.Sto

/- The rows of layer 13 (store): what a round does, and all rounds. -/
import Derived.Test.YtodjkocikflmnaaB4
set_option linter.unusedVariables false
set_option maxRecDepth 100000
namespace Go.Proofs.Ytodjkocikflmnaa.Sto
open Go Vse Go.Proofs Fld

abbrev lo : Ty := .imm true false opT
abbrev Fo := Ox → D → R1
abbrev Po := Ox → D → Bool
abbrev Zo := List Ox → Int
/-- all that the laws call: what is asked, and what is done -/
def cL (z : Zo) (p q : Po) (f g : Fo) (pc : Int → D → Bool) (fc ff : Int → D → R0) : List (Nat × CSpec) :=
  [(13, s13), (14, .sl1 [ob] i64 fun x => z x.1), (15, newS), (16, newS), (17, .pos (sS [opT] [i64]) (fun xs d => p xs.2.1 d) fun xs d => f xs.2.1 d), (18, .pos (sS [opT] [i64]) (fun xs d => q xs.2.1 d) fun xs d => g xs.2.1 d), (19, s19), (20, s20),
   (21, .pos (sS [i64] []) (fun xs d => pc xs.2.1 d) fun xs d => fc xs.2.1 d), (22, .pos (sS [i64] []) (fun _ _ => true) fun xs d => ff xs.2.1 d)]
def szF (l : List Ox) : Int := szL l 0
theorem cL_sound : CtxSound Try.prog (ctx (cL szF stoP toldP stoF toldF crashP crashF fuseF)) ∧ CtxLocal (ctx (cL szF stoP toldP stoF toldF crashP crashF fuseF)) :=
  ctx_sound ⟨ok13, ok14, ok15, ok16, ok17, ok18, ok19, ok20, ok21, ok22, trivial⟩

/-! StoreDoes -/

abbrev dd4 : List ETy := [.dead, .dead, .dead, .dead]
def S3 : RSpec := ⟨[1, 5, 6, 8, 10], 75, [lo, .bool, .ptr 0 [], .ptr 2 [], i64], [.box (stT 1 1), .vec 1 u8, .box (stT 3 1), .vec 1 u8], [.box .unit, .vec 0 u8, .box .unit, .vec 0 u8], [],
  fun x => match x with | .ret => ([4], [.bool], dd4) | _ => ([5], [.bool], dd4)⟩
noncomputable def b3 : Code := loopAt Try.f3 0
def G3 (p q : Po) (f g : Fo) (l : List Ox) (up : Bool) (i : Int) (d e : D) : Tr S3.End :=
  let x := l.getD i.toNat x0
  let no : Tr S3.End := .ret (.inr (.ret, encS [4] [.bool] dd4 75 (false, ()) ()))
  .ite (decide (i < (l.length : Int))) (.chk (inArr i l.length) (.chk (p x d) (.chk (inArr i l.length) (.chk (q x e) (.chk (Vse.room (f x d).2.2.1.length 1)
    (.ite ((f x d).1.1 != (g x e).1.1) no (.ite (!(sameI (f x d).2.2.1 (g x e).2.2.1)) no
      (.ret (.inl ((l, up, (), (), w (i + 1), ()), ((f x d).2.1, (f x d).2.2.1, (g x e).2.1, (g x e).2.2.1, ()))))))))))) 
    (.ret (.inr (.exit 0, encS [5] [.bool] dd4 75 (up, ()) ())))
theorem r3 (z : Zo) (p q : Po) (f g : Fo) (pc : Int → D → Bool) (fc ff : Int → D → R0) (l : List Ox) (up : Bool) (i : Int) (d e : D) :
    (S3.round (bodyK Try.prog (ctx (cL z p q f g pc fc ff)) L0 b3) (l, up, (), (), i, ()) (d.1, d.2.1, e.1, e.2.1, ())).eval = (G3 p q f g l up i d e).eval := by kernel_rfl

/-! StoreSure -/

abbrev e4 (k : Nat) : List ETy := [.box (stT 1 k), .vec k u8, .box (stT 3 k), .vec k u8]
def S4 : RSpec := ⟨[0, 1, 5, 6, 8, 10], 88, [lo, i64, .bool, .ptr 0 [], .ptr 2 [], i64], e4 1, e4 0, [], fun _ => ([1, 5, 6, 8], [i64, .bool, .ptr 0 [], .ptr 2 []], e4 1)⟩
noncomputable def b4 : Code := loopAt Try.f4 0
def G4 (p q : Po) (f g : Fo) (l : List Ox) (n : Int) (up : Bool) (i : Int) (d e : D) : Tr S4.End :=
  let x := l.getD i.toNat x0
  .ite (decide (i < (l.length : Int))) (.chk (inArr i l.length) (.chk (p x d) (.chk (inArr i l.length) (.chk (q x e)
      (.ret (.inl ((l, n, up, (), (), w (i + 1), ()), ((f x d).2.1, (f x d).2.2.1, (g x e).2.1, (g x e).2.2.1, ()))))))))
    (.ret (.inr (.exit 0, encS [1, 5, 6, 8] [i64, .bool, .ptr 0 [], .ptr 2 []] (e4 1) 88 (n, up, (), (), ()) (d.1, d.2.1, e.1, e.2.1, ()))))
theorem r4 (z : Zo) (p q : Po) (f g : Fo) (pc : Int → D → Bool) (fc ff : Int → D → R0) (l : List Ox) (n : Int) (up : Bool) (i : Int) (d e : D) :
    (S4.round (bodyK Try.prog (ctx (cL z p q f g pc fc ff)) L0 b4) (l, n, up, (), (), i, ()) (d.1, d.2.1, e.1, e.2.1, ())).eval = (G4 p q f g l n up i d e).eval := by kernel_rfl

/-! StoreDown -/

def S5 : RSpec := ⟨[0, 1, 5, 6, 8], 79, [lo, lo, .bool, .ptr 0 [], i64], sE 1, sE 0, [], fun _ => ([1, 5, 6], [lo, .bool, .ptr 0 []], sE 1)⟩
noncomputable def b5 : Code := loopAt Try.f5 0
def G5 (p : Po) (f : Fo) (l m : List Ox) (up : Bool) (i : Int) (d : D) : Tr S5.End :=
  let x := l.getD i.toNat x0
  .ite (decide (i < (l.length : Int))) (.chk (inArr i l.length) (.chk (p x d) (.ret (.inl ((l, m, up, (), w (i + 1), ()), ((f x d).2.1, (f x d).2.2.1, ()))))))
    (.ret (.inr (.exit 0, encS [1, 5, 6] [lo, .bool, .ptr 0 []] (sE 1) 79 (m, up, (), ()) (d.1, d.2.1, ()))))
theorem r5 (z : Zo) (p q : Po) (f g : Fo) (pc : Int → D → Bool) (fc ff : Int → D → R0) (l m : List Ox) (up : Bool) (i : Int) (d : D) :
    (S5.round (bodyK Try.prog (ctx (cL z p q f g pc fc ff)) L0 b5) (l, m, up, (), i, ()) (d.1, d.2.1, ())).eval = (G5 p f l m up i d).eval := by kernel_rfl

def S6 : RSpec := ⟨[1, 5, 6, 9, 10], 79, [lo, .bool, .ptr 0 [], bt, i64], sE 4, sE 3, [], fun x => match x with | .ret => ([4], [.bool], [.dead, .dead]) | _ => ([5, 6, 9], [.bool, .ptr 0 [], bt], sE 4)⟩
noncomputable def b6 : Code := loopAt Try.f5 1
def G6 (p : Po) (f : Fo) (m : List Ox) (up : Bool) (was : List Int) (i : Int) (d : D) : Tr S6.End :=
  let x := m.getD i.toNat x0
  let no : Tr S6.End := .ret (.inr (.ret, encS [4] [.bool] [.dead, .dead] 79 (false, ()) ()))
  let on : Tr S6.End := .ret (.inl ((m, up, (), was, w (i + 1), ()), (d.1, d.2.1, ())))
  .ite (decide (i < (m.length : Int))) (.chk (inArr i m.length) (.ite (decide (x.1 < 0)) on (.chk (inArr i m.length) (.ite (decide (x.1 > 2)) on
      (.chk (inArr i m.length) (.chk (p x d) (.ite ((f x d).1.1 != 8) no (.ret (.inl ((m, up, (), was, w (i + 1), ()), ((f x d).2.1, (f x d).2.2.1, ()))))))))))) 
    (.ret (.inr (.exit 2, encS [5, 6, 9] [.bool, .ptr 0 [], bt] (sE 4) 79 (up, (), was, ()) (d.1, d.2.1, ()))))
theorem r6 (z : Zo) (p q : Po) (f g : Fo) (pc : Int → D → Bool) (fc ff : Int → D → R0) (m : List Ox) (up : Bool) (was : List Int) (i : Int) (d : D) :
    (S6.round (bodyK Try.prog (ctx (cL z p q f g pc fc ff)) L0 b6) (m, up, (), was, i, ()) (d.1, d.2.1, ())).eval = (G6 p f m up was i d).eval := by kernel_rfl

end Go.Proofs.Ytodjkocikflmnaa.Sto

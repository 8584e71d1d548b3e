/- Records that are kept (layer 14, journal): JournalSure: walk. -/
import Derived.Test.YtffdkniccaebmaaJ8
set_option linter.unusedVariables false
set_option linter.unusedSimpArgs false
set_option maxRecDepth 100000
namespace Go.Proofs.Ytffdkniccaebmaa.Jnl
open Go Vse Go.Proofs Gen
open Sto (stT D R1 R0 rdyF appF syncF repF appP Ox)
open Fld (lenN or_bytes Bytes bytes_get bytes_drop)

abbrev LL := List (List Int)
def sOpV (p : D → Bool) (f : D → Hop) : CSpec := .pos nOk (fun _ d => p d) fun _ d => (((), 0, ()), f d)
def cJu (up : Bool) (z : List Ox → Int) (pa : List Int → JD → Bool) (ad : List Int → JD → RJ) (po : LL → Bool) (on : LL → JD → RJ) (pc : Int → D → Bool) (cr : Int → D → R0) (fu : Int → D → R0) (p : D → Bool) (f : D → Hop) (pr : LL → Bool) (sm : LL → LL → Bool) : List (Nat × CSpec) :=
  [(39, sUp up), (40, sSz z), (41, Sto.newS), (42, sOpV p f), (45, .pos (nJ [bs] [i64] 1) (fun xs h => pa xs.2.1 h) fun xs h => ad xs.2.1 h),
   (44, .pos (nJ [Gen.ls] [i64] 1) (fun xs _ => po xs.2.1) fun xs h => on xs.2.1 h), (43, .pos (Sto.sS [i64] []) (fun _ _ => true) fun xs d => fu xs.2.1 d),
   (46, .pos (Sto.sS [i64] []) (fun xs d => pc xs.2.1 d) fun xs d => cr xs.2.1 d), (48, .pos nRc (fun _ h => pr h.2.2.1) fun _ h => (((), ()), (h.1, h.2.1, h.2.2.1, h.2.2.2.1, h.2.2.1, ()))), (47, sSm sm)]
abbrev lo : Ty := .imm true false Sto.opT
abbrev n2 : Ty := .arr 2 i64
noncomputable def bJu : Code := loopAt Try.f9 0
abbrev uE (k j : Nat) : List ETy := [.box n2, .box (stT 2 k), .vec k u8, .box (jT 1 4 j), .vec j bt]
abbrev uX : List ETy := [.box n2, .box (stT 2 3), .vec 3 u8, .dead, .dead]
def SJu : RSpec := ⟨[0, 3, 5, 6, 8, 10, 11, 12, 13], 144, [lo, .ptr 0 [], .bool, .ptr 1 [], .ptr 3 [], lt, lt, .bool, i64], uE 3 2, uE 2 1, [], fun _ => ([3, 5, 6, 10, 11], [.ptr 0 [], .bool, .ptr 1 [], lt, lt], uX)⟩
def putU (n : List Int) (h : JD) : HD (uE 3 2) := (n, h.2.1, h.2.2.2.1, h.1, h.2.2.1, ())
def exJ (up : Bool) (su wy : LL) (n : List Int) (d : D) : Ex × St := (.exit 0, encS [3, 5, 6, 10, 11] [.ptr 0 [], .bool, .ptr 1 [], lt, lt] uX 144 ((), up, (), su, wy, ()) (n, d.1, d.2.1, ()))
def nxJ (l : List Ox) (up : Bool) (n : List Int) (i : Int) (su wy : LL) (q : RJ) : Tr SJu.End := .ret (.inl ((l, (), up, (), (), su, wy, (q.1.1 == 8), w (i + 1), ()), putU n q.2))
def tlJ (l : List Ox) (up : Bool) (n : List Int) (i : Int) (su wy : LL) (q : RJ) : Tr SJu.End :=
  .ite (q.1.1 == 0) (.ite (q.1.1 == 7) (nxJ l up n i wy wy q) (nxJ l up n i wy wy q)) (.ite (q.1.1 == 7) (nxJ l up n i su su q) (nxJ l up n i su wy q))
def GJu (pa : List Int → JD → Bool) (ad : List Int → JD → RJ) (po : LL → Bool) (on : LL → JD → RJ) (l : List Ox) (up : Bool) (n : List Int) (h : JD) (su wy : LL) (dn : Bool) (i : Int) : Tr SJu.End :=
  let b : List Int := (l.getD i.toNat Sto.x0).2.2.1
  let out : Tr SJu.End := .ret (.inr (exJ up su wy n (stD h)))
  .ite (decide (i < (l.length : Int))) (.ite (!dn) (.chk (inArr i l.length) (.ite ((l.getD i.toNat Sto.x0).1 == 1) (.chk (po [b, b]) (tlJ l up n i su [b, b] (on [b, b] h)))
    (.chk (Vse.room (([] : LL).length + su.length) 24) (.chk (Vse.room ((([] : LL) ++ su).length + 1) 24) (.chk (pa b h) (tlJ l up n i su (([] : LL) ++ su ++ [b]) (ad b h))))))) out) out
theorem rJu (up0 : Bool) (z : List Ox → Int) (pa : List Int → JD → Bool) (ad : List Int → JD → RJ) (po : LL → Bool) (on : LL → JD → RJ) (pc : Int → D → Bool) (cr : Int → D → R0) (fu : Int → D → R0) (p : D → Bool) (f : D → Hop) (pr : LL → Bool) (sm : LL → LL → Bool) (l : List Ox) (up : Bool) (n : List Int) (h : JD) (su wy : LL) (dn : Bool) (i : Int) :
    (SJu.round (bodyK Try.prog (ctx (cJu up0 z pa ad po on pc cr fu p f pr sm)) L0 bJu) (l, (), up, (), (), su, wy, dn, i, ()) (putU n h)).eval = (GJu pa ad po on l up n h su wy dn i).eval := by kernel_rfl
abbrev Cju := List Ox → LL → LL → Bool → Int → JD → Bool
def FJu (c : Cju) (rd : List Ox → JD → D) (rs rw : List Ox → JD → LL) (xs : HL SJu.Ts) (hs : HD SJu.Es) : Tr (Ex × St) :=
  let h : JD := (hs.2.2.2.1, hs.2.1, hs.2.2.2.2.1, hs.2.2.1, ())
  .chk (c xs.1 xs.2.2.2.2.2.1 xs.2.2.2.2.2.2.1 xs.2.2.2.2.2.2.2.1 xs.2.2.2.2.2.2.2.2.1 h) (.ret (exJ xs.2.2.1 (rs xs.1 h) (rw xs.1 h) hs.1 (rd xs.1 h)))
def LJu (c : Cju) (rd : List Ox → JD → D) (rs rw : List Ox → JD → LL) : Loops := fun j st => if j = 13 then SJu.fn (FJu c rd rs rw) st else .fail
def dOf (h : Hop) : D := (h.1, h.2.1, ())
def TJu (up0 : Bool) (z : List Ox → Int) (pc : Int → D → Bool) (cr : Int → D → R0) (fu : Int → D → R0) (p : D → Bool) (f : D → Hop) (pr : LL → Bool) (sm : LL → LL → Bool) (c : Cju) (rd : List Ox → JD → D) (rs rw : List Ox → JD → LL) (l : List Ox) (n : List Int) : Tr AV :=
  let F0 : Hop := f (Sto.newF 1048576).2
  let d1 : D := (fu (n.getD 0 0) (dOf F0)).2
  let H0 : JD := (F0.2.2.1, d1.1, F0.2.2.2.1, d1.2.1, ())
  let F3 : Hop := f (cr (n.getD 1 0) (rd l H0)).2
  let F4 : Hop := f (dOf F3)
  let same := sm F4.2.2.2.1 F3.2.2.2.1
  .ite (decide (z l > 2000)) (.ret (.v .bool up0)) (.chk (p (Sto.newF 1048576).2) (.chk (c l [] [] false 0 H0) (.chk (pc (n.getD 1 0) (rd l H0)) (.chk (p (cr (n.getD 1 0) (rd l H0)).2)
    (.chk (pr F3.2.2.2.1) (.chk (pr F3.2.2.2.1) (.chk (p (dOf F3)) (.chk (pr F4.2.2.2.1) (.chk (pr F3.2.2.2.1) (.ite up0 (.ite (sm F3.2.2.2.1 (rs l H0)) (.ret (.v .bool same)) (.ite (sm F3.2.2.2.1 (rw l H0)) (.ret (.v .bool same)) (.ret (.v .bool false)))) (.ret (.v .bool false))))))))))))
theorem tJu (up0 : Bool) (z : List Ox → Int) (pa : List Int → JD → Bool) (ad : List Int → JD → RJ) (po : LL → Bool) (on : LL → JD → RJ) (pc : Int → D → Bool) (cr : Int → D → R0) (fu : Int → D → R0) (p : D → Bool) (f : D → Hop) (pr : LL → Bool) (sm : LL → LL → Bool) (c : Cju) (rd : List Ox → JD → D) (rs rw : List Ox → JD → LL) (l : List Ox) (n : List Int) :
    nrm (fnK Try.prog (ctx (cJu up0 z pa ad po on pc cr fu p f pr sm)) (LJu c rd rs rw) Try.f9 (mkArgs [lo, n2] (l, n, ())) []) = (TJu up0 z pc cr fu p f pr sm c rd rs rw l n).eval := by kernel_rfl
end Go.Proofs.Ytffdkniccaebmaa.Jnl

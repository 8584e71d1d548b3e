/- What a store's functions make of what stands in it (layer 13): the code, on entries. -/
import Derived.Test.YtffdkniccaebmaaB1
set_option linter.unusedVariables false
set_option maxRecDepth 100000
namespace Go.Proofs.Ytffdkniccaebmaa.Sto
open Go Vse Go.Proofs Fld

theorem noL {L : Loops} {fn : Func} (h : loopsOf (bodyOf fn) = []) : ∀ b ∈ loopsOf (bodyOf fn), LoopOK Try.prog L b := by rw [h]; intro b hb; cases hb

abbrev sE (k : Nat) : List ETy := [.box (stT 1 k), .vec k u8]
abbrev sS (As Rs : List Ty) : PSpec := ⟨.ptr 0 [] :: As, Rs, sE 0, sE 1, []⟩

/-! the store's -/

def c63 (e : Int → D → R1) : List (Nat × CSpec) := [(113, .pos (sS [i64] [i64]) (fun _ _ => true) fun xs d => e xs.2.1 d)]
theorem k63 (m : Int) (d : D) : (fnP Try.prog (ctx []) L0 (sS [i64] [i64]) Try.f113 ((), m, ()) d).eval = (rdyG m d).eval := by kernel_rfl
theorem c63_sound : CtxSound Try.prog (ctx (c63 rdyF)) ∧ CtxLocal (ctx (c63 rdyF)) := ctx_sound ⟨pos_sound nil_sound Try.func113 (by kernel_rfl) (noL (by kernel_rfl)) fun xs hs _ _ _ => (k63 xs.2.1 hs).trans (rdy_eq xs.2.1 hs), trivial⟩
theorem k48 (e : Int → D → R1) (x : List Int) (d : D) : (fnP Try.prog (ctx (c63 e)) L0 (sS [bs] [i64]) Try.f92 ((), x, ()) d).eval = (appG e x d).eval := by kernel_rfl
theorem k49 (e : Int → D → R1) (d : D) : (fnP Try.prog (ctx (c63 e)) L0 (sS [] [i64]) Try.f93 ((), ()) d).eval = (syncG e d).eval := by kernel_rfl
theorem k51 (e : Int → D → R1) (x : List Int) (d : D) : (fnP Try.prog (ctx (c63 e)) L0 (sS [bs] [i64]) Try.f89 ((), x, ()) d).eval = (repG e x d).eval := by kernel_rfl
theorem k22 (n : Int) (d : D) : (fnP Try.prog (ctx []) L0 (sS [i64] []) Try.f43 ((), n, ()) d).eval = some (fuseF n d) := by kernel_rfl
theorem k21 (n : Int) (d : D) : (fnP Try.prog (ctx []) L0 (sS [i64] []) Try.f46 ((), n, ()) d).eval = (Tr.chk (crashP n d) (.ret (crashF n d))).eval := by kernel_rfl
/-- the bytes, told -/
theorem k20 (d : D) : (fnP Try.prog (ctx []) L0 (sS [] [bt]) Try.f76 ((), ()) d).eval = (Tr.chk (decide ((d.2.1.length : Int) = d.2.1.length) && (decide (0 ≤ (d.2.1.length : Int)) && room (d.2.1.length : Int).toNat 1)) (.ret ((overL (List.replicate (d.2.1.length : Int).toNat 0) d.2.1, ()), d))).eval := by kernel_rfl

/-- an operation on a store; on the document's -/
def stoF (x : Ox) (d : D) : R1 := doF (appF rdyF) (syncF rdyF) (repF rdyF) fuseF crashF turnF x d
def stoP (x : Ox) (d : D) : Bool := doP (appP rdyF) (fun x _ => room x.length 1) crashP (fun _ => true) x d
def toldF (x : Ox) (d : D) : R1 := doF (rappF powF) (rsyncF powF) (rrepF powF) fuseF rcrashF rturnF x d
def toldP (x : Ox) (d : D) : Bool := doP (rappP powF) (fun x _ => room x.length 1) rcrashP rturnP x d

def s48 : CSpec := .pos (sS [bs] [i64]) (fun xs d => appP rdyF xs.2.1 d) fun xs d => appF rdyF xs.2.1 d
def s49 : CSpec := .pos (sS [] [i64]) (fun _ _ => true) fun xs d => syncF rdyF d
def s51 : CSpec := .pos (sS [bs] [i64]) (fun xs _ => room (List.length (α := Int) xs.2.1) 1) fun xs d => repF rdyF xs.2.1 d
def s22 : CSpec := .pos (sS [i64] []) (fun _ _ => true) fun xs d => fuseF xs.2.1 d
def s21 : CSpec := .pos (sS [i64] []) (fun xs d => crashP xs.2.1 d) fun xs d => crashF xs.2.1 d
def s50 : CSpec := .pos (sS [i64, u8] [i64]) (fun _ _ => true) fun xs d => turnF xs.2.1 xs.2.2.1 d
def s20 : CSpec := .pos (sS [] [bt]) (fun _ d => room (D.b d).length 1) fun xs d => ((D.b d, ()), d)

theorem ok48 : CSound Try.prog 92 s48 ∧ CLocal s48 := pos_sound c63_sound Try.func92 (by kernel_rfl) (noL (by kernel_rfl)) fun xs hs _ _ hp => (k48 rdyF xs.2.1 hs).trans (app_eq rdyF xs.2.1 hs hp)
theorem ok49 : CSound Try.prog 93 s49 ∧ CLocal s49 := pos_sound c63_sound Try.func93 (by kernel_rfl) (noL (by kernel_rfl)) fun xs hs _ _ hp => (k49 rdyF hs).trans (sync_eq rdyF hs)
theorem ok51 : CSound Try.prog 89 s51 ∧ CLocal s51 := pos_sound c63_sound Try.func89 (by kernel_rfl) (noL (by kernel_rfl)) fun xs hs _ _ hp => (k51 rdyF xs.2.1 hs).trans (rep_eq rdyF xs.2.1 hs hp)
theorem ok22 : CSound Try.prog 43 s22 ∧ CLocal s22 := pos_sound nil_sound Try.func43 (by kernel_rfl) (noL (by kernel_rfl)) fun xs hs _ _ hp => k22 xs.2.1 hs
theorem ok21 : CSound Try.prog 46 s21 ∧ CLocal s21 := pos_sound nil_sound Try.func46 (by kernel_rfl) (noL (by kernel_rfl)) fun xs hs _ _ hp => (k21 xs.2.1 hs).trans (by rw [show crashP xs.2.1 hs = true from hp]; rfl)
theorem ok20 : CSound Try.prog 76 s20 ∧ CLocal s20 := pos_sound nil_sound Try.func76 (by kernel_rfl) (noL (by kernel_rfl)) fun xs hs _ _ hp => (k20 hs).trans (by
  have hp : room (List.length (α := Int) hs.2.1) 1 = true := hp
  have h1 : (decide ((List.length (α := Int) hs.2.1 : Int) = List.length (α := Int) hs.2.1) && (decide (0 ≤ (List.length (α := Int) hs.2.1 : Int)) && room (List.length (α := Int) hs.2.1 : Int).toNat 1)) = true := by simp [hp]
  rw [h1, over_zero]
  rfl)

abbrev cDo (pa pr : List Int → D → Bool) (pc : Int → D → Bool) (pt : D → Bool) (a : List Int → D → R1) (s : D → R1) (r : List Int → D → R1) (f c : Int → D → R0) (t : Int → Int → D → R1) (ks : List Nat) : List (Nat × CSpec) :=
  [(ks.getD 0 0, .pos (sS [bs] [i64]) (fun xs d => pa xs.2.1 d) fun xs d => a xs.2.1 d), (ks.getD 1 0, .pos (sS [] [i64]) (fun _ _ => true) fun _ d => s d), (ks.getD 2 0, .pos (sS [bs] [i64]) (fun xs d => pr xs.2.1 d) fun xs d => r xs.2.1 d),
   (ks.getD 3 0, .pos (sS [i64] []) (fun _ _ => true) fun xs d => f xs.2.1 d), (ks.getD 4 0, .pos (sS [i64] []) (fun xs d => pc xs.2.1 d) fun xs d => c xs.2.1 d), (ks.getD 5 0, .pos (sS [i64, u8] [i64]) (fun _ d => pt d) fun xs d => t xs.2.1 xs.2.2.1 d)]
def s17 : CSpec := .pos (sS [opT] [i64]) (fun xs d => stoP xs.2.1 d) fun xs d => stoF xs.2.1 d
/-! the document's -/

def c64 (e : Pw) : List (Nat × CSpec) := [(128, .pos (sS [] [.bool]) (fun _ _ => true) fun _ d => e d)]
theorem k64 (d : D) : (fnP Try.prog (ctx []) L0 (sS [] [.bool]) Try.f128 ((), ()) d).eval = (powG d).eval := by kernel_rfl
theorem c64_sound : CtxSound Try.prog (ctx (c64 powF)) ∧ CtxLocal (ctx (c64 powF)) := ctx_sound ⟨pos_sound nil_sound Try.func128 (by kernel_rfl) (noL (by kernel_rfl)) fun xs hs _ _ _ => (k64 hs).trans (pow_eq hs), trivial⟩
theorem k52 (e : Pw) (x : List Int) (d : D) : (fnP Try.prog (ctx (c64 e)) L0 (sS [bs] [i64]) Try.f121 ((), x, ()) d).eval = (rappG e x d).eval := by kernel_rfl
theorem k53 (e : Pw) (d : D) : (fnP Try.prog (ctx (c64 e)) L0 (sS [] [i64]) Try.f123 ((), ()) d).eval = (rsyncG e d).eval := by kernel_rfl
theorem k54 (e : Pw) (x : List Int) (d : D) : (fnP Try.prog (ctx (c64 e)) L0 (sS [bs] [i64]) Try.f120 ((), x, ()) d).eval = (rrepG e x d).eval := by kernel_rfl
theorem k55 (n : Int) (d : D) : (fnP Try.prog (ctx []) L0 (sS [i64] []) Try.f70 ((), n, ()) d).eval = some (fuseF n d) := by kernel_rfl
theorem k56 (n : Int) (d : D) : (fnP Try.prog (ctx []) L0 (sS [i64] []) Try.f71 ((), n, ()) d).eval = (rcrashG n d).eval := by kernel_rfl
theorem ok52 : CSound Try.prog 121 (.pos (sS [bs] [i64]) (fun xs d => rappP powF xs.2.1 d) fun xs d => rappF powF xs.2.1 d) ∧ CLocal (.pos (sS [bs] [i64]) (fun xs d => rappP powF xs.2.1 d) fun xs d => rappF powF xs.2.1 d) := pos_sound c64_sound Try.func121 (by kernel_rfl) (noL (by kernel_rfl)) fun xs hs _ _ hp => (k52 powF xs.2.1 hs).trans (rapp_eq powF xs.2.1 hs hp)
def s18 : CSpec := .pos (sS [opT] [i64]) (fun xs d => toldP xs.2.1 d) fun xs d => toldF xs.2.1 d
end Go.Proofs.Ytffdkniccaebmaa.Sto

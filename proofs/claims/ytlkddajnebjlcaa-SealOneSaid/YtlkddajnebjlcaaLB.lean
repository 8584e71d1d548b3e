import Derived.Test.YtlkddajnebjlcaaLA
import Derived.Test.YtlkddajnebjlcaaM6
import Derived.Test.YtlkddajnebjlcaaAB
import Derived.Test.YtlkddajnebjlcaaAC

section
/- Counters (layer 4, ctr): one byte is yielded. -/
set_option linter.unusedVariables false
set_option maxRecDepth 100000
namespace Go.Proofs.Ytlkddajnebjlcaa.Ctr
open Go Vse Go.Proofs Gen

/-- what holds of the loop as it begins -/
structure Start (g0 : G) (o : Loop) : Prop where
  ds : g0.ext.2 = []
  h0 : ∀ t, isY (g0.sh t) SL.E0[t]?
  b4 : ∃ s, g0.sh 4 = .box s
  b5 : ∃ s, g0.sh 5 = .box s
  ps : o.params = #[15]
  asg : o.assign = asgF
  bdy : o.body = bdyF
  tm : o.tmps.size = 32
  h5 : VRep g0 (.v (.ptr 2 []) ()) (o.tmps.getD 5 undef)
  h7 : VRep g0 (.v (.ptr 3 []) ()) (o.tmps.getD 7 undef)

theorem yieldR {g0 g : G} {k a b k' a' out : List Int} {w : World} {l r : Nat} {o : Loop} {e : List Int} {j x : Int} {act : Act} {Q : Exit → Act → World → Prop}
    (hS : Start g0 o) (hg : Going g0 g (hL k a b k' a' out) w l r o) (ho : o.state = .ready) (he : EnvRep g (e3 l e j x) act) (hd : act.defers = []) (hin : out.length < b.length) (hsm : b.length ≤ 1000000)
    (hmore : (out ++ [flipB x b out]).length ≠ b.length → ∀ g4 act' w', Going g0 g4 (hL k a b k' a' (out ++ [flipB x b out])) w' l r { o with state := .ready, pending := none } → EnvRep g4 (e7 l e j false) act' → act'.defers = [] → Q .normal act' w')
    (hlast : (out ++ [flipB x b out]).length = b.length → ∀ g4 act' w', Going g0 g4 (hL k a b k' a' (out ++ [flipB x b out])) w' l r { o with state := .done, pending := some (.exit 0) } → EnvRep g4 (e7 l e j true) act' → act'.defers = [] → Q .normal act' w') :
    R3.wpIn (FW none) 0 Try.prog Q act w := by
  refine yield_call hg hS.ps he hd fun g2 a2 w2 hg2 he2 hd2 => ?_
  rw [hS.asg, hS.bdy]
  have hx : inK .u8 x = true := by
    have := (VRep_v (T := u8) (x := x) (by simp)).1 (he2.2 13)
    simp only [TRep, Ty.agg, Ty.sk, Sk.agg, Bool.false_eq_true, if_false, Rep, List.cons.injEq, and_true] at this
    exact this.2
  have hc := leD_c hg2.le
  refine yield_round hg2 hS.ds ho hS.h0 (eW_rep hS.tm (VRep_monoC hc hS.h5) (VRep_monoC hc hS.h7) hx) hin hsm (fun hne g3 w' hg3 => ?_) (fun heq g3 w' hg3 => ?_)
  · exact yield_back (t := true) hg2 hg3 hS.b4 hS.b5 he2 hd2 (hmore hne)
  · exact yield_back (t := false) hg2 hg3 hS.b4 hS.b5 he2 hd2 (hlast heq)

end Go.Proofs.Ytlkddajnebjlcaa.Ctr

end
section
/- Counters (layer 4, ctr): the iterator's pieces, while the loop goes on. -/
set_option linter.unusedVariables false
set_option maxRecDepth 100000
namespace Go.Proofs.Ytlkddajnebjlcaa.Ctr
open Go Vse Go.Proofs Gen

theorem pc_piece {E : En} {N : Nx} (hC : CtxSound Try.prog (CI E N) ∧ CtxLocal (CI E N)) {c : Code} (hl : LoopsOK Try.prog L0 c) {live : List Nat} {env env' : List AV} {H H' : Heap} {x : Ex} (hp : (pc E N c live env H).eval = some (x, env', H'))
    {g0 g : G} {w : World} {l r : Nat} {o : Loop} {a : Act} {Q : Exit → Act → World → Prop} (hg : Going g0 g H w l r o) (he : EnvRep g env a) (hd : a.defers = [])
    (hn : ∀ g' a' w', Going g0 g' H' w' l r o → EnvRep g' env' a' → a'.defers = [] → Q x.out a' w') : c.wpIn (FW none) 0 Try.prog Q a w := by
  obtain ⟨⟨y, st⟩, q1, q2⟩ := Tr.bind_some hp
  have q2 := Tr.ret_some q2
  simp only [Prod.mk.injEq] at q2
  obtain ⟨rfl, q3, rfl⟩ := q2
  refine Going.piece hC hl hg he hd q1 fun g' a' w' hg' hD he' hd' => hn g' a' w' hg' ?_ hd'
  rw [← q3]
  exact keepE_rep he' live

end Go.Proofs.Ytlkddajnebjlcaa.Ctr

end
section
/- Counters (layer 4, ctr): the inner loop: the bytes of a block are yielded. -/
set_option linter.unusedVariables false
set_option maxRecDepth 100000
namespace Go.Proofs.Ytlkddajnebjlcaa.Ctr
open Go Vse Go.Proofs Gen

/-- the bytes behind so many of a block's -/
def outs (e b out : List Int) : Nat → List Int
  | 0 => out
  | n + 1 => outs e b out n ++ [flipB (e.getD n 0) b (outs e b out n)]
theorem outs_len (e b out : List Int) : ∀ n, (outs e b out n).length = out.length + n
  | 0 => rfl
  | n + 1 => by rw [outs, List.length_append, outs_len e b out n, List.length_singleton]; omega

theorem rec_same {o : Loop} (h1 : o.state = .ready) (h2 : o.pending = none) : { o with state := .ready, pending := none } = o := by
  cases o
  simp only at h1 h2
  subst h1; subst h2
  rfl

end Go.Proofs.Ytlkddajnebjlcaa.Ctr

end
section
/- Counters (layer 4, ctr): the inner loop, walked. -/
set_option linter.unusedVariables false
set_option maxRecDepth 100000
namespace Go.Proofs.Ytlkddajnebjlcaa.Ctr
open Go Vse Go.Proofs Gen

theorem inner {E : En} {N : Nx} (hC : CtxSound Try.prog (CI E N) ∧ CtxLocal (CI E N)) {g0 : G} {l r : Nat} {o : Loop} (hS : Start g0 o) (ho : o.state = .ready) (hpn : o.pending = none) {k a b k' a' out e : List Int} (hsm : b.length ≤ 1000000)
    {Q : Exit → Act → World → Prop}
    (hend : ∀ g act w, Going g0 g (hL k a b k' a' (outs e b out 16)) w l r o → EnvRep g (e1 l e 16) act → act.defers = [] → (outs e b out 16).length < b.length → Q (.exit 2) act w)
    (hret : ∀ j : Nat, j < 16 → (outs e b out (j + 1)).length = b.length → ∀ g act w, Going g0 g (hL k a b k' a' (outs e b out (j + 1))) w l r { o with state := .done, pending := some (.exit 0) } → act.defers = [] → Q .ret act w)
    {g : G} {act : Act} {w : World} (hg : Going g0 g (hL k a b k' a' out) w l r o) (he : EnvRep g (e1 l e 0) act) (hd : act.defers = []) (hin : out.length < b.length) : (Code.loop cB).wpIn (FW none) 0 Try.prog Q act w := by
  refine wpIn_loop_ghost (fun n act w => ∃ (j : Nat) (g : G), j ≤ 16 ∧ n = 16 - j ∧ Going g0 g (hL k a b k' a' (outs e b out j)) w l r o ∧ EnvRep g (e1 l e (j : Int)) act ∧ act.defers = [] ∧ (outs e b out j).length < b.length) 16
    ⟨0, g, by omega, by omega, hg, he, hd, hin⟩ ?_
  rintro n act w ⟨j, g, hj, rfl, hg, he, hd, hin⟩
  rw [cB_shape]
  refine wpIn_seq (pc_piece hC (loopsOK_of (by kernel_rfl)) (p1 l E N e (j : Int) k a b k' a' (outs e b out j)) hg he hd fun g1 a1 w1 hg1 he1 hd1 => ?_)
  simp only [Ex.out, Exit.then]
  by_cases h16 : j < 16
  · rw [decide_eq_true (show (j : Int) < 16 by omega)] at he1
    refine wpIn_seq (pc_piece hC (loopsOK_of (by kernel_rfl)) (pD l E N e (j : Int) true k a b k' a' (outs e b out j)) hg1 he1 hd1 fun g2 a2 w2 hg2 he2 hd2 => ?_)
    simp only [Ex.out, Exit.then]
    refine wpIn_seq (wpIn_block ?_)
    have hp2 : (pc E N R2 [0, 1, 2, 5, 8, 9] (e1 l e (j : Int)) (hL k a b k' a' (outs e b out j))).eval = some (.normal, e3 l e (j : Int) (e.getD j 0), hL k a b k' a' (outs e b out j)) := by
      refine (p2 l E N e (j : Int) k a b k' a' (outs e b out j)).trans ((chk_eval (inArrK64 (by omega) (by omega) (by omega)) _).trans ?_)
      rw [Int.toNat_natCast]
      rfl
    refine wpIn_seq (pc_piece hC (loopsOK_of (by kernel_rfl)) hp2 hg2 he2 hd2 fun g3 a3 w3 hg3 he3 hd3 => ?_)
    simp only [Ex.out, Exit.then]
    refine wpIn_seq (yieldR hS hg3 ho he3 hd3 hin hsm (fun hne g4 a4 w4 hg4 he4 hd4 => ?_) (fun heq g4 a4 w4 hg4 he4 hd4 => ?_))
    · simp only [Exit.then]
      rw [rec_same ho hpn] at hg4
      rw [CR_shape]
      have hv : a4.eval (.tmp 15) = .bool false := by
        have := (VRep_v (T := .bool) (x := false) (by simp)).1 (he4.2 15)
        rw [TRep_bool] at this
        exact this
      refine wpIn_cond_false hv (wpIn_skip ?_)
      simp only [Exit.inBlock, Exit.then]
      have he5 : EnvRep g4 (e1 l e (j : Int)) a4 := keepE_rep he4 [0, 1, 2, 8, 9]
      refine pc_piece hC (loopsOK_of (by kernel_rfl)) (p4 l E N e (j : Int) k a b k' a' (outs e b out (j + 1))) hg4 he5 hd4 fun g5 a5 w5 hg5 he6 hd5 => ?_
      simp only [Ex.out, Exit.then]
      have hw : Gen.w ((j : Int) + 1) = ((j + 1 : Nat) : Int) := (w_id (by omega) (by omega)).trans (by omega)
      rw [hw] at he6
      refine ⟨16 - (j + 1), by omega, j + 1, g5, by omega, rfl, hg5, he6, hd5, ?_⟩
      have hl := outs_len e b out (j + 1)
      have hl2 := outs_len e b out j
      have hne : (outs e b out (j + 1)).length ≠ b.length := hne
      omega
    · simp only [Exit.then]
      rw [CR_shape]
      have hv : a4.eval (.tmp 15) = .bool true := by
        have := (VRep_v (T := .bool) (x := true) (by simp)).1 (he4.2 15)
        rw [TRep_bool] at this
        exact this
      refine wpIn_cond_true hv (wpIn_ret ?_)
      simp only [Exit.inBlock, Exit.then]
      exact hret j h16 heq g4 a4 w4 hg4 hd4
  · have h16 : j = 16 := by omega
    subst h16
    rw [decide_eq_false (show ¬ ((16 : Nat) : Int) < 16 by omega)] at he1
    refine wpIn_seq (pc_piece hC (loopsOK_of (by kernel_rfl)) (pD l E N e ((16 : Nat) : Int) false k a b k' a' (outs e b out 16)) hg1 he1 hd1 fun g2 a2 w2 hg2 he2 hd2 => ?_)
    simp only [Ex.out, Exit.then]
    exact hend g2 a2 w2 hg2 he2 hd2 hin

end Go.Proofs.Ytlkddajnebjlcaa.Ctr

end
section
/- Counters (layer 4, ctr): what Flip ranges over, walked. -/
set_option linter.unusedVariables false
set_option maxRecDepth 100000
namespace Go.Proofs.Ytlkddajnebjlcaa.Ctr
open Go Vse Go.Proofs Gen

/-- the counter of a block, and the bytes ahead of it -/
def atB (N : Nx) (a : List Int) : Nat → List Int
  | 0 => a
  | q + 1 => N (atB N a q) 1
def outB (E : En) (N : Nx) (k a b : List Int) : Nat → List Int
  | 0 => []
  | q + 1 => outs (E k (atB N a q)) b (outB E N k a b q) 16
theorem outB_len (E : En) (N : Nx) (k a b : List Int) : ∀ q, (outB E N k a b q).length = 16 * q
  | 0 => rfl
  | q + 1 => by rw [outB, outs_len, outB_len E N k a b q]; omega

theorem outer {E : En} {N : Nx} (hC : CtxSound Try.prog (CI E N) ∧ CtxLocal (CI E N)) {g0 : G} {l r : Nat} {o : Loop} (hS : Start g0 o) (ho : o.state = .ready) (hpn : o.pending = none) {k a b k' a' : List Int} (hsm : b.length ≤ 1000000)
    {Q : Exit → Act → World → Prop}
    (hret : ∀ q j : Nat, j < 16 → (outs (E k' (atB N a' q)) b (outB E N k' a' b q) (j + 1)).length = b.length → ∀ g act w, Going g0 g (hL k a b k' (atB N a' q) (outs (E k' (atB N a' q)) b (outB E N k' a' b q) (j + 1))) w l r { o with state := .done, pending := some (.exit 0) } → act.defers = [] → Q .ret act w)
    {g : G} {act : Act} {w : World} (hg : Going g0 g (hL k a b k' a' []) w l r o) (he : EnvRep g (e0 l) act) (hd : act.defers = []) (hin : 0 < b.length) : cI.wpIn (FW none) 0 Try.prog Q act w := by
  rw [cI_shape]
  refine wpIn_block ?_
  refine wpIn_loop_ghost (fun n act w => ∃ (q : Nat) (g : G), n = b.length - 16 * q ∧ Going g0 g (hL k a b k' (atB N a' q) (outB E N k' a' b q)) w l r o ∧ EnvRep g (e0 l) act ∧ act.defers = [] ∧ 16 * q < b.length) b.length
    ⟨0, g, by omega, hg, he, hd, by omega⟩ ?_
  rintro n act w ⟨q, g, rfl, hg, he, hd, hin⟩
  have hl := outB_len E N k' a' b q
  refine wpIn_block (wpIn_seq (wpIn_seq (pc_piece hC (loopsOK_of (by kernel_rfl)) (p0 l E N k a b k' (atB N a' q) (outB E N k' a' b q)) hg he hd fun g1 a1 w1 hg1 he1 hd1 => ?_)))
  simp only [Ex.out, Exit.then]
  refine wpIn_block (inner hC hS ho hpn hsm (fun g2 a2 w2 hg2 he2 hd2 hlt => ?_) (fun j hj heq g2 a2 w2 hg2 hd2 => ?_) hg1 he1 hd1 (by omega))
  · simp only [Exit.inBlock, if_true, Exit.then]
    refine pc_piece hC (loopsOK_of (by kernel_rfl)) (p5 l E N (E k' (atB N a' q)) 16 k a b k' (atB N a' q) (outB E N k' a' b (q + 1))) hg2 he2 hd2 fun g3 a3 w3 hg3 he3 hd3 => ?_
    simp only [Ex.out, Exit.inBlock, Exit.then]
    have hl2 : (outs (E k' (atB N a' q)) b (outB E N k' a' b q) 16).length = 16 * q + 16 := by rw [outs_len, hl]
    exact ⟨b.length - 16 * (q + 1), by omega, q + 1, g3, rfl, hg3, he3, hd3, by omega⟩
  · simp only [Exit.inBlock, Exit.then]
    exact hret q j hj heq g2 a2 w2 hg2 hd2

end Go.Proofs.Ytlkddajnebjlcaa.Ctr

end
section
/- Counters (layer 4, ctr): a call of what Flip ranges over. -/
set_option linter.unusedVariables false
set_option maxRecDepth 100000
namespace Go.Proofs.Ytlkddajnebjlcaa.Ctr
open Go Vse Go.Proofs Gen

theorem made_calls {E : En} {N : Nx} (hC : CtxSound Try.prog (CI E N) ∧ CtxLocal (CI E N)) {g0 g : G} {l r : Nat} {o : Loop} (hS : Start g0 o) (ho : o.state = .ready) (hpn : o.pending = none) {k a b k' a' : List Int} (hsm : b.length ≤ 1000000) (hin : 0 < b.length)
    {w : World} {v1 v2 : Value} (hg : Going g0 g (hL k a b k' a' []) w l r o) (h1 : VRep g (.v (.ptr 4 []) ()) v1) (h2 : VRep g (.v (.ptr 5 []) ()) v2) {R : Ending → World → Prop}
    (hret : ∀ q j : Nat, j < 16 → (outs (E k' (atB N a' q)) b (outB E N k' a' b q) (j + 1)).length = b.length → ∀ g w v, Going g0 g (hL k a b k' (atB N a' q) (outs (E k' (atB N a' q)) b (outB E N k' a' b q) (j + 1))) w l r { o with state := .done, pending := some (.exit 0) } → R (.returned v) w) :
    CallsIn (FW none) 0 Try.prog kM #[.func (.yield l) #[] #[], v1, v2] w R := by
  refine callsIn_of_wp (F := FW none) (c := cI) Try.func56 (by kernel_rfl) trivial ?_
  refine outer hC hS ho hpn hsm (fun q j hj heq g2 a2 w2 hg2 hd2 => ?_) hg ?_ rfl hin
  · refine ⟨hd2, .tuple #[], ?_, hret q j hj heq g2 w2 _ hg2⟩
    have : (Try.f56).results = #[] := by kernel_rfl
    simp [results, this]
  · have hnt : (Try.f56).ntmps = 19 := by kernel_rfl
    rw [hnt]
    have htm : (#[.func (.yield l) #[] #[], v1, v2] : Array Value) ++ Array.replicate (19 - (#[.func (.yield l) #[] #[], v1, v2] : Array Value).size) undef = (Value.func (.yield l) #[] #[] :: v1 :: v2 :: List.replicate 16 undef).toArray := by
      apply Array.ext'
      simp
    rw [htm]
    have harg : argsRep g (e0 l) (Value.func (.yield l) #[] #[] :: v1 :: v2 :: List.replicate 16 undef) := by
      refine ⟨_, _, rfl, (VRep_v (T := .it l) (x := ()) (by simp)).2 (by simp only [TRep, Ty.agg, Ty.sk, Sk.agg, Bool.false_eq_true, if_false, Rep]), ⟨_, _, rfl, h1, ⟨_, _, rfl, h2, ?_⟩⟩⟩
      have : ∀ n, argsRep g (List.replicate n AV.und) (List.replicate n undef) := by
        intro n
        induction n with
        | zero => rfl
        | succ n ih => exact ⟨_, _, rfl, trivial, ih⟩
      exact this 16
    refine ⟨rfl, fun i => ?_⟩
    have := argsRep_get harg i
    simpa [Array.getD_eq_getD_getElem?, List.getD_eq_getElem?_getD] using this

end Go.Proofs.Ytlkddajnebjlcaa.Ctr

end
section
/- Counters (layer 4, ctr): a loop over a function begins: its record and its block are laid. -/
set_option linter.unusedVariables false
set_option maxRecDepth 100000
namespace Go.Proofs.Ytlkddajnebjlcaa.Ctr
open Go Vse Go.Proofs Gen

def laid2 (w : World) (o : Loop) : World := (w.alloc (.deferred (some []))).alloc (.loop o)

theorem laid2_old (w : World) (o : Loop) {b : Nat} (h : b < w.heap.size) : (laid2 w o).heap[b]? = w.heap[b]? := by
  show ((w.heap.push _).push _)[b]? = _
  rw [Array.getElem?_push_lt (by rw [Array.size_push]; omega), Array.getElem_push_lt h, Array.getElem?_eq_getElem h]
theorem laid2_r (w : World) (o : Loop) : (laid2 w o).heap[w.heap.size]? = some (.deferred (some [])) := by
  show ((w.heap.push _).push _)[w.heap.size]? = _
  rw [Array.getElem?_push_lt (by rw [Array.size_push]; omega)]
  simp
theorem laid2_l (w : World) (o : Loop) : (laid2 w o).heap[w.heap.size + 1]? = some (.loop o) := by
  have := World.alloc_heap_new (w.alloc (.deferred (some []))) (.loop o)
  have hs : (w.alloc (.deferred (some []))).heap.size = w.heap.size + 1 := by show (w.heap.push _).size = _; rw [Array.size_push]
  rw [hs] at this
  exact this

theorem lt_of_some {w : World} {b : Nat} {ob : Obj} (h : w.heap[b]? = some ob) : b < w.heap.size := (Array.getElem?_eq_some_iff.1 h).1

theorem begin_going {g : G} {H : Heap} {w : World} (h : HInv g H w) (o : Loop) : Going { g with ext := (g.ext.1, []) } { g with ext := (g.ext.1, []) } H (laid2 w o) (w.heap.size + 1) w.heap.size o := by
  have hold : ∀ b ob, w.heap[b]? = some ob → (laid2 w o).heap[b]? = some ob := fun b ob hb => by rw [laid2_old w o (lt_of_some hb)]; exact hb
  have n1 : g.gr (w.heap.size + 1) = none := by
    cases hg : g.gr (w.heap.size + 1) with
    | none => rfl
    | some ob => have := lt_of_some (h.gr _ _ hg); omega
  have n2 : g.gr w.heap.size = none := by
    cases hg : g.gr w.heap.size with
    | none => rfl
    | some ob => have := lt_of_some (h.gr _ _ hg); omega
  refine ⟨G.leD.refl _, rfl, ⟨h.sh, fun b ob hb => hold b ob (h.fr b ob hb), fun b ob hb => ?_, fun e => ?_, fun e b hl hb => ?_, fun b ob ob' hb hb' => ?_, h.dis, h.ext⟩, n1, n2, by omega⟩
  · simp only [G.lenl] at hb
    split at hb
    · rename_i hbl
      cases hb
      rw [hbl]
      exact laid2_l w o
    · split at hb
      · rename_i hbr
        cases hb
        rw [hbr]
        exact laid2_r w o
      · exact hold b ob (h.gr b ob hb)
  · have hc : g.leC (({ g with ext := (g.ext.1, []) } : G).lenl (w.heap.size + 1) w.heap.size o) := by
      refine ⟨fun b _ _ _ hb => hb, fun b cs t fz hb => ?_, fun e => .same rfl rfl rfl⟩
      have h1 : b ≠ w.heap.size + 1 := by rintro rfl; rw [n1] at hb; cases hb
      have h2 : b ≠ w.heap.size := by rintro rfl; rw [n2] at hb; cases hb
      simp only [G.lenl, if_neg h1, if_neg h2]
      exact hb
    exact ERep_world (fun b _ ob ho => hold b ob ho) (ERep_monoC hc (e := e) rfl rfl (h.ent e))
  · obtain ⟨h1, h2⟩ := h.own e b hl hb
    obtain ⟨cs, t, fz, hh⟩ := h.there hl hb
    have hlt := lt_of_some hh
    refine ⟨h1, ?_⟩
    simp only [G.lenl]
    rw [if_neg (by omega), if_neg (by omega)]
    exact h2
  · have hlt := lt_of_some (h.fr b ob hb)
    simp only [G.lenl] at hb'
    rw [if_neg (by omega), if_neg (by omega)] at hb'
    exact h.sep b ob ob' hb hb'

end Go.Proofs.Ytlkddajnebjlcaa.Ctr

end
section
/- Counters (layer 4, ctr): a loop over a function ends: its mark stays. -/
set_option linter.unusedVariables false
set_option maxRecDepth 100000
namespace Go.Proofs.Ytlkddajnebjlcaa.Ctr
open Go Vse Go.Proofs Gen

/-- memory behind such a loop: its block for deferred calls lies still, its mark is the first deferred call -/
def G.past (g g4 : G) (r : Nat) : G := { g4 with
  fr := fun b => if b = r then some (.deferred (some [])) else g4.fr b
  gr := g.gr
  ext := (g4.ext.1, mkD r :: g.ext.2) }

theorem end_going {g g4 : G} {H H4 : Heap} {w w4 : World} {l r : Nat} {o : Loop} (h : HInv g H w) (hr : w.heap.size ≤ r) (hl : w.heap.size ≤ l) (hm : Marks g g.ext.2) (h4 : Going { g with ext := (g.ext.1, []) } g4 H4 w4 l r o) :
    g.leD (G.past g g4 r) ∧ HInv (G.past g g4 r) H4 w4 ∧ Marks (G.past g g4 r) (G.past g g4 r).ext.2 ∧ g4.leC (G.past g g4 r) := by
  have hgr : g4.gr = g.gr := h4.le.gr
  have hrow : (g4.lenl l r o).gr r = some (.deferred (some [])) := by
    simp only [G.lenl]
    rw [if_neg (fun hh => h4.new.2.2 hh.symm)]
    rfl
  have hfr : g4.fr r = none := by
    cases hf : g4.fr r with
    | none => rfl
    | some ob => exact (h4.inv.sep r _ _ hf hrow).elim
  have hnr : ∀ b ob, g.fr b = some ob → b ≠ r := fun b ob hb => by have := lt_of_some (h.fr b ob hb); omega
  have hgg : ∀ b ob, g.gr b = some ob → b ≠ r ∧ b ≠ l := fun b ob hb => by have := lt_of_some (h.gr b ob hb); omega
  have hlen : ∀ b ob, g.gr b = some ob → (g4.lenl l r o).gr b = some ob := fun b ob hb => by
    obtain ⟨n1, n2⟩ := hgg b ob hb
    simp only [G.lenl]
    rw [if_neg n2, if_neg n1, hgr]
    exact hb
  have hc : g4.leC (G.past g g4 r) := by
    refine ⟨fun b cs t fz hb => ?_, fun b cs t fz hb => by show g.gr b = _; rw [← hgr]; exact hb, fun e => .same rfl rfl rfl⟩
    have hne : b ≠ r := by rintro rfl; rw [hfr] at hb; cases hb
    simp only [G.past, if_neg hne]
    exact hb
  have hcl : (g4.lenl l r o).leC (G.past g g4 r) := by
    refine ⟨hc.fr, fun b cs t fz hb => ?_, fun e => .same rfl rfl rfl⟩
    exact hc.gr b cs t fz ((lenl_c g4 l r o).gr b cs t fz hb)
  refine ⟨⟨fun b ob hb => ?_, rfl, h4.le.ext, fun e => ?_⟩, ⟨h4.inv.sh, fun b ob hb => ?_, fun b ob hb => h4.inv.gr b ob (hlen b ob hb), fun e => ERep_monoC hcl (e := e) rfl rfl (h4.inv.ent e), fun e b hlv hb => ?_, fun b ob ob' hb hb' => ?_, h4.inv.dis, h4.inv.ext⟩, ?_, hc⟩
  · simp only [G.past, if_neg (hnr b ob hb)]
    exact h4.le.fr b ob hb
  · cases h4.le.ent e with
    | same a b c => exact .same a b c
    | dead a => exact .dead a
    | grew a b c => exact .grew a b c
    | new a => exact .new a
  · simp only [G.past] at hb
    split at hb
    · rename_i hbr
      cases hb
      rw [hbr]
      exact h4.inv.gr r _ hrow
    · exact h4.inv.fr b ob hb
  · obtain ⟨h1, h2⟩ := h4.inv.own e b hlv hb
    have hne : b ≠ r := by rintro rfl; rw [hrow] at h2; cases h2
    refine ⟨by simp only [G.past, if_neg hne]; exact h1, ?_⟩
    show g.gr b = none
    cases hg : g.gr b with
    | none => rfl
    | some ob => rw [hlen b ob hg] at h2; cases h2
  · have hb' : g.gr b = some ob' := hb'
    simp only [G.past, if_neg (hgg b ob' hb').1] at hb
    exact h4.inv.sep b ob ob' hb (hlen b ob' hb')
  · obtain ⟨rs, m1, m2, m3⟩ := hm
    refine ⟨r :: rs, by show mkD r :: g.ext.2 = _; rw [m1]; rfl, List.nodup_cons.2 ⟨fun hh => hnr r _ (m3 r hh) rfl, m2⟩, fun r' hr' => ?_⟩
    rcases List.mem_cons.1 hr' with rfl | hr'
    · simp [G.past]
    · simp only [G.past, if_neg (hnr r' _ (m3 r' hr'))]
      exact h4.le.fr r' _ (m3 r' hr')

end Go.Proofs.Ytlkddajnebjlcaa.Ctr

end
section
/- Counters (layer 4, ctr): Flip's loop over what made tells, whole. -/
set_option linter.unusedVariables false
set_option maxRecDepth 100000
namespace Go.Proofs.Ytlkddajnebjlcaa.Ctr
open Go Vse Go.Proofs Gen

/-- behind the loop: slot 7 alone -/
def eZ : List AV := (encS [7] [.ptr 3 []] [] 32 ((), ()) ()).env
theorem eZ_shape : eZ = List.replicate 7 .und ++ (.v (.ptr 3 []) () :: List.replicate 24 .und) := by kernel_rfl
theorem eZ_get (i : Nat) (h : i ≠ 7) : getV eZ i = .und ∨ getV eZ i = .none := by
  have rep : ∀ n j, getV (List.replicate n AV.und) j = .und ∨ getV (List.replicate n AV.und) j = .none := by
    intro n
    induction n with
    | zero => intro j; exact .inr rfl
    | succ n ih => intro j; cases j with
      | zero => exact .inl rfl
      | succ j => exact ih j
  rw [eZ_shape]
  match i, h with
  | 0, _ => exact .inl rfl
  | 1, _ => exact .inl rfl
  | 2, _ => exact .inl rfl
  | 3, _ => exact .inl rfl
  | 4, _ => exact .inl rfl
  | 5, _ => exact .inl rfl
  | 6, _ => exact .inl rfl
  | 7, h => exact absurd rfl h
  | j + 8, _ => exact rep 24 j

theorem eZ_rep {g g' : G} {tm : Array Value} {ds ds' : List Deferred} (h : EnvRep g eZ { tmps := tm, defers := ds }) (h7 : VRep g' (.v (.ptr 3 []) ()) (tm.getD 7 undef)) : EnvRep g' eZ { tmps := tm, defers := ds' } := by
  refine ⟨h.1, fun i => ?_⟩
  by_cases e7 : i = 7
  · subst e7; exact h7
  · have := h.2 i
    rcases eZ_get i e7 with e | e
    · rw [e]; trivial
    · rw [e] at this ⊢; exact this

/-- the loop: what is there as it begins, and as it ends -/
noncomputable def rngR (E : En) (N : Nx) (st : St) : Tr (Ex × St) :=
  if heapIs SL.E0 st.heap then
    match renTo SL.E0 [.all 3 u8] [5, 7, 14] [.ptr 2 [], .ptr 3 [], fM 4 5] eL 32 st with
    | some (_, (k, a, b, _, k', a', out, _)) =>
      .chk (decide (out = []) && decide (0 < b.length ∧ b.length ≤ 1000000))
        (.ret (.exit 0, encS [7] [.ptr 3 []] eL 32 ((), ()) (k, a, b, (), k', atB N a' ((b.length - 1) / 16), outs (E k' (atB N a' ((b.length - 1) / 16))) b (outB E N k' a' b ((b.length - 1) / 16)) ((b.length - 1) % 16 + 1), ())))
    | none => .fail
  else .fail

theorem chk_some {α : Type} {c : Bool} {t : Tr α} {x : α} (h : (Tr.chk c t).eval = some x) : c = true ∧ t.eval = some x := by
  cases c with
  | true => exact ⟨rfl, (chk_eval rfl t).symm.trans h⟩
  | false => cases h

theorem at_end {E : En} {N : Nx} {k' a' b : List Int} {q j : Nat} (hj : j < 16) (h : (outs (E k' (atB N a' q)) b (outB E N k' a' b q) (j + 1)).length = b.length) : q = (b.length - 1) / 16 ∧ j = (b.length - 1) % 16 := by
  rw [outs_len, outB_len] at h
  omega

theorem rng_ok {E : En} {N : Nx} (hC : CtxSound Try.prog (CI E N) ∧ CtxLocal (CI E N)) : RunOK Try.prog (rngR E N) (.rangeFunc (.tmp 14) #[15] asgF bdyF) := by
  intro g st st' a w x Q hs hm he hn
  unfold rngR at he
  split at he
  case isFalse => exact (Tr.fail_some he).elim
  rename_i hheap
  split at he
  case h_2 => exact (Tr.fail_some he).elim
  rename_i u k a0 b uu k' a' out u2 hren
  obtain ⟨hc, he⟩ := chk_some he
  have he := Tr.ret_some he
  simp only [Prod.mk.injEq] at he
  obtain ⟨rfl, rfl⟩ := he
  simp only [Bool.and_eq_true, decide_eq_true_eq] at hc
  obtain ⟨rfl, hin, hsm⟩ := hc
  have hisY : ∀ t, isY (g.sh t) SL.E0[t]? := fun t => by rw [hs.heap.sh]; exact heapIs_isY hheap t
  have hb : ∀ i, i < 6 → ∃ s, g.sh i = .box s := fun i hi => by
    have := hisY i
    match i, hi, this with
    | 0, _, h => exact h
    | 1, _, h => exact h
    | 2, _, h => exact h
    | 3, _, h => exact h
    | 4, _, h => exact h
    | 5, _, h => exact h
  refine wpIn_rangeFunc fun fn _ => ?_
  let o : Loop := { state := .ready, pending := none, fn, tmps := a.tmps, params := #[15], assign := asgF, body := bdyF, defers := w.heap.size }
  have hgo := begin_going hs.heap o
  let g0 : G := { g with ext := (g.ext.1, []) }
  have hc0 : g.leC g0 := ⟨fun b _ _ _ h => h, fun b _ _ _ h => h, fun e => .same rfl rfl rfl⟩
  have he0 : EnvRep g0 st.env { a with defers := [] } := (EnvRep.c hc0 (a := { a with defers := [] }) ⟨hs.env.1, hs.env.2⟩)
  obtain ⟨g3, hgo3, he3⟩ := Going.ren hgo rfl he0 rfl hisY hren
  have hgo3 : Going g0 g3 (hL k a0 b k' a' []) (laid2 w o) (w.heap.size + 1) w.heap.size o := hgo3
  have hsh : ∀ i, i < 6 → ∃ s, g3.sh i = .box s := fun i hi => by
    have := hgo3.inv.sh i
    match i, hi, this with
    | 0, _, h => exact ⟨_, h⟩
    | 1, _, h => exact ⟨_, h⟩
    | 2, _, h => exact ⟨_, h⟩
    | 3, _, h => exact ⟨_, h⟩
    | 4, _, h => exact ⟨_, h⟩
    | 5, _, h => exact ⟨_, h⟩
  have mv : ∀ i, i < 6 → ∀ g' : G, g0.leD g' → (∃ s, g'.sh i = .box s) → ∀ v, VRep g3 (.v (.ptr i []) ()) v → VRep g' (.v (.ptr i []) ()) v := by
    intro i hi g' hg' hs' v hv
    obtain ⟨s0, e0⟩ := hb i hi
    obtain ⟨s3, e3⟩ := hsh i hi
    obtain ⟨s', e'⟩ := hs'
    exact ptr_move hgo3.le hg' e0 e3 e' hv
  have r5 : VRep g3 (.v (.ptr 2 []) ()) (a.tmps.getD 5 undef) := he3.2 5
  have r7 : VRep g3 (.v (.ptr 3 []) ()) (a.tmps.getD 7 undef) := he3.2 7
  have r14 : VRep g3 (.v (fM 4 5) ((), (), ())) (a.tmps.getD 14 undef) := he3.2 14
  have hsize : a.tmps.size = 32 := he3.1.symm.trans (by kernel_rfl)
  have hS : Start g0 o := ⟨rfl, hisY, hb 4 (by omega), hb 5 (by omega), rfl, rfl, rfl, hsize, mv 2 (by omega) g0 (G.leD.refl _) (hb 2 (by omega)) _ r5, mv 3 (by omega) g0 (G.leD.refl _) (hb 3 (by omega)) _ r7⟩
  obtain ⟨v1, v2, hv14, h1, h2⟩ : ∃ v1 v2, a.tmps.getD 14 undef = .func (.func kM) #[] #[v1, v2] ∧ VRep g3 (.v (.ptr 4 []) ()) v1 ∧ VRep g3 (.v (.ptr 5 []) ()) v2 := by
    have := (VRep_v (by simp)).1 r14
    simp only [TRep, Ty.agg, Ty.sk, Sk.agg, Bool.false_eq_true, if_false] at this
    obtain ⟨vs, hv, v1, r, e1, p1, v2, r2, e2, p2, e3⟩ := this
    have e3 : r2 = [] := e3
    subst e3
    subst e2
    simp only [List.cons.injEq, and_true] at hv
    refine ⟨v1, v2, ?_, (VRep_v (by simp)).2 ?_, (VRep_v (by simp)).2 ?_⟩
    · rw [hv]
      have : vs = #[v1, v2] := by apply Array.ext'; rw [e1]
      rw [this]
    · simpa only [TRep, Ty.agg, Ty.sk, Sk.agg, Bool.false_eq_true, if_false] using p1
    · simpa only [TRep, Ty.agg, Ty.sk, Sk.agg, Bool.false_eq_true, if_false] using p2
  have hev : a.eval (.tmp 14) = .func (.func kM) #[] #[v1, v2] := hv14
  refine ⟨w.heap.size + 1, [mkD w.heap.size], laid2 w o, { target := .fn (.func kM) #[v1, v2], args := #[.func (.yield (w.heap.size + 1)) #[] #[]] }, laid2 w o, kM, #[.func (.yield (w.heap.size + 1)) #[] #[], v1, v2], laid2 w o, ?_, ?_, ?_, ?_, ?_, ?_⟩
  · exact run_enterLoop_outer _ _ _ _ _
  · simp only [resolve, hev]
    simp [go_sem]
  · intro f' _; trivial
  · have := callFunc_enter (P := Try.prog) (c := cI) Try.func56 (by kernel_rfl) (by kernel_rfl) #[.func (.yield (w.heap.size + 1)) #[] #[], v1, v2] (laid2 w o)
    simp [invoke, go_sem, this]
  · intro h; cases h
  · refine made_calls hC hS rfl rfl hsm hin hgo3 h1 h2 fun q j hj hlen g4 w4 v hg4 => ?_
    obtain ⟨rfl, rfl⟩ := at_end hj hlen
    refine ⟨_, _, run_endLoop hg4.row (by simp), ?_⟩
    refine wpIn_exit ?_
    have hg5 := hg4.put { o with state := .exhausted, pending := some (.exit 0) }
    obtain ⟨p1, p2, p3, p4⟩ := end_going hs.heap (Nat.le_refl _) (Nat.le_succ _) hm hg5
    have hs4 : ∃ s, g4.sh 3 = .box s := ⟨_, hg4.inv.sh 3⟩
    have r7' := mv 3 (by omega) g4 hg4.le hs4 _ r7
    have e7 : EnvRep g3 eZ { tmps := a.tmps, defers := [] } := keepE_rep he3 [7]
    refine hn _ _ _ p1 ⟨eZ_rep e7 (VRep_monoC p4 r7'), p2, ?_⟩ p3
    show [mkD w.heap.size] ++ a.defers = mkD w.heap.size :: g.ext.2
    rw [hs.defers]; rfl

end Go.Proofs.Ytlkddajnebjlcaa.Ctr

end
section
/- Counters (layer 4, ctr): Flip, whole. -/
set_option linter.unusedVariables false
set_option maxRecDepth 100000
namespace Go.Proofs.Ytlkddajnebjlcaa.Ctr
open Go Vse Go.Proofs Gen

/-- the loop, told in other words -/
def rngX (c : List Int → List Int → Bool) (A : List Int → List Int → List Int) (O : List Int → List Int → List Int → List Int) (st : St) : Tr (Ex × St) :=
  if heapIs SL.E0 st.heap then
    match renTo SL.E0 [.all 3 u8] [5, 7, 14] [.ptr 2 [], .ptr 3 [], fM 4 5] eL 32 st with
    | some (_, (k, a, b, _, k', a', out, _)) => .chk (c out b) (.ret (.exit 0, encS [7] [.ptr 3 []] eL 32 ((), ()) (k, a, b, (), k', A a' b, O k' a' b, ())))
    | none => .fail
  else .fail
def cX (out b : List Int) : Bool := decide (out = []) && decide (0 < b.length ∧ b.length ≤ 1000000)
def aX (N : Nx) (a' b : List Int) : List Int := atB N a' ((b.length - 1) / 16)
def oX (E : En) (N : Nx) (k' a' b : List Int) : List Int := outs (E k' (atB N a' ((b.length - 1) / 16))) b (outB E N k' a' b ((b.length - 1) / 16)) ((b.length - 1) % 16 + 1)
theorem rngX_ok {E : En} {N : Nx} (hC : CtxSound Try.prog (CI E N) ∧ CtxLocal (CI E N)) : RunOK Try.prog (rngX cX (aX N) (oX E N)) (.rangeFunc (.tmp 14) #[15] asgF bdyF) := rng_ok hC

abbrev C24 : Ctx := ctx [(43, s43)]
theorem C24_sound : CtxSound Try.prog C24 ∧ CtxLocal C24 := ctx_sound ⟨ok43, trivial⟩
def RX (c : List Int → List Int → Bool) (A : List Int → List Int → List Int) (O : List Int → List Int → List Int → List Int) : Loops := fun _ st => rngX c A O st
noncomputable def cFl : Code := bodyOf Try.f24
theorem rngs_shape : rngsOf cFl = [(.tmp 14, #[15], asgF, bdyF)] := by kernel_rfl
def TX (c : List Int → List Int → Bool) (O : List Int → List Int → List Int → List Int) (key at_ b : List Int) : Tr AV := .ite ((b.length : Int) == 0) (.ret (.v bt [])) (.chk (c [] b) (.ret (.v bt (O key at_ b))))
theorem tX (c : List Int → List Int → Bool) (A : List Int → List Int → List Int) (O : List Int → List Int → List Int → List Int) (key at_ b : List Int) :
    nrm (fnSX Try.prog (runR Try.prog C24 L0 (RX c A O) cFl) [bt] Try.f24 (mkArgs [w16, w16, bs] (key, at_, b, ()))) = (TX c O key at_ b).eval := by kernel_rfl

/-- what Flip gives -/
def flipX (E : En) (N : Nx) (key at_ b : List Int) : List Int := if b.length = 0 then [] else oX E N key at_ b

theorem rn_ok {E : En} {N : Nx} (hC : CtxSound Try.prog (CI E N) ∧ CtxLocal (CI E N)) : RunOK Try.prog (runR Try.prog C24 L0 (RX cX (aX N) (oX E N)) cFl) cFl := by
  refine runR_ok C24_sound cFl (loopsOK_of (by kernel_rfl)) (rngsOK_all fun t ht i hi => ?_)
  rw [rngs_shape, List.mem_singleton] at ht
  subst ht
  exact rngX_ok hC

def sX (E : En) (N : Nx) : CSpec := .slp1 [w16, w16, bs] (fun x => decide (List.length (α := Int) x.2.2.1 ≤ 1000000)) bt fun x => flipX E N x.1 x.2.1 x.2.2.1
theorem okX {E : En} {N : Nx} (hC : CtxSound Try.prog (CI E N) ∧ CtxLocal (CI E N)) : CSound Try.prog 24 (sX E N) ∧ CLocal (sX E N) :=
  slpX1 Try.func24 (rn_ok hC) (by kernel_rfl) fun xs hx hp => by
    obtain ⟨key, at_, b, u⟩ := xs
    have hb : List.length (α := Int) b ≤ 1000000 := of_decide_eq_true hp
    refine (tX cX (aX N) (oX E N) key at_ b).trans ?_
    have : (TX cX (oX E N) key at_ b).eval = some (.v bt (flipX E N key at_ b)) := by
      unfold TX flipX
      by_cases h0 : List.length (α := Int) b = 0
      · rw [if_pos h0]
        refine (ite_t ?_ _ _).trans rfl
        rw [h0]; rfl
      · rw [if_neg h0]
        refine (ite_f ?_ _ _).trans ((chk_eval ?_ _).trans rfl)
        · simp only [beq_eq_false_iff_ne, ne_eq]; omega
        · simp only [cX, Bool.and_eq_true, decide_eq_true_eq, true_and]; omega
    exact this

end Go.Proofs.Ytlkddajnebjlcaa.Ctr

end
section
/- Counters (layer 4, ctr): what the document's Flip gives. -/
set_option linter.unusedVariables false
set_option maxRecDepth 100000
namespace Go.Proofs.Ytlkddajnebjlcaa.Ctr
open Go Vse Go.Proofs Gen

/-- the byte at a place, flipped -/
def elemF (N : Nx) (E : En) (key at_ b : List Int) (i : Nat) : Int := xorI .u8 (b.getD i 0) ((E key (N at_ ((i / 16 : Nat) : Int))).getD (i % 16) 0)
def partF (N : Nx) (E : En) (key at_ b : List Int) (i : Nat) : List Int := (List.range i).map (elemF N E key at_ b)
def flipG (N : Nx) (E : En) (key at_ b : List Int) : List Int := partF N E key at_ b b.length
theorem partF_len (N : Nx) (E : En) (key at_ b : List Int) (i : Nat) : (partF N E key at_ b i).length = i := by unfold partF; rw [List.length_map, List.length_range]
theorem partF_step (N : Nx) (E : En) (key at_ b : List Int) (i : Nat) : partF N E key at_ b (i + 1) = partF N E key at_ b i ++ [elemF N E key at_ b i] := by unfold partF; rw [List.range_succ, List.map_append]; rfl

abbrev encRF : En := fun k a => Aes.encR k a
def flipP (b : List Int) : Bool := decide (b.length ≤ 1000000)
theorem cF_sound : CtxSound Try.prog (ctx (cF rnextF encRF)) ∧ CtxLocal (ctx (cF rnextF encRF)) := ctx_sound ⟨ok27, Aes.ok47, trivial⟩
def cF1 (b : List Int) (i : Int) (at_ made out : List Int) : Bool := decide (i = 0) && (decide (out = []) && decide (b.length ≤ 1000000))

theorem mF (N : Nx) (E : En) (key at_ b : List Int) (hb : b.length ≤ 1000000) : ∀ (m i : Nat) (made : List Int), i + m = b.length → (i % 16 ≠ 0 → made = E key (N at_ ((i / 16 : Nat) : Int))) →
    SF.many (bodyK Try.prog (ctx (cF N E)) L0 bF) (m + 1) (b, (), (), (), (), (i : Int), ()) (key, at_, made, partF N E key at_ b i, ()) = some (.exit 0, encS [7] [.vc 3 0] [.dead, .dead, .dead, .vec 0 u8] 40 ((), ()) (flipG N E key at_ b, ()))
  | 0, i, made, h, hm => by
    refine rmany_inr ((rF N E b i key at_ made _).trans ?_) 0
    have : i = b.length := by omega
    subst this
    unfold GF
    simp only
    rw [ite_f (decide_eq_false (by omega))]
    rfl
  | m + 1, i, made, h, hm => by
    have hi : i < b.length := by omega
    have t1 : ((i : Nat) : Int).tmod 16 = ((i % 16 : Nat) : Int) := by rw [Int.tmod_eq_emod_of_nonneg (by omega)]; omega
    have d1 : ((i : Nat) : Int).tdiv 16 = ((i / 16 : Nat) : Int) := by rw [Int.tdiv_eq_ediv_of_nonneg (by omega)]; omega
    have w0 : w ((i : Int) + 1) = ((i + 1 : Nat) : Int) := (w_id (by omega) (by omega)).trans (by omega)
    have w1 : wu (w ((i / 16 : Nat) : Int)) = ((i / 16 : Nat) : Int) := by rw [w_id (by omega) (by omega), wu_mod]; omega
    have e1 : ∀ x : Int, Vse.room ((partF N E key at_ b i).length + [x].length) 1 = true := fun x => by simp only [Vse.room, decide_eq_true_eq, partF_len, List.length_singleton]; omega
    have hx : xorI .u8 (b.getD i 0) ((E key (N at_ ((i / 16 : Nat) : Int))).getD (i % 16) 0) = elemF N E key at_ b i := rfl
    refine (rmany_inl (d := ((b, (), (), (), (), ((i + 1 : Nat) : Int), ()), (key, at_, E key (N at_ ((i / 16 : Nat) : Int)), partF N E key at_ b (i + 1), ()))) ((rF N E b i key at_ made _).trans ?_) (m + 1)).trans
      (mF N E key at_ b hb m (i + 1) _ (by omega) (fun h16 => by rw [show (i + 1) / 16 = i / 16 by omega]))
    unfold GF
    simp only [t1, d1, w0, w1, Int.toNat_natCast]
    rw [ite_t (decide_eq_true (show (i : Int) < (b.length : Int) by omega))]
    by_cases h16 : i % 16 = 0
    · rw [ite_t (by rw [h16]; rfl), chk_eval (inArr_nat hi), chk_eval (inArrK64 (by omega) (by omega) (by omega)), chk_eval (e1 _), hx, partF_step]
      rfl
    · have hne : ((((i % 16 : Nat) : Int)) == 0) = false := by simp; omega
      have hmade := hm h16
      subst hmade
      rw [ite_f hne, chk_eval (inArr_nat hi), chk_eval (inArrK64 (by omega) (by omega) (by omega)), chk_eval (e1 _), hx, partF_step]
      rfl

theorem lF : LoopOK Try.prog (LF cF1 (flipG rnextF encRF)) bF :=
  rloop_ok (L := LF cF1 (flipG rnextF encRF)) (L' := L0) cF_sound (loopsOK_of (by kernel_rfl)) SF (F := FF cF1 (flipG rnextF encRF)) (i := 4) (by kernel_rfl) (fun _ => rfl) fun xs hs r h => by
    obtain ⟨b, u1, u2, u3, u4, i, u5⟩ := xs
    obtain ⟨key, at_, made, out, u6⟩ := hs
    obtain ⟨h1, h2⟩ := Tr.chk_some h
    simp only [cF1, Bool.and_eq_true, decide_eq_true_eq] at h1
    obtain ⟨e1, e2, e3⟩ := h1
    have e1 : i = ((0 : Nat) : Int) := e1
    have e2 : out = partF rnextF encRF key at_ b 0 := e2
    subst e1; subst e2
    exact ⟨_, (mF rnextF encRF key at_ b e3 (List.length (α := Int) b) 0 made (by omega) (fun h => absurd rfl h)).trans (congrArg some (Tr.ret_some h2))⟩

def rflipF (key at_ b : List Int) : List Int := flipG rnextF encRF key at_ b
def s25 : CSpec := .slp1 [w16, w16, bs] (fun x => flipP x.2.2.1) bt fun x => rflipF x.1 x.2.1 x.2.2.1
theorem ok25 : CSound Try.prog 25 s25 ∧ CLocal s25 :=
  slpE1 (L := LF cF1 (flipG rnextF encRF)) cF_sound Try.func25 (by kernel_rfl) (loops1 (by kernel_rfl) lF) fun xs hx hp => by
    obtain ⟨key, at_, b, u⟩ := xs
    have hb : List.length (α := Int) b ≤ 1000000 := of_decide_eq_true hp
    have e1 : cF1 b 0 at_ z16 [] = true := by simp only [cF1, Bool.and_eq_true, decide_eq_true_eq, true_and]; exact hb
    refine (tF rnextF encRF cF1 (flipG rnextF encRF) key at_ b).trans ?_
    have : (TF cF1 (flipG rnextF encRF) key at_ b).eval = some (.v bt (rflipF key at_ b)) := by
      unfold TF
      rw [chk_eval e1]
      rfl
    exact this

end Go.Proofs.Ytlkddajnebjlcaa.Ctr

end
section
/- Counters (layer 4, ctr): what Flip gives, place by place; both ways are one. -/
set_option linter.unusedVariables false
set_option maxRecDepth 100000
namespace Go.Proofs.Ytlkddajnebjlcaa.Ctr
open Go Vse Go.Proofs Gen

theorem outs_part (E : En) (N : Nx) (k a b : List Int) (q : Nat) : ∀ n, n ≤ 16 → outs (E k (N a ((q : Nat) : Int))) b (partF N E k a b (16 * q)) n = partF N E k a b (16 * q + n)
  | 0, _ => rfl
  | n + 1, h => by
    rw [outs, outs_part E N k a b q n (by omega), show 16 * q + (n + 1) = (16 * q + n) + 1 from rfl, partF_step]
    have h1 : (16 * q + n) / 16 = q := by omega
    have h2 : (16 * q + n) % 16 = n := by omega
    unfold elemF flipB
    rw [partF_len, h1, h2]

theorem outB_part (E : En) (N : Nx) (k a b : List Int) : ∀ q, (∀ i, i < q → atB N a i = N a ((i : Nat) : Int)) → outB E N k a b q = partF N E k a b (16 * q)
  | 0, _ => rfl
  | q + 1, h => by
    rw [outB, outB_part E N k a b q (fun i hi => h i (by omega)), h q (by omega), outs_part E N k a b q 16 (Nat.le_refl _)]
    rfl

theorem flipX_eq {E : En} {N : Nx} {k a b : List Int} (h : ∀ i, i ≤ b.length → atB N a i = N a ((i : Nat) : Int)) : flipX E N k a b = flipG N E k a b := by
  unfold flipX flipG
  by_cases h0 : b.length = 0
  · rw [if_pos h0, h0]; rfl
  · rw [if_neg h0]
    unfold oX
    rw [outB_part E N k a b _ (fun i hi => h i (by omega)), h _ (by omega), outs_part E N k a b _ _ (by omega)]
    congr 1
    omega

theorem atB_next {a : List Int} (ha : Bytes a) (hl : a.length = 16) : ∀ q : Nat, q ≤ 1000000 → atB nextF a q = nextF a ((q : Nat) : Int)
  | 0, _ => (next_zero ha hl).symm
  | q + 1, h => by
    rw [atB, atB_next ha hl q (by omega)]
    exact next_add ha hl (a := q) (b := 1) (by omega)

def flipF (key at_ b : List Int) : List Int := flipG nextF (fun k a => Aes.encI k a) key at_ b

theorem byte_ok {x : Int} (h : inK .u8 x = true) : 0 ≤ x ∧ x < 256 := by
  have : IntKind.u8.min ≤ x ∧ x ≤ IntKind.u8.max := by simpa [inK, IntKind.has] using h
  rw [show IntKind.u8.min = 0 from by decide, show IntKind.u8.max = 255 from by decide] at this
  omega
theorem bytes_ok {l : List Int} (h : Ty.ok (.arr 16 u8) l) : Bytes l := fun x hx => byte_ok (h.2 x hx)

def c1 : List (Nat × CSpec) := [(57, Aes.s46), (26, s26)]
theorem c1_sound : CtxSound Try.prog (CI (fun k a => Aes.encI k a) nextF) ∧ CtxLocal (CI (fun k a => Aes.encI k a) nextF) := ctx_sound ⟨Aes.ok46, ok26, trivial⟩

def s24 : CSpec := .slp1 [w16, w16, bs] (fun x => flipP x.2.2.1) bt fun x => flipX (fun k a => Aes.encI k a) nextF x.1 x.2.1 x.2.2.1
theorem ok24 : CSound Try.prog 24 s24 ∧ CLocal s24 := okX c1_sound

theorem flip_eq {key at_ b : List Int} (h : Bytes at_) (hl : at_.length = 16) (hb : b.length ≤ 1000000) : flipX (fun k a => Aes.encI k a) nextF key at_ b = flipF key at_ b :=
  flipX_eq fun i hi => atB_next h hl i (by omega)

theorem blk_of {l : List Int} (h : Bytes l) (hl : l.length = 16) : Aes.Blk l := Aes.blk_mem hl fun x hx => show 0 ≤ x ∧ x < 256 from by
  have := h x hx
  omega

theorem elem_same {key at_ b : List Int} (hk : Bytes key) (hkl : key.length = 16) (h : Bytes at_) (hl : at_.length = 16) {i : Nat} (hi : i < 1000000) : elemF nextF (fun k a => Aes.encI k a) key at_ b i = elemF rnextF encRF key at_ b i := by
  have h1 : nextF at_ ((i / 16 : Nat) : Int) = rnextF at_ ((i / 16 : Nat) : Int) := nexts_same h (by omega)
  have h2 : Aes.encI key (nextF at_ ((i / 16 : Nat) : Int)) = Aes.encR key (nextF at_ ((i / 16 : Nat) : Int)) := Aes.enc_same (blk_of hk hkl) (blk_of (next_bytes h _) (by rw [next_len, hl]))
  unfold elemF
  simp only [h2, ← h1]

theorem flips_same {key at_ b : List Int} (hk : Bytes key) (hkl : key.length = 16) (h : Bytes at_) (hl : at_.length = 16) (hb : b.length ≤ 1000000) : flipF key at_ b = rflipF key at_ b := by
  unfold flipF rflipF flipG partF
  refine List.map_congr_left fun i hi => ?_
  exact elem_same hk hkl h hl (by have := List.mem_range.1 hi; omega)

theorem flip_len (key at_ b : List Int) : (flipF key at_ b).length = b.length := partF_len _ _ _ _ _ _
theorem flip_get (key at_ b : List Int) {i : Nat} (hi : i < b.length) : (flipF key at_ b).getD i 0 = elemF nextF (fun k a => Aes.encI k a) key at_ b i := by
  unfold flipF flipG partF
  rw [List.getD_eq_getElem?_getD, List.getElem?_map, List.getElem?_range hi]
  rfl

end Go.Proofs.Ytlkddajnebjlcaa.Ctr

end
section
/- The laws of layer 4 (ctr): their own trial. -/
set_option linter.unusedVariables false
set_option maxRecDepth 100000
namespace Go.Proofs.Ytlkddajnebjlcaa.Ctr
open Go Vse Go.Proofs Gen

def cW : List (Nat × CSpec) := [(24, s24), (26, s26)]
theorem cW_sound : CtxSound Try.prog (ctx cW) ∧ CtxLocal (ctx cW) := ctx_sound ⟨ok24, ok26, trivial⟩
noncomputable def bW : Code := loopAt Try.f23 0
noncomputable def LW : Loops := fun j st => if j = 3 then runLoop Try.prog (ctx cW) L0 17 bW st else .fail
theorem lW : LoopOK Try.prog LW bW := runLoop_ok (L' := L0) cW_sound (loopsOK_of (by kernel_rfl)) (i := 3) (n := 17) (by kernel_rfl) (fun _ => rfl)

def s23 : CSpec := .slp1 [] (fun _ => true) .bool fun _ => true
theorem ok23 : CSound Try.prog 23 s23 ∧ CLocal s23 :=
  slpE1 (L := LW) cW_sound Try.func23 (by kernel_rfl) (loops1 (by kernel_rfl) lW) fun xs hx hp => by kernel_rfl

end Go.Proofs.Ytlkddajnebjlcaa.Ctr

end
section
/- The laws of layer 4 (ctr): walks. -/
set_option linter.unusedVariables false
set_option maxRecDepth 100000
namespace Go.Proofs.Ytlkddajnebjlcaa.Ctr
open Go Vse Go.Proofs Gen

abbrev Fl := List Int → List Int → List Int → List Int
abbrev Pb := List Int → Bool
abbrev yes : Tr AV := .ret (.v .bool true)
abbrev no : Tr AV := .ret (.v .bool false)
def eqA (a b : List Int) : Bool := eqList (fun x y => decide (x = y)) a b
def cV (P : Pb) (F : Fl) (P' : Pb) (R : Fl) (N N' : Nx) : List (Nat × CSpec) :=
  [(23, s23), (24, .slp1 [w16, w16, bs] (fun x => P x.2.2.1) bt fun x => F x.1 x.2.1 x.2.2.1), (25, .slp1 [w16, w16, bs] (fun x => P' x.2.2.1) bt fun x => R x.1 x.2.1 x.2.2.1), (22, sSame),
   (26, .slp1 [w16, u64] (fun _ => true) w16 fun x => N x.1 x.2.1), (27, .slp1 [w16, u64] (fun _ => true) w16 fun x => N' x.1 x.2.1)]
abbrev flX : Fl := fun key at_ b => flipX (fun k a => Aes.encI k a) nextF key at_ b
abbrev CVF : Ctx := ctx (cV flipP flX flipP rflipF nextF rnextF)
theorem cV_sound : CtxSound Try.prog CVF ∧ CtxLocal CVF := ctx_sound ⟨ok23, ok24, ok25, okSame, ok26, ok27, trivial⟩

/-! CtrTells -/

def T6 (P : Pb) (F : Fl) (P' : Pb) (R : Fl) (N N' : Nx) (key at_ b : List Int) : Tr AV :=
  let by_ := wu (wu (b.length : Int) * 72057594037927935)
  .ite (decide ((b.length : Int) > 100)) yes (.chk (P b) (.chk (P' b) (.ite (sameI (F key at_ b) (R key at_ b)) (.ret (.v .bool (eqA (N at_ by_) (N' at_ by_)))) no)))
theorem t6 (P : Pb) (F : Fl) (P' : Pb) (R : Fl) (N N' : Nx) (key at_ b : List Int) :
    nrm (fnK Try.prog (ctx (cV P F P' R N N')) L0 Try.f6 (mkArgs [w16, w16, bt] (key, at_, b, ())) []) = (T6 P F P' R N N' key at_ b).eval := by kernel_rfl

/-! CtrBack -/

noncomputable def bB : Code := loopAt Try.f7 0
def SB : RSpec := ⟨[2, 3, 4, 7, 8, 10], 61, [bt, .ptr 0 [], .ptr 1 [], .bool, bt, i64], eN, eN, [], fun x => match x with | .ret => ([6], [.bool], eN) | _ => ([7], [.bool], eN)⟩
/-- what lies behind a place -/
def behind (l : List Int) (i : Int) : List Int := (l.take ((l.length : Int)).toNat).drop i.toNat
def sliceOK (l : List Int) (i : Int) : Bool := decide (0 ≤ i) && (decide (i ≤ (l.length : Int)) && decide ((l.length : Int) ≤ (l.length : Int)))
def GB (P : Pb) (F : Fl) (N : Nx) (b : List Int) (up : Bool) (f : List Int) (i : Int) (key at_ : List Int) : Tr SB.End :=
  .ite (decide (i ≤ (b.length : Int))) (.chk (sliceOK b i) (.chk (P (behind b i)) (.chk (sliceOK f i)
    (.ite (!sameI (F key (N at_ (wu (w (i.tdiv 16)))) (behind b i)) (behind f i)) (.ret (.inr (.ret, encS [6] [.bool] eN 61 (false, ()) (key, at_, ())))) (.ret (.inl ((b, (), (), up, f, w (i + 16), ()), (key, at_, ()))))))))
    (.ret (.inr (.exit 0, encS [7] [.bool] eN 61 (up, ()) (key, at_, ()))))
theorem rB (P : Pb) (F : Fl) (P' : Pb) (R : Fl) (N N' : Nx) (b : List Int) (up : Bool) (f : List Int) (i : Int) (key at_ : List Int) :
    (SB.round (bodyK Try.prog (ctx (cV P F P' R N N')) L0 bB) (b, (), (), up, f, i, ()) (key, at_, ())).eval = (GB P F N b up f i key at_).eval := by kernel_rfl
def FBk (c : List Int → List Int → List Int → List Int → Int → Bool) (xs : HL SB.Ts) (hs : HD SB.Es) : Tr (Ex × St) :=
  .chk (c hs.1 hs.2.1 xs.1 xs.2.2.2.2.1 xs.2.2.2.2.2.1) (.ret (.exit 0, encS [7] [.bool] eN 61 (xs.2.2.2.1, ()) (hs.1, hs.2.1, ())))
def LB (c : List Int → List Int → List Int → List Int → Int → Bool) : Loops := fun j st => if j = 9 then SB.fn (FBk c) st else .fail
def T7 (P : Pb) (F : Fl) (c : List Int → List Int → List Int → List Int → Int → Bool) (key at_ b : List Int) : Tr AV :=
  .ite (decide ((b.length : Int) > 200)) yes (.chk (P b) (.chk (P (F key at_ b)) (.ite (!sameI (F key at_ (F key at_ b)) b) no (.ite (((F key at_ b).length : Int) != (b.length : Int)) no (.chk (c key at_ b (F key at_ b) 16) yes)))))
theorem t7 (P : Pb) (F : Fl) (P' : Pb) (R : Fl) (N N' : Nx) (c : List Int → List Int → List Int → List Int → Int → Bool) (key at_ b : List Int) :
    nrm (fnK Try.prog (ctx (cV P F P' R N N')) (LB c) Try.f7 (mkArgs [w16, w16, bt] (key, at_, b, ())) []) = (T7 P F c key at_ b).eval := by kernel_rfl

/-! CtrTurns -/

abbrev t2w : Ty := .arr 2 w16
abbrev t2u : Ty := .arr 2 u64
noncomputable def bT : Code := loopAt Try.f8 0
abbrev eT : List ETy := [.dead, .box t2u, .dead, .box w16, .vec 2 u8, .dead]
def ST : RSpec := ⟨[1, 5, 7, 9, 11, 12, 13, 14], 118, [bt, .ptr 1 [], .bool, .ptr 3 [], bt, .vc 4 2, bt, i64], eT, [.box t2w, .box t2u, .box w16, .box w16, .vec 1 u8, .dead], [],
  fun x => match x with | .ret => ([6], [.bool], eT) | _ => ([5, 7, 9], [.ptr 1 [], .bool, .ptr 3 []], eT)⟩
def GT (b : List Int) (up : Bool) (f d : List Int) (i : Int) (n at_ c : List Int) : Tr ST.End :=
  .ite (decide (i < (b.length : Int))) (.chk (inArr i f.length) (.chk (inArr i d.length) (.chk (inArr i b.length) (.chk (inArr i c.length)
    (.ite (xorI .u8 (f.getD i.toNat 0) (d.getD i.toNat 0) != xorI .u8 (b.getD i.toNat 0) (c.getD i.toNat 0)) (.ret (.inr (.ret, encS [6] [.bool] eT 118 (false, ()) (n, at_, c, ()))))
      (.ret (.inl ((b, (), up, (), f, (), d, w (i + 1), ()), (n, at_, c, ())))))))))
    (.ret (.inr (.exit 0, encS [5, 7, 9] [.ptr 1 [], .bool, .ptr 3 []] eT 118 ((), up, (), ()) (n, at_, c, ()))))
theorem rT (P : Pb) (F : Fl) (P' : Pb) (R : Fl) (N N' : Nx) (b : List Int) (up : Bool) (f d : List Int) (i : Int) (n at_ c : List Int) :
    (ST.round (bodyK Try.prog (ctx (cV P F P' R N N')) L0 bT) (b, (), up, (), f, (), d, i, ()) (n, at_, c, ())).eval = (GT b up f d i n at_ c).eval := by kernel_rfl
def FT (t : List Int → List Int → List Int → List Int → Int → Bool) (xs : HL ST.Ts) (hs : HD ST.Es) : Tr (Ex × St) :=
  .chk (t xs.1 xs.2.2.2.2.1 xs.2.2.2.2.2.2.1 hs.2.2.1 xs.2.2.2.2.2.2.2.1) (.ret (.exit 0, encS [5, 7, 9] [.ptr 1 [], .bool, .ptr 3 []] eT 118 ((), xs.2.2.1, (), ()) (hs.1, hs.2.1, hs.2.2.1, ())))
def LT (t : List Int → List Int → List Int → List Int → Int → Bool) : Loops := fun j st => if j = 14 then ST.fn (FT t) st else .fail
def T8 (P : Pb) (F : Fl) (N : Nx) (t : List Int → List Int → List Int → List Int → Int → Bool) (key at_ b : List Int) (x y : Int) : Tr AV :=
  let place := w (x.tmod (wu (b.length : Int)))
  let c0 : List Int := [] ++ b
  let c := c0.set place.toNat (xorI .u8 (c0.getD place.toNat 0) (wb (y.tmod 256)))
  let lo := wu (x.tdiv 2)
  let hi := wu (y.tdiv 2)
  .ite (decide ((b.length : Int) > 200)) yes (.ite ((b.length : Int) == 0) yes (.ite (decide (wu (b.length : Int) = 0)) .fail (.chk (P b) (.chk (Vse.room (([] : List Int).length + b.length) 1) (.chk (inArr place c0.length) (.chk (inArr place c0.length)
    (.chk (P c) (.ite (((F key at_ b).length : Int) != (b.length : Int)) no (.ite (((F key at_ c).length : Int) != (b.length : Int)) no (.chk (t b (F key at_ b) (F key at_ c) c 0)
      (.ret (.v .bool (eqA (N (N at_ lo) hi) (N at_ (wu (lo + hi))))))))))))))))
theorem t8 (P : Pb) (F : Fl) (P' : Pb) (R : Fl) (N N' : Nx) (t : List Int → List Int → List Int → List Int → Int → Bool) (key at_ b : List Int) (x y : Int) :
    nrm (fnK Try.prog (ctx (cV P F P' R N N')) (LT t) Try.f8 (mkArgs [t2w, bt, t2u] ([key, at_], b, [x, y], ())) []) = (T8 P F N t key at_ b x y).eval := by kernel_rfl

end Go.Proofs.Ytlkddajnebjlcaa.Ctr

end
section
/- The laws of layer 4 (ctr): their walks answer true. -/
set_option linter.unusedVariables false
set_option maxRecDepth 100000
namespace Go.Proofs.Ytlkddajnebjlcaa.Ctr
open Go Vse Go.Proofs Gen

theorem eqA_self : ∀ a : List Int, eqA a a = true
  | [] => rfl
  | x :: a => by
    have h1 : decide (x = x) = true := decide_eq_true rfl
    have h2 : eqList (fun x y : Int => decide (x = y)) a a = true := eqA_self a
    show (decide (x = x) && eqList (fun x y : Int => decide (x = y)) a a) = true
    rw [h1, h2]; rfl
theorem eqA_of {a b : List Int} (h : a = b) : eqA a b = true := h ▸ eqA_self a

instance (l : List Int) : Decidable (Bytes l) := inferInstanceAs (Decidable (∀ x ∈ l, 0 ≤ x ∧ x < 256))

/-- a key, or a counter -/
def B16 (l : List Int) : Prop := Bytes l ∧ l.length = 16
instance (l : List Int) : Decidable (B16 l) := inferInstanceAs (Decidable (Bytes l ∧ l.length = 16))

theorem b16_ok {l : List Int} (h : Ty.ok w16 l) : B16 l := ⟨bytes_ok h, h.1⟩
theorem b16_next {a : List Int} (h : B16 a) (n : Int) : B16 (nextF a n) := ⟨next_bytes h.1 n, by rw [next_len, h.2]⟩

theorem flX_eq {key a b : List Int} (h : B16 a) (hb : b.length ≤ 1000000) : flX key a b = flipF key a b := flip_eq h.1 h.2 hb

theorem T6_true {key a b : List Int} (hk : B16 key) (ha : B16 a) : (T6 flipP flX flipP rflipF nextF rnextF key a b).eval = some (.v .bool true) := by
  unfold T6
  by_cases h : (b.length : Int) > 100
  · rw [ite_t (decide_eq_true h)]; rfl
  · have hb : b.length ≤ 1000000 := by omega
    have hp : flipP b = true := decide_eq_true hb
    have hs : sameI (flX key a b) (rflipF key a b) = true := by
      unfold sameI
      exact decide_eq_true ((flX_eq ha hb).trans (flips_same hk.1 hk.2 ha.1 ha.2 hb))
    have hn : ∀ x : Int, nextF a (wu x) = rnextF a (wu x) := fun x => by
      have : wu x = (((wu x).toNat : Nat) : Int) := by rw [wu_mod]; omega
      rw [this]
      exact nexts_same ha.1 (by rw [wu_mod]; omega)
    rw [ite_f (decide_eq_false h), chk_eval hp, chk_eval hp, ite_t hs]
    simp only [Tr.eval, eqA_of (hn _)]

/-! CtrBack -/

theorem key_byte {key a : List Int} (hk : B16 key) (ha : B16 a) (i : Nat) : IsB ((Aes.encI key a).getD i 0) := by
  have := Aes.encN_blk (Aes.keys_blk (blk_of hk.1 hk.2)) (blk_of ha.1 ha.2) 10 (Nat.le_refl _)
  exact this.2 i

theorem byte_get {b : List Int} (hb : Bytes b) (i : Nat) : IsB (b.getD i 0) := by
  obtain ⟨c, e, hc⟩ := bytes_get hb i
  rw [e]; exact isB_nat hc

theorem xor_back {x k : Int} (hx : IsB x) (hk : IsB k) : xorI .u8 (xorI .u8 x k) k = x := by
  obtain ⟨a, rfl, ha⟩ := hx.nat
  obtain ⟨c, rfl, hc⟩ := hk.nat
  rw [xorI_u8 ha hc, xorI_u8 (xor_lt256 ha hc) hc, Nat.xor_assoc, Nat.xor_self, Nat.xor_zero]

theorem xor_both {x y k : Int} (hx : IsB x) (hy : IsB y) (hk : IsB k) : xorI .u8 (xorI .u8 x k) (xorI .u8 y k) = xorI .u8 x y := by
  obtain ⟨a, rfl, ha⟩ := hx.nat
  obtain ⟨b, rfl, hb⟩ := hy.nat
  obtain ⟨c, rfl, hc⟩ := hk.nat
  rw [xorI_u8 ha hc, xorI_u8 hb hc, xorI_u8 (xor_lt256 ha hc) (xor_lt256 hb hc), xorI_u8 ha hb]
  congr 1
  rw [Nat.xor_comm b c, Nat.xor_assoc, ← Nat.xor_assoc c c b, Nat.xor_self, Nat.zero_xor]

theorem ext_getD {p q : List Int} (hl : p.length = q.length) (h : ∀ k, k < p.length → p.getD k 0 = q.getD k 0) : p = q := by
  apply List.ext_getElem hl
  intro i h1 h2
  have := h i h1
  rw [List.getD_eq_getElem?_getD, List.getD_eq_getElem?_getD, List.getElem?_eq_getElem h1, List.getElem?_eq_getElem h2] at this
  exact this

theorem flip_twice {key a b : List Int} (hk : B16 key) (ha : B16 a) (hb : Bytes b) : flipF key a (flipF key a b) = b := by
  refine ext_getD (by rw [flip_len, flip_len]) fun i hi => ?_
  rw [flip_len, flip_len] at hi
  rw [flip_get _ _ _ (by rw [flip_len]; exact hi)]
  unfold elemF
  rw [flip_get _ _ _ hi]
  unfold elemF
  exact xor_back (byte_get hb i) (key_byte hk (b16_next ha _) _)

theorem drop_getD (l : List Int) (n i : Nat) : (l.drop n).getD i 0 = l.getD (n + i) 0 := by
  rw [List.getD_eq_getElem?_getD, List.getD_eq_getElem?_getD, List.getElem?_drop]

theorem flip_part {key a b : List Int} (hk : B16 key) (ha : B16 a) (hb : b.length ≤ 1000000) {j : Nat} (hj : 16 * j ≤ b.length) : flipF key (nextF a ((j : Nat) : Int)) (b.drop (16 * j)) = (flipF key a b).drop (16 * j) := by
  refine ext_getD (by rw [flip_len, List.length_drop, List.length_drop, flip_len]) fun i hi => ?_
  rw [flip_len, List.length_drop] at hi
  rw [flip_get _ _ _ (by rw [List.length_drop]; exact hi), drop_getD, flip_get _ _ _ (by omega)]
  unfold elemF
  rw [drop_getD, next_add ha.1 ha.2 (by omega)]
  have h1 : (16 * j + i) / 16 = j + i / 16 := by omega
  have h2 : (16 * j + i) % 16 = i % 16 := by omega
  rw [h1, h2]

theorem behind_eq (l : List Int) (n : Nat) : behind l (n : Int) = l.drop n := by
  unfold behind
  rw [Int.toNat_natCast, Int.toNat_natCast, List.take_length]

def cB1 (key a b f : List Int) (i : Int) : Bool := decide (B16 key) && (decide (B16 a) && (decide (b.length ≤ 200) && (decide (f = flipF key a b) && decide (i = 16))))

theorem mB (up : Bool) {key a b : List Int} (hk : B16 key) (ha : B16 a) (hb : b.length ≤ 200) : ∀ (m j : Nat), b.length < 16 * (j + m) →
    SB.many (bodyK Try.prog CVF L0 bB) (m + 1) (b, (), (), up, flipF key a b, ((16 * j : Nat) : Int), ()) (key, a, ()) = some (.exit 0, encS [7] [.bool] eN 61 (up, ()) (key, a, ()))
  | 0, j, h => by
    refine rmany_inr ((rB _ _ _ _ _ _ b up _ _ key a).trans ?_) 0
    unfold GB
    rw [ite_f (decide_eq_false (by omega))]
    rfl
  | m + 1, j, h => by
    by_cases hj : 16 * j ≤ b.length
    · have e1 : sliceOK b ((16 * j : Nat) : Int) = true := by simp only [sliceOK, Bool.and_eq_true, decide_eq_true_eq]; omega
      have e2 : flipP (behind b ((16 * j : Nat) : Int)) = true := by
        rw [behind_eq]
        exact decide_eq_true (by rw [List.length_drop]; omega)
      have e3 : sliceOK (flipF key a b) ((16 * j : Nat) : Int) = true := by simp only [sliceOK, Bool.and_eq_true, decide_eq_true_eq, flip_len]; omega
      have e4 : wu (w (((16 * j : Nat) : Int).tdiv 16)) = ((j : Nat) : Int) := by
        have : ((16 * j : Nat) : Int).tdiv 16 = ((j : Nat) : Int) := by rw [Int.tdiv_eq_ediv_of_nonneg (by omega)]; omega
        rw [this, w_id (by omega) (by omega), wu_mod]
        omega
      have e5 : (!sameI (flX key (nextF a (wu (w (((16 * j : Nat) : Int).tdiv 16)))) (behind b ((16 * j : Nat) : Int))) (behind (flipF key a b) ((16 * j : Nat) : Int))) = false := by
        rw [e4, behind_eq, behind_eq, flX_eq (b16_next ha _) (by rw [List.length_drop]; omega), flip_part hk ha (by omega) hj]
        unfold sameI
        rw [decide_eq_true rfl]; rfl
      have e6 : w (((16 * j : Nat) : Int) + 16) = ((16 * (j + 1) : Nat) : Int) := (w_id (by omega) (by omega)).trans (by omega)
      refine (rmany_inl (d := ((b, (), (), up, flipF key a b, ((16 * (j + 1) : Nat) : Int), ()), (key, a, ()))) ((rB _ _ _ _ _ _ b up _ _ key a).trans ?_) (m + 1)).trans (mB up hk ha hb m (j + 1) (by omega))
      unfold GB
      rw [ite_t (decide_eq_true (by omega)), chk_eval e1, chk_eval e2, chk_eval e3, ite_f e5, e6]
      rfl
    · refine rmany_inr ((rB _ _ _ _ _ _ b up _ _ key a).trans ?_) (m + 1)
      unfold GB
      rw [ite_f (decide_eq_false (by omega))]
      rfl

theorem lB : LoopOK Try.prog (LB cB1) bB :=
  rloop_ok (L := LB cB1) (L' := L0) cV_sound (loopsOK_of (by kernel_rfl)) SB (F := FBk cB1) (i := 9) (by kernel_rfl) (fun _ => rfl) fun xs hs r h => by
    obtain ⟨b, u1, u2, up, f, i, u3⟩ := xs
    obtain ⟨key, a, u4⟩ := hs
    obtain ⟨h1, h2⟩ := Tr.chk_some h
    simp only [cB1, Bool.and_eq_true, decide_eq_true_eq] at h1
    obtain ⟨hk, ha, hb, e1, e2⟩ := h1
    have e2 : i = ((16 * 1 : Nat) : Int) := e2
    subst e1; subst e2
    exact ⟨_, (mB up hk ha hb 20 1 (by omega)).trans (congrArg some (Tr.ret_some h2))⟩

theorem T7_true {key a b : List Int} (hk : B16 key) (ha : B16 a) (hbb : Bytes b) : (T7 flipP flX cB1 key a b).eval = some (.v .bool true) := by
  unfold T7
  by_cases h : (b.length : Int) > 200
  · rw [ite_t (decide_eq_true h)]; rfl
  · have hb : b.length ≤ 1000000 := by omega
    have hp : flipP b = true := decide_eq_true hb
    have e0 := flX_eq (key := key) ha hb
    have hp2 : flipP (flipF key a b) = true := decide_eq_true (by rw [flip_len]; exact hb)
    have e1 : flX key a (flipF key a b) = b := (flX_eq ha (by rw [flip_len]; exact hb)).trans (flip_twice hk ha hbb)
    have hs : (!sameI b b) = false := by
      unfold sameI
      rw [decide_eq_true rfl]; rfl
    have hl : (((flipF key a b).length : Int) != (b.length : Int)) = false := by rw [flip_len, bne_self_eq_false]
    have hc : cB1 key a b (flipF key a b) 16 = true := by
      simp only [cB1, Bool.and_eq_true, decide_eq_true_eq, and_true, true_and]
      exact ⟨hk, ha, by omega⟩
    rw [ite_f (decide_eq_false h), e0, chk_eval hp, chk_eval hp2, e1, ite_f hs, ite_f hl, chk_eval hc]
    rfl

/-! CtrTurns -/

def cT1 (b f d c : List Int) (i : Int) : Bool := decide (i = 0) && (decide (f.length = b.length ∧ d.length = b.length ∧ c.length = b.length ∧ b.length ≤ 200) && decide (∀ j, j < b.length → xorI .u8 (f.getD j 0) (d.getD j 0) = xorI .u8 (b.getD j 0) (c.getD j 0)))

theorem mT (up : Bool) {b f d n a c : List Int} (hl : f.length = b.length ∧ d.length = b.length ∧ c.length = b.length ∧ b.length ≤ 200) (hx : ∀ j, j < b.length → xorI .u8 (f.getD j 0) (d.getD j 0) = xorI .u8 (b.getD j 0) (c.getD j 0)) : ∀ (m i : Nat), i + m = b.length →
    ST.many (bodyK Try.prog CVF L0 bT) (m + 1) (b, (), up, (), f, (), d, ((i : Nat) : Int), ()) (n, a, c, ()) = some (.exit 0, encS [5, 7, 9] [.ptr 1 [], .bool, .ptr 3 []] eT 118 ((), up, (), ()) (n, a, c, ()))
  | 0, i, h => by
    refine rmany_inr ((rT _ _ _ _ _ _ b up f d _ n a c).trans ?_) 0
    unfold GT
    rw [ite_f (decide_eq_false (by omega))]
    rfl
  | m + 1, i, h => by
    obtain ⟨l1, l2, l3, l4⟩ := hl
    have hne : (xorI .u8 (f.getD i 0) (d.getD i 0) != xorI .u8 (b.getD i 0) (c.getD i 0)) = false := by rw [hx i (by omega), bne_self_eq_false]
    have e6 : w ((i : Int) + 1) = ((i + 1 : Nat) : Int) := (w_id (by omega) (by omega)).trans (by omega)
    refine (rmany_inl (d := ((b, (), up, (), f, (), d, ((i + 1 : Nat) : Int), ()), (n, a, c, ()))) ((rT _ _ _ _ _ _ b up f d _ n a c).trans ?_) (m + 1)).trans (mT up ⟨l1, l2, l3, l4⟩ hx m (i + 1) (by omega))
    unfold GT
    rw [Int.toNat_natCast, ite_t (decide_eq_true (by omega)), chk_eval (inArr_nat (by omega)), chk_eval (inArr_nat (by omega)), chk_eval (inArr_nat (by omega)), chk_eval (inArr_nat (by omega)), ite_f hne, e6]
    rfl

theorem lT : LoopOK Try.prog (LT cT1) bT :=
  rloop_ok (L := LT cT1) (L' := L0) cV_sound (loopsOK_of (by kernel_rfl)) ST (F := FT cT1) (i := 14) (by kernel_rfl) (fun _ => rfl) fun xs hs r h => by
    obtain ⟨b, u1, up, u2, f, u3, d, i, u4⟩ := xs
    obtain ⟨n, a, c, u5⟩ := hs
    obtain ⟨h1, h2⟩ := Tr.chk_some h
    simp only [cT1, Bool.and_eq_true, decide_eq_true_eq] at h1
    obtain ⟨e1, hl, hx⟩ := h1
    have e1 : i = ((0 : Nat) : Int) := e1
    subst e1
    exact ⟨_, (mT up hl hx (List.length (α := Int) b) 0 (by omega)).trans (congrArg some (Tr.ret_some h2))⟩

theorem T8_true {key a b : List Int} {x y : Int} (hk : B16 key) (ha : B16 a) (hbb : Bytes b) (hx : 0 ≤ x ∧ x < 18446744073709551616) (hy : 0 ≤ y ∧ y < 18446744073709551616) : (T8 flipP flX nextF cT1 key a b x y).eval = some (.v .bool true) := by
  unfold T8
  simp only [List.nil_append]
  by_cases h : (b.length : Int) > 200
  · rw [ite_t (decide_eq_true h)]; rfl
  rw [ite_f (decide_eq_false h)]
  by_cases h0 : b.length = 0
  · rw [ite_t (by rw [h0]; rfl)]; rfl
  have hb : b.length ≤ 1000000 := by omega
  have hwl : wu (b.length : Int) = (b.length : Int) := by rw [wu_mod]; omega
  have hpl : ∃ p : Nat, w (x.tmod (wu (b.length : Int))) = ((p : Nat) : Int) ∧ p < b.length := by
    rw [hwl, Int.tmod_eq_emod_of_nonneg hx.1]
    have h1 := Int.emod_nonneg x (b := (b.length : Int)) (by omega)
    have h2 := Int.emod_lt_of_pos x (b := (b.length : Int)) (by omega)
    refine ⟨(x % (b.length : Int)).toNat, ?_, by omega⟩
    rw [w_id (by omega) (by omega)]
    omega
  obtain ⟨p, hp, hpb⟩ := hpl
  rw [hp, Int.toNat_natCast]
  generalize hcd : b.set p (xorI .u8 (b.getD p 0) (wb (y.tmod 256))) = c
  have hcl : c.length = b.length := by rw [← hcd, List.length_set]
  have hcb : Bytes c := fun z hz => by
    rw [← hcd] at hz
    rcases List.mem_or_eq_of_mem_set hz with h' | rfl
    · exact hbb z h'
    · have h1 : IsB (wb (y.tmod 256)) := by unfold IsB; rw [wb_mod]; omega
      exact Aes.xorB (byte_get hbb p) h1
  have e1 := flX_eq (key := key) ha hb
  have e2 : flX key a c = flipF key a c := flX_eq ha (by omega)
  have hpp : flipP b = true := decide_eq_true hb
  have hpc : flipP c = true := decide_eq_true (by omega)
  have hr : Vse.room (([] : List Int).length + b.length) 1 = true := by simp only [Vse.room, decide_eq_true_eq, List.length_nil]; omega
  have l1 : (((flipF key a b).length : Int) != (b.length : Int)) = false := by rw [flip_len, bne_self_eq_false]
  have l2 : (((flipF key a c).length : Int) != (b.length : Int)) = false := by rw [flip_len, hcl, bne_self_eq_false]
  have ht : cT1 b (flipF key a b) (flipF key a c) c 0 = true := by
    simp only [cT1, Bool.and_eq_true, decide_eq_true_eq, true_and]
    refine ⟨⟨flip_len _ _ _, by rw [flip_len, hcl], hcl, by omega⟩, fun j hj => ?_⟩
    rw [flip_get _ _ _ hj, flip_get _ _ _ (by omega)]
    exact xor_both (byte_get hbb j) (byte_get hcb j) (key_byte hk (b16_next ha _) _)
  have hn : nextF (nextF a (wu (x.tdiv 2))) (wu (y.tdiv 2)) = nextF a (wu (wu (x.tdiv 2) + wu (y.tdiv 2))) := by
    have q1 : wu (x.tdiv 2) = (((x / 2).toNat : Nat) : Int) := by rw [Int.tdiv_eq_ediv_of_nonneg hx.1, wu_mod]; omega
    have q2 : wu (y.tdiv 2) = (((y / 2).toNat : Nat) : Int) := by rw [Int.tdiv_eq_ediv_of_nonneg hy.1, wu_mod]; omega
    have q3 : wu ((((x / 2).toNat : Nat) : Int) + (((y / 2).toNat : Nat) : Int)) = (((x / 2).toNat + (y / 2).toNat : Nat) : Int) := by rw [wu_mod]; omega
    rw [q1, q2, q3]
    exact next_add ha.1 ha.2 (by omega)
  rw [ite_f (by simp only [beq_eq_false_iff_ne, ne_eq]; omega), ite_f (decide_eq_false (by rw [hwl]; omega)), chk_eval hpp, chk_eval hr, chk_eval (inArr_nat hpb), chk_eval (inArr_nat hpb), chk_eval hpc, e1, e2, ite_f l1, ite_f l2, chk_eval ht]
  simp only [Tr.eval, eqA_of hn]

end Go.Proofs.Ytlkddajnebjlcaa.Ctr

end

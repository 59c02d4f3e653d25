/- What the functions compute, part 2. No conditions. -/
import Derived.Test.YtinbejnakemfjaaFnPutThereFn1
namespace Go.Proofs.Ytinbejnakemfjaa
open Go Go.Gm
noncomputable def f27c : Code := (Try.f27.body).getD .skip
def f27k : Nat → Kp := kat [⟨[1, 3, 5, 6], [], [], []⟩, ⟨[1, 3, 5, 6, 10], [], [], []⟩, ⟨[6, 7], [], [], []⟩, ⟨[6, 7], [], [], []⟩]
noncomputable def f27e : Env := tab.env [(46, s46), (50, s50), (55, s55)]
theorem f27_run {R : Type} (n : Nat) (k : List Dt → Option R) (a0 : NodeT) (a1 : List BA) (a2 : NodeT) : evFn f27e f27k n f27c [.ro, .ro, .ro] [false, false] true [.cell 6 31, .tmp 7] [31, 4] [.d .node a0, .d (.sl .str) a1, .d .node a2] k =
 (cond ((a1.length : Int) == (0 : Int))
 (cond (sm_node (eN a2))
 (k [.d .node (eN a2), .d .bool true])
 none)
 (cond (gPW (eN a0) a1 (eN a2))
 (k [.d .node (eN ((putAtW (eN a0) a1 (eN a2)).1)), .d .bool ((putAtW (eN a0) a1 (eN a2)).2)])
 none)) := by kernel_rfl
theorem f27_spec (a0 : NodeT) (a1 : List BA) (a2 : NodeT) (hg : gP a0 a1 a2 = true) : ∃ keep rounds, ∀ {R : Type} (k : List Dt → Option R), evFn f27e keep rounds f27c [.ro, .ro, .ro] [false, false] true [.cell 6 31, .tmp 7] [31, 4] [.d .node a0, .d (.sl .str) a1, .d .node a2] k = k [.d .node ((putPtr a0 a1 a2).1), .d .bool ((putPtr a0 a1 a2).2)] := by
 have hgp := hg
 simp only [gP, Bool.and_eq_true] at hg
 obtain ⟨hg, hpa, hx2⟩ := hg
 refine ⟨f27k, 0, fun {R} k => ?_⟩
 rw [f27_run]
 show _ = k [.d .node (putPtr a0 a1 a2).1, .d .bool (putPtr a0 a1 a2).2]
 unfold putPtr
 cases a1 with
 | nil => simp only [eta_node, eN_eq, hx2]; rfl
 | cons p r =>
  have hgw : gPW a0 (p :: r) a2 = true := by simp only [gPW, hgp]; rfl
  have l7 : (((p :: r).length : Int) == (0 : Int)) = false := by rw [beq_eq_false_iff_ne]; simp only [List.length_cons]; omega
  simp only [eta_node, eN_eq, hgw, l7, cond_true, cond_false]
noncomputable def q27 : List Dt → Option (Bool × List Dt)
 | [.d .node a0, .d (.sl .str) a1, .d .node a2] => some ((gP a0 a1 a2), [.d .node ((putPtr a0 a1 a2).1), .d .bool ((putPtr a0 a1 a2).2)])
 | _ => none
noncomputable def s27 : Gm.Spec := Gm.Spec.of [.ro, .ro, .ro] [false, false] true q27
theorem good27 : Gm.Good Try.prog (27, s27) := by
 have hl : ∀ x ∈ [(46, s46), (50, s50), (55, s55)], Gm.Good Try.prog x := fcJ.2 ⟨good46, fcJ.2 ⟨good50, fcJ.2 ⟨good55, fcN⟩⟩⟩
 refine ⟨⟨spec_ok (tab_ok.env hl) (tab.natl hl) Try.func27 (by kernel_rfl : Try.f27.body = some f27c) [31, 4] (by kernel_rfl) ?_, _, Try.func27, by kernel_rfl, of_decide_eq_true (by kernel_rfl)⟩, Gm.Spec.of_natl _ _ _ _⟩
 intro ds outs h
 unfold q27 at h
 split at h
 ·simp only [Option.some.injEq, Prod.mk.injEq] at h; obtain ⟨hg, h⟩ := h; cases h; exact f27_spec _ _ _ hg
 ·cases h
noncomputable def f71S0 (y0 : BA) (y1 : Int) (y2 : Int) (y3 : Int) (y4 : BA) (y5 : List BA) (y6 : List NodeT) (y7 : Int) (y8 : Int) (y9 : BA) (y10 : List BA) (y11 : List NodeT) (y15 : Int) (y16 : Int) (y17 : BA) (y18 : List BA) (y19 : List NodeT) : St := ⟨[(1, .c (.one (.v (.string y0)))), (3, .c (.one (.pt 3 0))), (5, .c (.one (.pt 5 0))), (6, .c (.one (.pt 6 0))), (7, .c (.one (.pt 7 0))), (8, .c (.one (.v (.int .i64 y1))))], [(3, ⟨.node, [.v (.int .i64 y2), .v (.int .i64 y3), .v (.string y4), .ro .str y5, .ro .node y6]⟩), (5, ⟨.node, [.v (.int .i64 y7), .v (.int .i64 y8), .v (.string y9), .ro .str y10, .ro .node y11]⟩), (6, ⟨.node, [.v (.int .i64 (0 : Int)), .v (.int .i64 (0 : Int)), .v (.string ByteArray.empty), .nl, .nl]⟩), (7, ⟨.node, [.v (.int .i64 y15), .v (.int .i64 y16), .v (.string y17), .h 768 0 0 [], .h 769 0 0 []]⟩)], [(768, .live ⟨.str, .deep, 0, [], y18⟩), (769, .live ⟨.node, .deep, 0, [], y19⟩)]⟩
noncomputable def f71S1 (y0 : BA) (y1 : Int) (y2 : Bool) (y3 : Int) (y4 : Int) (y5 : BA) (y6 : List BA) (y7 : List NodeT) (y8 : Int) (y9 : Int) (y10 : BA) (y11 : List BA) (y12 : List NodeT) (y16 : Int) (y17 : Int) (y18 : BA) (y19 : List BA) (y20 : List NodeT) : St := ⟨[(1, .c (.one (.v (.string y0)))), (3, .c (.one (.pt 3 0))), (5, .c (.one (.pt 5 0))), (6, .c (.one (.pt 6 0))), (7, .c (.one (.pt 7 0))), (8, .c (.one (.v (.int .i64 y1)))), (51, .c (.one (.v (.bool y2))))], [(3, ⟨.node, [.v (.int .i64 y3), .v (.int .i64 y4), .v (.string y5), .ro .str y6, .ro .node y7]⟩), (5, ⟨.node, [.v (.int .i64 y8), .v (.int .i64 y9), .v (.string y10), .ro .str y11, .ro .node y12]⟩), (6, ⟨.node, [.v (.int .i64 (0 : Int)), .v (.int .i64 (0 : Int)), .v (.string ByteArray.empty), .nl, .nl]⟩), (7, ⟨.node, [.v (.int .i64 y16), .v (.int .i64 y17), .v (.string y18), .h 768 0 0 [], .h 769 0 0 []]⟩)], [(768, .live ⟨.str, .deep, 0, [], y19⟩), (769, .live ⟨.node, .deep, 0, [], y20⟩)]⟩
noncomputable def f71c : Code := (Try.f71.body).getD .skip
def f71k : Nat → Kp := kat [⟨[1, 3, 5, 6], [], [], []⟩, ⟨[1, 3, 5, 6, 7], [], [], []⟩, ⟨[1, 3, 5, 6, 7, 24], [], [], []⟩, ⟨[6], [], [], []⟩, ⟨[1, 3, 5, 6, 7, 8], [], [], []⟩, ⟨[1, 3, 5, 6, 7, 8, 30], [], [], []⟩, ⟨[6, 7], [], [], []⟩, ⟨[6], [], [], []⟩, ⟨[1, 3, 5, 6, 7, 8], [], [], []⟩, ⟨[1, 3, 5, 6, 7, 8, 51], [], [], []⟩, ⟨[1, 3, 5, 6, 7, 8], [], [], []⟩, ⟨[1, 3, 5, 6, 7, 8, 9], [], [], []⟩, ⟨[3, 5, 6, 7, 8, 9], [], [], []⟩, ⟨[3, 5, 6, 7, 8, 9, 10], [], [], []⟩, ⟨[3, 6, 7, 8, 9, 10], [], [], []⟩, ⟨[6], [], [], []⟩]
noncomputable def f71e : Env := tab.env [(44, s44), (66, s66)]
noncomputable def f71L0 {R : Type} (n : Nat) (x0 : Int → Bool → Option R) (x1 : Int → Option R) (wM : BA) (wJ : Int) (wK : Int) (wL : BA) (wC : List BA) (wD : List NodeT) (wE : Int) (wF : Int) (wG : BA) (wH : List BA) (wI : List NodeT) (wP : Int) (wQ : Int) (wR : BA) (wN : List BA) (wO : List NodeT) : Nat → Int → Option R
  | 0, _ => none
  | m + 1, wB =>
    (cond (decide (wB < (wC.length : Int)))
   (cond ((decide ((0 : Int) ≤ wB)) && (decide (wB < (wC.length : Int))))
    (cond (sLt (atI (t := .str) wC (Int.toNat wB)) wM)
     (f71L0 n x0 x1 wM wJ wK wL wC wD wE wF wG wH wI wP wQ wR wN wO m (IntKind.wrap .i64 (wB + (1 : Int))))
     (x0 wB (sLt (atI (t := .str) wC (Int.toNat wB)) wM)))
    none)
   (x1 wB))
theorem f71L0_b {R : Type} (n : Nat) (k' : Ex → St → Option R) (wM : BA) (wB : Int) (wJ : Int) (wK : Int) (wL : BA) (wC : List BA) (wD : List NodeT) (wE : Int) (wF : Int) (wG : BA) (wH : List BA) (wI : List NodeT) (wP : Int) (wQ : Int) (wR : BA) (wN : List BA) (wO : List NodeT) : ev f71e f71k n (cAt [1,1,1,1,1,1,0,0,0] f71c) (f71S0 wM wB wJ wK wL wC wD wE wF wG wH wI wP wQ wR wN wO) k' =
 (cond (decide (wB < (wC.length : Int)))
 (cond ((decide ((0 : Int) ≤ wB)) && (decide (wB < (wC.length : Int))))
 (cond (sLt (atI (t := .str) wC (Int.toNat wB)) wM)
 (k' .normal (f71S0 wM (IntKind.wrap .i64 (wB + (1 : Int))) wJ wK wL wC wD wE wF wG wH wI wP wQ wR wN wO))
 (k' (.exit 0) (f71S1 wM wB (sLt (atI (t := .str) wC (Int.toNat wB)) wM) wJ wK wL wC wD wE wF wG wH wI wP wQ wR wN wO)))
 none)
 (k' (.exit 0) (f71S1 wM wB false wJ wK wL wC wD wE wF wG wH wI wP wQ wR wN wO))) := by kernel_rfl
theorem f71L0_eq {R : Type} (n : Nat) (k' : Ex → St → Option R) (wM : BA) (wJ : Int) (wK : Int) (wL : BA) (wC : List BA) (wD : List NodeT) (wE : Int) (wF : Int) (wG : BA) (wH : List BA) (wI : List NodeT) (wP : Int) (wQ : Int) (wR : BA) (wN : List BA) (wO : List NodeT) : ∀ (m : Nat) (wB : Int), iter (fun st k => ev f71e f71k n (cAt [1,1,1,1,1,1,0,0,0] f71c) st k) m (f71S0 wM wB wJ wK wL wC wD wE wF wG wH wI wP wQ wR wN wO) k' = f71L0 n (fun (wA : Int) (wY : Bool) => k' (.exit 0) (f71S1 wM wA wY wJ wK wL wC wD wE wF wG wH wI wP wQ wR wN wO)) (fun (wA : Int) => k' (.exit 0) (f71S1 wM wA false wJ wK wL wC wD wE wF wG wH wI wP wQ wR wN wO)) wM wJ wK wL wC wD wE wF wG wH wI wP wQ wR wN wO m wB := by
 intro m; induction m with
 | zero => intros; rfl
 | succ m ih =>
  intro wB
  simp only [iter]
  rw [f71L0_b]
  simp only [ih, f71L0]
noncomputable def f71K0 {R : Type} (n : Nat) (k' : Ex → St → Option R) : Ex → St → Option R := (blockK 0 (seqK f71e f71k n (cAt [1,1,1,1,1,1,1] f71c) k'))
theorem f71K0_x0 {R : Type} (n : Nat) (k : List Dt → Option R) (a0 : NodeT) (a1 : BA) (a2 : NodeT) (wM : BA) (wJ : Int) (wK : Int) (wL : BA) (wC : List BA) (wD : List NodeT) (wE : Int) (wF : Int) (wG : BA) (wH : List BA) (wI : List NodeT) (wP : Int) (wQ : Int) (wR : BA) (wN : List BA) (wO : List NodeT) (wA : Int) (wY : Bool) : f71K0 n (exitK f71e [.ro, .ro, .ro] [false] true [.cell 6 31] [31] [.d .node a0, .d .str a1, .d .node a2] k) (.exit 0) (f71S1 wM wA wY wJ wK wL wC wD wE wF wG wH wI wP wQ wR wN wO) =
 (cond ((decide ((0 : Int) ≤ wA)) && (decide (wA ≤ (wN.length : Int))))
 (cond (Nat.ble (0 + ((wN.take (Int.toNat wA)).drop 0).length) LIM)
 (cond (Nat.ble ((([] : List BA) ++ ((wN.take (Int.toNat wA)).drop 0)).length + 1) LIM)
 (cond ((decide ((0 : Int) ≤ wA)) && (decide (wA ≤ (wO.length : Int))))
 (cond (Nat.ble (0 + ((wO.take (Int.toNat wA)).drop 0).length) LIM)
 (cond (sm_node (⟨wE, wF, wG, wH, wI⟩ : NodeT))
 (cond (Nat.ble ((([] : List NodeT) ++ ((wO.take (Int.toNat wA)).drop 0)).length + 1) LIM)
 (cond ((decide ((0 : Int) ≤ wA)) && ((decide (wA ≤ (wN.length : Int))) && (decide ((wN.length : Int) ≤ (wN.length : Int)))))
 (cond (Nat.ble (((([] : List BA) ++ ((wN.take (Int.toNat wA)).drop 0)) ++ ([wM] : List BA)).length + ((wN.take (Int.toNat (wN.length : Int))).drop (Int.toNat wA)).length) LIM)
 (cond ((decide ((0 : Int) ≤ wA)) && ((decide (wA ≤ (wO.length : Int))) && (decide ((wO.length : Int) ≤ (wO.length : Int)))))
 (cond (leC (Int.toNat wA) 0 (Int.toNat wA) 0)
 (cond (Nat.ble (((([] : List NodeT) ++ ((wO.take (Int.toNat wA)).drop 0)) ++ ([(⟨wE, wF, wG, wH, wI⟩ : NodeT)] : List NodeT)).length + ((wO.take (Int.toNat (wO.length : Int))).drop (Int.toNat wA)).length) LIM)
 (k [.d .node (⟨wJ, wK, wL, (((([] : List BA) ++ ((wN.take (Int.toNat wA)).drop 0)) ++ ([wM] : List BA)) ++ ((wN.take (Int.toNat (wN.length : Int))).drop (Int.toNat wA))), (((([] : List NodeT) ++ ((wO.take (Int.toNat wA)).drop 0)) ++ ([(⟨wE, wF, wG, wH, wI⟩ : NodeT)] : List NodeT)) ++ ((wO.take (Int.toNat (wO.length : Int))).drop (Int.toNat wA)))⟩ : NodeT)])
 none)
 none)
 none)
 none)
 none)
 none)
 none)
 none)
 none)
 none)
 none)
 none) := by kernel_rfl
theorem f71K0_x1 {R : Type} (n : Nat) (k : List Dt → Option R) (a0 : NodeT) (a1 : BA) (a2 : NodeT) (wM : BA) (wJ : Int) (wK : Int) (wL : BA) (wC : List BA) (wD : List NodeT) (wE : Int) (wF : Int) (wG : BA) (wH : List BA) (wI : List NodeT) (wP : Int) (wQ : Int) (wR : BA) (wN : List BA) (wO : List NodeT) (wA : Int) : f71K0 n (exitK f71e [.ro, .ro, .ro] [false] true [.cell 6 31] [31] [.d .node a0, .d .str a1, .d .node a2] k) (.exit 0) (f71S1 wM wA false wJ wK wL wC wD wE wF wG wH wI wP wQ wR wN wO) =
 (cond ((decide ((0 : Int) ≤ wA)) && (decide (wA ≤ (wN.length : Int))))
 (cond (Nat.ble (0 + ((wN.take (Int.toNat wA)).drop 0).length) LIM)
 (cond (Nat.ble ((([] : List BA) ++ ((wN.take (Int.toNat wA)).drop 0)).length + 1) LIM)
 (cond ((decide ((0 : Int) ≤ wA)) && (decide (wA ≤ (wO.length : Int))))
 (cond (Nat.ble (0 + ((wO.take (Int.toNat wA)).drop 0).length) LIM)
 (cond (sm_node (⟨wE, wF, wG, wH, wI⟩ : NodeT))
 (cond (Nat.ble ((([] : List NodeT) ++ ((wO.take (Int.toNat wA)).drop 0)).length + 1) LIM)
 (cond ((decide ((0 : Int) ≤ wA)) && ((decide (wA ≤ (wN.length : Int))) && (decide ((wN.length : Int) ≤ (wN.length : Int)))))
 (cond (Nat.ble (((([] : List BA) ++ ((wN.take (Int.toNat wA)).drop 0)) ++ ([wM] : List BA)).length + ((wN.take (Int.toNat (wN.length : Int))).drop (Int.toNat wA)).length) LIM)
 (cond ((decide ((0 : Int) ≤ wA)) && ((decide (wA ≤ (wO.length : Int))) && (decide ((wO.length : Int) ≤ (wO.length : Int)))))
 (cond (leC (Int.toNat wA) 0 (Int.toNat wA) 0)
 (cond (Nat.ble (((([] : List NodeT) ++ ((wO.take (Int.toNat wA)).drop 0)) ++ ([(⟨wE, wF, wG, wH, wI⟩ : NodeT)] : List NodeT)).length + ((wO.take (Int.toNat (wO.length : Int))).drop (Int.toNat wA)).length) LIM)
 (k [.d .node (⟨wJ, wK, wL, (((([] : List BA) ++ ((wN.take (Int.toNat wA)).drop 0)) ++ ([wM] : List BA)) ++ ((wN.take (Int.toNat (wN.length : Int))).drop (Int.toNat wA))), (((([] : List NodeT) ++ ((wO.take (Int.toNat wA)).drop 0)) ++ ([(⟨wE, wF, wG, wH, wI⟩ : NodeT)] : List NodeT)) ++ ((wO.take (Int.toNat (wO.length : Int))).drop (Int.toNat wA)))⟩ : NodeT)])
 none)
 none)
 none)
 none)
 none)
 none)
 none)
 none)
 none)
 none)
 none)
 none) := by kernel_rfl
theorem f71_run {R : Type} (n : Nat) (k : List Dt → Option R) (a0 : NodeT) (a1 : BA) (a2 : NodeT) : evFn f71e f71k n f71c [.ro, .ro, .ro] [false] true [.cell 6 31] [31] [.d .node a0, .d .str a1, .d .node a2] k =
 (cond (sm_node (eN a0))
 (cond ((NodeT.kind a0) != (5 : Int))
 (k [.d .node (eN a0)])
 (cond (((NodeT.keys a0).length : Int) != ((NodeT.kids a0).length : Int))
 (k [.d .node (eN a0)])
 (cond ((fun (x : NodeT) (_ : BA) => sm_node x) (eN a0) a1)
 (cond (decide ((keyAt (eN a0) a1) ≥ (0 : Int)))
 (cond (sm_node (eN a2))
 (cond ((decide ((0 : Int) ≤ (keyAt (eN a0) a1))) && (decide ((keyAt (eN a0) a1) < ((NodeT.kids a0).length : Int))))
 (k [.d .node (⟨(NodeT.kind a0), (NodeT.n a0), (NodeT.s a0), (NodeT.keys a0), ((NodeT.kids a0).set (Int.toNat (keyAt (eN a0) a1)) (eN a2))⟩ : NodeT)])
 none)
 none)
 (f71L0 n (fun (wA : Int) (wY : Bool) =>
 (cond ((decide ((0 : Int) ≤ wA)) && (decide (wA ≤ ((NodeT.keys a0).length : Int))))
 (cond (Nat.ble (0 + (((NodeT.keys a0).take (Int.toNat wA)).drop 0).length) LIM)
 (cond (Nat.ble ((([] : List BA) ++ (((NodeT.keys a0).take (Int.toNat wA)).drop 0)).length + 1) LIM)
 (cond ((decide ((0 : Int) ≤ wA)) && (decide (wA ≤ ((NodeT.kids a0).length : Int))))
 (cond (Nat.ble (0 + (((NodeT.kids a0).take (Int.toNat wA)).drop 0).length) LIM)
 (cond (sm_node (⟨(NodeT.kind a2), (NodeT.n a2), (NodeT.s a2), (NodeT.keys a2), (NodeT.kids a2)⟩ : NodeT))
 (cond (Nat.ble ((([] : List NodeT) ++ (((NodeT.kids a0).take (Int.toNat wA)).drop 0)).length + 1) LIM)
 (cond ((decide ((0 : Int) ≤ wA)) && ((decide (wA ≤ ((NodeT.keys a0).length : Int))) && (decide (((NodeT.keys a0).length : Int) ≤ ((NodeT.keys a0).length : Int)))))
 (cond (Nat.ble (((([] : List BA) ++ (((NodeT.keys a0).take (Int.toNat wA)).drop 0)) ++ ([a1] : List BA)).length + (((NodeT.keys a0).take (Int.toNat ((NodeT.keys a0).length : Int))).drop (Int.toNat wA)).length) LIM)
 (cond ((decide ((0 : Int) ≤ wA)) && ((decide (wA ≤ ((NodeT.kids a0).length : Int))) && (decide (((NodeT.kids a0).length : Int) ≤ ((NodeT.kids a0).length : Int)))))
 (cond (leC (Int.toNat wA) 0 (Int.toNat wA) 0)
 (cond (Nat.ble (((([] : List NodeT) ++ (((NodeT.kids a0).take (Int.toNat wA)).drop 0)) ++ ([(⟨(NodeT.kind a2), (NodeT.n a2), (NodeT.s a2), (NodeT.keys a2), (NodeT.kids a2)⟩ : NodeT)] : List NodeT)).length + (((NodeT.kids a0).take (Int.toNat ((NodeT.kids a0).length : Int))).drop (Int.toNat wA)).length) LIM)
 (k [.d .node (⟨(NodeT.kind a0), (NodeT.n a0), (NodeT.s a0), (((([] : List BA) ++ (((NodeT.keys a0).take (Int.toNat wA)).drop 0)) ++ ([a1] : List BA)) ++ (((NodeT.keys a0).take (Int.toNat ((NodeT.keys a0).length : Int))).drop (Int.toNat wA))), (((([] : List NodeT) ++ (((NodeT.kids a0).take (Int.toNat wA)).drop 0)) ++ ([(⟨(NodeT.kind a2), (NodeT.n a2), (NodeT.s a2), (NodeT.keys a2), (NodeT.kids a2)⟩ : NodeT)] : List NodeT)) ++ (((NodeT.kids a0).take (Int.toNat ((NodeT.kids a0).length : Int))).drop (Int.toNat wA)))⟩ : NodeT)])
 none)
 none)
 none)
 none)
 none)
 none)
 none)
 none)
 none)
 none)
 none)
 none)) (fun (wA : Int) =>
 (cond ((decide ((0 : Int) ≤ wA)) && (decide (wA ≤ ((NodeT.keys a0).length : Int))))
 (cond (Nat.ble (0 + (((NodeT.keys a0).take (Int.toNat wA)).drop 0).length) LIM)
 (cond (Nat.ble ((([] : List BA) ++ (((NodeT.keys a0).take (Int.toNat wA)).drop 0)).length + 1) LIM)
 (cond ((decide ((0 : Int) ≤ wA)) && (decide (wA ≤ ((NodeT.kids a0).length : Int))))
 (cond (Nat.ble (0 + (((NodeT.kids a0).take (Int.toNat wA)).drop 0).length) LIM)
 (cond (sm_node (⟨(NodeT.kind a2), (NodeT.n a2), (NodeT.s a2), (NodeT.keys a2), (NodeT.kids a2)⟩ : NodeT))
 (cond (Nat.ble ((([] : List NodeT) ++ (((NodeT.kids a0).take (Int.toNat wA)).drop 0)).length + 1) LIM)
 (cond ((decide ((0 : Int) ≤ wA)) && ((decide (wA ≤ ((NodeT.keys a0).length : Int))) && (decide (((NodeT.keys a0).length : Int) ≤ ((NodeT.keys a0).length : Int)))))
 (cond (Nat.ble (((([] : List BA) ++ (((NodeT.keys a0).take (Int.toNat wA)).drop 0)) ++ ([a1] : List BA)).length + (((NodeT.keys a0).take (Int.toNat ((NodeT.keys a0).length : Int))).drop (Int.toNat wA)).length) LIM)
 (cond ((decide ((0 : Int) ≤ wA)) && ((decide (wA ≤ ((NodeT.kids a0).length : Int))) && (decide (((NodeT.kids a0).length : Int) ≤ ((NodeT.kids a0).length : Int)))))
 (cond (leC (Int.toNat wA) 0 (Int.toNat wA) 0)
 (cond (Nat.ble (((([] : List NodeT) ++ (((NodeT.kids a0).take (Int.toNat wA)).drop 0)) ++ ([(⟨(NodeT.kind a2), (NodeT.n a2), (NodeT.s a2), (NodeT.keys a2), (NodeT.kids a2)⟩ : NodeT)] : List NodeT)).length + (((NodeT.kids a0).take (Int.toNat ((NodeT.kids a0).length : Int))).drop (Int.toNat wA)).length) LIM)
 (k [.d .node (⟨(NodeT.kind a0), (NodeT.n a0), (NodeT.s a0), (((([] : List BA) ++ (((NodeT.keys a0).take (Int.toNat wA)).drop 0)) ++ ([a1] : List BA)) ++ (((NodeT.keys a0).take (Int.toNat ((NodeT.keys a0).length : Int))).drop (Int.toNat wA))), (((([] : List NodeT) ++ (((NodeT.kids a0).take (Int.toNat wA)).drop 0)) ++ ([(⟨(NodeT.kind a2), (NodeT.n a2), (NodeT.s a2), (NodeT.keys a2), (NodeT.kids a2)⟩ : NodeT)] : List NodeT)) ++ (((NodeT.kids a0).take (Int.toNat ((NodeT.kids a0).length : Int))).drop (Int.toNat wA)))⟩ : NodeT)])
 none)
 none)
 none)
 none)
 none)
 none)
 none)
 none)
 none)
 none)
 none)
 none)) a1 (NodeT.kind a0) (NodeT.n a0) (NodeT.s a0) (NodeT.keys a0) (NodeT.kids a0) (NodeT.kind a2) (NodeT.n a2) (NodeT.s a2) (NodeT.keys a2) (NodeT.kids a2) (NodeT.kind a0) (NodeT.n a0) (NodeT.s a0) (NodeT.keys a0) (NodeT.kids a0) n (0 : Int)))
 none)))
 none) := by
  refine Eq.trans (b := (cond (sm_node (eN a0))
  (cond ((NodeT.kind a0) != (5 : Int))
   (k [.d .node (eN a0)])
   (cond (((NodeT.keys a0).length : Int) != ((NodeT.kids a0).length : Int))
    (k [.d .node (eN a0)])
    (cond ((fun (x : NodeT) (_ : BA) => sm_node x) (eN a0) a1)
     (cond (decide ((keyAt (eN a0) a1) ≥ (0 : Int)))
      (cond (sm_node (eN a2))
       (cond ((decide ((0 : Int) ≤ (keyAt (eN a0) a1))) && (decide ((keyAt (eN a0) a1) < ((NodeT.kids a0).length : Int))))
        (k [.d .node (⟨(NodeT.kind a0), (NodeT.n a0), (NodeT.s a0), (NodeT.keys a0), ((NodeT.kids a0).set (Int.toNat (keyAt (eN a0) a1)) (eN a2))⟩ : NodeT)])
        none)
       none)
      (iter (fun st k => ev f71e f71k n (cAt [1,1,1,1,1,1,0,0,0] f71c) st k) n (f71S0 a1 (0 : Int) (NodeT.kind a0) (NodeT.n a0) (NodeT.s a0) (NodeT.keys a0) (NodeT.kids a0) (NodeT.kind a2) (NodeT.n a2) (NodeT.s a2) (NodeT.keys a2) (NodeT.kids a2) (NodeT.kind a0) (NodeT.n a0) (NodeT.s a0) (NodeT.keys a0) (NodeT.kids a0)) (f71K0 n (exitK f71e [.ro, .ro, .ro] [false] true [.cell 6 31] [31] [.d .node a0, .d .str a1, .d .node a2] k))))
     none)))
  none)) (by kernel_rfl) ?_
  simp only [f71L0_eq, f71K0_x0, f71K0_x1]
theorem f71_spec (a0 : NodeT) (a1 : BA) (a2 : NodeT) (hg : gS3 a0 a1 a2 = true) : ∃ keep rounds, ∀ {R : Type} (k : List Dt → Option R), evFn f71e keep rounds f71c [.ro, .ro, .ro] [false] true [.cell 6 31] [31] [.d .node a0, .d .str a1, .d .node a2] k = k [.d .node (setK a0 a1 a2)] := by
 have hg3 := hg
 simp only [gS3, Bool.and_eq_true] at hg
 obtain ⟨hg, hs1, hx2⟩ := hg
 have hg0 := hg
 rw [sm_node_def] at hg
 simp only [Bool.and_eq_true] at hg
 obtain ⟨_, _, _, hke, hki⟩ := hg
 have nke := smL_len hke
 have nki := smL_len hki
 refine ⟨f71k, a0.keys.length + 1, fun {R} k => ?_⟩
 rw [f71_run]
 simp only [eta_node, eN_eq, hg0, hx2, cond_true]
 show _ = k [.d .node (setK a0 a1 a2)]
 cases h5 : a0.kind == (5 : Int)
 ·rw [show (a0.kind != (5 : Int)) = true by simp only [bne, h5]; rfl]
  unfold setK isMapN; rw [h5]; rfl
 rw [show (a0.kind != (5 : Int)) = false by simp only [bne, h5]; rfl]
 cases hl : ((a0.keys.length : Int) == (a0.kids.length : Int))
 ·rw [show ((a0.keys.length : Int) != (a0.kids.length : Int)) = true by simp only [bne, hl]; rfl]
  unfold setK isMapN; rw [h5, hl]; rfl
 rw [show ((a0.keys.length : Int) != (a0.kids.length : Int)) = false by simp only [bne, hl]; rfl]
 have hm : isMapN a0 = true := by unfold isMapN; rw [h5, hl]; rfl
 have hl := (isMapN_eq hm).2
 simp only [cond_false]
 by_cases hk : keyAt a0 a1 < 0
 ·rw [setK_neg hm hk, decide_eq_false (show ¬ (keyAt a0 a1 ≥ 0) by omega)]
  simp only [cond_false]
  refine Eq.trans (loop_find (n := a0.keys.length) (F := fun m i => f71L0 (a0.keys.length + 1) _ _ a1 _ _ _ a0.keys a0.kids _ _ _ _ _ _ _ _ _ _ m i) (p := fun j => !(sLt (atI (t := .str) a0.keys j) a1)) (hit := fun i => k [.d .node (putKey a0 i a1 a2)]) (miss := k [.d .node (putKey a0 (a0.keys.length : Int) a1 a2)])
   (fun m j hj => ?_) (fun m => ?_) a0.keys.length 0 (a0.keys.length + 1) (by omega) (by omega)) ?_
  ·obtain ⟨h1, h0, hw, ht⟩ := idx hj (by omega)
   have d0 : decide ((0 : Int) ≤ (j : Int)) = true := decide_eq_true (by omega)
   have d1 : decide ((j : Int) ≤ (a0.keys.length : Int)) = true := decide_eq_true (by omega)
   have d2 : decide ((j : Int) ≤ (a0.kids.length : Int)) = true := decide_eq_true (by omega)
   have d6 : decide ((a0.keys.length : Int) ≤ (a0.keys.length : Int)) = true := decide_eq_true (Int.le_refl _)
   have d7 : decide ((a0.kids.length : Int) ≤ (a0.kids.length : Int)) = true := decide_eq_true (Int.le_refl _)
   simp only [f71L0, h1, h0, hw, ht, Bool.and_self, cond_true]
   cases sLt (atI (t := .str) a0.keys j) a1
   ·simp only [Bool.not_false, leC_self, d0, d1, d2, d6, d7, Int.toNat_natCast, List.drop_zero, List.take_length, List.nil_append, limT nke, limT1 nke, limT1D nke, limT nki, limT1 nki, limT1D nki, Bool.and_self, cond_true]
    rfl
   ·rfl
  ·have d0 : decide ((0 : Int) ≤ (a0.keys.length : Int)) = true := decide_eq_true (by omega)
   have d1 : decide ((a0.keys.length : Int) ≤ (a0.keys.length : Int)) = true := decide_eq_true (by omega)
   have d2 : decide ((a0.keys.length : Int) ≤ (a0.kids.length : Int)) = true := decide_eq_true (by omega)
   have d6 : decide ((a0.keys.length : Int) ≤ (a0.keys.length : Int)) = true := decide_eq_true (Int.le_refl _)
   have d7 : decide ((a0.kids.length : Int) ≤ (a0.kids.length : Int)) = true := decide_eq_true (Int.le_refl _)
   have e1 := limT nke a0.keys.length
   have e2 := limT1 nke a0.keys.length
   have e3 := limT1D nke a0.keys.length a0.keys.length a1
   rw [List.take_length] at e1 e2 e3
   have e4 : putKey a0 (a0.keys.length : Int) a1 a2 = ⟨a0.kind, a0.n, a0.s, a0.keys ++ [a1] ++ a0.keys.drop a0.keys.length, a0.kids.take a0.keys.length ++ [a2] ++ a0.kids.drop a0.keys.length⟩ := by
    unfold putKey insL; rw [Int.toNat_natCast, List.take_length]
   simp only [f71L0, idxE, cond_false, e1, e2, e3, e4, leC_self, d0, d1, d2, d6, d7, Int.toNat_natCast, List.drop_zero, List.take_length, List.nil_append, limT nke, limT1 nke, limT1D nke, limT nki, limT1 nki, limT1D nki, Bool.and_self, cond_true]
  ·unfold comesAt
   cases firstN (fun j => !(sLt (atI (t := .str) a0.keys j) a1)) 0 a0.keys.length <;> rfl
 ·rw [setK_pos hm hk, decide_eq_true (show keyAt a0 a1 ≥ 0 by omega)]
  obtain ⟨i, e, h1, h2⟩ := keyAt_bd a0 a1 hk
  obtain ⟨i1, i0, _, _⟩ := idx h2 (by omega)
  simp only [eta_node, eN_eq, e, i0, i1, Bool.and_self, cond_true]
  rfl
noncomputable def q71 : List Dt → Option (Bool × List Dt)
 | [.d .node a0, .d .str a1, .d .node a2] => some ((gS3 a0 a1 a2), [.d .node (setK a0 a1 a2)])
 | _ => none
noncomputable def s71 : Gm.Spec := Gm.Spec.of [.ro, .ro, .ro] [false] true q71
theorem good71 : Gm.Good Try.prog (71, s71) := by
 have hl : ∀ x ∈ [(44, s44), (66, s66)], Gm.Good Try.prog x := fcJ.2 ⟨good44, fcJ.2 ⟨good66, fcN⟩⟩
 refine ⟨⟨spec_ok (tab_ok.env hl) (tab.natl hl) Try.func71 (by kernel_rfl : Try.f71.body = some f71c) [31] (by kernel_rfl) ?_, _, Try.func71, by kernel_rfl, of_decide_eq_true (by kernel_rfl)⟩, Gm.Spec.of_natl _ _ _ _⟩
 intro ds outs h
 unfold q71 at h
 split at h
 ·simp only [Option.some.injEq, Prod.mk.injEq] at h; obtain ⟨hg, h⟩ := h; cases h; exact f71_spec _ _ _ hg
 ·cases h
noncomputable def f72c : Code := (Try.f72.body).getD .skip
def f72k : Nat → Kp := kat [⟨[1, 3, 5, 6], [], [], []⟩, ⟨[1, 5, 6, 7], [], [], []⟩, ⟨[1, 5, 6, 7, 8], [], [], []⟩, ⟨[1, 6, 7, 8], [], [], []⟩, ⟨[6, 7], [], [], []⟩, ⟨[6], [], [], []⟩]
noncomputable def f72e : Env := tab.env [(44, s44)]
theorem f72_run {R : Type} (n : Nat) (k : List Dt → Option R) (a0 : NodeT) (a1 : Int) (a2 : NodeT) : evFn f72e f72k n f72c [.ro, .ro, .ro] [false] true [.cell 6 31] [31] [.d .node a0, .d (.i .i64) a1, .d .node a2] k =
 (cond (sm_node (eN a0))
 (cond ((decide ((0 : Int) ≤ a1)) && (decide (a1 ≤ ((NodeT.kids a0).length : Int))))
 (cond (Nat.ble (0 + (((NodeT.kids a0).take (Int.toNat a1)).drop 0).length) LIM)
 (cond (sm_node (eN a2))
 (cond (Nat.ble ((([] : List NodeT) ++ (((NodeT.kids a0).take (Int.toNat a1)).drop 0)).length + 1) LIM)
 (cond ((decide ((0 : Int) ≤ a1)) && ((decide (a1 ≤ ((NodeT.kids a0).length : Int))) && (decide (((NodeT.kids a0).length : Int) ≤ ((NodeT.kids a0).length : Int)))))
 (cond (leC (Int.toNat a1) 0 (Int.toNat a1) 0)
 (cond (Nat.ble (((([] : List NodeT) ++ (((NodeT.kids a0).take (Int.toNat a1)).drop 0)) ++ ([(eN a2)] : List NodeT)).length + (((NodeT.kids a0).take (Int.toNat ((NodeT.kids a0).length : Int))).drop (Int.toNat a1)).length) LIM)
 (k [.d .node (⟨(NodeT.kind a0), (NodeT.n a0), (NodeT.s a0), (NodeT.keys a0), (((([] : List NodeT) ++ (((NodeT.kids a0).take (Int.toNat a1)).drop 0)) ++ ([(eN a2)] : List NodeT)) ++ (((NodeT.kids a0).take (Int.toNat ((NodeT.kids a0).length : Int))).drop (Int.toNat a1)))⟩ : NodeT)])
 none)
 none)
 none)
 none)
 none)
 none)
 none)
 none) := by kernel_rfl
theorem f72_spec (a0 : NodeT) (a1 : Int) (a2 : NodeT) (hg : gInto a0 a1 a2 = true) : ∃ keep rounds, ∀ {R : Type} (k : List Dt → Option R), evFn f72e keep rounds f72c [.ro, .ro, .ro] [false] true [.cell 6 31] [31] [.d .node a0, .d (.i .i64) a1, .d .node a2] k = k [.d .node (putKid a0 a1 a2)] := by
 simp only [gInto, Bool.and_eq_true] at hg
 obtain ⟨hg, hx2, hi0, hi1⟩ := hg
 have hi0 : 0 ≤ a1 := of_decide_eq_true hi0
 have hi1 : a1 ≤ (a0.kids.length : Int) := of_decide_eq_true hi1
 obtain ⟨i, rfl⟩ := Int.eq_ofNat_of_zero_le hi0
 have hg0 := hg
 rw [sm_node_def] at hg
 simp only [Bool.and_eq_true] at hg
 obtain ⟨_, _, _, hke, hki⟩ := hg
 have nke := smL_len hke
 have nki := smL_len hki
 refine ⟨f72k, 0, fun {R} k => ?_⟩
 rw [f72_run]
 have d0 : decide ((0 : Int) ≤ (i : Int)) = true := decide_eq_true (by omega)
 have d2 : decide ((i : Int) ≤ (a0.kids.length : Int)) = true := decide_eq_true (by omega)
 have d7 : decide ((a0.kids.length : Int) ≤ (a0.kids.length : Int)) = true := decide_eq_true (Int.le_refl _)
 simp only [leC_self, eta_node, eN_eq, hg0, hx2, d0, d2, d7, Int.toNat_natCast, List.drop_zero, List.take_length, List.nil_append, limT nki, limT1 nki, limT1D nki, Bool.and_self, cond_true]
 rfl
noncomputable def q72 : List Dt → Option (Bool × List Dt)
 | [.d .node a0, .d (.i .i64) a1, .d .node a2] => some ((gInto a0 a1 a2), [.d .node (putKid a0 a1 a2)])
 | _ => none
noncomputable def s72 : Gm.Spec := Gm.Spec.of [.ro, .ro, .ro] [false] true q72
theorem good72 : Gm.Good Try.prog (72, s72) := by
 have hl : ∀ x ∈ [(44, s44)], Gm.Good Try.prog x := fcJ.2 ⟨good44, fcN⟩
 refine ⟨⟨spec_ok (tab_ok.env hl) (tab.natl hl) Try.func72 (by kernel_rfl : Try.f72.body = some f72c) [31] (by kernel_rfl) ?_, _, Try.func72, by kernel_rfl, of_decide_eq_true (by kernel_rfl)⟩, Gm.Spec.of_natl _ _ _ _⟩
 intro ds outs h
 unfold q72 at h
 split at h
 ·simp only [Option.some.injEq, Prod.mk.injEq] at h; obtain ⟨hg, h⟩ := h; cases h; exact f72_spec _ _ _ hg
 ·cases h
noncomputable def f54S0 (y0 : BA) (y1 : Int) (y2 : Int) (y3 : Int) (y4 : BA) (y5 : List BA) (y6 : List NodeT) (y7 : Int) (y8 : Int) (y9 : BA) (y10 : List BA) (y11 : List NodeT) : St := ⟨[(1, .c (.one (.v (.string y0)))), (3, .c (.one (.pt 3 0))), (5, .c (.one (.pt 5 0))), (6, .c (.one (.pt 6 0))), (8, .c (.one (.v (.int .i64 y1))))], [(3, ⟨.node, [.v (.int .i64 y2), .v (.int .i64 y3), .v (.string y4), .ro .str y5, .ro .node y6]⟩), (5, ⟨.node, [.v (.int .i64 y7), .v (.int .i64 y8), .v (.string y9), .ro .str y10, .ro .node y11]⟩), (6, ⟨.node, [.v (.int .i64 (0 : Int)), .v (.int .i64 (0 : Int)), .v (.string ByteArray.empty), .nl, .nl]⟩)], []⟩
noncomputable def f54S1 (y1 : Int) (y2 : Int) (y3 : BA) (y4 : List BA) (y5 : List NodeT) : St := ⟨[(6, .c (.one (.pt 6 0))), (7, .c (.one (.v (.bool true))))], [(6, ⟨.node, [.v (.int .i64 y1), .v (.int .i64 y2), .v (.string y3), .h 3520 0 0 [], .h 3521 0 0 []]⟩)], [(3520, .live ⟨.str, .deep, 0, [], y4⟩), (3521, .live ⟨.node, .deep, 0, [], y5⟩)]⟩
noncomputable def f54S2 (y0 : BA) (y1 : Int) (y2 : Bool) (y3 : Int) (y4 : Int) (y5 : BA) (y6 : List BA) (y7 : List NodeT) (y8 : Int) (y9 : Int) (y10 : BA) (y11 : List BA) (y12 : List NodeT) : St := ⟨[(1, .c (.one (.v (.string y0)))), (3, .c (.one (.pt 3 0))), (5, .c (.one (.pt 5 0))), (6, .c (.one (.pt 6 0))), (8, .c (.one (.v (.int .i64 y1)))), (34, .c (.one (.v (.bool y2))))], [(3, ⟨.node, [.v (.int .i64 y3), .v (.int .i64 y4), .v (.string y5), .ro .str y6, .ro .node y7]⟩), (5, ⟨.node, [.v (.int .i64 y8), .v (.int .i64 y9), .v (.string y10), .ro .str y11, .ro .node y12]⟩), (6, ⟨.node, [.v (.int .i64 (0 : Int)), .v (.int .i64 (0 : Int)), .v (.string ByteArray.empty), .nl, .nl]⟩)], []⟩
noncomputable def f54c : Code := (Try.f54.body).getD .skip
def f54k : Nat → Kp := kat [⟨[1, 3, 5, 6], [], [], []⟩, ⟨[1, 3, 5, 6, 20], [], [], []⟩, ⟨[6, 7], [], [], []⟩, ⟨[1, 3, 5, 6, 27], [], [], []⟩, ⟨[6, 7], [], [], []⟩, ⟨[1, 3, 5, 6, 8], [], [], []⟩, ⟨[1, 3, 5, 6, 8, 34], [], [], []⟩, ⟨[1, 3, 5, 6, 8], [], [], []⟩, ⟨[1, 3, 5, 6, 8, 51], [], [], []⟩, ⟨[6, 7], [], [], []⟩, ⟨[6, 7], [], [], []⟩]
noncomputable def f54e : Env := tab.env [(37, s37), (44, s44), (71, s71), (72, s72)]
noncomputable def f54L0 {R : Type} (n : Nat) (x0 : Int → Int → BA → (List BA) → (List NodeT) → Option R) (x1 : Int → Bool → Option R) (wM : BA) (wJ : Int) (wK : Int) (wL : BA) (wC : List BA) (wD : List NodeT) (wE : Int) (wF : Int) (wG : BA) (wH : List BA) (wI : List NodeT) : Nat → Int → Option R
  | 0, _ => none
  | m + 1, wB =>
    (cond (decide (wB ≤ (wD.length : Int)))
   (cond (okI wB)
    (cond (sEq (digS wB) wM)
     (cond (gInto (⟨wJ, wK, wL, wC, wD⟩ : NodeT) wB (⟨wE, wF, wG, wH, wI⟩ : NodeT))
      (x0 (NodeT.kind (putKid (⟨wJ, wK, wL, wC, wD⟩ : NodeT) wB (⟨wE, wF, wG, wH, wI⟩ : NodeT))) (NodeT.n (putKid (⟨wJ, wK, wL, wC, wD⟩ : NodeT) wB (⟨wE, wF, wG, wH, wI⟩ : NodeT))) (NodeT.s (putKid (⟨wJ, wK, wL, wC, wD⟩ : NodeT) wB (⟨wE, wF, wG, wH, wI⟩ : NodeT))) (NodeT.keys (putKid (⟨wJ, wK, wL, wC, wD⟩ : NodeT) wB (⟨wE, wF, wG, wH, wI⟩ : NodeT))) (NodeT.kids (putKid (⟨wJ, wK, wL, wC, wD⟩ : NodeT) wB (⟨wE, wF, wG, wH, wI⟩ : NodeT))))
      none)
     (cond (sEq wM (bs [45]))
      (cond (wB == (wD.length : Int))
       (cond (gInto (⟨wJ, wK, wL, wC, wD⟩ : NodeT) wB (⟨wE, wF, wG, wH, wI⟩ : NodeT))
        (x0 (NodeT.kind (putKid (⟨wJ, wK, wL, wC, wD⟩ : NodeT) wB (⟨wE, wF, wG, wH, wI⟩ : NodeT))) (NodeT.n (putKid (⟨wJ, wK, wL, wC, wD⟩ : NodeT) wB (⟨wE, wF, wG, wH, wI⟩ : NodeT))) (NodeT.s (putKid (⟨wJ, wK, wL, wC, wD⟩ : NodeT) wB (⟨wE, wF, wG, wH, wI⟩ : NodeT))) (NodeT.keys (putKid (⟨wJ, wK, wL, wC, wD⟩ : NodeT) wB (⟨wE, wF, wG, wH, wI⟩ : NodeT))) (NodeT.kids (putKid (⟨wJ, wK, wL, wC, wD⟩ : NodeT) wB (⟨wE, wF, wG, wH, wI⟩ : NodeT))))
        none)
       (f54L0 n x0 x1 wM wJ wK wL wC wD wE wF wG wH wI m (IntKind.wrap .i64 (wB + (1 : Int)))))
      (f54L0 n x0 x1 wM wJ wK wL wC wD wE wF wG wH wI m (IntKind.wrap .i64 (wB + (1 : Int))))))
    none)
   (x1 wB (decide (wB ≤ (wD.length : Int)))))
theorem f54L0_b {R : Type} (n : Nat) (k' : Ex → St → Option R) (wM : BA) (wB : Int) (wJ : Int) (wK : Int) (wL : BA) (wC : List BA) (wD : List NodeT) (wE : Int) (wF : Int) (wG : BA) (wH : List BA) (wI : List NodeT) : ev f54e f54k n (cAt [1,1,1,0,1,0,0] f54c) (f54S0 wM wB wJ wK wL wC wD wE wF wG wH wI) k' =
 (cond (decide (wB ≤ (wD.length : Int)))
 (cond (okI wB)
 (cond (sEq (digS wB) wM)
 (cond (gInto (⟨wJ, wK, wL, wC, wD⟩ : NodeT) wB (⟨wE, wF, wG, wH, wI⟩ : NodeT))
 (k' .ret (f54S1 (NodeT.kind (putKid (⟨wJ, wK, wL, wC, wD⟩ : NodeT) wB (⟨wE, wF, wG, wH, wI⟩ : NodeT))) (NodeT.n (putKid (⟨wJ, wK, wL, wC, wD⟩ : NodeT) wB (⟨wE, wF, wG, wH, wI⟩ : NodeT))) (NodeT.s (putKid (⟨wJ, wK, wL, wC, wD⟩ : NodeT) wB (⟨wE, wF, wG, wH, wI⟩ : NodeT))) (NodeT.keys (putKid (⟨wJ, wK, wL, wC, wD⟩ : NodeT) wB (⟨wE, wF, wG, wH, wI⟩ : NodeT))) (NodeT.kids (putKid (⟨wJ, wK, wL, wC, wD⟩ : NodeT) wB (⟨wE, wF, wG, wH, wI⟩ : NodeT)))))
 none)
 (cond (sEq wM (bs [45]))
 (cond (wB == (wD.length : Int))
 (cond (gInto (⟨wJ, wK, wL, wC, wD⟩ : NodeT) wB (⟨wE, wF, wG, wH, wI⟩ : NodeT))
 (k' .ret (f54S1 (NodeT.kind (putKid (⟨wJ, wK, wL, wC, wD⟩ : NodeT) wB (⟨wE, wF, wG, wH, wI⟩ : NodeT))) (NodeT.n (putKid (⟨wJ, wK, wL, wC, wD⟩ : NodeT) wB (⟨wE, wF, wG, wH, wI⟩ : NodeT))) (NodeT.s (putKid (⟨wJ, wK, wL, wC, wD⟩ : NodeT) wB (⟨wE, wF, wG, wH, wI⟩ : NodeT))) (NodeT.keys (putKid (⟨wJ, wK, wL, wC, wD⟩ : NodeT) wB (⟨wE, wF, wG, wH, wI⟩ : NodeT))) (NodeT.kids (putKid (⟨wJ, wK, wL, wC, wD⟩ : NodeT) wB (⟨wE, wF, wG, wH, wI⟩ : NodeT)))))
 none)
 (k' .normal (f54S0 wM (IntKind.wrap .i64 (wB + (1 : Int))) wJ wK wL wC wD wE wF wG wH wI)))
 (k' .normal (f54S0 wM (IntKind.wrap .i64 (wB + (1 : Int))) wJ wK wL wC wD wE wF wG wH wI))))
 none)
 (k' (.exit 0) (f54S2 wM wB (decide (wB ≤ (wD.length : Int))) wJ wK wL wC wD wE wF wG wH wI))) := by kernel_rfl
theorem f54L0_eq {R : Type} (n : Nat) (k' : Ex → St → Option R) (wM : BA) (wJ : Int) (wK : Int) (wL : BA) (wC : List BA) (wD : List NodeT) (wE : Int) (wF : Int) (wG : BA) (wH : List BA) (wI : List NodeT) : ∀ (m : Nat) (wB : Int), iter (fun st k => ev f54e f54k n (cAt [1,1,1,0,1,0,0] f54c) st k) m (f54S0 wM wB wJ wK wL wC wD wE wF wG wH wI) k' = f54L0 n (fun (wS : Int) (wT : Int) (wU : BA) (wV : List BA) (wW : List NodeT) => k' .ret (f54S1 wS wT wU wV wW)) (fun (wA : Int) (wX : Bool) => k' (.exit 0) (f54S2 wM wA wX wJ wK wL wC wD wE wF wG wH wI)) wM wJ wK wL wC wD wE wF wG wH wI m wB := by
 intro m; induction m with
 | zero => intros; rfl
 | succ m ih =>
  intro wB
  simp only [iter]
  rw [f54L0_b]
  simp only [ih, f54L0]
noncomputable def f54K0 {R : Type} (n : Nat) (k' : Ex → St → Option R) : Ex → St → Option R := (blockK 0 (seqK f54e f54k n (cAt [1,1,1,1] f54c) k'))
theorem f54K0_x0 {R : Type} (n : Nat) (k : List Dt → Option R) (a0 : NodeT) (a1 : BA) (a2 : NodeT) (wS : Int) (wT : Int) (wU : BA) (wV : List BA) (wW : List NodeT) : f54K0 n (exitK f54e [.ro, .ro, .ro] [false, false] true [.cell 6 31, .tmp 7] [31, 4] [.d .node a0, .d .str a1, .d .node a2] k) .ret (f54S1 wS wT wU wV wW) =
 (k [.d .node (⟨wS, wT, wU, wV, wW⟩ : NodeT), .d .bool true]) := by kernel_rfl
theorem f54K0_x1 {R : Type} (n : Nat) (k : List Dt → Option R) (a0 : NodeT) (a1 : BA) (a2 : NodeT) (wM : BA) (wJ : Int) (wK : Int) (wL : BA) (wC : List BA) (wD : List NodeT) (wE : Int) (wF : Int) (wG : BA) (wH : List BA) (wI : List NodeT) (wA : Int) (wX : Bool) : f54K0 n (exitK f54e [.ro, .ro, .ro] [false, false] true [.cell 6 31, .tmp 7] [31, 4] [.d .node a0, .d .str a1, .d .node a2] k) (.exit 0) (f54S2 wM wA wX wJ wK wL wC wD wE wF wG wH wI) =
 (cond (sm_node (⟨wJ, wK, wL, wC, wD⟩ : NodeT))
 (k [.d .node (⟨wJ, wK, wL, wC, wD⟩ : NodeT), .d .bool false])
 none) := by kernel_rfl
theorem f54_run {R : Type} (n : Nat) (k : List Dt → Option R) (a0 : NodeT) (a1 : BA) (a2 : NodeT) : evFn f54e f54k n f54c [.ro, .ro, .ro] [false, false] true [.cell 6 31, .tmp 7] [31, 4] [.d .node a0, .d .str a1, .d .node a2] k =
 (cond ((NodeT.kind a0) == (5 : Int))
 (cond (((NodeT.keys a0).length : Int) == ((NodeT.kids a0).length : Int))
 (cond (gS3 (eN a0) a1 (eN a2))
 (k [.d .node (eN (setK (eN a0) a1 (eN a2))), .d .bool true])
 none)
 (cond ((NodeT.kind a0) != (4 : Int))
 (cond (sm_node (eN a0))
 (k [.d .node (eN a0), .d .bool false])
 none)
 (f54L0 n (fun (wS : Int) (wT : Int) (wU : BA) (wV : List BA) (wW : List NodeT) =>
 (k [.d .node (⟨wS, wT, wU, wV, wW⟩ : NodeT), .d .bool true])) (fun (wA : Int) (wX : Bool) =>
 (cond (sm_node (⟨(NodeT.kind a0), (NodeT.n a0), (NodeT.s a0), (NodeT.keys a0), (NodeT.kids a0)⟩ : NodeT))
 (k [.d .node (eN a0), .d .bool false])
 none)) a1 (NodeT.kind a0) (NodeT.n a0) (NodeT.s a0) (NodeT.keys a0) (NodeT.kids a0) (NodeT.kind a2) (NodeT.n a2) (NodeT.s a2) (NodeT.keys a2) (NodeT.kids a2) n (0 : Int))))
 (cond ((NodeT.kind a0) != (4 : Int))
 (cond (sm_node (eN a0))
 (k [.d .node (eN a0), .d .bool false])
 none)
 (f54L0 n (fun (wS : Int) (wT : Int) (wU : BA) (wV : List BA) (wW : List NodeT) =>
 (k [.d .node (⟨wS, wT, wU, wV, wW⟩ : NodeT), .d .bool true])) (fun (wA : Int) (wX : Bool) =>
 (cond (sm_node (⟨(NodeT.kind a0), (NodeT.n a0), (NodeT.s a0), (NodeT.keys a0), (NodeT.kids a0)⟩ : NodeT))
 (k [.d .node (eN a0), .d .bool false])
 none)) a1 (NodeT.kind a0) (NodeT.n a0) (NodeT.s a0) (NodeT.keys a0) (NodeT.kids a0) (NodeT.kind a2) (NodeT.n a2) (NodeT.s a2) (NodeT.keys a2) (NodeT.kids a2) n (0 : Int)))) := by
  refine Eq.trans (b := (cond ((NodeT.kind a0) == (5 : Int))
  (cond (((NodeT.keys a0).length : Int) == ((NodeT.kids a0).length : Int))
   (cond (gS3 (eN a0) a1 (eN a2))
    (k [.d .node (eN (setK (eN a0) a1 (eN a2))), .d .bool true])
    none)
   (cond ((NodeT.kind a0) != (4 : Int))
    (cond (sm_node (eN a0))
     (k [.d .node (eN a0), .d .bool false])
     none)
    (iter (fun st k => ev f54e f54k n (cAt [1,1,1,0,1,0,0] f54c) st k) n (f54S0 a1 (0 : Int) (NodeT.kind a0) (NodeT.n a0) (NodeT.s a0) (NodeT.keys a0) (NodeT.kids a0) (NodeT.kind a2) (NodeT.n a2) (NodeT.s a2) (NodeT.keys a2) (NodeT.kids a2)) (f54K0 n (exitK f54e [.ro, .ro, .ro] [false, false] true [.cell 6 31, .tmp 7] [31, 4] [.d .node a0, .d .str a1, .d .node a2] k)))))
  (cond ((NodeT.kind a0) != (4 : Int))
   (cond (sm_node (eN a0))
    (k [.d .node (eN a0), .d .bool false])
    none)
   (iter (fun st k => ev f54e f54k n (cAt [1,1,1,0,1,0,0] f54c) st k) n (f54S0 a1 (0 : Int) (NodeT.kind a0) (NodeT.n a0) (NodeT.s a0) (NodeT.keys a0) (NodeT.kids a0) (NodeT.kind a2) (NodeT.n a2) (NodeT.s a2) (NodeT.keys a2) (NodeT.kids a2)) (f54K0 n (exitK f54e [.ro, .ro, .ro] [false, false] true [.cell 6 31, .tmp 7] [31, 4] [.d .node a0, .d .str a1, .d .node a2] k)))))) (by kernel_rfl) ?_
  simp only [f54L0_eq, f54K0_x0, f54K0_x1]
theorem f54_spec (a0 : NodeT) (a1 : BA) (a2 : NodeT) (hg : gS3 a0 a1 a2 = true) : ∃ keep rounds, ∀ {R : Type} (k : List Dt → Option R), evFn f54e keep rounds f54c [.ro, .ro, .ro] [false, false] true [.cell 6 31, .tmp 7] [31, 4] [.d .node a0, .d .str a1, .d .node a2] k = k [.d .node ((sLast a0 a1 a2).1), .d .bool ((sLast a0 a1 a2).2)] := by
 have hg3 := hg
 simp only [gS3, Bool.and_eq_true] at hg
 obtain ⟨hg, hs1, hx2⟩ := hg
 have hg0 := hg
 rw [sm_node_def] at hg
 simp only [Bool.and_eq_true] at hg
 obtain ⟨_, _, _, hke, hki⟩ := hg
 have nke := smL_len hke
 have nki := smL_len hki
 refine ⟨f54k, a0.kids.length + 2, fun {R} k => ?_⟩
 rw [f54_run]
 simp only [eta_node, eN_eq, hg0, hg3, cond_true]
 show _ = k [.d .node (sLast a0 a1 a2).1, .d .bool (sLast a0 a1 a2).2]
 unfold sLast
 rw [putPtr_one]
 unfold putLast
 cases h5 : a0.kind == (5 : Int)
 rotate_left
 ·obtain ⟨n4, e4⟩ := bne4 h5
  cases hl : ((a0.keys.length : Int) == (a0.kids.length : Int))
  ·rw [show isMapN a0 = false by unfold isMapN; rw [h5, hl]; rfl, n4, e4]; rfl
  ·rw [show isMapN a0 = true by unfold isMapN; rw [h5, hl]; rfl]; rfl
 rw [show isMapN a0 = false by unfold isMapN; rw [h5]; rfl]
 simp only [cond_false]
 cases h4 : a0.kind == (4 : Int)
 ·rw [show (a0.kind != (4 : Int)) = true by simp only [bne, h4]; rfl]; rfl
 rw [show (a0.kind != (4 : Int)) = false by simp only [bne, h4]; rfl]
 simp only [cond_true, cond_false]
 refine Eq.trans (loop_find (n := a0.kids.length + 1) (F := fun m i => f54L0 (a0.kids.length + 2) _ _ a1 _ _ _ _ a0.kids _ _ _ _ _ m i) (p := slotP a1 a0.kids.length) (hit := fun i => k [.d .node (putKid a0 i a2), .d .bool true]) (miss := k [.d .node a0, .d .bool false])
  (fun m j hj => ?_) (fun m => ?_) (a0.kids.length + 1) 0 (a0.kids.length + 2) (by omega) (by omega)) ?_
 ·have h1 : decide ((j : Int) ≤ (a0.kids.length : Int)) = true := decide_eq_true (by omega)
  have h2 : okI (j : Int) = true := okI_of (by omega) (by omega)
  have h3 : gInto a0 (j : Int) a2 = true := by
   simp only [gInto, Bool.and_eq_true, decide_eq_true_eq]; exact ⟨hg0, hx2, by omega, by omega⟩
  have hw : IntKind.wrap .i64 ((j : Int) + 1) = ((j + 1 : Nat) : Int) := by rw [wrap_id (by omega) (by omega)]; rfl
  simp only [f54L0, eta_node, eN_eq, h1, h2, h3, hw, cond_true]
  unfold slotP
  rw [show sEq a1 (bs [45]) = sEq a1 dash from rfl]
  cases sEq (digS (j : Int)) a1
  ·cases sEq a1 dash
   ·rfl
   ·cases ((j : Int) == (a0.kids.length : Int)) <;> rfl
  ·rfl
 ·have h1 : decide (((a0.kids.length + 1 : Nat) : Int) ≤ (a0.kids.length : Int)) = false := decide_eq_false (by omega)
  simp only [f54L0, h1, cond_false]
 ·unfold slotAt
  cases hf : firstN (slotP a1 a0.kids.length) 0 (a0.kids.length + 1) with
  | none => rfl
  | some i =>
   rw [decide_eq_false (show ¬ (plc (some i) < 0) by show ¬ ((i : Int) < 0); omega)]
   rfl
noncomputable def q54 : List Dt → Option (Bool × List Dt)
 | [.d .node a0, .d .str a1, .d .node a2] => some ((gS3 a0 a1 a2), [.d .node ((sLast a0 a1 a2).1), .d .bool ((sLast a0 a1 a2).2)])
 | _ => none
noncomputable def s54 : Gm.Spec := Gm.Spec.of [.ro, .ro, .ro] [false, false] true q54
theorem good54 : Gm.Good Try.prog (54, s54) := by
 have hl : ∀ x ∈ [(37, s37), (44, s44), (71, s71), (72, s72)], Gm.Good Try.prog x := fcJ.2 ⟨good37, fcJ.2 ⟨good44, fcJ.2 ⟨good71, fcJ.2 ⟨good72, fcN⟩⟩⟩⟩
 refine ⟨⟨spec_ok (tab_ok.env hl) (tab.natl hl) Try.func54 (by kernel_rfl : Try.f54.body = some f54c) [31, 4] (by kernel_rfl) ?_, _, Try.func54, by kernel_rfl, of_decide_eq_true (by kernel_rfl)⟩, Gm.Spec.of_natl _ _ _ _⟩
 intro ds outs h
 unfold q54 at h
 split at h
 ·simp only [Option.some.injEq, Prod.mk.injEq] at h; obtain ⟨hg, h⟩ := h; cases h; exact f54_spec _ _ _ hg
 ·cases h
noncomputable def q26 : List Dt → Option (Bool × List Dt)
 | [.d .node a0, .d (.sl .str) a1, .d .node a2] => some ((gP a0 a1 a2), [.d .node ((putPtr a0 a1 a2).1), .d .bool ((putPtr a0 a1 a2).2)])
 | _ => none
noncomputable def mu26 : List Dt → Nat
 | [.d .node a0, .d (.sl .str) a1, .d .node a2] => (fun (_ : NodeT) (p : List BA) (_ : NodeT) => p.length) a0 a1 a2
 | _ => 0
noncomputable def s26r (N : Nat) : Gm.Spec := Gm.Spec.of [.ro, .ro, .ro] [false, false] true (qlt mu26 N q26)
noncomputable def f26c : Code := (Try.f26.body).getD .skip
def f26k : Nat → Kp := kat [⟨[1, 3, 5, 6], [], [], []⟩, ⟨[1, 3, 5, 6, 16], [], [], []⟩, ⟨[6, 7], [], [], []⟩, ⟨[1, 3, 5, 6, 21], [], [], []⟩, ⟨[6, 8, 9], [], [], []⟩, ⟨[6, 7], [], [], []⟩, ⟨[1, 3, 5, 6, 10], [], [], []⟩, ⟨[1, 3, 5, 6, 10, 46], [], [], []⟩, ⟨[6, 7], [], [], []⟩, ⟨[3, 6, 10, 11, 12], [], [], []⟩, ⟨[6, 10, 11, 12, 13], [], [], []⟩, ⟨[6, 10, 11, 12, 13, 63], [], [], []⟩, ⟨[6, 12, 13], [], [], []⟩, ⟨[6, 7], [], [], []⟩]
noncomputable def f26e (N : Nat) : Env := tab.env [(26, s26r N), (43, s43), (44, s44), (54, s54)]
noncomputable def f26v0 (a0 : NodeT) (a1 : List BA) (a2 : NodeT) : List NodeT :=
 ((NodeT.kids a0).set (Int.toNat (kidAt (eN a0) (atI (t := .str) a1 0))) (eN ((putPtr (eN (atI (t := .node) (NodeT.kids a0) (Int.toNat (kidAt (eN a0) (atI (t := .str) a1 0))))) ((a1.take (Int.toNat (a1.length : Int))).drop 1) (eN a2)).1)))
theorem f26_run {R : Type} (N : Nat) (n : Nat) (k : List Dt → Option R) (a0 : NodeT) (a1 : List BA) (a2 : NodeT) : evFn (f26e N) f26k n f26c [.ro, .ro, .ro] [false, false] true [.cell 6 31, .tmp 7] [31, 4] [.d .node a0, .d (.sl .str) a1, .d .node a2] k =
 (cond ((a1.length : Int) == (0 : Int))
 (cond (sm_node (eN a2))
 (k [.d .node (eN a2), .d .bool true])
 none)
 (cond ((a1.length : Int) == (1 : Int))
 (cond (decide ((0 : Int) < (a1.length : Int)))
 (cond (gS3 (eN a0) (atI (t := .str) a1 0) (eN a2))
 (k [.d .node (eN ((sLast (eN a0) (atI (t := .str) a1 0) (eN a2)).1)), .d .bool ((sLast (eN a0) (atI (t := .str) a1 0) (eN a2)).2)])
 none)
 none)
 (cond (decide ((0 : Int) < (a1.length : Int)))
 (cond ((fun (x : NodeT) (_ : BA) => sm_node x) (eN a0) (atI (t := .str) a1 0))
 (cond (decide ((kidAt (eN a0) (atI (t := .str) a1 0)) < (0 : Int)))
 (cond (sm_node (eN a0))
 (k [.d .node (eN a0), .d .bool false])
 none)
 (cond (decide ((kidAt (eN a0) (atI (t := .str) a1 0)) ≥ ((NodeT.kids a0).length : Int)))
 (cond (sm_node (eN a0))
 (k [.d .node (eN a0), .d .bool false])
 none)
 (cond ((decide ((0 : Int) ≤ (kidAt (eN a0) (atI (t := .str) a1 0)))) && (decide ((kidAt (eN a0) (atI (t := .str) a1 0)) < ((NodeT.kids a0).length : Int))))
 (cond ((decide ((1 : Int) ≤ (a1.length : Int))) && (decide ((a1.length : Int) ≤ (a1.length : Int))))
 (cond ((gP (eN (atI (t := .node) (NodeT.kids a0) (Int.toNat (kidAt (eN a0) (atI (t := .str) a1 0))))) ((a1.take (Int.toNat (a1.length : Int))).drop 1) (eN a2)) && (Nat.blt ((fun (_ : NodeT) (p : List BA) (_ : NodeT) => p.length) (eN (atI (t := .node) (NodeT.kids a0) (Int.toNat (kidAt (eN a0) (atI (t := .str) a1 0))))) ((a1.take (Int.toNat (a1.length : Int))).drop 1) (eN a2)) N))
 (cond (sm_node (eN a0))
 (cond ((putPtr (eN (atI (t := .node) (NodeT.kids a0) (Int.toNat (kidAt (eN a0) (atI (t := .str) a1 0))))) ((a1.take (Int.toNat (a1.length : Int))).drop 1) (eN a2)).2)
 (cond ((decide ((0 : Int) ≤ (kidAt (eN a0) (atI (t := .str) a1 0)))) && (decide ((kidAt (eN a0) (atI (t := .str) a1 0)) < ((NodeT.kids a0).length : Int))))
 (k [.d .node (⟨(NodeT.kind a0), (NodeT.n a0), (NodeT.s a0), (NodeT.keys a0), (f26v0 a0 a1 a2)⟩ : NodeT), .d .bool ((putPtr (eN (atI (t := .node) (NodeT.kids a0) (Int.toNat (kidAt (eN a0) (atI (t := .str) a1 0))))) ((a1.take (Int.toNat (a1.length : Int))).drop 1) (eN a2)).2)])
 none)
 (k [.d .node (eN a0), .d .bool ((putPtr (eN (atI (t := .node) (NodeT.kids a0) (Int.toNat (kidAt (eN a0) (atI (t := .str) a1 0))))) ((a1.take (Int.toNat (a1.length : Int))).drop 1) (eN a2)).2)]))
 none)
 none)
 none)
 none)))
 none)
 none))) := by kernel_rfl
theorem f26_spec (N : Nat) (a0 : NodeT) (a1 : List BA) (a2 : NodeT) (hg : gP a0 a1 a2 = true) (hm : mu26 [.d .node a0, .d (.sl .str) a1, .d .node a2] = N) : ∃ keep rounds, ∀ {R : Type} (k : List Dt → Option R), evFn (f26e N) keep rounds f26c [.ro, .ro, .ro] [false, false] true [.cell 6 31, .tmp 7] [31, 4] [.d .node a0, .d (.sl .str) a1, .d .node a2] k = k [.d .node ((putPtr a0 a1 a2).1), .d .bool ((putPtr a0 a1 a2).2)] := by
 have hm : a1.length = N := hm
 subst hm
 simp only [gP, Bool.and_eq_true] at hg
 obtain ⟨hg, hpa, hx2⟩ := hg
 have hg0 := hg
 rw [sm_node_def] at hg
 simp only [Bool.and_eq_true] at hg
 obtain ⟨_, _, _, hke, hki⟩ := hg
 have nke := smL_len hke
 have nki := smL_len hki
 refine ⟨f26k, 0, fun {R} k => ?_⟩
 rw [f26_run]
 show _ = k [.d .node (putPtr a0 a1 a2).1, .d .bool (putPtr a0 a1 a2).2]
 match a1, hpa with
 | [], _ =>
  simp only [eta_node, eN_eq, hx2]
  rfl
 | [p], hpa =>
  have l0 : decide ((0 : Int) < (([p] : List BA).length : Int)) = true := rfl
  have l5 : atI (t := .str) [p] 0 = p := rfl
  have l7 : ((([p] : List BA).length : Int) == (0 : Int)) = false := rfl
  have l8 : ((([p] : List BA).length : Int) == (1 : Int)) = true := rfl
  have hg3 : gS3 a0 p a2 = true := by simp only [gS3, Bool.and_eq_true]; exact ⟨hg0, smL_head hpa, hx2⟩
  simp only [eta_node, eN_eq, l0, l5, l7, l8, hg3, cond_true, cond_false]
  rfl
 | p :: q :: r, hpa =>
  have l0 : decide ((0 : Int) < ((p :: q :: r).length : Int)) = true := decide_eq_true (by simp only [List.length_cons]; omega)
  have l1 : (((p :: q :: r).length : Int) == (1 : Int)) = false := by rw [beq_eq_false_iff_ne]; simp only [List.length_cons]; omega
  have l2 : decide ((1 : Int) ≤ ((p :: q :: r).length : Int)) = true := decide_eq_true (by simp only [List.length_cons]; omega)
  have l3 : decide (((p :: q :: r).length : Int) ≤ ((p :: q :: r).length : Int)) = true := decide_eq_true (Int.le_refl _)
  have l4 : ((p :: q :: r).take (Int.toNat ((p :: q :: r).length : Int))).drop 1 = q :: r := by rw [Int.toNat_natCast, List.take_length]; rfl
  have l5 : atI (t := .str) (p :: q :: r) 0 = p := rfl
  have l6 : Nat.blt (q :: r).length (p :: q :: r).length = true := by rw [Nat.blt_eq]; simp only [List.length_cons]; omega
  have l7 : (((p :: q :: r).length : Int) == (0 : Int)) = false := by rw [beq_eq_false_iff_ne]; simp only [List.length_cons]; omega
  have l8 : decide (((p :: q :: r).length : Int) > (1 : Int)) = true := decide_eq_true (by simp only [List.length_cons]; omega)
  have hqr : smL smStr (q :: r) = true := smL_tail hpa
  simp only [eta_node, eN_eq, hg0, l0, l1, l5, l7, cond_true, cond_false]
  by_cases hk : kidAt a0 p < 0
  ·rw [putPtr_no a0 p q r a2 hk, decide_eq_true hk]; rfl
  rw [putPtr_deep a0 p q r a2 hk]
  obtain ⟨i, e, h1⟩ := kidAt_bd hk
  obtain ⟨i1, i0, hw, it⟩ := idx h1 (by omega)
  have d1 : decide ((i : Int) ≥ (a0.kids.length : Int)) = false := decide_eq_false (by omega)
  have hx := atI_lt (t := .node) h1
  have hgk : gP (atI (t := .node) a0.kids i) (q :: r) a2 = true := by
   simp only [gP, Bool.and_eq_true]
   exact ⟨sm_kid hg0 (List.mem_of_getElem? hx), hqr, hx2⟩
  simp only [decide_eq_false hk, f26v0, eta_node, eN_eq, l2, l3, l4, l5, l6, hgk, e, i1, i0, it, d1, Bool.and_self, cond_true, cond_false]
  cases (putPtr (atI (t := .node) a0.kids i) (q :: r) a2).2 <;> rfl
noncomputable def s26 : Gm.Spec := Gm.Spec.of [.ro, .ro, .ro] [false, false] true q26
theorem good26 : Gm.Good Try.prog (26, s26) := by
 refine ⟨⟨spec_rec mu26 fun N hr => ?_, _, Try.func26, by kernel_rfl, of_decide_eq_true (by kernel_rfl)⟩, Gm.Spec.of_natl _ _ _ _⟩
 have hl : ∀ x ∈ [(26, s26r N), (43, s43), (44, s44), (54, s54)], Gm.Good Try.prog x := fcJ.2 ⟨⟨⟨hr, _, Try.func26, by kernel_rfl, of_decide_eq_true (by kernel_rfl)⟩, Gm.Spec.of_natl _ _ _ _⟩, fcJ.2 ⟨good43, fcJ.2 ⟨good44, fcJ.2 ⟨good54, fcN⟩⟩⟩⟩
 intro R
 refine spec_ok (E := f26e N) (tab_ok.env hl) (tab.natl hl) Try.func26 (by kernel_rfl : Try.f26.body = some f26c) [31, 4] (by kernel_rfl) ?_
 intro ds outs h
 obtain ⟨h, hm⟩ := qeq_some h
 unfold q26 at h
 split at h
 ·simp only [Option.some.injEq, Prod.mk.injEq] at h; obtain ⟨hg, h⟩ := h; cases h; exact f26_spec N _ _ _ hg hm
 ·cases h
noncomputable def f93c : Code := (Try.f93.body).getD .skip
def f93k : Nat → Kp := kat [⟨[0], [], [], []⟩, ⟨[3], [], [], []⟩, ⟨[2], [], [], []⟩, ⟨[2], [], [], []⟩]
noncomputable def f93e : Env := tab.env []
theorem f93_run {R : Type} (n : Nat) (k : List Dt → Option R) (a0 : Bool) : evFn f93e f93k n f93c [.ro] [false] true [.tmp 2] [3] [.d .bool a0] k =
 (cond a0
 (k [.d (.i .i64) (1 : Int)])
 (k [.d (.i .i64) (0 : Int)])) := by kernel_rfl
theorem f93_spec (a0 : Bool) : ∃ keep rounds, ∀ {R : Type} (k : List Dt → Option R), evFn f93e keep rounds f93c [.ro] [false] true [.tmp 2] [3] [.d .bool a0] k = k [.d (.i .i64) (bitI a0)] := by
 refine ⟨f93k, 0, fun k => ?_⟩
 rw [f93_run]; unfold bitI; cases a0 <;> rfl
noncomputable def q93 : List Dt → Option (Bool × List Dt)
 | [.d .bool a0] => some (true, [.d (.i .i64) (bitI a0)])
 | _ => none
noncomputable def s93 : Gm.Spec := Gm.Spec.of [.ro] [false] true q93
theorem good93 : Gm.Good Try.prog (93, s93) := by
 have hl : ∀ x ∈ ([] : List (Nat × Gm.Spec)), Gm.Good Try.prog x := fun _ h => by cases h
 refine ⟨⟨spec_ok (tab_ok.env hl) (tab.natl hl) Try.func93 (by kernel_rfl : Try.f93.body = some f93c) [3] (by kernel_rfl) ?_, _, Try.func93, by kernel_rfl, of_decide_eq_true (by kernel_rfl)⟩, Gm.Spec.of_natl _ _ _ _⟩
 intro ds outs h
 unfold q93 at h
 split at h
 ·cases h; exact f93_spec _
 ·cases h
noncomputable def f83c : Code := (Try.f83.body).getD .skip
def f83k : Nat → Kp := kat [⟨[0], [], [], []⟩, ⟨[0, 2], [], [], []⟩]
noncomputable def f83e : Env := tab.env [(82, s82)]
theorem f83_run {R : Type} (n : Nat) (k : List Dt → Option R) (a0 : CurT) : evFn f83e f83k n f83c [.pmut] [false] true [.tmp 2] [9] [.d .cur a0] k =
 (cond (gPickS a0 ([(bs [97]), (bs [98]), (bs [110,97,109,101]), (bs [109,97,120]), (bs [120,32,121]), ByteArray.empty, (bs [97,58,98]), (bs [45])] : List BA))
 (k [.d .str ((curPick a0 ([(bs [97]), (bs [98]), (bs [110,97,109,101]), (bs [109,97,120]), (bs [120,32,121]), ByteArray.empty, (bs [97,58,98]), (bs [45])] : List BA)).1), .d .cur ((curPick a0 ([(bs [97]), (bs [98]), (bs [110,97,109,101]), (bs [109,97,120]), (bs [120,32,121]), ByteArray.empty, (bs [97,58,98]), (bs [45])] : List BA)).2)])
 none) := by kernel_rfl
def f83_P (a0 : CurT) (o : BA × CurT) : Prop := (fun _ o => o.1.size ≤ 4 ∧ gCur o.2 = true) a0 o ∧ ∃ n : Nat, ∀ {R : Type} (k : List Dt → Option R), evFn f83e f83k n f83c [.pmut] [false] true [.tmp 2] [9] [.d .cur a0] k = k [.d .str o.1, .d .cur o.2]
theorem f83_ex (a0 : CurT) (hg : gCur a0 = true) : ∃ o : BA × CurT, (fun _ o => o.1.size ≤ 4 ∧ gCur o.2 = true) a0 o ∧ ∃ n : Nat, ∀ {R : Type} (k : List Dt → Option R), evFn f83e f83k n f83c [.pmut] [false] true [.tmp 2] [9] [.d .cur a0] k = k [.d .str o.1, .d .cur o.2] := by
 have hp := gPickS_of (l := ([(bs [97]), (bs [98]), (bs [110,97,109,101]), (bs [109,97,120]), (bs [120,32,121]), ByteArray.empty, (bs [97,58,98]), (bs [45])] : List BA)) hg rfl
 obtain ⟨hm, g1⟩ := curPick_ok a0 _ hp
 have hz := bleN (List.all_eq_true.1 (show (([(bs [97]), (bs [98]), (bs [110,97,109,101]), (bs [109,97,120]), (bs [120,32,121]), ByteArray.empty, (bs [97,58,98]), (bs [45])] : List BA).all fun x => Nat.ble x.size 4) = true from rfl) _ hm)
 refine ⟨(?a0z0, ?a1z0), ?gz0, 0, ?rz0⟩
 case rz0 =>
  intro R k
  rw [f83_run]
  simp only [hp, cond_true, cond_false, Bool.not_true, Bool.not_false]
  exact rfl
 case gz0 => exact ⟨hz, g1⟩
theorem f83_ne (a0 : CurT) : Nonempty {o : BA × CurT // gCur a0 = true → f83_P a0 o} := by
 by_cases hg : gCur a0 = true
 ·obtain ⟨o, ho⟩ := f83_ex a0 hg
  exact ⟨⟨o, fun _ => ho⟩⟩
 ·exact ⟨⟨((zero .str), (zero .cur)), fun h => absurd h hg⟩⟩
noncomputable def tKey (a0 : CurT) : BA × CurT := (Classical.choice (f83_ne a0)).val
theorem f83_sp (a0 : CurT) (hg : gCur a0 = true) : f83_P a0 (tKey a0) := (Classical.choice (f83_ne a0)).property hg
theorem tKey_ok (a0 : CurT) (hg : gCur a0 = true) : (fun _ o => o.1.size ≤ 4 ∧ gCur o.2 = true) a0 (tKey a0) := (f83_sp a0 hg).1
theorem f83_spec (a0 : CurT) (hg : gCur a0 = true) : ∃ keep rounds, ∀ {R : Type} (k : List Dt → Option R), evFn f83e keep rounds f83c [.pmut] [false] true [.tmp 2] [9] [.d .cur a0] k = k [.d .str ((tKey a0).1), .d .cur ((tKey a0).2)] := by
 obtain ⟨n, hn⟩ := (f83_sp a0 hg).2
 exact ⟨f83k, n, hn⟩
noncomputable def q83 : List Dt → Option (Bool × List Dt)
 | [.d .cur a0] => some ((gCur a0), [.d .str ((tKey a0).1), .d .cur ((tKey a0).2)])
 | _ => none
noncomputable def s83 : Gm.Spec := Gm.Spec.of [.pmut] [false] true q83
theorem good83 : Gm.Good Try.prog (83, s83) := by
 have hl : ∀ x ∈ [(82, s82)], Gm.Good Try.prog x := fcJ.2 ⟨good82, fcN⟩
 refine ⟨⟨spec_ok (tab_ok.env hl) (tab.natl hl) Try.func83 (by kernel_rfl : Try.f83.body = some f83c) [9] (by kernel_rfl) ?_, _, Try.func83, by kernel_rfl, of_decide_eq_true (by kernel_rfl)⟩, Gm.Spec.of_natl _ _ _ _⟩
 intro ds outs h
 unfold q83 at h
 split at h
 ·simp only [Option.some.injEq, Prod.mk.injEq] at h; obtain ⟨hg, h⟩ := h; cases h; exact f83_spec _ hg
 ·cases h
noncomputable def f87c : Code := (Try.f87.body).getD .skip
def f87k : Nat → Kp := kat [⟨[0], [], [], []⟩, ⟨[0, 2], [], [], []⟩]
noncomputable def f87e : Env := tab.env [(82, s82)]
theorem f87_run {R : Type} (n : Nat) (k : List Dt → Option R) (a0 : CurT) : evFn f87e f87k n f87c [.pmut] [false] true [.tmp 2] [9] [.d .cur a0] k =
 (cond (gPickS a0 ([ByteArray.empty, (bs [97]), (bs [119,101,98]), (bs [116,114,117,101]), (bs [49,50]), (bs [115,97,121,32,34,110,111,34]), (bs [98,97,99,107,92]), (bs [97,58,32,98]), (bs [45,32,120]), (bs [35]), (bs [53,109]), (bs [110,117,108,108]), (bs [32,120])] : List BA))
 (k [.d .str ((curPick a0 ([ByteArray.empty, (bs [97]), (bs [119,101,98]), (bs [116,114,117,101]), (bs [49,50]), (bs [115,97,121,32,34,110,111,34]), (bs [98,97,99,107,92]), (bs [97,58,32,98]), (bs [45,32,120]), (bs [35]), (bs [53,109]), (bs [110,117,108,108]), (bs [32,120])] : List BA)).1), .d .cur ((curPick a0 ([ByteArray.empty, (bs [97]), (bs [119,101,98]), (bs [116,114,117,101]), (bs [49,50]), (bs [115,97,121,32,34,110,111,34]), (bs [98,97,99,107,92]), (bs [97,58,32,98]), (bs [45,32,120]), (bs [35]), (bs [53,109]), (bs [110,117,108,108]), (bs [32,120])] : List BA)).2)])
 none) := by kernel_rfl
def f87_P (a0 : CurT) (o : BA × CurT) : Prop := (fun _ o => o.1.size ≤ 8 ∧ gCur o.2 = true) a0 o ∧ ∃ n : Nat, ∀ {R : Type} (k : List Dt → Option R), evFn f87e f87k n f87c [.pmut] [false] true [.tmp 2] [9] [.d .cur a0] k = k [.d .str o.1, .d .cur o.2]
theorem f87_ex (a0 : CurT) (hg : gCur a0 = true) : ∃ o : BA × CurT, (fun _ o => o.1.size ≤ 8 ∧ gCur o.2 = true) a0 o ∧ ∃ n : Nat, ∀ {R : Type} (k : List Dt → Option R), evFn f87e f87k n f87c [.pmut] [false] true [.tmp 2] [9] [.d .cur a0] k = k [.d .str o.1, .d .cur o.2] := by
 have hp := gPickS_of (l := ([ByteArray.empty, (bs [97]), (bs [119,101,98]), (bs [116,114,117,101]), (bs [49,50]), (bs [115,97,121,32,34,110,111,34]), (bs [98,97,99,107,92]), (bs [97,58,32,98]), (bs [45,32,120]), (bs [35]), (bs [53,109]), (bs [110,117,108,108]), (bs [32,120])] : List BA)) hg rfl
 obtain ⟨hm, g1⟩ := curPick_ok a0 _ hp
 have hz := bleN (List.all_eq_true.1 (show (([ByteArray.empty, (bs [97]), (bs [119,101,98]), (bs [116,114,117,101]), (bs [49,50]), (bs [115,97,121,32,34,110,111,34]), (bs [98,97,99,107,92]), (bs [97,58,32,98]), (bs [45,32,120]), (bs [35]), (bs [53,109]), (bs [110,117,108,108]), (bs [32,120])] : List BA).all fun x => Nat.ble x.size 8) = true from rfl) _ hm)
 refine ⟨(?a0z0, ?a1z0), ?gz0, 0, ?rz0⟩
 case rz0 =>
  intro R k
  rw [f87_run]
  simp only [hp, cond_true, cond_false, Bool.not_true, Bool.not_false]
  exact rfl
 case gz0 => exact ⟨hz, g1⟩
theorem f87_ne (a0 : CurT) : Nonempty {o : BA × CurT // gCur a0 = true → f87_P a0 o} := by
 by_cases hg : gCur a0 = true
 ·obtain ⟨o, ho⟩ := f87_ex a0 hg
  exact ⟨⟨o, fun _ => ho⟩⟩
 ·exact ⟨⟨((zero .str), (zero .cur)), fun h => absurd h hg⟩⟩
noncomputable def tText (a0 : CurT) : BA × CurT := (Classical.choice (f87_ne a0)).val
theorem f87_sp (a0 : CurT) (hg : gCur a0 = true) : f87_P a0 (tText a0) := (Classical.choice (f87_ne a0)).property hg
theorem tText_ok (a0 : CurT) (hg : gCur a0 = true) : (fun _ o => o.1.size ≤ 8 ∧ gCur o.2 = true) a0 (tText a0) := (f87_sp a0 hg).1
theorem f87_spec (a0 : CurT) (hg : gCur a0 = true) : ∃ keep rounds, ∀ {R : Type} (k : List Dt → Option R), evFn f87e keep rounds f87c [.pmut] [false] true [.tmp 2] [9] [.d .cur a0] k = k [.d .str ((tText a0).1), .d .cur ((tText a0).2)] := by
 obtain ⟨n, hn⟩ := (f87_sp a0 hg).2
 exact ⟨f87k, n, hn⟩
noncomputable def q87 : List Dt → Option (Bool × List Dt)
 | [.d .cur a0] => some ((gCur a0), [.d .str ((tText a0).1), .d .cur ((tText a0).2)])
 | _ => none
noncomputable def s87 : Gm.Spec := Gm.Spec.of [.pmut] [false] true q87
theorem good87 : Gm.Good Try.prog (87, s87) := by
 have hl : ∀ x ∈ [(82, s82)], Gm.Good Try.prog x := fcJ.2 ⟨good82, fcN⟩
 refine ⟨⟨spec_ok (tab_ok.env hl) (tab.natl hl) Try.func87 (by kernel_rfl : Try.f87.body = some f87c) [9] (by kernel_rfl) ?_, _, Try.func87, by kernel_rfl, of_decide_eq_true (by kernel_rfl)⟩, Gm.Spec.of_natl _ _ _ _⟩
 intro ds outs h
 unfold q87 at h
 split at h
 ·simp only [Option.some.injEq, Prod.mk.injEq] at h; obtain ⟨hg, h⟩ := h; cases h; exact f87_spec _ hg
 ·cases h
noncomputable def f84c : Code := (Try.f84.body).getD .skip
def f84k : Nat → Kp := kat [⟨[0, 2], [], [], []⟩, ⟨[2], [], [], []⟩]
noncomputable def f84e : Env := tab.env [(93, s93)]
theorem f84_run {R : Type} (n : Nat) (k : List Dt → Option R) (a0 : Bool) : evFn f84e f84k n f84c [.ro] [false] true [.cell 2 31] [31] [.d .bool a0] k =
 (k [.d .node (⟨(1 : Int), (bitI a0), ByteArray.empty, ([] : List BA), ([] : List NodeT)⟩ : NodeT)]) := by kernel_rfl
theorem f84_spec (a0 : Bool) : ∃ keep rounds, ∀ {R : Type} (k : List Dt → Option R), evFn f84e keep rounds f84c [.ro] [false] true [.cell 2 31] [31] [.d .bool a0] k = k [.d .node (flagN a0)] := by
 refine ⟨f84k, 0, fun {R} k => ?_⟩
 rw [f84_run]
 rfl
noncomputable def q84 : List Dt → Option (Bool × List Dt)
 | [.d .bool a0] => some (true, [.d .node (flagN a0)])
 | _ => none
noncomputable def s84 : Gm.Spec := Gm.Spec.of [.ro] [false] true q84
theorem good84 : Gm.Good Try.prog (84, s84) := by
 have hl : ∀ x ∈ [(93, s93)], Gm.Good Try.prog x := fcJ.2 ⟨good93, fcN⟩
 refine ⟨⟨spec_ok (tab_ok.env hl) (tab.natl hl) Try.func84 (by kernel_rfl : Try.f84.body = some f84c) [31] (by kernel_rfl) ?_, _, Try.func84, by kernel_rfl, of_decide_eq_true (by kernel_rfl)⟩, Gm.Spec.of_natl _ _ _ _⟩
 intro ds outs h
 unfold q84 at h
 split at h
 ·cases h; exact f84_spec _
 ·cases h
noncomputable def f85c : Code := (Try.f85.body).getD .skip
def f85k : Nat → Kp := kat [⟨[0, 2], [], [], []⟩, ⟨[2], [], [], []⟩]
noncomputable def f85e : Env := tab.env []
theorem f85_run {R : Type} (n : Nat) (k : List Dt → Option R) (a0 : Int) : evFn f85e f85k n f85c [.ro] [false] true [.cell 2 31] [31] [.d (.i .i64) a0] k =
 (k [.d .node (⟨(2 : Int), a0, ByteArray.empty, ([] : List BA), ([] : List NodeT)⟩ : NodeT)]) := by kernel_rfl
theorem f85_spec (a0 : Int) : ∃ keep rounds, ∀ {R : Type} (k : List Dt → Option R), evFn f85e keep rounds f85c [.ro] [false] true [.cell 2 31] [31] [.d (.i .i64) a0] k = k [.d .node (intN a0)] := by
 refine ⟨f85k, 0, fun {R} k => ?_⟩
 rw [f85_run]
 rfl
noncomputable def q85 : List Dt → Option (Bool × List Dt)
 | [.d (.i .i64) a0] => some (true, [.d .node (intN a0)])
 | _ => none
noncomputable def s85 : Gm.Spec := Gm.Spec.of [.ro] [false] true q85
theorem good85 : Gm.Good Try.prog (85, s85) := by
 have hl : ∀ x ∈ ([] : List (Nat × Gm.Spec)), Gm.Good Try.prog x := fun _ h => by cases h
 refine ⟨⟨spec_ok (tab_ok.env hl) (tab.natl hl) Try.func85 (by kernel_rfl : Try.f85.body = some f85c) [31] (by kernel_rfl) ?_, _, Try.func85, by kernel_rfl, of_decide_eq_true (by kernel_rfl)⟩, Gm.Spec.of_natl _ _ _ _⟩
 intro ds outs h
 unfold q85 at h
 split at h
 ·cases h; exact f85_spec _
 ·cases h
noncomputable def f86c : Code := (Try.f86.body).getD .skip
def f86k : Nat → Kp := kat [⟨[0, 2], [], [], []⟩, ⟨[2], [], [], []⟩]
noncomputable def f86e : Env := tab.env []
theorem f86_run {R : Type} (n : Nat) (k : List Dt → Option R) (a0 : BA) : evFn f86e f86k n f86c [.ro] [false] true [.cell 2 31] [31] [.d .str a0] k =
 (k [.d .node (⟨(3 : Int), (0 : Int), a0, ([] : List BA), ([] : List NodeT)⟩ : NodeT)]) := by kernel_rfl
theorem f86_spec (a0 : BA) : ∃ keep rounds, ∀ {R : Type} (k : List Dt → Option R), evFn f86e keep rounds f86c [.ro] [false] true [.cell 2 31] [31] [.d .str a0] k = k [.d .node (textN a0)] := by
 refine ⟨f86k, 0, fun {R} k => ?_⟩
 rw [f86_run]
 rfl
noncomputable def q86 : List Dt → Option (Bool × List Dt)
 | [.d .str a0] => some (true, [.d .node (textN a0)])
 | _ => none
noncomputable def s86 : Gm.Spec := Gm.Spec.of [.ro] [false] true q86
theorem good86 : Gm.Good Try.prog (86, s86) := by
 have hl : ∀ x ∈ ([] : List (Nat × Gm.Spec)), Gm.Good Try.prog x := fun _ h => by cases h
 refine ⟨⟨spec_ok (tab_ok.env hl) (tab.natl hl) Try.func86 (by kernel_rfl : Try.f86.body = some f86c) [31] (by kernel_rfl) ?_, _, Try.func86, by kernel_rfl, of_decide_eq_true (by kernel_rfl)⟩, Gm.Spec.of_natl _ _ _ _⟩
 intro ds outs h
 unfold q86 at h
 split at h
 ·cases h; exact f86_spec _
 ·cases h
def gFam (N : Nat) (b : Bool) (c : CurT) (d : Int) : Bool := b && (gCur c && (d == (N : Int)))
noncomputable def q63r (F : CurT → NodeT × CurT) (N : Nat) (b : Bool) : List Dt → Option (Bool × List Dt)
 | [.d .cur a0, .d (.i .i64) a1] => some (gFam N b a0 a1, [.d .node (F a0).1, .d .cur (F a0).2])
 | _ => none
noncomputable def s63r (F : CurT → NodeT × CurT) (N : Nat) (b : Bool) : Gm.Spec := Gm.Spec.of [.pmut, .ro] [false] true (q63r F N b)
noncomputable def f63S0 (y0 : Int) (y1 : Int) (y2 : Int) (y3 : Int) (y4 : List Int) (y5 : Int) (y6 : Int) (y10 : Int) (y11 : Int) (y12 : BA) (y13 : List BA) (y14 : List NodeT) : St := ⟨[(0, .c (.one (.pt 0 0))), (1, .c (.one (.v (.int .i64 y0)))), (4, .c (.one (.pt 4 0))), (5, .c (.one (.v (.int .i64 y1)))), (6, .c (.one (.pt 6 0))), (7, .c (.one (.v (.int .i64 y2)))), (8, .c (.one (.v (.int .i64 y3))))], [(0, ⟨.cur, [.rk (.i .u8) y4, .v (.int .i64 y5), .v (.int .i64 y6)]⟩), (4, ⟨.node, [.v (.int .i64 (0 : Int)), .v (.int .i64 (0 : Int)), .v (.string ByteArray.empty), .nl, .nl]⟩), (6, ⟨.node, [.v (.int .i64 y10), .v (.int .i64 y11), .v (.string y12), .h 387 0 0 [], .h 388 0 0 []]⟩)], [(387, .live ⟨.str, .deep, 0, [], y13⟩), (388, .live ⟨.node, .deep, 0, [], y14⟩)]⟩
noncomputable def f63S1 (y0 : Int) (y1 : Int) (y2 : Int) (y3 : Int) (y4 : Bool) (y5 : List Int) (y6 : Int) (y7 : Int) (y11 : Int) (y12 : Int) (y13 : BA) (y14 : List BA) (y15 : List NodeT) : St := ⟨[(0, .c (.one (.pt 0 0))), (1, .c (.one (.v (.int .i64 y0)))), (4, .c (.one (.pt 4 0))), (5, .c (.one (.v (.int .i64 y1)))), (6, .c (.one (.pt 6 0))), (7, .c (.one (.v (.int .i64 y2)))), (8, .c (.one (.v (.int .i64 y3)))), (42, .c (.one (.v (.bool y4))))], [(0, ⟨.cur, [.rk (.i .u8) y5, .v (.int .i64 y6), .v (.int .i64 y7)]⟩), (4, ⟨.node, [.v (.int .i64 (0 : Int)), .v (.int .i64 (0 : Int)), .v (.string ByteArray.empty), .nl, .nl]⟩), (6, ⟨.node, [.v (.int .i64 y11), .v (.int .i64 y12), .v (.string y13), .h 387 0 0 [], .h 388 0 0 []]⟩)], [(387, .live ⟨.str, .deep, 0, [], y14⟩), (388, .live ⟨.node, .deep, 0, [], y15⟩)]⟩
noncomputable def f63c : Code := (Try.f63.body).getD .skip
def f63k : Nat → Kp := kat [⟨[0, 1, 4], [], [], []⟩, ⟨[0, 1, 4, 5], [], [], []⟩, ⟨[0, 1, 4, 5, 13], [], [], []⟩, ⟨[0, 1, 4, 5], [], [], []⟩, ⟨[0, 1, 4, 5, 16], [], [], []⟩, ⟨[0, 1, 4, 5, 16, 17], [], [], []⟩, ⟨[0, 4], [], [], []⟩, ⟨[0, 1, 4, 5, 16, 20], [], [], []⟩, ⟨[0, 4], [], [], []⟩, ⟨[0, 1, 4, 5, 16, 25], [], [], []⟩, ⟨[0, 4], [], [], []⟩, ⟨[0, 1, 4, 5, 31], [], [], []⟩, ⟨[0, 4], [], [], []⟩, ⟨[0, 1, 4, 5, 6], [], [], []⟩, ⟨[0, 1, 4, 5, 6, 7], [], [], []⟩, ⟨[0, 1, 4, 5, 6, 7, 8], [⟨true, false, 6, 3, .str⟩, ⟨true, false, 6, 4, .node⟩], [], []⟩, ⟨[0, 1, 4, 5, 6, 7, 8, 42], [], [], []⟩, ⟨[0, 1, 4, 5, 6, 7, 8], [], [], [(3520, 387), (3521, 388)]⟩, ⟨[0, 1, 4, 5, 6, 7, 8, 9], [], [], []⟩, ⟨[0, 1, 4, 5, 6, 7, 8, 9, 50], [], [], []⟩, ⟨[0, 1, 4, 5, 6, 7, 8], [], [], []⟩, ⟨[0, 1, 4, 5, 6, 7, 8], [], [], []⟩, ⟨[0, 4], [], [], []⟩]
noncomputable def f63e (F : CurT → NodeT × CurT) (N : Nat) (b : Bool) : Env := tab.env [(63, s63r F N b), (71, s71), (79, s79), (80, s80), (81, s81), (83, s83), (84, s84), (85, s85), (86, s86), (87, s87)]
noncomputable def f63L0 {R : Type} (F : CurT → NodeT × CurT) (N : Nat) (b : Bool) (n : Nat) (x0 : Int → Bool → (List Int) → Int → Int → Int → Int → BA → (List BA) → (List NodeT) → Option R) (wK : Int) (wL : Int) (wI : Int) : Nat → Int → (List Int) → Int → Int → Int → Int → BA → (List BA) → (List NodeT) → Option R
  | 0, _, _, _, _, _, _, _, _, _ => none
  | m + 1, wJ, wA, wB, wC, wE, wF, wG, wH, wD =>
    (cond (decide (wJ < wI))
   (cond (gFam N b (⟨wA, wB, wC⟩ : CurT) (IntKind.wrap .i64 (wK - (1 : Int))))
    (cond (wL == (5 : Int))
     (cond (gCur ((F (⟨wA, wB, wC⟩ : CurT)).2))
      (cond (gS3 (⟨wE, wF, wG, wH, wD⟩ : NodeT) ((tKey ((F (⟨wA, wB, wC⟩ : CurT)).2)).1) (eN ((F (⟨wA, wB, wC⟩ : CurT)).1)))
       (f63L0 F N b n x0 wK wL wI m (IntKind.wrap .i64 (wJ + (1 : Int))) (CurT.b ((tKey ((F (⟨wA, wB, wC⟩ : CurT)).2)).2)) (CurT.i ((tKey ((F (⟨wA, wB, wC⟩ : CurT)).2)).2)) (CurT.h ((tKey ((F (⟨wA, wB, wC⟩ : CurT)).2)).2)) (NodeT.kind (setK (⟨wE, wF, wG, wH, wD⟩ : NodeT) ((tKey ((F (⟨wA, wB, wC⟩ : CurT)).2)).1) (eN ((F (⟨wA, wB, wC⟩ : CurT)).1)))) (NodeT.n (setK (⟨wE, wF, wG, wH, wD⟩ : NodeT) ((tKey ((F (⟨wA, wB, wC⟩ : CurT)).2)).1) (eN ((F (⟨wA, wB, wC⟩ : CurT)).1)))) (NodeT.s (setK (⟨wE, wF, wG, wH, wD⟩ : NodeT) ((tKey ((F (⟨wA, wB, wC⟩ : CurT)).2)).1) (eN ((F (⟨wA, wB, wC⟩ : CurT)).1)))) (NodeT.keys (setK (⟨wE, wF, wG, wH, wD⟩ : NodeT) ((tKey ((F (⟨wA, wB, wC⟩ : CurT)).2)).1) (eN ((F (⟨wA, wB, wC⟩ : CurT)).1)))) (NodeT.kids (setK (⟨wE, wF, wG, wH, wD⟩ : NodeT) ((tKey ((F (⟨wA, wB, wC⟩ : CurT)).2)).1) (eN ((F (⟨wA, wB, wC⟩ : CurT)).1)))))
       none)
      none)
     (cond (Nat.ble (wD.length + 1) LIM)
      (f63L0 F N b n x0 wK wL wI m (IntKind.wrap .i64 (wJ + (1 : Int))) (CurT.b ((F (⟨wA, wB, wC⟩ : CurT)).2)) (CurT.i ((F (⟨wA, wB, wC⟩ : CurT)).2)) (CurT.h ((F (⟨wA, wB, wC⟩ : CurT)).2)) wE wF wG wH (wD ++ ([(eN ((F (⟨wA, wB, wC⟩ : CurT)).1))] : List NodeT)))
      none))
    none)
   (x0 wJ (decide (wJ < wI)) wA wB wC wE wF wG wH wD))
theorem f63L0_b {R : Type} (F : CurT → NodeT × CurT) (N : Nat) (b : Bool) (n : Nat) (k' : Ex → St → Option R) (wK : Int) (wL : Int) (wI : Int) (wJ : Int) (wA : List Int) (wB : Int) (wC : Int) (wE : Int) (wF : Int) (wG : BA) (wH : List BA) (wD : List NodeT) : ev (f63e F N b) f63k n (cAt [1,1,1,1,1,1,0,1,0,0] f63c) (f63S0 wK wL wI wJ wA wB wC wE wF wG wH wD) k' =
 (cond (decide (wJ < wI))
 (cond (gFam N b (⟨wA, wB, wC⟩ : CurT) (IntKind.wrap .i64 (wK - (1 : Int))))
 (cond (wL == (5 : Int))
 (cond (gCur ((F (⟨wA, wB, wC⟩ : CurT)).2))
 (cond (gS3 (⟨wE, wF, wG, wH, wD⟩ : NodeT) ((tKey ((F (⟨wA, wB, wC⟩ : CurT)).2)).1) (eN ((F (⟨wA, wB, wC⟩ : CurT)).1)))
 (k' .normal (f63S0 wK wL wI (IntKind.wrap .i64 (wJ + (1 : Int))) (CurT.b ((tKey ((F (⟨wA, wB, wC⟩ : CurT)).2)).2)) (CurT.i ((tKey ((F (⟨wA, wB, wC⟩ : CurT)).2)).2)) (CurT.h ((tKey ((F (⟨wA, wB, wC⟩ : CurT)).2)).2)) (NodeT.kind (setK (⟨wE, wF, wG, wH, wD⟩ : NodeT) ((tKey ((F (⟨wA, wB, wC⟩ : CurT)).2)).1) (eN ((F (⟨wA, wB, wC⟩ : CurT)).1)))) (NodeT.n (setK (⟨wE, wF, wG, wH, wD⟩ : NodeT) ((tKey ((F (⟨wA, wB, wC⟩ : CurT)).2)).1) (eN ((F (⟨wA, wB, wC⟩ : CurT)).1)))) (NodeT.s (setK (⟨wE, wF, wG, wH, wD⟩ : NodeT) ((tKey ((F (⟨wA, wB, wC⟩ : CurT)).2)).1) (eN ((F (⟨wA, wB, wC⟩ : CurT)).1)))) (NodeT.keys (setK (⟨wE, wF, wG, wH, wD⟩ : NodeT) ((tKey ((F (⟨wA, wB, wC⟩ : CurT)).2)).1) (eN ((F (⟨wA, wB, wC⟩ : CurT)).1)))) (NodeT.kids (setK (⟨wE, wF, wG, wH, wD⟩ : NodeT) ((tKey ((F (⟨wA, wB, wC⟩ : CurT)).2)).1) (eN ((F (⟨wA, wB, wC⟩ : CurT)).1))))))
 none)
 none)
 (cond (Nat.ble (wD.length + 1) LIM)
 (k' .normal (f63S0 wK wL wI (IntKind.wrap .i64 (wJ + (1 : Int))) (CurT.b ((F (⟨wA, wB, wC⟩ : CurT)).2)) (CurT.i ((F (⟨wA, wB, wC⟩ : CurT)).2)) (CurT.h ((F (⟨wA, wB, wC⟩ : CurT)).2)) wE wF wG wH (wD ++ ([(eN ((F (⟨wA, wB, wC⟩ : CurT)).1))] : List NodeT))))
 none))
 none)
 (k' (.exit 1) (f63S1 wK wL wI wJ (decide (wJ < wI)) wA wB wC wE wF wG wH wD))) := by kernel_rfl
theorem f63L0_eq {R : Type} (F : CurT → NodeT × CurT) (N : Nat) (b : Bool) (n : Nat) (k' : Ex → St → Option R) (wK : Int) (wL : Int) (wI : Int) : ∀ (m : Nat) (wJ : Int) (wA : List Int) (wB : Int) (wC : Int) (wE : Int) (wF : Int) (wG : BA) (wH : List BA) (wD : List NodeT), iter (fun st k => ev (f63e F N b) f63k n (cAt [1,1,1,1,1,1,0,1,0,0] f63c) st k) m (f63S0 wK wL wI wJ wA wB wC wE wF wG wH wD) k' = f63L0 F N b n (fun (wU : Int) (wV : Bool) (wM : List Int) (wN : Int) (wO : Int) (wP : Int) (wQ : Int) (wR : BA) (wS : List BA) (wT : List NodeT) => k' (.exit 1) (f63S1 wK wL wI wU wV wM wN wO wP wQ wR wS wT)) wK wL wI m wJ wA wB wC wE wF wG wH wD := by
 intro m; induction m with
 | zero => intros; rfl
 | succ m ih =>
  intro wJ wA wB wC wE wF wG wH wD
  simp only [iter]
  rw [f63L0_b]
  simp only [ih, f63L0]
noncomputable def f63K0 {R : Type} (F : CurT → NodeT × CurT) (N : Nat) (b : Bool) (n : Nat) (k' : Ex → St → Option R) : Ex → St → Option R := (blockK 1 (seqK (f63e F N b) f63k n (cAt [1,1,1,1,1,1,1] f63c) k'))
theorem f63K0_x0 {R : Type} (F : CurT → NodeT × CurT) (N : Nat) (b : Bool) (n : Nat) (k : List Dt → Option R) (a0 : CurT) (a1 : Int) (wK : Int) (wL : Int) (wI : Int) (wU : Int) (wV : Bool) (wM : List Int) (wN : Int) (wO : Int) (wP : Int) (wQ : Int) (wR : BA) (wS : List BA) (wT : List NodeT) : f63K0 F N b n (exitK (f63e F N b) [.pmut, .ro] [false] true [.cell 4 31] [31] [.d .cur a0, .d (.i .i64) a1] k) (.exit 1) (f63S1 wK wL wI wU wV wM wN wO wP wQ wR wS wT) =
 (k [.d .node (⟨wP, wQ, wR, wS, wT⟩ : NodeT), .d .cur (⟨wM, wN, wO⟩ : CurT)]) := by kernel_rfl
theorem f63_run {R : Type} (F : CurT → NodeT × CurT) (N : Nat) (b : Bool) (n : Nat) (k : List Dt → Option R) (a0 : CurT) (a1 : Int) : evFn (f63e F N b) f63k n f63c [.pmut, .ro] [false] true [.cell 4 31] [31] [.d .cur a0, .d (.i .i64) a1] k =
 (cond ((fun c _ => gCur c) a0 (6 : Int))
 (cond (a1 == (0 : Int))
 (cond ((fun c _ => gCur c) ((curBelow a0 (6 : Int)).2) (4 : Int))
 (cond (((curBelow ((curBelow a0 (6 : Int)).2) (4 : Int)).1) == (0 : Int))
 (k [.d .node (⟨(0 : Int), (0 : Int), ByteArray.empty, ([] : List BA), ([] : List NodeT)⟩ : NodeT), .d .cur ((curBelow ((curBelow a0 (6 : Int)).2) (4 : Int)).2)])
 (cond (((curBelow ((curBelow a0 (6 : Int)).2) (4 : Int)).1) == (1 : Int))
 (cond ((fun c _ => gCur c) ((curBelow ((curBelow a0 (6 : Int)).2) (4 : Int)).2) (2 : Int))
 (k [.d .node (eN (flagN ((curOnce ((curBelow ((curBelow a0 (6 : Int)).2) (4 : Int)).2) (2 : Int)).1))), .d .cur ((curOnce ((curBelow ((curBelow a0 (6 : Int)).2) (4 : Int)).2) (2 : Int)).2)])
 none)
 (cond (((curBelow ((curBelow a0 (6 : Int)).2) (4 : Int)).1) == (2 : Int))
 (cond (gPickI ((curBelow ((curBelow a0 (6 : Int)).2) (4 : Int)).2) ([(0 : Int), (7 : Int), (-3 : Int), (1000 : Int), (1000000000000 : Int)] : List Int))
 (k [.d .node (eN (intN ((curPickI ((curBelow ((curBelow a0 (6 : Int)).2) (4 : Int)).2) ([(0 : Int), (7 : Int), (-3 : Int), (1000 : Int), (1000000000000 : Int)] : List Int)).1))), .d .cur ((curPickI ((curBelow ((curBelow a0 (6 : Int)).2) (4 : Int)).2) ([(0 : Int), (7 : Int), (-3 : Int), (1000 : Int), (1000000000000 : Int)] : List Int)).2)])
 none)
 (cond (((curBelow ((curBelow a0 (6 : Int)).2) (4 : Int)).1) == (3 : Int))
 (cond (gCur ((curBelow ((curBelow a0 (6 : Int)).2) (4 : Int)).2))
 (k [.d .node (eN (textN ((tText ((curBelow ((curBelow a0 (6 : Int)).2) (4 : Int)).2)).1))), .d .cur ((tText ((curBelow ((curBelow a0 (6 : Int)).2) (4 : Int)).2)).2)])
 none)
 (cond ((fun c _ => gCur c) ((curBelow ((curBelow a0 (6 : Int)).2) (4 : Int)).2) (4 : Int))
 (f63L0 F N b n (fun (wU : Int) (wV : Bool) (wM : List Int) (wN : Int) (wO : Int) (wP : Int) (wQ : Int) (wR : BA) (wS : List BA) (wT : List NodeT) =>
 (k [.d .node (⟨wP, wQ, wR, wS, wT⟩ : NodeT), .d .cur (⟨wM, wN, wO⟩ : CurT)])) a1 ((curBelow ((curBelow a0 (6 : Int)).2) (4 : Int)).1) ((curBelow ((curBelow ((curBelow a0 (6 : Int)).2) (4 : Int)).2) (4 : Int)).1) n (0 : Int) (CurT.b ((curBelow ((curBelow ((curBelow a0 (6 : Int)).2) (4 : Int)).2) (4 : Int)).2)) (CurT.i ((curBelow ((curBelow ((curBelow a0 (6 : Int)).2) (4 : Int)).2) (4 : Int)).2)) (CurT.h ((curBelow ((curBelow ((curBelow a0 (6 : Int)).2) (4 : Int)).2) (4 : Int)).2)) ((curBelow ((curBelow a0 (6 : Int)).2) (4 : Int)).1) (0 : Int) ByteArray.empty ([] : List BA) ([] : List NodeT))
 none)))))
 none)
 (cond (((curBelow a0 (6 : Int)).1) == (0 : Int))
 (k [.d .node (⟨(0 : Int), (0 : Int), ByteArray.empty, ([] : List BA), ([] : List NodeT)⟩ : NodeT), .d .cur ((curBelow a0 (6 : Int)).2)])
 (cond (((curBelow a0 (6 : Int)).1) == (1 : Int))
 (cond ((fun c _ => gCur c) ((curBelow a0 (6 : Int)).2) (2 : Int))
 (k [.d .node (eN (flagN ((curOnce ((curBelow a0 (6 : Int)).2) (2 : Int)).1))), .d .cur ((curOnce ((curBelow a0 (6 : Int)).2) (2 : Int)).2)])
 none)
 (cond (((curBelow a0 (6 : Int)).1) == (2 : Int))
 (cond (gPickI ((curBelow a0 (6 : Int)).2) ([(0 : Int), (7 : Int), (-3 : Int), (1000 : Int), (1000000000000 : Int)] : List Int))
 (k [.d .node (eN (intN ((curPickI ((curBelow a0 (6 : Int)).2) ([(0 : Int), (7 : Int), (-3 : Int), (1000 : Int), (1000000000000 : Int)] : List Int)).1))), .d .cur ((curPickI ((curBelow a0 (6 : Int)).2) ([(0 : Int), (7 : Int), (-3 : Int), (1000 : Int), (1000000000000 : Int)] : List Int)).2)])
 none)
 (cond (((curBelow a0 (6 : Int)).1) == (3 : Int))
 (cond (gCur ((curBelow a0 (6 : Int)).2))
 (k [.d .node (eN (textN ((tText ((curBelow a0 (6 : Int)).2)).1))), .d .cur ((tText ((curBelow a0 (6 : Int)).2)).2)])
 none)
 (cond ((fun c _ => gCur c) ((curBelow a0 (6 : Int)).2) (4 : Int))
 (f63L0 F N b n (fun (wU : Int) (wV : Bool) (wM : List Int) (wN : Int) (wO : Int) (wP : Int) (wQ : Int) (wR : BA) (wS : List BA) (wT : List NodeT) =>
 (k [.d .node (⟨wP, wQ, wR, wS, wT⟩ : NodeT), .d .cur (⟨wM, wN, wO⟩ : CurT)])) a1 ((curBelow a0 (6 : Int)).1) ((curBelow ((curBelow a0 (6 : Int)).2) (4 : Int)).1) n (0 : Int) (CurT.b ((curBelow ((curBelow a0 (6 : Int)).2) (4 : Int)).2)) (CurT.i ((curBelow ((curBelow a0 (6 : Int)).2) (4 : Int)).2)) (CurT.h ((curBelow ((curBelow a0 (6 : Int)).2) (4 : Int)).2)) ((curBelow a0 (6 : Int)).1) (0 : Int) ByteArray.empty ([] : List BA) ([] : List NodeT))
 none))))))
 none) := by
  refine Eq.trans (b := (cond ((fun c _ => gCur c) a0 (6 : Int))
  (cond (a1 == (0 : Int))
   (cond ((fun c _ => gCur c) ((curBelow a0 (6 : Int)).2) (4 : Int))
    (cond (((curBelow ((curBelow a0 (6 : Int)).2) (4 : Int)).1) == (0 : Int))
     (k [.d .node (⟨(0 : Int), (0 : Int), ByteArray.empty, ([] : List BA), ([] : List NodeT)⟩ : NodeT), .d .cur ((curBelow ((curBelow a0 (6 : Int)).2) (4 : Int)).2)])
     (cond (((curBelow ((curBelow a0 (6 : Int)).2) (4 : Int)).1) == (1 : Int))
      (cond ((fun c _ => gCur c) ((curBelow ((curBelow a0 (6 : Int)).2) (4 : Int)).2) (2 : Int))
       (k [.d .node (eN (flagN ((curOnce ((curBelow ((curBelow a0 (6 : Int)).2) (4 : Int)).2) (2 : Int)).1))), .d .cur ((curOnce ((curBelow ((curBelow a0 (6 : Int)).2) (4 : Int)).2) (2 : Int)).2)])
       none)
      (cond (((curBelow ((curBelow a0 (6 : Int)).2) (4 : Int)).1) == (2 : Int))
       (cond (gPickI ((curBelow ((curBelow a0 (6 : Int)).2) (4 : Int)).2) ([(0 : Int), (7 : Int), (-3 : Int), (1000 : Int), (1000000000000 : Int)] : List Int))
        (k [.d .node (eN (intN ((curPickI ((curBelow ((curBelow a0 (6 : Int)).2) (4 : Int)).2) ([(0 : Int), (7 : Int), (-3 : Int), (1000 : Int), (1000000000000 : Int)] : List Int)).1))), .d .cur ((curPickI ((curBelow ((curBelow a0 (6 : Int)).2) (4 : Int)).2) ([(0 : Int), (7 : Int), (-3 : Int), (1000 : Int), (1000000000000 : Int)] : List Int)).2)])
        none)
       (cond (((curBelow ((curBelow a0 (6 : Int)).2) (4 : Int)).1) == (3 : Int))
        (cond (gCur ((curBelow ((curBelow a0 (6 : Int)).2) (4 : Int)).2))
         (k [.d .node (eN (textN ((tText ((curBelow ((curBelow a0 (6 : Int)).2) (4 : Int)).2)).1))), .d .cur ((tText ((curBelow ((curBelow a0 (6 : Int)).2) (4 : Int)).2)).2)])
         none)
        (cond ((fun c _ => gCur c) ((curBelow ((curBelow a0 (6 : Int)).2) (4 : Int)).2) (4 : Int))
         (iter (fun st k => ev (f63e F N b) f63k n (cAt [1,1,1,1,1,1,0,1,0,0] f63c) st k) n (f63S0 a1 ((curBelow ((curBelow a0 (6 : Int)).2) (4 : Int)).1) ((curBelow ((curBelow ((curBelow a0 (6 : Int)).2) (4 : Int)).2) (4 : Int)).1) (0 : Int) (CurT.b ((curBelow ((curBelow ((curBelow a0 (6 : Int)).2) (4 : Int)).2) (4 : Int)).2)) (CurT.i ((curBelow ((curBelow ((curBelow a0 (6 : Int)).2) (4 : Int)).2) (4 : Int)).2)) (CurT.h ((curBelow ((curBelow ((curBelow a0 (6 : Int)).2) (4 : Int)).2) (4 : Int)).2)) ((curBelow ((curBelow a0 (6 : Int)).2) (4 : Int)).1) (0 : Int) ByteArray.empty ([] : List BA) ([] : List NodeT)) (f63K0 F N b n (exitK (f63e F N b) [.pmut, .ro] [false] true [.cell 4 31] [31] [.d .cur a0, .d (.i .i64) a1] k)))
         none)))))
    none)
   (cond (((curBelow a0 (6 : Int)).1) == (0 : Int))
    (k [.d .node (⟨(0 : Int), (0 : Int), ByteArray.empty, ([] : List BA), ([] : List NodeT)⟩ : NodeT), .d .cur ((curBelow a0 (6 : Int)).2)])
    (cond (((curBelow a0 (6 : Int)).1) == (1 : Int))
     (cond ((fun c _ => gCur c) ((curBelow a0 (6 : Int)).2) (2 : Int))
      (k [.d .node (eN (flagN ((curOnce ((curBelow a0 (6 : Int)).2) (2 : Int)).1))), .d .cur ((curOnce ((curBelow a0 (6 : Int)).2) (2 : Int)).2)])
      none)
     (cond (((curBelow a0 (6 : Int)).1) == (2 : Int))
      (cond (gPickI ((curBelow a0 (6 : Int)).2) ([(0 : Int), (7 : Int), (-3 : Int), (1000 : Int), (1000000000000 : Int)] : List Int))
       (k [.d .node (eN (intN ((curPickI ((curBelow a0 (6 : Int)).2) ([(0 : Int), (7 : Int), (-3 : Int), (1000 : Int), (1000000000000 : Int)] : List Int)).1))), .d .cur ((curPickI ((curBelow a0 (6 : Int)).2) ([(0 : Int), (7 : Int), (-3 : Int), (1000 : Int), (1000000000000 : Int)] : List Int)).2)])
       none)
      (cond (((curBelow a0 (6 : Int)).1) == (3 : Int))
       (cond (gCur ((curBelow a0 (6 : Int)).2))
        (k [.d .node (eN (textN ((tText ((curBelow a0 (6 : Int)).2)).1))), .d .cur ((tText ((curBelow a0 (6 : Int)).2)).2)])
        none)
       (cond ((fun c _ => gCur c) ((curBelow a0 (6 : Int)).2) (4 : Int))
        (iter (fun st k => ev (f63e F N b) f63k n (cAt [1,1,1,1,1,1,0,1,0,0] f63c) st k) n (f63S0 a1 ((curBelow a0 (6 : Int)).1) ((curBelow ((curBelow a0 (6 : Int)).2) (4 : Int)).1) (0 : Int) (CurT.b ((curBelow ((curBelow a0 (6 : Int)).2) (4 : Int)).2)) (CurT.i ((curBelow ((curBelow a0 (6 : Int)).2) (4 : Int)).2)) (CurT.h ((curBelow ((curBelow a0 (6 : Int)).2) (4 : Int)).2)) ((curBelow a0 (6 : Int)).1) (0 : Int) ByteArray.empty ([] : List BA) ([] : List NodeT)) (f63K0 F N b n (exitK (f63e F N b) [.pmut, .ro] [false] true [.cell 4 31] [31] [.d .cur a0, .d (.i .i64) a1] k)))
        none))))))
  none)) (by kernel_rfl) ?_
  simp only [f63L0_eq, f63K0_x0]
theorem f63_ex0 (F : CurT → NodeT × CurT) (N : Nat) (b : Bool) (a0 : CurT) (hg : gCur a0 = true) : ∃ o : NodeT × CurT, (GT 0 o.1 ∧ gCur o.2 = true) ∧ ∃ n : Nat, ∀ {R : Type} (k : List Dt → Option R), evFn (f63e F N b) f63k n f63c [.pmut, .ro] [false] true [.cell 4 31] [31] [.d .cur a0, .d (.i .i64) (0 : Int)] k = k [.d .node o.1, .d .cur o.2] := by
 obtain ⟨_, _, g1⟩ := curBelow_ok a0 6 hg
 obtain ⟨x0, x1, g2⟩ := curBelow_ok (curBelow a0 6).2 4 g1
 have x1 := x1 (by omega)
 have hz : ((0 : Int) == (0 : Int)) = true := rfl
 cases e0 : ((curBelow (curBelow a0 6).2 4).1 == (0 : Int))
 rotate_left
 ·skip
  refine ⟨(?za0, ?zb0), ?zg0, 0, ?zr0⟩
  case zr0 =>
   intro R k
   rw [f63_run]
   simp only [hg, g1, g2, hz, e0, cond_true, cond_false]
   exact rfl
  case zg0 => exact ⟨GT_leaf _ rfl rfl (by decide), g2⟩
 cases e1 : ((curBelow (curBelow a0 6).2 4).1 == (1 : Int))
 rotate_left
 ·have h1 := curOnce_ok (curBelow (curBelow a0 6).2 4).2 2 g2
  refine ⟨(?za1, ?zb1), ?zg1, 0, ?zr1⟩
  case zr1 =>
   intro R k
   rw [f63_run]
   simp only [hg, g1, g2, hz, e0, e1, cond_true, cond_false]
   exact rfl
  case zg1 => exact ⟨flagN_ok _ _, h1⟩
 cases e2 : ((curBelow (curBelow a0 6).2 4).1 == (2 : Int))
 rotate_left
 ·have hp := gPickI_of (l := ([(0 : Int), (7 : Int), (-3 : Int), (1000 : Int), (1000000000000 : Int)] : List Int)) g2 rfl
  obtain ⟨hm, h1⟩ := curPickI_ok (curBelow (curBelow a0 6).2 4).2 _ hp
  refine ⟨(?za2, ?zb2), ?zg2, 0, ?zr2⟩
  case zr2 =>
   intro R k
   rw [f63_run]
   simp only [hg, g1, g2, hz, e0, e1, e2, hp, cond_true, cond_false]
   exact rfl
  case zg2 => exact ⟨intN_ok _ (List.all_eq_true.1 (show (([(0 : Int), (7 : Int), (-3 : Int), (1000 : Int), (1000000000000 : Int)] : List Int).all okI) = true from rfl) _ hm), h1⟩
 cases e3 : ((curBelow (curBelow a0 6).2 4).1 == (3 : Int))
 rotate_left
 ·obtain ⟨hz, h1⟩ := tText_ok (curBelow (curBelow a0 6).2 4).2 g2
  refine ⟨(?za3, ?zb3), ?zg3, 0, ?zr3⟩
  case zr3 =>
   intro R k
   rw [f63_run]
   simp only [hg, g1, g2, hz, e0, e1, e2, e3, cond_true, cond_false]
   exact rfl
  case zg3 => exact ⟨textN_ok _ hz, h1⟩
 exfalso
 rw [beq_eq_false_iff_ne] at e0 e1 e2 e3
 omega
theorem f63_exS (F : CurT → NodeT × CurT) (N : Nat) (hN : N + 1 ≤ 6) (hF : ∀ c, gCur c = true → GT N (F c).1 ∧ gCur (F c).2 = true) (a0 : CurT) (hg : gCur a0 = true) : ∃ o : NodeT × CurT, (GT (N + 1) o.1 ∧ gCur o.2 = true) ∧ ∃ n : Nat, ∀ {R : Type} (k : List Dt → Option R), evFn (f63e F N true) f63k n f63c [.pmut, .ro] [false] true [.cell 4 31] [31] [.d .cur a0, .d (.i .i64) ((N + 1 : Nat) : Int)] k = k [.d .node o.1, .d .cur o.2] := by
 obtain ⟨x0, x1, g1⟩ := curBelow_ok a0 6 hg
 have x1 := x1 (by omega)
 have hz : (((N + 1 : Nat) : Int) == (0 : Int)) = false := by rw [beq_eq_false_iff_ne]; omega
 cases e0 : ((curBelow a0 6).1 == (0 : Int))
 rotate_left
 ·skip
  refine ⟨(?za4, ?zb4), ?zg4, 0, ?zr4⟩
  case zr4 =>
   intro R k
   rw [f63_run]
   simp only [hg, g1, hz, e0, cond_true, cond_false]
   exact rfl
  case zg4 => exact ⟨GT_leaf _ rfl rfl (by decide), g1⟩
 cases e1 : ((curBelow a0 6).1 == (1 : Int))
 rotate_left
 ·have h1 := curOnce_ok (curBelow a0 6).2 2 g1
  refine ⟨(?za5, ?zb5), ?zg5, 0, ?zr5⟩
  case zr5 =>
   intro R k
   rw [f63_run]
   simp only [hg, g1, hz, e0, e1, cond_true, cond_false]
   exact rfl
  case zg5 => exact ⟨flagN_ok _ _, h1⟩
 cases e2 : ((curBelow a0 6).1 == (2 : Int))
 rotate_left
 ·have hp := gPickI_of (l := ([(0 : Int), (7 : Int), (-3 : Int), (1000 : Int), (1000000000000 : Int)] : List Int)) g1 rfl
  obtain ⟨hm, h1⟩ := curPickI_ok (curBelow a0 6).2 _ hp
  refine ⟨(?za6, ?zb6), ?zg6, 0, ?zr6⟩
  case zr6 =>
   intro R k
   rw [f63_run]
   simp only [hg, g1, hz, e0, e1, e2, hp, cond_true, cond_false]
   exact rfl
  case zg6 => exact ⟨intN_ok _ (List.all_eq_true.1 (show (([(0 : Int), (7 : Int), (-3 : Int), (1000 : Int), (1000000000000 : Int)] : List Int).all okI) = true from rfl) _ hm), h1⟩
 cases e3 : ((curBelow a0 6).1 == (3 : Int))
 rotate_left
 ·obtain ⟨hz, h1⟩ := tText_ok (curBelow a0 6).2 g1
  refine ⟨(?za7, ?zb7), ?zg7, 0, ?zr7⟩
  case zr7 =>
   intro R k
   rw [f63_run]
   simp only [hg, g1, hz, e0, e1, e2, e3, cond_true, cond_false]
   exact rfl
  case zg7 => exact ⟨textN_ok _ hz, h1⟩
 obtain ⟨y0, y1, g2⟩ := curBelow_ok (curBelow a0 6).2 4 g1
 have y1 := y1 (by omega)
 have hpow : 4 ^ N ≤ 4 ^ 5 := Nat.pow_le_pow_right (by decide) (by omega)
 have hk : (curBelow a0 6).1 = 4 ∨ (curBelow a0 6).1 = 5 := by
  rw [beq_eq_false_iff_ne] at e0 e1 e2 e3
  omega
 have hw1 : IntKind.wrap .i64 (((N + 1 : Nat) : Int) - (1 : Int)) = (N : Int) := by rw [wrap_id (by omega) (by omega)]; omega
 have key : ∀ (kind nn : Int), (kind = 4 ∨ kind = 5) → nn < 4 → ∀ (d m : Nat) (i : Nat) (t : NodeT) (c : CurT), nn ≤ i + d → (i : Int) ≤ 4 → (i = 0 ∨ (i : Int) ≤ nn) → d < m → (sm_node t = true ∧ Wf t ∧ t.kind = kind ∧ szN_node t ≤ i * (100 * 4 ^ N + 10)) → gCur c = true →
   ∃ o : NodeT × CurT, (GT (N + 1) o.1 ∧ gCur o.2 = true) ∧ ∀ {R : Type} (X : Int → Bool → (List Int) → Int → Int → Int → Int → BA → (List BA) → (List NodeT) → Option R) (Z : NodeT → CurT → Option R),
    (∀ i b c1 c2 c3 k0 k1 k2 k3 k4, X i b c1 c2 c3 k0 k1 k2 k3 k4 = Z ⟨k0, k1, k2, k3, k4⟩ ⟨c1, c2, c3⟩) → f63L0 F N true 6 X ((N + 1 : Nat) : Int) kind nn m (i : Int) c.b c.i c.h t.kind t.n t.s t.keys t.kids = Z o.1 o.2 := by
  intro kind nn hk hnn d
  have fin : ∀ (i : Nat) (t : NodeT), (i : Int) ≤ 4 → (i = 0 ∨ (i : Int) ≤ nn) → (sm_node t = true ∧ Wf t ∧ t.kind = kind ∧ szN_node t ≤ i * (100 * 4 ^ N + 10)) → GT (N + 1) t := by
   intro i t hi4 hin ⟨h1, h2, h3, h4⟩
   refine ⟨h1, ?_, h2⟩
   have : i * (100 * 4 ^ N + 10) ≤ 3 * (100 * 4 ^ N + 10) := Nat.mul_le_mul_right _ (by omega)
   have h5 : 1 ≤ 4 ^ N := Nat.one_le_pow _ _ (by decide)
   rw [Nat.pow_succ]; omega
  induction d with
  | zero =>
   intro m i t c hi hi4 hin hm hI hc
   obtain ⟨m, rfl⟩ : ∃ m', m = m' + 1 := ⟨m - 1, by omega⟩
   refine ⟨(t, c), ⟨fin i t hi4 hin hI, hc⟩, fun {R} X Z hX => ?_⟩
   simp only [f63L0, decide_eq_false (show ¬ ((i : Int) < nn) by omega), cond_false, hX, eta_node, eN_eq, eta_cur]
  | succ d ih =>
   intro m i t c hi hi4 hin hm hI hc
   obtain ⟨m, rfl⟩ : ∃ m', m = m' + 1 := ⟨m - 1, by omega⟩
   cases hd : decide ((i : Int) < nn)
   ·refine ⟨(t, c), ⟨fin i t hi4 hin hI, hc⟩, fun {R} X Z hX => ?_⟩
    simp only [f63L0, hd, cond_false, hX, eta_node, eN_eq, eta_cur]
   have hlt := of_decide_eq_true hd
   have hw : IntKind.wrap .i64 ((i : Int) + 1) = ((i + 1 : Nat) : Int) := by rw [wrap_id (by omega) (by omega)]; omega
   obtain ⟨⟨q1, q2, q3⟩, q4⟩ := hF c hc
   obtain ⟨h1, h2, h3, h4⟩ := hI
   have hgf : gFam N true c (N : Int) = true := by simp [gFam, hc]
   have hb3 : i * (100 * 4 ^ N + 10) ≤ 3 * (100 * 4 ^ N + 10) := Nat.mul_le_mul_right _ (by omega)
   have hs1 : (i + 1) * (100 * 4 ^ N + 10) = i * (100 * 4 ^ N + 10) + (100 * 4 ^ N + 10) := by rw [Nat.add_mul, Nat.one_mul]
   have hln := (@lens_node t).2
   rcases hk with hk | hk
   ·have e5 : (kind == (5 : Int)) = false := by rw [hk]; rfl
    have hbl : Nat.ble (t.kids.length + 1) LIM = true := Nat.ble_eq_true_of_le (by have : (LIM : Nat) = 4294967296 := rfl; omega)
    obtain ⟨s1, s2⟩ := snoc_ok h1 q1 (by omega)
    obtain ⟨o1, ho1, hh1⟩ := ih m (i + 1) ⟨t.kind, t.n, t.s, t.keys, t.kids ++ [(F c).1]⟩ (F c).2 (by omega) (by omega) (by omega) (by omega) ⟨s1, snoc_wf h2 q3 (h3.trans hk), h3, by omega⟩ q4
    exact ⟨o1, ho1, fun {R} X Z hX => by
     simp only [f63L0, hd, hw1, eta_cur, eta_node, eN_eq, hgf, hbl, e5, hw, cond_true, cond_false]
     exact hh1 X Z hX⟩
   ·have e5 : (kind == (5 : Int)) = true := by rw [hk]; rfl
    obtain ⟨k1, k2⟩ := tKey_ok _ q4
    have hks : smStr (tKey (F c).2).1 = true := smStr_of (by omega)
    have hg3 : gS3 t (tKey (F c).2).1 (F c).1 = true := by simp only [gS3, h1, hks, q1, Bool.and_self]
    obtain ⟨s1, s2⟩ := setK_ok h1 hks q1 (by omega)
    obtain ⟨w1, w2⟩ := setK_wf (s := (tKey (F c).2).1) h2 q3 (h3.trans hk)
    obtain ⟨o1, ho1, hh1⟩ := ih m (i + 1) (setK t (tKey (F c).2).1 (F c).1) (tKey (F c).2).2 (by omega) (by omega) (by omega) (by omega) ⟨s1, w1, w2.trans hk.symm, by omega⟩ k2
    exact ⟨o1, ho1, fun {R} X Z hX => by
     simp only [f63L0, hd, hw1, eta_cur, eta_node, eN_eq, hgf, e5, q4, hg3, hw, cond_true, cond_false]
     exact hh1 X Z hX⟩
 obtain ⟨o, ho, hh⟩ := key (curBelow a0 6).1 (curBelow (curBelow a0 6).2 4).1 hk y1 4 6 0 ⟨(curBelow a0 6).1, 0, ByteArray.empty, [], []⟩ (curBelow (curBelow a0 6).2 4).2 (by omega) (by omega) (.inl rfl) (by omega)
  ⟨(GT_leaf 0 (okI_of (by omega) (by omega)) rfl (by decide)).1, Wf.of_leaf _ rfl rfl, rfl, by rw [szN_node_def]; simp [szL]⟩ g2
 refine ⟨o, ho, 6, fun {R} k => ?_⟩
 rw [f63_run]
 simp only [hg, g1, hz, e0, e1, e2, e3, cond_true, cond_false]
 exact hh _ (fun t c => k [.d .node t, .d .cur c]) (fun _ _ _ _ _ _ _ _ _ _ => rfl)
theorem f63_ne0 (c : CurT) : Nonempty {o : NodeT × CurT // gCur c = true → (GT 0 o.1 ∧ gCur o.2 = true) ∧ ∃ n : Nat, ∀ {R : Type} (k : List Dt → Option R), evFn (f63e (fun c => (noNode, c)) 0 false) f63k n f63c [.pmut, .ro] [false] true [.cell 4 31] [31] [.d .cur c, .d (.i .i64) (0 : Int)] k = k [.d .node o.1, .d .cur o.2]} := by
 by_cases hg : gCur c = true
 ·obtain ⟨o, ho⟩ := f63_ex0 (fun c => (noNode, c)) 0 false c hg
  exact ⟨⟨o, fun _ => ho⟩⟩
 ·exact ⟨⟨(noNode, c), fun h => absurd h hg⟩⟩
theorem f63_neS (F : CurT → NodeT × CurT) (N : Nat) (hF : N ≤ 6 → ∀ c, gCur c = true → GT N (F c).1 ∧ gCur (F c).2 = true) (c : CurT) : Nonempty {o : NodeT × CurT // N + 1 ≤ 6 → gCur c = true → (GT (N + 1) o.1 ∧ gCur o.2 = true) ∧ ∃ n : Nat, ∀ {R : Type} (k : List Dt → Option R), evFn (f63e F N true) f63k n f63c [.pmut, .ro] [false] true [.cell 4 31] [31] [.d .cur c, .d (.i .i64) ((N + 1 : Nat) : Int)] k = k [.d .node o.1, .d .cur o.2]} := by
 by_cases hN : N + 1 ≤ 6
 ·by_cases hg : gCur c = true
  ·obtain ⟨o, ho⟩ := f63_exS F N hN (hF (by omega)) c hg
   exact ⟨⟨o, fun _ _ => ho⟩⟩
  ·exact ⟨⟨(noNode, c), fun _ h => absurd h hg⟩⟩
 ·exact ⟨⟨(noNode, c), fun h => absurd h hN⟩⟩
noncomputable def dTree : (k : Nat) → {F : CurT → NodeT × CurT // k ≤ 6 → ∀ c, gCur c = true → GT k (F c).1 ∧ gCur (F c).2 = true}
 | 0 => ⟨fun c => (Classical.choice (f63_ne0 c)).val, fun _ c hc => ((Classical.choice (f63_ne0 c)).property hc).1⟩
 | k + 1 => ⟨fun c => (Classical.choice (f63_neS (dTree k).1 k (dTree k).2 c)).val, fun hk c hc => ((Classical.choice (f63_neS (dTree k).1 k (dTree k).2 c)).property hk hc).1⟩
noncomputable def dT (c : CurT) (d : Int) : NodeT × CurT := (dTree d.toNat).1 c
def gDT (c : CurT) (d : Int) : Bool := gCur c && (decide (0 ≤ d) && decide (d ≤ 6))
theorem dT_ok {c : CurT} {d : Int} (h : gDT c d = true) : GT d.toNat (dT c d).1 ∧ gCur (dT c d).2 = true := by
 simp only [gDT, Bool.and_eq_true, decide_eq_true_eq] at h
 exact (dTree d.toNat).2 (by omega) c h.1
theorem gDT_of {c : CurT} {d : Int} (h : gCur c = true) (hd : (decide (0 ≤ d) && decide (d ≤ 6)) = true) : gDT c d = true := by
 unfold gDT; rw [h, hd]; rfl
noncomputable def q63 : List Dt → Option (Bool × List Dt)
 | [.d .cur a0, .d (.i .i64) a1] => some (gDT a0 a1, [.d .node (dT a0 a1).1, .d .cur (dT a0 a1).2])
 | _ => none
noncomputable def s63 : Gm.Spec := Gm.Spec.of [.pmut, .ro] [false] true q63
theorem f63_none (F : CurT → NodeT × CurT) (N : Nat) : SpecOk Try.prog 63 (s63r F N false) := by
 intro R ds k r hr
 obtain ⟨outs, hq, _⟩ := Gm.Spec.of_some hr
 unfold q63r at hq
 split at hq
 ·simp [gFam] at hq
 ·cases hq
theorem f63_lvl : ∀ k : Nat, k ≤ 6 → SpecOk Try.prog 63 (s63r (dTree k).1 k true)
 | 0, _ => by
  have hl : ∀ x ∈ [(63, s63r (fun c => (noNode, c)) 0 false), (71, s71), (79, s79), (80, s80), (81, s81), (83, s83), (84, s84), (85, s85), (86, s86), (87, s87)], Gm.Good Try.prog x := fcJ.2 ⟨⟨⟨f63_none _ _, _, Try.func63, by kernel_rfl, of_decide_eq_true (by kernel_rfl)⟩, Gm.Spec.of_natl _ _ _ _⟩, fcJ.2 ⟨good71, fcJ.2 ⟨good79, fcJ.2 ⟨good80, fcJ.2 ⟨good81, fcJ.2 ⟨good83, fcJ.2 ⟨good84, fcJ.2 ⟨good85, fcJ.2 ⟨good86, fcJ.2 ⟨good87, fcN⟩⟩⟩⟩⟩⟩⟩⟩⟩⟩
  refine spec_ok (E := f63e (fun c => (noNode, c)) 0 false) (tab_ok.env hl) (tab.natl hl) Try.func63 (by kernel_rfl : Try.f63.body = some f63c) [31] (by kernel_rfl) ?_
  intro ds outs h
  unfold q63r at h
  split at h
  ·simp only [Option.some.injEq, Prod.mk.injEq, gFam, Bool.and_eq_true, beq_iff_eq] at h
   obtain ⟨⟨_, hg, rfl⟩, h⟩ := h
   cases h
   obtain ⟨n, hn⟩ := ((Classical.choice (f63_ne0 _)).property hg).2
   exact ⟨f63k, n, hn⟩
  ·cases h
 | k + 1, hk => by
  have hr : SpecOk Try.prog 63 (s63r (dTree k).1 k true) := fun {R} => f63_lvl k (by omega) (R := R)
  have hl : ∀ x ∈ [(63, s63r (dTree k).1 k true), (71, s71), (79, s79), (80, s80), (81, s81), (83, s83), (84, s84), (85, s85), (86, s86), (87, s87)], Gm.Good Try.prog x := fcJ.2 ⟨⟨⟨hr, _, Try.func63, by kernel_rfl, of_decide_eq_true (by kernel_rfl)⟩, Gm.Spec.of_natl _ _ _ _⟩, fcJ.2 ⟨good71, fcJ.2 ⟨good79, fcJ.2 ⟨good80, fcJ.2 ⟨good81, fcJ.2 ⟨good83, fcJ.2 ⟨good84, fcJ.2 ⟨good85, fcJ.2 ⟨good86, fcJ.2 ⟨good87, fcN⟩⟩⟩⟩⟩⟩⟩⟩⟩⟩
  refine spec_ok (E := f63e (dTree k).1 k true) (tab_ok.env hl) (tab.natl hl) Try.func63 (by kernel_rfl : Try.f63.body = some f63c) [31] (by kernel_rfl) ?_
  intro ds outs h
  unfold q63r at h
  split at h
  ·simp only [Option.some.injEq, Prod.mk.injEq, gFam, Bool.and_eq_true, beq_iff_eq] at h
   obtain ⟨⟨_, hg, rfl⟩, h⟩ := h
   cases h
   obtain ⟨n, hn⟩ := ((Classical.choice (f63_neS (dTree k).1 k (dTree k).2 _)).property hk hg).2
   exact ⟨f63k, n, hn⟩
  ·cases h
theorem good63 : Gm.Good Try.prog (63, s63) := by
 refine ⟨⟨spec_part (q := q63) ?_, _, Try.func63, by kernel_rfl, of_decide_eq_true (by kernel_rfl)⟩, Gm.Spec.of_natl _ _ _ _⟩
 intro ds outs h
 unfold q63 at h
 split at h
 ·rename_i a0 a1
  simp only [Option.some.injEq, Prod.mk.injEq, gDT, Bool.and_eq_true, decide_eq_true_eq] at h
  obtain ⟨⟨hg, h0, h6⟩, h⟩ := h
  refine ⟨_, f63_lvl a1.toNat (by omega), ?_⟩
  rw [← h]
  have : gFam a1.toNat true a0 a1 = true := by simp only [gFam, hg, Bool.true_and, beq_iff_eq]; omega
  show some (gFam a1.toNat true a0 a1, _) = _
  rw [this]; rfl
 ·cases h
theorem gDT3 {c : CurT} (hg : gCur c = true) : gDT c 3 = true := gDT_of hg rfl
theorem dT_okT {c : CurT} (hg : gCur c = true) : okT (dT c 3).1 = true := (dT_ok (gDT3 hg)).1.okT
theorem dT_g {c : CurT} (hg : gCur c = true) : gCur (dT c 3).2 = true := (dT_ok (gDT3 hg)).2
theorem below_ix {c : CurT} {n : Int} (hc : gCur c = true) (hn : decide (n > (0 : Int)) = true) : (decide ((0 : Int) ≤ (curBelow c n).1) && decide ((curBelow c n).1 < n)) = true := by
 obtain ⟨h1, h2, _⟩ := curBelow_ok c n hc
 rw [decide_eq_true h1, decide_eq_true (h2 (of_decide_eq_true hn))]; rfl
theorem okT_at {t : NodeT} {c : CurT} (h : okT t = true) (hc : gCur c = true) (hn : decide ((t.kids.length : Int) > (0 : Int)) = true) : okT (atI (t := .node) t.kids (Int.toNat (curBelow c (t.kids.length : Int)).1)) = true := by
 obtain ⟨h1, h2, _⟩ := curBelow_ok c (t.kids.length : Int) hc
 have h2 := h2 (of_decide_eq_true hn)
 obtain ⟨h3, h4⟩ := okT_iff.1 h
 have hm : atI (t := .node) t.kids (Int.toNat (curBelow c (t.kids.length : Int)).1) ∈ t.kids := mem_atI (t := .node) h1 h2
 exact okT_iff.2 ⟨sm_kid h3 hm, Nat.le_trans (szN_kid hm) h4⟩
theorem pick_50 {c : CurT} {l : List BA} (hg : gCur c = true) (hn : (!l.isEmpty && Nat.ble l.length 1048576) = true) (h : (l.all fun x => Nat.ble x.size 50) = true) : Nat.ble (curPick c l).1.size 50 = true :=
  List.all_eq_true.1 h _ (curPick_ok c l (gPickS_of hg hn)).1
noncomputable def f61S0 (y0 : List Int) (y1 : Int) (y2 : Int) (y3 : Int) (y4 : Int) (y5 : BA) (y6 : List BA) (y7 : List NodeT) : St := ⟨[(0, .c (.one (.pt 0 0))), (2, .c (.one (.pt 2 0)))], [(0, ⟨.cur, [.rk (.i .u8) y0, .v (.int .i64 y1), .v (.int .i64 y2)]⟩), (2, ⟨.node, [.v (.int .i64 y3), .v (.int .i64 y4), .v (.string y5), .h 448 0 0 [], .h 449 0 0 []]⟩)], [(448, .live ⟨.str, .deep, 0, [], y6⟩), (449, .live ⟨.node, .deep, 0, [], y7⟩)]⟩
noncomputable def f61S1 (y0 : List Int) (y1 : Int) (y2 : Int) (y6 : Int) (y7 : Int) (y8 : BA) (y9 : List BA) (y10 : List NodeT) : St := ⟨[(0, .c (.one (.pt 0 0))), (2, .c (.one (.pt 2 0))), (3, .c (.one (.pt 3 0)))], [(0, ⟨.cur, [.rk (.i .u8) y0, .v (.int .i64 y1), .v (.int .i64 y2)]⟩), (2, ⟨.node, [.v (.int .i64 (0 : Int)), .v (.int .i64 (0 : Int)), .v (.string ByteArray.empty), .nl, .nl]⟩), (3, ⟨.node, [.v (.int .i64 y6), .v (.int .i64 y7), .v (.string y8), .h 448 0 0 [], .h 449 0 0 []]⟩)], [(448, .live ⟨.str, .deep, 0, [], y9⟩), (449, .live ⟨.node, .deep, 0, [], y10⟩)]⟩
noncomputable def f61S2 (y0 : Nat) (y1 : Nat) (y2 : Nat) (y3 : Bool) (y4 : List Int) (y5 : Int) (y6 : Int) (y10 : Int) (y11 : Int) (y12 : BA) (y13 : List BA) (y14 : List NodeT) : St := ⟨[(0, .c (.one (.pt 0 0))), (2, .c (.one (.pt 2 0))), (3, .c (.one (.pt 3 0))), (4, .c (.one (.pe 449 0 0 [(y0, 4), (y1, 4)] y2 0))), (74, .c (.one (.v (.bool y3))))], [(0, ⟨.cur, [.rk (.i .u8) y4, .v (.int .i64 y5), .v (.int .i64 y6)]⟩), (2, ⟨.node, [.v (.int .i64 (0 : Int)), .v (.int .i64 (0 : Int)), .v (.string ByteArray.empty), .nl, .nl]⟩), (3, ⟨.node, [.v (.int .i64 y10), .v (.int .i64 y11), .v (.string y12), .h 448 0 0 [], .h 449 0 0 []]⟩)], [(448, .live ⟨.str, .deep, 0, [], y13⟩), (449, .live ⟨.node, .deep, 0, [], y14⟩)]⟩
noncomputable def f61S3 (y0 : Nat) (y1 : Nat) (y2 : Nat) (y4 : Bool) (y5 : List Int) (y6 : Int) (y7 : Int) (y11 : Int) (y12 : Int) (y13 : BA) (y14 : List BA) (y15 : List NodeT) : St := ⟨[(0, .c (.one (.pt 0 0))), (2, .c (.one (.pt 2 0))), (3, .c (.one (.pt 3 0))), (4, .c (.one (.pe 449 0 0 [(y0, 4), (y1, 4)] y2 0))), (5, .c (.one (.v (.int .i64 (3 : Int))))), (22, .c (.one (.v (.bool y4))))], [(0, ⟨.cur, [.rk (.i .u8) y5, .v (.int .i64 y6), .v (.int .i64 y7)]⟩), (2, ⟨.node, [.v (.int .i64 (0 : Int)), .v (.int .i64 (0 : Int)), .v (.string ByteArray.empty), .nl, .nl]⟩), (3, ⟨.node, [.v (.int .i64 y11), .v (.int .i64 y12), .v (.string y13), .h 448 0 0 [], .h 449 0 0 []]⟩)], [(448, .live ⟨.str, .deep, 0, [], y14⟩), (449, .live ⟨.node, .deep, 0, [], y15⟩)]⟩
noncomputable def f61S4 (y0 : Nat) (y1 : Nat) (y2 : Bool) (y3 : List Int) (y4 : Int) (y5 : Int) (y9 : Int) (y10 : Int) (y11 : BA) (y12 : List BA) (y13 : List NodeT) : St := ⟨[(0, .c (.one (.pt 0 0))), (2, .c (.one (.pt 2 0))), (3, .c (.one (.pt 3 0))), (4, .c (.one (.pe 449 0 0 [(y0, 4)] y1 0))), (74, .c (.one (.v (.bool y2))))], [(0, ⟨.cur, [.rk (.i .u8) y3, .v (.int .i64 y4), .v (.int .i64 y5)]⟩), (2, ⟨.node, [.v (.int .i64 (0 : Int)), .v (.int .i64 (0 : Int)), .v (.string ByteArray.empty), .nl, .nl]⟩), (3, ⟨.node, [.v (.int .i64 y9), .v (.int .i64 y10), .v (.string y11), .h 448 0 0 [], .h 449 0 0 []]⟩)], [(448, .live ⟨.str, .deep, 0, [], y12⟩), (449, .live ⟨.node, .deep, 0, [], y13⟩)]⟩
noncomputable def f61S5 (y0 : Nat) (y1 : Nat) (y3 : Bool) (y4 : List Int) (y5 : Int) (y6 : Int) (y10 : Int) (y11 : Int) (y12 : BA) (y13 : List BA) (y14 : List NodeT) : St := ⟨[(0, .c (.one (.pt 0 0))), (2, .c (.one (.pt 2 0))), (3, .c (.one (.pt 3 0))), (4, .c (.one (.pe 449 0 0 [(y0, 4)] y1 0))), (5, .c (.one (.v (.int .i64 (2 : Int))))), (22, .c (.one (.v (.bool y3))))], [(0, ⟨.cur, [.rk (.i .u8) y4, .v (.int .i64 y5), .v (.int .i64 y6)]⟩), (2, ⟨.node, [.v (.int .i64 (0 : Int)), .v (.int .i64 (0 : Int)), .v (.string ByteArray.empty), .nl, .nl]⟩), (3, ⟨.node, [.v (.int .i64 y10), .v (.int .i64 y11), .v (.string y12), .h 448 0 0 [], .h 449 0 0 []]⟩)], [(448, .live ⟨.str, .deep, 0, [], y13⟩), (449, .live ⟨.node, .deep, 0, [], y14⟩)]⟩
noncomputable def f61S6 (y0 : Nat) (y1 : Bool) (y2 : List Int) (y3 : Int) (y4 : Int) (y8 : Int) (y9 : Int) (y10 : BA) (y11 : List BA) (y12 : List NodeT) : St := ⟨[(0, .c (.one (.pt 0 0))), (2, .c (.one (.pt 2 0))), (3, .c (.one (.pt 3 0))), (4, .c (.one (.pe 449 0 0 [] y0 0))), (74, .c (.one (.v (.bool y1))))], [(0, ⟨.cur, [.rk (.i .u8) y2, .v (.int .i64 y3), .v (.int .i64 y4)]⟩), (2, ⟨.node, [.v (.int .i64 (0 : Int)), .v (.int .i64 (0 : Int)), .v (.string ByteArray.empty), .nl, .nl]⟩), (3, ⟨.node, [.v (.int .i64 y8), .v (.int .i64 y9), .v (.string y10), .h 448 0 0 [], .h 449 0 0 []]⟩)], [(448, .live ⟨.str, .deep, 0, [], y11⟩), (449, .live ⟨.node, .deep, 0, [], y12⟩)]⟩
noncomputable def f61S7 (y0 : Nat) (y2 : Bool) (y3 : List Int) (y4 : Int) (y5 : Int) (y9 : Int) (y10 : Int) (y11 : BA) (y12 : List BA) (y13 : List NodeT) : St := ⟨[(0, .c (.one (.pt 0 0))), (2, .c (.one (.pt 2 0))), (3, .c (.one (.pt 3 0))), (4, .c (.one (.pe 449 0 0 [] y0 0))), (5, .c (.one (.v (.int .i64 (1 : Int))))), (22, .c (.one (.v (.bool y2))))], [(0, ⟨.cur, [.rk (.i .u8) y3, .v (.int .i64 y4), .v (.int .i64 y5)]⟩), (2, ⟨.node, [.v (.int .i64 (0 : Int)), .v (.int .i64 (0 : Int)), .v (.string ByteArray.empty), .nl, .nl]⟩), (3, ⟨.node, [.v (.int .i64 y9), .v (.int .i64 y10), .v (.string y11), .h 448 0 0 [], .h 449 0 0 []]⟩)], [(448, .live ⟨.str, .deep, 0, [], y12⟩), (449, .live ⟨.node, .deep, 0, [], y13⟩)]⟩
noncomputable def f61S8 (y0 : Bool) (y1 : List Int) (y2 : Int) (y3 : Int) (y7 : Int) (y8 : Int) (y9 : BA) (y10 : List BA) (y11 : List NodeT) : St := ⟨[(0, .c (.one (.pt 0 0))), (2, .c (.one (.pt 2 0))), (3, .c (.one (.pt 3 0))), (4, .c (.one (.pt 3 0))), (74, .c (.one (.v (.bool y0))))], [(0, ⟨.cur, [.rk (.i .u8) y1, .v (.int .i64 y2), .v (.int .i64 y3)]⟩), (2, ⟨.node, [.v (.int .i64 (0 : Int)), .v (.int .i64 (0 : Int)), .v (.string ByteArray.empty), .nl, .nl]⟩), (3, ⟨.node, [.v (.int .i64 y7), .v (.int .i64 y8), .v (.string y9), .h 448 0 0 [], .h 449 0 0 []]⟩)], [(448, .live ⟨.str, .deep, 0, [], y10⟩), (449, .live ⟨.node, .deep, 0, [], y11⟩)]⟩
noncomputable def f61S9 (y1 : Bool) (y2 : List Int) (y3 : Int) (y4 : Int) (y8 : Int) (y9 : Int) (y10 : BA) (y11 : List BA) (y12 : List NodeT) : St := ⟨[(0, .c (.one (.pt 0 0))), (2, .c (.one (.pt 2 0))), (3, .c (.one (.pt 3 0))), (4, .c (.one (.pt 3 0))), (5, .c (.one (.v (.int .i64 (0 : Int))))), (22, .c (.one (.v (.bool y1))))], [(0, ⟨.cur, [.rk (.i .u8) y2, .v (.int .i64 y3), .v (.int .i64 y4)]⟩), (2, ⟨.node, [.v (.int .i64 (0 : Int)), .v (.int .i64 (0 : Int)), .v (.string ByteArray.empty), .nl, .nl]⟩), (3, ⟨.node, [.v (.int .i64 y8), .v (.int .i64 y9), .v (.string y10), .h 448 0 0 [], .h 449 0 0 []]⟩)], [(448, .live ⟨.str, .deep, 0, [], y11⟩), (449, .live ⟨.node, .deep, 0, [], y12⟩)]⟩
noncomputable def f61c : Code := (Try.f61.body).getD .skip
def f61k : Nat → Kp := kat [⟨[0, 2], [], [], []⟩, ⟨[0, 2, 3], [], [], []⟩, ⟨[0, 2, 3, 4], [], [], []⟩, ⟨[0, 2, 3, 4, 5], [], [], []⟩, ⟨[0, 2, 3, 4, 5, 22], [], [], []⟩, ⟨[0, 2, 3, 4, 5], [], [], []⟩, ⟨[0, 2, 3, 4, 5], [], [], []⟩, ⟨[0, 2, 3, 4, 38], [], [], []⟩, ⟨[0, 2, 3, 4, 38, 39], [], [], []⟩, ⟨[0, 2, 3], [], [], []⟩, ⟨[0, 2, 3, 4, 38, 47], [], [], []⟩, ⟨[0, 2, 3], [], [], []⟩, ⟨[0, 2, 3, 4, 38, 55], [], [], []⟩, ⟨[0, 2, 3], [], [], []⟩, ⟨[0, 2, 3, 4, 38, 63], [], [], []⟩, ⟨[0, 2, 3], [], [], []⟩, ⟨[0, 2, 3, 4, 74], [], [], []⟩, ⟨[0, 2, 3], [], [], []⟩, ⟨[0, 2], [], [], []⟩]
noncomputable def f61e : Env := tab.env [(63, s63), (79, s79), (80, s80), (81, s81), (82, s82)]
noncomputable def f61v0 (wD : List NodeT) (wF : Nat) (wL : Nat) (wE : Nat) (wA : List Int) (wB : Int) (wC : Int) : List NodeT :=
 (wD.set wF (wK (atI (t := .node) wD wF) ((NodeT.kids (atI (t := .node) wD wF)).set wL (wK (atI (t := .node) (NodeT.kids (atI (t := .node) wD wF)) wL) ((NodeT.kids (atI (t := .node) (NodeT.kids (atI (t := .node) wD wF)) wL)).set wE (wKind (atI (t := .node) (NodeT.kids (atI (t := .node) (NodeT.kids (atI (t := .node) wD wF)) wL)) wE) (IntKind.wrap .i64 (((curBelow ((curBelow (⟨wA, wB, wC⟩ : CurT) (14 : Int)).2) (8 : Int)).1) - (1 : Int)))))))))
noncomputable def f61v1 (wD : List NodeT) (wF : Nat) (wL : Nat) (wE : Nat) (wA : List Int) (wB : Int) (wC : Int) : List NodeT :=
 (wD.set wF (wK (atI (t := .node) wD wF) ((NodeT.kids (atI (t := .node) wD wF)).set wL (wK (atI (t := .node) (NodeT.kids (atI (t := .node) wD wF)) wL) ((NodeT.kids (atI (t := .node) (NodeT.kids (atI (t := .node) wD wF)) wL)).set wE (wN (atI (t := .node) (NodeT.kids (atI (t := .node) (NodeT.kids (atI (t := .node) wD wF)) wL)) wE) ((curPickI ((curBelow (⟨wA, wB, wC⟩ : CurT) (14 : Int)).2) ([(1 : Int), (2 : Int), (1000000000001 : Int)] : List Int)).1)))))))
noncomputable def f61v2 (wD : List NodeT) (wF : Nat) (wL : Nat) (wE : Nat) (wA : List Int) (wB : Int) (wC : Int) : List NodeT :=
 (wD.set wF (wK (atI (t := .node) wD wF) ((NodeT.kids (atI (t := .node) wD wF)).set wL (wK (atI (t := .node) (NodeT.kids (atI (t := .node) wD wF)) wL) ((NodeT.kids (atI (t := .node) (NodeT.kids (atI (t := .node) wD wF)) wL)).set wE (wS (atI (t := .node) (NodeT.kids (atI (t := .node) (NodeT.kids (atI (t := .node) wD wF)) wL)) wE) ((curPick ((curBelow (⟨wA, wB, wC⟩ : CurT) (14 : Int)).2) ([(bs [120]), (bs [31]), (bs [127])] : List BA)).1)))))))
noncomputable def f61v3 (wD : List NodeT) (wF : Nat) (wL : Nat) (wE : Nat) : List NodeT :=
 (wD.set wF (wK (atI (t := .node) wD wF) ((NodeT.kids (atI (t := .node) wD wF)).set wL (wK (atI (t := .node) (NodeT.kids (atI (t := .node) wD wF)) wL) ((NodeT.kids (atI (t := .node) (NodeT.kids (atI (t := .node) wD wF)) wL)).set wE (wKeys (atI (t := .node) (NodeT.kids (atI (t := .node) (NodeT.kids (atI (t := .node) wD wF)) wL)) wE) ((NodeT.keys (atI (t := .node) (NodeT.kids (atI (t := .node) (NodeT.kids (atI (t := .node) wD wF)) wL)) wE)) ++ ([(bs [97])] : List BA))))))))
noncomputable def f61v4 (wD : List NodeT) (wF : Nat) (wL : Nat) (wE : Nat) : List NodeT :=
 (((NodeT.kids (atI (t := .node) (NodeT.kids (atI (t := .node) (NodeT.kids (atI (t := .node) wD wF)) wL)) wE)) ++ ([(⟨(0 : Int), (0 : Int), ByteArray.empty, ([] : List BA), ([] : List NodeT)⟩ : NodeT)] : List NodeT)).set (Int.toNat ((NodeT.kids (atI (t := .node) (NodeT.kids (atI (t := .node) (NodeT.kids (atI (t := .node) wD wF)) wL)) wE)).length : Int)) (⟨(0 : Int), (0 : Int), ByteArray.empty, ([] : List BA), ([] : List NodeT)⟩ : NodeT))
noncomputable def f61v5 (wD : List NodeT) (wF : Nat) (wL : Nat) (wE : Nat) : List NodeT :=
 (wD.set wF (wK (atI (t := .node) wD wF) ((NodeT.kids (atI (t := .node) wD wF)).set wL (wK (atI (t := .node) (NodeT.kids (atI (t := .node) wD wF)) wL) ((NodeT.kids (atI (t := .node) (NodeT.kids (atI (t := .node) wD wF)) wL)).set wE (wK (atI (t := .node) (NodeT.kids (atI (t := .node) (NodeT.kids (atI (t := .node) wD wF)) wL)) wE) (f61v4 wD wF wL wE)))))))
noncomputable def f61J2 {R : Type} (n : Nat) (k : List Dt → Option R) (a0 : CurT) (wA : List Int) (wB : Int) (wC : Int) (wP : Int) (wQ : Int) (wR : BA) (wG : List BA) (wD : List NodeT) : Option R :=
 (k [.d .node (⟨wP, wQ, wR, wG, wD⟩ : NodeT), .d .cur (⟨wA, wB, wC⟩ : CurT)])
theorem f61J2_eq {R : Type} (n : Nat) (k : List Dt → Option R) (a0 : CurT) (wA : List Int) (wB : Int) (wC : Int) (wP : Int) (wQ : Int) (wR : BA) (wG : List BA) (wD : List NodeT) : ev f61e f61k n (cAt [1,1,1,1,1,1] f61c) (f61S0 wA wB wC wP wQ wR wG wD) (exitK f61e [.pmut] [false] true [.cell 2 31] [31] [.d .cur a0] k) = f61J2 n k a0  wA wB wC wP wQ wR wG wD := by
 kernel_rfl
theorem f61J1_a {R : Type} (n : Nat) (k' : Ex → St → Option R) (wA : List Int) (wB : Int) (wC : Int) (wH : Int) (wI : Int) (wJ : BA) (wG : List BA) (wD : List NodeT) : ev f61e f61k n (cAt [1,1,1,1,1,0] f61c) (f61S1 wA wB wC wH wI wJ wG wD) k' =
 (k' .normal (f61S0 wA wB wC wH wI wJ wG wD)) := by kernel_rfl
noncomputable def f61J1 {R : Type} (n : Nat) (k : List Dt → Option R) (a0 : CurT) (wA : List Int) (wB : Int) (wC : Int) (wH : Int) (wI : Int) (wJ : BA) (wG : List BA) (wD : List NodeT) : Option R :=
 (f61J2 n k a0 wA wB wC wH wI wJ wG wD)
theorem f61J1_eq {R : Type} (n : Nat) (k : List Dt → Option R) (a0 : CurT) (wA : List Int) (wB : Int) (wC : Int) (wH : Int) (wI : Int) (wJ : BA) (wG : List BA) (wD : List NodeT) : ev f61e f61k n (cAt [1,1,1,1,1] f61c) (f61S1 wA wB wC wH wI wJ wG wD) (exitK f61e [.pmut] [false] true [.cell 2 31] [31] [.d .cur a0] k) = f61J1 n k a0  wA wB wC wH wI wJ wG wD := by
 rw [show (cAt [1,1,1,1,1] f61c) = .seq (cAt [1,1,1,1,1,0] f61c) (cAt [1,1,1,1,1,1] f61c) from by kernel_rfl, ev_seq, f61J1_a]
 simp only [seqK_n, seqK_r, f61J2_eq, f61J1]
theorem f61J3_a {R : Type} (n : Nat) (k' : Ex → St → Option R) (wF : Nat) (wL : Nat) (wE : Nat) (wO : Bool) (wA : List Int) (wB : Int) (wC : Int) (wH : Int) (wI : Int) (wJ : BA) (wG : List BA) (wD : List NodeT) : ev f61e f61k n (cAt [1,1,1,1,1,0] f61c) (f61S2 wF wL wE wO wA wB wC wH wI wJ wG wD) k' =
 (k' .normal (f61S0 wA wB wC wH wI wJ wG wD)) := by kernel_rfl
noncomputable def f61J3 {R : Type} (n : Nat) (k : List Dt → Option R) (a0 : CurT) (wF : Nat) (wL : Nat) (wE : Nat) (wO : Bool) (wA : List Int) (wB : Int) (wC : Int) (wH : Int) (wI : Int) (wJ : BA) (wG : List BA) (wD : List NodeT) : Option R :=
 (f61J2 n k a0 wA wB wC wH wI wJ wG wD)
theorem f61J3_eq {R : Type} (n : Nat) (k : List Dt → Option R) (a0 : CurT) (wF : Nat) (wL : Nat) (wE : Nat) (wO : Bool) (wA : List Int) (wB : Int) (wC : Int) (wH : Int) (wI : Int) (wJ : BA) (wG : List BA) (wD : List NodeT) : ev f61e f61k n (cAt [1,1,1,1,1] f61c) (f61S2 wF wL wE wO wA wB wC wH wI wJ wG wD) (exitK f61e [.pmut] [false] true [.cell 2 31] [31] [.d .cur a0] k) = f61J3 n k a0  wF wL wE wO wA wB wC wH wI wJ wG wD := by
 rw [show (cAt [1,1,1,1,1] f61c) = .seq (cAt [1,1,1,1,1,0] f61c) (cAt [1,1,1,1,1,1] f61c) from by kernel_rfl, ev_seq, f61J3_a]
 simp only [seqK_n, seqK_r, f61J2_eq, f61J3]
theorem f61J0_a {R : Type} (n : Nat) (k' : Ex → St → Option R) (wF : Nat) (wL : Nat) (wE : Nat) (wM : Bool) (wA : List Int) (wB : Int) (wC : Int) (wH : Int) (wI : Int) (wJ : BA) (wG : List BA) (wD : List NodeT) : ev f61e f61k n (cAt [1,1,1,1,0] f61c) (f61S3 wF wL wE wM wA wB wC wH wI wJ wG wD) k' =
 (cond ((fun c _ => gCur c) (⟨wA, wB, wC⟩ : CurT) (14 : Int))
 (cond (((curBelow (⟨wA, wB, wC⟩ : CurT) (14 : Int)).1) == (0 : Int))
 (cond ((fun c _ => gCur c) ((curBelow (⟨wA, wB, wC⟩ : CurT) (14 : Int)).2) (8 : Int))
 (k' .normal (f61S1 (CurT.b ((curBelow ((curBelow (⟨wA, wB, wC⟩ : CurT) (14 : Int)).2) (8 : Int)).2)) (CurT.i ((curBelow ((curBelow (⟨wA, wB, wC⟩ : CurT) (14 : Int)).2) (8 : Int)).2)) (CurT.h ((curBelow ((curBelow (⟨wA, wB, wC⟩ : CurT) (14 : Int)).2) (8 : Int)).2)) wH wI wJ wG (f61v0 wD wF wL wE wA wB wC)))
 none)
 (cond (((curBelow (⟨wA, wB, wC⟩ : CurT) (14 : Int)).1) == (1 : Int))
 (cond (gPickI ((curBelow (⟨wA, wB, wC⟩ : CurT) (14 : Int)).2) ([(1 : Int), (2 : Int), (1000000000001 : Int)] : List Int))
 (k' .normal (f61S1 (CurT.b ((curPickI ((curBelow (⟨wA, wB, wC⟩ : CurT) (14 : Int)).2) ([(1 : Int), (2 : Int), (1000000000001 : Int)] : List Int)).2)) (CurT.i ((curPickI ((curBelow (⟨wA, wB, wC⟩ : CurT) (14 : Int)).2) ([(1 : Int), (2 : Int), (1000000000001 : Int)] : List Int)).2)) (CurT.h ((curPickI ((curBelow (⟨wA, wB, wC⟩ : CurT) (14 : Int)).2) ([(1 : Int), (2 : Int), (1000000000001 : Int)] : List Int)).2)) wH wI wJ wG (f61v1 wD wF wL wE wA wB wC)))
 none)
 (cond (((curBelow (⟨wA, wB, wC⟩ : CurT) (14 : Int)).1) == (2 : Int))
 (cond (gPickS ((curBelow (⟨wA, wB, wC⟩ : CurT) (14 : Int)).2) ([(bs [120]), (bs [31]), (bs [127])] : List BA))
 (k' .normal (f61S1 (CurT.b ((curPick ((curBelow (⟨wA, wB, wC⟩ : CurT) (14 : Int)).2) ([(bs [120]), (bs [31]), (bs [127])] : List BA)).2)) (CurT.i ((curPick ((curBelow (⟨wA, wB, wC⟩ : CurT) (14 : Int)).2) ([(bs [120]), (bs [31]), (bs [127])] : List BA)).2)) (CurT.h ((curPick ((curBelow (⟨wA, wB, wC⟩ : CurT) (14 : Int)).2) ([(bs [120]), (bs [31]), (bs [127])] : List BA)).2)) wH wI wJ wG (f61v2 wD wF wL wE wA wB wC)))
 none)
 (cond (((curBelow (⟨wA, wB, wC⟩ : CurT) (14 : Int)).1) == (3 : Int))
 (cond (Nat.ble ((NodeT.keys (atI (t := .node) (NodeT.kids (atI (t := .node) (NodeT.kids (atI (t := .node) wD wF)) wL)) wE)).length + 1) LIM)
 (cond (eqP [(wF, 4), (wL, 4), (wE, 3)] [(wF, 4), (wL, 4), (wE, 3)])
 (k' .normal (f61S1 (CurT.b ((curBelow (⟨wA, wB, wC⟩ : CurT) (14 : Int)).2)) (CurT.i ((curBelow (⟨wA, wB, wC⟩ : CurT) (14 : Int)).2)) (CurT.h ((curBelow (⟨wA, wB, wC⟩ : CurT) (14 : Int)).2)) wH wI wJ wG (f61v3 wD wF wL wE)))
 none)
 none)
 (cond (((curBelow (⟨wA, wB, wC⟩ : CurT) (14 : Int)).1) == (4 : Int))
 (cond (Nat.ble ((NodeT.kids (atI (t := .node) (NodeT.kids (atI (t := .node) (NodeT.kids (atI (t := .node) wD wF)) wL)) wE)).length + 1) LIM)
 (cond ((decide ((0 : Int) ≤ ((NodeT.kids (atI (t := .node) (NodeT.kids (atI (t := .node) (NodeT.kids (atI (t := .node) wD wF)) wL)) wE)).length : Int))) && (decide (((NodeT.kids (atI (t := .node) (NodeT.kids (atI (t := .node) (NodeT.kids (atI (t := .node) wD wF)) wL)) wE)).length : Int) < (((NodeT.kids (atI (t := .node) (NodeT.kids (atI (t := .node) (NodeT.kids (atI (t := .node) wD wF)) wL)) wE)) ++ ([(⟨(0 : Int), (0 : Int), ByteArray.empty, ([] : List BA), ([] : List NodeT)⟩ : NodeT)] : List NodeT)).length : Int))))
 (cond (eqP [(wF, 4), (wL, 4), (wE, 4)] [(wF, 4), (wL, 4), (wE, 4)])
 (k' .normal (f61S1 (CurT.b ((curBelow (⟨wA, wB, wC⟩ : CurT) (14 : Int)).2)) (CurT.i ((curBelow (⟨wA, wB, wC⟩ : CurT) (14 : Int)).2)) (CurT.h ((curBelow (⟨wA, wB, wC⟩ : CurT) (14 : Int)).2)) wH wI wJ wG (f61v5 wD wF wL wE)))
 none)
 none)
 none)
 (k' .normal (f61S2 wF wL wE (((curBelow (⟨wA, wB, wC⟩ : CurT) (14 : Int)).1) == (4 : Int)) (CurT.b ((curBelow (⟨wA, wB, wC⟩ : CurT) (14 : Int)).2)) (CurT.i ((curBelow (⟨wA, wB, wC⟩ : CurT) (14 : Int)).2)) (CurT.h ((curBelow (⟨wA, wB, wC⟩ : CurT) (14 : Int)).2)) wH wI wJ wG wD)))))))
 none) := by kernel_rfl
noncomputable def f61J0 {R : Type} (n : Nat) (k : List Dt → Option R) (a0 : CurT) (wF : Nat) (wL : Nat) (wE : Nat) (wM : Bool) (wA : List Int) (wB : Int) (wC : Int) (wH : Int) (wI : Int) (wJ : BA) (wG : List BA) (wD : List NodeT) : Option R :=
 (cond ((fun c _ => gCur c) (⟨wA, wB, wC⟩ : CurT) (14 : Int))
 (cond (((curBelow (⟨wA, wB, wC⟩ : CurT) (14 : Int)).1) == (0 : Int))
 (cond ((fun c _ => gCur c) ((curBelow (⟨wA, wB, wC⟩ : CurT) (14 : Int)).2) (8 : Int))
 (f61J1 n k a0 (CurT.b ((curBelow ((curBelow (⟨wA, wB, wC⟩ : CurT) (14 : Int)).2) (8 : Int)).2)) (CurT.i ((curBelow ((curBelow (⟨wA, wB, wC⟩ : CurT) (14 : Int)).2) (8 : Int)).2)) (CurT.h ((curBelow ((curBelow (⟨wA, wB, wC⟩ : CurT) (14 : Int)).2) (8 : Int)).2)) wH wI wJ wG (f61v0 wD wF wL wE wA wB wC))
 none)
 (cond (((curBelow (⟨wA, wB, wC⟩ : CurT) (14 : Int)).1) == (1 : Int))
 (cond (gPickI ((curBelow (⟨wA, wB, wC⟩ : CurT) (14 : Int)).2) ([(1 : Int), (2 : Int), (1000000000001 : Int)] : List Int))
 (f61J1 n k a0 (CurT.b ((curPickI ((curBelow (⟨wA, wB, wC⟩ : CurT) (14 : Int)).2) ([(1 : Int), (2 : Int), (1000000000001 : Int)] : List Int)).2)) (CurT.i ((curPickI ((curBelow (⟨wA, wB, wC⟩ : CurT) (14 : Int)).2) ([(1 : Int), (2 : Int), (1000000000001 : Int)] : List Int)).2)) (CurT.h ((curPickI ((curBelow (⟨wA, wB, wC⟩ : CurT) (14 : Int)).2) ([(1 : Int), (2 : Int), (1000000000001 : Int)] : List Int)).2)) wH wI wJ wG (f61v1 wD wF wL wE wA wB wC))
 none)
 (cond (((curBelow (⟨wA, wB, wC⟩ : CurT) (14 : Int)).1) == (2 : Int))
 (cond (gPickS ((curBelow (⟨wA, wB, wC⟩ : CurT) (14 : Int)).2) ([(bs [120]), (bs [31]), (bs [127])] : List BA))
 (f61J1 n k a0 (CurT.b ((curPick ((curBelow (⟨wA, wB, wC⟩ : CurT) (14 : Int)).2) ([(bs [120]), (bs [31]), (bs [127])] : List BA)).2)) (CurT.i ((curPick ((curBelow (⟨wA, wB, wC⟩ : CurT) (14 : Int)).2) ([(bs [120]), (bs [31]), (bs [127])] : List BA)).2)) (CurT.h ((curPick ((curBelow (⟨wA, wB, wC⟩ : CurT) (14 : Int)).2) ([(bs [120]), (bs [31]), (bs [127])] : List BA)).2)) wH wI wJ wG (f61v2 wD wF wL wE wA wB wC))
 none)
 (cond (((curBelow (⟨wA, wB, wC⟩ : CurT) (14 : Int)).1) == (3 : Int))
 (cond (Nat.ble ((NodeT.keys (atI (t := .node) (NodeT.kids (atI (t := .node) (NodeT.kids (atI (t := .node) wD wF)) wL)) wE)).length + 1) LIM)
 (cond (eqP [(wF, 4), (wL, 4), (wE, 3)] [(wF, 4), (wL, 4), (wE, 3)])
 (f61J1 n k a0 (CurT.b ((curBelow (⟨wA, wB, wC⟩ : CurT) (14 : Int)).2)) (CurT.i ((curBelow (⟨wA, wB, wC⟩ : CurT) (14 : Int)).2)) (CurT.h ((curBelow (⟨wA, wB, wC⟩ : CurT) (14 : Int)).2)) wH wI wJ wG (f61v3 wD wF wL wE))
 none)
 none)
 (cond (((curBelow (⟨wA, wB, wC⟩ : CurT) (14 : Int)).1) == (4 : Int))
 (cond (Nat.ble ((NodeT.kids (atI (t := .node) (NodeT.kids (atI (t := .node) (NodeT.kids (atI (t := .node) wD wF)) wL)) wE)).length + 1) LIM)
 (cond ((decide ((0 : Int) ≤ ((NodeT.kids (atI (t := .node) (NodeT.kids (atI (t := .node) (NodeT.kids (atI (t := .node) wD wF)) wL)) wE)).length : Int))) && (decide (((NodeT.kids (atI (t := .node) (NodeT.kids (atI (t := .node) (NodeT.kids (atI (t := .node) wD wF)) wL)) wE)).length : Int) < (((NodeT.kids (atI (t := .node) (NodeT.kids (atI (t := .node) (NodeT.kids (atI (t := .node) wD wF)) wL)) wE)) ++ ([(⟨(0 : Int), (0 : Int), ByteArray.empty, ([] : List BA), ([] : List NodeT)⟩ : NodeT)] : List NodeT)).length : Int))))
 (cond (eqP [(wF, 4), (wL, 4), (wE, 4)] [(wF, 4), (wL, 4), (wE, 4)])
 (f61J1 n k a0 (CurT.b ((curBelow (⟨wA, wB, wC⟩ : CurT) (14 : Int)).2)) (CurT.i ((curBelow (⟨wA, wB, wC⟩ : CurT) (14 : Int)).2)) (CurT.h ((curBelow (⟨wA, wB, wC⟩ : CurT) (14 : Int)).2)) wH wI wJ wG (f61v5 wD wF wL wE))
 none)
 none)
 none)
 (f61J3 n k a0 wF wL wE (((curBelow (⟨wA, wB, wC⟩ : CurT) (14 : Int)).1) == (4 : Int)) (CurT.b ((curBelow (⟨wA, wB, wC⟩ : CurT) (14 : Int)).2)) (CurT.i ((curBelow (⟨wA, wB, wC⟩ : CurT) (14 : Int)).2)) (CurT.h ((curBelow (⟨wA, wB, wC⟩ : CurT) (14 : Int)).2)) wH wI wJ wG wD))))))
 none)
theorem f61J0_eq {R : Type} (n : Nat) (k : List Dt → Option R) (a0 : CurT) (wF : Nat) (wL : Nat) (wE : Nat) (wM : Bool) (wA : List Int) (wB : Int) (wC : Int) (wH : Int) (wI : Int) (wJ : BA) (wG : List BA) (wD : List NodeT) : ev f61e f61k n (cAt [1,1,1,1] f61c) (f61S3 wF wL wE wM wA wB wC wH wI wJ wG wD) (exitK f61e [.pmut] [false] true [.cell 2 31] [31] [.d .cur a0] k) = f61J0 n k a0  wF wL wE wM wA wB wC wH wI wJ wG wD := by
 rw [show (cAt [1,1,1,1] f61c) = .seq (cAt [1,1,1,1,0] f61c) (cAt [1,1,1,1,1] f61c) from by kernel_rfl, ev_seq, f61J0_a]
 simp only [seqK_n, seqK_r, f61J1_eq, f61J3_eq, f61J0]
noncomputable def f61v6 (wD : List NodeT) (wF : Nat) (wE : Nat) (wA : List Int) (wB : Int) (wC : Int) : List NodeT :=
 (wD.set wF (wK (atI (t := .node) wD wF) ((NodeT.kids (atI (t := .node) wD wF)).set wE (wKind (atI (t := .node) (NodeT.kids (atI (t := .node) wD wF)) wE) (IntKind.wrap .i64 (((curBelow ((curBelow (⟨wA, wB, wC⟩ : CurT) (14 : Int)).2) (8 : Int)).1) - (1 : Int)))))))
noncomputable def f61v7 (wD : List NodeT) (wF : Nat) (wE : Nat) (wA : List Int) (wB : Int) (wC : Int) : List NodeT :=
 (wD.set wF (wK (atI (t := .node) wD wF) ((NodeT.kids (atI (t := .node) wD wF)).set wE (wN (atI (t := .node) (NodeT.kids (atI (t := .node) wD wF)) wE) ((curPickI ((curBelow (⟨wA, wB, wC⟩ : CurT) (14 : Int)).2) ([(1 : Int), (2 : Int), (1000000000001 : Int)] : List Int)).1)))))
noncomputable def f61v8 (wD : List NodeT) (wF : Nat) (wE : Nat) (wA : List Int) (wB : Int) (wC : Int) : List NodeT :=
 (wD.set wF (wK (atI (t := .node) wD wF) ((NodeT.kids (atI (t := .node) wD wF)).set wE (wS (atI (t := .node) (NodeT.kids (atI (t := .node) wD wF)) wE) ((curPick ((curBelow (⟨wA, wB, wC⟩ : CurT) (14 : Int)).2) ([(bs [120]), (bs [31]), (bs [127])] : List BA)).1)))))
noncomputable def f61v9 (wD : List NodeT) (wF : Nat) (wE : Nat) : List NodeT :=
 (wD.set wF (wK (atI (t := .node) wD wF) ((NodeT.kids (atI (t := .node) wD wF)).set wE (wKeys (atI (t := .node) (NodeT.kids (atI (t := .node) wD wF)) wE) ((NodeT.keys (atI (t := .node) (NodeT.kids (atI (t := .node) wD wF)) wE)) ++ ([(bs [97])] : List BA))))))
noncomputable def f61v10 (wD : List NodeT) (wF : Nat) (wE : Nat) : List NodeT :=
 (((NodeT.kids (atI (t := .node) (NodeT.kids (atI (t := .node) wD wF)) wE)) ++ ([(⟨(0 : Int), (0 : Int), ByteArray.empty, ([] : List BA), ([] : List NodeT)⟩ : NodeT)] : List NodeT)).set (Int.toNat ((NodeT.kids (atI (t := .node) (NodeT.kids (atI (t := .node) wD wF)) wE)).length : Int)) (⟨(0 : Int), (0 : Int), ByteArray.empty, ([] : List BA), ([] : List NodeT)⟩ : NodeT))
noncomputable def f61v11 (wD : List NodeT) (wF : Nat) (wE : Nat) : List NodeT :=
 (wD.set wF (wK (atI (t := .node) wD wF) ((NodeT.kids (atI (t := .node) wD wF)).set wE (wK (atI (t := .node) (NodeT.kids (atI (t := .node) wD wF)) wE) (f61v10 wD wF wE)))))
theorem f61J5_a {R : Type} (n : Nat) (k' : Ex → St → Option R) (wF : Nat) (wE : Nat) (wO : Bool) (wA : List Int) (wB : Int) (wC : Int) (wH : Int) (wI : Int) (wJ : BA) (wG : List BA) (wD : List NodeT) : ev f61e f61k n (cAt [1,1,1,1,1,0] f61c) (f61S4 wF wE wO wA wB wC wH wI wJ wG wD) k' =
 (k' .normal (f61S0 wA wB wC wH wI wJ wG wD)) := by kernel_rfl
noncomputable def f61J5 {R : Type} (n : Nat) (k : List Dt → Option R) (a0 : CurT) (wF : Nat) (wE : Nat) (wO : Bool) (wA : List Int) (wB : Int) (wC : Int) (wH : Int) (wI : Int) (wJ : BA) (wG : List BA) (wD : List NodeT) : Option R :=
 (f61J2 n k a0 wA wB wC wH wI wJ wG wD)
theorem f61J5_eq {R : Type} (n : Nat) (k : List Dt → Option R) (a0 : CurT) (wF : Nat) (wE : Nat) (wO : Bool) (wA : List Int) (wB : Int) (wC : Int) (wH : Int) (wI : Int) (wJ : BA) (wG : List BA) (wD : List NodeT) : ev f61e f61k n (cAt [1,1,1,1,1] f61c) (f61S4 wF wE wO wA wB wC wH wI wJ wG wD) (exitK f61e [.pmut] [false] true [.cell 2 31] [31] [.d .cur a0] k) = f61J5 n k a0  wF wE wO wA wB wC wH wI wJ wG wD := by
 rw [show (cAt [1,1,1,1,1] f61c) = .seq (cAt [1,1,1,1,1,0] f61c) (cAt [1,1,1,1,1,1] f61c) from by kernel_rfl, ev_seq, f61J5_a]
 simp only [seqK_n, seqK_r, f61J2_eq, f61J5]
theorem f61J4_a {R : Type} (n : Nat) (k' : Ex → St → Option R) (wF : Nat) (wE : Nat) (wM : Bool) (wA : List Int) (wB : Int) (wC : Int) (wH : Int) (wI : Int) (wJ : BA) (wG : List BA) (wD : List NodeT) : ev f61e f61k n (cAt [1,1,1,1,0] f61c) (f61S5 wF wE wM wA wB wC wH wI wJ wG wD) k' =
 (cond ((fun c _ => gCur c) (⟨wA, wB, wC⟩ : CurT) (14 : Int))
 (cond (((curBelow (⟨wA, wB, wC⟩ : CurT) (14 : Int)).1) == (0 : Int))
 (cond ((fun c _ => gCur c) ((curBelow (⟨wA, wB, wC⟩ : CurT) (14 : Int)).2) (8 : Int))
 (k' .normal (f61S1 (CurT.b ((curBelow ((curBelow (⟨wA, wB, wC⟩ : CurT) (14 : Int)).2) (8 : Int)).2)) (CurT.i ((curBelow ((curBelow (⟨wA, wB, wC⟩ : CurT) (14 : Int)).2) (8 : Int)).2)) (CurT.h ((curBelow ((curBelow (⟨wA, wB, wC⟩ : CurT) (14 : Int)).2) (8 : Int)).2)) wH wI wJ wG (f61v6 wD wF wE wA wB wC)))
 none)
 (cond (((curBelow (⟨wA, wB, wC⟩ : CurT) (14 : Int)).1) == (1 : Int))
 (cond (gPickI ((curBelow (⟨wA, wB, wC⟩ : CurT) (14 : Int)).2) ([(1 : Int), (2 : Int), (1000000000001 : Int)] : List Int))
 (k' .normal (f61S1 (CurT.b ((curPickI ((curBelow (⟨wA, wB, wC⟩ : CurT) (14 : Int)).2) ([(1 : Int), (2 : Int), (1000000000001 : Int)] : List Int)).2)) (CurT.i ((curPickI ((curBelow (⟨wA, wB, wC⟩ : CurT) (14 : Int)).2) ([(1 : Int), (2 : Int), (1000000000001 : Int)] : List Int)).2)) (CurT.h ((curPickI ((curBelow (⟨wA, wB, wC⟩ : CurT) (14 : Int)).2) ([(1 : Int), (2 : Int), (1000000000001 : Int)] : List Int)).2)) wH wI wJ wG (f61v7 wD wF wE wA wB wC)))
 none)
 (cond (((curBelow (⟨wA, wB, wC⟩ : CurT) (14 : Int)).1) == (2 : Int))
 (cond (gPickS ((curBelow (⟨wA, wB, wC⟩ : CurT) (14 : Int)).2) ([(bs [120]), (bs [31]), (bs [127])] : List BA))
 (k' .normal (f61S1 (CurT.b ((curPick ((curBelow (⟨wA, wB, wC⟩ : CurT) (14 : Int)).2) ([(bs [120]), (bs [31]), (bs [127])] : List BA)).2)) (CurT.i ((curPick ((curBelow (⟨wA, wB, wC⟩ : CurT) (14 : Int)).2) ([(bs [120]), (bs [31]), (bs [127])] : List BA)).2)) (CurT.h ((curPick ((curBelow (⟨wA, wB, wC⟩ : CurT) (14 : Int)).2) ([(bs [120]), (bs [31]), (bs [127])] : List BA)).2)) wH wI wJ wG (f61v8 wD wF wE wA wB wC)))
 none)
 (cond (((curBelow (⟨wA, wB, wC⟩ : CurT) (14 : Int)).1) == (3 : Int))
 (cond (Nat.ble ((NodeT.keys (atI (t := .node) (NodeT.kids (atI (t := .node) wD wF)) wE)).length + 1) LIM)
 (cond (eqP [(wF, 4), (wE, 3)] [(wF, 4), (wE, 3)])
 (k' .normal (f61S1 (CurT.b ((curBelow (⟨wA, wB, wC⟩ : CurT) (14 : Int)).2)) (CurT.i ((curBelow (⟨wA, wB, wC⟩ : CurT) (14 : Int)).2)) (CurT.h ((curBelow (⟨wA, wB, wC⟩ : CurT) (14 : Int)).2)) wH wI wJ wG (f61v9 wD wF wE)))
 none)
 none)
 (cond (((curBelow (⟨wA, wB, wC⟩ : CurT) (14 : Int)).1) == (4 : Int))
 (cond (Nat.ble ((NodeT.kids (atI (t := .node) (NodeT.kids (atI (t := .node) wD wF)) wE)).length + 1) LIM)
 (cond ((decide ((0 : Int) ≤ ((NodeT.kids (atI (t := .node) (NodeT.kids (atI (t := .node) wD wF)) wE)).length : Int))) && (decide (((NodeT.kids (atI (t := .node) (NodeT.kids (atI (t := .node) wD wF)) wE)).length : Int) < (((NodeT.kids (atI (t := .node) (NodeT.kids (atI (t := .node) wD wF)) wE)) ++ ([(⟨(0 : Int), (0 : Int), ByteArray.empty, ([] : List BA), ([] : List NodeT)⟩ : NodeT)] : List NodeT)).length : Int))))
 (cond (eqP [(wF, 4), (wE, 4)] [(wF, 4), (wE, 4)])
 (k' .normal (f61S1 (CurT.b ((curBelow (⟨wA, wB, wC⟩ : CurT) (14 : Int)).2)) (CurT.i ((curBelow (⟨wA, wB, wC⟩ : CurT) (14 : Int)).2)) (CurT.h ((curBelow (⟨wA, wB, wC⟩ : CurT) (14 : Int)).2)) wH wI wJ wG (f61v11 wD wF wE)))
 none)
 none)
 none)
 (k' .normal (f61S4 wF wE (((curBelow (⟨wA, wB, wC⟩ : CurT) (14 : Int)).1) == (4 : Int)) (CurT.b ((curBelow (⟨wA, wB, wC⟩ : CurT) (14 : Int)).2)) (CurT.i ((curBelow (⟨wA, wB, wC⟩ : CurT) (14 : Int)).2)) (CurT.h ((curBelow (⟨wA, wB, wC⟩ : CurT) (14 : Int)).2)) wH wI wJ wG wD)))))))
 none) := by kernel_rfl
noncomputable def f61J4 {R : Type} (n : Nat) (k : List Dt → Option R) (a0 : CurT) (wF : Nat) (wE : Nat) (wM : Bool) (wA : List Int) (wB : Int) (wC : Int) (wH : Int) (wI : Int) (wJ : BA) (wG : List BA) (wD : List NodeT) : Option R :=
 (cond ((fun c _ => gCur c) (⟨wA, wB, wC⟩ : CurT) (14 : Int))
 (cond (((curBelow (⟨wA, wB, wC⟩ : CurT) (14 : Int)).1) == (0 : Int))
 (cond ((fun c _ => gCur c) ((curBelow (⟨wA, wB, wC⟩ : CurT) (14 : Int)).2) (8 : Int))
 (f61J1 n k a0 (CurT.b ((curBelow ((curBelow (⟨wA, wB, wC⟩ : CurT) (14 : Int)).2) (8 : Int)).2)) (CurT.i ((curBelow ((curBelow (⟨wA, wB, wC⟩ : CurT) (14 : Int)).2) (8 : Int)).2)) (CurT.h ((curBelow ((curBelow (⟨wA, wB, wC⟩ : CurT) (14 : Int)).2) (8 : Int)).2)) wH wI wJ wG (f61v6 wD wF wE wA wB wC))
 none)
 (cond (((curBelow (⟨wA, wB, wC⟩ : CurT) (14 : Int)).1) == (1 : Int))
 (cond (gPickI ((curBelow (⟨wA, wB, wC⟩ : CurT) (14 : Int)).2) ([(1 : Int), (2 : Int), (1000000000001 : Int)] : List Int))
 (f61J1 n k a0 (CurT.b ((curPickI ((curBelow (⟨wA, wB, wC⟩ : CurT) (14 : Int)).2) ([(1 : Int), (2 : Int), (1000000000001 : Int)] : List Int)).2)) (CurT.i ((curPickI ((curBelow (⟨wA, wB, wC⟩ : CurT) (14 : Int)).2) ([(1 : Int), (2 : Int), (1000000000001 : Int)] : List Int)).2)) (CurT.h ((curPickI ((curBelow (⟨wA, wB, wC⟩ : CurT) (14 : Int)).2) ([(1 : Int), (2 : Int), (1000000000001 : Int)] : List Int)).2)) wH wI wJ wG (f61v7 wD wF wE wA wB wC))
 none)
 (cond (((curBelow (⟨wA, wB, wC⟩ : CurT) (14 : Int)).1) == (2 : Int))
 (cond (gPickS ((curBelow (⟨wA, wB, wC⟩ : CurT) (14 : Int)).2) ([(bs [120]), (bs [31]), (bs [127])] : List BA))
 (f61J1 n k a0 (CurT.b ((curPick ((curBelow (⟨wA, wB, wC⟩ : CurT) (14 : Int)).2) ([(bs [120]), (bs [31]), (bs [127])] : List BA)).2)) (CurT.i ((curPick ((curBelow (⟨wA, wB, wC⟩ : CurT) (14 : Int)).2) ([(bs [120]), (bs [31]), (bs [127])] : List BA)).2)) (CurT.h ((curPick ((curBelow (⟨wA, wB, wC⟩ : CurT) (14 : Int)).2) ([(bs [120]), (bs [31]), (bs [127])] : List BA)).2)) wH wI wJ wG (f61v8 wD wF wE wA wB wC))
 none)
 (cond (((curBelow (⟨wA, wB, wC⟩ : CurT) (14 : Int)).1) == (3 : Int))
 (cond (Nat.ble ((NodeT.keys (atI (t := .node) (NodeT.kids (atI (t := .node) wD wF)) wE)).length + 1) LIM)
 (cond (eqP [(wF, 4), (wE, 3)] [(wF, 4), (wE, 3)])
 (f61J1 n k a0 (CurT.b ((curBelow (⟨wA, wB, wC⟩ : CurT) (14 : Int)).2)) (CurT.i ((curBelow (⟨wA, wB, wC⟩ : CurT) (14 : Int)).2)) (CurT.h ((curBelow (⟨wA, wB, wC⟩ : CurT) (14 : Int)).2)) wH wI wJ wG (f61v9 wD wF wE))
 none)
 none)
 (cond (((curBelow (⟨wA, wB, wC⟩ : CurT) (14 : Int)).1) == (4 : Int))
 (cond (Nat.ble ((NodeT.kids (atI (t := .node) (NodeT.kids (atI (t := .node) wD wF)) wE)).length + 1) LIM)
 (cond ((decide ((0 : Int) ≤ ((NodeT.kids (atI (t := .node) (NodeT.kids (atI (t := .node) wD wF)) wE)).length : Int))) && (decide (((NodeT.kids (atI (t := .node) (NodeT.kids (atI (t := .node) wD wF)) wE)).length : Int) < (((NodeT.kids (atI (t := .node) (NodeT.kids (atI (t := .node) wD wF)) wE)) ++ ([(⟨(0 : Int), (0 : Int), ByteArray.empty, ([] : List BA), ([] : List NodeT)⟩ : NodeT)] : List NodeT)).length : Int))))
 (cond (eqP [(wF, 4), (wE, 4)] [(wF, 4), (wE, 4)])
 (f61J1 n k a0 (CurT.b ((curBelow (⟨wA, wB, wC⟩ : CurT) (14 : Int)).2)) (CurT.i ((curBelow (⟨wA, wB, wC⟩ : CurT) (14 : Int)).2)) (CurT.h ((curBelow (⟨wA, wB, wC⟩ : CurT) (14 : Int)).2)) wH wI wJ wG (f61v11 wD wF wE))
 none)
 none)
 none)
 (f61J5 n k a0 wF wE (((curBelow (⟨wA, wB, wC⟩ : CurT) (14 : Int)).1) == (4 : Int)) (CurT.b ((curBelow (⟨wA, wB, wC⟩ : CurT) (14 : Int)).2)) (CurT.i ((curBelow (⟨wA, wB, wC⟩ : CurT) (14 : Int)).2)) (CurT.h ((curBelow (⟨wA, wB, wC⟩ : CurT) (14 : Int)).2)) wH wI wJ wG wD))))))
 none)
theorem f61J4_eq {R : Type} (n : Nat) (k : List Dt → Option R) (a0 : CurT) (wF : Nat) (wE : Nat) (wM : Bool) (wA : List Int) (wB : Int) (wC : Int) (wH : Int) (wI : Int) (wJ : BA) (wG : List BA) (wD : List NodeT) : ev f61e f61k n (cAt [1,1,1,1] f61c) (f61S5 wF wE wM wA wB wC wH wI wJ wG wD) (exitK f61e [.pmut] [false] true [.cell 2 31] [31] [.d .cur a0] k) = f61J4 n k a0  wF wE wM wA wB wC wH wI wJ wG wD := by
 rw [show (cAt [1,1,1,1] f61c) = .seq (cAt [1,1,1,1,0] f61c) (cAt [1,1,1,1,1] f61c) from by kernel_rfl, ev_seq, f61J4_a]
 simp only [seqK_n, seqK_r, f61J1_eq, f61J5_eq, f61J4]
noncomputable def f61v12 (wD : List NodeT) (wE : Nat) (wA : List Int) (wB : Int) (wC : Int) : List NodeT :=
 (wD.set wE (wKind (atI (t := .node) wD wE) (IntKind.wrap .i64 (((curBelow ((curBelow (⟨wA, wB, wC⟩ : CurT) (14 : Int)).2) (8 : Int)).1) - (1 : Int)))))
noncomputable def f61v13 (wD : List NodeT) (wE : Nat) (wA : List Int) (wB : Int) (wC : Int) : List NodeT :=
 (wD.set wE (wN (atI (t := .node) wD wE) ((curPickI ((curBelow (⟨wA, wB, wC⟩ : CurT) (14 : Int)).2) ([(1 : Int), (2 : Int), (1000000000001 : Int)] : List Int)).1)))
noncomputable def f61v14 (wD : List NodeT) (wE : Nat) (wA : List Int) (wB : Int) (wC : Int) : List NodeT :=
 (wD.set wE (wS (atI (t := .node) wD wE) ((curPick ((curBelow (⟨wA, wB, wC⟩ : CurT) (14 : Int)).2) ([(bs [120]), (bs [31]), (bs [127])] : List BA)).1)))
noncomputable def f61v15 (wD : List NodeT) (wE : Nat) : List NodeT :=
 (wD.set wE (wKeys (atI (t := .node) wD wE) ((NodeT.keys (atI (t := .node) wD wE)) ++ ([(bs [97])] : List BA))))
noncomputable def f61v16 (wD : List NodeT) (wE : Nat) : List NodeT :=
 (((NodeT.kids (atI (t := .node) wD wE)) ++ ([(⟨(0 : Int), (0 : Int), ByteArray.empty, ([] : List BA), ([] : List NodeT)⟩ : NodeT)] : List NodeT)).set (Int.toNat ((NodeT.kids (atI (t := .node) wD wE)).length : Int)) (⟨(0 : Int), (0 : Int), ByteArray.empty, ([] : List BA), ([] : List NodeT)⟩ : NodeT))
noncomputable def f61v17 (wD : List NodeT) (wE : Nat) : List NodeT :=
 (wD.set wE (wK (atI (t := .node) wD wE) (f61v16 wD wE)))
theorem f61J7_a {R : Type} (n : Nat) (k' : Ex → St → Option R) (wE : Nat) (wO : Bool) (wA : List Int) (wB : Int) (wC : Int) (wH : Int) (wI : Int) (wJ : BA) (wG : List BA) (wD : List NodeT) : ev f61e f61k n (cAt [1,1,1,1,1,0] f61c) (f61S6 wE wO wA wB wC wH wI wJ wG wD) k' =
 (k' .normal (f61S0 wA wB wC wH wI wJ wG wD)) := by kernel_rfl
noncomputable def f61J7 {R : Type} (n : Nat) (k : List Dt → Option R) (a0 : CurT) (wE : Nat) (wO : Bool) (wA : List Int) (wB : Int) (wC : Int) (wH : Int) (wI : Int) (wJ : BA) (wG : List BA) (wD : List NodeT) : Option R :=
 (f61J2 n k a0 wA wB wC wH wI wJ wG wD)
theorem f61J7_eq {R : Type} (n : Nat) (k : List Dt → Option R) (a0 : CurT) (wE : Nat) (wO : Bool) (wA : List Int) (wB : Int) (wC : Int) (wH : Int) (wI : Int) (wJ : BA) (wG : List BA) (wD : List NodeT) : ev f61e f61k n (cAt [1,1,1,1,1] f61c) (f61S6 wE wO wA wB wC wH wI wJ wG wD) (exitK f61e [.pmut] [false] true [.cell 2 31] [31] [.d .cur a0] k) = f61J7 n k a0  wE wO wA wB wC wH wI wJ wG wD := by
 rw [show (cAt [1,1,1,1,1] f61c) = .seq (cAt [1,1,1,1,1,0] f61c) (cAt [1,1,1,1,1,1] f61c) from by kernel_rfl, ev_seq, f61J7_a]
 simp only [seqK_n, seqK_r, f61J2_eq, f61J7]
theorem f61J6_a {R : Type} (n : Nat) (k' : Ex → St → Option R) (wE : Nat) (wM : Bool) (wA : List Int) (wB : Int) (wC : Int) (wH : Int) (wI : Int) (wJ : BA) (wG : List BA) (wD : List NodeT) : ev f61e f61k n (cAt [1,1,1,1,0] f61c) (f61S7 wE wM wA wB wC wH wI wJ wG wD) k' =
 (cond ((fun c _ => gCur c) (⟨wA, wB, wC⟩ : CurT) (14 : Int))
 (cond (((curBelow (⟨wA, wB, wC⟩ : CurT) (14 : Int)).1) == (0 : Int))
 (cond ((fun c _ => gCur c) ((curBelow (⟨wA, wB, wC⟩ : CurT) (14 : Int)).2) (8 : Int))
 (k' .normal (f61S1 (CurT.b ((curBelow ((curBelow (⟨wA, wB, wC⟩ : CurT) (14 : Int)).2) (8 : Int)).2)) (CurT.i ((curBelow ((curBelow (⟨wA, wB, wC⟩ : CurT) (14 : Int)).2) (8 : Int)).2)) (CurT.h ((curBelow ((curBelow (⟨wA, wB, wC⟩ : CurT) (14 : Int)).2) (8 : Int)).2)) wH wI wJ wG (f61v12 wD wE wA wB wC)))
 none)
 (cond (((curBelow (⟨wA, wB, wC⟩ : CurT) (14 : Int)).1) == (1 : Int))
 (cond (gPickI ((curBelow (⟨wA, wB, wC⟩ : CurT) (14 : Int)).2) ([(1 : Int), (2 : Int), (1000000000001 : Int)] : List Int))
 (k' .normal (f61S1 (CurT.b ((curPickI ((curBelow (⟨wA, wB, wC⟩ : CurT) (14 : Int)).2) ([(1 : Int), (2 : Int), (1000000000001 : Int)] : List Int)).2)) (CurT.i ((curPickI ((curBelow (⟨wA, wB, wC⟩ : CurT) (14 : Int)).2) ([(1 : Int), (2 : Int), (1000000000001 : Int)] : List Int)).2)) (CurT.h ((curPickI ((curBelow (⟨wA, wB, wC⟩ : CurT) (14 : Int)).2) ([(1 : Int), (2 : Int), (1000000000001 : Int)] : List Int)).2)) wH wI wJ wG (f61v13 wD wE wA wB wC)))
 none)
 (cond (((curBelow (⟨wA, wB, wC⟩ : CurT) (14 : Int)).1) == (2 : Int))
 (cond (gPickS ((curBelow (⟨wA, wB, wC⟩ : CurT) (14 : Int)).2) ([(bs [120]), (bs [31]), (bs [127])] : List BA))
 (k' .normal (f61S1 (CurT.b ((curPick ((curBelow (⟨wA, wB, wC⟩ : CurT) (14 : Int)).2) ([(bs [120]), (bs [31]), (bs [127])] : List BA)).2)) (CurT.i ((curPick ((curBelow (⟨wA, wB, wC⟩ : CurT) (14 : Int)).2) ([(bs [120]), (bs [31]), (bs [127])] : List BA)).2)) (CurT.h ((curPick ((curBelow (⟨wA, wB, wC⟩ : CurT) (14 : Int)).2) ([(bs [120]), (bs [31]), (bs [127])] : List BA)).2)) wH wI wJ wG (f61v14 wD wE wA wB wC)))
 none)
 (cond (((curBelow (⟨wA, wB, wC⟩ : CurT) (14 : Int)).1) == (3 : Int))
 (cond (Nat.ble ((NodeT.keys (atI (t := .node) wD wE)).length + 1) LIM)
 (cond (eqP [(wE, 3)] [(wE, 3)])
 (k' .normal (f61S1 (CurT.b ((curBelow (⟨wA, wB, wC⟩ : CurT) (14 : Int)).2)) (CurT.i ((curBelow (⟨wA, wB, wC⟩ : CurT) (14 : Int)).2)) (CurT.h ((curBelow (⟨wA, wB, wC⟩ : CurT) (14 : Int)).2)) wH wI wJ wG (f61v15 wD wE)))
 none)
 none)
 (cond (((curBelow (⟨wA, wB, wC⟩ : CurT) (14 : Int)).1) == (4 : Int))
 (cond (Nat.ble ((NodeT.kids (atI (t := .node) wD wE)).length + 1) LIM)
 (cond ((decide ((0 : Int) ≤ ((NodeT.kids (atI (t := .node) wD wE)).length : Int))) && (decide (((NodeT.kids (atI (t := .node) wD wE)).length : Int) < (((NodeT.kids (atI (t := .node) wD wE)) ++ ([(⟨(0 : Int), (0 : Int), ByteArray.empty, ([] : List BA), ([] : List NodeT)⟩ : NodeT)] : List NodeT)).length : Int))))
 (cond (eqP [(wE, 4)] [(wE, 4)])
 (k' .normal (f61S1 (CurT.b ((curBelow (⟨wA, wB, wC⟩ : CurT) (14 : Int)).2)) (CurT.i ((curBelow (⟨wA, wB, wC⟩ : CurT) (14 : Int)).2)) (CurT.h ((curBelow (⟨wA, wB, wC⟩ : CurT) (14 : Int)).2)) wH wI wJ wG (f61v17 wD wE)))
 none)
 none)
 none)
 (k' .normal (f61S6 wE (((curBelow (⟨wA, wB, wC⟩ : CurT) (14 : Int)).1) == (4 : Int)) (CurT.b ((curBelow (⟨wA, wB, wC⟩ : CurT) (14 : Int)).2)) (CurT.i ((curBelow (⟨wA, wB, wC⟩ : CurT) (14 : Int)).2)) (CurT.h ((curBelow (⟨wA, wB, wC⟩ : CurT) (14 : Int)).2)) wH wI wJ wG wD)))))))
 none) := by kernel_rfl
noncomputable def f61J6 {R : Type} (n : Nat) (k : List Dt → Option R) (a0 : CurT) (wE : Nat) (wM : Bool) (wA : List Int) (wB : Int) (wC : Int) (wH : Int) (wI : Int) (wJ : BA) (wG : List BA) (wD : List NodeT) : Option R :=
 (cond ((fun c _ => gCur c) (⟨wA, wB, wC⟩ : CurT) (14 : Int))
 (cond (((curBelow (⟨wA, wB, wC⟩ : CurT) (14 : Int)).1) == (0 : Int))
 (cond ((fun c _ => gCur c) ((curBelow (⟨wA, wB, wC⟩ : CurT) (14 : Int)).2) (8 : Int))
 (f61J1 n k a0 (CurT.b ((curBelow ((curBelow (⟨wA, wB, wC⟩ : CurT) (14 : Int)).2) (8 : Int)).2)) (CurT.i ((curBelow ((curBelow (⟨wA, wB, wC⟩ : CurT) (14 : Int)).2) (8 : Int)).2)) (CurT.h ((curBelow ((curBelow (⟨wA, wB, wC⟩ : CurT) (14 : Int)).2) (8 : Int)).2)) wH wI wJ wG (f61v12 wD wE wA wB wC))
 none)
 (cond (((curBelow (⟨wA, wB, wC⟩ : CurT) (14 : Int)).1) == (1 : Int))
 (cond (gPickI ((curBelow (⟨wA, wB, wC⟩ : CurT) (14 : Int)).2) ([(1 : Int), (2 : Int), (1000000000001 : Int)] : List Int))
 (f61J1 n k a0 (CurT.b ((curPickI ((curBelow (⟨wA, wB, wC⟩ : CurT) (14 : Int)).2) ([(1 : Int), (2 : Int), (1000000000001 : Int)] : List Int)).2)) (CurT.i ((curPickI ((curBelow (⟨wA, wB, wC⟩ : CurT) (14 : Int)).2) ([(1 : Int), (2 : Int), (1000000000001 : Int)] : List Int)).2)) (CurT.h ((curPickI ((curBelow (⟨wA, wB, wC⟩ : CurT) (14 : Int)).2) ([(1 : Int), (2 : Int), (1000000000001 : Int)] : List Int)).2)) wH wI wJ wG (f61v13 wD wE wA wB wC))
 none)
 (cond (((curBelow (⟨wA, wB, wC⟩ : CurT) (14 : Int)).1) == (2 : Int))
 (cond (gPickS ((curBelow (⟨wA, wB, wC⟩ : CurT) (14 : Int)).2) ([(bs [120]), (bs [31]), (bs [127])] : List BA))
 (f61J1 n k a0 (CurT.b ((curPick ((curBelow (⟨wA, wB, wC⟩ : CurT) (14 : Int)).2) ([(bs [120]), (bs [31]), (bs [127])] : List BA)).2)) (CurT.i ((curPick ((curBelow (⟨wA, wB, wC⟩ : CurT) (14 : Int)).2) ([(bs [120]), (bs [31]), (bs [127])] : List BA)).2)) (CurT.h ((curPick ((curBelow (⟨wA, wB, wC⟩ : CurT) (14 : Int)).2) ([(bs [120]), (bs [31]), (bs [127])] : List BA)).2)) wH wI wJ wG (f61v14 wD wE wA wB wC))
 none)
 (cond (((curBelow (⟨wA, wB, wC⟩ : CurT) (14 : Int)).1) == (3 : Int))
 (cond (Nat.ble ((NodeT.keys (atI (t := .node) wD wE)).length + 1) LIM)
 (cond (eqP [(wE, 3)] [(wE, 3)])
 (f61J1 n k a0 (CurT.b ((curBelow (⟨wA, wB, wC⟩ : CurT) (14 : Int)).2)) (CurT.i ((curBelow (⟨wA, wB, wC⟩ : CurT) (14 : Int)).2)) (CurT.h ((curBelow (⟨wA, wB, wC⟩ : CurT) (14 : Int)).2)) wH wI wJ wG (f61v15 wD wE))
 none)
 none)
 (cond (((curBelow (⟨wA, wB, wC⟩ : CurT) (14 : Int)).1) == (4 : Int))
 (cond (Nat.ble ((NodeT.kids (atI (t := .node) wD wE)).length + 1) LIM)
 (cond ((decide ((0 : Int) ≤ ((NodeT.kids (atI (t := .node) wD wE)).length : Int))) && (decide (((NodeT.kids (atI (t := .node) wD wE)).length : Int) < (((NodeT.kids (atI (t := .node) wD wE)) ++ ([(⟨(0 : Int), (0 : Int), ByteArray.empty, ([] : List BA), ([] : List NodeT)⟩ : NodeT)] : List NodeT)).length : Int))))
 (cond (eqP [(wE, 4)] [(wE, 4)])
 (f61J1 n k a0 (CurT.b ((curBelow (⟨wA, wB, wC⟩ : CurT) (14 : Int)).2)) (CurT.i ((curBelow (⟨wA, wB, wC⟩ : CurT) (14 : Int)).2)) (CurT.h ((curBelow (⟨wA, wB, wC⟩ : CurT) (14 : Int)).2)) wH wI wJ wG (f61v17 wD wE))
 none)
 none)
 none)
 (f61J7 n k a0 wE (((curBelow (⟨wA, wB, wC⟩ : CurT) (14 : Int)).1) == (4 : Int)) (CurT.b ((curBelow (⟨wA, wB, wC⟩ : CurT) (14 : Int)).2)) (CurT.i ((curBelow (⟨wA, wB, wC⟩ : CurT) (14 : Int)).2)) (CurT.h ((curBelow (⟨wA, wB, wC⟩ : CurT) (14 : Int)).2)) wH wI wJ wG wD))))))
 none)
theorem f61J6_eq {R : Type} (n : Nat) (k : List Dt → Option R) (a0 : CurT) (wE : Nat) (wM : Bool) (wA : List Int) (wB : Int) (wC : Int) (wH : Int) (wI : Int) (wJ : BA) (wG : List BA) (wD : List NodeT) : ev f61e f61k n (cAt [1,1,1,1] f61c) (f61S7 wE wM wA wB wC wH wI wJ wG wD) (exitK f61e [.pmut] [false] true [.cell 2 31] [31] [.d .cur a0] k) = f61J6 n k a0  wE wM wA wB wC wH wI wJ wG wD := by
 rw [show (cAt [1,1,1,1] f61c) = .seq (cAt [1,1,1,1,0] f61c) (cAt [1,1,1,1,1] f61c) from by kernel_rfl, ev_seq, f61J6_a]
 simp only [seqK_n, seqK_r, f61J1_eq, f61J7_eq, f61J6]
noncomputable def f61v18 (wD : List NodeT) : List NodeT :=
 ((wD ++ ([(⟨(0 : Int), (0 : Int), ByteArray.empty, ([] : List BA), ([] : List NodeT)⟩ : NodeT)] : List NodeT)).set (Int.toNat (wD.length : Int)) (⟨(0 : Int), (0 : Int), ByteArray.empty, ([] : List BA), ([] : List NodeT)⟩ : NodeT))
theorem f61J9_a {R : Type} (n : Nat) (k' : Ex → St → Option R) (wO : Bool) (wA : List Int) (wB : Int) (wC : Int) (wH : Int) (wI : Int) (wJ : BA) (wG : List BA) (wD : List NodeT) : ev f61e f61k n (cAt [1,1,1,1,1,0] f61c) (f61S8 wO wA wB wC wH wI wJ wG wD) k' =
 (k' .normal (f61S0 wA wB wC wH wI wJ wG wD)) := by kernel_rfl
noncomputable def f61J9 {R : Type} (n : Nat) (k : List Dt → Option R) (a0 : CurT) (wO : Bool) (wA : List Int) (wB : Int) (wC : Int) (wH : Int) (wI : Int) (wJ : BA) (wG : List BA) (wD : List NodeT) : Option R :=
 (f61J2 n k a0 wA wB wC wH wI wJ wG wD)
theorem f61J9_eq {R : Type} (n : Nat) (k : List Dt → Option R) (a0 : CurT) (wO : Bool) (wA : List Int) (wB : Int) (wC : Int) (wH : Int) (wI : Int) (wJ : BA) (wG : List BA) (wD : List NodeT) : ev f61e f61k n (cAt [1,1,1,1,1] f61c) (f61S8 wO wA wB wC wH wI wJ wG wD) (exitK f61e [.pmut] [false] true [.cell 2 31] [31] [.d .cur a0] k) = f61J9 n k a0  wO wA wB wC wH wI wJ wG wD := by
 rw [show (cAt [1,1,1,1,1] f61c) = .seq (cAt [1,1,1,1,1,0] f61c) (cAt [1,1,1,1,1,1] f61c) from by kernel_rfl, ev_seq, f61J9_a]
 simp only [seqK_n, seqK_r, f61J2_eq, f61J9]
theorem f61J8_a {R : Type} (n : Nat) (k' : Ex → St → Option R) (wM : Bool) (wA : List Int) (wB : Int) (wC : Int) (wH : Int) (wI : Int) (wJ : BA) (wG : List BA) (wD : List NodeT) : ev f61e f61k n (cAt [1,1,1,1,0] f61c) (f61S9 wM wA wB wC wH wI wJ wG wD) k' =
 (cond ((fun c _ => gCur c) (⟨wA, wB, wC⟩ : CurT) (14 : Int))
 (cond (((curBelow (⟨wA, wB, wC⟩ : CurT) (14 : Int)).1) == (0 : Int))
 (cond ((fun c _ => gCur c) ((curBelow (⟨wA, wB, wC⟩ : CurT) (14 : Int)).2) (8 : Int))
 (k' .normal (f61S1 (CurT.b ((curBelow ((curBelow (⟨wA, wB, wC⟩ : CurT) (14 : Int)).2) (8 : Int)).2)) (CurT.i ((curBelow ((curBelow (⟨wA, wB, wC⟩ : CurT) (14 : Int)).2) (8 : Int)).2)) (CurT.h ((curBelow ((curBelow (⟨wA, wB, wC⟩ : CurT) (14 : Int)).2) (8 : Int)).2)) (IntKind.wrap .i64 (((curBelow ((curBelow (⟨wA, wB, wC⟩ : CurT) (14 : Int)).2) (8 : Int)).1) - (1 : Int))) wI wJ wG wD))
 none)
 (cond (((curBelow (⟨wA, wB, wC⟩ : CurT) (14 : Int)).1) == (1 : Int))
 (cond (gPickI ((curBelow (⟨wA, wB, wC⟩ : CurT) (14 : Int)).2) ([(1 : Int), (2 : Int), (1000000000001 : Int)] : List Int))
 (k' .normal (f61S1 (CurT.b ((curPickI ((curBelow (⟨wA, wB, wC⟩ : CurT) (14 : Int)).2) ([(1 : Int), (2 : Int), (1000000000001 : Int)] : List Int)).2)) (CurT.i ((curPickI ((curBelow (⟨wA, wB, wC⟩ : CurT) (14 : Int)).2) ([(1 : Int), (2 : Int), (1000000000001 : Int)] : List Int)).2)) (CurT.h ((curPickI ((curBelow (⟨wA, wB, wC⟩ : CurT) (14 : Int)).2) ([(1 : Int), (2 : Int), (1000000000001 : Int)] : List Int)).2)) wH ((curPickI ((curBelow (⟨wA, wB, wC⟩ : CurT) (14 : Int)).2) ([(1 : Int), (2 : Int), (1000000000001 : Int)] : List Int)).1) wJ wG wD))
 none)
 (cond (((curBelow (⟨wA, wB, wC⟩ : CurT) (14 : Int)).1) == (2 : Int))
 (cond (gPickS ((curBelow (⟨wA, wB, wC⟩ : CurT) (14 : Int)).2) ([(bs [120]), (bs [31]), (bs [127])] : List BA))
 (k' .normal (f61S1 (CurT.b ((curPick ((curBelow (⟨wA, wB, wC⟩ : CurT) (14 : Int)).2) ([(bs [120]), (bs [31]), (bs [127])] : List BA)).2)) (CurT.i ((curPick ((curBelow (⟨wA, wB, wC⟩ : CurT) (14 : Int)).2) ([(bs [120]), (bs [31]), (bs [127])] : List BA)).2)) (CurT.h ((curPick ((curBelow (⟨wA, wB, wC⟩ : CurT) (14 : Int)).2) ([(bs [120]), (bs [31]), (bs [127])] : List BA)).2)) wH wI ((curPick ((curBelow (⟨wA, wB, wC⟩ : CurT) (14 : Int)).2) ([(bs [120]), (bs [31]), (bs [127])] : List BA)).1) wG wD))
 none)
 (cond (((curBelow (⟨wA, wB, wC⟩ : CurT) (14 : Int)).1) == (3 : Int))
 (cond (Nat.ble (wG.length + 1) LIM)
 (k' .normal (f61S1 (CurT.b ((curBelow (⟨wA, wB, wC⟩ : CurT) (14 : Int)).2)) (CurT.i ((curBelow (⟨wA, wB, wC⟩ : CurT) (14 : Int)).2)) (CurT.h ((curBelow (⟨wA, wB, wC⟩ : CurT) (14 : Int)).2)) wH wI wJ (wG ++ ([(bs [97])] : List BA)) wD))
 none)
 (cond (((curBelow (⟨wA, wB, wC⟩ : CurT) (14 : Int)).1) == (4 : Int))
 (cond (Nat.ble (wD.length + 1) LIM)
 (cond ((decide ((0 : Int) ≤ (wD.length : Int))) && (decide ((wD.length : Int) < ((wD ++ ([(⟨(0 : Int), (0 : Int), ByteArray.empty, ([] : List BA), ([] : List NodeT)⟩ : NodeT)] : List NodeT)).length : Int))))
 (k' .normal (f61S1 (CurT.b ((curBelow (⟨wA, wB, wC⟩ : CurT) (14 : Int)).2)) (CurT.i ((curBelow (⟨wA, wB, wC⟩ : CurT) (14 : Int)).2)) (CurT.h ((curBelow (⟨wA, wB, wC⟩ : CurT) (14 : Int)).2)) wH wI wJ wG (f61v18 wD)))
 none)
 none)
 (k' .normal (f61S8 (((curBelow (⟨wA, wB, wC⟩ : CurT) (14 : Int)).1) == (4 : Int)) (CurT.b ((curBelow (⟨wA, wB, wC⟩ : CurT) (14 : Int)).2)) (CurT.i ((curBelow (⟨wA, wB, wC⟩ : CurT) (14 : Int)).2)) (CurT.h ((curBelow (⟨wA, wB, wC⟩ : CurT) (14 : Int)).2)) wH wI wJ wG wD)))))))
 none) := by kernel_rfl
noncomputable def f61J8 {R : Type} (n : Nat) (k : List Dt → Option R) (a0 : CurT) (wM : Bool) (wA : List Int) (wB : Int) (wC : Int) (wH : Int) (wI : Int) (wJ : BA) (wG : List BA) (wD : List NodeT) : Option R :=
 (cond ((fun c _ => gCur c) (⟨wA, wB, wC⟩ : CurT) (14 : Int))
 (cond (((curBelow (⟨wA, wB, wC⟩ : CurT) (14 : Int)).1) == (0 : Int))
 (cond ((fun c _ => gCur c) ((curBelow (⟨wA, wB, wC⟩ : CurT) (14 : Int)).2) (8 : Int))
 (f61J1 n k a0 (CurT.b ((curBelow ((curBelow (⟨wA, wB, wC⟩ : CurT) (14 : Int)).2) (8 : Int)).2)) (CurT.i ((curBelow ((curBelow (⟨wA, wB, wC⟩ : CurT) (14 : Int)).2) (8 : Int)).2)) (CurT.h ((curBelow ((curBelow (⟨wA, wB, wC⟩ : CurT) (14 : Int)).2) (8 : Int)).2)) (IntKind.wrap .i64 (((curBelow ((curBelow (⟨wA, wB, wC⟩ : CurT) (14 : Int)).2) (8 : Int)).1) - (1 : Int))) wI wJ wG wD)
 none)
 (cond (((curBelow (⟨wA, wB, wC⟩ : CurT) (14 : Int)).1) == (1 : Int))
 (cond (gPickI ((curBelow (⟨wA, wB, wC⟩ : CurT) (14 : Int)).2) ([(1 : Int), (2 : Int), (1000000000001 : Int)] : List Int))
 (f61J1 n k a0 (CurT.b ((curPickI ((curBelow (⟨wA, wB, wC⟩ : CurT) (14 : Int)).2) ([(1 : Int), (2 : Int), (1000000000001 : Int)] : List Int)).2)) (CurT.i ((curPickI ((curBelow (⟨wA, wB, wC⟩ : CurT) (14 : Int)).2) ([(1 : Int), (2 : Int), (1000000000001 : Int)] : List Int)).2)) (CurT.h ((curPickI ((curBelow (⟨wA, wB, wC⟩ : CurT) (14 : Int)).2) ([(1 : Int), (2 : Int), (1000000000001 : Int)] : List Int)).2)) wH ((curPickI ((curBelow (⟨wA, wB, wC⟩ : CurT) (14 : Int)).2) ([(1 : Int), (2 : Int), (1000000000001 : Int)] : List Int)).1) wJ wG wD)
 none)
 (cond (((curBelow (⟨wA, wB, wC⟩ : CurT) (14 : Int)).1) == (2 : Int))
 (cond (gPickS ((curBelow (⟨wA, wB, wC⟩ : CurT) (14 : Int)).2) ([(bs [120]), (bs [31]), (bs [127])] : List BA))
 (f61J1 n k a0 (CurT.b ((curPick ((curBelow (⟨wA, wB, wC⟩ : CurT) (14 : Int)).2) ([(bs [120]), (bs [31]), (bs [127])] : List BA)).2)) (CurT.i ((curPick ((curBelow (⟨wA, wB, wC⟩ : CurT) (14 : Int)).2) ([(bs [120]), (bs [31]), (bs [127])] : List BA)).2)) (CurT.h ((curPick ((curBelow (⟨wA, wB, wC⟩ : CurT) (14 : Int)).2) ([(bs [120]), (bs [31]), (bs [127])] : List BA)).2)) wH wI ((curPick ((curBelow (⟨wA, wB, wC⟩ : CurT) (14 : Int)).2) ([(bs [120]), (bs [31]), (bs [127])] : List BA)).1) wG wD)
 none)
 (cond (((curBelow (⟨wA, wB, wC⟩ : CurT) (14 : Int)).1) == (3 : Int))
 (cond (Nat.ble (wG.length + 1) LIM)
 (f61J1 n k a0 (CurT.b ((curBelow (⟨wA, wB, wC⟩ : CurT) (14 : Int)).2)) (CurT.i ((curBelow (⟨wA, wB, wC⟩ : CurT) (14 : Int)).2)) (CurT.h ((curBelow (⟨wA, wB, wC⟩ : CurT) (14 : Int)).2)) wH wI wJ (wG ++ ([(bs [97])] : List BA)) wD)
 none)
 (cond (((curBelow (⟨wA, wB, wC⟩ : CurT) (14 : Int)).1) == (4 : Int))
 (cond (Nat.ble (wD.length + 1) LIM)
 (cond ((decide ((0 : Int) ≤ (wD.length : Int))) && (decide ((wD.length : Int) < ((wD ++ ([(⟨(0 : Int), (0 : Int), ByteArray.empty, ([] : List BA), ([] : List NodeT)⟩ : NodeT)] : List NodeT)).length : Int))))
 (f61J1 n k a0 (CurT.b ((curBelow (⟨wA, wB, wC⟩ : CurT) (14 : Int)).2)) (CurT.i ((curBelow (⟨wA, wB, wC⟩ : CurT) (14 : Int)).2)) (CurT.h ((curBelow (⟨wA, wB, wC⟩ : CurT) (14 : Int)).2)) wH wI wJ wG (f61v18 wD))
 none)
 none)
 (f61J9 n k a0 (((curBelow (⟨wA, wB, wC⟩ : CurT) (14 : Int)).1) == (4 : Int)) (CurT.b ((curBelow (⟨wA, wB, wC⟩ : CurT) (14 : Int)).2)) (CurT.i ((curBelow (⟨wA, wB, wC⟩ : CurT) (14 : Int)).2)) (CurT.h ((curBelow (⟨wA, wB, wC⟩ : CurT) (14 : Int)).2)) wH wI wJ wG wD))))))
 none)
theorem f61J8_eq {R : Type} (n : Nat) (k : List Dt → Option R) (a0 : CurT) (wM : Bool) (wA : List Int) (wB : Int) (wC : Int) (wH : Int) (wI : Int) (wJ : BA) (wG : List BA) (wD : List NodeT) : ev f61e f61k n (cAt [1,1,1,1] f61c) (f61S9 wM wA wB wC wH wI wJ wG wD) (exitK f61e [.pmut] [false] true [.cell 2 31] [31] [.d .cur a0] k) = f61J8 n k a0  wM wA wB wC wH wI wJ wG wD := by
 rw [show (cAt [1,1,1,1] f61c) = .seq (cAt [1,1,1,1,0] f61c) (cAt [1,1,1,1,1] f61c) from by kernel_rfl, ev_seq, f61J8_a]
 simp only [seqK_n, seqK_r, f61J1_eq, f61J9_eq, f61J8]
noncomputable def f61w0 (a0 : CurT) : NodeT × CurT := (dT a0 (3 : Int))
noncomputable def f61w1 (a0 : CurT) : Bool × CurT := (curOnce ((f61w0 a0).2) (2 : Int))
noncomputable def f61w2 (a0 : CurT) : Int × CurT := (curBelow ((f61w1 a0).2) ((NodeT.kids ((f61w0 a0).1)).length : Int))
noncomputable def f61w3 (a0 : CurT) : NodeT := (atI (t := .node) (NodeT.kids ((f61w0 a0).1)) (Int.toNat ((f61w2 a0).1)))
noncomputable def f61w4 (a0 : CurT) : Bool × CurT := (curOnce ((f61w2 a0).2) (2 : Int))
noncomputable def f61w5 (a0 : CurT) : Int × CurT := (curBelow ((f61w4 a0).2) ((NodeT.kids (f61w3 a0)).length : Int))
noncomputable def f61w6 (a0 : CurT) : Bool × CurT := (curOnce ((f61w5 a0).2) (2 : Int))
noncomputable def f61w7 (a0 : CurT) : NodeT := (atI (t := .node) (NodeT.kids (f61w3 a0)) (Int.toNat ((f61w5 a0).1)))
noncomputable def f61w8 (a0 : CurT) : Int × CurT := (curBelow ((f61w6 a0).2) ((NodeT.kids (f61w7 a0)).length : Int))
theorem f61_run {R : Type} (n : Nat) (k : List Dt → Option R) (a0 : CurT) : evFn f61e f61k (n + 4) f61c [.pmut] [false] true [.cell 2 31] [31] [.d .cur a0] k =
 (cond (gDT a0 (3 : Int))
 (cond (decide (((NodeT.kids ((f61w0 a0).1)).length : Int) > (0 : Int)))
 (cond ((fun c _ => gCur c) ((f61w0 a0).2) (2 : Int))
 (cond (!((f61w1 a0).1))
 (cond ((fun c _ => gCur c) ((f61w1 a0).2) ((NodeT.kids ((f61w0 a0).1)).length : Int))
 (cond ((decide ((0 : Int) ≤ ((f61w2 a0).1))) && (decide (((f61w2 a0).1) < ((NodeT.kids ((f61w0 a0).1)).length : Int))))
 (cond (decide (((NodeT.kids (f61w3 a0)).length : Int) > (0 : Int)))
 (cond ((fun c _ => gCur c) ((f61w2 a0).2) (2 : Int))
 (cond (!((f61w4 a0).1))
 (cond ((fun c _ => gCur c) ((f61w4 a0).2) ((NodeT.kids (f61w3 a0)).length : Int))
 (cond ((decide ((0 : Int) ≤ ((f61w5 a0).1))) && (decide (((f61w5 a0).1) < ((NodeT.kids (f61w3 a0)).length : Int))))
 (cond (decide (((NodeT.kids (f61w7 a0)).length : Int) > (0 : Int)))
 (cond ((fun c _ => gCur c) ((f61w5 a0).2) (2 : Int))
 (cond (!((f61w6 a0).1))
 (cond ((fun c _ => gCur c) ((f61w6 a0).2) ((NodeT.kids (f61w7 a0)).length : Int))
 (cond ((decide ((0 : Int) ≤ ((f61w8 a0).1))) && (decide (((f61w8 a0).1) < ((NodeT.kids (f61w7 a0)).length : Int))))
 (f61J0 n k a0 (Int.toNat ((f61w2 a0).1)) (Int.toNat ((f61w5 a0).1)) (Int.toNat ((f61w8 a0).1)) false (CurT.b ((f61w8 a0).2)) (CurT.i ((f61w8 a0).2)) (CurT.h ((f61w8 a0).2)) (NodeT.kind ((f61w0 a0).1)) (NodeT.n ((f61w0 a0).1)) (NodeT.s ((f61w0 a0).1)) (NodeT.keys ((f61w0 a0).1)) (NodeT.kids ((f61w0 a0).1)))
 none)
 none)
 (f61J4 n k a0 (Int.toNat ((f61w2 a0).1)) (Int.toNat ((f61w5 a0).1)) (!((f61w6 a0).1)) (CurT.b ((f61w6 a0).2)) (CurT.i ((f61w6 a0).2)) (CurT.h ((f61w6 a0).2)) (NodeT.kind ((f61w0 a0).1)) (NodeT.n ((f61w0 a0).1)) (NodeT.s ((f61w0 a0).1)) (NodeT.keys ((f61w0 a0).1)) (NodeT.kids ((f61w0 a0).1))))
 none)
 (f61J4 n k a0 (Int.toNat ((f61w2 a0).1)) (Int.toNat ((f61w5 a0).1)) false (CurT.b ((f61w5 a0).2)) (CurT.i ((f61w5 a0).2)) (CurT.h ((f61w5 a0).2)) (NodeT.kind ((f61w0 a0).1)) (NodeT.n ((f61w0 a0).1)) (NodeT.s ((f61w0 a0).1)) (NodeT.keys ((f61w0 a0).1)) (NodeT.kids ((f61w0 a0).1))))
 none)
 none)
 (f61J6 n k a0 (Int.toNat ((f61w2 a0).1)) (!((f61w4 a0).1)) (CurT.b ((f61w4 a0).2)) (CurT.i ((f61w4 a0).2)) (CurT.h ((f61w4 a0).2)) (NodeT.kind ((f61w0 a0).1)) (NodeT.n ((f61w0 a0).1)) (NodeT.s ((f61w0 a0).1)) (NodeT.keys ((f61w0 a0).1)) (NodeT.kids ((f61w0 a0).1))))
 none)
 (f61J6 n k a0 (Int.toNat ((f61w2 a0).1)) false (CurT.b ((f61w2 a0).2)) (CurT.i ((f61w2 a0).2)) (CurT.h ((f61w2 a0).2)) (NodeT.kind ((f61w0 a0).1)) (NodeT.n ((f61w0 a0).1)) (NodeT.s ((f61w0 a0).1)) (NodeT.keys ((f61w0 a0).1)) (NodeT.kids ((f61w0 a0).1))))
 none)
 none)
 (f61J8 n k a0 (!((f61w1 a0).1)) (CurT.b ((f61w1 a0).2)) (CurT.i ((f61w1 a0).2)) (CurT.h ((f61w1 a0).2)) (NodeT.kind ((f61w0 a0).1)) (NodeT.n ((f61w0 a0).1)) (NodeT.s ((f61w0 a0).1)) (NodeT.keys ((f61w0 a0).1)) (NodeT.kids ((f61w0 a0).1))))
 none)
 (f61J8 n k a0 false (CurT.b ((f61w0 a0).2)) (CurT.i ((f61w0 a0).2)) (CurT.h ((f61w0 a0).2)) (NodeT.kind ((f61w0 a0).1)) (NodeT.n ((f61w0 a0).1)) (NodeT.s ((f61w0 a0).1)) (NodeT.keys ((f61w0 a0).1)) (NodeT.kids ((f61w0 a0).1))))
 none) := by
  refine Eq.trans (b := (cond (gDT a0 (3 : Int))
  (cond (decide (((NodeT.kids ((f61w0 a0).1)).length : Int) > (0 : Int)))
   (cond ((fun c _ => gCur c) ((f61w0 a0).2) (2 : Int))
    (cond (!((f61w1 a0).1))
     (cond ((fun c _ => gCur c) ((f61w1 a0).2) ((NodeT.kids ((f61w0 a0).1)).length : Int))
      (cond ((decide ((0 : Int) ≤ ((f61w2 a0).1))) && (decide (((f61w2 a0).1) < ((NodeT.kids ((f61w0 a0).1)).length : Int))))
       (cond (decide (((NodeT.kids (f61w3 a0)).length : Int) > (0 : Int)))
        (cond ((fun c _ => gCur c) ((f61w2 a0).2) (2 : Int))
         (cond (!((f61w4 a0).1))
          (cond ((fun c _ => gCur c) ((f61w4 a0).2) ((NodeT.kids (f61w3 a0)).length : Int))
           (cond ((decide ((0 : Int) ≤ ((f61w5 a0).1))) && (decide (((f61w5 a0).1) < ((NodeT.kids (f61w3 a0)).length : Int))))
            (cond (decide (((NodeT.kids (f61w7 a0)).length : Int) > (0 : Int)))
             (cond ((fun c _ => gCur c) ((f61w5 a0).2) (2 : Int))
              (cond (!((f61w6 a0).1))
               (cond ((fun c _ => gCur c) ((f61w6 a0).2) ((NodeT.kids (f61w7 a0)).length : Int))
                (cond ((decide ((0 : Int) ≤ ((f61w8 a0).1))) && (decide (((f61w8 a0).1) < ((NodeT.kids (f61w7 a0)).length : Int))))
                 (ev f61e f61k n (cAt [1,1,1,1] f61c) (f61S3 (Int.toNat ((f61w2 a0).1)) (Int.toNat ((f61w5 a0).1)) (Int.toNat ((f61w8 a0).1)) false (CurT.b ((f61w8 a0).2)) (CurT.i ((f61w8 a0).2)) (CurT.h ((f61w8 a0).2)) (NodeT.kind ((f61w0 a0).1)) (NodeT.n ((f61w0 a0).1)) (NodeT.s ((f61w0 a0).1)) (NodeT.keys ((f61w0 a0).1)) (NodeT.kids ((f61w0 a0).1))) (exitK f61e [.pmut] [false] true [.cell 2 31] [31] [.d .cur a0] k))
                 none)
                none)
               (ev f61e f61k n (cAt [1,1,1,1] f61c) (f61S5 (Int.toNat ((f61w2 a0).1)) (Int.toNat ((f61w5 a0).1)) (!((f61w6 a0).1)) (CurT.b ((f61w6 a0).2)) (CurT.i ((f61w6 a0).2)) (CurT.h ((f61w6 a0).2)) (NodeT.kind ((f61w0 a0).1)) (NodeT.n ((f61w0 a0).1)) (NodeT.s ((f61w0 a0).1)) (NodeT.keys ((f61w0 a0).1)) (NodeT.kids ((f61w0 a0).1))) (exitK f61e [.pmut] [false] true [.cell 2 31] [31] [.d .cur a0] k)))
              none)
             (ev f61e f61k n (cAt [1,1,1,1] f61c) (f61S5 (Int.toNat ((f61w2 a0).1)) (Int.toNat ((f61w5 a0).1)) false (CurT.b ((f61w5 a0).2)) (CurT.i ((f61w5 a0).2)) (CurT.h ((f61w5 a0).2)) (NodeT.kind ((f61w0 a0).1)) (NodeT.n ((f61w0 a0).1)) (NodeT.s ((f61w0 a0).1)) (NodeT.keys ((f61w0 a0).1)) (NodeT.kids ((f61w0 a0).1))) (exitK f61e [.pmut] [false] true [.cell 2 31] [31] [.d .cur a0] k)))
            none)
           none)
          (ev f61e f61k n (cAt [1,1,1,1] f61c) (f61S7 (Int.toNat ((f61w2 a0).1)) (!((f61w4 a0).1)) (CurT.b ((f61w4 a0).2)) (CurT.i ((f61w4 a0).2)) (CurT.h ((f61w4 a0).2)) (NodeT.kind ((f61w0 a0).1)) (NodeT.n ((f61w0 a0).1)) (NodeT.s ((f61w0 a0).1)) (NodeT.keys ((f61w0 a0).1)) (NodeT.kids ((f61w0 a0).1))) (exitK f61e [.pmut] [false] true [.cell 2 31] [31] [.d .cur a0] k)))
         none)
        (ev f61e f61k n (cAt [1,1,1,1] f61c) (f61S7 (Int.toNat ((f61w2 a0).1)) false (CurT.b ((f61w2 a0).2)) (CurT.i ((f61w2 a0).2)) (CurT.h ((f61w2 a0).2)) (NodeT.kind ((f61w0 a0).1)) (NodeT.n ((f61w0 a0).1)) (NodeT.s ((f61w0 a0).1)) (NodeT.keys ((f61w0 a0).1)) (NodeT.kids ((f61w0 a0).1))) (exitK f61e [.pmut] [false] true [.cell 2 31] [31] [.d .cur a0] k)))
       none)
      none)
     (ev f61e f61k n (cAt [1,1,1,1] f61c) (f61S9 (!((f61w1 a0).1)) (CurT.b ((f61w1 a0).2)) (CurT.i ((f61w1 a0).2)) (CurT.h ((f61w1 a0).2)) (NodeT.kind ((f61w0 a0).1)) (NodeT.n ((f61w0 a0).1)) (NodeT.s ((f61w0 a0).1)) (NodeT.keys ((f61w0 a0).1)) (NodeT.kids ((f61w0 a0).1))) (exitK f61e [.pmut] [false] true [.cell 2 31] [31] [.d .cur a0] k)))
    none)
   (ev f61e f61k n (cAt [1,1,1,1] f61c) (f61S9 false (CurT.b ((f61w0 a0).2)) (CurT.i ((f61w0 a0).2)) (CurT.h ((f61w0 a0).2)) (NodeT.kind ((f61w0 a0).1)) (NodeT.n ((f61w0 a0).1)) (NodeT.s ((f61w0 a0).1)) (NodeT.keys ((f61w0 a0).1)) (NodeT.kids ((f61w0 a0).1))) (exitK f61e [.pmut] [false] true [.cell 2 31] [31] [.d .cur a0] k)))
  none)) (by kernel_rfl) ?_
  simp only [f61J0_eq, f61J4_eq, f61J6_eq, f61J8_eq]
theorem f61J0_ok (a0 : CurT) (t : NodeT) (c : CurT) (wF : Nat) (wL : Nat) (wE : Nat) (wM : Bool) (hg : gCur c = true) (h0 : okT t = true) (h1 : okT (atI (t := .node) t.kids wF) = true) (h2 : okT (atI (t := .node) (NodeT.kids (atI (t := .node) t.kids wF)) wL) = true) (h3 : okT (atI (t := .node) (NodeT.kids (atI (t := .node) (NodeT.kids (atI (t := .node) t.kids wF)) wL)) wE) = true) : ∃ o : NodeT × CurT, (okD 3 o.1 = true ∧ gCur o.2 = true) ∧ ∀ {R : Type} (n : Nat) (k : List Dt → Option R), f61J0 n k a0 wF wL wE wM c.b c.i c.h t.kind t.n t.s t.keys t.kids = k [.d .node o.1, .d .cur o.2] := by
 cases e0 : (((curBelow c (14 : Int)).1) == (0 : Int))
 cases e1 : (((curBelow c (14 : Int)).1) == (1 : Int))
 cases e2 : (((curBelow c (14 : Int)).1) == (2 : Int))
 cases e3 : (((curBelow c (14 : Int)).1) == (3 : Int))
 cases e4 : (((curBelow c (14 : Int)).1) == (4 : Int))
 all_goals
  refine ⟨(?_, ?_), ?_, ?_⟩
  rotate_left 3
  ·intro R n k; simp (decide := true) (maxDischargeDepth := 60) only [f61J0, f61J1, f61J2, f61J3, f61J4, f61J5, f61J6, f61J7, f61J8, f61J9, *, curBelow_g, curOnce_g, curPick_g, curPickI_g, gPickS_of, gPickI_of, cond_true, cond_false, Bool.not_true, Bool.not_false, gDT3, dT_okT, dT_g, below_ix, okT_at, pick_50, eqP_self, lim_keys, lim_kids, len_idx, okD_set, okD_kind, okD_n, okD_s, okD_keys, okD_kids, okD_of, eN_eq, eta_node, Bool.and_self, f61v0, f61v1, f61v2, f61v3, f61v4, f61v5, f61v6, f61v7, f61v8, f61v9, f61v10, f61v11, f61v12, f61v13, f61v14, f61v15, f61v16, f61v17, f61v18, wKind, wN, wS, wKeys, wK, eta_node, eta_cur, eN_eq]; exact rfl
  simp (decide := true) (maxDischargeDepth := 60) only [*, curBelow_g, curOnce_g, curPick_g, curPickI_g, gPickS_of, gPickI_of, smStr_pick, okI_pickI, okI_wrap, okI_below, and_self, gDT3, dT_okT, dT_g, below_ix, okT_at, pick_50, eqP_self, lim_keys, lim_kids, len_idx, okD_set, okD_kind, okD_n, okD_s, okD_keys, okD_kids, okD_of, eN_eq, eta_node, Bool.and_self, f61v0, f61v1, f61v2, f61v3, f61v4, f61v5, f61v6, f61v7, f61v8, f61v9, f61v10, f61v11, f61v12, f61v13, f61v14, f61v15, f61v16, f61v17, f61v18, wKind, wN, wS, wKeys, wK, eta_node, eta_cur, eN_eq]
theorem f61J4_ok (a0 : CurT) (t : NodeT) (c : CurT) (wF : Nat) (wE : Nat) (wM : Bool) (hg : gCur c = true) (h0 : okT t = true) (h1 : okT (atI (t := .node) t.kids wF) = true) (h2 : okT (atI (t := .node) (NodeT.kids (atI (t := .node) t.kids wF)) wE) = true) : ∃ o : NodeT × CurT, (okD 3 o.1 = true ∧ gCur o.2 = true) ∧ ∀ {R : Type} (n : Nat) (k : List Dt → Option R), f61J4 n k a0 wF wE wM c.b c.i c.h t.kind t.n t.s t.keys t.kids = k [.d .node o.1, .d .cur o.2] := by
 cases e0 : (((curBelow c (14 : Int)).1) == (0 : Int))
 cases e1 : (((curBelow c (14 : Int)).1) == (1 : Int))
 cases e2 : (((curBelow c (14 : Int)).1) == (2 : Int))
 cases e3 : (((curBelow c (14 : Int)).1) == (3 : Int))
 cases e4 : (((curBelow c (14 : Int)).1) == (4 : Int))
 all_goals
  refine ⟨(?_, ?_), ?_, ?_⟩
  rotate_left 3
  ·intro R n k; simp (decide := true) (maxDischargeDepth := 60) only [f61J0, f61J1, f61J2, f61J3, f61J4, f61J5, f61J6, f61J7, f61J8, f61J9, *, curBelow_g, curOnce_g, curPick_g, curPickI_g, gPickS_of, gPickI_of, cond_true, cond_false, Bool.not_true, Bool.not_false, gDT3, dT_okT, dT_g, below_ix, okT_at, pick_50, eqP_self, lim_keys, lim_kids, len_idx, okD_set, okD_kind, okD_n, okD_s, okD_keys, okD_kids, okD_of, eN_eq, eta_node, Bool.and_self, f61v0, f61v1, f61v2, f61v3, f61v4, f61v5, f61v6, f61v7, f61v8, f61v9, f61v10, f61v11, f61v12, f61v13, f61v14, f61v15, f61v16, f61v17, f61v18, wKind, wN, wS, wKeys, wK, eta_node, eta_cur, eN_eq]; exact rfl
  simp (decide := true) (maxDischargeDepth := 60) only [*, curBelow_g, curOnce_g, curPick_g, curPickI_g, gPickS_of, gPickI_of, smStr_pick, okI_pickI, okI_wrap, okI_below, and_self, gDT3, dT_okT, dT_g, below_ix, okT_at, pick_50, eqP_self, lim_keys, lim_kids, len_idx, okD_set, okD_kind, okD_n, okD_s, okD_keys, okD_kids, okD_of, eN_eq, eta_node, Bool.and_self, f61v0, f61v1, f61v2, f61v3, f61v4, f61v5, f61v6, f61v7, f61v8, f61v9, f61v10, f61v11, f61v12, f61v13, f61v14, f61v15, f61v16, f61v17, f61v18, wKind, wN, wS, wKeys, wK, eta_node, eta_cur, eN_eq]
theorem f61J6_ok (a0 : CurT) (t : NodeT) (c : CurT) (wE : Nat) (wM : Bool) (hg : gCur c = true) (h0 : okT t = true) (h1 : okT (atI (t := .node) t.kids wE) = true) : ∃ o : NodeT × CurT, (okD 3 o.1 = true ∧ gCur o.2 = true) ∧ ∀ {R : Type} (n : Nat) (k : List Dt → Option R), f61J6 n k a0 wE wM c.b c.i c.h t.kind t.n t.s t.keys t.kids = k [.d .node o.1, .d .cur o.2] := by
 cases e0 : (((curBelow c (14 : Int)).1) == (0 : Int))
 cases e1 : (((curBelow c (14 : Int)).1) == (1 : Int))
 cases e2 : (((curBelow c (14 : Int)).1) == (2 : Int))
 cases e3 : (((curBelow c (14 : Int)).1) == (3 : Int))
 cases e4 : (((curBelow c (14 : Int)).1) == (4 : Int))
 all_goals
  refine ⟨(?_, ?_), ?_, ?_⟩
  rotate_left 3
  ·intro R n k; simp (decide := true) (maxDischargeDepth := 60) only [f61J0, f61J1, f61J2, f61J3, f61J4, f61J5, f61J6, f61J7, f61J8, f61J9, *, curBelow_g, curOnce_g, curPick_g, curPickI_g, gPickS_of, gPickI_of, cond_true, cond_false, Bool.not_true, Bool.not_false, gDT3, dT_okT, dT_g, below_ix, okT_at, pick_50, eqP_self, lim_keys, lim_kids, len_idx, okD_set, okD_kind, okD_n, okD_s, okD_keys, okD_kids, okD_of, eN_eq, eta_node, Bool.and_self, f61v0, f61v1, f61v2, f61v3, f61v4, f61v5, f61v6, f61v7, f61v8, f61v9, f61v10, f61v11, f61v12, f61v13, f61v14, f61v15, f61v16, f61v17, f61v18, wKind, wN, wS, wKeys, wK, eta_node, eta_cur, eN_eq]; exact rfl
  simp (decide := true) (maxDischargeDepth := 60) only [*, curBelow_g, curOnce_g, curPick_g, curPickI_g, gPickS_of, gPickI_of, smStr_pick, okI_pickI, okI_wrap, okI_below, and_self, gDT3, dT_okT, dT_g, below_ix, okT_at, pick_50, eqP_self, lim_keys, lim_kids, len_idx, okD_set, okD_kind, okD_n, okD_s, okD_keys, okD_kids, okD_of, eN_eq, eta_node, Bool.and_self, f61v0, f61v1, f61v2, f61v3, f61v4, f61v5, f61v6, f61v7, f61v8, f61v9, f61v10, f61v11, f61v12, f61v13, f61v14, f61v15, f61v16, f61v17, f61v18, wKind, wN, wS, wKeys, wK, eta_node, eta_cur, eN_eq]
theorem f61J8_ok (a0 : CurT) (t : NodeT) (c : CurT) (wM : Bool) (hg : gCur c = true) (h0 : okT t = true) : ∃ o : NodeT × CurT, (okD 3 o.1 = true ∧ gCur o.2 = true) ∧ ∀ {R : Type} (n : Nat) (k : List Dt → Option R), f61J8 n k a0 wM c.b c.i c.h t.kind t.n t.s t.keys t.kids = k [.d .node o.1, .d .cur o.2] := by
 cases e0 : (((curBelow c (14 : Int)).1) == (0 : Int))
 cases e1 : (((curBelow c (14 : Int)).1) == (1 : Int))
 cases e2 : (((curBelow c (14 : Int)).1) == (2 : Int))
 cases e3 : (((curBelow c (14 : Int)).1) == (3 : Int))
 cases e4 : (((curBelow c (14 : Int)).1) == (4 : Int))
 all_goals
  refine ⟨(?_, ?_), ?_, ?_⟩
  rotate_left 3
  ·intro R n k; simp (decide := true) (maxDischargeDepth := 60) only [f61J0, f61J1, f61J2, f61J3, f61J4, f61J5, f61J6, f61J7, f61J8, f61J9, *, curBelow_g, curOnce_g, curPick_g, curPickI_g, gPickS_of, gPickI_of, cond_true, cond_false, Bool.not_true, Bool.not_false, gDT3, dT_okT, dT_g, below_ix, okT_at, pick_50, eqP_self, lim_keys, lim_kids, len_idx, okD_set, okD_kind, okD_n, okD_s, okD_keys, okD_kids, okD_of, eN_eq, eta_node, Bool.and_self, f61v0, f61v1, f61v2, f61v3, f61v4, f61v5, f61v6, f61v7, f61v8, f61v9, f61v10, f61v11, f61v12, f61v13, f61v14, f61v15, f61v16, f61v17, f61v18, wKind, wN, wS, wKeys, wK, eta_node, eta_cur, eN_eq]; exact rfl
  simp (decide := true) (maxDischargeDepth := 60) only [*, curBelow_g, curOnce_g, curPick_g, curPickI_g, gPickS_of, gPickI_of, smStr_pick, okI_pickI, okI_wrap, okI_below, and_self, gDT3, dT_okT, dT_g, below_ix, okT_at, pick_50, eqP_self, lim_keys, lim_kids, len_idx, okD_set, okD_kind, okD_n, okD_s, okD_keys, okD_kids, okD_of, eN_eq, eta_node, Bool.and_self, f61v0, f61v1, f61v2, f61v3, f61v4, f61v5, f61v6, f61v7, f61v8, f61v9, f61v10, f61v11, f61v12, f61v13, f61v14, f61v15, f61v16, f61v17, f61v18, wKind, wN, wS, wKeys, wK, eta_node, eta_cur, eN_eq]
def f61_P (a0 : CurT) (o : NodeT × CurT) : Prop := (fun _ o => okD 3 o.1 = true ∧ gCur o.2 = true) a0 o ∧ ∃ n : Nat, ∀ {R : Type} (k : List Dt → Option R), evFn f61e f61k n f61c [.pmut] [false] true [.cell 2 31] [31] [.d .cur a0] k = k [.d .node o.1, .d .cur o.2]
theorem f61_ex (a0 : CurT) (hg : gCur a0 = true) : ∃ o : NodeT × CurT, (fun _ o => okD 3 o.1 = true ∧ gCur o.2 = true) a0 o ∧ ∃ n : Nat, ∀ {R : Type} (k : List Dt → Option R), evFn f61e f61k n f61c [.pmut] [false] true [.cell 2 31] [31] [.d .cur a0] k = k [.d .node o.1, .d .cur o.2] := by
 have t0 := dT_okT hg
 have g0 : (gDT a0 (3 : Int)) = true := gDT3 hg
 cases e0 : (decide (((NodeT.kids ((f61w0 a0).1)).length : Int) > (0 : Int)))
 rotate_left
 have g1 : ((fun c _ => gCur c) ((f61w0 a0).2) (2 : Int)) = true := by first | exact dT_g hg | exact curOnce_g _ _ hg | exact curBelow_g _ _ hg
 cases e1 : (!((f61w1 a0).1))
 rotate_left
 have g2 : ((fun c _ => gCur c) ((f61w1 a0).2) ((NodeT.kids ((f61w0 a0).1)).length : Int)) = true := by first | exact dT_g hg | exact curOnce_g _ _ g1 | exact curBelow_g _ _ g1
 have g3 : ((decide ((0 : Int) ≤ ((f61w2 a0).1))) && (decide (((f61w2 a0).1) < ((NodeT.kids ((f61w0 a0).1)).length : Int)))) = true := below_ix g2 e0
 have t1 := okT_at t0 g2 e0
 cases e2 : (decide (((NodeT.kids (f61w3 a0)).length : Int) > (0 : Int)))
 rotate_left
 have g4 : ((fun c _ => gCur c) ((f61w2 a0).2) (2 : Int)) = true := by first | exact dT_g hg | exact curOnce_g _ _ g2 | exact curBelow_g _ _ g2
 cases e3 : (!((f61w4 a0).1))
 rotate_left
 have g5 : ((fun c _ => gCur c) ((f61w4 a0).2) ((NodeT.kids (f61w3 a0)).length : Int)) = true := by first | exact dT_g hg | exact curOnce_g _ _ g4 | exact curBelow_g _ _ g4
 have g6 : ((decide ((0 : Int) ≤ ((f61w5 a0).1))) && (decide (((f61w5 a0).1) < ((NodeT.kids (f61w3 a0)).length : Int)))) = true := below_ix g5 e2
 have t2 := okT_at t1 g5 e2
 cases e4 : (decide (((NodeT.kids (f61w7 a0)).length : Int) > (0 : Int)))
 rotate_left
 have g7 : ((fun c _ => gCur c) ((f61w5 a0).2) (2 : Int)) = true := by first | exact dT_g hg | exact curOnce_g _ _ g5 | exact curBelow_g _ _ g5
 cases e5 : (!((f61w6 a0).1))
 rotate_left
 have g8 : ((fun c _ => gCur c) ((f61w6 a0).2) ((NodeT.kids (f61w7 a0)).length : Int)) = true := by first | exact dT_g hg | exact curOnce_g _ _ g7 | exact curBelow_g _ _ g7
 have g9 : ((decide ((0 : Int) ≤ ((f61w8 a0).1))) && (decide (((f61w8 a0).1) < ((NodeT.kids (f61w7 a0)).length : Int)))) = true := below_ix g8 e4
 have t3 := okT_at t2 g8 e4
 ·refine Exists.elim (f61J0_ok a0 ((f61w0 a0).1) ((f61w8 a0).2) (Int.toNat ((f61w2 a0).1)) (Int.toNat ((f61w5 a0).1)) (Int.toNat ((f61w8 a0).1)) false (by first | exact dT_g hg | exact curOnce_g _ _ g8 | exact curBelow_g _ _ g8) t0 t1 t2 t3) fun o ho => ⟨o, ho.1, 0 + 4, fun {R} k => ?_⟩
  rw [f61_run]
  simp only [hg, e0, e1, e2, e3, e4, e5, g0, g1, g2, g3, g4, g5, g6, g7, g8, g9, cond_true, cond_false]
  exact ho.2 _ k
 ·refine Exists.elim (f61J8_ok a0 ((f61w0 a0).1) ((f61w0 a0).2) false (by first | exact dT_g hg | exact curOnce_g _ _ hg | exact curBelow_g _ _ hg) t0) fun o ho => ⟨o, ho.1, 0 + 4, fun {R} k => ?_⟩
  rw [f61_run]
  simp only [hg, e0, g0, cond_true, cond_false]
  exact ho.2 _ k
 ·refine Exists.elim (f61J8_ok a0 ((f61w0 a0).1) ((f61w1 a0).2) (!((f61w1 a0).1)) (by first | exact dT_g hg | exact curOnce_g _ _ g1 | exact curBelow_g _ _ g1) t0) fun o ho => ⟨o, ho.1, 0 + 4, fun {R} k => ?_⟩
  rw [f61_run]
  simp only [hg, e0, e1, g0, g1, cond_true, cond_false]
  exact ho.2 _ k
 ·refine Exists.elim (f61J6_ok a0 ((f61w0 a0).1) ((f61w2 a0).2) (Int.toNat ((f61w2 a0).1)) false (by first | exact dT_g hg | exact curOnce_g _ _ g2 | exact curBelow_g _ _ g2) t0 t1) fun o ho => ⟨o, ho.1, 0 + 4, fun {R} k => ?_⟩
  rw [f61_run]
  simp only [hg, e0, e1, e2, g0, g1, g2, g3, cond_true, cond_false]
  exact ho.2 _ k
 ·refine Exists.elim (f61J6_ok a0 ((f61w0 a0).1) ((f61w4 a0).2) (Int.toNat ((f61w2 a0).1)) (!((f61w4 a0).1)) (by first | exact dT_g hg | exact curOnce_g _ _ g4 | exact curBelow_g _ _ g4) t0 t1) fun o ho => ⟨o, ho.1, 0 + 4, fun {R} k => ?_⟩
  rw [f61_run]
  simp only [hg, e0, e1, e2, e3, g0, g1, g2, g3, g4, cond_true, cond_false]
  exact ho.2 _ k
 ·refine Exists.elim (f61J4_ok a0 ((f61w0 a0).1) ((f61w5 a0).2) (Int.toNat ((f61w2 a0).1)) (Int.toNat ((f61w5 a0).1)) false (by first | exact dT_g hg | exact curOnce_g _ _ g5 | exact curBelow_g _ _ g5) t0 t1 t2) fun o ho => ⟨o, ho.1, 0 + 4, fun {R} k => ?_⟩
  rw [f61_run]
  simp only [hg, e0, e1, e2, e3, e4, g0, g1, g2, g3, g4, g5, g6, cond_true, cond_false]
  exact ho.2 _ k
 ·refine Exists.elim (f61J4_ok a0 ((f61w0 a0).1) ((f61w6 a0).2) (Int.toNat ((f61w2 a0).1)) (Int.toNat ((f61w5 a0).1)) (!((f61w6 a0).1)) (by first | exact dT_g hg | exact curOnce_g _ _ g7 | exact curBelow_g _ _ g7) t0 t1 t2) fun o ho => ⟨o, ho.1, 0 + 4, fun {R} k => ?_⟩
  rw [f61_run]
  simp only [hg, e0, e1, e2, e3, e4, e5, g0, g1, g2, g3, g4, g5, g6, g7, cond_true, cond_false]
  exact ho.2 _ k
theorem f61_ne (a0 : CurT) : Nonempty {o : NodeT × CurT // gCur a0 = true → f61_P a0 o} := by
 by_cases hg : gCur a0 = true
 ·obtain ⟨o, ho⟩ := f61_ex a0 hg
  exact ⟨⟨o, fun _ => ho⟩⟩
 ·exact ⟨⟨((zero .node), (zero .cur)), fun h => absurd h hg⟩⟩
noncomputable def tDraw (a0 : CurT) : NodeT × CurT := (Classical.choice (f61_ne a0)).val
theorem f61_sp (a0 : CurT) (hg : gCur a0 = true) : f61_P a0 (tDraw a0) := (Classical.choice (f61_ne a0)).property hg
theorem tDraw_ok (a0 : CurT) (hg : gCur a0 = true) : (fun _ o => okD 3 o.1 = true ∧ gCur o.2 = true) a0 (tDraw a0) := (f61_sp a0 hg).1
theorem f61_spec (a0 : CurT) (hg : gCur a0 = true) : ∃ keep rounds, ∀ {R : Type} (k : List Dt → Option R), evFn f61e keep rounds f61c [.pmut] [false] true [.cell 2 31] [31] [.d .cur a0] k = k [.d .node ((tDraw a0).1), .d .cur ((tDraw a0).2)] := by
 obtain ⟨n, hn⟩ := (f61_sp a0 hg).2
 exact ⟨f61k, n, hn⟩
noncomputable def q61 : List Dt → Option (Bool × List Dt)
 | [.d .cur a0] => some ((gCur a0), [.d .node ((tDraw a0).1), .d .cur ((tDraw a0).2)])
 | _ => none
noncomputable def s61 : Gm.Spec := Gm.Spec.of [.pmut] [false] true q61
theorem good61 : Gm.Good Try.prog (61, s61) := by
 have hl : ∀ x ∈ [(63, s63), (79, s79), (80, s80), (81, s81), (82, s82)], Gm.Good Try.prog x := fcJ.2 ⟨good63, fcJ.2 ⟨good79, fcJ.2 ⟨good80, fcJ.2 ⟨good81, fcJ.2 ⟨good82, fcN⟩⟩⟩⟩⟩
 refine ⟨⟨spec_ok (tab_ok.env hl) (tab.natl hl) Try.func61 (by kernel_rfl : Try.f61.body = some f61c) [31] (by kernel_rfl) ?_, _, Try.func61, by kernel_rfl, of_decide_eq_true (by kernel_rfl)⟩, Gm.Spec.of_natl _ _ _ _⟩
 intro ds outs h
 unfold q61 at h
 split at h
 ·simp only [Option.some.injEq, Prod.mk.injEq] at h; obtain ⟨hg, h⟩ := h; cases h; exact f61_spec _ hg
 ·cases h
noncomputable def q9 : List Dt → Option (Bool × List Dt)
 | [.d .node a0] => some ((gPt a0), [.d (.sl (.sl .str)) (allPtrs a0)])
 | _ => none
noncomputable def mu9 : List Dt → Nat
 | [.d .node a0] => nd_node a0
 | _ => 0
noncomputable def s9r (N : Nat) : Gm.Spec := Gm.Spec.of [.ro] [false] true (qlt mu9 N q9)
noncomputable def f9S0 (y0 : Int) (y1 : BA) (y2 : Int) (y3 : Int) (y4 : Int) (y5 : BA) (y6 : List BA) (y7 : List NodeT) (y8 : List (List BA)) (y9 : List (List BA)) : St := ⟨[(1, .c (.one (.pt 1 0))), (3, .c (.one (.h 576 0 0 []))), (4, .c (.one (.v (.int .i64 y0)))), (5, .c (.one (.v (.string y1)))), (6, .c (.one (.h 2496 0 0 []))), (7, .c (.one (.v (.int .i64 y2))))], [(1, ⟨.node, [.v (.int .i64 y3), .v (.int .i64 y4), .v (.string y5), .ro .str y6, .ro .node y7]⟩)], [(576, .live ⟨(.sl .str), .deep, 0, [], y8⟩), (2496, .live ⟨(.sl .str), .deep, 0, [], y9⟩)]⟩
noncomputable def f9S1 (y0 : Int) (y1 : BA) (y2 : Int) (y3 : Bool) (y4 : Int) (y5 : Int) (y6 : BA) (y7 : List BA) (y8 : List NodeT) (y9 : List (List BA)) (y10 : List (List BA)) : St := ⟨[(1, .c (.one (.pt 1 0))), (3, .c (.one (.h 576 0 0 []))), (4, .c (.one (.v (.int .i64 y0)))), (5, .c (.one (.v (.string y1)))), (6, .c (.one (.h 2496 0 0 []))), (7, .c (.one (.v (.int .i64 y2)))), (43, .c (.one (.v (.bool y3))))], [(1, ⟨.node, [.v (.int .i64 y4), .v (.int .i64 y5), .v (.string y6), .ro .str y7, .ro .node y8]⟩)], [(576, .live ⟨(.sl .str), .deep, 0, [], y9⟩), (2496, .live ⟨(.sl .str), .deep, 0, [], y10⟩)]⟩
noncomputable def f9S2 (y0 : Int) (y1 : Int) (y2 : Int) (y3 : BA) (y4 : List BA) (y5 : List NodeT) (y6 : List (List BA)) : St := ⟨[(1, .c (.one (.pt 1 0))), (3, .c (.one (.h 576 0 0 []))), (4, .c (.one (.v (.int .i64 y0))))], [(1, ⟨.node, [.v (.int .i64 y1), .v (.int .i64 y2), .v (.string y3), .ro .str y4, .ro .node y5]⟩)], [(576, .live ⟨(.sl .str), .deep, 0, [], y6⟩)]⟩
noncomputable def f9S3 (y0 : Int) (y1 : Bool) (y2 : Int) (y3 : Int) (y4 : BA) (y5 : List BA) (y6 : List NodeT) (y7 : List (List BA)) : St := ⟨[(1, .c (.one (.pt 1 0))), (3, .c (.one (.h 576 0 0 []))), (4, .c (.one (.v (.int .i64 y0)))), (14, .c (.one (.v (.bool y1))))], [(1, ⟨.node, [.v (.int .i64 y2), .v (.int .i64 y3), .v (.string y4), .ro .str y5, .ro .node y6]⟩)], [(576, .live ⟨(.sl .str), .deep, 0, [], y7⟩)]⟩
noncomputable def f9c : Code := (Try.f9.body).getD .skip
def f9k : Nat → Kp := kat [⟨[1], [], [], []⟩, ⟨[1, 3], [], [], []⟩, ⟨[1, 3, 4], [], [], []⟩, ⟨[1, 3, 4, 14], [], [], []⟩, ⟨[1, 3, 4], [], [], []⟩, ⟨[1, 3, 4, 5], [], [], []⟩, ⟨[1, 3, 4, 5, 28], [], [], []⟩, ⟨[1, 3, 4, 5], [], [], []⟩, ⟨[1, 3, 4, 5, 6], [], [], []⟩, ⟨[1, 3, 4, 5, 6, 7], [], [], []⟩, ⟨[1, 3, 4, 5, 6, 7, 43], [], [], []⟩, ⟨[1, 3, 4, 5, 6, 7], [], [], []⟩, ⟨[1, 3, 4, 5, 6, 7], [], [], []⟩, ⟨[2], [], [], []⟩]
noncomputable def f9e (N : Nat) : Env := tab.env [(9, s9r N), (37, s37)]
noncomputable def f9L0 {R : Type} (N : Nat) (n : Nat) (x0 : Int → Bool → (List (List BA)) → Option R) (wB : Int) (wS : BA) (wE : Int) (wF : Int) (wG : BA) (wD : List BA) (wA : List NodeT) (wP : List (List BA)) : Nat → Int → (List (List BA)) → Option R
  | 0, _, _ => none
  | m + 1, wN, wJ =>
    (cond (decide (wN < (wP.length : Int)))
   (cond ((decide ((0 : Int) ≤ wN)) && (decide (wN < (wP.length : Int))))
    (cond (Nat.ble (1 + (atI (t := (.sl .str)) wP (Int.toNat wN)).length) LIM)
     (cond (Nat.ble (wJ.length + 1) LIM)
      (f9L0 N n x0 wB wS wE wF wG wD wA wP m (IntKind.wrap .i64 (wN + (1 : Int))) (wJ ++ ([(([wS] : List BA) ++ (atI (t := (.sl .str)) wP (Int.toNat wN)))] : List (List BA))))
      none)
     none)
    none)
   (x0 wN (decide (wN < (wP.length : Int))) wJ))
theorem f9L0_b {R : Type} (N : Nat) (n : Nat) (k' : Ex → St → Option R) (wB : Int) (wS : BA) (wN : Int) (wE : Int) (wF : Int) (wG : BA) (wD : List BA) (wA : List NodeT) (wJ : List (List BA)) (wP : List (List BA)) : ev (f9e N) f9k n (cAt [1,1,0,1,0,0,1,0,0,1,1,1,1,0,0] f9c) (f9S0 wB wS wN wE wF wG wD wA wJ wP) k' =
 (cond (decide (wN < (wP.length : Int)))
 (cond ((decide ((0 : Int) ≤ wN)) && (decide (wN < (wP.length : Int))))
 (cond (Nat.ble (1 + (atI (t := (.sl .str)) wP (Int.toNat wN)).length) LIM)
 (cond (Nat.ble (wJ.length + 1) LIM)
 (k' .normal (f9S0 wB wS (IntKind.wrap .i64 (wN + (1 : Int))) wE wF wG wD wA (wJ ++ ([(([wS] : List BA) ++ (atI (t := (.sl .str)) wP (Int.toNat wN)))] : List (List BA))) wP))
 none)
 none)
 none)
 (k' (.exit 2) (f9S1 wB wS wN (decide (wN < (wP.length : Int))) wE wF wG wD wA wJ wP))) := by kernel_rfl
theorem f9L0_eq {R : Type} (N : Nat) (n : Nat) (k' : Ex → St → Option R) (wB : Int) (wS : BA) (wE : Int) (wF : Int) (wG : BA) (wD : List BA) (wA : List NodeT) (wP : List (List BA)) : ∀ (m : Nat) (wN : Int) (wJ : List (List BA)), iter (fun st k => ev (f9e N) f9k n (cAt [1,1,0,1,0,0,1,0,0,1,1,1,1,0,0] f9c) st k) m (f9S0 wB wS wN wE wF wG wD wA wJ wP) k' = f9L0 N n (fun (wU : Int) (wV : Bool) (wL : List (List BA)) => k' (.exit 2) (f9S1 wB wS wU wV wE wF wG wD wA wL wP)) wB wS wE wF wG wD wA wP m wN wJ := by
 intro m; induction m with
 | zero => intros; rfl
 | succ m ih =>
  intro wN wJ
  simp only [iter]
  rw [f9L0_b]
  simp only [ih, f9L0]
noncomputable def f9K0 {R : Type} (N : Nat) (n : Nat) (k' : Ex → St → Option R) : Ex → St → Option R := (blockK 2 (blockK 1 (seqK (f9e N) f9k n (cAt [1,1,0,1,0,0,1,1] f9c) k')))
theorem f9K0_x0 {R : Type} (N : Nat) (n : Nat) (k' : Ex → St → Option R) (wB : Int) (wS : BA) (wE : Int) (wF : Int) (wG : BA) (wD : List BA) (wA : List NodeT) (wP : List (List BA)) (wU : Int) (wV : Bool) (wL : List (List BA)) : f9K0 N n k' (.exit 2) (f9S1 wB wS wU wV wE wF wG wD wA wL wP) =
 (k' .normal (f9S2 (IntKind.wrap .i64 (wB + (1 : Int))) wE wF wG wD wA wL)) := by kernel_rfl
noncomputable def f9L1 {R : Type} (N : Nat) (n : Nat) (x0 : Int → Bool → (List (List BA)) → Option R) (wE : Int) (wF : Int) (wG : BA) (wD : List BA) (wA : List NodeT) : Nat → Int → (List (List BA)) → Option R
  | 0, _, _ => none
  | m + 1, wB, wJ =>
    (cond (decide (wB < (wA.length : Int)))
   (cond (okI wB)
    (cond (wE == (5 : Int))
     (cond (decide (wB < (wD.length : Int)))
      (cond ((decide ((0 : Int) ≤ wB)) && (decide (wB < (wD.length : Int))))
       (cond ((decide ((0 : Int) ≤ wB)) && (decide (wB < (wA.length : Int))))
        (cond ((gPt (eN (atI (t := .node) wA (Int.toNat wB)))) && (Nat.blt (nd_node (eN (atI (t := .node) wA (Int.toNat wB)))) N))
         (f9L0 N n (fun (wU : Int) (wV : Bool) (wL : List (List BA)) =>
          (f9L1 N n x0 wE wF wG wD wA m (IntKind.wrap .i64 (wB + (1 : Int))) wL)) wB (atI (t := .str) wD (Int.toNat wB)) wE wF wG wD wA (allPtrs (eN (atI (t := .node) wA (Int.toNat wB)))) n (0 : Int) wJ)
         none)
        none)
       none)
      (cond ((decide ((0 : Int) ≤ wB)) && (decide (wB < (wA.length : Int))))
       (cond ((gPt (eN (atI (t := .node) wA (Int.toNat wB)))) && (Nat.blt (nd_node (eN (atI (t := .node) wA (Int.toNat wB)))) N))
        (f9L0 N n (fun (wU : Int) (wV : Bool) (wL : List (List BA)) =>
         (f9L1 N n x0 wE wF wG wD wA m (IntKind.wrap .i64 (wB + (1 : Int))) wL)) wB (digS wB) wE wF wG wD wA (allPtrs (eN (atI (t := .node) wA (Int.toNat wB)))) n (0 : Int) wJ)
        none)
       none))
     (cond ((decide ((0 : Int) ≤ wB)) && (decide (wB < (wA.length : Int))))
      (cond ((gPt (eN (atI (t := .node) wA (Int.toNat wB)))) && (Nat.blt (nd_node (eN (atI (t := .node) wA (Int.toNat wB)))) N))
       (f9L0 N n (fun (wU : Int) (wV : Bool) (wL : List (List BA)) =>
        (f9L1 N n x0 wE wF wG wD wA m (IntKind.wrap .i64 (wB + (1 : Int))) wL)) wB (digS wB) wE wF wG wD wA (allPtrs (eN (atI (t := .node) wA (Int.toNat wB)))) n (0 : Int) wJ)
       none)
      none))
    none)
   (x0 wB (decide (wB < (wA.length : Int))) wJ))
theorem f9L1_b {R : Type} (N : Nat) (n : Nat) (k' : Ex → St → Option R) (wB : Int) (wE : Int) (wF : Int) (wG : BA) (wD : List BA) (wA : List NodeT) (wJ : List (List BA)) : ev (f9e N) f9k n (cAt [1,1,0,1,0,0] f9c) (f9S2 wB wE wF wG wD wA wJ) k' =
 (cond (decide (wB < (wA.length : Int)))
 (cond (okI wB)
 (cond (wE == (5 : Int))
 (cond (decide (wB < (wD.length : Int)))
 (cond ((decide ((0 : Int) ≤ wB)) && (decide (wB < (wD.length : Int))))
 (cond ((decide ((0 : Int) ≤ wB)) && (decide (wB < (wA.length : Int))))
 (cond ((gPt (eN (atI (t := .node) wA (Int.toNat wB)))) && (Nat.blt (nd_node (eN (atI (t := .node) wA (Int.toNat wB)))) N))
 (f9L0 N n (fun (wU : Int) (wV : Bool) (wL : List (List BA)) =>
 (k' .normal (f9S2 (IntKind.wrap .i64 (wB + (1 : Int))) wE wF wG wD wA wL))) wB (atI (t := .str) wD (Int.toNat wB)) wE wF wG wD wA (allPtrs (eN (atI (t := .node) wA (Int.toNat wB)))) n (0 : Int) wJ)
 none)
 none)
 none)
 (cond ((decide ((0 : Int) ≤ wB)) && (decide (wB < (wA.length : Int))))
 (cond ((gPt (eN (atI (t := .node) wA (Int.toNat wB)))) && (Nat.blt (nd_node (eN (atI (t := .node) wA (Int.toNat wB)))) N))
 (f9L0 N n (fun (wU : Int) (wV : Bool) (wL : List (List BA)) =>
 (k' .normal (f9S2 (IntKind.wrap .i64 (wB + (1 : Int))) wE wF wG wD wA wL))) wB (digS wB) wE wF wG wD wA (allPtrs (eN (atI (t := .node) wA (Int.toNat wB)))) n (0 : Int) wJ)
 none)
 none))
 (cond ((decide ((0 : Int) ≤ wB)) && (decide (wB < (wA.length : Int))))
 (cond ((gPt (eN (atI (t := .node) wA (Int.toNat wB)))) && (Nat.blt (nd_node (eN (atI (t := .node) wA (Int.toNat wB)))) N))
 (f9L0 N n (fun (wU : Int) (wV : Bool) (wL : List (List BA)) =>
 (k' .normal (f9S2 (IntKind.wrap .i64 (wB + (1 : Int))) wE wF wG wD wA wL))) wB (digS wB) wE wF wG wD wA (allPtrs (eN (atI (t := .node) wA (Int.toNat wB)))) n (0 : Int) wJ)
 none)
 none))
 none)
 (k' (.exit 0) (f9S3 wB (decide (wB < (wA.length : Int))) wE wF wG wD wA wJ))) := by
  refine Eq.trans (b := (cond (decide (wB < (wA.length : Int)))
  (cond (okI wB)
   (cond (wE == (5 : Int))
    (cond (decide (wB < (wD.length : Int)))
     (cond ((decide ((0 : Int) ≤ wB)) && (decide (wB < (wD.length : Int))))
      (cond ((decide ((0 : Int) ≤ wB)) && (decide (wB < (wA.length : Int))))
       (cond ((gPt (eN (atI (t := .node) wA (Int.toNat wB)))) && (Nat.blt (nd_node (eN (atI (t := .node) wA (Int.toNat wB)))) N))
        (iter (fun st k => ev (f9e N) f9k n (cAt [1,1,0,1,0,0,1,0,0,1,1,1,1,0,0] f9c) st k) n (f9S0 wB (atI (t := .str) wD (Int.toNat wB)) (0 : Int) wE wF wG wD wA wJ (allPtrs (eN (atI (t := .node) wA (Int.toNat wB))))) (f9K0 N n k'))
        none)
       none)
      none)
     (cond ((decide ((0 : Int) ≤ wB)) && (decide (wB < (wA.length : Int))))
      (cond ((gPt (eN (atI (t := .node) wA (Int.toNat wB)))) && (Nat.blt (nd_node (eN (atI (t := .node) wA (Int.toNat wB)))) N))
       (iter (fun st k => ev (f9e N) f9k n (cAt [1,1,0,1,0,0,1,0,0,1,1,1,1,0,0] f9c) st k) n (f9S0 wB (digS wB) (0 : Int) wE wF wG wD wA wJ (allPtrs (eN (atI (t := .node) wA (Int.toNat wB))))) (f9K0 N n k'))
       none)
      none))
    (cond ((decide ((0 : Int) ≤ wB)) && (decide (wB < (wA.length : Int))))
     (cond ((gPt (eN (atI (t := .node) wA (Int.toNat wB)))) && (Nat.blt (nd_node (eN (atI (t := .node) wA (Int.toNat wB)))) N))
      (iter (fun st k => ev (f9e N) f9k n (cAt [1,1,0,1,0,0,1,0,0,1,1,1,1,0,0] f9c) st k) n (f9S0 wB (digS wB) (0 : Int) wE wF wG wD wA wJ (allPtrs (eN (atI (t := .node) wA (Int.toNat wB))))) (f9K0 N n k'))
      none)
     none))
   none)
  (k' (.exit 0) (f9S3 wB (decide (wB < (wA.length : Int))) wE wF wG wD wA wJ)))) (by kernel_rfl) ?_
  simp only [f9L0_eq, f9K0_x0]
theorem f9L1_eq {R : Type} (N : Nat) (n : Nat) (k' : Ex → St → Option R) (wE : Int) (wF : Int) (wG : BA) (wD : List BA) (wA : List NodeT) : ∀ (m : Nat) (wB : Int) (wJ : List (List BA)), iter (fun st k => ev (f9e N) f9k n (cAt [1,1,0,1,0,0] f9c) st k) m (f9S2 wB wE wF wG wD wA wJ) k' = f9L1 N n (fun (wZ : Int) (wW : Bool) (wL : List (List BA)) => k' (.exit 0) (f9S3 wZ wW wE wF wG wD wA wL)) wE wF wG wD wA m wB wJ := by
 intro m; induction m with
 | zero => intros; rfl
 | succ m ih =>
  intro wB wJ
  simp only [iter]
  rw [f9L1_b]
  simp only [ih, f9L1]
noncomputable def f9K1 {R : Type} (N : Nat) (n : Nat) (k' : Ex → St → Option R) : Ex → St → Option R := (blockK 0 (seqK (f9e N) f9k n (cAt [1,1,1] f9c) k'))
theorem f9K1_x0 {R : Type} (N : Nat) (n : Nat) (k : List Dt → Option R) (a0 : NodeT) (wE : Int) (wF : Int) (wG : BA) (wD : List BA) (wA : List NodeT) (wZ : Int) (wW : Bool) (wL : List (List BA)) : f9K1 N n (exitK (f9e N) [.ro] [false] true [.tmp 2] [27] [.d .node a0] k) (.exit 0) (f9S3 wZ wW wE wF wG wD wA wL) =
 (k [.d (.sl (.sl .str)) wL]) := by kernel_rfl
theorem f9_run {R : Type} (N : Nat) (n : Nat) (k : List Dt → Option R) (a0 : NodeT) : evFn (f9e N) f9k n f9c [.ro] [false] true [.tmp 2] [27] [.d .node a0] k =
 (f9L1 N n (fun (wZ : Int) (wW : Bool) (wL : List (List BA)) =>
 (k [.d (.sl (.sl .str)) wL])) (NodeT.kind a0) (NodeT.n a0) (NodeT.s a0) (NodeT.keys a0) (NodeT.kids a0) n (0 : Int) [([] : List BA)]) := by
 refine Eq.trans (b := (iter (fun st k => ev (f9e N) f9k n (cAt [1,1,0,1,0,0] f9c) st k) n (f9S2 (0 : Int) (NodeT.kind a0) (NodeT.n a0) (NodeT.s a0) (NodeT.keys a0) (NodeT.kids a0) ([([] : List BA)] : List (List BA))) (f9K1 N n (exitK (f9e N) [.ro] [false] true [.tmp 2] [27] [.d .node a0] k)))) (by kernel_rfl) ?_
 simp only [f9L1_eq, f9K1_x0]
theorem f9_spec (N : Nat) (a0 : NodeT) (hg : gPt a0 = true) (hm : mu9 [.d .node a0] = N) : ∃ keep rounds, ∀ {R : Type} (k : List Dt → Option R), evFn (f9e N) keep rounds f9c [.ro] [false] true [.tmp 2] [27] [.d .node a0] k = k [.d (.sl (.sl .str)) (allPtrs a0)] := by
 have hm : nd_node a0 = N := hm
 subst hm
 have hg0 := hg
 simp only [gPt, Bool.and_eq_true] at hg
 obtain ⟨hg, hnd⟩ := hg
 have hnd := bleN hnd
 rw [sm_node_def] at hg
 simp only [Bool.and_eq_true] at hg
 obtain ⟨_, _, _, hke, hki⟩ := hg
 have nke := smL_len hke
 have nki := smL_len hki
 have hkl : a0.kids.length + 1 ≤ nd_node a0 := by
  rw [nd_node_def]
  have : ∀ l : List NodeT, l.length ≤ ndL nd_node l := fun l => by
   induction l with
   | nil => exact Nat.zero_le _
   | cons y r ih =>
    have e1 : ndL nd_node (y :: r) = nd_node y + ndL nd_node r := by simp [ndL]
    have := nd_node_def y
    rw [List.length_cons]; omega
  have := this a0.kids
  omega
 refine ⟨f9k, nd_node a0 + 1, fun {R} k => ?_⟩
 rw [f9_run]
 show _ = k [.d (.sl (.sl .str)) (allPtrs a0)]
 have hlen := allPtrs_len a0
 rw [allPtrs_def, List.length_cons] at hlen
 have inner : ∀ (x : NodeT) (j : Nat) (part : BA) (out : List (List BA)) (fin : Int → Bool → List (List BA) → Option R), x ∈ a0.kids → out.length + (allPtrs x).length ≤ nd_node a0 →
   f9L0 (nd_node a0) (nd_node a0 + 1) fin (j : Int) part a0.kind a0.n a0.s a0.keys a0.kids (allPtrs x) (nd_node a0 + 1) (0 : Int) out = fin ((allPtrs x).length : Int) false (out ++ (allPtrs x).map fun p => part :: p) := by
  intro x j part out fin hx hB
  have hxl := nd_node_kid hx
  have hxn := allPtrs_len x
  refine Eq.trans (loop_acc (xs := allPtrs x) (F := fun m j' out => f9L0 (nd_node a0) (nd_node a0 + 1) fin (j : Int) part a0.kind a0.n a0.s a0.keys a0.kids (allPtrs x) m (j' : Int) out) (f := fun out p => out ++ [part :: p]) (good := fun out => fin ((allPtrs x).length : Int) false out) (fun j' o => o.length ≤ out.length + j')
   (fun j' o p hp hi => by simp only [List.length_append, List.length_cons, List.length_nil]; omega) (fun m j' o p hp hi => ?_) (fun m o hi => by simp only [f9L0, idxE, cond_false]) (allPtrs x).length 0 (nd_node a0 + 1) out (by omega) (by omega) (by omega)) ?_
  ·obtain ⟨h1, h0, hw, ht⟩ := idx (lt_of_get hp) (by omega)
   have hj := lt_of_get hp
   have hway := allPtrs_way x p (List.mem_of_getElem? hp)
   have hlim : Nat.ble (o.length + 1) LIM = true := Nat.ble_eq_true_of_le (by have : (LIM : Nat) = 4294967296 := rfl; omega)
   have hlim2 : Nat.ble (1 + p.length) LIM = true := Nat.ble_eq_true_of_le (by have : (LIM : Nat) = 4294967296 := rfl; omega)
   simp only [f9L0, h1, h0, hw, ht, atI_of (t := .sl .str) hp, Bool.and_self, cond_true, hlim, hlim2]
   rfl
  ·rw [List.drop_zero]
   congr 1
   have : ∀ (l : List (List BA)) (o : List (List BA)), l.foldl (fun out p => out ++ [part :: p]) o = o ++ l.map fun p => part :: p := by
    intro l
    induction l with
    | nil => intro o; simp
    | cons y r ih => intro o; rw [List.foldl_cons, ih]; simp
   exact this _ _
 refine Eq.trans (loop_ptr (kids := a0.kids) (kind := a0.kind) (keys := a0.keys) (B := nd_node a0) (F := fun m j out => f9L1 (nd_node a0) (nd_node a0 + 1) _ a0.kind a0.n a0.s a0.keys a0.kids m (j : Int) out) (good := fun out => k [.d (.sl (.sl .str)) out])
  (fun m j out x hx hB => ?_) (fun m out => by simp only [f9L1, idxE, cond_false]) a0.kids.length 0 (nd_node a0 + 1) [[]] (by omega) (by omega) (by rw [List.drop_zero, List.length_cons, List.length_nil]; omega)) ?_
 ·obtain ⟨h1, h0, hw, ht⟩ := idx (lt_of_get hx) (by omega)
  have hj := lt_of_get hx
  have hxm := List.mem_of_getElem? hx
  have hb : Nat.blt (nd_node x) (nd_node a0) = true := by
   have := nd_node_kid (x := a0) hxm
   rw [Nat.blt_eq]; exact this
  have hgx := gPt_kid hg0 hxm
  have hoj : okI (j : Int) = true := okI_of (by omega) (by omega)
  simp only [f9L1, h1, h0, hw, ht, hoj, atI_of (t := .node) hx, Bool.and_self, cond_true, eta_node, eN_eq, hgx, hb]
  unfold wayAt
  cases a0.kind == (5 : Int)
  ·simp only [cond_false]; exact inner x j _ out _ hxm hB
  by_cases hl : (j : Int) < (a0.keys.length : Int)
  ·simp only [decide_eq_true hl, Bool.and_self, cond_true]; exact inner x j _ out _ hxm hB
  ·simp only [decide_eq_false hl, cond_true, cond_false]; exact inner x j _ out _ hxm hB
 ·rw [List.drop_zero, allPtrs_def]; rfl
noncomputable def s9 : Gm.Spec := Gm.Spec.of [.ro] [false] true q9
theorem good9 : Gm.Good Try.prog (9, s9) := by
 refine ⟨⟨spec_rec mu9 fun N hr => ?_, _, Try.func9, by kernel_rfl, of_decide_eq_true (by kernel_rfl)⟩, Gm.Spec.of_natl _ _ _ _⟩
 have hl : ∀ x ∈ [(9, s9r N), (37, s37)], Gm.Good Try.prog x := fcJ.2 ⟨⟨⟨hr, _, Try.func9, by kernel_rfl, of_decide_eq_true (by kernel_rfl)⟩, Gm.Spec.of_natl _ _ _ _⟩, fcJ.2 ⟨good37, fcN⟩⟩
 intro R
 refine spec_ok (E := f9e N) (tab_ok.env hl) (tab.natl hl) Try.func9 (by kernel_rfl : Try.f9.body = some f9c) [27] (by kernel_rfl) ?_
 intro ds outs h
 obtain ⟨h, hm⟩ := qeq_some h
 unfold q9 at h
 split at h
 ·simp only [Option.some.injEq, Prod.mk.injEq] at h; obtain ⟨hg, h⟩ := h; cases h; exact f9_spec N _ hg hm
 ·cases h
noncomputable def q11 : List Dt → Option (Bool × List Dt)
 | [.d .node a0] => some ((gPt a0), [.d (.sl (.sl .str)) (allPtrs a0)])
 | _ => none
noncomputable def mu11 : List Dt → Nat
 | [.d .node a0] => nd_node a0
 | _ => 0
noncomputable def s11r (N : Nat) : Gm.Spec := Gm.Spec.of [.ro] [false] true (qlt mu11 N q11)
noncomputable def f11S0 (y0 : BA) (y1 : List NodeT) (y2 : Int) (y3 : Int) (y4 : Int) (y5 : Int) (y6 : Int) (y7 : Int) (y8 : BA) (y9 : List BA) (y10 : List NodeT) (y11 : List (List BA)) (y12 : List (List BA)) : St := ⟨[(1, .c (.one (.pt 1 0))), (3, .c (.one (.h 640 0 0 []))), (6, .c (.one (.v (.string y0)))), (12, .c (.one (.ro .node y1))), (13, .c (.one (.v (.int .i64 y2)))), (14, .c (.one (.v (.int .i64 y3)))), (37, .c (.one (.h 2368 0 0 []))), (38, .c (.one (.v (.int .i64 y4)))), (39, .c (.one (.v (.int .i64 y5))))], [(1, ⟨.node, [.v (.int .i64 y6), .v (.int .i64 y7), .v (.string y8), .ro .str y9, .ro .node y10]⟩)], [(640, .live ⟨(.sl .str), .deep, 0, [], y11⟩), (2368, .live ⟨(.sl .str), .deep, 0, [], y12⟩)]⟩
noncomputable def f11S1 (y0 : BA) (y1 : List NodeT) (y2 : Int) (y3 : Int) (y4 : Int) (y5 : Int) (y6 : Bool) (y7 : Int) (y8 : Int) (y9 : BA) (y10 : List BA) (y11 : List NodeT) (y12 : List (List BA)) (y13 : List (List BA)) : St := ⟨[(1, .c (.one (.pt 1 0))), (3, .c (.one (.h 640 0 0 []))), (6, .c (.one (.v (.string y0)))), (12, .c (.one (.ro .node y1))), (13, .c (.one (.v (.int .i64 y2)))), (14, .c (.one (.v (.int .i64 y3)))), (37, .c (.one (.h 2368 0 0 []))), (38, .c (.one (.v (.int .i64 y4)))), (39, .c (.one (.v (.int .i64 y5)))), (40, .c (.one (.v (.bool y6))))], [(1, ⟨.node, [.v (.int .i64 y7), .v (.int .i64 y8), .v (.string y9), .ro .str y10, .ro .node y11]⟩)], [(640, .live ⟨(.sl .str), .deep, 0, [], y12⟩), (2368, .live ⟨(.sl .str), .deep, 0, [], y13⟩)]⟩
noncomputable def f11S2 (y0 : List NodeT) (y1 : Int) (y2 : Int) (y3 : Int) (y4 : Int) (y5 : BA) (y6 : List BA) (y7 : List NodeT) (y8 : List (List BA)) : St := ⟨[(1, .c (.one (.pt 1 0))), (3, .c (.one (.h 640 0 0 []))), (12, .c (.one (.ro .node y0))), (13, .c (.one (.v (.int .i64 y1)))), (14, .c (.one (.v (.int .i64 y2))))], [(1, ⟨.node, [.v (.int .i64 y3), .v (.int .i64 y4), .v (.string y5), .ro .str y6, .ro .node y7]⟩)], [(640, .live ⟨(.sl .str), .deep, 0, [], y8⟩)]⟩
noncomputable def f11S3 (y0 : List NodeT) (y1 : Int) (y2 : Int) (y3 : Bool) (y4 : Int) (y5 : Int) (y6 : BA) (y7 : List BA) (y8 : List NodeT) (y9 : List (List BA)) : St := ⟨[(1, .c (.one (.pt 1 0))), (3, .c (.one (.h 640 0 0 []))), (12, .c (.one (.ro .node y0))), (13, .c (.one (.v (.int .i64 y1)))), (14, .c (.one (.v (.int .i64 y2)))), (15, .c (.one (.v (.bool y3))))], [(1, ⟨.node, [.v (.int .i64 y4), .v (.int .i64 y5), .v (.string y6), .ro .str y7, .ro .node y8]⟩)], [(640, .live ⟨(.sl .str), .deep, 0, [], y9⟩)]⟩
noncomputable def f11c : Code := (Try.f11.body).getD .skip
def f11k : Nat → Kp := kat [⟨[1], [], [], []⟩, ⟨[1, 3], [], [], []⟩, ⟨[1, 3, 12, 13, 14], [], [], []⟩, ⟨[1, 3, 12, 13, 14, 15], [], [], []⟩, ⟨[1, 3, 4, 5, 12, 13, 14], [], [], []⟩, ⟨[1, 3, 4, 5, 6, 12, 13, 14], [], [], []⟩, ⟨[1, 3, 4, 5, 6, 12, 13, 14, 30], [], [], []⟩, ⟨[1, 3, 5, 6, 12, 13, 14], [], [], []⟩, ⟨[1, 3, 6, 12, 13, 14, 37, 38, 39], [], [], []⟩, ⟨[1, 3, 6, 12, 13, 14, 37, 38, 39, 40], [], [], []⟩, ⟨[1, 3, 6, 8, 12, 13, 14, 37, 38, 39], [], [], []⟩, ⟨[1, 3, 6, 12, 13, 14, 37, 38, 39], [], [], []⟩, ⟨[1, 3, 6, 12, 13, 14, 37, 38, 39], [], [], []⟩, ⟨[1, 3, 12, 13, 14], [], [], []⟩, ⟨[2], [], [], []⟩]
noncomputable def f11e (N : Nat) : Env := tab.env [(11, s11r N), (39, s39)]
noncomputable def f11L0 {R : Type} (N : Nat) (n : Nat) (x0 : Int → Bool → (List (List BA)) → Option R) (wT : BA) (wH : List NodeT) (wI : Int) (wC : Int) (wR : Int) (wE : Int) (wF : Int) (wG : BA) (wD : List BA) (wA : List NodeT) (wQ : List (List BA)) : Nat → Int → (List (List BA)) → Option R
  | 0, _, _ => none
  | m + 1, wO, wK =>
    (cond (decide (wO < wR))
   (cond ((decide ((0 : Int) ≤ wO)) && (decide (wO < (wQ.length : Int))))
    (cond (Nat.ble (1 + (atI (t := (.sl .str)) wQ (Int.toNat wO)).length) LIM)
     (cond (Nat.ble (wK.length + 1) LIM)
      (f11L0 N n x0 wT wH wI wC wR wE wF wG wD wA wQ m (IntKind.wrap .i64 (wO + (1 : Int))) (wK ++ ([(([wT] : List BA) ++ (atI (t := (.sl .str)) wQ (Int.toNat wO)))] : List (List BA))))
      none)
     none)
    none)
   (x0 wO (decide (wO < wR)) wK))
theorem f11L0_b {R : Type} (N : Nat) (n : Nat) (k' : Ex → St → Option R) (wT : BA) (wH : List NodeT) (wI : Int) (wC : Int) (wR : Int) (wO : Int) (wE : Int) (wF : Int) (wG : BA) (wD : List BA) (wA : List NodeT) (wK : List (List BA)) (wQ : List (List BA)) : ev (f11e N) f11k n (cAt [1,1,0,1,0,0,1,1,0,0,1,1,1,1,0,0] f11c) (f11S0 wT wH wI wC wR wO wE wF wG wD wA wK wQ) k' =
 (cond (decide (wO < wR))
 (cond ((decide ((0 : Int) ≤ wO)) && (decide (wO < (wQ.length : Int))))
 (cond (Nat.ble (1 + (atI (t := (.sl .str)) wQ (Int.toNat wO)).length) LIM)
 (cond (Nat.ble (wK.length + 1) LIM)
 (k' .normal (f11S0 wT wH wI wC wR (IntKind.wrap .i64 (wO + (1 : Int))) wE wF wG wD wA (wK ++ ([(([wT] : List BA) ++ (atI (t := (.sl .str)) wQ (Int.toNat wO)))] : List (List BA))) wQ))
 none)
 none)
 none)
 (k' (.exit 2) (f11S1 wT wH wI wC wR wO (decide (wO < wR)) wE wF wG wD wA wK wQ))) := by kernel_rfl
theorem f11L0_eq {R : Type} (N : Nat) (n : Nat) (k' : Ex → St → Option R) (wT : BA) (wH : List NodeT) (wI : Int) (wC : Int) (wR : Int) (wE : Int) (wF : Int) (wG : BA) (wD : List BA) (wA : List NodeT) (wQ : List (List BA)) : ∀ (m : Nat) (wO : Int) (wK : List (List BA)), iter (fun st k => ev (f11e N) f11k n (cAt [1,1,0,1,0,0,1,1,0,0,1,1,1,1,0,0] f11c) st k) m (f11S0 wT wH wI wC wR wO wE wF wG wD wA wK wQ) k' = f11L0 N n (fun (wX : Int) (wY : Bool) (wM : List (List BA)) => k' (.exit 2) (f11S1 wT wH wI wC wR wX wY wE wF wG wD wA wM wQ)) wT wH wI wC wR wE wF wG wD wA wQ m wO wK := by
 intro m; induction m with
 | zero => intros; rfl
 | succ m ih =>
  intro wO wK
  simp only [iter]
  rw [f11L0_b]
  simp only [ih, f11L0]
noncomputable def f11K0 {R : Type} (N : Nat) (n : Nat) (k' : Ex → St → Option R) : Ex → St → Option R := (blockK 2 (blockK 1 (seqK (f11e N) f11k n (cAt [1,1,0,1,0,0,1,1,1] f11c) k')))
theorem f11K0_x0 {R : Type} (N : Nat) (n : Nat) (k' : Ex → St → Option R) (wT : BA) (wH : List NodeT) (wI : Int) (wC : Int) (wR : Int) (wE : Int) (wF : Int) (wG : BA) (wD : List BA) (wA : List NodeT) (wQ : List (List BA)) (wX : Int) (wY : Bool) (wM : List (List BA)) : f11K0 N n k' (.exit 2) (f11S1 wT wH wI wC wR wX wY wE wF wG wD wA wM wQ) =
 (k' .normal (f11S2 wH wI (IntKind.wrap .i64 (wC + (1 : Int))) wE wF wG wD wA wM)) := by kernel_rfl
noncomputable def f11L1 {R : Type} (N : Nat) (n : Nat) (x0 : Int → Bool → (List (List BA)) → Option R) (wH : List NodeT) (wI : Int) (wE : Int) (wF : Int) (wG : BA) (wD : List BA) (wA : List NodeT) : Nat → Int → (List (List BA)) → Option R
  | 0, _, _ => none
  | m + 1, wC, wK =>
    (cond (decide (wC < wI))
   (cond ((decide ((0 : Int) ≤ wC)) && (decide (wC < (wH.length : Int))))
    (cond (okI wC)
     (cond (wE == (5 : Int))
      (cond (decide (wC < (wD.length : Int)))
       (cond ((decide ((0 : Int) ≤ wC)) && (decide (wC < (wD.length : Int))))
        (cond ((gPt (eN (atI (t := .node) wH (Int.toNat wC)))) && (Nat.blt (nd_node (eN (atI (t := .node) wH (Int.toNat wC)))) N))
         (f11L0 N n (fun (wX : Int) (wY : Bool) (wM : List (List BA)) =>
          (f11L1 N n x0 wH wI wE wF wG wD wA m (IntKind.wrap .i64 (wC + (1 : Int))) wM)) (atI (t := .str) wD (Int.toNat wC)) wH wI wC ((allPtrs (eN (atI (t := .node) wH (Int.toNat wC)))).length : Int) wE wF wG wD wA (allPtrs (eN (atI (t := .node) wH (Int.toNat wC)))) n (0 : Int) wK)
         none)
        none)
       (cond ((gPt (eN (atI (t := .node) wH (Int.toNat wC)))) && (Nat.blt (nd_node (eN (atI (t := .node) wH (Int.toNat wC)))) N))
        (f11L0 N n (fun (wX : Int) (wY : Bool) (wM : List (List BA)) =>
         (f11L1 N n x0 wH wI wE wF wG wD wA m (IntKind.wrap .i64 (wC + (1 : Int))) wM)) (digS wC) wH wI wC ((allPtrs (eN (atI (t := .node) wH (Int.toNat wC)))).length : Int) wE wF wG wD wA (allPtrs (eN (atI (t := .node) wH (Int.toNat wC)))) n (0 : Int) wK)
        none))
      (cond ((gPt (eN (atI (t := .node) wH (Int.toNat wC)))) && (Nat.blt (nd_node (eN (atI (t := .node) wH (Int.toNat wC)))) N))
       (f11L0 N n (fun (wX : Int) (wY : Bool) (wM : List (List BA)) =>
        (f11L1 N n x0 wH wI wE wF wG wD wA m (IntKind.wrap .i64 (wC + (1 : Int))) wM)) (digS wC) wH wI wC ((allPtrs (eN (atI (t := .node) wH (Int.toNat wC)))).length : Int) wE wF wG wD wA (allPtrs (eN (atI (t := .node) wH (Int.toNat wC)))) n (0 : Int) wK)
       none))
     none)
    none)
   (x0 wC (decide (wC < wI)) wK))
theorem f11L1_b {R : Type} (N : Nat) (n : Nat) (k' : Ex → St → Option R) (wH : List NodeT) (wI : Int) (wC : Int) (wE : Int) (wF : Int) (wG : BA) (wD : List BA) (wA : List NodeT) (wK : List (List BA)) : ev (f11e N) f11k n (cAt [1,1,0,1,0,0] f11c) (f11S2 wH wI wC wE wF wG wD wA wK) k' =
 (cond (decide (wC < wI))
 (cond ((decide ((0 : Int) ≤ wC)) && (decide (wC < (wH.length : Int))))
 (cond (okI wC)
 (cond (wE == (5 : Int))
 (cond (decide (wC < (wD.length : Int)))
 (cond ((decide ((0 : Int) ≤ wC)) && (decide (wC < (wD.length : Int))))
 (cond ((gPt (eN (atI (t := .node) wH (Int.toNat wC)))) && (Nat.blt (nd_node (eN (atI (t := .node) wH (Int.toNat wC)))) N))
 (f11L0 N n (fun (wX : Int) (wY : Bool) (wM : List (List BA)) =>
 (k' .normal (f11S2 wH wI (IntKind.wrap .i64 (wC + (1 : Int))) wE wF wG wD wA wM))) (atI (t := .str) wD (Int.toNat wC)) wH wI wC ((allPtrs (eN (atI (t := .node) wH (Int.toNat wC)))).length : Int) wE wF wG wD wA (allPtrs (eN (atI (t := .node) wH (Int.toNat wC)))) n (0 : Int) wK)
 none)
 none)
 (cond ((gPt (eN (atI (t := .node) wH (Int.toNat wC)))) && (Nat.blt (nd_node (eN (atI (t := .node) wH (Int.toNat wC)))) N))
 (f11L0 N n (fun (wX : Int) (wY : Bool) (wM : List (List BA)) =>
 (k' .normal (f11S2 wH wI (IntKind.wrap .i64 (wC + (1 : Int))) wE wF wG wD wA wM))) (digS wC) wH wI wC ((allPtrs (eN (atI (t := .node) wH (Int.toNat wC)))).length : Int) wE wF wG wD wA (allPtrs (eN (atI (t := .node) wH (Int.toNat wC)))) n (0 : Int) wK)
 none))
 (cond ((gPt (eN (atI (t := .node) wH (Int.toNat wC)))) && (Nat.blt (nd_node (eN (atI (t := .node) wH (Int.toNat wC)))) N))
 (f11L0 N n (fun (wX : Int) (wY : Bool) (wM : List (List BA)) =>
 (k' .normal (f11S2 wH wI (IntKind.wrap .i64 (wC + (1 : Int))) wE wF wG wD wA wM))) (digS wC) wH wI wC ((allPtrs (eN (atI (t := .node) wH (Int.toNat wC)))).length : Int) wE wF wG wD wA (allPtrs (eN (atI (t := .node) wH (Int.toNat wC)))) n (0 : Int) wK)
 none))
 none)
 none)
 (k' (.exit 0) (f11S3 wH wI wC (decide (wC < wI)) wE wF wG wD wA wK))) := by
  refine Eq.trans (b := (cond (decide (wC < wI))
  (cond ((decide ((0 : Int) ≤ wC)) && (decide (wC < (wH.length : Int))))
   (cond (okI wC)
    (cond (wE == (5 : Int))
     (cond (decide (wC < (wD.length : Int)))
      (cond ((decide ((0 : Int) ≤ wC)) && (decide (wC < (wD.length : Int))))
       (cond ((gPt (eN (atI (t := .node) wH (Int.toNat wC)))) && (Nat.blt (nd_node (eN (atI (t := .node) wH (Int.toNat wC)))) N))
        (iter (fun st k => ev (f11e N) f11k n (cAt [1,1,0,1,0,0,1,1,0,0,1,1,1,1,0,0] f11c) st k) n (f11S0 (atI (t := .str) wD (Int.toNat wC)) wH wI wC ((allPtrs (eN (atI (t := .node) wH (Int.toNat wC)))).length : Int) (0 : Int) wE wF wG wD wA wK (allPtrs (eN (atI (t := .node) wH (Int.toNat wC))))) (f11K0 N n k'))
        none)
       none)
      (cond ((gPt (eN (atI (t := .node) wH (Int.toNat wC)))) && (Nat.blt (nd_node (eN (atI (t := .node) wH (Int.toNat wC)))) N))
       (iter (fun st k => ev (f11e N) f11k n (cAt [1,1,0,1,0,0,1,1,0,0,1,1,1,1,0,0] f11c) st k) n (f11S0 (digS wC) wH wI wC ((allPtrs (eN (atI (t := .node) wH (Int.toNat wC)))).length : Int) (0 : Int) wE wF wG wD wA wK (allPtrs (eN (atI (t := .node) wH (Int.toNat wC))))) (f11K0 N n k'))
       none))
     (cond ((gPt (eN (atI (t := .node) wH (Int.toNat wC)))) && (Nat.blt (nd_node (eN (atI (t := .node) wH (Int.toNat wC)))) N))
      (iter (fun st k => ev (f11e N) f11k n (cAt [1,1,0,1,0,0,1,1,0,0,1,1,1,1,0,0] f11c) st k) n (f11S0 (digS wC) wH wI wC ((allPtrs (eN (atI (t := .node) wH (Int.toNat wC)))).length : Int) (0 : Int) wE wF wG wD wA wK (allPtrs (eN (atI (t := .node) wH (Int.toNat wC))))) (f11K0 N n k'))
      none))
    none)
   none)
  (k' (.exit 0) (f11S3 wH wI wC (decide (wC < wI)) wE wF wG wD wA wK)))) (by kernel_rfl) ?_
  simp only [f11L0_eq, f11K0_x0]
theorem f11L1_eq {R : Type} (N : Nat) (n : Nat) (k' : Ex → St → Option R) (wH : List NodeT) (wI : Int) (wE : Int) (wF : Int) (wG : BA) (wD : List BA) (wA : List NodeT) : ∀ (m : Nat) (wC : Int) (wK : List (List BA)), iter (fun st k => ev (f11e N) f11k n (cAt [1,1,0,1,0,0] f11c) st k) m (f11S2 wH wI wC wE wF wG wD wA wK) k' = f11L1 N n (fun (wW : Int) (uA : Bool) (wM : List (List BA)) => k' (.exit 0) (f11S3 wH wI wW uA wE wF wG wD wA wM)) wH wI wE wF wG wD wA m wC wK := by
 intro m; induction m with
 | zero => intros; rfl
 | succ m ih =>
  intro wC wK
  simp only [iter]
  rw [f11L1_b]
  simp only [ih, f11L1]
noncomputable def f11K1 {R : Type} (N : Nat) (n : Nat) (k' : Ex → St → Option R) : Ex → St → Option R := (blockK 0 (seqK (f11e N) f11k n (cAt [1,1,1] f11c) k'))
theorem f11K1_x0 {R : Type} (N : Nat) (n : Nat) (k : List Dt → Option R) (a0 : NodeT) (wH : List NodeT) (wI : Int) (wE : Int) (wF : Int) (wG : BA) (wD : List BA) (wA : List NodeT) (wW : Int) (uA : Bool) (wM : List (List BA)) : f11K1 N n (exitK (f11e N) [.ro] [false] true [.tmp 2] [27] [.d .node a0] k) (.exit 0) (f11S3 wH wI wW uA wE wF wG wD wA wM) =
 (k [.d (.sl (.sl .str)) wM]) := by kernel_rfl
theorem f11_run {R : Type} (N : Nat) (n : Nat) (k : List Dt → Option R) (a0 : NodeT) : evFn (f11e N) f11k n f11c [.ro] [false] true [.tmp 2] [27] [.d .node a0] k =
 (f11L1 N n (fun (wW : Int) (uA : Bool) (wM : List (List BA)) =>
 (k [.d (.sl (.sl .str)) wM])) (NodeT.kids a0) ((NodeT.kids a0).length : Int) (NodeT.kind a0) (NodeT.n a0) (NodeT.s a0) (NodeT.keys a0) (NodeT.kids a0) n (0 : Int) [([] : List BA)]) := by
 refine Eq.trans (b := (iter (fun st k => ev (f11e N) f11k n (cAt [1,1,0,1,0,0] f11c) st k) n (f11S2 (NodeT.kids a0) ((NodeT.kids a0).length : Int) (0 : Int) (NodeT.kind a0) (NodeT.n a0) (NodeT.s a0) (NodeT.keys a0) (NodeT.kids a0) ([([] : List BA)] : List (List BA))) (f11K1 N n (exitK (f11e N) [.ro] [false] true [.tmp 2] [27] [.d .node a0] k)))) (by kernel_rfl) ?_
 simp only [f11L1_eq, f11K1_x0]
theorem f11_spec (N : Nat) (a0 : NodeT) (hg : gPt a0 = true) (hm : mu11 [.d .node a0] = N) : ∃ keep rounds, ∀ {R : Type} (k : List Dt → Option R), evFn (f11e N) keep rounds f11c [.ro] [false] true [.tmp 2] [27] [.d .node a0] k = k [.d (.sl (.sl .str)) (allPtrs a0)] := by
 have hm : nd_node a0 = N := hm
 subst hm
 have hg0 := hg
 simp only [gPt, Bool.and_eq_true] at hg
 obtain ⟨hg, hnd⟩ := hg
 have hnd := bleN hnd
 rw [sm_node_def] at hg
 simp only [Bool.and_eq_true] at hg
 obtain ⟨_, _, _, hke, hki⟩ := hg
 have nke := smL_len hke
 have nki := smL_len hki
 have hkl : a0.kids.length + 1 ≤ nd_node a0 := by
  rw [nd_node_def]
  have : ∀ l : List NodeT, l.length ≤ ndL nd_node l := fun l => by
   induction l with
   | nil => exact Nat.zero_le _
   | cons y r ih =>
    have e1 : ndL nd_node (y :: r) = nd_node y + ndL nd_node r := by simp [ndL]
    have := nd_node_def y
    rw [List.length_cons]; omega
  have := this a0.kids
  omega
 refine ⟨f11k, nd_node a0 + 1, fun {R} k => ?_⟩
 rw [f11_run]
 show _ = k [.d (.sl (.sl .str)) (allPtrs a0)]
 have hlen := allPtrs_len a0
 rw [allPtrs_def, List.length_cons] at hlen
 have inner : ∀ (x : NodeT) (j : Nat) (part : BA) (out : List (List BA)) (fin : Int → Bool → List (List BA) → Option R), x ∈ a0.kids → out.length + (allPtrs x).length ≤ nd_node a0 →
   f11L0 (nd_node a0) (nd_node a0 + 1) fin part a0.kids (a0.kids.length : Int) (j : Int) ((allPtrs x).length : Int) a0.kind a0.n a0.s a0.keys a0.kids (allPtrs x) (nd_node a0 + 1) (0 : Int) out = fin ((allPtrs x).length : Int) false (out ++ (allPtrs x).map fun p => part :: p) := by
  intro x j part out fin hx hB
  have hxl := nd_node_kid hx
  have hxn := allPtrs_len x
  refine Eq.trans (loop_acc (xs := allPtrs x) (F := fun m j' out => f11L0 (nd_node a0) (nd_node a0 + 1) fin part a0.kids (a0.kids.length : Int) (j : Int) ((allPtrs x).length : Int) a0.kind a0.n a0.s a0.keys a0.kids (allPtrs x) m (j' : Int) out) (f := fun out p => out ++ [part :: p]) (good := fun out => fin ((allPtrs x).length : Int) false out) (fun j' o => o.length ≤ out.length + j')
   (fun j' o p hp hi => by simp only [List.length_append, List.length_cons, List.length_nil]; omega) (fun m j' o p hp hi => ?_) (fun m o hi => by simp only [f11L0, idxE, cond_false]) (allPtrs x).length 0 (nd_node a0 + 1) out (by omega) (by omega) (by omega)) ?_
  ·obtain ⟨h1, h0, hw, ht⟩ := idx (lt_of_get hp) (by omega)
   have hj := lt_of_get hp
   have hway := allPtrs_way x p (List.mem_of_getElem? hp)
   have hlim : Nat.ble (o.length + 1) LIM = true := Nat.ble_eq_true_of_le (by have : (LIM : Nat) = 4294967296 := rfl; omega)
   have hlim2 : Nat.ble (1 + p.length) LIM = true := Nat.ble_eq_true_of_le (by have : (LIM : Nat) = 4294967296 := rfl; omega)
   simp only [f11L0, h1, h0, hw, ht, atI_of (t := .sl .str) hp, Bool.and_self, cond_true, hlim, hlim2]
   rfl
  ·rw [List.drop_zero]
   congr 1
   have : ∀ (l : List (List BA)) (o : List (List BA)), l.foldl (fun out p => out ++ [part :: p]) o = o ++ l.map fun p => part :: p := by
    intro l
    induction l with
    | nil => intro o; simp
    | cons y r ih => intro o; rw [List.foldl_cons, ih]; simp
   exact this _ _
 refine Eq.trans (loop_ptr (kids := a0.kids) (kind := a0.kind) (keys := a0.keys) (B := nd_node a0) (F := fun m j out => f11L1 (nd_node a0) (nd_node a0 + 1) _ a0.kids (a0.kids.length : Int) a0.kind a0.n a0.s a0.keys a0.kids m (j : Int) out) (good := fun out => k [.d (.sl (.sl .str)) out])
  (fun m j out x hx hB => ?_) (fun m out => by simp only [f11L1, idxE, cond_false]) a0.kids.length 0 (nd_node a0 + 1) [[]] (by omega) (by omega) (by rw [List.drop_zero, List.length_cons, List.length_nil]; omega)) ?_
 ·obtain ⟨h1, h0, hw, ht⟩ := idx (lt_of_get hx) (by omega)
  have hj := lt_of_get hx
  have hxm := List.mem_of_getElem? hx
  have hb : Nat.blt (nd_node x) (nd_node a0) = true := by
   have := nd_node_kid (x := a0) hxm
   rw [Nat.blt_eq]; exact this
  have hgx := gPt_kid hg0 hxm
  have hoj : okI (j : Int) = true := okI_of (by omega) (by omega)
  simp only [f11L1, h1, h0, hw, ht, hoj, atI_of (t := .node) hx, Bool.and_self, cond_true, eta_node, eN_eq, hgx, hb]
  unfold wayAt
  cases a0.kind == (5 : Int)
  ·simp only [cond_false]; exact inner x j _ out _ hxm hB
  by_cases hl : (j : Int) < (a0.keys.length : Int)
  ·simp only [decide_eq_true hl, Bool.and_self, cond_true]; exact inner x j _ out _ hxm hB
  ·simp only [decide_eq_false hl, cond_true, cond_false]; exact inner x j _ out _ hxm hB
 ·rw [List.drop_zero, allPtrs_def]; rfl
noncomputable def s11 : Gm.Spec := Gm.Spec.of [.ro] [false] true q11
theorem good11 : Gm.Good Try.prog (11, s11) := by
 refine ⟨⟨spec_rec mu11 fun N hr => ?_, _, Try.func11, by kernel_rfl, of_decide_eq_true (by kernel_rfl)⟩, Gm.Spec.of_natl _ _ _ _⟩
 have hl : ∀ x ∈ [(11, s11r N), (39, s39)], Gm.Good Try.prog x := fcJ.2 ⟨⟨⟨hr, _, Try.func11, by kernel_rfl, of_decide_eq_true (by kernel_rfl)⟩, Gm.Spec.of_natl _ _ _ _⟩, fcJ.2 ⟨good39, fcN⟩⟩
 intro R
 refine spec_ok (E := f11e N) (tab_ok.env hl) (tab.natl hl) Try.func11 (by kernel_rfl : Try.f11.body = some f11c) [27] (by kernel_rfl) ?_
 intro ds outs h
 obtain ⟨h, hm⟩ := qeq_some h
 unfold q11 at h
 split at h
 ·simp only [Option.some.injEq, Prod.mk.injEq] at h; obtain ⟨hg, h⟩ := h; cases h; exact f11_spec N _ hg hm
 ·cases h
noncomputable def f62c : Code := (Try.f62.body).getD .skip
def f62k : Nat → Kp := kat [⟨[0, 3], [], [], []⟩, ⟨[0, 5], [], [], []⟩, ⟨[0, 6], [], [], []⟩, ⟨[0, 6, 19], [], [], []⟩, ⟨[0, 6, 19, 20], [], [], []⟩, ⟨[0, 4], [], [], []⟩, ⟨[0, 6, 27], [], [], []⟩, ⟨[0, 4], [], [], []⟩, ⟨[0, 4], [], [], []⟩]
noncomputable def f62e : Env := tab.env [(9, s9), (80, s80), (82, s82), (83, s83)]
theorem f62_run {R : Type} (n : Nat) (k : List Dt → Option R) (a0 : CurT) (a1 : NodeT) : evFn f62e f62k n f62c [.pmut, .ro] [false] true [.tmp 4] [22] [.d .cur a0, .d .node a1] k =
 (cond (gPt (eN a1))
 (cond ((fun c _ => gCur c) a0 ((allPtrs (eN a1)).length : Int))
 (cond ((decide ((0 : Int) ≤ ((curBelow a0 ((allPtrs (eN a1)).length : Int)).1))) && (decide (((curBelow a0 ((allPtrs (eN a1)).length : Int)).1) < ((allPtrs (eN a1)).length : Int))))
 (cond (Nat.ble (0 + (atI (t := (.sl .str)) (allPtrs (eN a1)) (Int.toNat ((curBelow a0 ((allPtrs (eN a1)).length : Int)).1))).length) LIM)
 (cond ((fun c _ => gCur c) ((curBelow a0 ((allPtrs (eN a1)).length : Int)).2) (5 : Int))
 (cond (((curBelow ((curBelow a0 ((allPtrs (eN a1)).length : Int)).2) (5 : Int)).1) == (0 : Int))
 (cond (gCur ((curBelow ((curBelow a0 ((allPtrs (eN a1)).length : Int)).2) (5 : Int)).2))
 (cond (Nat.ble ((([] : List BA) ++ (atI (t := (.sl .str)) (allPtrs (eN a1)) (Int.toNat ((curBelow a0 ((allPtrs (eN a1)).length : Int)).1)))).length + 1) LIM)
 (k [.d (.sl .str) ((([] : List BA) ++ (atI (t := (.sl .str)) (allPtrs (eN a1)) (Int.toNat ((curBelow a0 ((allPtrs (eN a1)).length : Int)).1)))) ++ ([((tKey ((curBelow ((curBelow a0 ((allPtrs (eN a1)).length : Int)).2) (5 : Int)).2)).1)] : List BA)), .d .cur ((tKey ((curBelow ((curBelow a0 ((allPtrs (eN a1)).length : Int)).2) (5 : Int)).2)).2)])
 none)
 none)
 (cond (((curBelow ((curBelow a0 ((allPtrs (eN a1)).length : Int)).2) (5 : Int)).1) == (1 : Int))
 (cond (gPickS ((curBelow ((curBelow a0 ((allPtrs (eN a1)).length : Int)).2) (5 : Int)).2) ([(bs [48]), (bs [49]), (bs [45]), (bs [48,48]), (bs [57])] : List BA))
 (cond (Nat.ble ((([] : List BA) ++ (atI (t := (.sl .str)) (allPtrs (eN a1)) (Int.toNat ((curBelow a0 ((allPtrs (eN a1)).length : Int)).1)))).length + 1) LIM)
 (k [.d (.sl .str) ((([] : List BA) ++ (atI (t := (.sl .str)) (allPtrs (eN a1)) (Int.toNat ((curBelow a0 ((allPtrs (eN a1)).length : Int)).1)))) ++ ([((curPick ((curBelow ((curBelow a0 ((allPtrs (eN a1)).length : Int)).2) (5 : Int)).2) ([(bs [48]), (bs [49]), (bs [45]), (bs [48,48]), (bs [57])] : List BA)).1)] : List BA)), .d .cur ((curPick ((curBelow ((curBelow a0 ((allPtrs (eN a1)).length : Int)).2) (5 : Int)).2) ([(bs [48]), (bs [49]), (bs [45]), (bs [48,48]), (bs [57])] : List BA)).2)])
 none)
 none)
 (k [.d (.sl .str) (([] : List BA) ++ (atI (t := (.sl .str)) (allPtrs (eN a1)) (Int.toNat ((curBelow a0 ((allPtrs (eN a1)).length : Int)).1)))), .d .cur ((curBelow ((curBelow a0 ((allPtrs (eN a1)).length : Int)).2) (5 : Int)).2)])))
 none)
 none)
 none)
 none)
 none) := by kernel_rfl
def f62_P (a0 : CurT) (a1 : NodeT) (o : List BA × CurT) : Prop := (fun _ _ o => gWay o.1 = true ∧ gCur o.2 = true) a0 a1 o ∧ ∃ n : Nat, ∀ {R : Type} (k : List Dt → Option R), evFn f62e f62k n f62c [.pmut, .ro] [false] true [.tmp 4] [22] [.d .cur a0, .d .node a1] k = k [.d (.sl .str) o.1, .d .cur o.2]
theorem f62_ex (a0 : CurT) (a1 : NodeT) (hg : (fun (c : CurT) (t : NodeT) => gCur c && okD 3 t) a0 a1 = true) : ∃ o : List BA × CurT, (fun _ _ o => gWay o.1 = true ∧ gCur o.2 = true) a0 a1 o ∧ ∃ n : Nat, ∀ {R : Type} (k : List Dt → Option R), evFn f62e f62k n f62c [.pmut, .ro] [false] true [.tmp 4] [22] [.d .cur a0, .d .node a1] k = k [.d (.sl .str) o.1, .d .cur o.2] := by
 obtain ⟨hc, ht⟩ := Bool.and_eq_true_iff.1 (show (gCur a0 && okD 3 a1) = true from hg)
 have hp := gPt_okD ht
 obtain ⟨b0, b1, g1⟩ := curBelow_ok a0 ((allPtrs a1).length : Int) hc
 have b1 := b1 (allPtrs_pos a1)
 have hix := idxOk b0 b1
 have hw := way_ok ht (mem_atI (t := .sl .str) b0 b1)
 have hn := szL_ge ByteArray.size (atI (t := .sl .str) (allPtrs a1) (Int.toNat (curBelow a0 ((allPtrs a1).length : Int)).1))
 have l1 : Nat.ble (0 + (atI (t := .sl .str) (allPtrs a1) (Int.toNat (curBelow a0 ((allPtrs a1).length : Int)).1)).length) LIM = true := Nat.ble_eq_true_of_le (by have : (LIM : Nat) = 4294967296 := rfl; omega)
 have l2 : Nat.ble ((atI (t := .sl .str) (allPtrs a1) (Int.toNat (curBelow a0 ((allPtrs a1).length : Int)).1)).length + 1) LIM = true := Nat.ble_eq_true_of_le (by have : (LIM : Nat) = 4294967296 := rfl; omega)
 obtain ⟨_, _, g2⟩ := curBelow_ok (curBelow a0 ((allPtrs a1).length : Int)).2 5 g1
 cases e0 : ((curBelow (curBelow a0 ((allPtrs a1).length : Int)).2 5).1 == (0 : Int))
 rotate_left
 ·obtain ⟨hz, g3⟩ := tKey_ok _ g2
  refine ⟨(?az0, ?bz0), ?gz0, 0, ?rz0⟩
  case rz0 =>
   intro R k
   rw [f62_run]
   simp only [eN_eq, hp, hc, hix, l1, l2, g1, g2, e0, List.nil_append, cond_true, cond_false]
   exact rfl
  case gz0 => exact ⟨gWay_snoc hw (by omega), g3⟩
 cases e1 : ((curBelow (curBelow a0 ((allPtrs a1).length : Int)).2 5).1 == (1 : Int))
 ·refine ⟨(?az1, ?bz1), ?gz1, 0, ?rz1⟩
  case rz1 =>
   intro R k
   rw [f62_run]
   simp only [eN_eq, hp, hc, hix, l1, l2, g1, g2, e0, e1, List.nil_append, cond_true, cond_false]
   exact rfl
  case gz1 => exact ⟨gWay_of hw, g2⟩
 ·have hk := gPickS_of (l := ([(bs [48]), (bs [49]), (bs [45]), (bs [48,48]), (bs [57])] : List BA)) g2 rfl
  obtain ⟨hmem, g3⟩ := curPick_ok _ _ hk
  have hz := bleN (List.all_eq_true.1 (show (([(bs [48]), (bs [49]), (bs [45]), (bs [48,48]), (bs [57])] : List BA).all fun x => Nat.ble x.size 3) = true from rfl) _ hmem)
  refine ⟨(?az2, ?bz2), ?gz2, 0, ?rz2⟩
  case rz2 =>
   intro R k
   rw [f62_run]
   simp only [eN_eq, hp, hc, hix, l1, l2, g1, g2, e0, e1, hk, List.nil_append, cond_true, cond_false]
   exact rfl
  case gz2 => exact ⟨gWay_snoc hw (by omega), g3⟩
theorem f62_ne (a0 : CurT) (a1 : NodeT) : Nonempty {o : List BA × CurT // (fun (c : CurT) (t : NodeT) => gCur c && okD 3 t) a0 a1 = true → f62_P a0 a1 o} := by
 by_cases hg : (fun (c : CurT) (t : NodeT) => gCur c && okD 3 t) a0 a1 = true
 ·obtain ⟨o, ho⟩ := f62_ex a0 a1 hg
  exact ⟨⟨o, fun _ => ho⟩⟩
 ·exact ⟨⟨([], (zero .cur)), fun h => absurd h hg⟩⟩
noncomputable def tWay (a0 : CurT) (a1 : NodeT) : List BA × CurT := (Classical.choice (f62_ne a0 a1)).val
theorem f62_sp (a0 : CurT) (a1 : NodeT) (hg : (fun (c : CurT) (t : NodeT) => gCur c && okD 3 t) a0 a1 = true) : f62_P a0 a1 (tWay a0 a1) := (Classical.choice (f62_ne a0 a1)).property hg
theorem tWay_ok (a0 : CurT) (a1 : NodeT) (hg : (fun (c : CurT) (t : NodeT) => gCur c && okD 3 t) a0 a1 = true) : (fun _ _ o => gWay o.1 = true ∧ gCur o.2 = true) a0 a1 (tWay a0 a1) := (f62_sp a0 a1 hg).1
theorem f62_spec (a0 : CurT) (a1 : NodeT) (hg : (fun (c : CurT) (t : NodeT) => gCur c && okD 3 t) a0 a1 = true) : ∃ keep rounds, ∀ {R : Type} (k : List Dt → Option R), evFn f62e keep rounds f62c [.pmut, .ro] [false] true [.tmp 4] [22] [.d .cur a0, .d .node a1] k = k [.d (.sl .str) ((tWay a0 a1).1), .d .cur ((tWay a0 a1).2)] := by
 obtain ⟨n, hn⟩ := (f62_sp a0 a1 hg).2
 exact ⟨f62k, n, hn⟩
noncomputable def q62 : List Dt → Option (Bool × List Dt)
 | [.d .cur a0, .d .node a1] => some (((fun (c : CurT) (t : NodeT) => gCur c && okD 3 t) a0 a1), [.d (.sl .str) ((tWay a0 a1).1), .d .cur ((tWay a0 a1).2)])
 | _ => none
noncomputable def s62 : Gm.Spec := Gm.Spec.of [.pmut, .ro] [false] true q62
theorem good62 : Gm.Good Try.prog (62, s62) := by
 have hl : ∀ x ∈ [(9, s9), (80, s80), (82, s82), (83, s83)], Gm.Good Try.prog x := fcJ.2 ⟨good9, fcJ.2 ⟨good80, fcJ.2 ⟨good82, fcJ.2 ⟨good83, fcN⟩⟩⟩⟩
 refine ⟨⟨spec_ok (tab_ok.env hl) (tab.natl hl) Try.func62 (by kernel_rfl : Try.f62.body = some f62c) [22] (by kernel_rfl) ?_, _, Try.func62, by kernel_rfl, of_decide_eq_true (by kernel_rfl)⟩, Gm.Spec.of_natl _ _ _ _⟩
 intro ds outs h
 unfold q62 at h
 split at h
 ·simp only [Option.some.injEq, Prod.mk.injEq] at h; obtain ⟨hg, h⟩ := h; cases h; exact f62_spec _ _ hg
 ·cases h
noncomputable def f35c : Code := (Try.f35.body).getD .skip
def f35k : Nat → Kp := kat [⟨[0, 2, 4], [], [], []⟩, ⟨[2, 4, 5], [], [], []⟩, ⟨[2, 4, 5, 6], [], [], []⟩, ⟨[2, 4, 5, 6, 7], [], [], []⟩, ⟨[2, 3, 4], [], [], []⟩]
noncomputable def f35e : Env := tab.env [(60, s60), (62, s62), (63, s63)]
theorem f35_run {R : Type} (n : Nat) (k : List Dt → Option R) (a0 : List Int) : evFn f35e f35k n f35c [.kp] [false, false, false] true [.cell 2 31, .tmp 3, .cell 4 31] [31, 22, 31] [.d (.sl (.i .u8)) a0] k =
 (cond (gCode a0)
 (cond (gDT (curNew a0) (3 : Int))
 (cond ((fun (c : CurT) (t : NodeT) => gCur c && okD 3 t) ((dT (curNew a0) (3 : Int)).2) (eN ((dT (curNew a0) (3 : Int)).1)))
 (cond (gDT ((tWay ((dT (curNew a0) (3 : Int)).2) (eN ((dT (curNew a0) (3 : Int)).1))).2) (2 : Int))
 (k [.d .node (eN ((dT (curNew a0) (3 : Int)).1)), .d (.sl .str) ((tWay ((dT (curNew a0) (3 : Int)).2) (eN ((dT (curNew a0) (3 : Int)).1))).1), .d .node (eN ((dT ((tWay ((dT (curNew a0) (3 : Int)).2) (eN ((dT (curNew a0) (3 : Int)).1))).2) (2 : Int)).1))])
 none)
 none)
 none)
 none) := by kernel_rfl
def f35_P (a0 : List Int) (o : NodeT × List BA × NodeT) : Prop := (fun _ o => GT 3 o.1 ∧ gWay o.2.1 = true ∧ GT 2 o.2.2) a0 o ∧ ∃ n : Nat, ∀ {R : Type} (k : List Dt → Option R), evFn f35e f35k n f35c [.kp] [false, false, false] true [.cell 2 31, .tmp 3, .cell 4 31] [31, 22, 31] [.d (.sl (.i .u8)) a0] k = k [.d .node o.1, .d (.sl .str) o.2.1, .d .node o.2.2]
theorem f35_ex (a0 : List Int) (hg : gCode a0 = true) : ∃ o : NodeT × List BA × NodeT, (fun _ o => GT 3 o.1 ∧ gWay o.2.1 = true ∧ GT 2 o.2.2) a0 o ∧ ∃ n : Nat, ∀ {R : Type} (k : List Dt → Option R), evFn f35e f35k n f35c [.kp] [false, false, false] true [.cell 2 31, .tmp 3, .cell 4 31] [31, 22, 31] [.d (.sl (.i .u8)) a0] k = k [.d .node o.1, .d (.sl .str) o.2.1, .d .node o.2.2] := by
 have g0 := curNew_ok a0 hg
 have d3 := gDT_of (d := 3) g0 rfl
 obtain ⟨t3, g1⟩ := dT_ok d3
 have hok : (gCur (dT (curNew a0) 3).2 && okD 3 (dT (curNew a0) 3).1) = true := by rw [g1, okD_of t3.okT]; rfl
 obtain ⟨hw, g2⟩ := tWay_ok _ _ hok
 have d2 := gDT_of (d := 2) g2 rfl
 obtain ⟨t2, _⟩ := dT_ok d2
 refine ⟨(?az0, ?bz0, ?c), ?gz0, 0, ?rz0⟩
 case rz0 =>
  intro R k
  rw [f35_run]
  simp only [eN_eq, hg, d3, hok, d2, cond_true]
  exact rfl
 case gz0 => exact ⟨t3, hw, t2⟩
theorem f35_ne (a0 : List Int) : Nonempty {o : NodeT × List BA × NodeT // gCode a0 = true → f35_P a0 o} := by
 by_cases hg : gCode a0 = true
 ·obtain ⟨o, ho⟩ := f35_ex a0 hg
  exact ⟨⟨o, fun _ => ho⟩⟩
 ·exact ⟨⟨((zero .node), [], (zero .node)), fun h => absurd h hg⟩⟩
noncomputable def tDrawn (a0 : List Int) : NodeT × List BA × NodeT := (Classical.choice (f35_ne a0)).val
theorem f35_sp (a0 : List Int) (hg : gCode a0 = true) : f35_P a0 (tDrawn a0) := (Classical.choice (f35_ne a0)).property hg
theorem tDrawn_ok (a0 : List Int) (hg : gCode a0 = true) : (fun _ o => GT 3 o.1 ∧ gWay o.2.1 = true ∧ GT 2 o.2.2) a0 (tDrawn a0) := (f35_sp a0 hg).1
theorem f35_spec (a0 : List Int) (hg : gCode a0 = true) : ∃ keep rounds, ∀ {R : Type} (k : List Dt → Option R), evFn f35e keep rounds f35c [.kp] [false, false, false] true [.cell 2 31, .tmp 3, .cell 4 31] [31, 22, 31] [.d (.sl (.i .u8)) a0] k = k [.d .node ((tDrawn a0).1), .d (.sl .str) ((tDrawn a0).2.1), .d .node ((tDrawn a0).2.2)] := by
 obtain ⟨n, hn⟩ := (f35_sp a0 hg).2
 exact ⟨f35k, n, hn⟩
noncomputable def q35 : List Dt → Option (Bool × List Dt)
 | [.d (.sl (.i .u8)) a0] => some ((gCode a0), [.d .node ((tDrawn a0).1), .d (.sl .str) ((tDrawn a0).2.1), .d .node ((tDrawn a0).2.2)])
 | _ => none
noncomputable def s35 : Gm.Spec := Gm.Spec.of [.kp] [false, false, false] true q35
theorem good35 : Gm.Good Try.prog (35, s35) := by
 have hl : ∀ x ∈ [(60, s60), (62, s62), (63, s63)], Gm.Good Try.prog x := fcJ.2 ⟨good60, fcJ.2 ⟨good62, fcJ.2 ⟨good63, fcN⟩⟩⟩
 refine ⟨⟨spec_ok (tab_ok.env hl) (tab.natl hl) Try.func35 (by kernel_rfl : Try.f35.body = some f35c) [31, 22, 31] (by kernel_rfl) ?_, _, Try.func35, by kernel_rfl, of_decide_eq_true (by kernel_rfl)⟩, Gm.Spec.of_natl _ _ _ _⟩
 intro ds outs h
 unfold q35 at h
 split at h
 ·simp only [Option.some.injEq, Prod.mk.injEq] at h; obtain ⟨hg, h⟩ := h; cases h; exact f35_spec _ hg
 ·cases h
end Go.Proofs.Ytinbejnakemfjaa

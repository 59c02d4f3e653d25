/- What the functions compute, part 2. No conditions. -/
import Derived.Test.YtalnkjjnohgjkaaFnPatchesFn1
namespace Go.Proofs.Ytalnkjjnohgjkaa
open Go Go.Gm
noncomputable def f86c : Code := (Try.f86.body).getD .skip
def f86k : Nat → Kp := kat [⟨[1, 3, 5, 6], [], [], []⟩, ⟨[1, 3, 5, 6, 10], [], [], []⟩, ⟨[6, 7], [], [], []⟩, ⟨[6, 7], [], [], []⟩]
noncomputable def f86e : Env := tab.env [(39, s39), (96, s96), (97, s97)]
theorem f86_run {R : Type} (n : Nat) (k : Kt R) (a0 : NodeT) (a1 : List BA) (a2 : NodeT) : evFn f86e f86k n f86c [.ro, .ro, .ro] [false, false] true [.cell 6 27, .tmp 7] [27, 4] [.d .node a0, .d (.sl .str) a1, .d .node a2] k =
 (cond ((a1.length : Int) == (0 : Int))
 (cond (sm_node (eN a2))
 (k [.d .node (eN a2), .d .bool true])
 none)
 (cond (gPW (eN a0) a1 (eN a2))
 (k [.d .node (eN ((putAtW (eN a0) a1 (eN a2)).1)), .d .bool ((putAtW (eN a0) a1 (eN a2)).2)])
 none)) := by kernel_rfl
theorem f86_spec (a0 : NodeT) (a1 : List BA) (a2 : NodeT) (hg : gP a0 a1 a2 = true) : ∃ keep rounds, ∀ {R : Type} (k : Kt R), evFn f86e keep rounds f86c [.ro, .ro, .ro] [false, false] true [.cell 6 27, .tmp 7] [27, 4] [.d .node a0, .d (.sl .str) a1, .d .node a2] k = k [.d .node ((putPtr a0 a1 a2).1), .d .bool ((putPtr a0 a1 a2).2)] := by
 have hgp := hg
 simp only [gP, Bool.and_eq_true] at hg
 obtain ⟨hg, hpa, hx2⟩ := hg
 refine ⟨f86k, 0, fun {R} k => ?_⟩
 rw [f86_run]
 show _ = k [.d .node (putPtr a0 a1 a2).1, .d .bool (putPtr a0 a1 a2).2]
 unfold putPtr
 cases a1 with
 | nil => simp only [eta_node, eN_eq, hx2]; rfl
 | cons p r =>
  have hgw : gPW a0 (p :: r) a2 = true := by simp only [gPW, hgp]; rfl
  have l7 : (((p :: r).length : Int) == (0 : Int)) = false := by rw [beq_eq_false_iff_ne]; simp only [List.length_cons]; omega
  simp only [eta_node, eN_eq, hgw, l7, cond_true, cond_false]
noncomputable def q86 : Qt
 | [.d .node a0, .d (.sl .str) a1, .d .node a2] => some ((gP a0 a1 a2), [.d .node ((putPtr a0 a1 a2).1), .d .bool ((putPtr a0 a1 a2).2)])
 | _ => none
noncomputable def s86 : Gm.Spec := Gm.Spec.of [.ro, .ro, .ro] [false, false] true q86
theorem good86 : Gm.Good Try.prog (86, s86) := by
 have hl : ∀ x ∈ [(39, s39), (96, s96), (97, s97)], Gm.Good Try.prog x := fcJ.2 ⟨good39, fcJ.2 ⟨good96, fcJ.2 ⟨good97, fcN⟩⟩⟩
 refine ⟨⟨spec_ok (tab_ok.env hl) (tab.natl hl) Try.func86 (by kernel_rfl : Try.f86.body = some f86c) [27, 4] (by kernel_rfl) ?_, _, Try.func86, by kernel_rfl, of_decide_eq_true (by kernel_rfl)⟩, Gm.Spec.of_natl _ _ _ _⟩
 intro ds outs h
 unfold q86 at h
 split at h
 ·simp only [Option.some.injEq, Prod.mk.injEq] at h; obtain ⟨hg, h⟩ := h; cases h; exact f86_spec _ _ _ hg
 ·cases h
noncomputable def f78S0 (y0 : BA) (y1 : Int) (y2 : Int) (y3 : Int) (y4 : BA) (y5 : List BA) (y6 : List NodeT) (y7 : Int) (y8 : Int) (y9 : BA) (y10 : List BA) (y11 : List NodeT) (y15 : Int) (y16 : Int) (y17 : BA) (y18 : List BA) (y19 : List NodeT) : St := ⟨[(1, .c (.one (.v (.string y0)))), (3, .c (.one (.pt 3 0))), (5, .c (.one (.pt 5 0))), (6, .c (.one (.pt 6 0))), (7, .c (.one (.pt 7 0))), (8, .c (.one (.v (.int .i64 y1))))], [(3, ⟨.node, [.v (.int .i64 y2), .v (.int .i64 y3), .v (.string y4), .ro .str y5, .ro .node y6]⟩), (5, ⟨.node, [.v (.int .i64 y7), .v (.int .i64 y8), .v (.string y9), .ro .str y10, .ro .node y11]⟩), (6, ⟨.node, [.v (.int .i64 (0 : Int)), .v (.int .i64 (0 : Int)), .v (.string ByteArray.empty), .nl, .nl]⟩), (7, ⟨.node, [.v (.int .i64 y15), .v (.int .i64 y16), .v (.string y17), .h 768 0 0 [], .h 769 0 0 []]⟩)], [(768, .live ⟨.str, .deep, 0, [], y18⟩), (769, .live ⟨.node, .deep, 0, [], y19⟩)]⟩
noncomputable def f78S1 (y0 : BA) (y1 : Int) (y2 : Bool) (y3 : Int) (y4 : Int) (y5 : BA) (y6 : List BA) (y7 : List NodeT) (y8 : Int) (y9 : Int) (y10 : BA) (y11 : List BA) (y12 : List NodeT) (y16 : Int) (y17 : Int) (y18 : BA) (y19 : List BA) (y20 : List NodeT) : St := ⟨[(1, .c (.one (.v (.string y0)))), (3, .c (.one (.pt 3 0))), (5, .c (.one (.pt 5 0))), (6, .c (.one (.pt 6 0))), (7, .c (.one (.pt 7 0))), (8, .c (.one (.v (.int .i64 y1)))), (51, .c (.one (.v (.bool y2))))], [(3, ⟨.node, [.v (.int .i64 y3), .v (.int .i64 y4), .v (.string y5), .ro .str y6, .ro .node y7]⟩), (5, ⟨.node, [.v (.int .i64 y8), .v (.int .i64 y9), .v (.string y10), .ro .str y11, .ro .node y12]⟩), (6, ⟨.node, [.v (.int .i64 (0 : Int)), .v (.int .i64 (0 : Int)), .v (.string ByteArray.empty), .nl, .nl]⟩), (7, ⟨.node, [.v (.int .i64 y16), .v (.int .i64 y17), .v (.string y18), .h 768 0 0 [], .h 769 0 0 []]⟩)], [(768, .live ⟨.str, .deep, 0, [], y19⟩), (769, .live ⟨.node, .deep, 0, [], y20⟩)]⟩
noncomputable def f78c : Code := (Try.f78.body).getD .skip
def f78k : Nat → Kp := kat [⟨[1, 3, 5, 6], [], [], []⟩, ⟨[1, 3, 5, 6, 7], [], [], []⟩, ⟨[1, 3, 5, 6, 7, 24], [], [], []⟩, ⟨[6], [], [], []⟩, ⟨[1, 3, 5, 6, 7, 8], [], [], []⟩, ⟨[1, 3, 5, 6, 7, 8, 30], [], [], []⟩, ⟨[6, 7], [], [], []⟩, ⟨[6], [], [], []⟩, ⟨[1, 3, 5, 6, 7, 8], [], [], []⟩, ⟨[1, 3, 5, 6, 7, 8, 51], [], [], []⟩, ⟨[1, 3, 5, 6, 7, 8], [], [], []⟩, ⟨[1, 3, 5, 6, 7, 8, 9], [], [], []⟩, ⟨[3, 5, 6, 7, 8, 9], [], [], []⟩, ⟨[3, 5, 6, 7, 8, 9, 10], [], [], []⟩, ⟨[3, 6, 7, 8, 9, 10], [], [], []⟩, ⟨[6], [], [], []⟩]
noncomputable def f78e : Env := tab.env [(41, s41), (85, s85)]
noncomputable def f78L0 {R : Type} (n : Nat) (x0 : Int → Bool → Option R) (x1 : Int → Option R) (wM : BA) (wJ : Int) (wK : Int) (wL : BA) (wC : List BA) (wD : List NodeT) (wE : Int) (wF : Int) (wG : BA) (wH : List BA) (wI : List NodeT) (wP : Int) (wQ : Int) (wR : BA) (wN : List BA) (wO : List NodeT) : Nat → Int → Option R
  | 0, _ => none
  | m + 1, wB =>
    (cond (decide (wB < (wC.length : Int)))
   (cond ((decide ((0 : Int) ≤ wB)) && (decide (wB < (wC.length : Int))))
    (cond (sLt (atI (t := .str) wC (Int.toNat wB)) wM)
     (f78L0 n x0 x1 wM wJ wK wL wC wD wE wF wG wH wI wP wQ wR wN wO m (IntKind.wrap .i64 (wB + (1 : Int))))
     (x0 wB (sLt (atI (t := .str) wC (Int.toNat wB)) wM)))
    none)
   (x1 wB))
theorem f78L0_b {R : Type} (n : Nat) (k' : Kx R) (wM : BA) (wB : Int) (wJ : Int) (wK : Int) (wL : BA) (wC : List BA) (wD : List NodeT) (wE : Int) (wF : Int) (wG : BA) (wH : List BA) (wI : List NodeT) (wP : Int) (wQ : Int) (wR : BA) (wN : List BA) (wO : List NodeT) : ev f78e f78k n (cAt [1,1,1,1,1,1,0,0,0] f78c) (f78S0 wM wB wJ wK wL wC wD wE wF wG wH wI wP wQ wR wN wO) k' =
 (cond (decide (wB < (wC.length : Int)))
 (cond ((decide ((0 : Int) ≤ wB)) && (decide (wB < (wC.length : Int))))
 (cond (sLt (atI (t := .str) wC (Int.toNat wB)) wM)
 (k' .normal (f78S0 wM (IntKind.wrap .i64 (wB + (1 : Int))) wJ wK wL wC wD wE wF wG wH wI wP wQ wR wN wO))
 (k' (.exit 0) (f78S1 wM wB (sLt (atI (t := .str) wC (Int.toNat wB)) wM) wJ wK wL wC wD wE wF wG wH wI wP wQ wR wN wO)))
 none)
 (k' (.exit 0) (f78S1 wM wB false wJ wK wL wC wD wE wF wG wH wI wP wQ wR wN wO))) := by kernel_rfl
theorem f78L0_eq {R : Type} (n : Nat) (k' : Kx R) (wM : BA) (wJ : Int) (wK : Int) (wL : BA) (wC : List BA) (wD : List NodeT) (wE : Int) (wF : Int) (wG : BA) (wH : List BA) (wI : List NodeT) (wP : Int) (wQ : Int) (wR : BA) (wN : List BA) (wO : List NodeT) : ∀ (m : Nat) (wB : Int), iter (fun st k => ev f78e f78k n (cAt [1,1,1,1,1,1,0,0,0] f78c) st k) m (f78S0 wM wB wJ wK wL wC wD wE wF wG wH wI wP wQ wR wN wO) k' = f78L0 n (fun (wA : Int) (wY : Bool) => k' (.exit 0) (f78S1 wM wA wY wJ wK wL wC wD wE wF wG wH wI wP wQ wR wN wO)) (fun (wA : Int) => k' (.exit 0) (f78S1 wM wA false wJ wK wL wC wD wE wF wG wH wI wP wQ wR wN wO)) wM wJ wK wL wC wD wE wF wG wH wI wP wQ wR wN wO m wB := by
 intro m; induction m with
 | zero => intros; rfl
 | succ m ih =>
  intro wB
  simp only [iter]
  rw [f78L0_b]
  simp only [ih, f78L0]
noncomputable def f78K0 {R : Type} (n : Nat) (k' : Kx R) : Kx R := (blockK 0 (seqK f78e f78k n (cAt [1,1,1,1,1,1,1] f78c) k'))
theorem f78K0_x0 {R : Type} (n : Nat) (k : Kt R) (a0 : NodeT) (a1 : BA) (a2 : NodeT) (wM : BA) (wJ : Int) (wK : Int) (wL : BA) (wC : List BA) (wD : List NodeT) (wE : Int) (wF : Int) (wG : BA) (wH : List BA) (wI : List NodeT) (wP : Int) (wQ : Int) (wR : BA) (wN : List BA) (wO : List NodeT) (wA : Int) (wY : Bool) : f78K0 n (exitK f78e [.ro, .ro, .ro] [false] true [.cell 6 27] [27] [.d .node a0, .d .str a1, .d .node a2] k) (.exit 0) (f78S1 wM wA wY wJ wK wL wC wD wE wF wG wH wI wP wQ wR wN wO) =
 (cond ((decide ((0 : Int) ≤ wA)) && (decide (wA ≤ (wN.length : Int))))
 (cond (Nat.ble (0 + ((wN.take (Int.toNat wA)).drop 0).length) LIM)
 (cond (Nat.ble ((([] : List BA) ++ ((wN.take (Int.toNat wA)).drop 0)).length + 1) LIM)
 (cond ((decide ((0 : Int) ≤ wA)) && (decide (wA ≤ (wO.length : Int))))
 (cond (Nat.ble (0 + ((wO.take (Int.toNat wA)).drop 0).length) LIM)
 (cond (sm_node (⟨wE, wF, wG, wH, wI⟩ : NodeT))
 (cond (Nat.ble ((([] : List NodeT) ++ ((wO.take (Int.toNat wA)).drop 0)).length + 1) LIM)
 (cond ((decide ((0 : Int) ≤ wA)) && ((decide (wA ≤ (wN.length : Int))) && (decide ((wN.length : Int) ≤ (wN.length : Int)))))
 (cond (Nat.ble (((([] : List BA) ++ ((wN.take (Int.toNat wA)).drop 0)) ++ ([wM] : List BA)).length + ((wN.take (Int.toNat (wN.length : Int))).drop (Int.toNat wA)).length) LIM)
 (cond ((decide ((0 : Int) ≤ wA)) && ((decide (wA ≤ (wO.length : Int))) && (decide ((wO.length : Int) ≤ (wO.length : Int)))))
 (cond (leC (Int.toNat wA) 0 (Int.toNat wA) 0)
 (cond (Nat.ble (((([] : List NodeT) ++ ((wO.take (Int.toNat wA)).drop 0)) ++ ([(⟨wE, wF, wG, wH, wI⟩ : NodeT)] : List NodeT)).length + ((wO.take (Int.toNat (wO.length : Int))).drop (Int.toNat wA)).length) LIM)
 (k [.d .node (⟨wJ, wK, wL, (((([] : List BA) ++ ((wN.take (Int.toNat wA)).drop 0)) ++ ([wM] : List BA)) ++ ((wN.take (Int.toNat (wN.length : Int))).drop (Int.toNat wA))), (((([] : List NodeT) ++ ((wO.take (Int.toNat wA)).drop 0)) ++ ([(⟨wE, wF, wG, wH, wI⟩ : NodeT)] : List NodeT)) ++ ((wO.take (Int.toNat (wO.length : Int))).drop (Int.toNat wA)))⟩ : NodeT)])
 none)
 none)
 none)
 none)
 none)
 none)
 none)
 none)
 none)
 none)
 none)
 none) := by kernel_rfl
theorem f78K0_x1 {R : Type} (n : Nat) (k : Kt R) (a0 : NodeT) (a1 : BA) (a2 : NodeT) (wM : BA) (wJ : Int) (wK : Int) (wL : BA) (wC : List BA) (wD : List NodeT) (wE : Int) (wF : Int) (wG : BA) (wH : List BA) (wI : List NodeT) (wP : Int) (wQ : Int) (wR : BA) (wN : List BA) (wO : List NodeT) (wA : Int) : f78K0 n (exitK f78e [.ro, .ro, .ro] [false] true [.cell 6 27] [27] [.d .node a0, .d .str a1, .d .node a2] k) (.exit 0) (f78S1 wM wA false wJ wK wL wC wD wE wF wG wH wI wP wQ wR wN wO) =
 (cond ((decide ((0 : Int) ≤ wA)) && (decide (wA ≤ (wN.length : Int))))
 (cond (Nat.ble (0 + ((wN.take (Int.toNat wA)).drop 0).length) LIM)
 (cond (Nat.ble ((([] : List BA) ++ ((wN.take (Int.toNat wA)).drop 0)).length + 1) LIM)
 (cond ((decide ((0 : Int) ≤ wA)) && (decide (wA ≤ (wO.length : Int))))
 (cond (Nat.ble (0 + ((wO.take (Int.toNat wA)).drop 0).length) LIM)
 (cond (sm_node (⟨wE, wF, wG, wH, wI⟩ : NodeT))
 (cond (Nat.ble ((([] : List NodeT) ++ ((wO.take (Int.toNat wA)).drop 0)).length + 1) LIM)
 (cond ((decide ((0 : Int) ≤ wA)) && ((decide (wA ≤ (wN.length : Int))) && (decide ((wN.length : Int) ≤ (wN.length : Int)))))
 (cond (Nat.ble (((([] : List BA) ++ ((wN.take (Int.toNat wA)).drop 0)) ++ ([wM] : List BA)).length + ((wN.take (Int.toNat (wN.length : Int))).drop (Int.toNat wA)).length) LIM)
 (cond ((decide ((0 : Int) ≤ wA)) && ((decide (wA ≤ (wO.length : Int))) && (decide ((wO.length : Int) ≤ (wO.length : Int)))))
 (cond (leC (Int.toNat wA) 0 (Int.toNat wA) 0)
 (cond (Nat.ble (((([] : List NodeT) ++ ((wO.take (Int.toNat wA)).drop 0)) ++ ([(⟨wE, wF, wG, wH, wI⟩ : NodeT)] : List NodeT)).length + ((wO.take (Int.toNat (wO.length : Int))).drop (Int.toNat wA)).length) LIM)
 (k [.d .node (⟨wJ, wK, wL, (((([] : List BA) ++ ((wN.take (Int.toNat wA)).drop 0)) ++ ([wM] : List BA)) ++ ((wN.take (Int.toNat (wN.length : Int))).drop (Int.toNat wA))), (((([] : List NodeT) ++ ((wO.take (Int.toNat wA)).drop 0)) ++ ([(⟨wE, wF, wG, wH, wI⟩ : NodeT)] : List NodeT)) ++ ((wO.take (Int.toNat (wO.length : Int))).drop (Int.toNat wA)))⟩ : NodeT)])
 none)
 none)
 none)
 none)
 none)
 none)
 none)
 none)
 none)
 none)
 none)
 none) := by kernel_rfl
theorem f78_run {R : Type} (n : Nat) (k : Kt R) (a0 : NodeT) (a1 : BA) (a2 : NodeT) : evFn f78e f78k n f78c [.ro, .ro, .ro] [false] true [.cell 6 27] [27] [.d .node a0, .d .str a1, .d .node a2] k =
 (cond (sm_node (eN a0))
 (cond ((NodeT.kind a0) != (5 : Int))
 (k [.d .node (eN a0)])
 (cond (((NodeT.keys a0).length : Int) != ((NodeT.kids a0).length : Int))
 (k [.d .node (eN a0)])
 (cond ((fun (x : NodeT) (_ : BA) => sm_node x) (eN a0) a1)
 (cond (decide ((keyAt (eN a0) a1) ≥ (0 : Int)))
 (cond (sm_node (eN a2))
 (cond ((decide ((0 : Int) ≤ (keyAt (eN a0) a1))) && (decide ((keyAt (eN a0) a1) < ((NodeT.kids a0).length : Int))))
 (k [.d .node (⟨(NodeT.kind a0), (NodeT.n a0), (NodeT.s a0), (NodeT.keys a0), ((NodeT.kids a0).set (Int.toNat (keyAt (eN a0) a1)) (eN a2))⟩ : NodeT)])
 none)
 none)
 (f78L0 n (fun (wA : Int) (wY : Bool) =>
 (cond ((decide ((0 : Int) ≤ wA)) && (decide (wA ≤ ((NodeT.keys a0).length : Int))))
 (cond (Nat.ble (0 + (((NodeT.keys a0).take (Int.toNat wA)).drop 0).length) LIM)
 (cond (Nat.ble ((([] : List BA) ++ (((NodeT.keys a0).take (Int.toNat wA)).drop 0)).length + 1) LIM)
 (cond ((decide ((0 : Int) ≤ wA)) && (decide (wA ≤ ((NodeT.kids a0).length : Int))))
 (cond (Nat.ble (0 + (((NodeT.kids a0).take (Int.toNat wA)).drop 0).length) LIM)
 (cond (sm_node (⟨(NodeT.kind a2), (NodeT.n a2), (NodeT.s a2), (NodeT.keys a2), (NodeT.kids a2)⟩ : NodeT))
 (cond (Nat.ble ((([] : List NodeT) ++ (((NodeT.kids a0).take (Int.toNat wA)).drop 0)).length + 1) LIM)
 (cond ((decide ((0 : Int) ≤ wA)) && ((decide (wA ≤ ((NodeT.keys a0).length : Int))) && (decide (((NodeT.keys a0).length : Int) ≤ ((NodeT.keys a0).length : Int)))))
 (cond (Nat.ble (((([] : List BA) ++ (((NodeT.keys a0).take (Int.toNat wA)).drop 0)) ++ ([a1] : List BA)).length + (((NodeT.keys a0).take (Int.toNat ((NodeT.keys a0).length : Int))).drop (Int.toNat wA)).length) LIM)
 (cond ((decide ((0 : Int) ≤ wA)) && ((decide (wA ≤ ((NodeT.kids a0).length : Int))) && (decide (((NodeT.kids a0).length : Int) ≤ ((NodeT.kids a0).length : Int)))))
 (cond (leC (Int.toNat wA) 0 (Int.toNat wA) 0)
 (cond (Nat.ble (((([] : List NodeT) ++ (((NodeT.kids a0).take (Int.toNat wA)).drop 0)) ++ ([(⟨(NodeT.kind a2), (NodeT.n a2), (NodeT.s a2), (NodeT.keys a2), (NodeT.kids a2)⟩ : NodeT)] : List NodeT)).length + (((NodeT.kids a0).take (Int.toNat ((NodeT.kids a0).length : Int))).drop (Int.toNat wA)).length) LIM)
 (k [.d .node (⟨(NodeT.kind a0), (NodeT.n a0), (NodeT.s a0), (((([] : List BA) ++ (((NodeT.keys a0).take (Int.toNat wA)).drop 0)) ++ ([a1] : List BA)) ++ (((NodeT.keys a0).take (Int.toNat ((NodeT.keys a0).length : Int))).drop (Int.toNat wA))), (((([] : List NodeT) ++ (((NodeT.kids a0).take (Int.toNat wA)).drop 0)) ++ ([(⟨(NodeT.kind a2), (NodeT.n a2), (NodeT.s a2), (NodeT.keys a2), (NodeT.kids a2)⟩ : NodeT)] : List NodeT)) ++ (((NodeT.kids a0).take (Int.toNat ((NodeT.kids a0).length : Int))).drop (Int.toNat wA)))⟩ : NodeT)])
 none)
 none)
 none)
 none)
 none)
 none)
 none)
 none)
 none)
 none)
 none)
 none)) (fun (wA : Int) =>
 (cond ((decide ((0 : Int) ≤ wA)) && (decide (wA ≤ ((NodeT.keys a0).length : Int))))
 (cond (Nat.ble (0 + (((NodeT.keys a0).take (Int.toNat wA)).drop 0).length) LIM)
 (cond (Nat.ble ((([] : List BA) ++ (((NodeT.keys a0).take (Int.toNat wA)).drop 0)).length + 1) LIM)
 (cond ((decide ((0 : Int) ≤ wA)) && (decide (wA ≤ ((NodeT.kids a0).length : Int))))
 (cond (Nat.ble (0 + (((NodeT.kids a0).take (Int.toNat wA)).drop 0).length) LIM)
 (cond (sm_node (⟨(NodeT.kind a2), (NodeT.n a2), (NodeT.s a2), (NodeT.keys a2), (NodeT.kids a2)⟩ : NodeT))
 (cond (Nat.ble ((([] : List NodeT) ++ (((NodeT.kids a0).take (Int.toNat wA)).drop 0)).length + 1) LIM)
 (cond ((decide ((0 : Int) ≤ wA)) && ((decide (wA ≤ ((NodeT.keys a0).length : Int))) && (decide (((NodeT.keys a0).length : Int) ≤ ((NodeT.keys a0).length : Int)))))
 (cond (Nat.ble (((([] : List BA) ++ (((NodeT.keys a0).take (Int.toNat wA)).drop 0)) ++ ([a1] : List BA)).length + (((NodeT.keys a0).take (Int.toNat ((NodeT.keys a0).length : Int))).drop (Int.toNat wA)).length) LIM)
 (cond ((decide ((0 : Int) ≤ wA)) && ((decide (wA ≤ ((NodeT.kids a0).length : Int))) && (decide (((NodeT.kids a0).length : Int) ≤ ((NodeT.kids a0).length : Int)))))
 (cond (leC (Int.toNat wA) 0 (Int.toNat wA) 0)
 (cond (Nat.ble (((([] : List NodeT) ++ (((NodeT.kids a0).take (Int.toNat wA)).drop 0)) ++ ([(⟨(NodeT.kind a2), (NodeT.n a2), (NodeT.s a2), (NodeT.keys a2), (NodeT.kids a2)⟩ : NodeT)] : List NodeT)).length + (((NodeT.kids a0).take (Int.toNat ((NodeT.kids a0).length : Int))).drop (Int.toNat wA)).length) LIM)
 (k [.d .node (⟨(NodeT.kind a0), (NodeT.n a0), (NodeT.s a0), (((([] : List BA) ++ (((NodeT.keys a0).take (Int.toNat wA)).drop 0)) ++ ([a1] : List BA)) ++ (((NodeT.keys a0).take (Int.toNat ((NodeT.keys a0).length : Int))).drop (Int.toNat wA))), (((([] : List NodeT) ++ (((NodeT.kids a0).take (Int.toNat wA)).drop 0)) ++ ([(⟨(NodeT.kind a2), (NodeT.n a2), (NodeT.s a2), (NodeT.keys a2), (NodeT.kids a2)⟩ : NodeT)] : List NodeT)) ++ (((NodeT.kids a0).take (Int.toNat ((NodeT.kids a0).length : Int))).drop (Int.toNat wA)))⟩ : NodeT)])
 none)
 none)
 none)
 none)
 none)
 none)
 none)
 none)
 none)
 none)
 none)
 none)) a1 (NodeT.kind a0) (NodeT.n a0) (NodeT.s a0) (NodeT.keys a0) (NodeT.kids a0) (NodeT.kind a2) (NodeT.n a2) (NodeT.s a2) (NodeT.keys a2) (NodeT.kids a2) (NodeT.kind a0) (NodeT.n a0) (NodeT.s a0) (NodeT.keys a0) (NodeT.kids a0) n (0 : Int)))
 none)))
 none) := by
  refine Eq.trans (b := (cond (sm_node (eN a0))
  (cond ((NodeT.kind a0) != (5 : Int))
   (k [.d .node (eN a0)])
   (cond (((NodeT.keys a0).length : Int) != ((NodeT.kids a0).length : Int))
    (k [.d .node (eN a0)])
    (cond ((fun (x : NodeT) (_ : BA) => sm_node x) (eN a0) a1)
     (cond (decide ((keyAt (eN a0) a1) ≥ (0 : Int)))
      (cond (sm_node (eN a2))
       (cond ((decide ((0 : Int) ≤ (keyAt (eN a0) a1))) && (decide ((keyAt (eN a0) a1) < ((NodeT.kids a0).length : Int))))
        (k [.d .node (⟨(NodeT.kind a0), (NodeT.n a0), (NodeT.s a0), (NodeT.keys a0), ((NodeT.kids a0).set (Int.toNat (keyAt (eN a0) a1)) (eN a2))⟩ : NodeT)])
        none)
       none)
      (iter (fun st k => ev f78e f78k n (cAt [1,1,1,1,1,1,0,0,0] f78c) st k) n (f78S0 a1 (0 : Int) (NodeT.kind a0) (NodeT.n a0) (NodeT.s a0) (NodeT.keys a0) (NodeT.kids a0) (NodeT.kind a2) (NodeT.n a2) (NodeT.s a2) (NodeT.keys a2) (NodeT.kids a2) (NodeT.kind a0) (NodeT.n a0) (NodeT.s a0) (NodeT.keys a0) (NodeT.kids a0)) (f78K0 n (exitK f78e [.ro, .ro, .ro] [false] true [.cell 6 27] [27] [.d .node a0, .d .str a1, .d .node a2] k))))
     none)))
  none)) (by kernel_rfl) ?_
  simp only [f78L0_eq, f78K0_x0, f78K0_x1]
theorem f78_spec (a0 : NodeT) (a1 : BA) (a2 : NodeT) (hg : gS3 a0 a1 a2 = true) : ∃ keep rounds, ∀ {R : Type} (k : Kt R), evFn f78e keep rounds f78c [.ro, .ro, .ro] [false] true [.cell 6 27] [27] [.d .node a0, .d .str a1, .d .node a2] k = k [.d .node (setK a0 a1 a2)] := by
 have hg3 := hg
 simp only [gS3, Bool.and_eq_true] at hg
 obtain ⟨hg, hs1, hx2⟩ := hg
 have hg0 := hg
 rw [sm_node_def] at hg
 simp only [Bool.and_eq_true] at hg
 obtain ⟨_, _, _, hke, hki⟩ := hg
 have nke := smL_len hke
 have nki := smL_len hki
 refine ⟨f78k, a0.keys.length + 1, fun {R} k => ?_⟩
 rw [f78_run]
 simp only [eta_node, eN_eq, hg0, hx2, cond_true]
 show _ = k [.d .node (setK a0 a1 a2)]
 cases h5 : a0.kind == (5 : Int)
 ·rw [show (a0.kind != (5 : Int)) = true by simp only [bne, h5]; rfl]
  unfold setK isMapN; rw [h5]; rfl
 rw [show (a0.kind != (5 : Int)) = false by simp only [bne, h5]; rfl]
 cases hl : ((a0.keys.length : Int) == (a0.kids.length : Int))
 ·rw [show ((a0.keys.length : Int) != (a0.kids.length : Int)) = true by simp only [bne, hl]; rfl]
  unfold setK isMapN; rw [h5, hl]; rfl
 rw [show ((a0.keys.length : Int) != (a0.kids.length : Int)) = false by simp only [bne, hl]; rfl]
 have hm : isMapN a0 = true := by unfold isMapN; rw [h5, hl]; rfl
 have hl := (isMapN_eq hm).2
 simp only [cond_false]
 by_cases hk : keyAt a0 a1 < 0
 ·rw [setK_neg hm hk, decide_eq_false (show ¬ (keyAt a0 a1 ≥ 0) by omega)]
  simp only [cond_false]
  refine Eq.trans (loop_find (n := a0.keys.length) (F := fun m i => f78L0 (a0.keys.length + 1) _ _ a1 _ _ _ a0.keys a0.kids _ _ _ _ _ _ _ _ _ _ m i) (p := fun j => !(sLt (atI (t := .str) a0.keys j) a1)) (hit := fun i => k [.d .node (putKey a0 i a1 a2)]) (miss := k [.d .node (putKey a0 (a0.keys.length : Int) a1 a2)])
   (fun m j hj => ?_) (fun m => ?_) a0.keys.length 0 (a0.keys.length + 1) (by omega) (by omega)) ?_
  ·obtain ⟨h1, h0, hw, ht⟩ := idx hj (by omega)
   have d0 : decide ((0 : Int) ≤ (j : Int)) = true := decide_eq_true (by omega)
   have d1 : decide ((j : Int) ≤ (a0.keys.length : Int)) = true := decide_eq_true (by omega)
   have d2 : decide ((j : Int) ≤ (a0.kids.length : Int)) = true := decide_eq_true (by omega)
   have d6 : decide ((a0.keys.length : Int) ≤ (a0.keys.length : Int)) = true := decide_eq_true (Int.le_refl _)
   have d7 : decide ((a0.kids.length : Int) ≤ (a0.kids.length : Int)) = true := decide_eq_true (Int.le_refl _)
   simp only [f78L0, h1, h0, hw, ht, Bool.and_self, cond_true]
   cases sLt (atI (t := .str) a0.keys j) a1
   ·simp only [Bool.not_false, leC_self, d0, d1, d2, d6, d7, Int.toNat_natCast, List.drop_zero, List.take_length, List.nil_append, limT nke, limT1 nke, limT1D nke, limT nki, limT1 nki, limT1D nki, Bool.and_self, cond_true]
    rfl
   ·rfl
  ·have d0 : decide ((0 : Int) ≤ (a0.keys.length : Int)) = true := decide_eq_true (by omega)
   have d1 : decide ((a0.keys.length : Int) ≤ (a0.keys.length : Int)) = true := decide_eq_true (by omega)
   have d2 : decide ((a0.keys.length : Int) ≤ (a0.kids.length : Int)) = true := decide_eq_true (by omega)
   have d6 : decide ((a0.keys.length : Int) ≤ (a0.keys.length : Int)) = true := decide_eq_true (Int.le_refl _)
   have d7 : decide ((a0.kids.length : Int) ≤ (a0.kids.length : Int)) = true := decide_eq_true (Int.le_refl _)
   have e1 := limT nke a0.keys.length
   have e2 := limT1 nke a0.keys.length
   have e3 := limT1D nke a0.keys.length a0.keys.length a1
   rw [List.take_length] at e1 e2 e3
   have e4 : putKey a0 (a0.keys.length : Int) a1 a2 = ⟨a0.kind, a0.n, a0.s, a0.keys ++ [a1] ++ a0.keys.drop a0.keys.length, a0.kids.take a0.keys.length ++ [a2] ++ a0.kids.drop a0.keys.length⟩ := by
    unfold putKey insL; rw [Int.toNat_natCast, List.take_length]
   simp only [f78L0, idxE, cond_false, e1, e2, e3, e4, leC_self, d0, d1, d2, d6, d7, Int.toNat_natCast, List.drop_zero, List.take_length, List.nil_append, limT nke, limT1 nke, limT1D nke, limT nki, limT1 nki, limT1D nki, Bool.and_self, cond_true]
  ·unfold comesAt
   cases firstN (fun j => !(sLt (atI (t := .str) a0.keys j) a1)) 0 a0.keys.length <;> rfl
 ·rw [setK_pos hm hk, decide_eq_true (show keyAt a0 a1 ≥ 0 by omega)]
  obtain ⟨i, e, h1, h2⟩ := keyAt_bd a0 a1 hk
  obtain ⟨i1, i0, _, _⟩ := idx h2 (by omega)
  simp only [eta_node, eN_eq, e, i0, i1, Bool.and_self, cond_true]
  rfl
noncomputable def q78 : Qt
 | [.d .node a0, .d .str a1, .d .node a2] => some ((gS3 a0 a1 a2), [.d .node (setK a0 a1 a2)])
 | _ => none
noncomputable def s78 : Gm.Spec := Gm.Spec.of [.ro, .ro, .ro] [false] true q78
theorem good78 : Gm.Good Try.prog (78, s78) := by
 have hl : ∀ x ∈ [(41, s41), (85, s85)], Gm.Good Try.prog x := fcJ.2 ⟨good41, fcJ.2 ⟨good85, fcN⟩⟩
 refine ⟨⟨spec_ok (tab_ok.env hl) (tab.natl hl) Try.func78 (by kernel_rfl : Try.f78.body = some f78c) [27] (by kernel_rfl) ?_, _, Try.func78, by kernel_rfl, of_decide_eq_true (by kernel_rfl)⟩, Gm.Spec.of_natl _ _ _ _⟩
 intro ds outs h
 unfold q78 at h
 split at h
 ·simp only [Option.some.injEq, Prod.mk.injEq] at h; obtain ⟨hg, h⟩ := h; cases h; exact f78_spec _ _ _ hg
 ·cases h
noncomputable def f104c : Code := (Try.f104.body).getD .skip
def f104k : Nat → Kp := kat [⟨[1, 3, 5, 6], [], [], []⟩, ⟨[1, 5, 6, 7], [], [], []⟩, ⟨[1, 5, 6, 7, 8], [], [], []⟩, ⟨[1, 6, 7, 8], [], [], []⟩, ⟨[6, 7], [], [], []⟩, ⟨[6], [], [], []⟩]
noncomputable def f104e : Env := tab.env [(41, s41)]
theorem f104_run {R : Type} (n : Nat) (k : Kt R) (a0 : NodeT) (a1 : Int) (a2 : NodeT) : evFn f104e f104k n f104c [.ro, .ro, .ro] [false] true [.cell 6 27] [27] [.d .node a0, .d (.i .i64) a1, .d .node a2] k =
 (cond (sm_node (eN a0))
 (cond ((decide ((0 : Int) ≤ a1)) && (decide (a1 ≤ ((NodeT.kids a0).length : Int))))
 (cond (Nat.ble (0 + (((NodeT.kids a0).take (Int.toNat a1)).drop 0).length) LIM)
 (cond (sm_node (eN a2))
 (cond (Nat.ble ((([] : List NodeT) ++ (((NodeT.kids a0).take (Int.toNat a1)).drop 0)).length + 1) LIM)
 (cond ((decide ((0 : Int) ≤ a1)) && ((decide (a1 ≤ ((NodeT.kids a0).length : Int))) && (decide (((NodeT.kids a0).length : Int) ≤ ((NodeT.kids a0).length : Int)))))
 (cond (leC (Int.toNat a1) 0 (Int.toNat a1) 0)
 (cond (Nat.ble (((([] : List NodeT) ++ (((NodeT.kids a0).take (Int.toNat a1)).drop 0)) ++ ([(eN a2)] : List NodeT)).length + (((NodeT.kids a0).take (Int.toNat ((NodeT.kids a0).length : Int))).drop (Int.toNat a1)).length) LIM)
 (k [.d .node (⟨(NodeT.kind a0), (NodeT.n a0), (NodeT.s a0), (NodeT.keys a0), (((([] : List NodeT) ++ (((NodeT.kids a0).take (Int.toNat a1)).drop 0)) ++ ([(eN a2)] : List NodeT)) ++ (((NodeT.kids a0).take (Int.toNat ((NodeT.kids a0).length : Int))).drop (Int.toNat a1)))⟩ : NodeT)])
 none)
 none)
 none)
 none)
 none)
 none)
 none)
 none) := by kernel_rfl
theorem f104_spec (a0 : NodeT) (a1 : Int) (a2 : NodeT) (hg : gInto a0 a1 a2 = true) : ∃ keep rounds, ∀ {R : Type} (k : Kt R), evFn f104e keep rounds f104c [.ro, .ro, .ro] [false] true [.cell 6 27] [27] [.d .node a0, .d (.i .i64) a1, .d .node a2] k = k [.d .node (putKid a0 a1 a2)] := by
 simp only [gInto, Bool.and_eq_true] at hg
 obtain ⟨hg, hx2, hi0, hi1⟩ := hg
 have hi0 : 0 ≤ a1 := of_decide_eq_true hi0
 have hi1 : a1 ≤ (a0.kids.length : Int) := of_decide_eq_true hi1
 obtain ⟨i, rfl⟩ := Int.eq_ofNat_of_zero_le hi0
 have hg0 := hg
 rw [sm_node_def] at hg
 simp only [Bool.and_eq_true] at hg
 obtain ⟨_, _, _, hke, hki⟩ := hg
 have nke := smL_len hke
 have nki := smL_len hki
 refine ⟨f104k, 0, fun {R} k => ?_⟩
 rw [f104_run]
 have d0 : decide ((0 : Int) ≤ (i : Int)) = true := decide_eq_true (by omega)
 have d2 : decide ((i : Int) ≤ (a0.kids.length : Int)) = true := decide_eq_true (by omega)
 have d7 : decide ((a0.kids.length : Int) ≤ (a0.kids.length : Int)) = true := decide_eq_true (Int.le_refl _)
 simp only [leC_self, eta_node, eN_eq, hg0, hx2, d0, d2, d7, Int.toNat_natCast, List.drop_zero, List.take_length, List.nil_append, limT nki, limT1 nki, limT1D nki, Bool.and_self, cond_true]
 rfl
noncomputable def q104 : Qt
 | [.d .node a0, .d (.i .i64) a1, .d .node a2] => some ((gInto a0 a1 a2), [.d .node (putKid a0 a1 a2)])
 | _ => none
noncomputable def s104 : Gm.Spec := Gm.Spec.of [.ro, .ro, .ro] [false] true q104
theorem good104 : Gm.Good Try.prog (104, s104) := by
 have hl : ∀ x ∈ [(41, s41)], Gm.Good Try.prog x := fcJ.2 ⟨good41, fcN⟩
 refine ⟨⟨spec_ok (tab_ok.env hl) (tab.natl hl) Try.func104 (by kernel_rfl : Try.f104.body = some f104c) [27] (by kernel_rfl) ?_, _, Try.func104, by kernel_rfl, of_decide_eq_true (by kernel_rfl)⟩, Gm.Spec.of_natl _ _ _ _⟩
 intro ds outs h
 unfold q104 at h
 split at h
 ·simp only [Option.some.injEq, Prod.mk.injEq] at h; obtain ⟨hg, h⟩ := h; cases h; exact f104_spec _ _ _ hg
 ·cases h
noncomputable def f88S0 (y0 : BA) (y1 : Int) (y2 : Int) (y3 : Int) (y4 : BA) (y5 : List BA) (y6 : List NodeT) (y7 : Int) (y8 : Int) (y9 : BA) (y10 : List BA) (y11 : List NodeT) : St := ⟨[(1, .c (.one (.v (.string y0)))), (3, .c (.one (.pt 3 0))), (5, .c (.one (.pt 5 0))), (6, .c (.one (.pt 6 0))), (8, .c (.one (.v (.int .i64 y1))))], [(3, ⟨.node, [.v (.int .i64 y2), .v (.int .i64 y3), .v (.string y4), .ro .str y5, .ro .node y6]⟩), (5, ⟨.node, [.v (.int .i64 y7), .v (.int .i64 y8), .v (.string y9), .ro .str y10, .ro .node y11]⟩), (6, ⟨.node, [.v (.int .i64 (0 : Int)), .v (.int .i64 (0 : Int)), .v (.string ByteArray.empty), .nl, .nl]⟩)], []⟩
noncomputable def f88S1 (y1 : Int) (y2 : Int) (y3 : BA) (y4 : List BA) (y5 : List NodeT) : St := ⟨[(6, .c (.one (.pt 6 0))), (7, .c (.one (.v (.bool true))))], [(6, ⟨.node, [.v (.int .i64 y1), .v (.int .i64 y2), .v (.string y3), .h 3520 0 0 [], .h 3521 0 0 []]⟩)], [(3520, .live ⟨.str, .deep, 0, [], y4⟩), (3521, .live ⟨.node, .deep, 0, [], y5⟩)]⟩
noncomputable def f88S2 (y0 : BA) (y1 : Int) (y2 : Bool) (y3 : Int) (y4 : Int) (y5 : BA) (y6 : List BA) (y7 : List NodeT) (y8 : Int) (y9 : Int) (y10 : BA) (y11 : List BA) (y12 : List NodeT) : St := ⟨[(1, .c (.one (.v (.string y0)))), (3, .c (.one (.pt 3 0))), (5, .c (.one (.pt 5 0))), (6, .c (.one (.pt 6 0))), (8, .c (.one (.v (.int .i64 y1)))), (34, .c (.one (.v (.bool y2))))], [(3, ⟨.node, [.v (.int .i64 y3), .v (.int .i64 y4), .v (.string y5), .ro .str y6, .ro .node y7]⟩), (5, ⟨.node, [.v (.int .i64 y8), .v (.int .i64 y9), .v (.string y10), .ro .str y11, .ro .node y12]⟩), (6, ⟨.node, [.v (.int .i64 (0 : Int)), .v (.int .i64 (0 : Int)), .v (.string ByteArray.empty), .nl, .nl]⟩)], []⟩
noncomputable def f88c : Code := (Try.f88.body).getD .skip
def f88k : Nat → Kp := kat [⟨[1, 3, 5, 6], [], [], []⟩, ⟨[1, 3, 5, 6, 20], [], [], []⟩, ⟨[6, 7], [], [], []⟩, ⟨[1, 3, 5, 6, 27], [], [], []⟩, ⟨[6, 7], [], [], []⟩, ⟨[1, 3, 5, 6, 8], [], [], []⟩, ⟨[1, 3, 5, 6, 8, 34], [], [], []⟩, ⟨[1, 3, 5, 6, 8], [], [], []⟩, ⟨[1, 3, 5, 6, 8, 51], [], [], []⟩, ⟨[6, 7], [], [], []⟩, ⟨[6, 7], [], [], []⟩]
noncomputable def f88e : Env := tab.env [(41, s41), (59, s59), (78, s78), (104, s104)]
noncomputable def f88L0 {R : Type} (n : Nat) (x0 : Int → Int → BA → (List BA) → (List NodeT) → Option R) (x1 : Int → Bool → Option R) (wM : BA) (wJ : Int) (wK : Int) (wL : BA) (wC : List BA) (wD : List NodeT) (wE : Int) (wF : Int) (wG : BA) (wH : List BA) (wI : List NodeT) : Nat → Int → Option R
  | 0, _ => none
  | m + 1, wB =>
    (cond (decide (wB ≤ (wD.length : Int)))
   (cond (okI wB)
    (cond (sEq (digS wB) wM)
     (cond (gInto (⟨wJ, wK, wL, wC, wD⟩ : NodeT) wB (⟨wE, wF, wG, wH, wI⟩ : NodeT))
      (x0 (NodeT.kind (putKid (⟨wJ, wK, wL, wC, wD⟩ : NodeT) wB (⟨wE, wF, wG, wH, wI⟩ : NodeT))) (NodeT.n (putKid (⟨wJ, wK, wL, wC, wD⟩ : NodeT) wB (⟨wE, wF, wG, wH, wI⟩ : NodeT))) (NodeT.s (putKid (⟨wJ, wK, wL, wC, wD⟩ : NodeT) wB (⟨wE, wF, wG, wH, wI⟩ : NodeT))) (NodeT.keys (putKid (⟨wJ, wK, wL, wC, wD⟩ : NodeT) wB (⟨wE, wF, wG, wH, wI⟩ : NodeT))) (NodeT.kids (putKid (⟨wJ, wK, wL, wC, wD⟩ : NodeT) wB (⟨wE, wF, wG, wH, wI⟩ : NodeT))))
      none)
     (cond (sEq wM (bs [45]))
      (cond (wB == (wD.length : Int))
       (cond (gInto (⟨wJ, wK, wL, wC, wD⟩ : NodeT) wB (⟨wE, wF, wG, wH, wI⟩ : NodeT))
        (x0 (NodeT.kind (putKid (⟨wJ, wK, wL, wC, wD⟩ : NodeT) wB (⟨wE, wF, wG, wH, wI⟩ : NodeT))) (NodeT.n (putKid (⟨wJ, wK, wL, wC, wD⟩ : NodeT) wB (⟨wE, wF, wG, wH, wI⟩ : NodeT))) (NodeT.s (putKid (⟨wJ, wK, wL, wC, wD⟩ : NodeT) wB (⟨wE, wF, wG, wH, wI⟩ : NodeT))) (NodeT.keys (putKid (⟨wJ, wK, wL, wC, wD⟩ : NodeT) wB (⟨wE, wF, wG, wH, wI⟩ : NodeT))) (NodeT.kids (putKid (⟨wJ, wK, wL, wC, wD⟩ : NodeT) wB (⟨wE, wF, wG, wH, wI⟩ : NodeT))))
        none)
       (f88L0 n x0 x1 wM wJ wK wL wC wD wE wF wG wH wI m (IntKind.wrap .i64 (wB + (1 : Int)))))
      (f88L0 n x0 x1 wM wJ wK wL wC wD wE wF wG wH wI m (IntKind.wrap .i64 (wB + (1 : Int))))))
    none)
   (x1 wB (decide (wB ≤ (wD.length : Int)))))
theorem f88L0_b {R : Type} (n : Nat) (k' : Kx R) (wM : BA) (wB : Int) (wJ : Int) (wK : Int) (wL : BA) (wC : List BA) (wD : List NodeT) (wE : Int) (wF : Int) (wG : BA) (wH : List BA) (wI : List NodeT) : ev f88e f88k n (cAt [1,1,1,0,1,0,0] f88c) (f88S0 wM wB wJ wK wL wC wD wE wF wG wH wI) k' =
 (cond (decide (wB ≤ (wD.length : Int)))
 (cond (okI wB)
 (cond (sEq (digS wB) wM)
 (cond (gInto (⟨wJ, wK, wL, wC, wD⟩ : NodeT) wB (⟨wE, wF, wG, wH, wI⟩ : NodeT))
 (k' .ret (f88S1 (NodeT.kind (putKid (⟨wJ, wK, wL, wC, wD⟩ : NodeT) wB (⟨wE, wF, wG, wH, wI⟩ : NodeT))) (NodeT.n (putKid (⟨wJ, wK, wL, wC, wD⟩ : NodeT) wB (⟨wE, wF, wG, wH, wI⟩ : NodeT))) (NodeT.s (putKid (⟨wJ, wK, wL, wC, wD⟩ : NodeT) wB (⟨wE, wF, wG, wH, wI⟩ : NodeT))) (NodeT.keys (putKid (⟨wJ, wK, wL, wC, wD⟩ : NodeT) wB (⟨wE, wF, wG, wH, wI⟩ : NodeT))) (NodeT.kids (putKid (⟨wJ, wK, wL, wC, wD⟩ : NodeT) wB (⟨wE, wF, wG, wH, wI⟩ : NodeT)))))
 none)
 (cond (sEq wM (bs [45]))
 (cond (wB == (wD.length : Int))
 (cond (gInto (⟨wJ, wK, wL, wC, wD⟩ : NodeT) wB (⟨wE, wF, wG, wH, wI⟩ : NodeT))
 (k' .ret (f88S1 (NodeT.kind (putKid (⟨wJ, wK, wL, wC, wD⟩ : NodeT) wB (⟨wE, wF, wG, wH, wI⟩ : NodeT))) (NodeT.n (putKid (⟨wJ, wK, wL, wC, wD⟩ : NodeT) wB (⟨wE, wF, wG, wH, wI⟩ : NodeT))) (NodeT.s (putKid (⟨wJ, wK, wL, wC, wD⟩ : NodeT) wB (⟨wE, wF, wG, wH, wI⟩ : NodeT))) (NodeT.keys (putKid (⟨wJ, wK, wL, wC, wD⟩ : NodeT) wB (⟨wE, wF, wG, wH, wI⟩ : NodeT))) (NodeT.kids (putKid (⟨wJ, wK, wL, wC, wD⟩ : NodeT) wB (⟨wE, wF, wG, wH, wI⟩ : NodeT)))))
 none)
 (k' .normal (f88S0 wM (IntKind.wrap .i64 (wB + (1 : Int))) wJ wK wL wC wD wE wF wG wH wI)))
 (k' .normal (f88S0 wM (IntKind.wrap .i64 (wB + (1 : Int))) wJ wK wL wC wD wE wF wG wH wI))))
 none)
 (k' (.exit 0) (f88S2 wM wB (decide (wB ≤ (wD.length : Int))) wJ wK wL wC wD wE wF wG wH wI))) := by kernel_rfl
theorem f88L0_eq {R : Type} (n : Nat) (k' : Kx R) (wM : BA) (wJ : Int) (wK : Int) (wL : BA) (wC : List BA) (wD : List NodeT) (wE : Int) (wF : Int) (wG : BA) (wH : List BA) (wI : List NodeT) : ∀ (m : Nat) (wB : Int), iter (fun st k => ev f88e f88k n (cAt [1,1,1,0,1,0,0] f88c) st k) m (f88S0 wM wB wJ wK wL wC wD wE wF wG wH wI) k' = f88L0 n (fun (wS : Int) (wT : Int) (wU : BA) (wV : List BA) (wW : List NodeT) => k' .ret (f88S1 wS wT wU wV wW)) (fun (wA : Int) (wX : Bool) => k' (.exit 0) (f88S2 wM wA wX wJ wK wL wC wD wE wF wG wH wI)) wM wJ wK wL wC wD wE wF wG wH wI m wB := by
 intro m; induction m with
 | zero => intros; rfl
 | succ m ih =>
  intro wB
  simp only [iter]
  rw [f88L0_b]
  simp only [ih, f88L0]
noncomputable def f88K0 {R : Type} (n : Nat) (k' : Kx R) : Kx R := (blockK 0 (seqK f88e f88k n (cAt [1,1,1,1] f88c) k'))
theorem f88K0_x0 {R : Type} (n : Nat) (k : Kt R) (a0 : NodeT) (a1 : BA) (a2 : NodeT) (wS : Int) (wT : Int) (wU : BA) (wV : List BA) (wW : List NodeT) : f88K0 n (exitK f88e [.ro, .ro, .ro] [false, false] true [.cell 6 27, .tmp 7] [27, 4] [.d .node a0, .d .str a1, .d .node a2] k) .ret (f88S1 wS wT wU wV wW) =
 (k [.d .node (⟨wS, wT, wU, wV, wW⟩ : NodeT), .d .bool true]) := by kernel_rfl
theorem f88K0_x1 {R : Type} (n : Nat) (k : Kt R) (a0 : NodeT) (a1 : BA) (a2 : NodeT) (wM : BA) (wJ : Int) (wK : Int) (wL : BA) (wC : List BA) (wD : List NodeT) (wE : Int) (wF : Int) (wG : BA) (wH : List BA) (wI : List NodeT) (wA : Int) (wX : Bool) : f88K0 n (exitK f88e [.ro, .ro, .ro] [false, false] true [.cell 6 27, .tmp 7] [27, 4] [.d .node a0, .d .str a1, .d .node a2] k) (.exit 0) (f88S2 wM wA wX wJ wK wL wC wD wE wF wG wH wI) =
 (cond (sm_node (⟨wJ, wK, wL, wC, wD⟩ : NodeT))
 (k [.d .node (⟨wJ, wK, wL, wC, wD⟩ : NodeT), .d .bool false])
 none) := by kernel_rfl
theorem f88_run {R : Type} (n : Nat) (k : Kt R) (a0 : NodeT) (a1 : BA) (a2 : NodeT) : evFn f88e f88k n f88c [.ro, .ro, .ro] [false, false] true [.cell 6 27, .tmp 7] [27, 4] [.d .node a0, .d .str a1, .d .node a2] k =
 (cond ((NodeT.kind a0) == (5 : Int))
 (cond (((NodeT.keys a0).length : Int) == ((NodeT.kids a0).length : Int))
 (cond (gS3 (eN a0) a1 (eN a2))
 (k [.d .node (eN (setK (eN a0) a1 (eN a2))), .d .bool true])
 none)
 (cond ((NodeT.kind a0) != (4 : Int))
 (cond (sm_node (eN a0))
 (k [.d .node (eN a0), .d .bool false])
 none)
 (f88L0 n (fun (wS : Int) (wT : Int) (wU : BA) (wV : List BA) (wW : List NodeT) =>
 (k [.d .node (⟨wS, wT, wU, wV, wW⟩ : NodeT), .d .bool true])) (fun (wA : Int) (wX : Bool) =>
 (cond (sm_node (⟨(NodeT.kind a0), (NodeT.n a0), (NodeT.s a0), (NodeT.keys a0), (NodeT.kids a0)⟩ : NodeT))
 (k [.d .node (eN a0), .d .bool false])
 none)) a1 (NodeT.kind a0) (NodeT.n a0) (NodeT.s a0) (NodeT.keys a0) (NodeT.kids a0) (NodeT.kind a2) (NodeT.n a2) (NodeT.s a2) (NodeT.keys a2) (NodeT.kids a2) n (0 : Int))))
 (cond ((NodeT.kind a0) != (4 : Int))
 (cond (sm_node (eN a0))
 (k [.d .node (eN a0), .d .bool false])
 none)
 (f88L0 n (fun (wS : Int) (wT : Int) (wU : BA) (wV : List BA) (wW : List NodeT) =>
 (k [.d .node (⟨wS, wT, wU, wV, wW⟩ : NodeT), .d .bool true])) (fun (wA : Int) (wX : Bool) =>
 (cond (sm_node (⟨(NodeT.kind a0), (NodeT.n a0), (NodeT.s a0), (NodeT.keys a0), (NodeT.kids a0)⟩ : NodeT))
 (k [.d .node (eN a0), .d .bool false])
 none)) a1 (NodeT.kind a0) (NodeT.n a0) (NodeT.s a0) (NodeT.keys a0) (NodeT.kids a0) (NodeT.kind a2) (NodeT.n a2) (NodeT.s a2) (NodeT.keys a2) (NodeT.kids a2) n (0 : Int)))) := by
  refine Eq.trans (b := (cond ((NodeT.kind a0) == (5 : Int))
  (cond (((NodeT.keys a0).length : Int) == ((NodeT.kids a0).length : Int))
   (cond (gS3 (eN a0) a1 (eN a2))
    (k [.d .node (eN (setK (eN a0) a1 (eN a2))), .d .bool true])
    none)
   (cond ((NodeT.kind a0) != (4 : Int))
    (cond (sm_node (eN a0))
     (k [.d .node (eN a0), .d .bool false])
     none)
    (iter (fun st k => ev f88e f88k n (cAt [1,1,1,0,1,0,0] f88c) st k) n (f88S0 a1 (0 : Int) (NodeT.kind a0) (NodeT.n a0) (NodeT.s a0) (NodeT.keys a0) (NodeT.kids a0) (NodeT.kind a2) (NodeT.n a2) (NodeT.s a2) (NodeT.keys a2) (NodeT.kids a2)) (f88K0 n (exitK f88e [.ro, .ro, .ro] [false, false] true [.cell 6 27, .tmp 7] [27, 4] [.d .node a0, .d .str a1, .d .node a2] k)))))
  (cond ((NodeT.kind a0) != (4 : Int))
   (cond (sm_node (eN a0))
    (k [.d .node (eN a0), .d .bool false])
    none)
   (iter (fun st k => ev f88e f88k n (cAt [1,1,1,0,1,0,0] f88c) st k) n (f88S0 a1 (0 : Int) (NodeT.kind a0) (NodeT.n a0) (NodeT.s a0) (NodeT.keys a0) (NodeT.kids a0) (NodeT.kind a2) (NodeT.n a2) (NodeT.s a2) (NodeT.keys a2) (NodeT.kids a2)) (f88K0 n (exitK f88e [.ro, .ro, .ro] [false, false] true [.cell 6 27, .tmp 7] [27, 4] [.d .node a0, .d .str a1, .d .node a2] k)))))) (by kernel_rfl) ?_
  simp only [f88L0_eq, f88K0_x0, f88K0_x1]
theorem f88_spec (a0 : NodeT) (a1 : BA) (a2 : NodeT) (hg : gS3 a0 a1 a2 = true) : ∃ keep rounds, ∀ {R : Type} (k : Kt R), evFn f88e keep rounds f88c [.ro, .ro, .ro] [false, false] true [.cell 6 27, .tmp 7] [27, 4] [.d .node a0, .d .str a1, .d .node a2] k = k [.d .node ((sLast a0 a1 a2).1), .d .bool ((sLast a0 a1 a2).2)] := by
 have hg3 := hg
 simp only [gS3, Bool.and_eq_true] at hg
 obtain ⟨hg, hs1, hx2⟩ := hg
 have hg0 := hg
 rw [sm_node_def] at hg
 simp only [Bool.and_eq_true] at hg
 obtain ⟨_, _, _, hke, hki⟩ := hg
 have nke := smL_len hke
 have nki := smL_len hki
 refine ⟨f88k, a0.kids.length + 2, fun {R} k => ?_⟩
 rw [f88_run]
 simp only [eta_node, eN_eq, hg0, hg3, cond_true]
 show _ = k [.d .node (sLast a0 a1 a2).1, .d .bool (sLast a0 a1 a2).2]
 unfold sLast
 rw [putPtr_one]
 unfold putLast
 cases h5 : a0.kind == (5 : Int)
 rotate_left
 ·obtain ⟨n4, e4⟩ := bne4 h5
  cases hl : ((a0.keys.length : Int) == (a0.kids.length : Int))
  ·rw [show isMapN a0 = false by unfold isMapN; rw [h5, hl]; rfl, n4, e4]; rfl
  ·rw [show isMapN a0 = true by unfold isMapN; rw [h5, hl]; rfl]; rfl
 rw [show isMapN a0 = false by unfold isMapN; rw [h5]; rfl]
 simp only [cond_false]
 cases h4 : a0.kind == (4 : Int)
 ·rw [show (a0.kind != (4 : Int)) = true by simp only [bne, h4]; rfl]; rfl
 rw [show (a0.kind != (4 : Int)) = false by simp only [bne, h4]; rfl]
 simp only [cond_true, cond_false]
 refine Eq.trans (loop_find (n := a0.kids.length + 1) (F := fun m i => f88L0 (a0.kids.length + 2) _ _ a1 _ _ _ _ a0.kids _ _ _ _ _ m i) (p := slotP a1 a0.kids.length) (hit := fun i => k [.d .node (putKid a0 i a2), .d .bool true]) (miss := k [.d .node a0, .d .bool false])
  (fun m j hj => ?_) (fun m => ?_) (a0.kids.length + 1) 0 (a0.kids.length + 2) (by omega) (by omega)) ?_
 ·have h1 : decide ((j : Int) ≤ (a0.kids.length : Int)) = true := decide_eq_true (by omega)
  have h2 : okI (j : Int) = true := okI_of (by omega) (by omega)
  have h3 : gInto a0 (j : Int) a2 = true := by
   simp only [gInto, Bool.and_eq_true, decide_eq_true_eq]; exact ⟨hg0, hx2, by omega, by omega⟩
  have hw : IntKind.wrap .i64 ((j : Int) + 1) = ((j + 1 : Nat) : Int) := by rw [wrap_id (by omega) (by omega)]; rfl
  simp only [f88L0, eta_node, eN_eq, h1, h2, h3, hw, cond_true]
  unfold slotP
  rw [show sEq a1 (bs [45]) = sEq a1 dash from rfl]
  cases sEq (digS (j : Int)) a1
  ·cases sEq a1 dash
   ·rfl
   ·cases ((j : Int) == (a0.kids.length : Int)) <;> rfl
  ·rfl
 ·have h1 : decide (((a0.kids.length + 1 : Nat) : Int) ≤ (a0.kids.length : Int)) = false := decide_eq_false (by omega)
  simp only [f88L0, h1, cond_false]
 ·unfold slotAt
  cases hf : firstN (slotP a1 a0.kids.length) 0 (a0.kids.length + 1) with
  | none => rfl
  | some i =>
   rw [decide_eq_false (show ¬ (plc (some i) < 0) by show ¬ ((i : Int) < 0); omega)]
   rfl
noncomputable def q88 : Qt
 | [.d .node a0, .d .str a1, .d .node a2] => some ((gS3 a0 a1 a2), [.d .node ((sLast a0 a1 a2).1), .d .bool ((sLast a0 a1 a2).2)])
 | _ => none
noncomputable def s88 : Gm.Spec := Gm.Spec.of [.ro, .ro, .ro] [false, false] true q88
theorem good88 : Gm.Good Try.prog (88, s88) := by
 have hl : ∀ x ∈ [(41, s41), (59, s59), (78, s78), (104, s104)], Gm.Good Try.prog x := fcJ.2 ⟨good41, fcJ.2 ⟨good59, fcJ.2 ⟨good78, fcJ.2 ⟨good104, fcN⟩⟩⟩⟩
 refine ⟨⟨spec_ok (tab_ok.env hl) (tab.natl hl) Try.func88 (by kernel_rfl : Try.f88.body = some f88c) [27, 4] (by kernel_rfl) ?_, _, Try.func88, by kernel_rfl, of_decide_eq_true (by kernel_rfl)⟩, Gm.Spec.of_natl _ _ _ _⟩
 intro ds outs h
 unfold q88 at h
 split at h
 ·simp only [Option.some.injEq, Prod.mk.injEq] at h; obtain ⟨hg, h⟩ := h; cases h; exact f88_spec _ _ _ hg
 ·cases h
noncomputable def q47 : Qt
 | [.d .node a0, .d (.sl .str) a1, .d .node a2] => some ((gP a0 a1 a2), [.d .node ((putPtr a0 a1 a2).1), .d .bool ((putPtr a0 a1 a2).2)])
 | _ => none
noncomputable def mu47 : List Dt → Nat
 | [.d .node a0, .d (.sl .str) a1, .d .node a2] => (fun (_ : NodeT) (p : List BA) (_ : NodeT) => p.length) a0 a1 a2
 | _ => 0
noncomputable def s47r (N : Nat) : Gm.Spec := Gm.Spec.of [.ro, .ro, .ro] [false, false] true (qlt mu47 N q47)
noncomputable def f47c : Code := (Try.f47.body).getD .skip
def f47k : Nat → Kp := kat [⟨[1, 3, 5, 6], [], [], []⟩, ⟨[1, 3, 5, 6, 16], [], [], []⟩, ⟨[6, 7], [], [], []⟩, ⟨[1, 3, 5, 6, 21], [], [], []⟩, ⟨[6, 8, 9], [], [], []⟩, ⟨[6, 7], [], [], []⟩, ⟨[1, 3, 5, 6, 10], [], [], []⟩, ⟨[1, 3, 5, 6, 10, 46], [], [], []⟩, ⟨[6, 7], [], [], []⟩, ⟨[3, 6, 10, 11, 12], [], [], []⟩, ⟨[6, 10, 11, 12, 13], [], [], []⟩, ⟨[6, 10, 11, 12, 13, 63], [], [], []⟩, ⟨[6, 12, 13], [], [], []⟩, ⟨[6, 7], [], [], []⟩]
noncomputable def f47e (N : Nat) : Env := tab.env [(40, s40), (41, s41), (47, s47r N), (88, s88)]
noncomputable def f47v0 (a0 : NodeT) (a1 : List BA) (a2 : NodeT) : List NodeT :=
 ((NodeT.kids a0).set (Int.toNat (kidAt (eN a0) (atI (t := .str) a1 0))) (eN ((putPtr (eN (atI (t := .node) (NodeT.kids a0) (Int.toNat (kidAt (eN a0) (atI (t := .str) a1 0))))) ((a1.take (Int.toNat (a1.length : Int))).drop 1) (eN a2)).1)))
theorem f47_run {R : Type} (N : Nat) (n : Nat) (k : Kt R) (a0 : NodeT) (a1 : List BA) (a2 : NodeT) : evFn (f47e N) f47k n f47c [.ro, .ro, .ro] [false, false] true [.cell 6 27, .tmp 7] [27, 4] [.d .node a0, .d (.sl .str) a1, .d .node a2] k =
 (cond ((a1.length : Int) == (0 : Int))
 (cond (sm_node (eN a2))
 (k [.d .node (eN a2), .d .bool true])
 none)
 (cond ((a1.length : Int) == (1 : Int))
 (cond (decide ((0 : Int) < (a1.length : Int)))
 (cond (gS3 (eN a0) (atI (t := .str) a1 0) (eN a2))
 (k [.d .node (eN ((sLast (eN a0) (atI (t := .str) a1 0) (eN a2)).1)), .d .bool ((sLast (eN a0) (atI (t := .str) a1 0) (eN a2)).2)])
 none)
 none)
 (cond (decide ((0 : Int) < (a1.length : Int)))
 (cond ((fun (x : NodeT) (_ : BA) => sm_node x) (eN a0) (atI (t := .str) a1 0))
 (cond (decide ((kidAt (eN a0) (atI (t := .str) a1 0)) < (0 : Int)))
 (cond (sm_node (eN a0))
 (k [.d .node (eN a0), .d .bool false])
 none)
 (cond (decide ((kidAt (eN a0) (atI (t := .str) a1 0)) ≥ ((NodeT.kids a0).length : Int)))
 (cond (sm_node (eN a0))
 (k [.d .node (eN a0), .d .bool false])
 none)
 (cond ((decide ((0 : Int) ≤ (kidAt (eN a0) (atI (t := .str) a1 0)))) && (decide ((kidAt (eN a0) (atI (t := .str) a1 0)) < ((NodeT.kids a0).length : Int))))
 (cond ((decide ((1 : Int) ≤ (a1.length : Int))) && (decide ((a1.length : Int) ≤ (a1.length : Int))))
 (cond ((gP (eN (atI (t := .node) (NodeT.kids a0) (Int.toNat (kidAt (eN a0) (atI (t := .str) a1 0))))) ((a1.take (Int.toNat (a1.length : Int))).drop 1) (eN a2)) && (Nat.blt ((fun (_ : NodeT) (p : List BA) (_ : NodeT) => p.length) (eN (atI (t := .node) (NodeT.kids a0) (Int.toNat (kidAt (eN a0) (atI (t := .str) a1 0))))) ((a1.take (Int.toNat (a1.length : Int))).drop 1) (eN a2)) N))
 (cond (sm_node (eN a0))
 (cond ((putPtr (eN (atI (t := .node) (NodeT.kids a0) (Int.toNat (kidAt (eN a0) (atI (t := .str) a1 0))))) ((a1.take (Int.toNat (a1.length : Int))).drop 1) (eN a2)).2)
 (cond ((decide ((0 : Int) ≤ (kidAt (eN a0) (atI (t := .str) a1 0)))) && (decide ((kidAt (eN a0) (atI (t := .str) a1 0)) < ((NodeT.kids a0).length : Int))))
 (k [.d .node (⟨(NodeT.kind a0), (NodeT.n a0), (NodeT.s a0), (NodeT.keys a0), (f47v0 a0 a1 a2)⟩ : NodeT), .d .bool ((putPtr (eN (atI (t := .node) (NodeT.kids a0) (Int.toNat (kidAt (eN a0) (atI (t := .str) a1 0))))) ((a1.take (Int.toNat (a1.length : Int))).drop 1) (eN a2)).2)])
 none)
 (k [.d .node (eN a0), .d .bool ((putPtr (eN (atI (t := .node) (NodeT.kids a0) (Int.toNat (kidAt (eN a0) (atI (t := .str) a1 0))))) ((a1.take (Int.toNat (a1.length : Int))).drop 1) (eN a2)).2)]))
 none)
 none)
 none)
 none)))
 none)
 none))) := by kernel_rfl
theorem f47_spec (N : Nat) (a0 : NodeT) (a1 : List BA) (a2 : NodeT) (hg : gP a0 a1 a2 = true) (hm : mu47 [.d .node a0, .d (.sl .str) a1, .d .node a2] = N) : ∃ keep rounds, ∀ {R : Type} (k : Kt R), evFn (f47e N) keep rounds f47c [.ro, .ro, .ro] [false, false] true [.cell 6 27, .tmp 7] [27, 4] [.d .node a0, .d (.sl .str) a1, .d .node a2] k = k [.d .node ((putPtr a0 a1 a2).1), .d .bool ((putPtr a0 a1 a2).2)] := by
 have hm : a1.length = N := hm
 subst hm
 simp only [gP, Bool.and_eq_true] at hg
 obtain ⟨hg, hpa, hx2⟩ := hg
 have hg0 := hg
 rw [sm_node_def] at hg
 simp only [Bool.and_eq_true] at hg
 obtain ⟨_, _, _, hke, hki⟩ := hg
 have nke := smL_len hke
 have nki := smL_len hki
 refine ⟨f47k, 0, fun {R} k => ?_⟩
 rw [f47_run]
 show _ = k [.d .node (putPtr a0 a1 a2).1, .d .bool (putPtr a0 a1 a2).2]
 match a1, hpa with
 | [], _ =>
  simp only [eta_node, eN_eq, hx2]
  rfl
 | [p], hpa =>
  have l0 : decide ((0 : Int) < (([p] : List BA).length : Int)) = true := rfl
  have l5 : atI (t := .str) [p] 0 = p := rfl
  have l7 : ((([p] : List BA).length : Int) == (0 : Int)) = false := rfl
  have l8 : ((([p] : List BA).length : Int) == (1 : Int)) = true := rfl
  have hg3 : gS3 a0 p a2 = true := by simp only [gS3, Bool.and_eq_true]; exact ⟨hg0, smL_head hpa, hx2⟩
  simp only [eta_node, eN_eq, l0, l5, l7, l8, hg3, cond_true, cond_false]
  rfl
 | p :: q :: r, hpa =>
  have l0 : decide ((0 : Int) < ((p :: q :: r).length : Int)) = true := decide_eq_true (by simp only [List.length_cons]; omega)
  have l1 : (((p :: q :: r).length : Int) == (1 : Int)) = false := by rw [beq_eq_false_iff_ne]; simp only [List.length_cons]; omega
  have l2 : decide ((1 : Int) ≤ ((p :: q :: r).length : Int)) = true := decide_eq_true (by simp only [List.length_cons]; omega)
  have l3 : decide (((p :: q :: r).length : Int) ≤ ((p :: q :: r).length : Int)) = true := decide_eq_true (Int.le_refl _)
  have l4 : ((p :: q :: r).take (Int.toNat ((p :: q :: r).length : Int))).drop 1 = q :: r := by rw [Int.toNat_natCast, List.take_length]; rfl
  have l5 : atI (t := .str) (p :: q :: r) 0 = p := rfl
  have l6 : Nat.blt (q :: r).length (p :: q :: r).length = true := by rw [Nat.blt_eq]; simp only [List.length_cons]; omega
  have l7 : (((p :: q :: r).length : Int) == (0 : Int)) = false := by rw [beq_eq_false_iff_ne]; simp only [List.length_cons]; omega
  have l8 : decide (((p :: q :: r).length : Int) > (1 : Int)) = true := decide_eq_true (by simp only [List.length_cons]; omega)
  have hqr : smL smStr (q :: r) = true := smL_tail hpa
  simp only [eta_node, eN_eq, hg0, l0, l1, l5, l7, cond_true, cond_false]
  by_cases hk : kidAt a0 p < 0
  ·rw [putPtr_no a0 p q r a2 hk, decide_eq_true hk]; rfl
  rw [putPtr_deep a0 p q r a2 hk]
  obtain ⟨i, e, h1⟩ := kidAt_bd hk
  obtain ⟨i1, i0, hw, it⟩ := idx h1 (by omega)
  have d1 : decide ((i : Int) ≥ (a0.kids.length : Int)) = false := decide_eq_false (by omega)
  have hx := atI_lt (t := .node) h1
  have hgk : gP (atI (t := .node) a0.kids i) (q :: r) a2 = true := by
   simp only [gP, Bool.and_eq_true]
   exact ⟨sm_kid hg0 (List.mem_of_getElem? hx), hqr, hx2⟩
  simp only [decide_eq_false hk, f47v0, eta_node, eN_eq, l2, l3, l4, l5, l6, hgk, e, i1, i0, it, d1, Bool.and_self, cond_true, cond_false]
  cases (putPtr (atI (t := .node) a0.kids i) (q :: r) a2).2 <;> rfl
noncomputable def s47 : Gm.Spec := Gm.Spec.of [.ro, .ro, .ro] [false, false] true q47
theorem good47 : Gm.Good Try.prog (47, s47) := by
 refine ⟨⟨spec_rec mu47 fun N hr => ?_, _, Try.func47, by kernel_rfl, of_decide_eq_true (by kernel_rfl)⟩, Gm.Spec.of_natl _ _ _ _⟩
 have hl : ∀ x ∈ [(40, s40), (41, s41), (47, s47r N), (88, s88)], Gm.Good Try.prog x := fcJ.2 ⟨good40, fcJ.2 ⟨good41, fcJ.2 ⟨⟨⟨hr, _, Try.func47, by kernel_rfl, of_decide_eq_true (by kernel_rfl)⟩, Gm.Spec.of_natl _ _ _ _⟩, fcJ.2 ⟨good88, fcN⟩⟩⟩⟩
 intro R
 refine spec_ok (E := f47e N) (tab_ok.env hl) (tab.natl hl) Try.func47 (by kernel_rfl : Try.f47.body = some f47c) [27, 4] (by kernel_rfl) ?_
 intro ds outs h
 obtain ⟨h, hm⟩ := qeq_some h
 unfold q47 at h
 split at h
 ·simp only [Option.some.injEq, Prod.mk.injEq] at h; obtain ⟨hg, h⟩ := h; cases h; exact f47_spec N _ _ _ hg hm
 ·cases h
noncomputable def f87c : Code := (Try.f87.body).getD .skip
def f87k : Nat → Kp := kat [⟨[1, 2, 4], [], [], []⟩, ⟨[1, 2, 4, 8], [], [], []⟩, ⟨[4, 5], [], [], []⟩, ⟨[4, 5], [], [], []⟩]
noncomputable def f87e : Env := tab.env [(39, s39), (96, s96), (101, s101)]
theorem f87_run {R : Type} (n : Nat) (k : Kt R) (a0 : NodeT) (a1 : List BA) : evFn f87e f87k n f87c [.ro, .ro] [false, false] true [.cell 4 27, .tmp 5] [27, 4] [.d .node a0, .d (.sl .str) a1] k =
 (cond ((a1.length : Int) == (0 : Int))
 (cond (sm_node (eN a0))
 (k [.d .node (eN a0), .d .bool false])
 none)
 (cond (gW (eN a0) a1)
 (k [.d .node (eN ((cutAt (eN a0) a1).1)), .d .bool ((cutAt (eN a0) a1).2)])
 none)) := by kernel_rfl
theorem f87_spec (a0 : NodeT) (a1 : List BA) (hg : (sm_node a0 && smL smStr a1) = true) : ∃ keep rounds, ∀ {R : Type} (k : Kt R), evFn f87e keep rounds f87c [.ro, .ro] [false, false] true [.cell 4 27, .tmp 5] [27, 4] [.d .node a0, .d (.sl .str) a1] k = k [.d .node ((cutPtr a0 a1).1), .d .bool ((cutPtr a0 a1).2)] := by
 simp only [Bool.and_eq_true] at hg
 obtain ⟨hg, hpa⟩ := hg
 refine ⟨f87k, 0, fun {R} k => ?_⟩
 rw [f87_run]
 show _ = k [.d .node (cutPtr a0 a1).1, .d .bool (cutPtr a0 a1).2]
 unfold cutPtr
 cases a1 with
 | nil => simp only [eta_node, eN_eq, hg]; rfl
 | cons p r =>
  have hgw : gW a0 (p :: r) = true := by simp only [gW, Bool.and_eq_true]; exact ⟨hg, hpa, rfl⟩
  have l7 : (((p :: r).length : Int) == (0 : Int)) = false := by rw [beq_eq_false_iff_ne]; simp only [List.length_cons]; omega
  simp only [eta_node, eN_eq, hgw, l7, cond_true, cond_false]
noncomputable def q87 : Qt
 | [.d .node a0, .d (.sl .str) a1] => some (((fun (x : NodeT) (y : List BA) => sm_node x && smL smStr y) a0 a1), [.d .node ((cutPtr a0 a1).1), .d .bool ((cutPtr a0 a1).2)])
 | _ => none
noncomputable def s87 : Gm.Spec := Gm.Spec.of [.ro, .ro] [false, false] true q87
theorem good87 : Gm.Good Try.prog (87, s87) := by
 have hl : ∀ x ∈ [(39, s39), (96, s96), (101, s101)], Gm.Good Try.prog x := fcJ.2 ⟨good39, fcJ.2 ⟨good96, fcJ.2 ⟨good101, fcN⟩⟩⟩
 refine ⟨⟨spec_ok (tab_ok.env hl) (tab.natl hl) Try.func87 (by kernel_rfl : Try.f87.body = some f87c) [27, 4] (by kernel_rfl) ?_, _, Try.func87, by kernel_rfl, of_decide_eq_true (by kernel_rfl)⟩, Gm.Spec.of_natl _ _ _ _⟩
 intro ds outs h
 unfold q87 at h
 split at h
 ·simp only [Option.some.injEq, Prod.mk.injEq] at h; obtain ⟨hg, h⟩ := h; cases h; exact f87_spec _ _ hg
 ·cases h
noncomputable def q48 : Qt
 | [.d .node a0, .d (.sl .str) a1] => some (((fun (x : NodeT) (y : List BA) => sm_node x && smL smStr y) a0 a1), [.d .node ((cutPtr a0 a1).1), .d .bool ((cutPtr a0 a1).2)])
 | _ => none
noncomputable def mu48 : List Dt → Nat
 | [.d .node a0, .d (.sl .str) a1] => (fun (_ : NodeT) (p : List BA) => p.length) a0 a1
 | _ => 0
noncomputable def s48r (N : Nat) : Gm.Spec := Gm.Spec.of [.ro, .ro] [false, false] false (qlt mu48 N q48)
noncomputable def f48c : Code := (Try.f48.body).getD .skip
def f48k : Nat → Kp := kat [⟨[1, 2, 4], [], [], []⟩, ⟨[1, 2, 4, 6], [], [], []⟩, ⟨[1, 2, 4, 6, 14], [], [], []⟩, ⟨[4, 5], [], [], []⟩, ⟨[1, 2, 4, 6, 7], [], [], []⟩, ⟨[1, 2, 4, 6, 7, 29], [], [], []⟩, ⟨[4, 5], [], [], []⟩, ⟨[1, 2, 4, 6, 7, 33], [], [], []⟩, ⟨[4, 6, 7, 8, 9], [], [], []⟩, ⟨[4, 6, 7, 8, 9, 45], [], [], []⟩, ⟨[4, 6, 9], [], [], []⟩, ⟨[4, 5], [], [], []⟩, ⟨[1, 2, 4, 6, 7, 55], [], [705], []⟩, ⟨[4, 5], [], [], []⟩, ⟨[4, 6], [], [], []⟩, ⟨[4, 5], [], [], []⟩]
noncomputable def f48e (N : Nat) : Env := tab.env [(40, s40), (41, s41), (48, s48r N), (89, s89)]
noncomputable def f48v0 (a0 : NodeT) (a1 : List BA) : List NodeT :=
 ((NodeT.kids a0).set (Int.toNat (kidAt (eN a0) (atI (t := .str) a1 0))) (eN ((cutPtr (eN (atI (t := .node) (NodeT.kids a0) (Int.toNat (kidAt (eN a0) (atI (t := .str) a1 0))))) ((a1.take (Int.toNat (a1.length : Int))).drop 1)).1)))
theorem f48_run {R : Type} (N : Nat) (n : Nat) (k : Kt R) (a0 : NodeT) (a1 : List BA) : evFn (f48e N) f48k n f48c [.ro, .ro] [false, false] false [.cell 4 27, .tmp 5] [27, 4] [.d .node a0, .d (.sl .str) a1] k =
 (cond (sm_node (eN a0))
 (cond ((a1.length : Int) == (0 : Int))
 (k [.d .node (eN a0), .d .bool false])
 (cond (decide ((0 : Int) < (a1.length : Int)))
 (cond ((fun (x : NodeT) (_ : BA) => sm_node x) (eN a0) (atI (t := .str) a1 0))
 (cond (decide ((kidAt (eN a0) (atI (t := .str) a1 0)) < (0 : Int)))
 (k [.d .node (eN a0), .d .bool false])
 (cond (decide ((kidAt (eN a0) (atI (t := .str) a1 0)) ≥ ((NodeT.kids a0).length : Int)))
 (k [.d .node (eN a0), .d .bool false])
 (cond (decide ((a1.length : Int) > (1 : Int)))
 (cond ((decide ((0 : Int) ≤ (kidAt (eN a0) (atI (t := .str) a1 0)))) && (decide ((kidAt (eN a0) (atI (t := .str) a1 0)) < ((NodeT.kids a0).length : Int))))
 (cond ((decide ((1 : Int) ≤ (a1.length : Int))) && (decide ((a1.length : Int) ≤ (a1.length : Int))))
 (cond (((fun (x : NodeT) (y : List BA) => sm_node x && smL smStr y) (eN (atI (t := .node) (NodeT.kids a0) (Int.toNat (kidAt (eN a0) (atI (t := .str) a1 0))))) ((a1.take (Int.toNat (a1.length : Int))).drop 1)) && (Nat.blt ((fun (_ : NodeT) (p : List BA) => p.length) (eN (atI (t := .node) (NodeT.kids a0) (Int.toNat (kidAt (eN a0) (atI (t := .str) a1 0))))) ((a1.take (Int.toNat (a1.length : Int))).drop 1)) N))
 (cond ((cutPtr (eN (atI (t := .node) (NodeT.kids a0) (Int.toNat (kidAt (eN a0) (atI (t := .str) a1 0))))) ((a1.take (Int.toNat (a1.length : Int))).drop 1)).2)
 (cond ((decide ((0 : Int) ≤ (kidAt (eN a0) (atI (t := .str) a1 0)))) && (decide ((kidAt (eN a0) (atI (t := .str) a1 0)) < ((NodeT.kids a0).length : Int))))
 (k [.d .node (⟨(NodeT.kind a0), (NodeT.n a0), (NodeT.s a0), (NodeT.keys a0), (f48v0 a0 a1)⟩ : NodeT), .d .bool ((cutPtr (eN (atI (t := .node) (NodeT.kids a0) (Int.toNat (kidAt (eN a0) (atI (t := .str) a1 0))))) ((a1.take (Int.toNat (a1.length : Int))).drop 1)).2)])
 none)
 (k [.d .node (eN a0), .d .bool ((cutPtr (eN (atI (t := .node) (NodeT.kids a0) (Int.toNat (kidAt (eN a0) (atI (t := .str) a1 0))))) ((a1.take (Int.toNat (a1.length : Int))).drop 1)).2)]))
 none)
 none)
 none)
 (cond ((NodeT.kind a0) == (5 : Int))
 (cond (decide ((0 : Int) < (a1.length : Int)))
 (cond ((fun (x : NodeT) (_ : BA) => sm_node x) (eN a0) (atI (t := .str) a1 0))
 (k [.d .node (eN (unset (eN a0) (atI (t := .str) a1 0))), .d .bool true])
 none)
 none)
 (cond ((decide ((0 : Int) ≤ (kidAt (eN a0) (atI (t := .str) a1 0)))) && (decide ((kidAt (eN a0) (atI (t := .str) a1 0)) ≤ ((NodeT.kids a0).length : Int))))
 (cond (Nat.ble (0 + (((NodeT.kids a0).take (Int.toNat (kidAt (eN a0) (atI (t := .str) a1 0)))).drop 0).length) LIM)
 (cond ((decide ((0 : Int) ≤ (IntKind.wrap .i64 ((kidAt (eN a0) (atI (t := .str) a1 0)) + (1 : Int))))) && ((decide ((IntKind.wrap .i64 ((kidAt (eN a0) (atI (t := .str) a1 0)) + (1 : Int))) ≤ ((NodeT.kids a0).length : Int))) && (decide (((NodeT.kids a0).length : Int) ≤ ((NodeT.kids a0).length : Int)))))
 (cond (Nat.ble ((([] : List NodeT) ++ (((NodeT.kids a0).take (Int.toNat (kidAt (eN a0) (atI (t := .str) a1 0)))).drop 0)).length + (((NodeT.kids a0).take (Int.toNat ((NodeT.kids a0).length : Int))).drop (Int.toNat (IntKind.wrap .i64 ((kidAt (eN a0) (atI (t := .str) a1 0)) + (1 : Int))))).length) LIM)
 (k [.d .node (⟨(NodeT.kind a0), (NodeT.n a0), (NodeT.s a0), (NodeT.keys a0), ((([] : List NodeT) ++ (((NodeT.kids a0).take (Int.toNat (kidAt (eN a0) (atI (t := .str) a1 0)))).drop 0)) ++ (((NodeT.kids a0).take (Int.toNat ((NodeT.kids a0).length : Int))).drop (Int.toNat (IntKind.wrap .i64 ((kidAt (eN a0) (atI (t := .str) a1 0)) + (1 : Int))))))⟩ : NodeT), .d .bool true])
 none)
 none)
 none)
 none)))))
 none)
 none))
 none) := by kernel_rfl
theorem f48_spec (N : Nat) (a0 : NodeT) (a1 : List BA) (hg : (sm_node a0 && smL smStr a1) = true) (hm : mu48 [.d .node a0, .d (.sl .str) a1] = N) : ∃ keep rounds, ∀ {R : Type} (k : Kt R), evFn (f48e N) keep rounds f48c [.ro, .ro] [false, false] false [.cell 4 27, .tmp 5] [27, 4] [.d .node a0, .d (.sl .str) a1] k = k [.d .node ((cutPtr a0 a1).1), .d .bool ((cutPtr a0 a1).2)] := by
 have hm : a1.length = N := hm
 subst hm
 simp only [Bool.and_eq_true] at hg
 obtain ⟨hg, hpa⟩ := hg
 have hg0 := hg
 rw [sm_node_def] at hg
 simp only [Bool.and_eq_true] at hg
 obtain ⟨_, _, _, hke, hki⟩ := hg
 have nke := smL_len hke
 have nki := smL_len hki
 refine ⟨f48k, 0, fun {R} k => ?_⟩
 rw [f48_run]
 show _ = k [.d .node (cutPtr a0 a1).1, .d .bool (cutPtr a0 a1).2]
 match a1, hpa with
 | [], _ =>
  simp only [eta_node, eN_eq, hg0]
  rfl
 | [p], _ =>
  have l0 : decide ((0 : Int) < (([p] : List BA).length : Int)) = true := rfl
  have l5 : atI (t := .str) [p] 0 = p := rfl
  have l7 : ((([p] : List BA).length : Int) == (0 : Int)) = false := rfl
  have l8 : decide ((([p] : List BA).length : Int) > (1 : Int)) = false := rfl
  simp only [eta_node, eN_eq, hg0, l0, l5, l7, l8, cond_true, cond_false]
  by_cases hk : kidAt a0 p < 0
  ·rw [cutPtr_no a0 p [] hk, decide_eq_true hk]; rfl
  rw [cutPtr_one a0 p hk]
  obtain ⟨i, e, h1⟩ := kidAt_bd hk
  obtain ⟨i1, i0, hw, it⟩ := idx h1 (by omega)
  have d1 : decide ((i : Int) ≥ (a0.kids.length : Int)) = false := decide_eq_false (by omega)
  have d2 : decide ((i : Int) ≤ (a0.kids.length : Int)) = true := decide_eq_true (by omega)
  have d3 : decide ((0 : Int) ≤ ((i + 1 : Nat) : Int)) = true := decide_eq_true (by omega)
  have d5 : decide (((i + 1 : Nat) : Int) ≤ (a0.kids.length : Int)) = true := decide_eq_true (by omega)
  have d7 : decide ((a0.kids.length : Int) ≤ (a0.kids.length : Int)) = true := decide_eq_true (Int.le_refl _)
  rw [decide_eq_false hk]
  cases h5 : a0.kind == (5 : Int)
  ·simp only [e, hw, i0, d1, d2, d3, d5, d7, Int.toNat_natCast, List.drop_zero, List.take_length, List.nil_append, limT nki, limTD nki, Bool.and_self, cond_true, cond_false]
   rfl
  ·simp only [e, d1, cond_true, cond_false]
 | p :: q :: r, hpa =>
  have l0 : decide ((0 : Int) < ((p :: q :: r).length : Int)) = true := decide_eq_true (by simp only [List.length_cons]; omega)
  have l1 : (((p :: q :: r).length : Int) == (1 : Int)) = false := by rw [beq_eq_false_iff_ne]; simp only [List.length_cons]; omega
  have l2 : decide ((1 : Int) ≤ ((p :: q :: r).length : Int)) = true := decide_eq_true (by simp only [List.length_cons]; omega)
  have l3 : decide (((p :: q :: r).length : Int) ≤ ((p :: q :: r).length : Int)) = true := decide_eq_true (Int.le_refl _)
  have l4 : ((p :: q :: r).take (Int.toNat ((p :: q :: r).length : Int))).drop 1 = q :: r := by rw [Int.toNat_natCast, List.take_length]; rfl
  have l5 : atI (t := .str) (p :: q :: r) 0 = p := rfl
  have l6 : Nat.blt (q :: r).length (p :: q :: r).length = true := by rw [Nat.blt_eq]; simp only [List.length_cons]; omega
  have l7 : (((p :: q :: r).length : Int) == (0 : Int)) = false := by rw [beq_eq_false_iff_ne]; simp only [List.length_cons]; omega
  have l8 : decide (((p :: q :: r).length : Int) > (1 : Int)) = true := decide_eq_true (by simp only [List.length_cons]; omega)
  have hqr : smL smStr (q :: r) = true := smL_tail hpa
  simp only [eta_node, eN_eq, hg0, l0, l5, l7, l8, cond_true, cond_false]
  by_cases hk : kidAt a0 p < 0
  ·rw [cutPtr_no a0 p _ hk, decide_eq_true hk]; rfl
  rw [cutPtr_deep a0 p q r hk]
  obtain ⟨i, e, h1⟩ := kidAt_bd hk
  obtain ⟨i1, i0, hw, it⟩ := idx h1 (by omega)
  have d1 : decide ((i : Int) ≥ (a0.kids.length : Int)) = false := decide_eq_false (by omega)
  have hx := atI_lt (t := .node) h1
  have hs := sm_kid hg0 (List.mem_of_getElem? hx)
  simp only [decide_eq_false hk, f48v0, eta_node, eN_eq, l2, l3, l4, l5, l6, hs, hqr, e, i1, i0, it, d1, Bool.and_self, cond_true, cond_false]
  cases (cutPtr (atI (t := .node) a0.kids i) (q :: r)).2 <;> rfl
noncomputable def s48 : Gm.Spec := Gm.Spec.of [.ro, .ro] [false, false] false q48
theorem good48 : Gm.Good Try.prog (48, s48) := by
 refine ⟨⟨spec_rec mu48 fun N hr => ?_, _, Try.func48, by kernel_rfl, of_decide_eq_true (by kernel_rfl)⟩, Gm.Spec.of_natl _ _ _ _⟩
 have hl : ∀ x ∈ [(40, s40), (41, s41), (48, s48r N), (89, s89)], Gm.Good Try.prog x := fcJ.2 ⟨good40, fcJ.2 ⟨good41, fcJ.2 ⟨⟨⟨hr, _, Try.func48, by kernel_rfl, of_decide_eq_true (by kernel_rfl)⟩, Gm.Spec.of_natl _ _ _ _⟩, fcJ.2 ⟨good89, fcN⟩⟩⟩⟩
 intro R
 refine spec_ok (E := f48e N) (tab_ok.env hl) (tab.natl hl) Try.func48 (by kernel_rfl : Try.f48.body = some f48c) [27, 4] (by kernel_rfl) ?_
 intro ds outs h
 obtain ⟨h, hm⟩ := qeq_some h
 unfold q48 at h
 split at h
 ·simp only [Option.some.injEq, Prod.mk.injEq] at h; obtain ⟨hg, h⟩ := h; cases h; exact f48_spec N _ _ hg hm
 ·cases h
noncomputable def f94c : Code := (Try.f94.body).getD .skip
def f94k : Nat → Kp := kat [⟨[0], [], [], []⟩, ⟨[3], [], [], []⟩, ⟨[2], [], [], []⟩, ⟨[2], [], [], []⟩]
noncomputable def f94e : Env := tab.env []
theorem f94_run {R : Type} (n : Nat) (k : Kt R) (a0 : Bool) : evFn f94e f94k n f94c [.ro] [false] true [.tmp 2] [3] [.d .bool a0] k =
 (cond a0
 (k [.d (.i .i64) (1 : Int)])
 (k [.d (.i .i64) (0 : Int)])) := by kernel_rfl
theorem f94_spec (a0 : Bool) : ∃ keep rounds, ∀ {R : Type} (k : Kt R), evFn f94e keep rounds f94c [.ro] [false] true [.tmp 2] [3] [.d .bool a0] k = k [.d (.i .i64) (bitI a0)] := by
 refine ⟨f94k, 0, fun k => ?_⟩
 rw [f94_run]; unfold bitI; cases a0 <;> rfl
noncomputable def q94 : Qt
 | [.d .bool a0] => some (true, [.d (.i .i64) (bitI a0)])
 | _ => none
noncomputable def s94 : Gm.Spec := Gm.Spec.of [.ro] [false] true q94
theorem good94 : Gm.Good Try.prog (94, s94) := by
 have hl : ∀ x ∈ ([] : List (Nat × Gm.Spec)), Gm.Good Try.prog x := fun _ h => by cases h
 refine ⟨⟨spec_ok (tab_ok.env hl) (tab.natl hl) Try.func94 (by kernel_rfl : Try.f94.body = some f94c) [3] (by kernel_rfl) ?_, _, Try.func94, by kernel_rfl, of_decide_eq_true (by kernel_rfl)⟩, Gm.Spec.of_natl _ _ _ _⟩
 intro ds outs h
 unfold q94 at h
 split at h
 ·cases h; exact f94_spec _
 ·cases h
noncomputable def f79c : Code := (Try.f79.body).getD .skip
def f79k : Nat → Kp := kat [⟨[0], [], [], []⟩, ⟨[0, 2], [], [], []⟩]
noncomputable def f79e : Env := tab.env [(81, s81)]
theorem f79_run {R : Type} (n : Nat) (k : Kt R) (a0 : CurT) : evFn f79e f79k n f79c [.pmut] [false] true [.tmp 2] [9] [.d .cur a0] k =
 (cond (gPickS a0 ([(bs [97]), (bs [98]), (bs [110,97,109,101]), (bs [109,97,120]), (bs [120,32,121]), ByteArray.empty, (bs [97,58,98]), (bs [45])] : List BA))
 (k [.d .str ((curPick a0 ([(bs [97]), (bs [98]), (bs [110,97,109,101]), (bs [109,97,120]), (bs [120,32,121]), ByteArray.empty, (bs [97,58,98]), (bs [45])] : List BA)).1), .d .cur ((curPick a0 ([(bs [97]), (bs [98]), (bs [110,97,109,101]), (bs [109,97,120]), (bs [120,32,121]), ByteArray.empty, (bs [97,58,98]), (bs [45])] : List BA)).2)])
 none) := by kernel_rfl
def f79_P (a0 : CurT) (o : BA × CurT) : Prop := (fun _ o => o.1.size ≤ 4 ∧ gCur o.2 = true) a0 o ∧ ∃ n : Nat, ∀ {R : Type} (k : Kt R), evFn f79e f79k n f79c [.pmut] [false] true [.tmp 2] [9] [.d .cur a0] k = k [.d .str o.1, .d .cur o.2]
theorem f79_ex (a0 : CurT) (hg : gCur a0 = true) : ∃ o : BA × CurT, (fun _ o => o.1.size ≤ 4 ∧ gCur o.2 = true) a0 o ∧ ∃ n : Nat, ∀ {R : Type} (k : Kt R), evFn f79e f79k n f79c [.pmut] [false] true [.tmp 2] [9] [.d .cur a0] k = k [.d .str o.1, .d .cur o.2] := by
 have hp := gPickS_of (l := ([(bs [97]), (bs [98]), (bs [110,97,109,101]), (bs [109,97,120]), (bs [120,32,121]), ByteArray.empty, (bs [97,58,98]), (bs [45])] : List BA)) hg rfl
 obtain ⟨hm, g1⟩ := curPick_ok a0 _ hp
 have hz := bleN (List.all_eq_true.1 (show (([(bs [97]), (bs [98]), (bs [110,97,109,101]), (bs [109,97,120]), (bs [120,32,121]), ByteArray.empty, (bs [97,58,98]), (bs [45])] : List BA).all fun x => Nat.ble x.size 4) = true from rfl) _ hm)
 refine ⟨(?a0z0, ?a1z0), ?gz0, 0, ?rz0⟩
 case rz0 =>
  intro R k
  rw [f79_run]
  simp only [hp, cond_true, cond_false, Bool.not_true, Bool.not_false]
  exact rfl
 case gz0 => exact ⟨hz, g1⟩
theorem f79_ne (a0 : CurT) : Nonempty {o : BA × CurT // gCur a0 = true → f79_P a0 o} := by
 by_cases hg : gCur a0 = true
 ·obtain ⟨o, ho⟩ := f79_ex a0 hg
  exact ⟨⟨o, fun _ => ho⟩⟩
 ·exact ⟨⟨((zero .str), (zero .cur)), fun h => absurd h hg⟩⟩
noncomputable def tKey (a0 : CurT) : BA × CurT := (Classical.choice (f79_ne a0)).val
theorem f79_sp (a0 : CurT) (hg : gCur a0 = true) : f79_P a0 (tKey a0) := (Classical.choice (f79_ne a0)).property hg
theorem tKey_ok (a0 : CurT) (hg : gCur a0 = true) : (fun _ o => o.1.size ≤ 4 ∧ gCur o.2 = true) a0 (tKey a0) := (f79_sp a0 hg).1
theorem f79_spec (a0 : CurT) (hg : gCur a0 = true) : ∃ keep rounds, ∀ {R : Type} (k : Kt R), evFn f79e keep rounds f79c [.pmut] [false] true [.tmp 2] [9] [.d .cur a0] k = k [.d .str ((tKey a0).1), .d .cur ((tKey a0).2)] := by
 obtain ⟨n, hn⟩ := (f79_sp a0 hg).2
 exact ⟨f79k, n, hn⟩
noncomputable def q79 : Qt
 | [.d .cur a0] => some ((gCur a0), [.d .str ((tKey a0).1), .d .cur ((tKey a0).2)])
 | _ => none
noncomputable def s79 : Gm.Spec := Gm.Spec.of [.pmut] [false] true q79
theorem good79 : Gm.Good Try.prog (79, s79) := by
 have hl : ∀ x ∈ [(81, s81)], Gm.Good Try.prog x := fcJ.2 ⟨good81, fcN⟩
 refine ⟨⟨spec_ok (tab_ok.env hl) (tab.natl hl) Try.func79 (by kernel_rfl : Try.f79.body = some f79c) [9] (by kernel_rfl) ?_, _, Try.func79, by kernel_rfl, of_decide_eq_true (by kernel_rfl)⟩, Gm.Spec.of_natl _ _ _ _⟩
 intro ds outs h
 unfold q79 at h
 split at h
 ·simp only [Option.some.injEq, Prod.mk.injEq] at h; obtain ⟨hg, h⟩ := h; cases h; exact f79_spec _ hg
 ·cases h
noncomputable def f77c : Code := (Try.f77.body).getD .skip
def f77k : Nat → Kp := kat [⟨[0], [], [], []⟩, ⟨[0, 2], [], [], []⟩]
noncomputable def f77e : Env := tab.env [(81, s81)]
theorem f77_run {R : Type} (n : Nat) (k : Kt R) (a0 : CurT) : evFn f77e f77k n f77c [.pmut] [false] true [.tmp 2] [9] [.d .cur a0] k =
 (cond (gPickS a0 ([ByteArray.empty, (bs [97]), (bs [119,101,98]), (bs [116,114,117,101]), (bs [49,50]), (bs [115,97,121,32,34,110,111,34]), (bs [98,97,99,107,92]), (bs [97,58,32,98]), (bs [45,32,120]), (bs [35]), (bs [53,109]), (bs [110,117,108,108]), (bs [32,120])] : List BA))
 (k [.d .str ((curPick a0 ([ByteArray.empty, (bs [97]), (bs [119,101,98]), (bs [116,114,117,101]), (bs [49,50]), (bs [115,97,121,32,34,110,111,34]), (bs [98,97,99,107,92]), (bs [97,58,32,98]), (bs [45,32,120]), (bs [35]), (bs [53,109]), (bs [110,117,108,108]), (bs [32,120])] : List BA)).1), .d .cur ((curPick a0 ([ByteArray.empty, (bs [97]), (bs [119,101,98]), (bs [116,114,117,101]), (bs [49,50]), (bs [115,97,121,32,34,110,111,34]), (bs [98,97,99,107,92]), (bs [97,58,32,98]), (bs [45,32,120]), (bs [35]), (bs [53,109]), (bs [110,117,108,108]), (bs [32,120])] : List BA)).2)])
 none) := by kernel_rfl
def f77_P (a0 : CurT) (o : BA × CurT) : Prop := (fun _ o => o.1.size ≤ 8 ∧ gCur o.2 = true) a0 o ∧ ∃ n : Nat, ∀ {R : Type} (k : Kt R), evFn f77e f77k n f77c [.pmut] [false] true [.tmp 2] [9] [.d .cur a0] k = k [.d .str o.1, .d .cur o.2]
theorem f77_ex (a0 : CurT) (hg : gCur a0 = true) : ∃ o : BA × CurT, (fun _ o => o.1.size ≤ 8 ∧ gCur o.2 = true) a0 o ∧ ∃ n : Nat, ∀ {R : Type} (k : Kt R), evFn f77e f77k n f77c [.pmut] [false] true [.tmp 2] [9] [.d .cur a0] k = k [.d .str o.1, .d .cur o.2] := by
 have hp := gPickS_of (l := ([ByteArray.empty, (bs [97]), (bs [119,101,98]), (bs [116,114,117,101]), (bs [49,50]), (bs [115,97,121,32,34,110,111,34]), (bs [98,97,99,107,92]), (bs [97,58,32,98]), (bs [45,32,120]), (bs [35]), (bs [53,109]), (bs [110,117,108,108]), (bs [32,120])] : List BA)) hg rfl
 obtain ⟨hm, g1⟩ := curPick_ok a0 _ hp
 have hz := bleN (List.all_eq_true.1 (show (([ByteArray.empty, (bs [97]), (bs [119,101,98]), (bs [116,114,117,101]), (bs [49,50]), (bs [115,97,121,32,34,110,111,34]), (bs [98,97,99,107,92]), (bs [97,58,32,98]), (bs [45,32,120]), (bs [35]), (bs [53,109]), (bs [110,117,108,108]), (bs [32,120])] : List BA).all fun x => Nat.ble x.size 8) = true from rfl) _ hm)
 refine ⟨(?a0z0, ?a1z0), ?gz0, 0, ?rz0⟩
 case rz0 =>
  intro R k
  rw [f77_run]
  simp only [hp, cond_true, cond_false, Bool.not_true, Bool.not_false]
  exact rfl
 case gz0 => exact ⟨hz, g1⟩
theorem f77_ne (a0 : CurT) : Nonempty {o : BA × CurT // gCur a0 = true → f77_P a0 o} := by
 by_cases hg : gCur a0 = true
 ·obtain ⟨o, ho⟩ := f77_ex a0 hg
  exact ⟨⟨o, fun _ => ho⟩⟩
 ·exact ⟨⟨((zero .str), (zero .cur)), fun h => absurd h hg⟩⟩
noncomputable def tText (a0 : CurT) : BA × CurT := (Classical.choice (f77_ne a0)).val
theorem f77_sp (a0 : CurT) (hg : gCur a0 = true) : f77_P a0 (tText a0) := (Classical.choice (f77_ne a0)).property hg
theorem tText_ok (a0 : CurT) (hg : gCur a0 = true) : (fun _ o => o.1.size ≤ 8 ∧ gCur o.2 = true) a0 (tText a0) := (f77_sp a0 hg).1
theorem f77_spec (a0 : CurT) (hg : gCur a0 = true) : ∃ keep rounds, ∀ {R : Type} (k : Kt R), evFn f77e keep rounds f77c [.pmut] [false] true [.tmp 2] [9] [.d .cur a0] k = k [.d .str ((tText a0).1), .d .cur ((tText a0).2)] := by
 obtain ⟨n, hn⟩ := (f77_sp a0 hg).2
 exact ⟨f77k, n, hn⟩
noncomputable def q77 : Qt
 | [.d .cur a0] => some ((gCur a0), [.d .str ((tText a0).1), .d .cur ((tText a0).2)])
 | _ => none
noncomputable def s77 : Gm.Spec := Gm.Spec.of [.pmut] [false] true q77
theorem good77 : Gm.Good Try.prog (77, s77) := by
 have hl : ∀ x ∈ [(81, s81)], Gm.Good Try.prog x := fcJ.2 ⟨good81, fcN⟩
 refine ⟨⟨spec_ok (tab_ok.env hl) (tab.natl hl) Try.func77 (by kernel_rfl : Try.f77.body = some f77c) [9] (by kernel_rfl) ?_, _, Try.func77, by kernel_rfl, of_decide_eq_true (by kernel_rfl)⟩, Gm.Spec.of_natl _ _ _ _⟩
 intro ds outs h
 unfold q77 at h
 split at h
 ·simp only [Option.some.injEq, Prod.mk.injEq] at h; obtain ⟨hg, h⟩ := h; cases h; exact f77_spec _ hg
 ·cases h
noncomputable def f73c : Code := (Try.f73.body).getD .skip
def f73k : Nat → Kp := kat [⟨[0, 2], [], [], []⟩, ⟨[2], [], [], []⟩]
noncomputable def f73e : Env := tab.env [(94, s94)]
theorem f73_run {R : Type} (n : Nat) (k : Kt R) (a0 : Bool) : evFn f73e f73k n f73c [.ro] [false] true [.cell 2 27] [27] [.d .bool a0] k =
 (k [.d .node (⟨(1 : Int), (bitI a0), ByteArray.empty, ([] : List BA), ([] : List NodeT)⟩ : NodeT)]) := by kernel_rfl
theorem f73_spec (a0 : Bool) : ∃ keep rounds, ∀ {R : Type} (k : Kt R), evFn f73e keep rounds f73c [.ro] [false] true [.cell 2 27] [27] [.d .bool a0] k = k [.d .node (flagN a0)] := by
 refine ⟨f73k, 0, fun {R} k => ?_⟩
 rw [f73_run]
 rfl
noncomputable def q73 : Qt
 | [.d .bool a0] => some (true, [.d .node (flagN a0)])
 | _ => none
noncomputable def s73 : Gm.Spec := Gm.Spec.of [.ro] [false] true q73
theorem good73 : Gm.Good Try.prog (73, s73) := by
 have hl : ∀ x ∈ [(94, s94)], Gm.Good Try.prog x := fcJ.2 ⟨good94, fcN⟩
 refine ⟨⟨spec_ok (tab_ok.env hl) (tab.natl hl) Try.func73 (by kernel_rfl : Try.f73.body = some f73c) [27] (by kernel_rfl) ?_, _, Try.func73, by kernel_rfl, of_decide_eq_true (by kernel_rfl)⟩, Gm.Spec.of_natl _ _ _ _⟩
 intro ds outs h
 unfold q73 at h
 split at h
 ·cases h; exact f73_spec _
 ·cases h
noncomputable def f74c : Code := (Try.f74.body).getD .skip
def f74k : Nat → Kp := kat [⟨[0, 2], [], [], []⟩, ⟨[2], [], [], []⟩]
noncomputable def f74e : Env := tab.env []
theorem f74_run {R : Type} (n : Nat) (k : Kt R) (a0 : Int) : evFn f74e f74k n f74c [.ro] [false] true [.cell 2 27] [27] [.d (.i .i64) a0] k =
 (k [.d .node (⟨(2 : Int), a0, ByteArray.empty, ([] : List BA), ([] : List NodeT)⟩ : NodeT)]) := by kernel_rfl
theorem f74_spec (a0 : Int) : ∃ keep rounds, ∀ {R : Type} (k : Kt R), evFn f74e keep rounds f74c [.ro] [false] true [.cell 2 27] [27] [.d (.i .i64) a0] k = k [.d .node (intN a0)] := by
 refine ⟨f74k, 0, fun {R} k => ?_⟩
 rw [f74_run]
 rfl
noncomputable def q74 : Qt
 | [.d (.i .i64) a0] => some (true, [.d .node (intN a0)])
 | _ => none
noncomputable def s74 : Gm.Spec := Gm.Spec.of [.ro] [false] true q74
theorem good74 : Gm.Good Try.prog (74, s74) := by
 have hl : ∀ x ∈ ([] : List (Nat × Gm.Spec)), Gm.Good Try.prog x := fun _ h => by cases h
 refine ⟨⟨spec_ok (tab_ok.env hl) (tab.natl hl) Try.func74 (by kernel_rfl : Try.f74.body = some f74c) [27] (by kernel_rfl) ?_, _, Try.func74, by kernel_rfl, of_decide_eq_true (by kernel_rfl)⟩, Gm.Spec.of_natl _ _ _ _⟩
 intro ds outs h
 unfold q74 at h
 split at h
 ·cases h; exact f74_spec _
 ·cases h
noncomputable def f76c : Code := (Try.f76.body).getD .skip
def f76k : Nat → Kp := kat [⟨[0, 2], [], [], []⟩, ⟨[2], [], [], []⟩]
noncomputable def f76e : Env := tab.env []
theorem f76_run {R : Type} (n : Nat) (k : Kt R) (a0 : BA) : evFn f76e f76k n f76c [.ro] [false] true [.cell 2 27] [27] [.d .str a0] k =
 (k [.d .node (⟨(3 : Int), (0 : Int), a0, ([] : List BA), ([] : List NodeT)⟩ : NodeT)]) := by kernel_rfl
theorem f76_spec (a0 : BA) : ∃ keep rounds, ∀ {R : Type} (k : Kt R), evFn f76e keep rounds f76c [.ro] [false] true [.cell 2 27] [27] [.d .str a0] k = k [.d .node (textN a0)] := by
 refine ⟨f76k, 0, fun {R} k => ?_⟩
 rw [f76_run]
 rfl
noncomputable def q76 : Qt
 | [.d .str a0] => some (true, [.d .node (textN a0)])
 | _ => none
noncomputable def s76 : Gm.Spec := Gm.Spec.of [.ro] [false] true q76
theorem good76 : Gm.Good Try.prog (76, s76) := by
 have hl : ∀ x ∈ ([] : List (Nat × Gm.Spec)), Gm.Good Try.prog x := fun _ h => by cases h
 refine ⟨⟨spec_ok (tab_ok.env hl) (tab.natl hl) Try.func76 (by kernel_rfl : Try.f76.body = some f76c) [27] (by kernel_rfl) ?_, _, Try.func76, by kernel_rfl, of_decide_eq_true (by kernel_rfl)⟩, Gm.Spec.of_natl _ _ _ _⟩
 intro ds outs h
 unfold q76 at h
 split at h
 ·cases h; exact f76_spec _
 ·cases h
def gFam (N : Nat) (b : Bool) (c : CurT) (d : Int) : Bool := b && (gCur c && (d == (N : Int)))
noncomputable def q36r (F : CurT → NodeT × CurT) (N : Nat) (b : Bool) : Qt
 | [.d .cur a0, .d (.i .i64) a1] => some (gFam N b a0 a1, [.d .node (F a0).1, .d .cur (F a0).2])
 | _ => none
noncomputable def s36r (F : CurT → NodeT × CurT) (N : Nat) (b : Bool) : Gm.Spec := Gm.Spec.of [.pmut, .ro] [false] true (q36r F N b)
noncomputable def f36S0 (y0 : Int) (y1 : Int) (y2 : Int) (y3 : Int) (y4 : List Int) (y5 : Int) (y6 : Int) (y10 : Int) (y11 : Int) (y12 : BA) (y13 : List BA) (y14 : List NodeT) : St := ⟨[(0, .c (.one (.pt 0 0))), (1, .c (.one (.v (.int .i64 y0)))), (4, .c (.one (.pt 4 0))), (5, .c (.one (.v (.int .i64 y1)))), (6, .c (.one (.pt 6 0))), (7, .c (.one (.v (.int .i64 y2)))), (8, .c (.one (.v (.int .i64 y3))))], [(0, ⟨.cur, [.rk (.i .u8) y4, .v (.int .i64 y5), .v (.int .i64 y6)]⟩), (4, ⟨.node, [.v (.int .i64 (0 : Int)), .v (.int .i64 (0 : Int)), .v (.string ByteArray.empty), .nl, .nl]⟩), (6, ⟨.node, [.v (.int .i64 y10), .v (.int .i64 y11), .v (.string y12), .h 387 0 0 [], .h 388 0 0 []]⟩)], [(387, .live ⟨.str, .deep, 0, [], y13⟩), (388, .live ⟨.node, .deep, 0, [], y14⟩)]⟩
noncomputable def f36S1 (y0 : Int) (y1 : Int) (y2 : Int) (y3 : Int) (y4 : Bool) (y5 : List Int) (y6 : Int) (y7 : Int) (y11 : Int) (y12 : Int) (y13 : BA) (y14 : List BA) (y15 : List NodeT) : St := ⟨[(0, .c (.one (.pt 0 0))), (1, .c (.one (.v (.int .i64 y0)))), (4, .c (.one (.pt 4 0))), (5, .c (.one (.v (.int .i64 y1)))), (6, .c (.one (.pt 6 0))), (7, .c (.one (.v (.int .i64 y2)))), (8, .c (.one (.v (.int .i64 y3)))), (42, .c (.one (.v (.bool y4))))], [(0, ⟨.cur, [.rk (.i .u8) y5, .v (.int .i64 y6), .v (.int .i64 y7)]⟩), (4, ⟨.node, [.v (.int .i64 (0 : Int)), .v (.int .i64 (0 : Int)), .v (.string ByteArray.empty), .nl, .nl]⟩), (6, ⟨.node, [.v (.int .i64 y11), .v (.int .i64 y12), .v (.string y13), .h 387 0 0 [], .h 388 0 0 []]⟩)], [(387, .live ⟨.str, .deep, 0, [], y14⟩), (388, .live ⟨.node, .deep, 0, [], y15⟩)]⟩
noncomputable def f36c : Code := (Try.f36.body).getD .skip
def f36k : Nat → Kp := kat [⟨[0, 1, 4], [], [], []⟩, ⟨[0, 1, 4, 5], [], [], []⟩, ⟨[0, 1, 4, 5, 13], [], [], []⟩, ⟨[0, 1, 4, 5], [], [], []⟩, ⟨[0, 1, 4, 5, 16], [], [], []⟩, ⟨[0, 1, 4, 5, 16, 17], [], [], []⟩, ⟨[0, 4], [], [], []⟩, ⟨[0, 1, 4, 5, 16, 20], [], [], []⟩, ⟨[0, 4], [], [], []⟩, ⟨[0, 1, 4, 5, 16, 25], [], [], []⟩, ⟨[0, 4], [], [], []⟩, ⟨[0, 1, 4, 5, 31], [], [], []⟩, ⟨[0, 4], [], [], []⟩, ⟨[0, 1, 4, 5, 6], [], [], []⟩, ⟨[0, 1, 4, 5, 6, 7], [], [], []⟩, ⟨[0, 1, 4, 5, 6, 7, 8], [⟨true, false, 6, 3, .str⟩, ⟨true, false, 6, 4, .node⟩], [], []⟩, ⟨[0, 1, 4, 5, 6, 7, 8, 42], [], [], []⟩, ⟨[0, 1, 4, 5, 6, 7, 8], [], [], [(3520, 387), (3521, 388)]⟩, ⟨[0, 1, 4, 5, 6, 7, 8, 9], [], [], []⟩, ⟨[0, 1, 4, 5, 6, 7, 8, 9, 50], [], [], []⟩, ⟨[0, 1, 4, 5, 6, 7, 8], [], [], []⟩, ⟨[0, 1, 4, 5, 6, 7, 8], [], [], []⟩, ⟨[0, 4], [], [], []⟩]
noncomputable def f36e (F : CurT → NodeT × CurT) (N : Nat) (b : Bool) : Env := tab.env [(36, s36r F N b), (52, s52), (53, s53), (73, s73), (74, s74), (75, s75), (76, s76), (77, s77), (78, s78), (79, s79)]
noncomputable def f36L0 {R : Type} (F : CurT → NodeT × CurT) (N : Nat) (b : Bool) (n : Nat) (x0 : Int → Bool → (List Int) → Int → Int → Int → Int → BA → (List BA) → (List NodeT) → Option R) (wK : Int) (wL : Int) (wI : Int) : Nat → Int → (List Int) → Int → Int → Int → Int → BA → (List BA) → (List NodeT) → Option R
  | 0, _, _, _, _, _, _, _, _, _ => none
  | m + 1, wJ, wA, wB, wC, wE, wF, wG, wH, wD =>
    (cond (decide (wJ < wI))
   (cond (gFam N b (⟨wA, wB, wC⟩ : CurT) (IntKind.wrap .i64 (wK - (1 : Int))))
    (cond (wL == (5 : Int))
     (cond (gCur ((F (⟨wA, wB, wC⟩ : CurT)).2))
      (cond (gS3 (⟨wE, wF, wG, wH, wD⟩ : NodeT) ((tKey ((F (⟨wA, wB, wC⟩ : CurT)).2)).1) (eN ((F (⟨wA, wB, wC⟩ : CurT)).1)))
       (f36L0 F N b n x0 wK wL wI m (IntKind.wrap .i64 (wJ + (1 : Int))) (CurT.b ((tKey ((F (⟨wA, wB, wC⟩ : CurT)).2)).2)) (CurT.i ((tKey ((F (⟨wA, wB, wC⟩ : CurT)).2)).2)) (CurT.h ((tKey ((F (⟨wA, wB, wC⟩ : CurT)).2)).2)) (NodeT.kind (setK (⟨wE, wF, wG, wH, wD⟩ : NodeT) ((tKey ((F (⟨wA, wB, wC⟩ : CurT)).2)).1) (eN ((F (⟨wA, wB, wC⟩ : CurT)).1)))) (NodeT.n (setK (⟨wE, wF, wG, wH, wD⟩ : NodeT) ((tKey ((F (⟨wA, wB, wC⟩ : CurT)).2)).1) (eN ((F (⟨wA, wB, wC⟩ : CurT)).1)))) (NodeT.s (setK (⟨wE, wF, wG, wH, wD⟩ : NodeT) ((tKey ((F (⟨wA, wB, wC⟩ : CurT)).2)).1) (eN ((F (⟨wA, wB, wC⟩ : CurT)).1)))) (NodeT.keys (setK (⟨wE, wF, wG, wH, wD⟩ : NodeT) ((tKey ((F (⟨wA, wB, wC⟩ : CurT)).2)).1) (eN ((F (⟨wA, wB, wC⟩ : CurT)).1)))) (NodeT.kids (setK (⟨wE, wF, wG, wH, wD⟩ : NodeT) ((tKey ((F (⟨wA, wB, wC⟩ : CurT)).2)).1) (eN ((F (⟨wA, wB, wC⟩ : CurT)).1)))))
       none)
      none)
     (cond (Nat.ble (wD.length + 1) LIM)
      (f36L0 F N b n x0 wK wL wI m (IntKind.wrap .i64 (wJ + (1 : Int))) (CurT.b ((F (⟨wA, wB, wC⟩ : CurT)).2)) (CurT.i ((F (⟨wA, wB, wC⟩ : CurT)).2)) (CurT.h ((F (⟨wA, wB, wC⟩ : CurT)).2)) wE wF wG wH (wD ++ ([(eN ((F (⟨wA, wB, wC⟩ : CurT)).1))] : List NodeT)))
      none))
    none)
   (x0 wJ (decide (wJ < wI)) wA wB wC wE wF wG wH wD))
theorem f36L0_b {R : Type} (F : CurT → NodeT × CurT) (N : Nat) (b : Bool) (n : Nat) (k' : Kx R) (wK : Int) (wL : Int) (wI : Int) (wJ : Int) (wA : List Int) (wB : Int) (wC : Int) (wE : Int) (wF : Int) (wG : BA) (wH : List BA) (wD : List NodeT) : ev (f36e F N b) f36k n (cAt [1,1,1,1,1,1,0,1,0,0] f36c) (f36S0 wK wL wI wJ wA wB wC wE wF wG wH wD) k' =
 (cond (decide (wJ < wI))
 (cond (gFam N b (⟨wA, wB, wC⟩ : CurT) (IntKind.wrap .i64 (wK - (1 : Int))))
 (cond (wL == (5 : Int))
 (cond (gCur ((F (⟨wA, wB, wC⟩ : CurT)).2))
 (cond (gS3 (⟨wE, wF, wG, wH, wD⟩ : NodeT) ((tKey ((F (⟨wA, wB, wC⟩ : CurT)).2)).1) (eN ((F (⟨wA, wB, wC⟩ : CurT)).1)))
 (k' .normal (f36S0 wK wL wI (IntKind.wrap .i64 (wJ + (1 : Int))) (CurT.b ((tKey ((F (⟨wA, wB, wC⟩ : CurT)).2)).2)) (CurT.i ((tKey ((F (⟨wA, wB, wC⟩ : CurT)).2)).2)) (CurT.h ((tKey ((F (⟨wA, wB, wC⟩ : CurT)).2)).2)) (NodeT.kind (setK (⟨wE, wF, wG, wH, wD⟩ : NodeT) ((tKey ((F (⟨wA, wB, wC⟩ : CurT)).2)).1) (eN ((F (⟨wA, wB, wC⟩ : CurT)).1)))) (NodeT.n (setK (⟨wE, wF, wG, wH, wD⟩ : NodeT) ((tKey ((F (⟨wA, wB, wC⟩ : CurT)).2)).1) (eN ((F (⟨wA, wB, wC⟩ : CurT)).1)))) (NodeT.s (setK (⟨wE, wF, wG, wH, wD⟩ : NodeT) ((tKey ((F (⟨wA, wB, wC⟩ : CurT)).2)).1) (eN ((F (⟨wA, wB, wC⟩ : CurT)).1)))) (NodeT.keys (setK (⟨wE, wF, wG, wH, wD⟩ : NodeT) ((tKey ((F (⟨wA, wB, wC⟩ : CurT)).2)).1) (eN ((F (⟨wA, wB, wC⟩ : CurT)).1)))) (NodeT.kids (setK (⟨wE, wF, wG, wH, wD⟩ : NodeT) ((tKey ((F (⟨wA, wB, wC⟩ : CurT)).2)).1) (eN ((F (⟨wA, wB, wC⟩ : CurT)).1))))))
 none)
 none)
 (cond (Nat.ble (wD.length + 1) LIM)
 (k' .normal (f36S0 wK wL wI (IntKind.wrap .i64 (wJ + (1 : Int))) (CurT.b ((F (⟨wA, wB, wC⟩ : CurT)).2)) (CurT.i ((F (⟨wA, wB, wC⟩ : CurT)).2)) (CurT.h ((F (⟨wA, wB, wC⟩ : CurT)).2)) wE wF wG wH (wD ++ ([(eN ((F (⟨wA, wB, wC⟩ : CurT)).1))] : List NodeT))))
 none))
 none)
 (k' (.exit 1) (f36S1 wK wL wI wJ (decide (wJ < wI)) wA wB wC wE wF wG wH wD))) := by kernel_rfl
theorem f36L0_eq {R : Type} (F : CurT → NodeT × CurT) (N : Nat) (b : Bool) (n : Nat) (k' : Kx R) (wK : Int) (wL : Int) (wI : Int) : ∀ (m : Nat) (wJ : Int) (wA : List Int) (wB : Int) (wC : Int) (wE : Int) (wF : Int) (wG : BA) (wH : List BA) (wD : List NodeT), iter (fun st k => ev (f36e F N b) f36k n (cAt [1,1,1,1,1,1,0,1,0,0] f36c) st k) m (f36S0 wK wL wI wJ wA wB wC wE wF wG wH wD) k' = f36L0 F N b n (fun (wU : Int) (wV : Bool) (wM : List Int) (wN : Int) (wO : Int) (wP : Int) (wQ : Int) (wR : BA) (wS : List BA) (wT : List NodeT) => k' (.exit 1) (f36S1 wK wL wI wU wV wM wN wO wP wQ wR wS wT)) wK wL wI m wJ wA wB wC wE wF wG wH wD := by
 intro m; induction m with
 | zero => intros; rfl
 | succ m ih =>
  intro wJ wA wB wC wE wF wG wH wD
  simp only [iter]
  rw [f36L0_b]
  simp only [ih, f36L0]
noncomputable def f36K0 {R : Type} (F : CurT → NodeT × CurT) (N : Nat) (b : Bool) (n : Nat) (k' : Kx R) : Kx R := (blockK 1 (seqK (f36e F N b) f36k n (cAt [1,1,1,1,1,1,1] f36c) k'))
theorem f36K0_x0 {R : Type} (F : CurT → NodeT × CurT) (N : Nat) (b : Bool) (n : Nat) (k : Kt R) (a0 : CurT) (a1 : Int) (wK : Int) (wL : Int) (wI : Int) (wU : Int) (wV : Bool) (wM : List Int) (wN : Int) (wO : Int) (wP : Int) (wQ : Int) (wR : BA) (wS : List BA) (wT : List NodeT) : f36K0 F N b n (exitK (f36e F N b) [.pmut, .ro] [false] true [.cell 4 27] [27] [.d .cur a0, .d (.i .i64) a1] k) (.exit 1) (f36S1 wK wL wI wU wV wM wN wO wP wQ wR wS wT) =
 (k [.d .node (⟨wP, wQ, wR, wS, wT⟩ : NodeT), .d .cur (⟨wM, wN, wO⟩ : CurT)]) := by kernel_rfl
theorem f36_run {R : Type} (F : CurT → NodeT × CurT) (N : Nat) (b : Bool) (n : Nat) (k : Kt R) (a0 : CurT) (a1 : Int) : evFn (f36e F N b) f36k n f36c [.pmut, .ro] [false] true [.cell 4 27] [27] [.d .cur a0, .d (.i .i64) a1] k =
 (cond ((fun c _ => gCur c) a0 (6 : Int))
 (cond (a1 == (0 : Int))
 (cond ((fun c _ => gCur c) ((curBelow a0 (6 : Int)).2) (4 : Int))
 (cond (((curBelow ((curBelow a0 (6 : Int)).2) (4 : Int)).1) == (0 : Int))
 (k [.d .node (⟨(0 : Int), (0 : Int), ByteArray.empty, ([] : List BA), ([] : List NodeT)⟩ : NodeT), .d .cur ((curBelow ((curBelow a0 (6 : Int)).2) (4 : Int)).2)])
 (cond (((curBelow ((curBelow a0 (6 : Int)).2) (4 : Int)).1) == (1 : Int))
 (cond ((fun c _ => gCur c) ((curBelow ((curBelow a0 (6 : Int)).2) (4 : Int)).2) (2 : Int))
 (k [.d .node (eN (flagN ((curOnce ((curBelow ((curBelow a0 (6 : Int)).2) (4 : Int)).2) (2 : Int)).1))), .d .cur ((curOnce ((curBelow ((curBelow a0 (6 : Int)).2) (4 : Int)).2) (2 : Int)).2)])
 none)
 (cond (((curBelow ((curBelow a0 (6 : Int)).2) (4 : Int)).1) == (2 : Int))
 (cond (gPickI ((curBelow ((curBelow a0 (6 : Int)).2) (4 : Int)).2) ([(0 : Int), (7 : Int), (-3 : Int), (1000 : Int), (1000000000000 : Int)] : List Int))
 (k [.d .node (eN (intN ((curPickI ((curBelow ((curBelow a0 (6 : Int)).2) (4 : Int)).2) ([(0 : Int), (7 : Int), (-3 : Int), (1000 : Int), (1000000000000 : Int)] : List Int)).1))), .d .cur ((curPickI ((curBelow ((curBelow a0 (6 : Int)).2) (4 : Int)).2) ([(0 : Int), (7 : Int), (-3 : Int), (1000 : Int), (1000000000000 : Int)] : List Int)).2)])
 none)
 (cond (((curBelow ((curBelow a0 (6 : Int)).2) (4 : Int)).1) == (3 : Int))
 (cond (gCur ((curBelow ((curBelow a0 (6 : Int)).2) (4 : Int)).2))
 (k [.d .node (eN (textN ((tText ((curBelow ((curBelow a0 (6 : Int)).2) (4 : Int)).2)).1))), .d .cur ((tText ((curBelow ((curBelow a0 (6 : Int)).2) (4 : Int)).2)).2)])
 none)
 (cond ((fun c _ => gCur c) ((curBelow ((curBelow a0 (6 : Int)).2) (4 : Int)).2) (4 : Int))
 (f36L0 F N b n (fun (wU : Int) (wV : Bool) (wM : List Int) (wN : Int) (wO : Int) (wP : Int) (wQ : Int) (wR : BA) (wS : List BA) (wT : List NodeT) =>
 (k [.d .node (⟨wP, wQ, wR, wS, wT⟩ : NodeT), .d .cur (⟨wM, wN, wO⟩ : CurT)])) a1 ((curBelow ((curBelow a0 (6 : Int)).2) (4 : Int)).1) ((curBelow ((curBelow ((curBelow a0 (6 : Int)).2) (4 : Int)).2) (4 : Int)).1) n (0 : Int) (CurT.b ((curBelow ((curBelow ((curBelow a0 (6 : Int)).2) (4 : Int)).2) (4 : Int)).2)) (CurT.i ((curBelow ((curBelow ((curBelow a0 (6 : Int)).2) (4 : Int)).2) (4 : Int)).2)) (CurT.h ((curBelow ((curBelow ((curBelow a0 (6 : Int)).2) (4 : Int)).2) (4 : Int)).2)) ((curBelow ((curBelow a0 (6 : Int)).2) (4 : Int)).1) (0 : Int) ByteArray.empty ([] : List BA) ([] : List NodeT))
 none)))))
 none)
 (cond (((curBelow a0 (6 : Int)).1) == (0 : Int))
 (k [.d .node (⟨(0 : Int), (0 : Int), ByteArray.empty, ([] : List BA), ([] : List NodeT)⟩ : NodeT), .d .cur ((curBelow a0 (6 : Int)).2)])
 (cond (((curBelow a0 (6 : Int)).1) == (1 : Int))
 (cond ((fun c _ => gCur c) ((curBelow a0 (6 : Int)).2) (2 : Int))
 (k [.d .node (eN (flagN ((curOnce ((curBelow a0 (6 : Int)).2) (2 : Int)).1))), .d .cur ((curOnce ((curBelow a0 (6 : Int)).2) (2 : Int)).2)])
 none)
 (cond (((curBelow a0 (6 : Int)).1) == (2 : Int))
 (cond (gPickI ((curBelow a0 (6 : Int)).2) ([(0 : Int), (7 : Int), (-3 : Int), (1000 : Int), (1000000000000 : Int)] : List Int))
 (k [.d .node (eN (intN ((curPickI ((curBelow a0 (6 : Int)).2) ([(0 : Int), (7 : Int), (-3 : Int), (1000 : Int), (1000000000000 : Int)] : List Int)).1))), .d .cur ((curPickI ((curBelow a0 (6 : Int)).2) ([(0 : Int), (7 : Int), (-3 : Int), (1000 : Int), (1000000000000 : Int)] : List Int)).2)])
 none)
 (cond (((curBelow a0 (6 : Int)).1) == (3 : Int))
 (cond (gCur ((curBelow a0 (6 : Int)).2))
 (k [.d .node (eN (textN ((tText ((curBelow a0 (6 : Int)).2)).1))), .d .cur ((tText ((curBelow a0 (6 : Int)).2)).2)])
 none)
 (cond ((fun c _ => gCur c) ((curBelow a0 (6 : Int)).2) (4 : Int))
 (f36L0 F N b n (fun (wU : Int) (wV : Bool) (wM : List Int) (wN : Int) (wO : Int) (wP : Int) (wQ : Int) (wR : BA) (wS : List BA) (wT : List NodeT) =>
 (k [.d .node (⟨wP, wQ, wR, wS, wT⟩ : NodeT), .d .cur (⟨wM, wN, wO⟩ : CurT)])) a1 ((curBelow a0 (6 : Int)).1) ((curBelow ((curBelow a0 (6 : Int)).2) (4 : Int)).1) n (0 : Int) (CurT.b ((curBelow ((curBelow a0 (6 : Int)).2) (4 : Int)).2)) (CurT.i ((curBelow ((curBelow a0 (6 : Int)).2) (4 : Int)).2)) (CurT.h ((curBelow ((curBelow a0 (6 : Int)).2) (4 : Int)).2)) ((curBelow a0 (6 : Int)).1) (0 : Int) ByteArray.empty ([] : List BA) ([] : List NodeT))
 none))))))
 none) := by
  refine Eq.trans (b := (cond ((fun c _ => gCur c) a0 (6 : Int))
  (cond (a1 == (0 : Int))
   (cond ((fun c _ => gCur c) ((curBelow a0 (6 : Int)).2) (4 : Int))
    (cond (((curBelow ((curBelow a0 (6 : Int)).2) (4 : Int)).1) == (0 : Int))
     (k [.d .node (⟨(0 : Int), (0 : Int), ByteArray.empty, ([] : List BA), ([] : List NodeT)⟩ : NodeT), .d .cur ((curBelow ((curBelow a0 (6 : Int)).2) (4 : Int)).2)])
     (cond (((curBelow ((curBelow a0 (6 : Int)).2) (4 : Int)).1) == (1 : Int))
      (cond ((fun c _ => gCur c) ((curBelow ((curBelow a0 (6 : Int)).2) (4 : Int)).2) (2 : Int))
       (k [.d .node (eN (flagN ((curOnce ((curBelow ((curBelow a0 (6 : Int)).2) (4 : Int)).2) (2 : Int)).1))), .d .cur ((curOnce ((curBelow ((curBelow a0 (6 : Int)).2) (4 : Int)).2) (2 : Int)).2)])
       none)
      (cond (((curBelow ((curBelow a0 (6 : Int)).2) (4 : Int)).1) == (2 : Int))
       (cond (gPickI ((curBelow ((curBelow a0 (6 : Int)).2) (4 : Int)).2) ([(0 : Int), (7 : Int), (-3 : Int), (1000 : Int), (1000000000000 : Int)] : List Int))
        (k [.d .node (eN (intN ((curPickI ((curBelow ((curBelow a0 (6 : Int)).2) (4 : Int)).2) ([(0 : Int), (7 : Int), (-3 : Int), (1000 : Int), (1000000000000 : Int)] : List Int)).1))), .d .cur ((curPickI ((curBelow ((curBelow a0 (6 : Int)).2) (4 : Int)).2) ([(0 : Int), (7 : Int), (-3 : Int), (1000 : Int), (1000000000000 : Int)] : List Int)).2)])
        none)
       (cond (((curBelow ((curBelow a0 (6 : Int)).2) (4 : Int)).1) == (3 : Int))
        (cond (gCur ((curBelow ((curBelow a0 (6 : Int)).2) (4 : Int)).2))
         (k [.d .node (eN (textN ((tText ((curBelow ((curBelow a0 (6 : Int)).2) (4 : Int)).2)).1))), .d .cur ((tText ((curBelow ((curBelow a0 (6 : Int)).2) (4 : Int)).2)).2)])
         none)
        (cond ((fun c _ => gCur c) ((curBelow ((curBelow a0 (6 : Int)).2) (4 : Int)).2) (4 : Int))
         (iter (fun st k => ev (f36e F N b) f36k n (cAt [1,1,1,1,1,1,0,1,0,0] f36c) st k) n (f36S0 a1 ((curBelow ((curBelow a0 (6 : Int)).2) (4 : Int)).1) ((curBelow ((curBelow ((curBelow a0 (6 : Int)).2) (4 : Int)).2) (4 : Int)).1) (0 : Int) (CurT.b ((curBelow ((curBelow ((curBelow a0 (6 : Int)).2) (4 : Int)).2) (4 : Int)).2)) (CurT.i ((curBelow ((curBelow ((curBelow a0 (6 : Int)).2) (4 : Int)).2) (4 : Int)).2)) (CurT.h ((curBelow ((curBelow ((curBelow a0 (6 : Int)).2) (4 : Int)).2) (4 : Int)).2)) ((curBelow ((curBelow a0 (6 : Int)).2) (4 : Int)).1) (0 : Int) ByteArray.empty ([] : List BA) ([] : List NodeT)) (f36K0 F N b n (exitK (f36e F N b) [.pmut, .ro] [false] true [.cell 4 27] [27] [.d .cur a0, .d (.i .i64) a1] k)))
         none)))))
    none)
   (cond (((curBelow a0 (6 : Int)).1) == (0 : Int))
    (k [.d .node (⟨(0 : Int), (0 : Int), ByteArray.empty, ([] : List BA), ([] : List NodeT)⟩ : NodeT), .d .cur ((curBelow a0 (6 : Int)).2)])
    (cond (((curBelow a0 (6 : Int)).1) == (1 : Int))
     (cond ((fun c _ => gCur c) ((curBelow a0 (6 : Int)).2) (2 : Int))
      (k [.d .node (eN (flagN ((curOnce ((curBelow a0 (6 : Int)).2) (2 : Int)).1))), .d .cur ((curOnce ((curBelow a0 (6 : Int)).2) (2 : Int)).2)])
      none)
     (cond (((curBelow a0 (6 : Int)).1) == (2 : Int))
      (cond (gPickI ((curBelow a0 (6 : Int)).2) ([(0 : Int), (7 : Int), (-3 : Int), (1000 : Int), (1000000000000 : Int)] : List Int))
       (k [.d .node (eN (intN ((curPickI ((curBelow a0 (6 : Int)).2) ([(0 : Int), (7 : Int), (-3 : Int), (1000 : Int), (1000000000000 : Int)] : List Int)).1))), .d .cur ((curPickI ((curBelow a0 (6 : Int)).2) ([(0 : Int), (7 : Int), (-3 : Int), (1000 : Int), (1000000000000 : Int)] : List Int)).2)])
       none)
      (cond (((curBelow a0 (6 : Int)).1) == (3 : Int))
       (cond (gCur ((curBelow a0 (6 : Int)).2))
        (k [.d .node (eN (textN ((tText ((curBelow a0 (6 : Int)).2)).1))), .d .cur ((tText ((curBelow a0 (6 : Int)).2)).2)])
        none)
       (cond ((fun c _ => gCur c) ((curBelow a0 (6 : Int)).2) (4 : Int))
        (iter (fun st k => ev (f36e F N b) f36k n (cAt [1,1,1,1,1,1,0,1,0,0] f36c) st k) n (f36S0 a1 ((curBelow a0 (6 : Int)).1) ((curBelow ((curBelow a0 (6 : Int)).2) (4 : Int)).1) (0 : Int) (CurT.b ((curBelow ((curBelow a0 (6 : Int)).2) (4 : Int)).2)) (CurT.i ((curBelow ((curBelow a0 (6 : Int)).2) (4 : Int)).2)) (CurT.h ((curBelow ((curBelow a0 (6 : Int)).2) (4 : Int)).2)) ((curBelow a0 (6 : Int)).1) (0 : Int) ByteArray.empty ([] : List BA) ([] : List NodeT)) (f36K0 F N b n (exitK (f36e F N b) [.pmut, .ro] [false] true [.cell 4 27] [27] [.d .cur a0, .d (.i .i64) a1] k)))
        none))))))
  none)) (by kernel_rfl) ?_
  simp only [f36L0_eq, f36K0_x0]
theorem f36_ex0 (F : CurT → NodeT × CurT) (N : Nat) (b : Bool) (a0 : CurT) (hg : gCur a0 = true) : ∃ o : NodeT × CurT, (GT 0 o.1 ∧ gCur o.2 = true) ∧ ∃ n : Nat, ∀ {R : Type} (k : Kt R), evFn (f36e F N b) f36k n f36c [.pmut, .ro] [false] true [.cell 4 27] [27] [.d .cur a0, .d (.i .i64) (0 : Int)] k = k [.d .node o.1, .d .cur o.2] := by
 obtain ⟨_, _, g1⟩ := curBelow_ok a0 6 hg
 obtain ⟨x0, x1, g2⟩ := curBelow_ok (curBelow a0 6).2 4 g1
 have x1 := x1 (by omega)
 have hz : ((0 : Int) == (0 : Int)) = true := rfl
 cases e0 : ((curBelow (curBelow a0 6).2 4).1 == (0 : Int))
 rotate_left
 ·skip
  refine ⟨(?za0, ?zb0), ?zg0, 0, ?zr0⟩
  case zr0 =>
   intro R k
   rw [f36_run]
   simp only [hg, g1, g2, hz, e0, cond_true, cond_false]
   exact rfl
  case zg0 => exact ⟨GT_leaf _ rfl rfl (by decide), g2⟩
 cases e1 : ((curBelow (curBelow a0 6).2 4).1 == (1 : Int))
 rotate_left
 ·have h1 := curOnce_ok (curBelow (curBelow a0 6).2 4).2 2 g2
  refine ⟨(?za1, ?zb1), ?zg1, 0, ?zr1⟩
  case zr1 =>
   intro R k
   rw [f36_run]
   simp only [hg, g1, g2, hz, e0, e1, cond_true, cond_false]
   exact rfl
  case zg1 => exact ⟨flagN_ok _ _, h1⟩
 cases e2 : ((curBelow (curBelow a0 6).2 4).1 == (2 : Int))
 rotate_left
 ·have hp := gPickI_of (l := ([(0 : Int), (7 : Int), (-3 : Int), (1000 : Int), (1000000000000 : Int)] : List Int)) g2 rfl
  obtain ⟨hm, h1⟩ := curPickI_ok (curBelow (curBelow a0 6).2 4).2 _ hp
  refine ⟨(?za2, ?zb2), ?zg2, 0, ?zr2⟩
  case zr2 =>
   intro R k
   rw [f36_run]
   simp only [hg, g1, g2, hz, e0, e1, e2, hp, cond_true, cond_false]
   exact rfl
  case zg2 => exact ⟨intN_ok _ (List.all_eq_true.1 (show (([(0 : Int), (7 : Int), (-3 : Int), (1000 : Int), (1000000000000 : Int)] : List Int).all okI) = true from rfl) _ hm), h1⟩
 cases e3 : ((curBelow (curBelow a0 6).2 4).1 == (3 : Int))
 rotate_left
 ·obtain ⟨hz, h1⟩ := tText_ok (curBelow (curBelow a0 6).2 4).2 g2
  refine ⟨(?za3, ?zb3), ?zg3, 0, ?zr3⟩
  case zr3 =>
   intro R k
   rw [f36_run]
   simp only [hg, g1, g2, hz, e0, e1, e2, e3, cond_true, cond_false]
   exact rfl
  case zg3 => exact ⟨textN_ok _ hz, h1⟩
 exfalso
 rw [beq_eq_false_iff_ne] at e0 e1 e2 e3
 omega
theorem f36_exS (F : CurT → NodeT × CurT) (N : Nat) (hN : N + 1 ≤ 6) (hF : ∀ c, gCur c = true → GT N (F c).1 ∧ gCur (F c).2 = true) (a0 : CurT) (hg : gCur a0 = true) : ∃ o : NodeT × CurT, (GT (N + 1) o.1 ∧ gCur o.2 = true) ∧ ∃ n : Nat, ∀ {R : Type} (k : Kt R), evFn (f36e F N true) f36k n f36c [.pmut, .ro] [false] true [.cell 4 27] [27] [.d .cur a0, .d (.i .i64) ((N + 1 : Nat) : Int)] k = k [.d .node o.1, .d .cur o.2] := by
 obtain ⟨x0, x1, g1⟩ := curBelow_ok a0 6 hg
 have x1 := x1 (by omega)
 have hz : (((N + 1 : Nat) : Int) == (0 : Int)) = false := by rw [beq_eq_false_iff_ne]; omega
 cases e0 : ((curBelow a0 6).1 == (0 : Int))
 rotate_left
 ·skip
  refine ⟨(?za4, ?zb4), ?zg4, 0, ?zr4⟩
  case zr4 =>
   intro R k
   rw [f36_run]
   simp only [hg, g1, hz, e0, cond_true, cond_false]
   exact rfl
  case zg4 => exact ⟨GT_leaf _ rfl rfl (by decide), g1⟩
 cases e1 : ((curBelow a0 6).1 == (1 : Int))
 rotate_left
 ·have h1 := curOnce_ok (curBelow a0 6).2 2 g1
  refine ⟨(?za5, ?zb5), ?zg5, 0, ?zr5⟩
  case zr5 =>
   intro R k
   rw [f36_run]
   simp only [hg, g1, hz, e0, e1, cond_true, cond_false]
   exact rfl
  case zg5 => exact ⟨flagN_ok _ _, h1⟩
 cases e2 : ((curBelow a0 6).1 == (2 : Int))
 rotate_left
 ·have hp := gPickI_of (l := ([(0 : Int), (7 : Int), (-3 : Int), (1000 : Int), (1000000000000 : Int)] : List Int)) g1 rfl
  obtain ⟨hm, h1⟩ := curPickI_ok (curBelow a0 6).2 _ hp
  refine ⟨(?za6, ?zb6), ?zg6, 0, ?zr6⟩
  case zr6 =>
   intro R k
   rw [f36_run]
   simp only [hg, g1, hz, e0, e1, e2, hp, cond_true, cond_false]
   exact rfl
  case zg6 => exact ⟨intN_ok _ (List.all_eq_true.1 (show (([(0 : Int), (7 : Int), (-3 : Int), (1000 : Int), (1000000000000 : Int)] : List Int).all okI) = true from rfl) _ hm), h1⟩
 cases e3 : ((curBelow a0 6).1 == (3 : Int))
 rotate_left
 ·obtain ⟨hz, h1⟩ := tText_ok (curBelow a0 6).2 g1
  refine ⟨(?za7, ?zb7), ?zg7, 0, ?zr7⟩
  case zr7 =>
   intro R k
   rw [f36_run]
   simp only [hg, g1, hz, e0, e1, e2, e3, cond_true, cond_false]
   exact rfl
  case zg7 => exact ⟨textN_ok _ hz, h1⟩
 obtain ⟨y0, y1, g2⟩ := curBelow_ok (curBelow a0 6).2 4 g1
 have y1 := y1 (by omega)
 have hpow : 4 ^ N ≤ 4 ^ 5 := Nat.pow_le_pow_right (by decide) (by omega)
 have hk : (curBelow a0 6).1 = 4 ∨ (curBelow a0 6).1 = 5 := by
  rw [beq_eq_false_iff_ne] at e0 e1 e2 e3
  omega
 have hw1 : IntKind.wrap .i64 (((N + 1 : Nat) : Int) - (1 : Int)) = (N : Int) := by rw [wrap_id (by omega) (by omega)]; omega
 have key : ∀ (kind nn : Int), (kind = 4 ∨ kind = 5) → nn < 4 → ∀ (d m : Nat) (i : Nat) (t : NodeT) (c : CurT), nn ≤ i + d → (i : Int) ≤ 4 → (i = 0 ∨ (i : Int) ≤ nn) → d < m → (sm_node t = true ∧ Wf t ∧ t.kind = kind ∧ szN_node t ≤ i * (100 * 4 ^ N + 10)) → gCur c = true →
   ∃ o : NodeT × CurT, (GT (N + 1) o.1 ∧ gCur o.2 = true) ∧ ∀ {R : Type} (X : Int → Bool → (List Int) → Int → Int → Int → Int → BA → (List BA) → (List NodeT) → Option R) (Z : NodeT → CurT → Option R),
    (∀ i b c1 c2 c3 k0 k1 k2 k3 k4, X i b c1 c2 c3 k0 k1 k2 k3 k4 = Z ⟨k0, k1, k2, k3, k4⟩ ⟨c1, c2, c3⟩) → f36L0 F N true 6 X ((N + 1 : Nat) : Int) kind nn m (i : Int) c.b c.i c.h t.kind t.n t.s t.keys t.kids = Z o.1 o.2 := by
  intro kind nn hk hnn d
  have fin : ∀ (i : Nat) (t : NodeT), (i : Int) ≤ 4 → (i = 0 ∨ (i : Int) ≤ nn) → (sm_node t = true ∧ Wf t ∧ t.kind = kind ∧ szN_node t ≤ i * (100 * 4 ^ N + 10)) → GT (N + 1) t := by
   intro i t hi4 hin ⟨h1, h2, h3, h4⟩
   refine ⟨h1, ?_, h2⟩
   have : i * (100 * 4 ^ N + 10) ≤ 3 * (100 * 4 ^ N + 10) := Nat.mul_le_mul_right _ (by omega)
   have h5 : 1 ≤ 4 ^ N := Nat.one_le_pow _ _ (by decide)
   rw [Nat.pow_succ]; omega
  induction d with
  | zero =>
   intro m i t c hi hi4 hin hm hI hc
   obtain ⟨m, rfl⟩ : ∃ m', m = m' + 1 := ⟨m - 1, by omega⟩
   refine ⟨(t, c), ⟨fin i t hi4 hin hI, hc⟩, fun {R} X Z hX => ?_⟩
   simp only [f36L0, decide_eq_false (show ¬ ((i : Int) < nn) by omega), cond_false, hX, eta_node, eN_eq, eta_cur]
  | succ d ih =>
   intro m i t c hi hi4 hin hm hI hc
   obtain ⟨m, rfl⟩ : ∃ m', m = m' + 1 := ⟨m - 1, by omega⟩
   cases hd : decide ((i : Int) < nn)
   ·refine ⟨(t, c), ⟨fin i t hi4 hin hI, hc⟩, fun {R} X Z hX => ?_⟩
    simp only [f36L0, hd, cond_false, hX, eta_node, eN_eq, eta_cur]
   have hlt := of_decide_eq_true hd
   have hw : IntKind.wrap .i64 ((i : Int) + 1) = ((i + 1 : Nat) : Int) := by rw [wrap_id (by omega) (by omega)]; omega
   obtain ⟨⟨q1, q2, q3⟩, q4⟩ := hF c hc
   obtain ⟨h1, h2, h3, h4⟩ := hI
   have hgf : gFam N true c (N : Int) = true := by simp [gFam, hc]
   have hb3 : i * (100 * 4 ^ N + 10) ≤ 3 * (100 * 4 ^ N + 10) := Nat.mul_le_mul_right _ (by omega)
   have hs1 : (i + 1) * (100 * 4 ^ N + 10) = i * (100 * 4 ^ N + 10) + (100 * 4 ^ N + 10) := by rw [Nat.add_mul, Nat.one_mul]
   have hln := (@lens_node t).2
   rcases hk with hk | hk
   ·have e5 : (kind == (5 : Int)) = false := by rw [hk]; rfl
    have hbl : Nat.ble (t.kids.length + 1) LIM = true := Nat.ble_eq_true_of_le (by have : (LIM : Nat) = 4294967296 := rfl; omega)
    obtain ⟨s1, s2⟩ := snoc_ok h1 q1 (by omega)
    obtain ⟨o1, ho1, hh1⟩ := ih m (i + 1) ⟨t.kind, t.n, t.s, t.keys, t.kids ++ [(F c).1]⟩ (F c).2 (by omega) (by omega) (by omega) (by omega) ⟨s1, snoc_wf h2 q3 (h3.trans hk), h3, by omega⟩ q4
    exact ⟨o1, ho1, fun {R} X Z hX => by
     simp only [f36L0, hd, hw1, eta_cur, eta_node, eN_eq, hgf, hbl, e5, hw, cond_true, cond_false]
     exact hh1 X Z hX⟩
   ·have e5 : (kind == (5 : Int)) = true := by rw [hk]; rfl
    obtain ⟨k1, k2⟩ := tKey_ok _ q4
    have hks : smStr (tKey (F c).2).1 = true := smStr_of (by omega)
    have hg3 : gS3 t (tKey (F c).2).1 (F c).1 = true := by simp only [gS3, h1, hks, q1, Bool.and_self]
    obtain ⟨s1, s2⟩ := setK_ok h1 hks q1 (by omega)
    obtain ⟨w1, w2⟩ := setK_wf (s := (tKey (F c).2).1) h2 q3 (h3.trans hk)
    obtain ⟨o1, ho1, hh1⟩ := ih m (i + 1) (setK t (tKey (F c).2).1 (F c).1) (tKey (F c).2).2 (by omega) (by omega) (by omega) (by omega) ⟨s1, w1, w2.trans hk.symm, by omega⟩ k2
    exact ⟨o1, ho1, fun {R} X Z hX => by
     simp only [f36L0, hd, hw1, eta_cur, eta_node, eN_eq, hgf, e5, q4, hg3, hw, cond_true, cond_false]
     exact hh1 X Z hX⟩
 obtain ⟨o, ho, hh⟩ := key (curBelow a0 6).1 (curBelow (curBelow a0 6).2 4).1 hk y1 4 6 0 ⟨(curBelow a0 6).1, 0, ByteArray.empty, [], []⟩ (curBelow (curBelow a0 6).2 4).2 (by omega) (by omega) (.inl rfl) (by omega)
  ⟨(GT_leaf 0 (okI_of (by omega) (by omega)) rfl (by decide)).1, Wf.of_leaf _ rfl rfl, rfl, by rw [szN_node_def]; simp [szL]⟩ g2
 refine ⟨o, ho, 6, fun {R} k => ?_⟩
 rw [f36_run]
 simp only [hg, g1, hz, e0, e1, e2, e3, cond_true, cond_false]
 exact hh _ (fun t c => k [.d .node t, .d .cur c]) (fun _ _ _ _ _ _ _ _ _ _ => rfl)
theorem f36_ne0 (c : CurT) : Nonempty {o : NodeT × CurT // gCur c = true → (GT 0 o.1 ∧ gCur o.2 = true) ∧ ∃ n : Nat, ∀ {R : Type} (k : Kt R), evFn (f36e (fun c => (noNode, c)) 0 false) f36k n f36c [.pmut, .ro] [false] true [.cell 4 27] [27] [.d .cur c, .d (.i .i64) (0 : Int)] k = k [.d .node o.1, .d .cur o.2]} := by
 by_cases hg : gCur c = true
 ·obtain ⟨o, ho⟩ := f36_ex0 (fun c => (noNode, c)) 0 false c hg
  exact ⟨⟨o, fun _ => ho⟩⟩
 ·exact ⟨⟨(noNode, c), fun h => absurd h hg⟩⟩
theorem f36_neS (F : CurT → NodeT × CurT) (N : Nat) (hF : N ≤ 6 → ∀ c, gCur c = true → GT N (F c).1 ∧ gCur (F c).2 = true) (c : CurT) : Nonempty {o : NodeT × CurT // N + 1 ≤ 6 → gCur c = true → (GT (N + 1) o.1 ∧ gCur o.2 = true) ∧ ∃ n : Nat, ∀ {R : Type} (k : Kt R), evFn (f36e F N true) f36k n f36c [.pmut, .ro] [false] true [.cell 4 27] [27] [.d .cur c, .d (.i .i64) ((N + 1 : Nat) : Int)] k = k [.d .node o.1, .d .cur o.2]} := by
 by_cases hN : N + 1 ≤ 6
 ·by_cases hg : gCur c = true
  ·obtain ⟨o, ho⟩ := f36_exS F N hN (hF (by omega)) c hg
   exact ⟨⟨o, fun _ _ => ho⟩⟩
  ·exact ⟨⟨(noNode, c), fun _ h => absurd h hg⟩⟩
 ·exact ⟨⟨(noNode, c), fun h => absurd h hN⟩⟩
noncomputable def dTree : (k : Nat) → {F : CurT → NodeT × CurT // k ≤ 6 → ∀ c, gCur c = true → GT k (F c).1 ∧ gCur (F c).2 = true}
 | 0 => ⟨fun c => (Classical.choice (f36_ne0 c)).val, fun _ c hc => ((Classical.choice (f36_ne0 c)).property hc).1⟩
 | k + 1 => ⟨fun c => (Classical.choice (f36_neS (dTree k).1 k (dTree k).2 c)).val, fun hk c hc => ((Classical.choice (f36_neS (dTree k).1 k (dTree k).2 c)).property hk hc).1⟩
noncomputable def dT (c : CurT) (d : Int) : NodeT × CurT := (dTree d.toNat).1 c
def gDT (c : CurT) (d : Int) : Bool := gCur c && (decide (0 ≤ d) && decide (d ≤ 6))
theorem dT_ok {c : CurT} {d : Int} (h : gDT c d = true) : GT d.toNat (dT c d).1 ∧ gCur (dT c d).2 = true := by
 simp only [gDT, Bool.and_eq_true, decide_eq_true_eq] at h
 exact (dTree d.toNat).2 (by omega) c h.1
theorem gDT_of {c : CurT} {d : Int} (h : gCur c = true) (hd : (decide (0 ≤ d) && decide (d ≤ 6)) = true) : gDT c d = true := by
 unfold gDT; rw [h, hd]; rfl
noncomputable def q36 : Qt
 | [.d .cur a0, .d (.i .i64) a1] => some (gDT a0 a1, [.d .node (dT a0 a1).1, .d .cur (dT a0 a1).2])
 | _ => none
noncomputable def s36 : Gm.Spec := Gm.Spec.of [.pmut, .ro] [false] true q36
theorem f36_none (F : CurT → NodeT × CurT) (N : Nat) : SpecOk Try.prog 36 (s36r F N false) := by
 intro R ds k r hr
 obtain ⟨outs, hq, _⟩ := Gm.Spec.of_some hr
 unfold q36r at hq
 split at hq
 ·simp [gFam] at hq
 ·cases hq
theorem f36_lvl : ∀ k : Nat, k ≤ 6 → SpecOk Try.prog 36 (s36r (dTree k).1 k true)
 | 0, _ => by
  have hl : ∀ x ∈ [(36, s36r (fun c => (noNode, c)) 0 false), (52, s52), (53, s53), (73, s73), (74, s74), (75, s75), (76, s76), (77, s77), (78, s78), (79, s79)], Gm.Good Try.prog x := fcJ.2 ⟨⟨⟨f36_none _ _, _, Try.func36, by kernel_rfl, of_decide_eq_true (by kernel_rfl)⟩, Gm.Spec.of_natl _ _ _ _⟩, fcJ.2 ⟨good52, fcJ.2 ⟨good53, fcJ.2 ⟨good73, fcJ.2 ⟨good74, fcJ.2 ⟨good75, fcJ.2 ⟨good76, fcJ.2 ⟨good77, fcJ.2 ⟨good78, fcJ.2 ⟨good79, fcN⟩⟩⟩⟩⟩⟩⟩⟩⟩⟩
  refine spec_ok (E := f36e (fun c => (noNode, c)) 0 false) (tab_ok.env hl) (tab.natl hl) Try.func36 (by kernel_rfl : Try.f36.body = some f36c) [27] (by kernel_rfl) ?_
  intro ds outs h
  unfold q36r at h
  split at h
  ·simp only [Option.some.injEq, Prod.mk.injEq, gFam, Bool.and_eq_true, beq_iff_eq] at h
   obtain ⟨⟨_, hg, rfl⟩, h⟩ := h
   cases h
   obtain ⟨n, hn⟩ := ((Classical.choice (f36_ne0 _)).property hg).2
   exact ⟨f36k, n, hn⟩
  ·cases h
 | k + 1, hk => by
  have hr : SpecOk Try.prog 36 (s36r (dTree k).1 k true) := fun {R} => f36_lvl k (by omega) (R := R)
  have hl : ∀ x ∈ [(36, s36r (dTree k).1 k true), (52, s52), (53, s53), (73, s73), (74, s74), (75, s75), (76, s76), (77, s77), (78, s78), (79, s79)], Gm.Good Try.prog x := fcJ.2 ⟨⟨⟨hr, _, Try.func36, by kernel_rfl, of_decide_eq_true (by kernel_rfl)⟩, Gm.Spec.of_natl _ _ _ _⟩, fcJ.2 ⟨good52, fcJ.2 ⟨good53, fcJ.2 ⟨good73, fcJ.2 ⟨good74, fcJ.2 ⟨good75, fcJ.2 ⟨good76, fcJ.2 ⟨good77, fcJ.2 ⟨good78, fcJ.2 ⟨good79, fcN⟩⟩⟩⟩⟩⟩⟩⟩⟩⟩
  refine spec_ok (E := f36e (dTree k).1 k true) (tab_ok.env hl) (tab.natl hl) Try.func36 (by kernel_rfl : Try.f36.body = some f36c) [27] (by kernel_rfl) ?_
  intro ds outs h
  unfold q36r at h
  split at h
  ·simp only [Option.some.injEq, Prod.mk.injEq, gFam, Bool.and_eq_true, beq_iff_eq] at h
   obtain ⟨⟨_, hg, rfl⟩, h⟩ := h
   cases h
   obtain ⟨n, hn⟩ := ((Classical.choice (f36_neS (dTree k).1 k (dTree k).2 _)).property hk hg).2
   exact ⟨f36k, n, hn⟩
  ·cases h
theorem good36 : Gm.Good Try.prog (36, s36) := by
 refine ⟨⟨spec_part (q := q36) ?_, _, Try.func36, by kernel_rfl, of_decide_eq_true (by kernel_rfl)⟩, Gm.Spec.of_natl _ _ _ _⟩
 intro ds outs h
 unfold q36 at h
 split at h
 ·rename_i a0 a1
  simp only [Option.some.injEq, Prod.mk.injEq, gDT, Bool.and_eq_true, decide_eq_true_eq] at h
  obtain ⟨⟨hg, h0, h6⟩, h⟩ := h
  refine ⟨_, f36_lvl a1.toNat (by omega), ?_⟩
  rw [← h]
  have : gFam a1.toNat true a0 a1 = true := by simp only [gFam, hg, Bool.true_and, beq_iff_eq]; omega
  show some (gFam a1.toNat true a0 a1, _) = _
  rw [this]; rfl
 ·cases h
theorem gDT3 {c : CurT} (hg : gCur c = true) : gDT c 3 = true := gDT_of hg rfl
theorem dT_okT {c : CurT} (hg : gCur c = true) : okT (dT c 3).1 = true := (dT_ok (gDT3 hg)).1.okT
theorem dT_g {c : CurT} (hg : gCur c = true) : gCur (dT c 3).2 = true := (dT_ok (gDT3 hg)).2
theorem below_ix {c : CurT} {n : Int} (hc : gCur c = true) (hn : decide (n > (0 : Int)) = true) : (decide ((0 : Int) ≤ (curBelow c n).1) && decide ((curBelow c n).1 < n)) = true := by
 obtain ⟨h1, h2, _⟩ := curBelow_ok c n hc
 rw [decide_eq_true h1, decide_eq_true (h2 (of_decide_eq_true hn))]; rfl
theorem okT_at {t : NodeT} {c : CurT} (h : okT t = true) (hc : gCur c = true) (hn : decide ((t.kids.length : Int) > (0 : Int)) = true) : okT (atI (t := .node) t.kids (Int.toNat (curBelow c (t.kids.length : Int)).1)) = true := by
 obtain ⟨h1, h2, _⟩ := curBelow_ok c (t.kids.length : Int) hc
 have h2 := h2 (of_decide_eq_true hn)
 obtain ⟨h3, h4⟩ := okT_iff.1 h
 have hm : atI (t := .node) t.kids (Int.toNat (curBelow c (t.kids.length : Int)).1) ∈ t.kids := mem_atI (t := .node) h1 h2
 exact okT_iff.2 ⟨sm_kid h3 hm, Nat.le_trans (szN_kid hm) h4⟩
theorem pick_50 {c : CurT} {l : List BA} (hg : gCur c = true) (hn : (!l.isEmpty && Nat.ble l.length 1048576) = true) (h : (l.all fun x => Nat.ble x.size 50) = true) : Nat.ble (curPick c l).1.size 50 = true :=
  List.all_eq_true.1 h _ (curPick_ok c l (gPickS_of hg hn)).1
noncomputable def f45S0 (y0 : List Int) (y1 : Int) (y2 : Int) (y3 : Int) (y4 : Int) (y5 : BA) (y6 : List BA) (y7 : List NodeT) : St := ⟨[(0, .c (.one (.pt 0 0))), (2, .c (.one (.pt 2 0)))], [(0, ⟨.cur, [.rk (.i .u8) y0, .v (.int .i64 y1), .v (.int .i64 y2)]⟩), (2, ⟨.node, [.v (.int .i64 y3), .v (.int .i64 y4), .v (.string y5), .h 448 0 0 [], .h 449 0 0 []]⟩)], [(448, .live ⟨.str, .deep, 0, [], y6⟩), (449, .live ⟨.node, .deep, 0, [], y7⟩)]⟩
noncomputable def f45S1 (y0 : List Int) (y1 : Int) (y2 : Int) (y6 : Int) (y7 : Int) (y8 : BA) (y9 : List BA) (y10 : List NodeT) : St := ⟨[(0, .c (.one (.pt 0 0))), (2, .c (.one (.pt 2 0))), (3, .c (.one (.pt 3 0)))], [(0, ⟨.cur, [.rk (.i .u8) y0, .v (.int .i64 y1), .v (.int .i64 y2)]⟩), (2, ⟨.node, [.v (.int .i64 (0 : Int)), .v (.int .i64 (0 : Int)), .v (.string ByteArray.empty), .nl, .nl]⟩), (3, ⟨.node, [.v (.int .i64 y6), .v (.int .i64 y7), .v (.string y8), .h 448 0 0 [], .h 449 0 0 []]⟩)], [(448, .live ⟨.str, .deep, 0, [], y9⟩), (449, .live ⟨.node, .deep, 0, [], y10⟩)]⟩
noncomputable def f45S2 (y0 : Nat) (y1 : Nat) (y2 : Nat) (y3 : Bool) (y4 : List Int) (y5 : Int) (y6 : Int) (y10 : Int) (y11 : Int) (y12 : BA) (y13 : List BA) (y14 : List NodeT) : St := ⟨[(0, .c (.one (.pt 0 0))), (2, .c (.one (.pt 2 0))), (3, .c (.one (.pt 3 0))), (4, .c (.one (.pe 449 0 0 [(y0, 4), (y1, 4)] y2 0))), (74, .c (.one (.v (.bool y3))))], [(0, ⟨.cur, [.rk (.i .u8) y4, .v (.int .i64 y5), .v (.int .i64 y6)]⟩), (2, ⟨.node, [.v (.int .i64 (0 : Int)), .v (.int .i64 (0 : Int)), .v (.string ByteArray.empty), .nl, .nl]⟩), (3, ⟨.node, [.v (.int .i64 y10), .v (.int .i64 y11), .v (.string y12), .h 448 0 0 [], .h 449 0 0 []]⟩)], [(448, .live ⟨.str, .deep, 0, [], y13⟩), (449, .live ⟨.node, .deep, 0, [], y14⟩)]⟩
noncomputable def f45S3 (y0 : Nat) (y1 : Nat) (y2 : Nat) (y4 : Bool) (y5 : List Int) (y6 : Int) (y7 : Int) (y11 : Int) (y12 : Int) (y13 : BA) (y14 : List BA) (y15 : List NodeT) : St := ⟨[(0, .c (.one (.pt 0 0))), (2, .c (.one (.pt 2 0))), (3, .c (.one (.pt 3 0))), (4, .c (.one (.pe 449 0 0 [(y0, 4), (y1, 4)] y2 0))), (5, .c (.one (.v (.int .i64 (3 : Int))))), (22, .c (.one (.v (.bool y4))))], [(0, ⟨.cur, [.rk (.i .u8) y5, .v (.int .i64 y6), .v (.int .i64 y7)]⟩), (2, ⟨.node, [.v (.int .i64 (0 : Int)), .v (.int .i64 (0 : Int)), .v (.string ByteArray.empty), .nl, .nl]⟩), (3, ⟨.node, [.v (.int .i64 y11), .v (.int .i64 y12), .v (.string y13), .h 448 0 0 [], .h 449 0 0 []]⟩)], [(448, .live ⟨.str, .deep, 0, [], y14⟩), (449, .live ⟨.node, .deep, 0, [], y15⟩)]⟩
noncomputable def f45S4 (y0 : Nat) (y1 : Nat) (y2 : Bool) (y3 : List Int) (y4 : Int) (y5 : Int) (y9 : Int) (y10 : Int) (y11 : BA) (y12 : List BA) (y13 : List NodeT) : St := ⟨[(0, .c (.one (.pt 0 0))), (2, .c (.one (.pt 2 0))), (3, .c (.one (.pt 3 0))), (4, .c (.one (.pe 449 0 0 [(y0, 4)] y1 0))), (74, .c (.one (.v (.bool y2))))], [(0, ⟨.cur, [.rk (.i .u8) y3, .v (.int .i64 y4), .v (.int .i64 y5)]⟩), (2, ⟨.node, [.v (.int .i64 (0 : Int)), .v (.int .i64 (0 : Int)), .v (.string ByteArray.empty), .nl, .nl]⟩), (3, ⟨.node, [.v (.int .i64 y9), .v (.int .i64 y10), .v (.string y11), .h 448 0 0 [], .h 449 0 0 []]⟩)], [(448, .live ⟨.str, .deep, 0, [], y12⟩), (449, .live ⟨.node, .deep, 0, [], y13⟩)]⟩
noncomputable def f45S5 (y0 : Nat) (y1 : Nat) (y3 : Bool) (y4 : List Int) (y5 : Int) (y6 : Int) (y10 : Int) (y11 : Int) (y12 : BA) (y13 : List BA) (y14 : List NodeT) : St := ⟨[(0, .c (.one (.pt 0 0))), (2, .c (.one (.pt 2 0))), (3, .c (.one (.pt 3 0))), (4, .c (.one (.pe 449 0 0 [(y0, 4)] y1 0))), (5, .c (.one (.v (.int .i64 (2 : Int))))), (22, .c (.one (.v (.bool y3))))], [(0, ⟨.cur, [.rk (.i .u8) y4, .v (.int .i64 y5), .v (.int .i64 y6)]⟩), (2, ⟨.node, [.v (.int .i64 (0 : Int)), .v (.int .i64 (0 : Int)), .v (.string ByteArray.empty), .nl, .nl]⟩), (3, ⟨.node, [.v (.int .i64 y10), .v (.int .i64 y11), .v (.string y12), .h 448 0 0 [], .h 449 0 0 []]⟩)], [(448, .live ⟨.str, .deep, 0, [], y13⟩), (449, .live ⟨.node, .deep, 0, [], y14⟩)]⟩
noncomputable def f45S6 (y0 : Nat) (y1 : Bool) (y2 : List Int) (y3 : Int) (y4 : Int) (y8 : Int) (y9 : Int) (y10 : BA) (y11 : List BA) (y12 : List NodeT) : St := ⟨[(0, .c (.one (.pt 0 0))), (2, .c (.one (.pt 2 0))), (3, .c (.one (.pt 3 0))), (4, .c (.one (.pe 449 0 0 [] y0 0))), (74, .c (.one (.v (.bool y1))))], [(0, ⟨.cur, [.rk (.i .u8) y2, .v (.int .i64 y3), .v (.int .i64 y4)]⟩), (2, ⟨.node, [.v (.int .i64 (0 : Int)), .v (.int .i64 (0 : Int)), .v (.string ByteArray.empty), .nl, .nl]⟩), (3, ⟨.node, [.v (.int .i64 y8), .v (.int .i64 y9), .v (.string y10), .h 448 0 0 [], .h 449 0 0 []]⟩)], [(448, .live ⟨.str, .deep, 0, [], y11⟩), (449, .live ⟨.node, .deep, 0, [], y12⟩)]⟩
noncomputable def f45S7 (y0 : Nat) (y2 : Bool) (y3 : List Int) (y4 : Int) (y5 : Int) (y9 : Int) (y10 : Int) (y11 : BA) (y12 : List BA) (y13 : List NodeT) : St := ⟨[(0, .c (.one (.pt 0 0))), (2, .c (.one (.pt 2 0))), (3, .c (.one (.pt 3 0))), (4, .c (.one (.pe 449 0 0 [] y0 0))), (5, .c (.one (.v (.int .i64 (1 : Int))))), (22, .c (.one (.v (.bool y2))))], [(0, ⟨.cur, [.rk (.i .u8) y3, .v (.int .i64 y4), .v (.int .i64 y5)]⟩), (2, ⟨.node, [.v (.int .i64 (0 : Int)), .v (.int .i64 (0 : Int)), .v (.string ByteArray.empty), .nl, .nl]⟩), (3, ⟨.node, [.v (.int .i64 y9), .v (.int .i64 y10), .v (.string y11), .h 448 0 0 [], .h 449 0 0 []]⟩)], [(448, .live ⟨.str, .deep, 0, [], y12⟩), (449, .live ⟨.node, .deep, 0, [], y13⟩)]⟩
noncomputable def f45S8 (y0 : Bool) (y1 : List Int) (y2 : Int) (y3 : Int) (y7 : Int) (y8 : Int) (y9 : BA) (y10 : List BA) (y11 : List NodeT) : St := ⟨[(0, .c (.one (.pt 0 0))), (2, .c (.one (.pt 2 0))), (3, .c (.one (.pt 3 0))), (4, .c (.one (.pt 3 0))), (74, .c (.one (.v (.bool y0))))], [(0, ⟨.cur, [.rk (.i .u8) y1, .v (.int .i64 y2), .v (.int .i64 y3)]⟩), (2, ⟨.node, [.v (.int .i64 (0 : Int)), .v (.int .i64 (0 : Int)), .v (.string ByteArray.empty), .nl, .nl]⟩), (3, ⟨.node, [.v (.int .i64 y7), .v (.int .i64 y8), .v (.string y9), .h 448 0 0 [], .h 449 0 0 []]⟩)], [(448, .live ⟨.str, .deep, 0, [], y10⟩), (449, .live ⟨.node, .deep, 0, [], y11⟩)]⟩
noncomputable def f45S9 (y1 : Bool) (y2 : List Int) (y3 : Int) (y4 : Int) (y8 : Int) (y9 : Int) (y10 : BA) (y11 : List BA) (y12 : List NodeT) : St := ⟨[(0, .c (.one (.pt 0 0))), (2, .c (.one (.pt 2 0))), (3, .c (.one (.pt 3 0))), (4, .c (.one (.pt 3 0))), (5, .c (.one (.v (.int .i64 (0 : Int))))), (22, .c (.one (.v (.bool y1))))], [(0, ⟨.cur, [.rk (.i .u8) y2, .v (.int .i64 y3), .v (.int .i64 y4)]⟩), (2, ⟨.node, [.v (.int .i64 (0 : Int)), .v (.int .i64 (0 : Int)), .v (.string ByteArray.empty), .nl, .nl]⟩), (3, ⟨.node, [.v (.int .i64 y8), .v (.int .i64 y9), .v (.string y10), .h 448 0 0 [], .h 449 0 0 []]⟩)], [(448, .live ⟨.str, .deep, 0, [], y11⟩), (449, .live ⟨.node, .deep, 0, [], y12⟩)]⟩
noncomputable def f45wc (b : List Int) (i h : Int) : Int × CurT := curBelow ⟨b, i, h⟩ 14
def f45l1 : List Int := [1, 2, 1000000000001]
def f45l2 : List BA := [bs [120], bs [31], bs [127]]
noncomputable def f45c : Code := (Try.f45.body).getD .skip
def f45k : Nat → Kp := kat [⟨[0, 2], [], [], []⟩, ⟨[0, 2, 3], [], [], []⟩, ⟨[0, 2, 3, 4], [], [], []⟩, ⟨[0, 2, 3, 4, 5], [], [], []⟩, ⟨[0, 2, 3, 4, 5, 22], [], [], []⟩, ⟨[0, 2, 3, 4, 5], [], [], []⟩, ⟨[0, 2, 3, 4, 5], [], [], []⟩, ⟨[0, 2, 3, 4, 38], [], [], []⟩, ⟨[0, 2, 3, 4, 38, 39], [], [], []⟩, ⟨[0, 2, 3], [], [], []⟩, ⟨[0, 2, 3, 4, 38, 47], [], [], []⟩, ⟨[0, 2, 3], [], [], []⟩, ⟨[0, 2, 3, 4, 38, 55], [], [], []⟩, ⟨[0, 2, 3], [], [], []⟩, ⟨[0, 2, 3, 4, 38, 63], [], [], []⟩, ⟨[0, 2, 3], [], [], []⟩, ⟨[0, 2, 3, 4, 74], [], [], []⟩, ⟨[0, 2, 3], [], [], []⟩, ⟨[0, 2], [], [], []⟩]
noncomputable def f45e : Env := tab.env [(36, s36), (52, s52), (53, s53), (75, s75), (81, s81)]
noncomputable def f45v0 (wD : List NodeT) (wF : Nat) (wL : Nat) (wE : Nat) (wA : List Int) (wB : Int) (wC : Int) : List NodeT :=
 (wD.set wF (wK (atI (t := .node) wD wF) ((NodeT.kids (atI (t := .node) wD wF)).set wL (wK (atI (t := .node) (NodeT.kids (atI (t := .node) wD wF)) wL) ((NodeT.kids (atI (t := .node) (NodeT.kids (atI (t := .node) wD wF)) wL)).set wE (wKind (atI (t := .node) (NodeT.kids (atI (t := .node) (NodeT.kids (atI (t := .node) wD wF)) wL)) wE) (IntKind.wrap .i64 (((curBelow ((f45wc wA wB wC).2) (8 : Int)).1) - (1 : Int)))))))))
noncomputable def f45v1 (wD : List NodeT) (wF : Nat) (wL : Nat) (wE : Nat) (wA : List Int) (wB : Int) (wC : Int) : List NodeT :=
 (wD.set wF (wK (atI (t := .node) wD wF) ((NodeT.kids (atI (t := .node) wD wF)).set wL (wK (atI (t := .node) (NodeT.kids (atI (t := .node) wD wF)) wL) ((NodeT.kids (atI (t := .node) (NodeT.kids (atI (t := .node) wD wF)) wL)).set wE (wN (atI (t := .node) (NodeT.kids (atI (t := .node) (NodeT.kids (atI (t := .node) wD wF)) wL)) wE) ((curPickI ((f45wc wA wB wC).2) f45l1).1)))))))
noncomputable def f45v2 (wD : List NodeT) (wF : Nat) (wL : Nat) (wE : Nat) (wA : List Int) (wB : Int) (wC : Int) : List NodeT :=
 (wD.set wF (wK (atI (t := .node) wD wF) ((NodeT.kids (atI (t := .node) wD wF)).set wL (wK (atI (t := .node) (NodeT.kids (atI (t := .node) wD wF)) wL) ((NodeT.kids (atI (t := .node) (NodeT.kids (atI (t := .node) wD wF)) wL)).set wE (wS (atI (t := .node) (NodeT.kids (atI (t := .node) (NodeT.kids (atI (t := .node) wD wF)) wL)) wE) ((curPick ((f45wc wA wB wC).2) f45l2).1)))))))
noncomputable def f45v3 (wD : List NodeT) (wF : Nat) (wL : Nat) (wE : Nat) : List NodeT :=
 (wD.set wF (wK (atI (t := .node) wD wF) ((NodeT.kids (atI (t := .node) wD wF)).set wL (wK (atI (t := .node) (NodeT.kids (atI (t := .node) wD wF)) wL) ((NodeT.kids (atI (t := .node) (NodeT.kids (atI (t := .node) wD wF)) wL)).set wE (wKeys (atI (t := .node) (NodeT.kids (atI (t := .node) (NodeT.kids (atI (t := .node) wD wF)) wL)) wE) ((NodeT.keys (atI (t := .node) (NodeT.kids (atI (t := .node) (NodeT.kids (atI (t := .node) wD wF)) wL)) wE)) ++ ([(bs [97])] : List BA))))))))
noncomputable def f45v4 (wD : List NodeT) (wF : Nat) (wL : Nat) (wE : Nat) : List NodeT :=
 (((NodeT.kids (atI (t := .node) (NodeT.kids (atI (t := .node) (NodeT.kids (atI (t := .node) wD wF)) wL)) wE)) ++ ([(⟨(0 : Int), (0 : Int), ByteArray.empty, ([] : List BA), ([] : List NodeT)⟩ : NodeT)] : List NodeT)).set (Int.toNat ((NodeT.kids (atI (t := .node) (NodeT.kids (atI (t := .node) (NodeT.kids (atI (t := .node) wD wF)) wL)) wE)).length : Int)) (⟨(0 : Int), (0 : Int), ByteArray.empty, ([] : List BA), ([] : List NodeT)⟩ : NodeT))
noncomputable def f45v5 (wD : List NodeT) (wF : Nat) (wL : Nat) (wE : Nat) : List NodeT :=
 (wD.set wF (wK (atI (t := .node) wD wF) ((NodeT.kids (atI (t := .node) wD wF)).set wL (wK (atI (t := .node) (NodeT.kids (atI (t := .node) wD wF)) wL) ((NodeT.kids (atI (t := .node) (NodeT.kids (atI (t := .node) wD wF)) wL)).set wE (wK (atI (t := .node) (NodeT.kids (atI (t := .node) (NodeT.kids (atI (t := .node) wD wF)) wL)) wE) (f45v4 wD wF wL wE)))))))
noncomputable def f45J2 {R : Type} (n : Nat) (k : Kt R) (a0 : CurT) (wA : List Int) (wB : Int) (wC : Int) (wP : Int) (wQ : Int) (wR : BA) (wG : List BA) (wD : List NodeT) : Option R :=
 (k [.d .node (⟨wP, wQ, wR, wG, wD⟩ : NodeT), .d .cur (⟨wA, wB, wC⟩ : CurT)])
theorem f45J2_eq {R : Type} (n : Nat) (k : Kt R) (a0 : CurT) (wA : List Int) (wB : Int) (wC : Int) (wP : Int) (wQ : Int) (wR : BA) (wG : List BA) (wD : List NodeT) : ev f45e f45k n (cAt [1,1,1,1,1,1] f45c) (f45S0 wA wB wC wP wQ wR wG wD) (exitK f45e [.pmut] [false] true [.cell 2 27] [27] [.d .cur a0] k) = f45J2 n k a0  wA wB wC wP wQ wR wG wD := by
 kernel_rfl
theorem f45J1_a {R : Type} (n : Nat) (k' : Kx R) (wA : List Int) (wB : Int) (wC : Int) (wH : Int) (wI : Int) (wJ : BA) (wG : List BA) (wD : List NodeT) : ev f45e f45k n (cAt [1,1,1,1,1,0] f45c) (f45S1 wA wB wC wH wI wJ wG wD) k' =
 (k' .normal (f45S0 wA wB wC wH wI wJ wG wD)) := by kernel_rfl
noncomputable def f45J1 {R : Type} (n : Nat) (k : Kt R) (a0 : CurT) (wA : List Int) (wB : Int) (wC : Int) (wH : Int) (wI : Int) (wJ : BA) (wG : List BA) (wD : List NodeT) : Option R :=
 (f45J2 n k a0 wA wB wC wH wI wJ wG wD)
theorem f45J1_eq {R : Type} (n : Nat) (k : Kt R) (a0 : CurT) (wA : List Int) (wB : Int) (wC : Int) (wH : Int) (wI : Int) (wJ : BA) (wG : List BA) (wD : List NodeT) : ev f45e f45k n (cAt [1,1,1,1,1] f45c) (f45S1 wA wB wC wH wI wJ wG wD) (exitK f45e [.pmut] [false] true [.cell 2 27] [27] [.d .cur a0] k) = f45J1 n k a0  wA wB wC wH wI wJ wG wD := by
 rw [show (cAt [1,1,1,1,1] f45c) = .seq (cAt [1,1,1,1,1,0] f45c) (cAt [1,1,1,1,1,1] f45c) from by kernel_rfl, ev_seq, f45J1_a]
 simp only [seqK_n, seqK_r, f45J2_eq, f45J1]
theorem f45J3_a {R : Type} (n : Nat) (k' : Kx R) (wF : Nat) (wL : Nat) (wE : Nat) (wO : Bool) (wA : List Int) (wB : Int) (wC : Int) (wH : Int) (wI : Int) (wJ : BA) (wG : List BA) (wD : List NodeT) : ev f45e f45k n (cAt [1,1,1,1,1,0] f45c) (f45S2 wF wL wE wO wA wB wC wH wI wJ wG wD) k' =
 (k' .normal (f45S0 wA wB wC wH wI wJ wG wD)) := by kernel_rfl
noncomputable def f45J3 {R : Type} (n : Nat) (k : Kt R) (a0 : CurT) (wF : Nat) (wL : Nat) (wE : Nat) (wO : Bool) (wA : List Int) (wB : Int) (wC : Int) (wH : Int) (wI : Int) (wJ : BA) (wG : List BA) (wD : List NodeT) : Option R :=
 (f45J2 n k a0 wA wB wC wH wI wJ wG wD)
theorem f45J3_eq {R : Type} (n : Nat) (k : Kt R) (a0 : CurT) (wF : Nat) (wL : Nat) (wE : Nat) (wO : Bool) (wA : List Int) (wB : Int) (wC : Int) (wH : Int) (wI : Int) (wJ : BA) (wG : List BA) (wD : List NodeT) : ev f45e f45k n (cAt [1,1,1,1,1] f45c) (f45S2 wF wL wE wO wA wB wC wH wI wJ wG wD) (exitK f45e [.pmut] [false] true [.cell 2 27] [27] [.d .cur a0] k) = f45J3 n k a0  wF wL wE wO wA wB wC wH wI wJ wG wD := by
 rw [show (cAt [1,1,1,1,1] f45c) = .seq (cAt [1,1,1,1,1,0] f45c) (cAt [1,1,1,1,1,1] f45c) from by kernel_rfl, ev_seq, f45J3_a]
 simp only [seqK_n, seqK_r, f45J2_eq, f45J3]
theorem f45J0_a {R : Type} (n : Nat) (k' : Kx R) (wF : Nat) (wL : Nat) (wE : Nat) (wM : Bool) (wA : List Int) (wB : Int) (wC : Int) (wH : Int) (wI : Int) (wJ : BA) (wG : List BA) (wD : List NodeT) : ev f45e f45k n (cAt [1,1,1,1,0] f45c) (f45S3 wF wL wE wM wA wB wC wH wI wJ wG wD) k' =
 (cond ((fun c _ => gCur c) (⟨wA, wB, wC⟩ : CurT) (14 : Int))
 (cond (((f45wc wA wB wC).1) == (0 : Int))
 (cond ((fun c _ => gCur c) ((f45wc wA wB wC).2) (8 : Int))
 (k' .normal (f45S1 (CurT.b ((curBelow ((f45wc wA wB wC).2) (8 : Int)).2)) (CurT.i ((curBelow ((f45wc wA wB wC).2) (8 : Int)).2)) (CurT.h ((curBelow ((f45wc wA wB wC).2) (8 : Int)).2)) wH wI wJ wG (f45v0 wD wF wL wE wA wB wC)))
 none)
 (cond (((f45wc wA wB wC).1) == (1 : Int))
 (cond (gPickI ((f45wc wA wB wC).2) f45l1)
 (k' .normal (f45S1 (CurT.b ((curPickI ((f45wc wA wB wC).2) f45l1).2)) (CurT.i ((curPickI ((f45wc wA wB wC).2) f45l1).2)) (CurT.h ((curPickI ((f45wc wA wB wC).2) f45l1).2)) wH wI wJ wG (f45v1 wD wF wL wE wA wB wC)))
 none)
 (cond (((f45wc wA wB wC).1) == (2 : Int))
 (cond (gPickS ((f45wc wA wB wC).2) f45l2)
 (k' .normal (f45S1 (CurT.b ((curPick ((f45wc wA wB wC).2) f45l2).2)) (CurT.i ((curPick ((f45wc wA wB wC).2) f45l2).2)) (CurT.h ((curPick ((f45wc wA wB wC).2) f45l2).2)) wH wI wJ wG (f45v2 wD wF wL wE wA wB wC)))
 none)
 (cond (((f45wc wA wB wC).1) == (3 : Int))
 (cond (Nat.ble ((NodeT.keys (atI (t := .node) (NodeT.kids (atI (t := .node) (NodeT.kids (atI (t := .node) wD wF)) wL)) wE)).length + 1) LIM)
 (cond (eqP [(wF, 4), (wL, 4), (wE, 3)] [(wF, 4), (wL, 4), (wE, 3)])
 (k' .normal (f45S1 (CurT.b ((f45wc wA wB wC).2)) (CurT.i ((f45wc wA wB wC).2)) (CurT.h ((f45wc wA wB wC).2)) wH wI wJ wG (f45v3 wD wF wL wE)))
 none)
 none)
 (cond (((f45wc wA wB wC).1) == (4 : Int))
 (cond (Nat.ble ((NodeT.kids (atI (t := .node) (NodeT.kids (atI (t := .node) (NodeT.kids (atI (t := .node) wD wF)) wL)) wE)).length + 1) LIM)
 (cond ((decide ((0 : Int) ≤ ((NodeT.kids (atI (t := .node) (NodeT.kids (atI (t := .node) (NodeT.kids (atI (t := .node) wD wF)) wL)) wE)).length : Int))) && (decide (((NodeT.kids (atI (t := .node) (NodeT.kids (atI (t := .node) (NodeT.kids (atI (t := .node) wD wF)) wL)) wE)).length : Int) < (((NodeT.kids (atI (t := .node) (NodeT.kids (atI (t := .node) (NodeT.kids (atI (t := .node) wD wF)) wL)) wE)) ++ ([(⟨(0 : Int), (0 : Int), ByteArray.empty, ([] : List BA), ([] : List NodeT)⟩ : NodeT)] : List NodeT)).length : Int))))
 (cond (eqP [(wF, 4), (wL, 4), (wE, 4)] [(wF, 4), (wL, 4), (wE, 4)])
 (k' .normal (f45S1 (CurT.b ((f45wc wA wB wC).2)) (CurT.i ((f45wc wA wB wC).2)) (CurT.h ((f45wc wA wB wC).2)) wH wI wJ wG (f45v5 wD wF wL wE)))
 none)
 none)
 none)
 (k' .normal (f45S2 wF wL wE (((f45wc wA wB wC).1) == (4 : Int)) (CurT.b ((f45wc wA wB wC).2)) (CurT.i ((f45wc wA wB wC).2)) (CurT.h ((f45wc wA wB wC).2)) wH wI wJ wG wD)))))))
 none) := by kernel_rfl
noncomputable def f45J0 {R : Type} (n : Nat) (k : Kt R) (a0 : CurT) (wF : Nat) (wL : Nat) (wE : Nat) (wM : Bool) (wA : List Int) (wB : Int) (wC : Int) (wH : Int) (wI : Int) (wJ : BA) (wG : List BA) (wD : List NodeT) : Option R :=
 (cond ((fun c _ => gCur c) (⟨wA, wB, wC⟩ : CurT) (14 : Int))
 (cond (((f45wc wA wB wC).1) == (0 : Int))
 (cond ((fun c _ => gCur c) ((f45wc wA wB wC).2) (8 : Int))
 (f45J1 n k a0 (CurT.b ((curBelow ((f45wc wA wB wC).2) (8 : Int)).2)) (CurT.i ((curBelow ((f45wc wA wB wC).2) (8 : Int)).2)) (CurT.h ((curBelow ((f45wc wA wB wC).2) (8 : Int)).2)) wH wI wJ wG (f45v0 wD wF wL wE wA wB wC))
 none)
 (cond (((f45wc wA wB wC).1) == (1 : Int))
 (cond (gPickI ((f45wc wA wB wC).2) f45l1)
 (f45J1 n k a0 (CurT.b ((curPickI ((f45wc wA wB wC).2) f45l1).2)) (CurT.i ((curPickI ((f45wc wA wB wC).2) f45l1).2)) (CurT.h ((curPickI ((f45wc wA wB wC).2) f45l1).2)) wH wI wJ wG (f45v1 wD wF wL wE wA wB wC))
 none)
 (cond (((f45wc wA wB wC).1) == (2 : Int))
 (cond (gPickS ((f45wc wA wB wC).2) f45l2)
 (f45J1 n k a0 (CurT.b ((curPick ((f45wc wA wB wC).2) f45l2).2)) (CurT.i ((curPick ((f45wc wA wB wC).2) f45l2).2)) (CurT.h ((curPick ((f45wc wA wB wC).2) f45l2).2)) wH wI wJ wG (f45v2 wD wF wL wE wA wB wC))
 none)
 (cond (((f45wc wA wB wC).1) == (3 : Int))
 (cond (Nat.ble ((NodeT.keys (atI (t := .node) (NodeT.kids (atI (t := .node) (NodeT.kids (atI (t := .node) wD wF)) wL)) wE)).length + 1) LIM)
 (cond (eqP [(wF, 4), (wL, 4), (wE, 3)] [(wF, 4), (wL, 4), (wE, 3)])
 (f45J1 n k a0 (CurT.b ((f45wc wA wB wC).2)) (CurT.i ((f45wc wA wB wC).2)) (CurT.h ((f45wc wA wB wC).2)) wH wI wJ wG (f45v3 wD wF wL wE))
 none)
 none)
 (cond (((f45wc wA wB wC).1) == (4 : Int))
 (cond (Nat.ble ((NodeT.kids (atI (t := .node) (NodeT.kids (atI (t := .node) (NodeT.kids (atI (t := .node) wD wF)) wL)) wE)).length + 1) LIM)
 (cond ((decide ((0 : Int) ≤ ((NodeT.kids (atI (t := .node) (NodeT.kids (atI (t := .node) (NodeT.kids (atI (t := .node) wD wF)) wL)) wE)).length : Int))) && (decide (((NodeT.kids (atI (t := .node) (NodeT.kids (atI (t := .node) (NodeT.kids (atI (t := .node) wD wF)) wL)) wE)).length : Int) < (((NodeT.kids (atI (t := .node) (NodeT.kids (atI (t := .node) (NodeT.kids (atI (t := .node) wD wF)) wL)) wE)) ++ ([(⟨(0 : Int), (0 : Int), ByteArray.empty, ([] : List BA), ([] : List NodeT)⟩ : NodeT)] : List NodeT)).length : Int))))
 (cond (eqP [(wF, 4), (wL, 4), (wE, 4)] [(wF, 4), (wL, 4), (wE, 4)])
 (f45J1 n k a0 (CurT.b ((f45wc wA wB wC).2)) (CurT.i ((f45wc wA wB wC).2)) (CurT.h ((f45wc wA wB wC).2)) wH wI wJ wG (f45v5 wD wF wL wE))
 none)
 none)
 none)
 (f45J3 n k a0 wF wL wE (((f45wc wA wB wC).1) == (4 : Int)) (CurT.b ((f45wc wA wB wC).2)) (CurT.i ((f45wc wA wB wC).2)) (CurT.h ((f45wc wA wB wC).2)) wH wI wJ wG wD))))))
 none)
theorem f45J0_eq {R : Type} (n : Nat) (k : Kt R) (a0 : CurT) (wF : Nat) (wL : Nat) (wE : Nat) (wM : Bool) (wA : List Int) (wB : Int) (wC : Int) (wH : Int) (wI : Int) (wJ : BA) (wG : List BA) (wD : List NodeT) : ev f45e f45k n (cAt [1,1,1,1] f45c) (f45S3 wF wL wE wM wA wB wC wH wI wJ wG wD) (exitK f45e [.pmut] [false] true [.cell 2 27] [27] [.d .cur a0] k) = f45J0 n k a0  wF wL wE wM wA wB wC wH wI wJ wG wD := by
 rw [show (cAt [1,1,1,1] f45c) = .seq (cAt [1,1,1,1,0] f45c) (cAt [1,1,1,1,1] f45c) from by kernel_rfl, ev_seq, f45J0_a]
 simp only [seqK_n, seqK_r, f45J1_eq, f45J3_eq, f45J0]
noncomputable def f45v6 (wD : List NodeT) (wF : Nat) (wE : Nat) (wA : List Int) (wB : Int) (wC : Int) : List NodeT :=
 (wD.set wF (wK (atI (t := .node) wD wF) ((NodeT.kids (atI (t := .node) wD wF)).set wE (wKind (atI (t := .node) (NodeT.kids (atI (t := .node) wD wF)) wE) (IntKind.wrap .i64 (((curBelow ((f45wc wA wB wC).2) (8 : Int)).1) - (1 : Int)))))))
noncomputable def f45v7 (wD : List NodeT) (wF : Nat) (wE : Nat) (wA : List Int) (wB : Int) (wC : Int) : List NodeT :=
 (wD.set wF (wK (atI (t := .node) wD wF) ((NodeT.kids (atI (t := .node) wD wF)).set wE (wN (atI (t := .node) (NodeT.kids (atI (t := .node) wD wF)) wE) ((curPickI ((f45wc wA wB wC).2) f45l1).1)))))
noncomputable def f45v8 (wD : List NodeT) (wF : Nat) (wE : Nat) (wA : List Int) (wB : Int) (wC : Int) : List NodeT :=
 (wD.set wF (wK (atI (t := .node) wD wF) ((NodeT.kids (atI (t := .node) wD wF)).set wE (wS (atI (t := .node) (NodeT.kids (atI (t := .node) wD wF)) wE) ((curPick ((f45wc wA wB wC).2) f45l2).1)))))
noncomputable def f45v9 (wD : List NodeT) (wF : Nat) (wE : Nat) : List NodeT :=
 (wD.set wF (wK (atI (t := .node) wD wF) ((NodeT.kids (atI (t := .node) wD wF)).set wE (wKeys (atI (t := .node) (NodeT.kids (atI (t := .node) wD wF)) wE) ((NodeT.keys (atI (t := .node) (NodeT.kids (atI (t := .node) wD wF)) wE)) ++ ([(bs [97])] : List BA))))))
noncomputable def f45v10 (wD : List NodeT) (wF : Nat) (wE : Nat) : List NodeT :=
 (((NodeT.kids (atI (t := .node) (NodeT.kids (atI (t := .node) wD wF)) wE)) ++ ([(⟨(0 : Int), (0 : Int), ByteArray.empty, ([] : List BA), ([] : List NodeT)⟩ : NodeT)] : List NodeT)).set (Int.toNat ((NodeT.kids (atI (t := .node) (NodeT.kids (atI (t := .node) wD wF)) wE)).length : Int)) (⟨(0 : Int), (0 : Int), ByteArray.empty, ([] : List BA), ([] : List NodeT)⟩ : NodeT))
noncomputable def f45v11 (wD : List NodeT) (wF : Nat) (wE : Nat) : List NodeT :=
 (wD.set wF (wK (atI (t := .node) wD wF) ((NodeT.kids (atI (t := .node) wD wF)).set wE (wK (atI (t := .node) (NodeT.kids (atI (t := .node) wD wF)) wE) (f45v10 wD wF wE)))))
theorem f45J5_a {R : Type} (n : Nat) (k' : Kx R) (wF : Nat) (wE : Nat) (wO : Bool) (wA : List Int) (wB : Int) (wC : Int) (wH : Int) (wI : Int) (wJ : BA) (wG : List BA) (wD : List NodeT) : ev f45e f45k n (cAt [1,1,1,1,1,0] f45c) (f45S4 wF wE wO wA wB wC wH wI wJ wG wD) k' =
 (k' .normal (f45S0 wA wB wC wH wI wJ wG wD)) := by kernel_rfl
noncomputable def f45J5 {R : Type} (n : Nat) (k : Kt R) (a0 : CurT) (wF : Nat) (wE : Nat) (wO : Bool) (wA : List Int) (wB : Int) (wC : Int) (wH : Int) (wI : Int) (wJ : BA) (wG : List BA) (wD : List NodeT) : Option R :=
 (f45J2 n k a0 wA wB wC wH wI wJ wG wD)
theorem f45J5_eq {R : Type} (n : Nat) (k : Kt R) (a0 : CurT) (wF : Nat) (wE : Nat) (wO : Bool) (wA : List Int) (wB : Int) (wC : Int) (wH : Int) (wI : Int) (wJ : BA) (wG : List BA) (wD : List NodeT) : ev f45e f45k n (cAt [1,1,1,1,1] f45c) (f45S4 wF wE wO wA wB wC wH wI wJ wG wD) (exitK f45e [.pmut] [false] true [.cell 2 27] [27] [.d .cur a0] k) = f45J5 n k a0  wF wE wO wA wB wC wH wI wJ wG wD := by
 rw [show (cAt [1,1,1,1,1] f45c) = .seq (cAt [1,1,1,1,1,0] f45c) (cAt [1,1,1,1,1,1] f45c) from by kernel_rfl, ev_seq, f45J5_a]
 simp only [seqK_n, seqK_r, f45J2_eq, f45J5]
theorem f45J4_a {R : Type} (n : Nat) (k' : Kx R) (wF : Nat) (wE : Nat) (wM : Bool) (wA : List Int) (wB : Int) (wC : Int) (wH : Int) (wI : Int) (wJ : BA) (wG : List BA) (wD : List NodeT) : ev f45e f45k n (cAt [1,1,1,1,0] f45c) (f45S5 wF wE wM wA wB wC wH wI wJ wG wD) k' =
 (cond ((fun c _ => gCur c) (⟨wA, wB, wC⟩ : CurT) (14 : Int))
 (cond (((f45wc wA wB wC).1) == (0 : Int))
 (cond ((fun c _ => gCur c) ((f45wc wA wB wC).2) (8 : Int))
 (k' .normal (f45S1 (CurT.b ((curBelow ((f45wc wA wB wC).2) (8 : Int)).2)) (CurT.i ((curBelow ((f45wc wA wB wC).2) (8 : Int)).2)) (CurT.h ((curBelow ((f45wc wA wB wC).2) (8 : Int)).2)) wH wI wJ wG (f45v6 wD wF wE wA wB wC)))
 none)
 (cond (((f45wc wA wB wC).1) == (1 : Int))
 (cond (gPickI ((f45wc wA wB wC).2) f45l1)
 (k' .normal (f45S1 (CurT.b ((curPickI ((f45wc wA wB wC).2) f45l1).2)) (CurT.i ((curPickI ((f45wc wA wB wC).2) f45l1).2)) (CurT.h ((curPickI ((f45wc wA wB wC).2) f45l1).2)) wH wI wJ wG (f45v7 wD wF wE wA wB wC)))
 none)
 (cond (((f45wc wA wB wC).1) == (2 : Int))
 (cond (gPickS ((f45wc wA wB wC).2) f45l2)
 (k' .normal (f45S1 (CurT.b ((curPick ((f45wc wA wB wC).2) f45l2).2)) (CurT.i ((curPick ((f45wc wA wB wC).2) f45l2).2)) (CurT.h ((curPick ((f45wc wA wB wC).2) f45l2).2)) wH wI wJ wG (f45v8 wD wF wE wA wB wC)))
 none)
 (cond (((f45wc wA wB wC).1) == (3 : Int))
 (cond (Nat.ble ((NodeT.keys (atI (t := .node) (NodeT.kids (atI (t := .node) wD wF)) wE)).length + 1) LIM)
 (cond (eqP [(wF, 4), (wE, 3)] [(wF, 4), (wE, 3)])
 (k' .normal (f45S1 (CurT.b ((f45wc wA wB wC).2)) (CurT.i ((f45wc wA wB wC).2)) (CurT.h ((f45wc wA wB wC).2)) wH wI wJ wG (f45v9 wD wF wE)))
 none)
 none)
 (cond (((f45wc wA wB wC).1) == (4 : Int))
 (cond (Nat.ble ((NodeT.kids (atI (t := .node) (NodeT.kids (atI (t := .node) wD wF)) wE)).length + 1) LIM)
 (cond ((decide ((0 : Int) ≤ ((NodeT.kids (atI (t := .node) (NodeT.kids (atI (t := .node) wD wF)) wE)).length : Int))) && (decide (((NodeT.kids (atI (t := .node) (NodeT.kids (atI (t := .node) wD wF)) wE)).length : Int) < (((NodeT.kids (atI (t := .node) (NodeT.kids (atI (t := .node) wD wF)) wE)) ++ ([(⟨(0 : Int), (0 : Int), ByteArray.empty, ([] : List BA), ([] : List NodeT)⟩ : NodeT)] : List NodeT)).length : Int))))
 (cond (eqP [(wF, 4), (wE, 4)] [(wF, 4), (wE, 4)])
 (k' .normal (f45S1 (CurT.b ((f45wc wA wB wC).2)) (CurT.i ((f45wc wA wB wC).2)) (CurT.h ((f45wc wA wB wC).2)) wH wI wJ wG (f45v11 wD wF wE)))
 none)
 none)
 none)
 (k' .normal (f45S4 wF wE (((f45wc wA wB wC).1) == (4 : Int)) (CurT.b ((f45wc wA wB wC).2)) (CurT.i ((f45wc wA wB wC).2)) (CurT.h ((f45wc wA wB wC).2)) wH wI wJ wG wD)))))))
 none) := by kernel_rfl
noncomputable def f45J4 {R : Type} (n : Nat) (k : Kt R) (a0 : CurT) (wF : Nat) (wE : Nat) (wM : Bool) (wA : List Int) (wB : Int) (wC : Int) (wH : Int) (wI : Int) (wJ : BA) (wG : List BA) (wD : List NodeT) : Option R :=
 (cond ((fun c _ => gCur c) (⟨wA, wB, wC⟩ : CurT) (14 : Int))
 (cond (((f45wc wA wB wC).1) == (0 : Int))
 (cond ((fun c _ => gCur c) ((f45wc wA wB wC).2) (8 : Int))
 (f45J1 n k a0 (CurT.b ((curBelow ((f45wc wA wB wC).2) (8 : Int)).2)) (CurT.i ((curBelow ((f45wc wA wB wC).2) (8 : Int)).2)) (CurT.h ((curBelow ((f45wc wA wB wC).2) (8 : Int)).2)) wH wI wJ wG (f45v6 wD wF wE wA wB wC))
 none)
 (cond (((f45wc wA wB wC).1) == (1 : Int))
 (cond (gPickI ((f45wc wA wB wC).2) f45l1)
 (f45J1 n k a0 (CurT.b ((curPickI ((f45wc wA wB wC).2) f45l1).2)) (CurT.i ((curPickI ((f45wc wA wB wC).2) f45l1).2)) (CurT.h ((curPickI ((f45wc wA wB wC).2) f45l1).2)) wH wI wJ wG (f45v7 wD wF wE wA wB wC))
 none)
 (cond (((f45wc wA wB wC).1) == (2 : Int))
 (cond (gPickS ((f45wc wA wB wC).2) f45l2)
 (f45J1 n k a0 (CurT.b ((curPick ((f45wc wA wB wC).2) f45l2).2)) (CurT.i ((curPick ((f45wc wA wB wC).2) f45l2).2)) (CurT.h ((curPick ((f45wc wA wB wC).2) f45l2).2)) wH wI wJ wG (f45v8 wD wF wE wA wB wC))
 none)
 (cond (((f45wc wA wB wC).1) == (3 : Int))
 (cond (Nat.ble ((NodeT.keys (atI (t := .node) (NodeT.kids (atI (t := .node) wD wF)) wE)).length + 1) LIM)
 (cond (eqP [(wF, 4), (wE, 3)] [(wF, 4), (wE, 3)])
 (f45J1 n k a0 (CurT.b ((f45wc wA wB wC).2)) (CurT.i ((f45wc wA wB wC).2)) (CurT.h ((f45wc wA wB wC).2)) wH wI wJ wG (f45v9 wD wF wE))
 none)
 none)
 (cond (((f45wc wA wB wC).1) == (4 : Int))
 (cond (Nat.ble ((NodeT.kids (atI (t := .node) (NodeT.kids (atI (t := .node) wD wF)) wE)).length + 1) LIM)
 (cond ((decide ((0 : Int) ≤ ((NodeT.kids (atI (t := .node) (NodeT.kids (atI (t := .node) wD wF)) wE)).length : Int))) && (decide (((NodeT.kids (atI (t := .node) (NodeT.kids (atI (t := .node) wD wF)) wE)).length : Int) < (((NodeT.kids (atI (t := .node) (NodeT.kids (atI (t := .node) wD wF)) wE)) ++ ([(⟨(0 : Int), (0 : Int), ByteArray.empty, ([] : List BA), ([] : List NodeT)⟩ : NodeT)] : List NodeT)).length : Int))))
 (cond (eqP [(wF, 4), (wE, 4)] [(wF, 4), (wE, 4)])
 (f45J1 n k a0 (CurT.b ((f45wc wA wB wC).2)) (CurT.i ((f45wc wA wB wC).2)) (CurT.h ((f45wc wA wB wC).2)) wH wI wJ wG (f45v11 wD wF wE))
 none)
 none)
 none)
 (f45J5 n k a0 wF wE (((f45wc wA wB wC).1) == (4 : Int)) (CurT.b ((f45wc wA wB wC).2)) (CurT.i ((f45wc wA wB wC).2)) (CurT.h ((f45wc wA wB wC).2)) wH wI wJ wG wD))))))
 none)
theorem f45J4_eq {R : Type} (n : Nat) (k : Kt R) (a0 : CurT) (wF : Nat) (wE : Nat) (wM : Bool) (wA : List Int) (wB : Int) (wC : Int) (wH : Int) (wI : Int) (wJ : BA) (wG : List BA) (wD : List NodeT) : ev f45e f45k n (cAt [1,1,1,1] f45c) (f45S5 wF wE wM wA wB wC wH wI wJ wG wD) (exitK f45e [.pmut] [false] true [.cell 2 27] [27] [.d .cur a0] k) = f45J4 n k a0  wF wE wM wA wB wC wH wI wJ wG wD := by
 rw [show (cAt [1,1,1,1] f45c) = .seq (cAt [1,1,1,1,0] f45c) (cAt [1,1,1,1,1] f45c) from by kernel_rfl, ev_seq, f45J4_a]
 simp only [seqK_n, seqK_r, f45J1_eq, f45J5_eq, f45J4]
noncomputable def f45v12 (wD : List NodeT) (wE : Nat) (wA : List Int) (wB : Int) (wC : Int) : List NodeT :=
 (wD.set wE (wKind (atI (t := .node) wD wE) (IntKind.wrap .i64 (((curBelow ((f45wc wA wB wC).2) (8 : Int)).1) - (1 : Int)))))
noncomputable def f45v13 (wD : List NodeT) (wE : Nat) (wA : List Int) (wB : Int) (wC : Int) : List NodeT :=
 (wD.set wE (wN (atI (t := .node) wD wE) ((curPickI ((f45wc wA wB wC).2) f45l1).1)))
noncomputable def f45v14 (wD : List NodeT) (wE : Nat) (wA : List Int) (wB : Int) (wC : Int) : List NodeT :=
 (wD.set wE (wS (atI (t := .node) wD wE) ((curPick ((f45wc wA wB wC).2) f45l2).1)))
noncomputable def f45v15 (wD : List NodeT) (wE : Nat) : List NodeT :=
 (wD.set wE (wKeys (atI (t := .node) wD wE) ((NodeT.keys (atI (t := .node) wD wE)) ++ ([(bs [97])] : List BA))))
noncomputable def f45v16 (wD : List NodeT) (wE : Nat) : List NodeT :=
 (((NodeT.kids (atI (t := .node) wD wE)) ++ ([(⟨(0 : Int), (0 : Int), ByteArray.empty, ([] : List BA), ([] : List NodeT)⟩ : NodeT)] : List NodeT)).set (Int.toNat ((NodeT.kids (atI (t := .node) wD wE)).length : Int)) (⟨(0 : Int), (0 : Int), ByteArray.empty, ([] : List BA), ([] : List NodeT)⟩ : NodeT))
noncomputable def f45v17 (wD : List NodeT) (wE : Nat) : List NodeT :=
 (wD.set wE (wK (atI (t := .node) wD wE) (f45v16 wD wE)))
theorem f45J7_a {R : Type} (n : Nat) (k' : Kx R) (wE : Nat) (wO : Bool) (wA : List Int) (wB : Int) (wC : Int) (wH : Int) (wI : Int) (wJ : BA) (wG : List BA) (wD : List NodeT) : ev f45e f45k n (cAt [1,1,1,1,1,0] f45c) (f45S6 wE wO wA wB wC wH wI wJ wG wD) k' =
 (k' .normal (f45S0 wA wB wC wH wI wJ wG wD)) := by kernel_rfl
noncomputable def f45J7 {R : Type} (n : Nat) (k : Kt R) (a0 : CurT) (wE : Nat) (wO : Bool) (wA : List Int) (wB : Int) (wC : Int) (wH : Int) (wI : Int) (wJ : BA) (wG : List BA) (wD : List NodeT) : Option R :=
 (f45J2 n k a0 wA wB wC wH wI wJ wG wD)
theorem f45J7_eq {R : Type} (n : Nat) (k : Kt R) (a0 : CurT) (wE : Nat) (wO : Bool) (wA : List Int) (wB : Int) (wC : Int) (wH : Int) (wI : Int) (wJ : BA) (wG : List BA) (wD : List NodeT) : ev f45e f45k n (cAt [1,1,1,1,1] f45c) (f45S6 wE wO wA wB wC wH wI wJ wG wD) (exitK f45e [.pmut] [false] true [.cell 2 27] [27] [.d .cur a0] k) = f45J7 n k a0  wE wO wA wB wC wH wI wJ wG wD := by
 rw [show (cAt [1,1,1,1,1] f45c) = .seq (cAt [1,1,1,1,1,0] f45c) (cAt [1,1,1,1,1,1] f45c) from by kernel_rfl, ev_seq, f45J7_a]
 simp only [seqK_n, seqK_r, f45J2_eq, f45J7]
theorem f45J6_a {R : Type} (n : Nat) (k' : Kx R) (wE : Nat) (wM : Bool) (wA : List Int) (wB : Int) (wC : Int) (wH : Int) (wI : Int) (wJ : BA) (wG : List BA) (wD : List NodeT) : ev f45e f45k n (cAt [1,1,1,1,0] f45c) (f45S7 wE wM wA wB wC wH wI wJ wG wD) k' =
 (cond ((fun c _ => gCur c) (⟨wA, wB, wC⟩ : CurT) (14 : Int))
 (cond (((f45wc wA wB wC).1) == (0 : Int))
 (cond ((fun c _ => gCur c) ((f45wc wA wB wC).2) (8 : Int))
 (k' .normal (f45S1 (CurT.b ((curBelow ((f45wc wA wB wC).2) (8 : Int)).2)) (CurT.i ((curBelow ((f45wc wA wB wC).2) (8 : Int)).2)) (CurT.h ((curBelow ((f45wc wA wB wC).2) (8 : Int)).2)) wH wI wJ wG (f45v12 wD wE wA wB wC)))
 none)
 (cond (((f45wc wA wB wC).1) == (1 : Int))
 (cond (gPickI ((f45wc wA wB wC).2) f45l1)
 (k' .normal (f45S1 (CurT.b ((curPickI ((f45wc wA wB wC).2) f45l1).2)) (CurT.i ((curPickI ((f45wc wA wB wC).2) f45l1).2)) (CurT.h ((curPickI ((f45wc wA wB wC).2) f45l1).2)) wH wI wJ wG (f45v13 wD wE wA wB wC)))
 none)
 (cond (((f45wc wA wB wC).1) == (2 : Int))
 (cond (gPickS ((f45wc wA wB wC).2) f45l2)
 (k' .normal (f45S1 (CurT.b ((curPick ((f45wc wA wB wC).2) f45l2).2)) (CurT.i ((curPick ((f45wc wA wB wC).2) f45l2).2)) (CurT.h ((curPick ((f45wc wA wB wC).2) f45l2).2)) wH wI wJ wG (f45v14 wD wE wA wB wC)))
 none)
 (cond (((f45wc wA wB wC).1) == (3 : Int))
 (cond (Nat.ble ((NodeT.keys (atI (t := .node) wD wE)).length + 1) LIM)
 (cond (eqP [(wE, 3)] [(wE, 3)])
 (k' .normal (f45S1 (CurT.b ((f45wc wA wB wC).2)) (CurT.i ((f45wc wA wB wC).2)) (CurT.h ((f45wc wA wB wC).2)) wH wI wJ wG (f45v15 wD wE)))
 none)
 none)
 (cond (((f45wc wA wB wC).1) == (4 : Int))
 (cond (Nat.ble ((NodeT.kids (atI (t := .node) wD wE)).length + 1) LIM)
 (cond ((decide ((0 : Int) ≤ ((NodeT.kids (atI (t := .node) wD wE)).length : Int))) && (decide (((NodeT.kids (atI (t := .node) wD wE)).length : Int) < (((NodeT.kids (atI (t := .node) wD wE)) ++ ([(⟨(0 : Int), (0 : Int), ByteArray.empty, ([] : List BA), ([] : List NodeT)⟩ : NodeT)] : List NodeT)).length : Int))))
 (cond (eqP [(wE, 4)] [(wE, 4)])
 (k' .normal (f45S1 (CurT.b ((f45wc wA wB wC).2)) (CurT.i ((f45wc wA wB wC).2)) (CurT.h ((f45wc wA wB wC).2)) wH wI wJ wG (f45v17 wD wE)))
 none)
 none)
 none)
 (k' .normal (f45S6 wE (((f45wc wA wB wC).1) == (4 : Int)) (CurT.b ((f45wc wA wB wC).2)) (CurT.i ((f45wc wA wB wC).2)) (CurT.h ((f45wc wA wB wC).2)) wH wI wJ wG wD)))))))
 none) := by kernel_rfl
noncomputable def f45J6 {R : Type} (n : Nat) (k : Kt R) (a0 : CurT) (wE : Nat) (wM : Bool) (wA : List Int) (wB : Int) (wC : Int) (wH : Int) (wI : Int) (wJ : BA) (wG : List BA) (wD : List NodeT) : Option R :=
 (cond ((fun c _ => gCur c) (⟨wA, wB, wC⟩ : CurT) (14 : Int))
 (cond (((f45wc wA wB wC).1) == (0 : Int))
 (cond ((fun c _ => gCur c) ((f45wc wA wB wC).2) (8 : Int))
 (f45J1 n k a0 (CurT.b ((curBelow ((f45wc wA wB wC).2) (8 : Int)).2)) (CurT.i ((curBelow ((f45wc wA wB wC).2) (8 : Int)).2)) (CurT.h ((curBelow ((f45wc wA wB wC).2) (8 : Int)).2)) wH wI wJ wG (f45v12 wD wE wA wB wC))
 none)
 (cond (((f45wc wA wB wC).1) == (1 : Int))
 (cond (gPickI ((f45wc wA wB wC).2) f45l1)
 (f45J1 n k a0 (CurT.b ((curPickI ((f45wc wA wB wC).2) f45l1).2)) (CurT.i ((curPickI ((f45wc wA wB wC).2) f45l1).2)) (CurT.h ((curPickI ((f45wc wA wB wC).2) f45l1).2)) wH wI wJ wG (f45v13 wD wE wA wB wC))
 none)
 (cond (((f45wc wA wB wC).1) == (2 : Int))
 (cond (gPickS ((f45wc wA wB wC).2) f45l2)
 (f45J1 n k a0 (CurT.b ((curPick ((f45wc wA wB wC).2) f45l2).2)) (CurT.i ((curPick ((f45wc wA wB wC).2) f45l2).2)) (CurT.h ((curPick ((f45wc wA wB wC).2) f45l2).2)) wH wI wJ wG (f45v14 wD wE wA wB wC))
 none)
 (cond (((f45wc wA wB wC).1) == (3 : Int))
 (cond (Nat.ble ((NodeT.keys (atI (t := .node) wD wE)).length + 1) LIM)
 (cond (eqP [(wE, 3)] [(wE, 3)])
 (f45J1 n k a0 (CurT.b ((f45wc wA wB wC).2)) (CurT.i ((f45wc wA wB wC).2)) (CurT.h ((f45wc wA wB wC).2)) wH wI wJ wG (f45v15 wD wE))
 none)
 none)
 (cond (((f45wc wA wB wC).1) == (4 : Int))
 (cond (Nat.ble ((NodeT.kids (atI (t := .node) wD wE)).length + 1) LIM)
 (cond ((decide ((0 : Int) ≤ ((NodeT.kids (atI (t := .node) wD wE)).length : Int))) && (decide (((NodeT.kids (atI (t := .node) wD wE)).length : Int) < (((NodeT.kids (atI (t := .node) wD wE)) ++ ([(⟨(0 : Int), (0 : Int), ByteArray.empty, ([] : List BA), ([] : List NodeT)⟩ : NodeT)] : List NodeT)).length : Int))))
 (cond (eqP [(wE, 4)] [(wE, 4)])
 (f45J1 n k a0 (CurT.b ((f45wc wA wB wC).2)) (CurT.i ((f45wc wA wB wC).2)) (CurT.h ((f45wc wA wB wC).2)) wH wI wJ wG (f45v17 wD wE))
 none)
 none)
 none)
 (f45J7 n k a0 wE (((f45wc wA wB wC).1) == (4 : Int)) (CurT.b ((f45wc wA wB wC).2)) (CurT.i ((f45wc wA wB wC).2)) (CurT.h ((f45wc wA wB wC).2)) wH wI wJ wG wD))))))
 none)
theorem f45J6_eq {R : Type} (n : Nat) (k : Kt R) (a0 : CurT) (wE : Nat) (wM : Bool) (wA : List Int) (wB : Int) (wC : Int) (wH : Int) (wI : Int) (wJ : BA) (wG : List BA) (wD : List NodeT) : ev f45e f45k n (cAt [1,1,1,1] f45c) (f45S7 wE wM wA wB wC wH wI wJ wG wD) (exitK f45e [.pmut] [false] true [.cell 2 27] [27] [.d .cur a0] k) = f45J6 n k a0  wE wM wA wB wC wH wI wJ wG wD := by
 rw [show (cAt [1,1,1,1] f45c) = .seq (cAt [1,1,1,1,0] f45c) (cAt [1,1,1,1,1] f45c) from by kernel_rfl, ev_seq, f45J6_a]
 simp only [seqK_n, seqK_r, f45J1_eq, f45J7_eq, f45J6]
noncomputable def f45v18 (wD : List NodeT) : List NodeT :=
 ((wD ++ ([(⟨(0 : Int), (0 : Int), ByteArray.empty, ([] : List BA), ([] : List NodeT)⟩ : NodeT)] : List NodeT)).set (Int.toNat (wD.length : Int)) (⟨(0 : Int), (0 : Int), ByteArray.empty, ([] : List BA), ([] : List NodeT)⟩ : NodeT))
theorem f45J9_a {R : Type} (n : Nat) (k' : Kx R) (wO : Bool) (wA : List Int) (wB : Int) (wC : Int) (wH : Int) (wI : Int) (wJ : BA) (wG : List BA) (wD : List NodeT) : ev f45e f45k n (cAt [1,1,1,1,1,0] f45c) (f45S8 wO wA wB wC wH wI wJ wG wD) k' =
 (k' .normal (f45S0 wA wB wC wH wI wJ wG wD)) := by kernel_rfl
noncomputable def f45J9 {R : Type} (n : Nat) (k : Kt R) (a0 : CurT) (wO : Bool) (wA : List Int) (wB : Int) (wC : Int) (wH : Int) (wI : Int) (wJ : BA) (wG : List BA) (wD : List NodeT) : Option R :=
 (f45J2 n k a0 wA wB wC wH wI wJ wG wD)
theorem f45J9_eq {R : Type} (n : Nat) (k : Kt R) (a0 : CurT) (wO : Bool) (wA : List Int) (wB : Int) (wC : Int) (wH : Int) (wI : Int) (wJ : BA) (wG : List BA) (wD : List NodeT) : ev f45e f45k n (cAt [1,1,1,1,1] f45c) (f45S8 wO wA wB wC wH wI wJ wG wD) (exitK f45e [.pmut] [false] true [.cell 2 27] [27] [.d .cur a0] k) = f45J9 n k a0  wO wA wB wC wH wI wJ wG wD := by
 rw [show (cAt [1,1,1,1,1] f45c) = .seq (cAt [1,1,1,1,1,0] f45c) (cAt [1,1,1,1,1,1] f45c) from by kernel_rfl, ev_seq, f45J9_a]
 simp only [seqK_n, seqK_r, f45J2_eq, f45J9]
theorem f45J8_a {R : Type} (n : Nat) (k' : Kx R) (wM : Bool) (wA : List Int) (wB : Int) (wC : Int) (wH : Int) (wI : Int) (wJ : BA) (wG : List BA) (wD : List NodeT) : ev f45e f45k n (cAt [1,1,1,1,0] f45c) (f45S9 wM wA wB wC wH wI wJ wG wD) k' =
 (cond ((fun c _ => gCur c) (⟨wA, wB, wC⟩ : CurT) (14 : Int))
 (cond (((f45wc wA wB wC).1) == (0 : Int))
 (cond ((fun c _ => gCur c) ((f45wc wA wB wC).2) (8 : Int))
 (k' .normal (f45S1 (CurT.b ((curBelow ((f45wc wA wB wC).2) (8 : Int)).2)) (CurT.i ((curBelow ((f45wc wA wB wC).2) (8 : Int)).2)) (CurT.h ((curBelow ((f45wc wA wB wC).2) (8 : Int)).2)) (IntKind.wrap .i64 (((curBelow ((f45wc wA wB wC).2) (8 : Int)).1) - (1 : Int))) wI wJ wG wD))
 none)
 (cond (((f45wc wA wB wC).1) == (1 : Int))
 (cond (gPickI ((f45wc wA wB wC).2) f45l1)
 (k' .normal (f45S1 (CurT.b ((curPickI ((f45wc wA wB wC).2) f45l1).2)) (CurT.i ((curPickI ((f45wc wA wB wC).2) f45l1).2)) (CurT.h ((curPickI ((f45wc wA wB wC).2) f45l1).2)) wH ((curPickI ((f45wc wA wB wC).2) f45l1).1) wJ wG wD))
 none)
 (cond (((f45wc wA wB wC).1) == (2 : Int))
 (cond (gPickS ((f45wc wA wB wC).2) f45l2)
 (k' .normal (f45S1 (CurT.b ((curPick ((f45wc wA wB wC).2) f45l2).2)) (CurT.i ((curPick ((f45wc wA wB wC).2) f45l2).2)) (CurT.h ((curPick ((f45wc wA wB wC).2) f45l2).2)) wH wI ((curPick ((f45wc wA wB wC).2) f45l2).1) wG wD))
 none)
 (cond (((f45wc wA wB wC).1) == (3 : Int))
 (cond (Nat.ble (wG.length + 1) LIM)
 (k' .normal (f45S1 (CurT.b ((f45wc wA wB wC).2)) (CurT.i ((f45wc wA wB wC).2)) (CurT.h ((f45wc wA wB wC).2)) wH wI wJ (wG ++ ([(bs [97])] : List BA)) wD))
 none)
 (cond (((f45wc wA wB wC).1) == (4 : Int))
 (cond (Nat.ble (wD.length + 1) LIM)
 (cond ((decide ((0 : Int) ≤ (wD.length : Int))) && (decide ((wD.length : Int) < ((wD ++ ([(⟨(0 : Int), (0 : Int), ByteArray.empty, ([] : List BA), ([] : List NodeT)⟩ : NodeT)] : List NodeT)).length : Int))))
 (k' .normal (f45S1 (CurT.b ((f45wc wA wB wC).2)) (CurT.i ((f45wc wA wB wC).2)) (CurT.h ((f45wc wA wB wC).2)) wH wI wJ wG (f45v18 wD)))
 none)
 none)
 (k' .normal (f45S8 (((f45wc wA wB wC).1) == (4 : Int)) (CurT.b ((f45wc wA wB wC).2)) (CurT.i ((f45wc wA wB wC).2)) (CurT.h ((f45wc wA wB wC).2)) wH wI wJ wG wD)))))))
 none) := by kernel_rfl
noncomputable def f45J8 {R : Type} (n : Nat) (k : Kt R) (a0 : CurT) (wM : Bool) (wA : List Int) (wB : Int) (wC : Int) (wH : Int) (wI : Int) (wJ : BA) (wG : List BA) (wD : List NodeT) : Option R :=
 (cond ((fun c _ => gCur c) (⟨wA, wB, wC⟩ : CurT) (14 : Int))
 (cond (((f45wc wA wB wC).1) == (0 : Int))
 (cond ((fun c _ => gCur c) ((f45wc wA wB wC).2) (8 : Int))
 (f45J1 n k a0 (CurT.b ((curBelow ((f45wc wA wB wC).2) (8 : Int)).2)) (CurT.i ((curBelow ((f45wc wA wB wC).2) (8 : Int)).2)) (CurT.h ((curBelow ((f45wc wA wB wC).2) (8 : Int)).2)) (IntKind.wrap .i64 (((curBelow ((f45wc wA wB wC).2) (8 : Int)).1) - (1 : Int))) wI wJ wG wD)
 none)
 (cond (((f45wc wA wB wC).1) == (1 : Int))
 (cond (gPickI ((f45wc wA wB wC).2) f45l1)
 (f45J1 n k a0 (CurT.b ((curPickI ((f45wc wA wB wC).2) f45l1).2)) (CurT.i ((curPickI ((f45wc wA wB wC).2) f45l1).2)) (CurT.h ((curPickI ((f45wc wA wB wC).2) f45l1).2)) wH ((curPickI ((f45wc wA wB wC).2) f45l1).1) wJ wG wD)
 none)
 (cond (((f45wc wA wB wC).1) == (2 : Int))
 (cond (gPickS ((f45wc wA wB wC).2) f45l2)
 (f45J1 n k a0 (CurT.b ((curPick ((f45wc wA wB wC).2) f45l2).2)) (CurT.i ((curPick ((f45wc wA wB wC).2) f45l2).2)) (CurT.h ((curPick ((f45wc wA wB wC).2) f45l2).2)) wH wI ((curPick ((f45wc wA wB wC).2) f45l2).1) wG wD)
 none)
 (cond (((f45wc wA wB wC).1) == (3 : Int))
 (cond (Nat.ble (wG.length + 1) LIM)
 (f45J1 n k a0 (CurT.b ((f45wc wA wB wC).2)) (CurT.i ((f45wc wA wB wC).2)) (CurT.h ((f45wc wA wB wC).2)) wH wI wJ (wG ++ ([(bs [97])] : List BA)) wD)
 none)
 (cond (((f45wc wA wB wC).1) == (4 : Int))
 (cond (Nat.ble (wD.length + 1) LIM)
 (cond ((decide ((0 : Int) ≤ (wD.length : Int))) && (decide ((wD.length : Int) < ((wD ++ ([(⟨(0 : Int), (0 : Int), ByteArray.empty, ([] : List BA), ([] : List NodeT)⟩ : NodeT)] : List NodeT)).length : Int))))
 (f45J1 n k a0 (CurT.b ((f45wc wA wB wC).2)) (CurT.i ((f45wc wA wB wC).2)) (CurT.h ((f45wc wA wB wC).2)) wH wI wJ wG (f45v18 wD))
 none)
 none)
 (f45J9 n k a0 (((f45wc wA wB wC).1) == (4 : Int)) (CurT.b ((f45wc wA wB wC).2)) (CurT.i ((f45wc wA wB wC).2)) (CurT.h ((f45wc wA wB wC).2)) wH wI wJ wG wD))))))
 none)
theorem f45J8_eq {R : Type} (n : Nat) (k : Kt R) (a0 : CurT) (wM : Bool) (wA : List Int) (wB : Int) (wC : Int) (wH : Int) (wI : Int) (wJ : BA) (wG : List BA) (wD : List NodeT) : ev f45e f45k n (cAt [1,1,1,1] f45c) (f45S9 wM wA wB wC wH wI wJ wG wD) (exitK f45e [.pmut] [false] true [.cell 2 27] [27] [.d .cur a0] k) = f45J8 n k a0  wM wA wB wC wH wI wJ wG wD := by
 rw [show (cAt [1,1,1,1] f45c) = .seq (cAt [1,1,1,1,0] f45c) (cAt [1,1,1,1,1] f45c) from by kernel_rfl, ev_seq, f45J8_a]
 simp only [seqK_n, seqK_r, f45J1_eq, f45J9_eq, f45J8]
noncomputable def f45w0 (a0 : CurT) : NodeT × CurT := (dT a0 (3 : Int))
noncomputable def f45w1 (a0 : CurT) : Bool × CurT := (curOnce ((f45w0 a0).2) (2 : Int))
noncomputable def f45w2 (a0 : CurT) : Int × CurT := (curBelow ((f45w1 a0).2) ((NodeT.kids ((f45w0 a0).1)).length : Int))
noncomputable def f45w3 (a0 : CurT) : NodeT := (atI (t := .node) (NodeT.kids ((f45w0 a0).1)) (Int.toNat ((f45w2 a0).1)))
noncomputable def f45w4 (a0 : CurT) : Bool × CurT := (curOnce ((f45w2 a0).2) (2 : Int))
noncomputable def f45w5 (a0 : CurT) : Int × CurT := (curBelow ((f45w4 a0).2) ((NodeT.kids (f45w3 a0)).length : Int))
noncomputable def f45w6 (a0 : CurT) : Bool × CurT := (curOnce ((f45w5 a0).2) (2 : Int))
noncomputable def f45w7 (a0 : CurT) : NodeT := (atI (t := .node) (NodeT.kids (f45w3 a0)) (Int.toNat ((f45w5 a0).1)))
noncomputable def f45w8 (a0 : CurT) : Int × CurT := (curBelow ((f45w6 a0).2) ((NodeT.kids (f45w7 a0)).length : Int))
theorem f45_run {R : Type} (n : Nat) (k : Kt R) (a0 : CurT) : evFn f45e f45k (n + 4) f45c [.pmut] [false] true [.cell 2 27] [27] [.d .cur a0] k =
 (cond (gDT a0 (3 : Int))
 (cond (decide (((NodeT.kids ((f45w0 a0).1)).length : Int) > (0 : Int)))
 (cond ((fun c _ => gCur c) ((f45w0 a0).2) (2 : Int))
 (cond (!((f45w1 a0).1))
 (cond ((fun c _ => gCur c) ((f45w1 a0).2) ((NodeT.kids ((f45w0 a0).1)).length : Int))
 (cond ((decide ((0 : Int) ≤ ((f45w2 a0).1))) && (decide (((f45w2 a0).1) < ((NodeT.kids ((f45w0 a0).1)).length : Int))))
 (cond (decide (((NodeT.kids (f45w3 a0)).length : Int) > (0 : Int)))
 (cond ((fun c _ => gCur c) ((f45w2 a0).2) (2 : Int))
 (cond (!((f45w4 a0).1))
 (cond ((fun c _ => gCur c) ((f45w4 a0).2) ((NodeT.kids (f45w3 a0)).length : Int))
 (cond ((decide ((0 : Int) ≤ ((f45w5 a0).1))) && (decide (((f45w5 a0).1) < ((NodeT.kids (f45w3 a0)).length : Int))))
 (cond (decide (((NodeT.kids (f45w7 a0)).length : Int) > (0 : Int)))
 (cond ((fun c _ => gCur c) ((f45w5 a0).2) (2 : Int))
 (cond (!((f45w6 a0).1))
 (cond ((fun c _ => gCur c) ((f45w6 a0).2) ((NodeT.kids (f45w7 a0)).length : Int))
 (cond ((decide ((0 : Int) ≤ ((f45w8 a0).1))) && (decide (((f45w8 a0).1) < ((NodeT.kids (f45w7 a0)).length : Int))))
 (f45J0 n k a0 (Int.toNat ((f45w2 a0).1)) (Int.toNat ((f45w5 a0).1)) (Int.toNat ((f45w8 a0).1)) false (CurT.b ((f45w8 a0).2)) (CurT.i ((f45w8 a0).2)) (CurT.h ((f45w8 a0).2)) (NodeT.kind ((f45w0 a0).1)) (NodeT.n ((f45w0 a0).1)) (NodeT.s ((f45w0 a0).1)) (NodeT.keys ((f45w0 a0).1)) (NodeT.kids ((f45w0 a0).1)))
 none)
 none)
 (f45J4 n k a0 (Int.toNat ((f45w2 a0).1)) (Int.toNat ((f45w5 a0).1)) (!((f45w6 a0).1)) (CurT.b ((f45w6 a0).2)) (CurT.i ((f45w6 a0).2)) (CurT.h ((f45w6 a0).2)) (NodeT.kind ((f45w0 a0).1)) (NodeT.n ((f45w0 a0).1)) (NodeT.s ((f45w0 a0).1)) (NodeT.keys ((f45w0 a0).1)) (NodeT.kids ((f45w0 a0).1))))
 none)
 (f45J4 n k a0 (Int.toNat ((f45w2 a0).1)) (Int.toNat ((f45w5 a0).1)) false (CurT.b ((f45w5 a0).2)) (CurT.i ((f45w5 a0).2)) (CurT.h ((f45w5 a0).2)) (NodeT.kind ((f45w0 a0).1)) (NodeT.n ((f45w0 a0).1)) (NodeT.s ((f45w0 a0).1)) (NodeT.keys ((f45w0 a0).1)) (NodeT.kids ((f45w0 a0).1))))
 none)
 none)
 (f45J6 n k a0 (Int.toNat ((f45w2 a0).1)) (!((f45w4 a0).1)) (CurT.b ((f45w4 a0).2)) (CurT.i ((f45w4 a0).2)) (CurT.h ((f45w4 a0).2)) (NodeT.kind ((f45w0 a0).1)) (NodeT.n ((f45w0 a0).1)) (NodeT.s ((f45w0 a0).1)) (NodeT.keys ((f45w0 a0).1)) (NodeT.kids ((f45w0 a0).1))))
 none)
 (f45J6 n k a0 (Int.toNat ((f45w2 a0).1)) false (CurT.b ((f45w2 a0).2)) (CurT.i ((f45w2 a0).2)) (CurT.h ((f45w2 a0).2)) (NodeT.kind ((f45w0 a0).1)) (NodeT.n ((f45w0 a0).1)) (NodeT.s ((f45w0 a0).1)) (NodeT.keys ((f45w0 a0).1)) (NodeT.kids ((f45w0 a0).1))))
 none)
 none)
 (f45J8 n k a0 (!((f45w1 a0).1)) (CurT.b ((f45w1 a0).2)) (CurT.i ((f45w1 a0).2)) (CurT.h ((f45w1 a0).2)) (NodeT.kind ((f45w0 a0).1)) (NodeT.n ((f45w0 a0).1)) (NodeT.s ((f45w0 a0).1)) (NodeT.keys ((f45w0 a0).1)) (NodeT.kids ((f45w0 a0).1))))
 none)
 (f45J8 n k a0 false (CurT.b ((f45w0 a0).2)) (CurT.i ((f45w0 a0).2)) (CurT.h ((f45w0 a0).2)) (NodeT.kind ((f45w0 a0).1)) (NodeT.n ((f45w0 a0).1)) (NodeT.s ((f45w0 a0).1)) (NodeT.keys ((f45w0 a0).1)) (NodeT.kids ((f45w0 a0).1))))
 none) := by
  refine Eq.trans (b := (cond (gDT a0 (3 : Int))
  (cond (decide (((NodeT.kids ((f45w0 a0).1)).length : Int) > (0 : Int)))
   (cond ((fun c _ => gCur c) ((f45w0 a0).2) (2 : Int))
    (cond (!((f45w1 a0).1))
     (cond ((fun c _ => gCur c) ((f45w1 a0).2) ((NodeT.kids ((f45w0 a0).1)).length : Int))
      (cond ((decide ((0 : Int) ≤ ((f45w2 a0).1))) && (decide (((f45w2 a0).1) < ((NodeT.kids ((f45w0 a0).1)).length : Int))))
       (cond (decide (((NodeT.kids (f45w3 a0)).length : Int) > (0 : Int)))
        (cond ((fun c _ => gCur c) ((f45w2 a0).2) (2 : Int))
         (cond (!((f45w4 a0).1))
          (cond ((fun c _ => gCur c) ((f45w4 a0).2) ((NodeT.kids (f45w3 a0)).length : Int))
           (cond ((decide ((0 : Int) ≤ ((f45w5 a0).1))) && (decide (((f45w5 a0).1) < ((NodeT.kids (f45w3 a0)).length : Int))))
            (cond (decide (((NodeT.kids (f45w7 a0)).length : Int) > (0 : Int)))
             (cond ((fun c _ => gCur c) ((f45w5 a0).2) (2 : Int))
              (cond (!((f45w6 a0).1))
               (cond ((fun c _ => gCur c) ((f45w6 a0).2) ((NodeT.kids (f45w7 a0)).length : Int))
                (cond ((decide ((0 : Int) ≤ ((f45w8 a0).1))) && (decide (((f45w8 a0).1) < ((NodeT.kids (f45w7 a0)).length : Int))))
                 (ev f45e f45k n (cAt [1,1,1,1] f45c) (f45S3 (Int.toNat ((f45w2 a0).1)) (Int.toNat ((f45w5 a0).1)) (Int.toNat ((f45w8 a0).1)) false (CurT.b ((f45w8 a0).2)) (CurT.i ((f45w8 a0).2)) (CurT.h ((f45w8 a0).2)) (NodeT.kind ((f45w0 a0).1)) (NodeT.n ((f45w0 a0).1)) (NodeT.s ((f45w0 a0).1)) (NodeT.keys ((f45w0 a0).1)) (NodeT.kids ((f45w0 a0).1))) (exitK f45e [.pmut] [false] true [.cell 2 27] [27] [.d .cur a0] k))
                 none)
                none)
               (ev f45e f45k n (cAt [1,1,1,1] f45c) (f45S5 (Int.toNat ((f45w2 a0).1)) (Int.toNat ((f45w5 a0).1)) (!((f45w6 a0).1)) (CurT.b ((f45w6 a0).2)) (CurT.i ((f45w6 a0).2)) (CurT.h ((f45w6 a0).2)) (NodeT.kind ((f45w0 a0).1)) (NodeT.n ((f45w0 a0).1)) (NodeT.s ((f45w0 a0).1)) (NodeT.keys ((f45w0 a0).1)) (NodeT.kids ((f45w0 a0).1))) (exitK f45e [.pmut] [false] true [.cell 2 27] [27] [.d .cur a0] k)))
              none)
             (ev f45e f45k n (cAt [1,1,1,1] f45c) (f45S5 (Int.toNat ((f45w2 a0).1)) (Int.toNat ((f45w5 a0).1)) false (CurT.b ((f45w5 a0).2)) (CurT.i ((f45w5 a0).2)) (CurT.h ((f45w5 a0).2)) (NodeT.kind ((f45w0 a0).1)) (NodeT.n ((f45w0 a0).1)) (NodeT.s ((f45w0 a0).1)) (NodeT.keys ((f45w0 a0).1)) (NodeT.kids ((f45w0 a0).1))) (exitK f45e [.pmut] [false] true [.cell 2 27] [27] [.d .cur a0] k)))
            none)
           none)
          (ev f45e f45k n (cAt [1,1,1,1] f45c) (f45S7 (Int.toNat ((f45w2 a0).1)) (!((f45w4 a0).1)) (CurT.b ((f45w4 a0).2)) (CurT.i ((f45w4 a0).2)) (CurT.h ((f45w4 a0).2)) (NodeT.kind ((f45w0 a0).1)) (NodeT.n ((f45w0 a0).1)) (NodeT.s ((f45w0 a0).1)) (NodeT.keys ((f45w0 a0).1)) (NodeT.kids ((f45w0 a0).1))) (exitK f45e [.pmut] [false] true [.cell 2 27] [27] [.d .cur a0] k)))
         none)
        (ev f45e f45k n (cAt [1,1,1,1] f45c) (f45S7 (Int.toNat ((f45w2 a0).1)) false (CurT.b ((f45w2 a0).2)) (CurT.i ((f45w2 a0).2)) (CurT.h ((f45w2 a0).2)) (NodeT.kind ((f45w0 a0).1)) (NodeT.n ((f45w0 a0).1)) (NodeT.s ((f45w0 a0).1)) (NodeT.keys ((f45w0 a0).1)) (NodeT.kids ((f45w0 a0).1))) (exitK f45e [.pmut] [false] true [.cell 2 27] [27] [.d .cur a0] k)))
       none)
      none)
     (ev f45e f45k n (cAt [1,1,1,1] f45c) (f45S9 (!((f45w1 a0).1)) (CurT.b ((f45w1 a0).2)) (CurT.i ((f45w1 a0).2)) (CurT.h ((f45w1 a0).2)) (NodeT.kind ((f45w0 a0).1)) (NodeT.n ((f45w0 a0).1)) (NodeT.s ((f45w0 a0).1)) (NodeT.keys ((f45w0 a0).1)) (NodeT.kids ((f45w0 a0).1))) (exitK f45e [.pmut] [false] true [.cell 2 27] [27] [.d .cur a0] k)))
    none)
   (ev f45e f45k n (cAt [1,1,1,1] f45c) (f45S9 false (CurT.b ((f45w0 a0).2)) (CurT.i ((f45w0 a0).2)) (CurT.h ((f45w0 a0).2)) (NodeT.kind ((f45w0 a0).1)) (NodeT.n ((f45w0 a0).1)) (NodeT.s ((f45w0 a0).1)) (NodeT.keys ((f45w0 a0).1)) (NodeT.kids ((f45w0 a0).1))) (exitK f45e [.pmut] [false] true [.cell 2 27] [27] [.d .cur a0] k)))
  none)) (by kernel_rfl) ?_
  simp only [f45J0_eq, f45J4_eq, f45J6_eq, f45J8_eq]
theorem f45J0_ok (a0 : CurT) (t : NodeT) (c : CurT) (wF : Nat) (wL : Nat) (wE : Nat) (wM : Bool) (hg : gCur c = true) (h0 : okT t = true) (h1 : okT (atI (t := .node) t.kids wF) = true) (h2 : okT (atI (t := .node) (NodeT.kids (atI (t := .node) t.kids wF)) wL) = true) (h3 : okT (atI (t := .node) (NodeT.kids (atI (t := .node) (NodeT.kids (atI (t := .node) t.kids wF)) wL)) wE) = true) : ∃ o : NodeT × CurT, (okD 3 o.1 = true ∧ gCur o.2 = true) ∧ ∀ {R : Type} (n : Nat) (k : Kt R), f45J0 n k a0 wF wL wE wM c.b c.i c.h t.kind t.n t.s t.keys t.kids = k [.d .node o.1, .d .cur o.2] := by
 cases e0 : (((curBelow c (14 : Int)).1) == (0 : Int))
 cases e1 : (((curBelow c (14 : Int)).1) == (1 : Int))
 cases e2 : (((curBelow c (14 : Int)).1) == (2 : Int))
 cases e3 : (((curBelow c (14 : Int)).1) == (3 : Int))
 cases e4 : (((curBelow c (14 : Int)).1) == (4 : Int))
 all_goals
  refine ⟨(?_, ?_), ?_, ?_⟩
  rotate_left 3
  ·intro R n k; simp (decide := true) (maxDischargeDepth := 60) only [f45wc, f45l1, f45l2, f45J0, f45J1, f45J2, f45J3, f45J4, f45J5, f45J6, f45J7, f45J8, f45J9, *, curBelow_g, curOnce_g, curPick_g, curPickI_g, gPickS_of, gPickI_of, cond_true, cond_false, Bool.not_true, Bool.not_false, gDT3, dT_okT, dT_g, below_ix, okT_at, pick_50, eqP_self, lim_keys, lim_kids, len_idx, okD_set, okD_kind, okD_n, okD_s, okD_keys, okD_kids, okD_of, eN_eq, eta_node, Bool.and_self, f45v0, f45v1, f45v2, f45v3, f45v4, f45v5, f45v6, f45v7, f45v8, f45v9, f45v10, f45v11, f45v12, f45v13, f45v14, f45v15, f45v16, f45v17, f45v18, wKind, wN, wS, wKeys, wK, eta_node, eta_cur, eN_eq]; exact rfl
  simp (decide := true) (maxDischargeDepth := 60) only [f45wc, f45l1, f45l2, *, curBelow_g, curOnce_g, curPick_g, curPickI_g, gPickS_of, gPickI_of, smStr_pick, okI_pickI, okI_wrap, okI_below, and_self, gDT3, dT_okT, dT_g, below_ix, okT_at, pick_50, eqP_self, lim_keys, lim_kids, len_idx, okD_set, okD_kind, okD_n, okD_s, okD_keys, okD_kids, okD_of, eN_eq, eta_node, Bool.and_self, f45v0, f45v1, f45v2, f45v3, f45v4, f45v5, f45v6, f45v7, f45v8, f45v9, f45v10, f45v11, f45v12, f45v13, f45v14, f45v15, f45v16, f45v17, f45v18, wKind, wN, wS, wKeys, wK, eta_node, eta_cur, eN_eq]
theorem f45J4_ok (a0 : CurT) (t : NodeT) (c : CurT) (wF : Nat) (wE : Nat) (wM : Bool) (hg : gCur c = true) (h0 : okT t = true) (h1 : okT (atI (t := .node) t.kids wF) = true) (h2 : okT (atI (t := .node) (NodeT.kids (atI (t := .node) t.kids wF)) wE) = true) : ∃ o : NodeT × CurT, (okD 3 o.1 = true ∧ gCur o.2 = true) ∧ ∀ {R : Type} (n : Nat) (k : Kt R), f45J4 n k a0 wF wE wM c.b c.i c.h t.kind t.n t.s t.keys t.kids = k [.d .node o.1, .d .cur o.2] := by
 cases e0 : (((curBelow c (14 : Int)).1) == (0 : Int))
 cases e1 : (((curBelow c (14 : Int)).1) == (1 : Int))
 cases e2 : (((curBelow c (14 : Int)).1) == (2 : Int))
 cases e3 : (((curBelow c (14 : Int)).1) == (3 : Int))
 cases e4 : (((curBelow c (14 : Int)).1) == (4 : Int))
 all_goals
  refine ⟨(?_, ?_), ?_, ?_⟩
  rotate_left 3
  ·intro R n k; simp (decide := true) (maxDischargeDepth := 60) only [f45wc, f45l1, f45l2, f45J0, f45J1, f45J2, f45J3, f45J4, f45J5, f45J6, f45J7, f45J8, f45J9, *, curBelow_g, curOnce_g, curPick_g, curPickI_g, gPickS_of, gPickI_of, cond_true, cond_false, Bool.not_true, Bool.not_false, gDT3, dT_okT, dT_g, below_ix, okT_at, pick_50, eqP_self, lim_keys, lim_kids, len_idx, okD_set, okD_kind, okD_n, okD_s, okD_keys, okD_kids, okD_of, eN_eq, eta_node, Bool.and_self, f45v0, f45v1, f45v2, f45v3, f45v4, f45v5, f45v6, f45v7, f45v8, f45v9, f45v10, f45v11, f45v12, f45v13, f45v14, f45v15, f45v16, f45v17, f45v18, wKind, wN, wS, wKeys, wK, eta_node, eta_cur, eN_eq]; exact rfl
  simp (decide := true) (maxDischargeDepth := 60) only [f45wc, f45l1, f45l2, *, curBelow_g, curOnce_g, curPick_g, curPickI_g, gPickS_of, gPickI_of, smStr_pick, okI_pickI, okI_wrap, okI_below, and_self, gDT3, dT_okT, dT_g, below_ix, okT_at, pick_50, eqP_self, lim_keys, lim_kids, len_idx, okD_set, okD_kind, okD_n, okD_s, okD_keys, okD_kids, okD_of, eN_eq, eta_node, Bool.and_self, f45v0, f45v1, f45v2, f45v3, f45v4, f45v5, f45v6, f45v7, f45v8, f45v9, f45v10, f45v11, f45v12, f45v13, f45v14, f45v15, f45v16, f45v17, f45v18, wKind, wN, wS, wKeys, wK, eta_node, eta_cur, eN_eq]
theorem f45J6_ok (a0 : CurT) (t : NodeT) (c : CurT) (wE : Nat) (wM : Bool) (hg : gCur c = true) (h0 : okT t = true) (h1 : okT (atI (t := .node) t.kids wE) = true) : ∃ o : NodeT × CurT, (okD 3 o.1 = true ∧ gCur o.2 = true) ∧ ∀ {R : Type} (n : Nat) (k : Kt R), f45J6 n k a0 wE wM c.b c.i c.h t.kind t.n t.s t.keys t.kids = k [.d .node o.1, .d .cur o.2] := by
 cases e0 : (((curBelow c (14 : Int)).1) == (0 : Int))
 cases e1 : (((curBelow c (14 : Int)).1) == (1 : Int))
 cases e2 : (((curBelow c (14 : Int)).1) == (2 : Int))
 cases e3 : (((curBelow c (14 : Int)).1) == (3 : Int))
 cases e4 : (((curBelow c (14 : Int)).1) == (4 : Int))
 all_goals
  refine ⟨(?_, ?_), ?_, ?_⟩
  rotate_left 3
  ·intro R n k; simp (decide := true) (maxDischargeDepth := 60) only [f45wc, f45l1, f45l2, f45J0, f45J1, f45J2, f45J3, f45J4, f45J5, f45J6, f45J7, f45J8, f45J9, *, curBelow_g, curOnce_g, curPick_g, curPickI_g, gPickS_of, gPickI_of, cond_true, cond_false, Bool.not_true, Bool.not_false, gDT3, dT_okT, dT_g, below_ix, okT_at, pick_50, eqP_self, lim_keys, lim_kids, len_idx, okD_set, okD_kind, okD_n, okD_s, okD_keys, okD_kids, okD_of, eN_eq, eta_node, Bool.and_self, f45v0, f45v1, f45v2, f45v3, f45v4, f45v5, f45v6, f45v7, f45v8, f45v9, f45v10, f45v11, f45v12, f45v13, f45v14, f45v15, f45v16, f45v17, f45v18, wKind, wN, wS, wKeys, wK, eta_node, eta_cur, eN_eq]; exact rfl
  simp (decide := true) (maxDischargeDepth := 60) only [f45wc, f45l1, f45l2, *, curBelow_g, curOnce_g, curPick_g, curPickI_g, gPickS_of, gPickI_of, smStr_pick, okI_pickI, okI_wrap, okI_below, and_self, gDT3, dT_okT, dT_g, below_ix, okT_at, pick_50, eqP_self, lim_keys, lim_kids, len_idx, okD_set, okD_kind, okD_n, okD_s, okD_keys, okD_kids, okD_of, eN_eq, eta_node, Bool.and_self, f45v0, f45v1, f45v2, f45v3, f45v4, f45v5, f45v6, f45v7, f45v8, f45v9, f45v10, f45v11, f45v12, f45v13, f45v14, f45v15, f45v16, f45v17, f45v18, wKind, wN, wS, wKeys, wK, eta_node, eta_cur, eN_eq]
theorem f45J8_ok (a0 : CurT) (t : NodeT) (c : CurT) (wM : Bool) (hg : gCur c = true) (h0 : okT t = true) : ∃ o : NodeT × CurT, (okD 3 o.1 = true ∧ gCur o.2 = true) ∧ ∀ {R : Type} (n : Nat) (k : Kt R), f45J8 n k a0 wM c.b c.i c.h t.kind t.n t.s t.keys t.kids = k [.d .node o.1, .d .cur o.2] := by
 cases e0 : (((curBelow c (14 : Int)).1) == (0 : Int))
 cases e1 : (((curBelow c (14 : Int)).1) == (1 : Int))
 cases e2 : (((curBelow c (14 : Int)).1) == (2 : Int))
 cases e3 : (((curBelow c (14 : Int)).1) == (3 : Int))
 cases e4 : (((curBelow c (14 : Int)).1) == (4 : Int))
 all_goals
  refine ⟨(?_, ?_), ?_, ?_⟩
  rotate_left 3
  ·intro R n k; simp (decide := true) (maxDischargeDepth := 60) only [f45wc, f45l1, f45l2, f45J0, f45J1, f45J2, f45J3, f45J4, f45J5, f45J6, f45J7, f45J8, f45J9, *, curBelow_g, curOnce_g, curPick_g, curPickI_g, gPickS_of, gPickI_of, cond_true, cond_false, Bool.not_true, Bool.not_false, gDT3, dT_okT, dT_g, below_ix, okT_at, pick_50, eqP_self, lim_keys, lim_kids, len_idx, okD_set, okD_kind, okD_n, okD_s, okD_keys, okD_kids, okD_of, eN_eq, eta_node, Bool.and_self, f45v0, f45v1, f45v2, f45v3, f45v4, f45v5, f45v6, f45v7, f45v8, f45v9, f45v10, f45v11, f45v12, f45v13, f45v14, f45v15, f45v16, f45v17, f45v18, wKind, wN, wS, wKeys, wK, eta_node, eta_cur, eN_eq]; exact rfl
  simp (decide := true) (maxDischargeDepth := 60) only [f45wc, f45l1, f45l2, *, curBelow_g, curOnce_g, curPick_g, curPickI_g, gPickS_of, gPickI_of, smStr_pick, okI_pickI, okI_wrap, okI_below, and_self, gDT3, dT_okT, dT_g, below_ix, okT_at, pick_50, eqP_self, lim_keys, lim_kids, len_idx, okD_set, okD_kind, okD_n, okD_s, okD_keys, okD_kids, okD_of, eN_eq, eta_node, Bool.and_self, f45v0, f45v1, f45v2, f45v3, f45v4, f45v5, f45v6, f45v7, f45v8, f45v9, f45v10, f45v11, f45v12, f45v13, f45v14, f45v15, f45v16, f45v17, f45v18, wKind, wN, wS, wKeys, wK, eta_node, eta_cur, eN_eq]
def f45_P (a0 : CurT) (o : NodeT × CurT) : Prop := (fun _ o => okD 3 o.1 = true ∧ gCur o.2 = true) a0 o ∧ ∃ n : Nat, ∀ {R : Type} (k : Kt R), evFn f45e f45k n f45c [.pmut] [false] true [.cell 2 27] [27] [.d .cur a0] k = k [.d .node o.1, .d .cur o.2]
theorem f45_ex (a0 : CurT) (hg : gCur a0 = true) : ∃ o : NodeT × CurT, (fun _ o => okD 3 o.1 = true ∧ gCur o.2 = true) a0 o ∧ ∃ n : Nat, ∀ {R : Type} (k : Kt R), evFn f45e f45k n f45c [.pmut] [false] true [.cell 2 27] [27] [.d .cur a0] k = k [.d .node o.1, .d .cur o.2] := by
 have t0 := dT_okT hg
 have g0 : (gDT a0 (3 : Int)) = true := gDT3 hg
 cases e0 : (decide (((NodeT.kids ((f45w0 a0).1)).length : Int) > (0 : Int)))
 rotate_left
 have g1 : ((fun c _ => gCur c) ((f45w0 a0).2) (2 : Int)) = true := by first | exact dT_g hg | exact curOnce_g _ _ hg | exact curBelow_g _ _ hg
 cases e1 : (!((f45w1 a0).1))
 rotate_left
 have g2 : ((fun c _ => gCur c) ((f45w1 a0).2) ((NodeT.kids ((f45w0 a0).1)).length : Int)) = true := by first | exact dT_g hg | exact curOnce_g _ _ g1 | exact curBelow_g _ _ g1
 have g3 : ((decide ((0 : Int) ≤ ((f45w2 a0).1))) && (decide (((f45w2 a0).1) < ((NodeT.kids ((f45w0 a0).1)).length : Int)))) = true := below_ix g2 e0
 have t1 := okT_at t0 g2 e0
 cases e2 : (decide (((NodeT.kids (f45w3 a0)).length : Int) > (0 : Int)))
 rotate_left
 have g4 : ((fun c _ => gCur c) ((f45w2 a0).2) (2 : Int)) = true := by first | exact dT_g hg | exact curOnce_g _ _ g2 | exact curBelow_g _ _ g2
 cases e3 : (!((f45w4 a0).1))
 rotate_left
 have g5 : ((fun c _ => gCur c) ((f45w4 a0).2) ((NodeT.kids (f45w3 a0)).length : Int)) = true := by first | exact dT_g hg | exact curOnce_g _ _ g4 | exact curBelow_g _ _ g4
 have g6 : ((decide ((0 : Int) ≤ ((f45w5 a0).1))) && (decide (((f45w5 a0).1) < ((NodeT.kids (f45w3 a0)).length : Int)))) = true := below_ix g5 e2
 have t2 := okT_at t1 g5 e2
 cases e4 : (decide (((NodeT.kids (f45w7 a0)).length : Int) > (0 : Int)))
 rotate_left
 have g7 : ((fun c _ => gCur c) ((f45w5 a0).2) (2 : Int)) = true := by first | exact dT_g hg | exact curOnce_g _ _ g5 | exact curBelow_g _ _ g5
 cases e5 : (!((f45w6 a0).1))
 rotate_left
 have g8 : ((fun c _ => gCur c) ((f45w6 a0).2) ((NodeT.kids (f45w7 a0)).length : Int)) = true := by first | exact dT_g hg | exact curOnce_g _ _ g7 | exact curBelow_g _ _ g7
 have g9 : ((decide ((0 : Int) ≤ ((f45w8 a0).1))) && (decide (((f45w8 a0).1) < ((NodeT.kids (f45w7 a0)).length : Int)))) = true := below_ix g8 e4
 have t3 := okT_at t2 g8 e4
 ·refine Exists.elim (f45J0_ok a0 ((f45w0 a0).1) ((f45w8 a0).2) (Int.toNat ((f45w2 a0).1)) (Int.toNat ((f45w5 a0).1)) (Int.toNat ((f45w8 a0).1)) false (by first | exact dT_g hg | exact curOnce_g _ _ g8 | exact curBelow_g _ _ g8) t0 t1 t2 t3) fun o ho => ⟨o, ho.1, 0 + 4, fun {R} k => ?_⟩
  rw [f45_run]
  simp only [hg, e0, e1, e2, e3, e4, e5, g0, g1, g2, g3, g4, g5, g6, g7, g8, g9, cond_true, cond_false]
  exact ho.2 _ k
 ·refine Exists.elim (f45J8_ok a0 ((f45w0 a0).1) ((f45w0 a0).2) false (by first | exact dT_g hg | exact curOnce_g _ _ hg | exact curBelow_g _ _ hg) t0) fun o ho => ⟨o, ho.1, 0 + 4, fun {R} k => ?_⟩
  rw [f45_run]
  simp only [hg, e0, g0, cond_true, cond_false]
  exact ho.2 _ k
 ·refine Exists.elim (f45J8_ok a0 ((f45w0 a0).1) ((f45w1 a0).2) (!((f45w1 a0).1)) (by first | exact dT_g hg | exact curOnce_g _ _ g1 | exact curBelow_g _ _ g1) t0) fun o ho => ⟨o, ho.1, 0 + 4, fun {R} k => ?_⟩
  rw [f45_run]
  simp only [hg, e0, e1, g0, g1, cond_true, cond_false]
  exact ho.2 _ k
 ·refine Exists.elim (f45J6_ok a0 ((f45w0 a0).1) ((f45w2 a0).2) (Int.toNat ((f45w2 a0).1)) false (by first | exact dT_g hg | exact curOnce_g _ _ g2 | exact curBelow_g _ _ g2) t0 t1) fun o ho => ⟨o, ho.1, 0 + 4, fun {R} k => ?_⟩
  rw [f45_run]
  simp only [hg, e0, e1, e2, g0, g1, g2, g3, cond_true, cond_false]
  exact ho.2 _ k
 ·refine Exists.elim (f45J6_ok a0 ((f45w0 a0).1) ((f45w4 a0).2) (Int.toNat ((f45w2 a0).1)) (!((f45w4 a0).1)) (by first | exact dT_g hg | exact curOnce_g _ _ g4 | exact curBelow_g _ _ g4) t0 t1) fun o ho => ⟨o, ho.1, 0 + 4, fun {R} k => ?_⟩
  rw [f45_run]
  simp only [hg, e0, e1, e2, e3, g0, g1, g2, g3, g4, cond_true, cond_false]
  exact ho.2 _ k
 ·refine Exists.elim (f45J4_ok a0 ((f45w0 a0).1) ((f45w5 a0).2) (Int.toNat ((f45w2 a0).1)) (Int.toNat ((f45w5 a0).1)) false (by first | exact dT_g hg | exact curOnce_g _ _ g5 | exact curBelow_g _ _ g5) t0 t1 t2) fun o ho => ⟨o, ho.1, 0 + 4, fun {R} k => ?_⟩
  rw [f45_run]
  simp only [hg, e0, e1, e2, e3, e4, g0, g1, g2, g3, g4, g5, g6, cond_true, cond_false]
  exact ho.2 _ k
 ·refine Exists.elim (f45J4_ok a0 ((f45w0 a0).1) ((f45w6 a0).2) (Int.toNat ((f45w2 a0).1)) (Int.toNat ((f45w5 a0).1)) (!((f45w6 a0).1)) (by first | exact dT_g hg | exact curOnce_g _ _ g7 | exact curBelow_g _ _ g7) t0 t1 t2) fun o ho => ⟨o, ho.1, 0 + 4, fun {R} k => ?_⟩
  rw [f45_run]
  simp only [hg, e0, e1, e2, e3, e4, e5, g0, g1, g2, g3, g4, g5, g6, g7, cond_true, cond_false]
  exact ho.2 _ k
theorem f45_ne (a0 : CurT) : Nonempty {o : NodeT × CurT // gCur a0 = true → f45_P a0 o} := by
 by_cases hg : gCur a0 = true
 ·obtain ⟨o, ho⟩ := f45_ex a0 hg
  exact ⟨⟨o, fun _ => ho⟩⟩
 ·exact ⟨⟨((zero .node), (zero .cur)), fun h => absurd h hg⟩⟩
noncomputable def tDraw (a0 : CurT) : NodeT × CurT := (Classical.choice (f45_ne a0)).val
theorem f45_sp (a0 : CurT) (hg : gCur a0 = true) : f45_P a0 (tDraw a0) := (Classical.choice (f45_ne a0)).property hg
theorem tDraw_ok (a0 : CurT) (hg : gCur a0 = true) : (fun _ o => okD 3 o.1 = true ∧ gCur o.2 = true) a0 (tDraw a0) := (f45_sp a0 hg).1
theorem f45_spec (a0 : CurT) (hg : gCur a0 = true) : ∃ keep rounds, ∀ {R : Type} (k : Kt R), evFn f45e keep rounds f45c [.pmut] [false] true [.cell 2 27] [27] [.d .cur a0] k = k [.d .node ((tDraw a0).1), .d .cur ((tDraw a0).2)] := by
 obtain ⟨n, hn⟩ := (f45_sp a0 hg).2
 exact ⟨f45k, n, hn⟩
noncomputable def q45 : Qt
 | [.d .cur a0] => some ((gCur a0), [.d .node ((tDraw a0).1), .d .cur ((tDraw a0).2)])
 | _ => none
noncomputable def s45 : Gm.Spec := Gm.Spec.of [.pmut] [false] true q45
theorem good45 : Gm.Good Try.prog (45, s45) := by
 have hl : ∀ x ∈ [(36, s36), (52, s52), (53, s53), (75, s75), (81, s81)], Gm.Good Try.prog x := fcJ.2 ⟨good36, fcJ.2 ⟨good52, fcJ.2 ⟨good53, fcJ.2 ⟨good75, fcJ.2 ⟨good81, fcN⟩⟩⟩⟩⟩
 refine ⟨⟨spec_ok (tab_ok.env hl) (tab.natl hl) Try.func45 (by kernel_rfl : Try.f45.body = some f45c) [27] (by kernel_rfl) ?_, _, Try.func45, by kernel_rfl, of_decide_eq_true (by kernel_rfl)⟩, Gm.Spec.of_natl _ _ _ _⟩
 intro ds outs h
 unfold q45 at h
 split at h
 ·simp only [Option.some.injEq, Prod.mk.injEq] at h; obtain ⟨hg, h⟩ := h; cases h; exact f45_spec _ hg
 ·cases h
noncomputable def q80 : Qt
 | [.d .node a0] => some ((gPt a0), [.d (.sl (.sl .str)) (allPtrs a0)])
 | _ => none
noncomputable def mu80 : List Dt → Nat
 | [.d .node a0] => nd_node a0
 | _ => 0
noncomputable def s80r (N : Nat) : Gm.Spec := Gm.Spec.of [.ro] [false] true (qlt mu80 N q80)
noncomputable def f80S0 (y0 : Int) (y1 : BA) (y2 : Int) (y3 : Int) (y4 : Int) (y5 : BA) (y6 : List BA) (y7 : List NodeT) (y8 : List (List BA)) (y9 : List (List BA)) : St := ⟨[(1, .c (.one (.pt 1 0))), (3, .c (.one (.h 576 0 0 []))), (4, .c (.one (.v (.int .i64 y0)))), (5, .c (.one (.v (.string y1)))), (6, .c (.one (.h 2496 0 0 []))), (7, .c (.one (.v (.int .i64 y2))))], [(1, ⟨.node, [.v (.int .i64 y3), .v (.int .i64 y4), .v (.string y5), .ro .str y6, .ro .node y7]⟩)], [(576, .live ⟨(.sl .str), .deep, 0, [], y8⟩), (2496, .live ⟨(.sl .str), .deep, 0, [], y9⟩)]⟩
noncomputable def f80S1 (y0 : Int) (y1 : BA) (y2 : Int) (y3 : Bool) (y4 : Int) (y5 : Int) (y6 : BA) (y7 : List BA) (y8 : List NodeT) (y9 : List (List BA)) (y10 : List (List BA)) : St := ⟨[(1, .c (.one (.pt 1 0))), (3, .c (.one (.h 576 0 0 []))), (4, .c (.one (.v (.int .i64 y0)))), (5, .c (.one (.v (.string y1)))), (6, .c (.one (.h 2496 0 0 []))), (7, .c (.one (.v (.int .i64 y2)))), (43, .c (.one (.v (.bool y3))))], [(1, ⟨.node, [.v (.int .i64 y4), .v (.int .i64 y5), .v (.string y6), .ro .str y7, .ro .node y8]⟩)], [(576, .live ⟨(.sl .str), .deep, 0, [], y9⟩), (2496, .live ⟨(.sl .str), .deep, 0, [], y10⟩)]⟩
noncomputable def f80S2 (y0 : Int) (y1 : Int) (y2 : Int) (y3 : BA) (y4 : List BA) (y5 : List NodeT) (y6 : List (List BA)) : St := ⟨[(1, .c (.one (.pt 1 0))), (3, .c (.one (.h 576 0 0 []))), (4, .c (.one (.v (.int .i64 y0))))], [(1, ⟨.node, [.v (.int .i64 y1), .v (.int .i64 y2), .v (.string y3), .ro .str y4, .ro .node y5]⟩)], [(576, .live ⟨(.sl .str), .deep, 0, [], y6⟩)]⟩
noncomputable def f80S3 (y0 : Int) (y1 : Bool) (y2 : Int) (y3 : Int) (y4 : BA) (y5 : List BA) (y6 : List NodeT) (y7 : List (List BA)) : St := ⟨[(1, .c (.one (.pt 1 0))), (3, .c (.one (.h 576 0 0 []))), (4, .c (.one (.v (.int .i64 y0)))), (14, .c (.one (.v (.bool y1))))], [(1, ⟨.node, [.v (.int .i64 y2), .v (.int .i64 y3), .v (.string y4), .ro .str y5, .ro .node y6]⟩)], [(576, .live ⟨(.sl .str), .deep, 0, [], y7⟩)]⟩
noncomputable def f80c : Code := (Try.f80.body).getD .skip
def f80k : Nat → Kp := kat [⟨[1], [], [], []⟩, ⟨[1, 3], [], [], []⟩, ⟨[1, 3, 4], [], [], []⟩, ⟨[1, 3, 4, 14], [], [], []⟩, ⟨[1, 3, 4], [], [], []⟩, ⟨[1, 3, 4, 5], [], [], []⟩, ⟨[1, 3, 4, 5, 28], [], [], []⟩, ⟨[1, 3, 4, 5], [], [], []⟩, ⟨[1, 3, 4, 5, 6], [], [], []⟩, ⟨[1, 3, 4, 5, 6, 7], [], [], []⟩, ⟨[1, 3, 4, 5, 6, 7, 43], [], [], []⟩, ⟨[1, 3, 4, 5, 6, 7], [], [], []⟩, ⟨[1, 3, 4, 5, 6, 7], [], [], []⟩, ⟨[2], [], [], []⟩]
noncomputable def f80e (N : Nat) : Env := tab.env [(59, s59), (80, s80r N)]
noncomputable def f80L0 {R : Type} (N : Nat) (n : Nat) (x0 : Int → Bool → (List (List BA)) → Option R) (wA : Int) (wK : BA) (wD : Int) (wE : Int) (wF : BA) (wC : List BA) (wB : List NodeT) (wJ : List (List BA)) : Nat → Int → (List (List BA)) → Option R
  | 0, _, _ => none
  | m + 1, wI, wG =>
    (cond (decide (wI < (wJ.length : Int)))
   (cond ((decide ((0 : Int) ≤ wI)) && (decide (wI < (wJ.length : Int))))
    (cond (Nat.ble (1 + (atI (t := (.sl .str)) wJ (Int.toNat wI)).length) LIM)
     (cond (Nat.ble (wG.length + 1) LIM)
      (f80L0 N n x0 wA wK wD wE wF wC wB wJ m (IntKind.wrap .i64 (wI + (1 : Int))) (wG ++ ([(([wK] : List BA) ++ (atI (t := (.sl .str)) wJ (Int.toNat wI)))] : List (List BA))))
      none)
     none)
    none)
   (x0 wI (decide (wI < (wJ.length : Int))) wG))
theorem f80L0_b {R : Type} (N : Nat) (n : Nat) (k' : Kx R) (wA : Int) (wK : BA) (wI : Int) (wD : Int) (wE : Int) (wF : BA) (wC : List BA) (wB : List NodeT) (wG : List (List BA)) (wJ : List (List BA)) : ev (f80e N) f80k n (cAt [1,1,0,1,0,0,1,0,0,1,1,1,1,0,0] f80c) (f80S0 wA wK wI wD wE wF wC wB wG wJ) k' =
 (cond (decide (wI < (wJ.length : Int)))
 (cond ((decide ((0 : Int) ≤ wI)) && (decide (wI < (wJ.length : Int))))
 (cond (Nat.ble (1 + (atI (t := (.sl .str)) wJ (Int.toNat wI)).length) LIM)
 (cond (Nat.ble (wG.length + 1) LIM)
 (k' .normal (f80S0 wA wK (IntKind.wrap .i64 (wI + (1 : Int))) wD wE wF wC wB (wG ++ ([(([wK] : List BA) ++ (atI (t := (.sl .str)) wJ (Int.toNat wI)))] : List (List BA))) wJ))
 none)
 none)
 none)
 (k' (.exit 2) (f80S1 wA wK wI (decide (wI < (wJ.length : Int))) wD wE wF wC wB wG wJ))) := by kernel_rfl
theorem f80L0_eq {R : Type} (N : Nat) (n : Nat) (k' : Kx R) (wA : Int) (wK : BA) (wD : Int) (wE : Int) (wF : BA) (wC : List BA) (wB : List NodeT) (wJ : List (List BA)) : ∀ (m : Nat) (wI : Int) (wG : List (List BA)), iter (fun st k => ev (f80e N) f80k n (cAt [1,1,0,1,0,0,1,0,0,1,1,1,1,0,0] f80c) st k) m (f80S0 wA wK wI wD wE wF wC wB wG wJ) k' = f80L0 N n (fun (wL : Int) (wM : Bool) (wH : List (List BA)) => k' (.exit 2) (f80S1 wA wK wL wM wD wE wF wC wB wH wJ)) wA wK wD wE wF wC wB wJ m wI wG := by
 intro m; induction m with
 | zero => intros; rfl
 | succ m ih =>
  intro wI wG
  simp only [iter]
  rw [f80L0_b]
  simp only [ih, f80L0]
noncomputable def f80K0 {R : Type} (N : Nat) (n : Nat) (k' : Kx R) : Kx R := (blockK 2 (blockK 1 (seqK (f80e N) f80k n (cAt [1,1,0,1,0,0,1,1] f80c) k')))
theorem f80K0_x0 {R : Type} (N : Nat) (n : Nat) (k' : Kx R) (wA : Int) (wK : BA) (wD : Int) (wE : Int) (wF : BA) (wC : List BA) (wB : List NodeT) (wJ : List (List BA)) (wL : Int) (wM : Bool) (wH : List (List BA)) : f80K0 N n k' (.exit 2) (f80S1 wA wK wL wM wD wE wF wC wB wH wJ) =
 (k' .normal (f80S2 (IntKind.wrap .i64 (wA + (1 : Int))) wD wE wF wC wB wH)) := by kernel_rfl
noncomputable def f80L1 {R : Type} (N : Nat) (n : Nat) (x0 : Int → Bool → (List (List BA)) → Option R) (wD : Int) (wE : Int) (wF : BA) (wC : List BA) (wB : List NodeT) : Nat → Int → (List (List BA)) → Option R
  | 0, _, _ => none
  | m + 1, wA, wG =>
    (cond (decide (wA < (wB.length : Int)))
   (cond (okI wA)
    (cond (wD == (5 : Int))
     (cond (decide (wA < (wC.length : Int)))
      (cond ((decide ((0 : Int) ≤ wA)) && (decide (wA < (wC.length : Int))))
       (cond ((decide ((0 : Int) ≤ wA)) && (decide (wA < (wB.length : Int))))
        (cond ((gPt (eN (atI (t := .node) wB (Int.toNat wA)))) && (Nat.blt (nd_node (eN (atI (t := .node) wB (Int.toNat wA)))) N))
         (f80L0 N n (fun (wL : Int) (wM : Bool) (wH : List (List BA)) =>
          (f80L1 N n x0 wD wE wF wC wB m (IntKind.wrap .i64 (wA + (1 : Int))) wH)) wA (atI (t := .str) wC (Int.toNat wA)) wD wE wF wC wB (allPtrs (eN (atI (t := .node) wB (Int.toNat wA)))) n (0 : Int) wG)
         none)
        none)
       none)
      (cond ((decide ((0 : Int) ≤ wA)) && (decide (wA < (wB.length : Int))))
       (cond ((gPt (eN (atI (t := .node) wB (Int.toNat wA)))) && (Nat.blt (nd_node (eN (atI (t := .node) wB (Int.toNat wA)))) N))
        (f80L0 N n (fun (wL : Int) (wM : Bool) (wH : List (List BA)) =>
         (f80L1 N n x0 wD wE wF wC wB m (IntKind.wrap .i64 (wA + (1 : Int))) wH)) wA (digS wA) wD wE wF wC wB (allPtrs (eN (atI (t := .node) wB (Int.toNat wA)))) n (0 : Int) wG)
        none)
       none))
     (cond ((decide ((0 : Int) ≤ wA)) && (decide (wA < (wB.length : Int))))
      (cond ((gPt (eN (atI (t := .node) wB (Int.toNat wA)))) && (Nat.blt (nd_node (eN (atI (t := .node) wB (Int.toNat wA)))) N))
       (f80L0 N n (fun (wL : Int) (wM : Bool) (wH : List (List BA)) =>
        (f80L1 N n x0 wD wE wF wC wB m (IntKind.wrap .i64 (wA + (1 : Int))) wH)) wA (digS wA) wD wE wF wC wB (allPtrs (eN (atI (t := .node) wB (Int.toNat wA)))) n (0 : Int) wG)
       none)
      none))
    none)
   (x0 wA (decide (wA < (wB.length : Int))) wG))
theorem f80L1_b {R : Type} (N : Nat) (n : Nat) (k' : Kx R) (wA : Int) (wD : Int) (wE : Int) (wF : BA) (wC : List BA) (wB : List NodeT) (wG : List (List BA)) : ev (f80e N) f80k n (cAt [1,1,0,1,0,0] f80c) (f80S2 wA wD wE wF wC wB wG) k' =
 (cond (decide (wA < (wB.length : Int)))
 (cond (okI wA)
 (cond (wD == (5 : Int))
 (cond (decide (wA < (wC.length : Int)))
 (cond ((decide ((0 : Int) ≤ wA)) && (decide (wA < (wC.length : Int))))
 (cond ((decide ((0 : Int) ≤ wA)) && (decide (wA < (wB.length : Int))))
 (cond ((gPt (eN (atI (t := .node) wB (Int.toNat wA)))) && (Nat.blt (nd_node (eN (atI (t := .node) wB (Int.toNat wA)))) N))
 (f80L0 N n (fun (wL : Int) (wM : Bool) (wH : List (List BA)) =>
 (k' .normal (f80S2 (IntKind.wrap .i64 (wA + (1 : Int))) wD wE wF wC wB wH))) wA (atI (t := .str) wC (Int.toNat wA)) wD wE wF wC wB (allPtrs (eN (atI (t := .node) wB (Int.toNat wA)))) n (0 : Int) wG)
 none)
 none)
 none)
 (cond ((decide ((0 : Int) ≤ wA)) && (decide (wA < (wB.length : Int))))
 (cond ((gPt (eN (atI (t := .node) wB (Int.toNat wA)))) && (Nat.blt (nd_node (eN (atI (t := .node) wB (Int.toNat wA)))) N))
 (f80L0 N n (fun (wL : Int) (wM : Bool) (wH : List (List BA)) =>
 (k' .normal (f80S2 (IntKind.wrap .i64 (wA + (1 : Int))) wD wE wF wC wB wH))) wA (digS wA) wD wE wF wC wB (allPtrs (eN (atI (t := .node) wB (Int.toNat wA)))) n (0 : Int) wG)
 none)
 none))
 (cond ((decide ((0 : Int) ≤ wA)) && (decide (wA < (wB.length : Int))))
 (cond ((gPt (eN (atI (t := .node) wB (Int.toNat wA)))) && (Nat.blt (nd_node (eN (atI (t := .node) wB (Int.toNat wA)))) N))
 (f80L0 N n (fun (wL : Int) (wM : Bool) (wH : List (List BA)) =>
 (k' .normal (f80S2 (IntKind.wrap .i64 (wA + (1 : Int))) wD wE wF wC wB wH))) wA (digS wA) wD wE wF wC wB (allPtrs (eN (atI (t := .node) wB (Int.toNat wA)))) n (0 : Int) wG)
 none)
 none))
 none)
 (k' (.exit 0) (f80S3 wA (decide (wA < (wB.length : Int))) wD wE wF wC wB wG))) := by
  refine Eq.trans (b := (cond (decide (wA < (wB.length : Int)))
  (cond (okI wA)
   (cond (wD == (5 : Int))
    (cond (decide (wA < (wC.length : Int)))
     (cond ((decide ((0 : Int) ≤ wA)) && (decide (wA < (wC.length : Int))))
      (cond ((decide ((0 : Int) ≤ wA)) && (decide (wA < (wB.length : Int))))
       (cond ((gPt (eN (atI (t := .node) wB (Int.toNat wA)))) && (Nat.blt (nd_node (eN (atI (t := .node) wB (Int.toNat wA)))) N))
        (iter (fun st k => ev (f80e N) f80k n (cAt [1,1,0,1,0,0,1,0,0,1,1,1,1,0,0] f80c) st k) n (f80S0 wA (atI (t := .str) wC (Int.toNat wA)) (0 : Int) wD wE wF wC wB wG (allPtrs (eN (atI (t := .node) wB (Int.toNat wA))))) (f80K0 N n k'))
        none)
       none)
      none)
     (cond ((decide ((0 : Int) ≤ wA)) && (decide (wA < (wB.length : Int))))
      (cond ((gPt (eN (atI (t := .node) wB (Int.toNat wA)))) && (Nat.blt (nd_node (eN (atI (t := .node) wB (Int.toNat wA)))) N))
       (iter (fun st k => ev (f80e N) f80k n (cAt [1,1,0,1,0,0,1,0,0,1,1,1,1,0,0] f80c) st k) n (f80S0 wA (digS wA) (0 : Int) wD wE wF wC wB wG (allPtrs (eN (atI (t := .node) wB (Int.toNat wA))))) (f80K0 N n k'))
       none)
      none))
    (cond ((decide ((0 : Int) ≤ wA)) && (decide (wA < (wB.length : Int))))
     (cond ((gPt (eN (atI (t := .node) wB (Int.toNat wA)))) && (Nat.blt (nd_node (eN (atI (t := .node) wB (Int.toNat wA)))) N))
      (iter (fun st k => ev (f80e N) f80k n (cAt [1,1,0,1,0,0,1,0,0,1,1,1,1,0,0] f80c) st k) n (f80S0 wA (digS wA) (0 : Int) wD wE wF wC wB wG (allPtrs (eN (atI (t := .node) wB (Int.toNat wA))))) (f80K0 N n k'))
      none)
     none))
   none)
  (k' (.exit 0) (f80S3 wA (decide (wA < (wB.length : Int))) wD wE wF wC wB wG)))) (by kernel_rfl) ?_
  simp only [f80L0_eq, f80K0_x0]
theorem f80L1_eq {R : Type} (N : Nat) (n : Nat) (k' : Kx R) (wD : Int) (wE : Int) (wF : BA) (wC : List BA) (wB : List NodeT) : ∀ (m : Nat) (wA : Int) (wG : List (List BA)), iter (fun st k => ev (f80e N) f80k n (cAt [1,1,0,1,0,0] f80c) st k) m (f80S2 wA wD wE wF wC wB wG) k' = f80L1 N n (fun (wN : Int) (wO : Bool) (wH : List (List BA)) => k' (.exit 0) (f80S3 wN wO wD wE wF wC wB wH)) wD wE wF wC wB m wA wG := by
 intro m; induction m with
 | zero => intros; rfl
 | succ m ih =>
  intro wA wG
  simp only [iter]
  rw [f80L1_b]
  simp only [ih, f80L1]
noncomputable def f80K1 {R : Type} (N : Nat) (n : Nat) (k' : Kx R) : Kx R := (blockK 0 (seqK (f80e N) f80k n (cAt [1,1,1] f80c) k'))
theorem f80K1_x0 {R : Type} (N : Nat) (n : Nat) (k : Kt R) (a0 : NodeT) (wD : Int) (wE : Int) (wF : BA) (wC : List BA) (wB : List NodeT) (wN : Int) (wO : Bool) (wH : List (List BA)) : f80K1 N n (exitK (f80e N) [.ro] [false] true [.tmp 2] [98] [.d .node a0] k) (.exit 0) (f80S3 wN wO wD wE wF wC wB wH) =
 (k [.d (.sl (.sl .str)) wH]) := by kernel_rfl
theorem f80_run {R : Type} (N : Nat) (n : Nat) (k : Kt R) (a0 : NodeT) : evFn (f80e N) f80k n f80c [.ro] [false] true [.tmp 2] [98] [.d .node a0] k =
 (f80L1 N n (fun (wN : Int) (wO : Bool) (wH : List (List BA)) =>
 (k [.d (.sl (.sl .str)) wH])) (NodeT.kind a0) (NodeT.n a0) (NodeT.s a0) (NodeT.keys a0) (NodeT.kids a0) n (0 : Int) [([] : List BA)]) := by
 refine Eq.trans (b := (iter (fun st k => ev (f80e N) f80k n (cAt [1,1,0,1,0,0] f80c) st k) n (f80S2 (0 : Int) (NodeT.kind a0) (NodeT.n a0) (NodeT.s a0) (NodeT.keys a0) (NodeT.kids a0) ([([] : List BA)] : List (List BA))) (f80K1 N n (exitK (f80e N) [.ro] [false] true [.tmp 2] [98] [.d .node a0] k)))) (by kernel_rfl) ?_
 simp only [f80L1_eq, f80K1_x0]
theorem f80_spec (N : Nat) (a0 : NodeT) (hg : gPt a0 = true) (hm : mu80 [.d .node a0] = N) : ∃ keep rounds, ∀ {R : Type} (k : Kt R), evFn (f80e N) keep rounds f80c [.ro] [false] true [.tmp 2] [98] [.d .node a0] k = k [.d (.sl (.sl .str)) (allPtrs a0)] := by
 have hm : nd_node a0 = N := hm
 subst hm
 have hg0 := hg
 simp only [gPt, Bool.and_eq_true] at hg
 obtain ⟨hg, hnd⟩ := hg
 have hnd := bleN hnd
 rw [sm_node_def] at hg
 simp only [Bool.and_eq_true] at hg
 obtain ⟨_, _, _, hke, hki⟩ := hg
 have nke := smL_len hke
 have nki := smL_len hki
 have hkl : a0.kids.length + 1 ≤ nd_node a0 := by
  rw [nd_node_def]
  have : ∀ l : List NodeT, l.length ≤ ndL nd_node l := fun l => by
   induction l with
   | nil => exact Nat.zero_le _
   | cons y r ih =>
    have e1 : ndL nd_node (y :: r) = nd_node y + ndL nd_node r := by simp [ndL]
    have := nd_node_def y
    rw [List.length_cons]; omega
  have := this a0.kids
  omega
 refine ⟨f80k, nd_node a0 + 1, fun {R} k => ?_⟩
 rw [f80_run]
 show _ = k [.d (.sl (.sl .str)) (allPtrs a0)]
 have hlen := allPtrs_len a0
 rw [allPtrs_def, List.length_cons] at hlen
 have inner : ∀ (x : NodeT) (j : Nat) (part : BA) (out : List (List BA)) (fin : Int → Bool → List (List BA) → Option R), x ∈ a0.kids → out.length + (allPtrs x).length ≤ nd_node a0 →
   f80L0 (nd_node a0) (nd_node a0 + 1) fin (j : Int) part a0.kind a0.n a0.s a0.keys a0.kids (allPtrs x) (nd_node a0 + 1) (0 : Int) out = fin ((allPtrs x).length : Int) false (out ++ (allPtrs x).map fun p => part :: p) := by
  intro x j part out fin hx hB
  have hxl := nd_node_kid hx
  have hxn := allPtrs_len x
  refine Eq.trans (loop_acc (xs := allPtrs x) (F := fun m j' out => f80L0 (nd_node a0) (nd_node a0 + 1) fin (j : Int) part a0.kind a0.n a0.s a0.keys a0.kids (allPtrs x) m (j' : Int) out) (f := fun out p => out ++ [part :: p]) (good := fun out => fin ((allPtrs x).length : Int) false out) (fun j' o => o.length ≤ out.length + j')
   (fun j' o p hp hi => by simp only [List.length_append, List.length_cons, List.length_nil]; omega) (fun m j' o p hp hi => ?_) (fun m o hi => by simp only [f80L0, idxE, cond_false]) (allPtrs x).length 0 (nd_node a0 + 1) out (by omega) (by omega) (by omega)) ?_
  ·obtain ⟨h1, h0, hw, ht⟩ := idx (lt_of_get hp) (by omega)
   have hj := lt_of_get hp
   have hway := allPtrs_way x p (List.mem_of_getElem? hp)
   have hlim : Nat.ble (o.length + 1) LIM = true := Nat.ble_eq_true_of_le (by have : (LIM : Nat) = 4294967296 := rfl; omega)
   have hlim2 : Nat.ble (1 + p.length) LIM = true := Nat.ble_eq_true_of_le (by have : (LIM : Nat) = 4294967296 := rfl; omega)
   simp only [f80L0, h1, h0, hw, ht, atI_of (t := .sl .str) hp, Bool.and_self, cond_true, hlim, hlim2]
   rfl
  ·rw [List.drop_zero]
   congr 1
   have : ∀ (l : List (List BA)) (o : List (List BA)), l.foldl (fun out p => out ++ [part :: p]) o = o ++ l.map fun p => part :: p := by
    intro l
    induction l with
    | nil => intro o; simp
    | cons y r ih => intro o; rw [List.foldl_cons, ih]; simp
   exact this _ _
 refine Eq.trans (loop_ptr (kids := a0.kids) (kind := a0.kind) (keys := a0.keys) (B := nd_node a0) (F := fun m j out => f80L1 (nd_node a0) (nd_node a0 + 1) _ a0.kind a0.n a0.s a0.keys a0.kids m (j : Int) out) (good := fun out => k [.d (.sl (.sl .str)) out])
  (fun m j out x hx hB => ?_) (fun m out => by simp only [f80L1, idxE, cond_false]) a0.kids.length 0 (nd_node a0 + 1) [[]] (by omega) (by omega) (by rw [List.drop_zero, List.length_cons, List.length_nil]; omega)) ?_
 ·obtain ⟨h1, h0, hw, ht⟩ := idx (lt_of_get hx) (by omega)
  have hj := lt_of_get hx
  have hxm := List.mem_of_getElem? hx
  have hb : Nat.blt (nd_node x) (nd_node a0) = true := by
   have := nd_node_kid (x := a0) hxm
   rw [Nat.blt_eq]; exact this
  have hgx := gPt_kid hg0 hxm
  have hoj : okI (j : Int) = true := okI_of (by omega) (by omega)
  simp only [f80L1, h1, h0, hw, ht, hoj, atI_of (t := .node) hx, Bool.and_self, cond_true, eta_node, eN_eq, hgx, hb]
  unfold wayAt
  cases a0.kind == (5 : Int)
  ·simp only [cond_false]; exact inner x j _ out _ hxm hB
  by_cases hl : (j : Int) < (a0.keys.length : Int)
  ·simp only [decide_eq_true hl, Bool.and_self, cond_true]; exact inner x j _ out _ hxm hB
  ·simp only [decide_eq_false hl, cond_true, cond_false]; exact inner x j _ out _ hxm hB
 ·rw [List.drop_zero, allPtrs_def]; rfl
noncomputable def s80 : Gm.Spec := Gm.Spec.of [.ro] [false] true q80
theorem good80 : Gm.Good Try.prog (80, s80) := by
 refine ⟨⟨spec_rec mu80 fun N hr => ?_, _, Try.func80, by kernel_rfl, of_decide_eq_true (by kernel_rfl)⟩, Gm.Spec.of_natl _ _ _ _⟩
 have hl : ∀ x ∈ [(59, s59), (80, s80r N)], Gm.Good Try.prog x := fcJ.2 ⟨good59, fcJ.2 ⟨⟨⟨hr, _, Try.func80, by kernel_rfl, of_decide_eq_true (by kernel_rfl)⟩, Gm.Spec.of_natl _ _ _ _⟩, fcN⟩⟩
 intro R
 refine spec_ok (E := f80e N) (tab_ok.env hl) (tab.natl hl) Try.func80 (by kernel_rfl : Try.f80.body = some f80c) [98] (by kernel_rfl) ?_
 intro ds outs h
 obtain ⟨h, hm⟩ := qeq_some h
 unfold q80 at h
 split at h
 ·simp only [Option.some.injEq, Prod.mk.injEq] at h; obtain ⟨hg, h⟩ := h; cases h; exact f80_spec N _ hg hm
 ·cases h
noncomputable def f37c : Code := (Try.f37.body).getD .skip
def f37k : Nat → Kp := kat [⟨[0, 3], [], [], []⟩, ⟨[0, 5], [], [], []⟩, ⟨[0, 6], [], [], []⟩, ⟨[0, 6, 19], [], [], []⟩, ⟨[0, 6, 19, 20], [], [], []⟩, ⟨[0, 4], [], [], []⟩, ⟨[0, 6, 27], [], [], []⟩, ⟨[0, 4], [], [], []⟩, ⟨[0, 4], [], [], []⟩]
noncomputable def f37e : Env := tab.env [(52, s52), (79, s79), (80, s80), (81, s81)]
theorem f37_run {R : Type} (n : Nat) (k : Kt R) (a0 : CurT) (a1 : NodeT) : evFn f37e f37k n f37c [.pmut, .ro] [false] true [.tmp 4] [24] [.d .cur a0, .d .node a1] k =
 (cond (gPt (eN a1))
 (cond ((fun c _ => gCur c) a0 ((allPtrs (eN a1)).length : Int))
 (cond ((decide ((0 : Int) ≤ ((curBelow a0 ((allPtrs (eN a1)).length : Int)).1))) && (decide (((curBelow a0 ((allPtrs (eN a1)).length : Int)).1) < ((allPtrs (eN a1)).length : Int))))
 (cond (Nat.ble (0 + (atI (t := (.sl .str)) (allPtrs (eN a1)) (Int.toNat ((curBelow a0 ((allPtrs (eN a1)).length : Int)).1))).length) LIM)
 (cond ((fun c _ => gCur c) ((curBelow a0 ((allPtrs (eN a1)).length : Int)).2) (5 : Int))
 (cond (((curBelow ((curBelow a0 ((allPtrs (eN a1)).length : Int)).2) (5 : Int)).1) == (0 : Int))
 (cond (gCur ((curBelow ((curBelow a0 ((allPtrs (eN a1)).length : Int)).2) (5 : Int)).2))
 (cond (Nat.ble ((([] : List BA) ++ (atI (t := (.sl .str)) (allPtrs (eN a1)) (Int.toNat ((curBelow a0 ((allPtrs (eN a1)).length : Int)).1)))).length + 1) LIM)
 (k [.d (.sl .str) ((([] : List BA) ++ (atI (t := (.sl .str)) (allPtrs (eN a1)) (Int.toNat ((curBelow a0 ((allPtrs (eN a1)).length : Int)).1)))) ++ ([((tKey ((curBelow ((curBelow a0 ((allPtrs (eN a1)).length : Int)).2) (5 : Int)).2)).1)] : List BA)), .d .cur ((tKey ((curBelow ((curBelow a0 ((allPtrs (eN a1)).length : Int)).2) (5 : Int)).2)).2)])
 none)
 none)
 (cond (((curBelow ((curBelow a0 ((allPtrs (eN a1)).length : Int)).2) (5 : Int)).1) == (1 : Int))
 (cond (gPickS ((curBelow ((curBelow a0 ((allPtrs (eN a1)).length : Int)).2) (5 : Int)).2) ([(bs [48]), (bs [49]), (bs [45]), (bs [48,48]), (bs [57])] : List BA))
 (cond (Nat.ble ((([] : List BA) ++ (atI (t := (.sl .str)) (allPtrs (eN a1)) (Int.toNat ((curBelow a0 ((allPtrs (eN a1)).length : Int)).1)))).length + 1) LIM)
 (k [.d (.sl .str) ((([] : List BA) ++ (atI (t := (.sl .str)) (allPtrs (eN a1)) (Int.toNat ((curBelow a0 ((allPtrs (eN a1)).length : Int)).1)))) ++ ([((curPick ((curBelow ((curBelow a0 ((allPtrs (eN a1)).length : Int)).2) (5 : Int)).2) ([(bs [48]), (bs [49]), (bs [45]), (bs [48,48]), (bs [57])] : List BA)).1)] : List BA)), .d .cur ((curPick ((curBelow ((curBelow a0 ((allPtrs (eN a1)).length : Int)).2) (5 : Int)).2) ([(bs [48]), (bs [49]), (bs [45]), (bs [48,48]), (bs [57])] : List BA)).2)])
 none)
 none)
 (k [.d (.sl .str) (([] : List BA) ++ (atI (t := (.sl .str)) (allPtrs (eN a1)) (Int.toNat ((curBelow a0 ((allPtrs (eN a1)).length : Int)).1)))), .d .cur ((curBelow ((curBelow a0 ((allPtrs (eN a1)).length : Int)).2) (5 : Int)).2)])))
 none)
 none)
 none)
 none)
 none) := by kernel_rfl
def f37_P (a0 : CurT) (a1 : NodeT) (o : List BA × CurT) : Prop := (fun _ _ o => gWay o.1 = true ∧ gCur o.2 = true) a0 a1 o ∧ ∃ n : Nat, ∀ {R : Type} (k : Kt R), evFn f37e f37k n f37c [.pmut, .ro] [false] true [.tmp 4] [24] [.d .cur a0, .d .node a1] k = k [.d (.sl .str) o.1, .d .cur o.2]
theorem f37_ex (a0 : CurT) (a1 : NodeT) (hg : (fun (c : CurT) (t : NodeT) => gCur c && okD 3 t) a0 a1 = true) : ∃ o : List BA × CurT, (fun _ _ o => gWay o.1 = true ∧ gCur o.2 = true) a0 a1 o ∧ ∃ n : Nat, ∀ {R : Type} (k : Kt R), evFn f37e f37k n f37c [.pmut, .ro] [false] true [.tmp 4] [24] [.d .cur a0, .d .node a1] k = k [.d (.sl .str) o.1, .d .cur o.2] := by
 obtain ⟨hc, ht⟩ := Bool.and_eq_true_iff.1 (show (gCur a0 && okD 3 a1) = true from hg)
 have hp := gPt_okD ht
 obtain ⟨b0, b1, g1⟩ := curBelow_ok a0 ((allPtrs a1).length : Int) hc
 have b1 := b1 (allPtrs_pos a1)
 have hix := idxOk b0 b1
 have hw := way_ok ht (mem_atI (t := .sl .str) b0 b1)
 have hn := szL_ge ByteArray.size (atI (t := .sl .str) (allPtrs a1) (Int.toNat (curBelow a0 ((allPtrs a1).length : Int)).1))
 have l1 : Nat.ble (0 + (atI (t := .sl .str) (allPtrs a1) (Int.toNat (curBelow a0 ((allPtrs a1).length : Int)).1)).length) LIM = true := Nat.ble_eq_true_of_le (by have : (LIM : Nat) = 4294967296 := rfl; omega)
 have l2 : Nat.ble ((atI (t := .sl .str) (allPtrs a1) (Int.toNat (curBelow a0 ((allPtrs a1).length : Int)).1)).length + 1) LIM = true := Nat.ble_eq_true_of_le (by have : (LIM : Nat) = 4294967296 := rfl; omega)
 obtain ⟨_, _, g2⟩ := curBelow_ok (curBelow a0 ((allPtrs a1).length : Int)).2 5 g1
 cases e0 : ((curBelow (curBelow a0 ((allPtrs a1).length : Int)).2 5).1 == (0 : Int))
 rotate_left
 ·obtain ⟨hz, g3⟩ := tKey_ok _ g2
  refine ⟨(?az0, ?bz0), ?gz0, 0, ?rz0⟩
  case rz0 =>
   intro R k
   rw [f37_run]
   simp only [eN_eq, hp, hc, hix, l1, l2, g1, g2, e0, List.nil_append, cond_true, cond_false]
   exact rfl
  case gz0 => exact ⟨gWay_snoc hw (by omega), g3⟩
 cases e1 : ((curBelow (curBelow a0 ((allPtrs a1).length : Int)).2 5).1 == (1 : Int))
 ·refine ⟨(?az1, ?bz1), ?gz1, 0, ?rz1⟩
  case rz1 =>
   intro R k
   rw [f37_run]
   simp only [eN_eq, hp, hc, hix, l1, l2, g1, g2, e0, e1, List.nil_append, cond_true, cond_false]
   exact rfl
  case gz1 => exact ⟨gWay_of hw, g2⟩
 ·have hk := gPickS_of (l := ([(bs [48]), (bs [49]), (bs [45]), (bs [48,48]), (bs [57])] : List BA)) g2 rfl
  obtain ⟨hmem, g3⟩ := curPick_ok _ _ hk
  have hz := bleN (List.all_eq_true.1 (show (([(bs [48]), (bs [49]), (bs [45]), (bs [48,48]), (bs [57])] : List BA).all fun x => Nat.ble x.size 3) = true from rfl) _ hmem)
  refine ⟨(?az2, ?bz2), ?gz2, 0, ?rz2⟩
  case rz2 =>
   intro R k
   rw [f37_run]
   simp only [eN_eq, hp, hc, hix, l1, l2, g1, g2, e0, e1, hk, List.nil_append, cond_true, cond_false]
   exact rfl
  case gz2 => exact ⟨gWay_snoc hw (by omega), g3⟩
theorem f37_ne (a0 : CurT) (a1 : NodeT) : Nonempty {o : List BA × CurT // (fun (c : CurT) (t : NodeT) => gCur c && okD 3 t) a0 a1 = true → f37_P a0 a1 o} := by
 by_cases hg : (fun (c : CurT) (t : NodeT) => gCur c && okD 3 t) a0 a1 = true
 ·obtain ⟨o, ho⟩ := f37_ex a0 a1 hg
  exact ⟨⟨o, fun _ => ho⟩⟩
 ·exact ⟨⟨([], (zero .cur)), fun h => absurd h hg⟩⟩
noncomputable def tWay (a0 : CurT) (a1 : NodeT) : List BA × CurT := (Classical.choice (f37_ne a0 a1)).val
theorem f37_sp (a0 : CurT) (a1 : NodeT) (hg : (fun (c : CurT) (t : NodeT) => gCur c && okD 3 t) a0 a1 = true) : f37_P a0 a1 (tWay a0 a1) := (Classical.choice (f37_ne a0 a1)).property hg
theorem tWay_ok (a0 : CurT) (a1 : NodeT) (hg : (fun (c : CurT) (t : NodeT) => gCur c && okD 3 t) a0 a1 = true) : (fun _ _ o => gWay o.1 = true ∧ gCur o.2 = true) a0 a1 (tWay a0 a1) := (f37_sp a0 a1 hg).1
theorem f37_spec (a0 : CurT) (a1 : NodeT) (hg : (fun (c : CurT) (t : NodeT) => gCur c && okD 3 t) a0 a1 = true) : ∃ keep rounds, ∀ {R : Type} (k : Kt R), evFn f37e keep rounds f37c [.pmut, .ro] [false] true [.tmp 4] [24] [.d .cur a0, .d .node a1] k = k [.d (.sl .str) ((tWay a0 a1).1), .d .cur ((tWay a0 a1).2)] := by
 obtain ⟨n, hn⟩ := (f37_sp a0 a1 hg).2
 exact ⟨f37k, n, hn⟩
noncomputable def q37 : Qt
 | [.d .cur a0, .d .node a1] => some (((fun (c : CurT) (t : NodeT) => gCur c && okD 3 t) a0 a1), [.d (.sl .str) ((tWay a0 a1).1), .d .cur ((tWay a0 a1).2)])
 | _ => none
noncomputable def s37 : Gm.Spec := Gm.Spec.of [.pmut, .ro] [false] true q37
theorem good37 : Gm.Good Try.prog (37, s37) := by
 have hl : ∀ x ∈ [(52, s52), (79, s79), (80, s80), (81, s81)], Gm.Good Try.prog x := fcJ.2 ⟨good52, fcJ.2 ⟨good79, fcJ.2 ⟨good80, fcJ.2 ⟨good81, fcN⟩⟩⟩⟩
 refine ⟨⟨spec_ok (tab_ok.env hl) (tab.natl hl) Try.func37 (by kernel_rfl : Try.f37.body = some f37c) [24] (by kernel_rfl) ?_, _, Try.func37, by kernel_rfl, of_decide_eq_true (by kernel_rfl)⟩, Gm.Spec.of_natl _ _ _ _⟩
 intro ds outs h
 unfold q37 at h
 split at h
 ·simp only [Option.some.injEq, Prod.mk.injEq] at h; obtain ⟨hg, h⟩ := h; cases h; exact f37_spec _ _ hg
 ·cases h
end Go.Proofs.Ytalnkjjnohgjkaa

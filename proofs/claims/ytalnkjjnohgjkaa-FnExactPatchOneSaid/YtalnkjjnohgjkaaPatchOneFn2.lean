/- What the functions compute, part 2. No conditions. -/
import Derived.Test.YtalnkjjnohgjkaaPatchOneFn1
/- x -/
namespace Go.Proofs.Ytalnkjjnohgjkaa
open Go Go.Gm
/-! ### loop.example/g00465/impl.Set$1 -/
noncomputable def f110c : Code := (Try.f110.body).getD .skip
def f110k : Nat → Kp := kat [⟨[0, 1], [], [], []⟩, ⟨[3], [], [], []⟩]
noncomputable def f110e : Env := tab.env []
theorem f110_run {R : Type} (n : Nat) (k : List Dt → Option R) (a0 : ByteArray) (a1 : ByteArray) : evFn f110e f110k n f110c [.ro, .pro] [false] true [.tmp 3] [4] [.d .str a0, .d .str a1] k =
    (k [.d .bool (!((sLt a0 a1) || (sEq a0 a1)))]) := by kernel_rfl
theorem f110_spec (a0 : ByteArray) (a1 : ByteArray) : ∃ keep rounds, ∀ {R : Type} (k : List Dt → Option R), evFn f110e keep rounds f110c [.ro, .pro] [false] true [.tmp 3] [4] [.d .str a0, .d .str a1] k = k [.d .bool (gtKey a0 a1)] := by
  exact ⟨f110k, 0, fun k => f110_run 0 k a0 a1⟩

noncomputable def q110 : List Dt → Option (Bool × List Dt)
  | [.d .str a0, .d .str a1] => some (true, [.d .bool (gtKey a0 a1)])
  | _ => none
noncomputable def s110 : Gm.Spec := Gm.Spec.of [.ro, .pro] [false] true q110
theorem good110 : Gm.Good Try.prog (110, s110) := by
  have hl : ∀ x ∈ ([] : List (Nat × Gm.Spec)), Gm.Good Try.prog x := fun _ h => by cases h
  refine ⟨⟨spec_ok (tab_ok.env hl) (tab.natl hl) Try.func110 (by kernel_rfl : Try.f110.body = some f110c) [4] (by kernel_rfl) ?_, _, Try.func110, by kernel_rfl, of_decide_eq_true (by kernel_rfl)⟩, Gm.Spec.of_natl _ _ _ _⟩
  intro ds outs h
  unfold q110 at h
  split at h
  · cases h; exact f110_spec _ _
  · cases h
/-! ### slices.IndexFunc[[]string,string] -/
noncomputable def f109c : Code := (Try.f109.body).getD .skip
def f109k : Nat → Kp := kat [⟨[0, 1], [], [], []⟩, ⟨[0, 1, 7, 8], [], [], []⟩, ⟨[0, 1, 7, 8, 9], [], [], []⟩, ⟨[0, 1, 5, 7, 8], [], [], []⟩, ⟨[0, 1, 5, 7, 8, 16], [], [], []⟩, ⟨[4], [], [], []⟩, ⟨[0, 1, 7, 8], [], [], []⟩, ⟨[4], [], [], []⟩]
noncomputable def f109e : Env := tab.env [(110, s110)]
noncomputable def f109L0 {R : Type} (n : Nat) (x0 : Int → Option R) (x1 : Int → Bool → Option R) (vs0 : List ByteArray) (vs1c0 : ByteArray) (vs7 : Int) : Nat → Int → Option R
  | 0, _ => none
  | m + 1, vs8 =>
    (cond (decide (vs8 < vs7))
      (cond ((decide ((0 : Int) ≤ vs8)) && (decide (vs8 < (vs0.length : Int))))
        (cond (gtKey (atI (t := .str) vs0 (Int.toNat vs8)) vs1c0)
          (x0 vs8)
          (f109L0 n x0 x1 vs0 vs1c0 vs7 m (IntKind.wrap .i64 (vs8 + (1 : Int)))))
        none)
      (x1 vs8 (decide (vs8 < vs7))))
theorem f109L0_b {R : Type} (n : Nat) (k' : Ex → St → Option R) (vs0 : List ByteArray) (vs1c0 : ByteArray) (vs7 : Int) (vs8 : Int) : ev f109e f109k n (cAt [1,0,1,0,0] f109c) ⟨[(0, .c (.one (.ro .str vs0))), (1, .c (.one (.cloR 110 [⟨.str, vs1c0⟩]))), (7, .c (.one (.v (.int .i64 vs7)))), (8, .c (.one (.v (.int .i64 vs8))))], [], []⟩ k' =
    (cond (decide (vs8 < vs7))
    (cond ((decide ((0 : Int) ≤ vs8)) && (decide (vs8 < (vs0.length : Int))))
      (cond (gtKey (atI (t := .str) vs0 (Int.toNat vs8)) vs1c0)
        (k' .ret ⟨[(4, .c (.one (.v (.int .i64 vs8))))], [], []⟩)
        (k' .normal ⟨[(0, .c (.one (.ro .str vs0))), (1, .c (.one (.cloR 110 [⟨.str, vs1c0⟩]))), (7, .c (.one (.v (.int .i64 vs7)))), (8, .c (.one (.v (.int .i64 (IntKind.wrap .i64 (vs8 + (1 : Int)))))))], [], []⟩))
      none)
    (k' (.exit 0) ⟨[(0, .c (.one (.ro .str vs0))), (1, .c (.one (.cloR 110 [⟨.str, vs1c0⟩]))), (7, .c (.one (.v (.int .i64 vs7)))), (8, .c (.one (.v (.int .i64 vs8)))), (9, .c (.one (.v (.bool (decide (vs8 < vs7))))))], [], []⟩)) := by kernel_rfl
theorem f109L0_eq {R : Type} (n : Nat) (k' : Ex → St → Option R) (vs0 : List ByteArray) (vs1c0 : ByteArray) (vs7 : Int) : ∀ (m : Nat) (vs8 : Int), iter (fun st k => ev f109e f109k n (cAt [1,0,1,0,0] f109c) st k) m ⟨[(0, .c (.one (.ro .str vs0))), (1, .c (.one (.cloR 110 [⟨.str, vs1c0⟩]))), (7, .c (.one (.v (.int .i64 vs7)))), (8, .c (.one (.v (.int .i64 vs8))))], [], []⟩ k' = f109L0 n (fun (xvs4 : Int) => k' .ret ⟨[(4, .c (.one (.v (.int .i64 xvs4))))], [], []⟩) (fun (xvs8 : Int) (xvs9 : Bool) => k' (.exit 0) ⟨[(0, .c (.one (.ro .str vs0))), (1, .c (.one (.cloR 110 [⟨.str, vs1c0⟩]))), (7, .c (.one (.v (.int .i64 vs7)))), (8, .c (.one (.v (.int .i64 xvs8)))), (9, .c (.one (.v (.bool xvs9))))], [], []⟩) vs0 vs1c0 vs7 m vs8 := by
  intro m; induction m with
  | zero => intros; rfl
  | succ m ih =>
    intro vs8
    simp only [iter]
    rw [f109L0_b]
    simp only [ih, f109L0]

noncomputable def f109K0 {R : Type} (n : Nat) (k' : Ex → St → Option R) : Ex → St → Option R := (blockK 0 (seqK f109e f109k n (cAt [1,1] f109c) k'))
theorem f109K0_x0 {R : Type} (n : Nat) (k : List Dt → Option R) (a0 : List ByteArray) (a1 : ByteArray) (xvs4 : Int) : f109K0 n (exitK f109e [.ro, .fn] [false] true [.tmp 4] [3] [.d (.sl .str) a0, .clo 110 [⟨.str, a1⟩]] k) .ret ⟨[(4, .c (.one (.v (.int .i64 xvs4))))], [], []⟩ =
    (k [.d (.i .i64) xvs4]) := by kernel_rfl
theorem f109K0_x1 {R : Type} (n : Nat) (k : List Dt → Option R) (a0 : List ByteArray) (a1 : ByteArray) (vs0 : List ByteArray) (vs1c0 : ByteArray) (vs7 : Int) (xvs8 : Int) (xvs9 : Bool) : f109K0 n (exitK f109e [.ro, .fn] [false] true [.tmp 4] [3] [.d (.sl .str) a0, .clo 110 [⟨.str, a1⟩]] k) (.exit 0) ⟨[(0, .c (.one (.ro .str vs0))), (1, .c (.one (.cloR 110 [⟨.str, vs1c0⟩]))), (7, .c (.one (.v (.int .i64 vs7)))), (8, .c (.one (.v (.int .i64 xvs8)))), (9, .c (.one (.v (.bool xvs9))))], [], []⟩ =
    (k [.d (.i .i64) (-1 : Int)]) := by kernel_rfl

theorem f109_run {R : Type} (n : Nat) (k : List Dt → Option R) (a0 : List ByteArray) (a1 : ByteArray) : evFn f109e f109k n f109c [.ro, .fn] [false] true [.tmp 4] [3] [.d (.sl .str) a0, .clo 110 [⟨.str, a1⟩]] k =
    (f109L0 n (fun (xvs4 : Int) =>
    (k [.d (.i .i64) xvs4])) (fun (xvs8 : Int) (xvs9 : Bool) =>
    (k [.d (.i .i64) (-1 : Int)])) a0 a1 (a0.length : Int) n (0 : Int)) := by
  refine Eq.trans (b := (iter (fun st k => ev f109e f109k n (cAt [1,0,1,0,0] f109c) st k) n ⟨[(0, .c (.one (.ro .str a0))), (1, .c (.one (.cloR 110 [⟨.str, a1⟩]))), (7, .c (.one (.v (.int .i64 (a0.length : Int))))), (8, .c (.one (.v (.int .i64 (0 : Int)))))], [], []⟩ (f109K0 n (exitK f109e [.ro, .fn] [false] true [.tmp 4] [3] [.d (.sl .str) a0, .clo 110 [⟨.str, a1⟩]] k)))) (by kernel_rfl) ?_
  simp only [f109L0_eq, f109K0_x0, f109K0_x1]
theorem f109_spec (a0 : List ByteArray) (a1 : ByteArray) (hg : gLenW a0 = true) : ∃ keep rounds, ∀ {R : Type} (k : List Dt → Option R), evFn f109e keep rounds f109c [.ro, .fn] [false] true [.tmp 4] [3] [.d (.sl .str) a0, .clo 110 [⟨.str, a1⟩]] k = k [.d (.i .i64) (gtAt a0 a1)] := by
  have hl := gLenW_le hg
  refine ⟨f109k, a0.length + 1, fun k => ?_⟩
  rw [f109_run]
  refine Eq.trans (loop_find (n := a0.length) (F := fun m i => f109L0 (a0.length + 1) _ _ a0 a1 (a0.length : Int) m i) (p := fun j => gtKey (atI (t := .str) a0 j) a1) (hit := fun i => k [.d (.i .i64) i]) (miss := k [.d (.i .i64) (-1 : Int)])
    (fun m j hj => ?_) (fun m => by simp only [f109L0, idxE, cond_false]) a0.length 0 (a0.length + 1) (by omega) (by omega)) ?_
  · obtain ⟨h1, h0, hw, ht⟩ := idx hj (by omega)
    simp only [f109L0, h1, h0, hw, ht, Bool.and_self, cond_true]
  · show _ = k [.d (.i .i64) (plc _)]
    cases firstN (fun j => gtKey (atI (t := .str) a0 j) a1) 0 a0.length <;> rfl

noncomputable def q109 : List Dt → Option (Bool × List Dt)
  | [.d (.sl .str) a0, .clo 110 [⟨.str, a1⟩]] => some (((fun (x : List ByteArray) (_ : ByteArray) => gLenW x) a0 a1), [.d (.i .i64) (gtAt a0 a1)])
  | _ => none
noncomputable def s109 : Gm.Spec := Gm.Spec.of [.ro, .fn] [false] true q109
theorem good109 : Gm.Good Try.prog (109, s109) := by
  have hl : ∀ x ∈ [(110, s110)], Gm.Good Try.prog x := List.forall_mem_cons.2 ⟨good110, List.forall_mem_nil _⟩
  refine ⟨⟨spec_ok (tab_ok.env hl) (tab.natl hl) Try.func109 (by kernel_rfl : Try.f109.body = some f109c) [3] (by kernel_rfl) ?_, _, Try.func109, by kernel_rfl, of_decide_eq_true (by kernel_rfl)⟩, Gm.Spec.of_natl _ _ _ _⟩
  intro ds outs h
  unfold q109 at h
  split at h
  · simp only [Option.some.injEq, Prod.mk.injEq] at h; obtain ⟨hg, h⟩ := h; cases h; exact f109_spec _ _ hg
  · cases h
/-! ### loop.example/g00465/impl.Set -/
noncomputable def f99c : Code := (Try.f99.body).getD .skip
def f99k : Nat → Kp := kat [⟨[3, 4, 5, 6], [], [], []⟩, ⟨[3, 4, 5, 6], [], [], []⟩, ⟨[3, 4, 5, 6, 13], [], [], []⟩, ⟨[6], [], [], []⟩, ⟨[3, 4, 5, 6, 7], [], [], []⟩, ⟨[3, 4, 5, 6, 7, 20], [], [], []⟩, ⟨[3, 6], [], [], []⟩, ⟨[6], [], [], []⟩, ⟨[3, 4, 5, 6, 8], [], [], []⟩, ⟨[3, 4, 5, 6, 8, 33], [], [], []⟩, ⟨[3, 4, 5, 6, 8], [], [], []⟩, ⟨[3, 5, 6, 8], [], [], []⟩, ⟨[3, 6], [], [], []⟩, ⟨[6], [], [], []⟩]
noncomputable def f99e : Env := tab.env [(39, s39), (82, s82), (98, s98), (100, s100), (109, s109), (110, s110), (111, s111)]
theorem f99_run {R : Type} (n : Nat) (k : List Dt → Option R) (a0 : NodeT) (a1 : ByteArray) (a2 : NodeT) : evFn f99e f99k n f99c [.ro, .ro, .ro] [false] true [.cell 6 27] [27] [.d .node a0, .d .str a1, .d .node a2] k =
    (cond (sm_node (eN a0))
    (cond (!(isMapN (eN a0)))
      (k [.d .node (eN a0)])
      (cond ((fun (x : List ByteArray) (_ : ByteArray) => gLenW x) (NodeT.keys a0) a1)
        (cond (decide ((idxS (NodeT.keys a0) a1) ≥ (0 : Int)))
          (cond (sm_node (eN a2))
            (cond ((decide ((0 : Int) ≤ (idxS (NodeT.keys a0) a1))) && (decide ((idxS (NodeT.keys a0) a1) < ((NodeT.kids a0).length : Int))))
              (k [.d .node (⟨(NodeT.kind a0), (NodeT.n a0), (NodeT.s a0), (NodeT.keys a0), ((NodeT.kids a0).set (Int.toNat (idxS (NodeT.keys a0) a1)) (eN a2))⟩ : NodeT)])
              none)
            none)
          (cond ((fun (x : List ByteArray) (_ : ByteArray) => gLenW x) (NodeT.keys a0) a1)
            (cond (decide ((gtAt (NodeT.keys a0) a1) < (0 : Int)))
              (cond (gIns (NodeT.keys a0) ((NodeT.keys a0).length : Int) ([a1] : List ByteArray))
                (cond (sm_node (eN a2))
                  (cond (gIns (NodeT.kids a0) ((NodeT.keys a0).length : Int) ([(eN a2)] : List NodeT))
                    (k [.d .node (⟨(NodeT.kind a0), (NodeT.n a0), (NodeT.s a0), (insL (NodeT.keys a0) ((NodeT.keys a0).length : Int) ([a1] : List ByteArray)), (insL (NodeT.kids a0) ((NodeT.keys a0).length : Int) ([(eN a2)] : List NodeT))⟩ : NodeT)])
                    none)
                  none)
                none)
              (cond (gIns (NodeT.keys a0) (gtAt (NodeT.keys a0) a1) ([a1] : List ByteArray))
                (cond (sm_node (eN a2))
                  (cond (gIns (NodeT.kids a0) (gtAt (NodeT.keys a0) a1) ([(eN a2)] : List NodeT))
                    (k [.d .node (⟨(NodeT.kind a0), (NodeT.n a0), (NodeT.s a0), (insL (NodeT.keys a0) (gtAt (NodeT.keys a0) a1) ([a1] : List ByteArray)), (insL (NodeT.kids a0) (gtAt (NodeT.keys a0) a1) ([(eN a2)] : List NodeT))⟩ : NodeT)])
                    none)
                  none)
                none))
            none))
        none))
    none) := by kernel_rfl
theorem f99_spec (a0 : NodeT) (a1 : ByteArray) (a2 : NodeT) (hg : gS3 a0 a1 a2 = true) : ∃ keep rounds, ∀ {R : Type} (k : List Dt → Option R), evFn f99e keep rounds f99c [.ro, .ro, .ro] [false] true [.cell 6 27] [27] [.d .node a0, .d .str a1, .d .node a2] k = k [.d .node (setK a0 a1 a2)] := by
  have hg3 := hg
  simp only [gS3, Bool.and_eq_true] at hg
  obtain ⟨hg, hs1, hx2⟩ := hg
  have hg0 := hg
  rw [sm_node_def] at hg
  simp only [Bool.and_eq_true] at hg
  obtain ⟨_, _, _, hke, hki⟩ := hg
  have nke := smL_len hke
  have nki := smL_len hki
  refine ⟨f99k, 0, fun {R} k => ?_⟩
  rw [f99_run]
  simp only [eta_node, eN_eq, hg0, hx2, gLenW_sm hke, cond_true]
  show _ = k [.d .node (setK a0 a1 a2)]
  cases hm : isMapN a0
  · unfold setK; rw [hm]; rfl
  obtain ⟨h5, hl⟩ := isMapN_eq hm
  simp only [idxS_map hm a1, Bool.not_true, cond_false, cond_true]
  by_cases hk : keyAt a0 a1 < 0
  · rw [setK_neg hm hk, decide_eq_false (show ¬ (keyAt a0 a1 ≥ 0) by omega)]
    simp only [cond_false]
    have ha := gtAt_comes hm hk
    obtain ⟨i, e, hi⟩ := comesAt_bd a0.keys a1
    have g1 : gIns a0.keys (comesAt a0.keys a1) [a1] = true := gIns_one e hi nke
    have g2 : gIns a0.kids (comesAt a0.keys a1) [a2] = true := gIns_one e (by omega) nki
    cases hc : decide (gtAt a0.keys a1 < (0 : Int))
    · rw [hc] at ha; simp only [cond_false] at ha
      simp only [cond_false, ha, g1, g2, cond_true]; rfl
    · rw [hc] at ha; simp only [cond_true] at ha
      simp only [cond_true, ha, g1, g2]; rfl
  · rw [setK_pos hm hk, decide_eq_true (show keyAt a0 a1 ≥ 0 by omega)]
    obtain ⟨i, e, h1, h2⟩ := keyAt_bd a0 a1 hk
    obtain ⟨i1, i0, _, _⟩ := idx h2 (by omega)
    simp only [eta_node, eN_eq, idxS_map hm a1, e, i0, i1, Bool.and_self, cond_true]
    rfl

noncomputable def q99 : List Dt → Option (Bool × List Dt)
  | [.d .node a0, .d .str a1, .d .node a2] => some ((gS3 a0 a1 a2), [.d .node (setK a0 a1 a2)])
  | _ => none
noncomputable def s99 : Gm.Spec := Gm.Spec.of [.ro, .ro, .ro] [false] true q99
theorem good99 : Gm.Good Try.prog (99, s99) := by
  have hl : ∀ x ∈ [(39, s39), (82, s82), (98, s98), (100, s100), (109, s109), (110, s110), (111, s111)], Gm.Good Try.prog x := List.forall_mem_cons.2 ⟨good39, List.forall_mem_cons.2 ⟨good82, List.forall_mem_cons.2 ⟨good98, List.forall_mem_cons.2 ⟨good100, List.forall_mem_cons.2 ⟨good109, List.forall_mem_cons.2 ⟨good110, List.forall_mem_cons.2 ⟨good111, List.forall_mem_nil _⟩⟩⟩⟩⟩⟩⟩
  refine ⟨⟨spec_ok (tab_ok.env hl) (tab.natl hl) Try.func99 (by kernel_rfl : Try.f99.body = some f99c) [27] (by kernel_rfl) ?_, _, Try.func99, by kernel_rfl, of_decide_eq_true (by kernel_rfl)⟩, Gm.Spec.of_natl _ _ _ _⟩
  intro ds outs h
  unfold q99 at h
  split at h
  · simp only [Option.some.injEq, Prod.mk.injEq] at h; obtain ⟨hg, h⟩ := h; cases h; exact f99_spec _ _ _ hg
  · cases h
/-! ### loop.example/g00465/impl.PutPtr$1 -/
noncomputable def f97c : Code := (Try.f97.body).getD .skip
def f97k : Nat → Kp := kat [⟨[1, 2, 3, 5], [], [], []⟩, ⟨[1, 2, 3, 5, 10], [], [], []⟩, ⟨[5, 6], [], [], []⟩, ⟨[1, 2, 3, 5, 7, 8], [], [], []⟩, ⟨[2, 3, 5, 7, 8, 21], [], [], []⟩, ⟨[2, 3, 5, 7, 8], [], [], []⟩, ⟨[2, 3, 5, 7, 38], [], [], []⟩, ⟨[5, 6], [], [], []⟩, ⟨[2, 3, 5, 7], [], [], []⟩, ⟨[3, 5], [], [], []⟩, ⟨[5, 6], [], [], []⟩]
noncomputable def f97e : Env := tab.env [(39, s39), (83, s83), (98, s98), (99, s99), (100, s100)]
theorem f97_run {R : Type} (n : Nat) (k : List Dt → Option R) (a0 : NodeT) (a1 : ByteArray) (a2 : NodeT) : evFn f97e f97k n f97c [.ro, .ro, .pro] [false, false] true [.cell 5 27, .tmp 6] [27, 4] [.d .node a0, .d .str a1, .d .node a2] k =
    (cond (isMapN (eN a0))
    (cond (gS3 (eN a0) a1 (eN a2))
      (k [.d .node (eN (setK (eN a0) a1 (eN a2))), .d .bool true])
      none)
    (cond (sEq a1 (bs [45]))
      (cond ((NodeT.kind a0) != (4 : Int))
        (k [.d .node (⟨(0 : Int), (0 : Int), ByteArray.empty, ([] : List ByteArray), ([] : List NodeT)⟩ : NodeT), .d .bool false])
        (cond (decide (((NodeT.kids a0).length : Int) > ((NodeT.kids a0).length : Int)))
          (k [.d .node (⟨(0 : Int), (0 : Int), ByteArray.empty, ([] : List ByteArray), ([] : List NodeT)⟩ : NodeT), .d .bool false])
          (cond (sm_node (eN a0))
            (cond (sm_node (eN a2))
              (cond (gIns (NodeT.kids a0) ((NodeT.kids a0).length : Int) ([(eN a2)] : List NodeT))
                (k [.d .node (⟨(NodeT.kind a0), (NodeT.n a0), (NodeT.s a0), (NodeT.keys a0), (insL (NodeT.kids a0) ((NodeT.kids a0).length : Int) ([(eN a2)] : List NodeT))⟩ : NodeT), .d .bool true])
                none)
              none)
            none)))
      (cond ((NodeT.kind a0) != (4 : Int))
        (k [.d .node (⟨(0 : Int), (0 : Int), ByteArray.empty, ([] : List ByteArray), ([] : List NodeT)⟩ : NodeT), .d .bool false])
        (cond (!((natS a1).2))
          (k [.d .node (⟨(0 : Int), (0 : Int), ByteArray.empty, ([] : List ByteArray), ([] : List NodeT)⟩ : NodeT), .d .bool false])
          (cond (decide (((natS a1).1) > ((NodeT.kids a0).length : Int)))
            (k [.d .node (⟨(0 : Int), (0 : Int), ByteArray.empty, ([] : List ByteArray), ([] : List NodeT)⟩ : NodeT), .d .bool false])
            (cond (sm_node (eN a0))
              (cond (sm_node (eN a2))
                (cond (gIns (NodeT.kids a0) ((natS a1).1) ([(eN a2)] : List NodeT))
                  (k [.d .node (⟨(NodeT.kind a0), (NodeT.n a0), (NodeT.s a0), (NodeT.keys a0), (insL (NodeT.kids a0) ((natS a1).1) ([(eN a2)] : List NodeT))⟩ : NodeT), .d .bool true])
                  none)
                none)
              none)))))) := by kernel_rfl
theorem f97_spec (a0 : NodeT) (a1 : ByteArray) (a2 : NodeT) (hg : gS3 a0 a1 a2 = true) : ∃ keep rounds, ∀ {R : Type} (k : List Dt → Option R), evFn f97e keep rounds f97c [.ro, .ro, .pro] [false, false] true [.cell 5 27, .tmp 6] [27, 4] [.d .node a0, .d .str a1, .d .node a2] k = k [.d .node ((putLast a0 a1 a2).1), .d .bool ((putLast a0 a1 a2).2)] := by
  have hg3 := hg
  simp only [gS3, Bool.and_eq_true] at hg
  obtain ⟨hg, hs1, hx2⟩ := hg
  have hg0 := hg
  rw [sm_node_def] at hg
  simp only [Bool.and_eq_true] at hg
  obtain ⟨_, _, _, hke, hki⟩ := hg
  have nke := smL_len hke
  have nki := smL_len hki
  refine ⟨f97k, 0, fun {R} k => ?_⟩
  rw [f97_run]
  simp only [eta_node, eN_eq, hg0, hx2, hg3, cond_true]
  show _ = k [.d .node (putLast a0 a1 a2).1, .d .bool (putLast a0 a1 a2).2]
  unfold putLast
  cases hm : isMapN a0
  rotate_left
  · rfl
  simp only [cond_false]
  cases h4 : a0.kind == (4 : Int)
  · rw [show (a0.kind != (4 : Int)) = true by simp only [bne, h4]; rfl]
    simp only [cond_true, cond_false]
    cases sEq a1 (bs [45]) <;> rfl
  rw [show (a0.kind != (4 : Int)) = false by simp only [bne, h4]; rfl]
  simp only [cond_true, cond_false]
  cases hd : sEq a1 dash
  · have hs := slot_impl (t := a0) (p := a1) nki hd
    rw [show sEq a1 (bs [45]) = false from hd]
    simp only [cond_false]
    cases h1 : (natS a1).2
    · rw [h1] at hs; simp only [Bool.not_false, cond_true] at hs ⊢
      rw [← hs]; rfl
    · rw [h1] at hs; simp only [Bool.not_true, cond_false] at hs ⊢
      by_cases h2 : (natS a1).1 > (a0.kids.length : Int)
      · rw [decide_eq_true h2] at hs ⊢; simp only [cond_true] at hs ⊢
        rw [← hs]; rfl
      · rw [decide_eq_false h2] at hs ⊢; simp only [cond_false] at hs ⊢
        have h0 := natS_nonneg h1
        obtain ⟨i, ei⟩ := Int.eq_ofNat_of_zero_le h0
        have g : gIns a0.kids (natS a1).1 [a2] = true := gIns_one ei (by omega) nki
        rw [← hs, decide_eq_false (show ¬ (natS a1).1 < 0 by omega)]
        simp only [g, cond_true, cond_false]; rfl
  · rw [show sEq a1 (bs [45]) = true from hd]
    have hs : slotAt a0 a1 = (a0.kids.length : Int) := by unfold slotAt; rw [slot_dash hd]; rfl
    have g : gIns a0.kids (a0.kids.length : Int) [a2] = true := gIns_one rfl (Nat.le_refl _) nki
    rw [hs, decide_eq_false (show ¬ ((a0.kids.length : Int) > (a0.kids.length : Int)) by omega), decide_eq_false (show ¬ ((a0.kids.length : Int) < 0) by omega)]
    simp only [g, cond_true, cond_false]; rfl

noncomputable def q97 : List Dt → Option (Bool × List Dt)
  | [.d .node a0, .d .str a1, .d .node a2] => some ((gS3 a0 a1 a2), [.d .node ((putLast a0 a1 a2).1), .d .bool ((putLast a0 a1 a2).2)])
  | _ => none
noncomputable def s97 : Gm.Spec := Gm.Spec.of [.ro, .ro, .pro] [false, false] true q97
theorem good97 : Gm.Good Try.prog (97, s97) := by
  have hl : ∀ x ∈ [(39, s39), (83, s83), (98, s98), (99, s99), (100, s100)], Gm.Good Try.prog x := List.forall_mem_cons.2 ⟨good39, List.forall_mem_cons.2 ⟨good83, List.forall_mem_cons.2 ⟨good98, List.forall_mem_cons.2 ⟨good99, List.forall_mem_cons.2 ⟨good100, List.forall_mem_nil _⟩⟩⟩⟩⟩
  refine ⟨⟨spec_ok (tab_ok.env hl) (tab.natl hl) Try.func97 (by kernel_rfl : Try.f97.body = some f97c) [27, 4] (by kernel_rfl) ?_, _, Try.func97, by kernel_rfl, of_decide_eq_true (by kernel_rfl)⟩, Gm.Spec.of_natl _ _ _ _⟩
  intro ds outs h
  unfold q97 at h
  split at h
  · simp only [Option.some.injEq, Prod.mk.injEq] at h; obtain ⟨hg, h⟩ := h; cases h; exact f97_spec _ _ _ hg
  · cases h
end Go.Proofs.Ytalnkjjnohgjkaa

/- x -/
namespace Go.Proofs.Ytalnkjjnohgjkaa
open Go Go.Gm
noncomputable def q108a : List Dt → Option (Bool × List Dt)
  | [.d .node a0, .d (.sl .str) a1, .clo 101 []] => some ((gW a0 a1), [.d .node ((cutIn a0 a1).1), .d .bool ((cutIn a0 a1).2)])
  | _ => none
noncomputable def mu108a : List Dt → Nat
  | [.d .node a0, .d (.sl .str) a1, .clo 101 []] => (fun (_ : NodeT) (p : List ByteArray) => p.length) a0 a1
  | _ => 0
noncomputable def s108ar (N : Nat) : Gm.Spec := Gm.Spec.of [.ro, .ro, .fn] [false, false] true (qlt mu108a N q108a)
/-! ### loop.example/g00465/impl.within -/
noncomputable def f108ac : Code := (Try.f108.body).getD .skip
def f108ak : Nat → Kp := kat [⟨[1, 2, 3, 6], [], [], []⟩, ⟨[1, 2, 3, 6, 13], [], [], []⟩, ⟨[6, 7], [], [], []⟩, ⟨[1, 2, 3, 6, 8], [], [], []⟩, ⟨[1, 2, 3, 6, 8, 28], [], [], []⟩, ⟨[6, 7], [], [], []⟩, ⟨[3, 6, 8, 9, 10], [], [], []⟩, ⟨[3, 6, 8, 9, 43], [], [], []⟩, ⟨[6, 7], [], [], []⟩, ⟨[3, 6, 8, 9], [], [], []⟩, ⟨[3, 6], [], [], []⟩, ⟨[6, 7], [], [], []⟩]
noncomputable def f108ae (N : Nat) : Env := tab.env [(38, s38), (39, s39), (101, s101), (108, s108ar N)]
noncomputable def f108av0 (a0 : NodeT) (a1 : List ByteArray) : List NodeT :=
  ((NodeT.kids a0).set (Int.toNat (kidAt (eN a0) (atI (t := .str) a1 0))) (eN ((cutIn (eN (atI (t := .node) (NodeT.kids a0) (Int.toNat (kidAt (eN a0) (atI (t := .str) a1 0))))) ((a1.take (Int.toNat (a1.length : Int))).drop 1)).1)))
theorem f108a_run {R : Type} (N : Nat) (n : Nat) (k : List Dt → Option R) (a0 : NodeT) (a1 : List ByteArray) : evFn (f108ae N) f108ak n f108ac [.ro, .ro, .fn] [false, false] true [.cell 6 27, .tmp 7] [27, 4] [.d .node a0, .d (.sl .str) a1, .clo 101 []] k =
    (cond ((a1.length : Int) == (1 : Int))
    (cond (decide ((0 : Int) < (a1.length : Int)))
      (cond ((fun (x : NodeT) (_ : ByteArray) => sm_node x) (eN a0) (atI (t := .str) a1 0))
        (k [.d .node (eN ((cutLast (eN a0) (atI (t := .str) a1 0)).1)), .d .bool ((cutLast (eN a0) (atI (t := .str) a1 0)).2)])
        none)
      none)
    (cond (decide ((0 : Int) < (a1.length : Int)))
      (cond ((fun (x : NodeT) (_ : ByteArray) => sm_node x) (eN a0) (atI (t := .str) a1 0))
        (cond (decide ((kidAt (eN a0) (atI (t := .str) a1 0)) < (0 : Int)))
          (k [.d .node (⟨(0 : Int), (0 : Int), ByteArray.empty, ([] : List ByteArray), ([] : List NodeT)⟩ : NodeT), .d .bool false])
          (cond ((decide ((0 : Int) ≤ (kidAt (eN a0) (atI (t := .str) a1 0)))) && (decide ((kidAt (eN a0) (atI (t := .str) a1 0)) < ((NodeT.kids a0).length : Int))))
            (cond ((decide ((1 : Int) ≤ (a1.length : Int))) && (decide ((a1.length : Int) ≤ (a1.length : Int))))
              (cond ((gW (eN (atI (t := .node) (NodeT.kids a0) (Int.toNat (kidAt (eN a0) (atI (t := .str) a1 0))))) ((a1.take (Int.toNat (a1.length : Int))).drop 1)) && (Nat.blt ((fun (_ : NodeT) (p : List ByteArray) => p.length) (eN (atI (t := .node) (NodeT.kids a0) (Int.toNat (kidAt (eN a0) (atI (t := .str) a1 0))))) ((a1.take (Int.toNat (a1.length : Int))).drop 1)) N))
                (cond (!((cutIn (eN (atI (t := .node) (NodeT.kids a0) (Int.toNat (kidAt (eN a0) (atI (t := .str) a1 0))))) ((a1.take (Int.toNat (a1.length : Int))).drop 1)).2))
                  (k [.d .node (⟨(0 : Int), (0 : Int), ByteArray.empty, ([] : List ByteArray), ([] : List NodeT)⟩ : NodeT), .d .bool false])
                  (cond (sm_node (eN a0))
                    (cond ((decide ((0 : Int) ≤ (kidAt (eN a0) (atI (t := .str) a1 0)))) && (decide ((kidAt (eN a0) (atI (t := .str) a1 0)) < ((NodeT.kids a0).length : Int))))
                      (k [.d .node (⟨(NodeT.kind a0), (NodeT.n a0), (NodeT.s a0), (NodeT.keys a0), (f108av0 a0 a1)⟩ : NodeT), .d .bool true])
                      none)
                    none))
                none)
              none)
            none))
        none)
      none)) := by kernel_rfl
theorem f108a_spec (N : Nat) (a0 : NodeT) (a1 : List ByteArray) (hg : gW a0 a1 = true) (hm : mu108a [.d .node a0, .d (.sl .str) a1, .clo 101 []] = N) : ∃ keep rounds, ∀ {R : Type} (k : List Dt → Option R), evFn (f108ae N) keep rounds f108ac [.ro, .ro, .fn] [false, false] true [.cell 6 27, .tmp 7] [27, 4] [.d .node a0, .d (.sl .str) a1, .clo 101 []] k = k [.d .node ((cutIn a0 a1).1), .d .bool ((cutIn a0 a1).2)] := by
  have hm : a1.length = N := hm
  subst hm
  simp only [gW, Bool.and_eq_true] at hg
  obtain ⟨hg, hpa, hne⟩ := hg
  have hg0 := hg
  rw [sm_node_def] at hg
  simp only [Bool.and_eq_true] at hg
  obtain ⟨_, _, _, hke, hki⟩ := hg
  have nke := smL_len hke
  have nki := smL_len hki
  refine ⟨f108ak, 0, fun {R} k => ?_⟩
  rw [f108a_run]
  show _ = k [.d .node (cutIn a0 a1).1, .d .bool (cutIn a0 a1).2]
  match a1, hpa, hne with
  | [], _, hne => cases hne
  | [p], _, _ =>
    simp only [eta_node, eN_eq, hg0, cutIn]
    rfl
  | p :: q :: r, hpa, _ =>
    have l0 : decide ((0 : Int) < ((p :: q :: r).length : Int)) = true := decide_eq_true (by simp only [List.length_cons]; omega)
    have l1 : (((p :: q :: r).length : Int) == (1 : Int)) = false := by rw [beq_eq_false_iff_ne]; simp only [List.length_cons]; omega
    have l2 : decide ((1 : Int) ≤ ((p :: q :: r).length : Int)) = true := decide_eq_true (by simp only [List.length_cons]; omega)
    have l3 : decide (((p :: q :: r).length : Int) ≤ ((p :: q :: r).length : Int)) = true := decide_eq_true (Int.le_refl _)
    have l4 : ((p :: q :: r).take (Int.toNat ((p :: q :: r).length : Int))).drop 1 = q :: r := by rw [Int.toNat_natCast, List.take_length]; rfl
    have l5 : atI (t := .str) (p :: q :: r) 0 = p := rfl
    have l6 : Nat.blt (q :: r).length (p :: q :: r).length = true := by rw [Nat.blt_eq]; simp only [List.length_cons]; omega
    have l7 : (((p :: q :: r).length : Int) == (0 : Int)) = false := by rw [beq_eq_false_iff_ne]; simp only [List.length_cons]; omega
    have l8 : decide (((p :: q :: r).length : Int) > (1 : Int)) = true := decide_eq_true (by simp only [List.length_cons]; omega)
    have hqr : smL smStr (q :: r) = true := smL_tail hpa
    simp only [eta_node, eN_eq, hg0, l0, l1, l5, cond_true, cond_false]
    rw [cutIn]
    by_cases hk : kidAt a0 p < 0
    · rw [decide_eq_true hk]; rfl
    obtain ⟨i, e, h1⟩ := kidAt_bd hk
    obtain ⟨i1, i0, _, it⟩ := idx h1 (by omega)
    have hx := atI_lt (t := .node) h1
    have hgk : gW (atI (t := .node) a0.kids i) (q :: r) = true := by
      simp only [gW, Bool.and_eq_true]
      exact ⟨sm_kid hg0 (List.mem_of_getElem? hx), hqr, rfl⟩
    simp only [decide_eq_false hk, f108av0, eta_node, eN_eq, l2, l3, l4, l5, l6, hgk, e, i1, i0, it, Bool.and_self, cond_true, cond_false]
    cases (cutIn (atI (t := .node) a0.kids i) (q :: r)).2 <;> rfl

noncomputable def s108a : Gm.Spec := Gm.Spec.of [.ro, .ro, .fn] [false, false] true q108a
theorem good108a : Gm.Good Try.prog (108, s108a) := by
  refine ⟨⟨spec_rec mu108a fun N hr => ?_, _, Try.func108, by kernel_rfl, of_decide_eq_true (by kernel_rfl)⟩, Gm.Spec.of_natl _ _ _ _⟩
  have hl : ∀ x ∈ [(38, s38), (39, s39), (101, s101), (108, s108ar N)], Gm.Good Try.prog x := List.forall_mem_cons.2 ⟨good38, List.forall_mem_cons.2 ⟨good39, List.forall_mem_cons.2 ⟨good101, List.forall_mem_cons.2 ⟨⟨⟨hr, _, Try.func108, by kernel_rfl, of_decide_eq_true (by kernel_rfl)⟩, Gm.Spec.of_natl _ _ _ _⟩, List.forall_mem_nil _⟩⟩⟩⟩
  intro R
  refine spec_ok (E := f108ae N) (tab_ok.env hl) (tab.natl hl) Try.func108 (by kernel_rfl : Try.f108.body = some f108ac) [27, 4] (by kernel_rfl) ?_
  intro ds outs h
  obtain ⟨h, hm⟩ := qeq_some h
  unfold q108a at h
  split at h
  · simp only [Option.some.injEq, Prod.mk.injEq] at h; obtain ⟨hg, h⟩ := h; cases h; exact f108a_spec N _ _ hg hm
  · cases h

noncomputable def q108b : List Dt → Option (Bool × List Dt)
  | [.d .node a0, .d (.sl .str) a1, .clo 97 [⟨.node, a2⟩]] => some ((gPW a0 a1 a2), [.d .node ((putIn a0 a1 a2).1), .d .bool ((putIn a0 a1 a2).2)])
  | _ => none
noncomputable def mu108b : List Dt → Nat
  | [.d .node a0, .d (.sl .str) a1, .clo 97 [⟨.node, a2⟩]] => (fun (_ : NodeT) (p : List ByteArray) (_ : NodeT) => p.length) a0 a1 a2
  | _ => 0
noncomputable def s108br (N : Nat) : Gm.Spec := Gm.Spec.of [.ro, .ro, .fn] [false, false] true (qlt mu108b N q108b)
/-! ### loop.example/g00465/impl.within -/
noncomputable def f108bc : Code := (Try.f108.body).getD .skip
def f108bk : Nat → Kp := kat [⟨[1, 2, 3, 6], [], [], []⟩, ⟨[1, 2, 3, 6, 13], [], [], []⟩, ⟨[6, 7], [], [], []⟩, ⟨[1, 2, 3, 6, 8], [], [], []⟩, ⟨[1, 2, 3, 6, 8, 28], [], [], []⟩, ⟨[6, 7], [], [], []⟩, ⟨[3, 6, 8, 9, 10], [], [], []⟩, ⟨[3, 6, 8, 9, 43], [], [], []⟩, ⟨[6, 7], [], [], []⟩, ⟨[3, 6, 8, 9], [], [], []⟩, ⟨[3, 6], [], [], []⟩, ⟨[6, 7], [], [], []⟩]
noncomputable def f108be (N : Nat) : Env := tab.env [(38, s38), (39, s39), (97, s97), (108, s108br N)]
noncomputable def f108bv0 (a0 : NodeT) (a1 : List ByteArray) (a2 : NodeT) : List NodeT :=
  ((NodeT.kids a0).set (Int.toNat (kidAt (eN a0) (atI (t := .str) a1 0))) (eN ((putIn (eN (atI (t := .node) (NodeT.kids a0) (Int.toNat (kidAt (eN a0) (atI (t := .str) a1 0))))) ((a1.take (Int.toNat (a1.length : Int))).drop 1) a2).1)))
theorem f108b_run {R : Type} (N : Nat) (n : Nat) (k : List Dt → Option R) (a0 : NodeT) (a1 : List ByteArray) (a2 : NodeT) : evFn (f108be N) f108bk n f108bc [.ro, .ro, .fn] [false, false] true [.cell 6 27, .tmp 7] [27, 4] [.d .node a0, .d (.sl .str) a1, .clo 97 [⟨.node, a2⟩]] k =
    (cond ((a1.length : Int) == (1 : Int))
    (cond (decide ((0 : Int) < (a1.length : Int)))
      (cond (gS3 (eN a0) (atI (t := .str) a1 0) a2)
        (k [.d .node (eN ((putLast (eN a0) (atI (t := .str) a1 0) a2).1)), .d .bool ((putLast (eN a0) (atI (t := .str) a1 0) a2).2)])
        none)
      none)
    (cond (decide ((0 : Int) < (a1.length : Int)))
      (cond ((fun (x : NodeT) (_ : ByteArray) => sm_node x) (eN a0) (atI (t := .str) a1 0))
        (cond (decide ((kidAt (eN a0) (atI (t := .str) a1 0)) < (0 : Int)))
          (k [.d .node (⟨(0 : Int), (0 : Int), ByteArray.empty, ([] : List ByteArray), ([] : List NodeT)⟩ : NodeT), .d .bool false])
          (cond ((decide ((0 : Int) ≤ (kidAt (eN a0) (atI (t := .str) a1 0)))) && (decide ((kidAt (eN a0) (atI (t := .str) a1 0)) < ((NodeT.kids a0).length : Int))))
            (cond ((decide ((1 : Int) ≤ (a1.length : Int))) && (decide ((a1.length : Int) ≤ (a1.length : Int))))
              (cond ((gPW (eN (atI (t := .node) (NodeT.kids a0) (Int.toNat (kidAt (eN a0) (atI (t := .str) a1 0))))) ((a1.take (Int.toNat (a1.length : Int))).drop 1) a2) && (Nat.blt ((fun (_ : NodeT) (p : List ByteArray) (_ : NodeT) => p.length) (eN (atI (t := .node) (NodeT.kids a0) (Int.toNat (kidAt (eN a0) (atI (t := .str) a1 0))))) ((a1.take (Int.toNat (a1.length : Int))).drop 1) a2) N))
                (cond (!((putIn (eN (atI (t := .node) (NodeT.kids a0) (Int.toNat (kidAt (eN a0) (atI (t := .str) a1 0))))) ((a1.take (Int.toNat (a1.length : Int))).drop 1) a2).2))
                  (k [.d .node (⟨(0 : Int), (0 : Int), ByteArray.empty, ([] : List ByteArray), ([] : List NodeT)⟩ : NodeT), .d .bool false])
                  (cond (sm_node (eN a0))
                    (cond ((decide ((0 : Int) ≤ (kidAt (eN a0) (atI (t := .str) a1 0)))) && (decide ((kidAt (eN a0) (atI (t := .str) a1 0)) < ((NodeT.kids a0).length : Int))))
                      (k [.d .node (⟨(NodeT.kind a0), (NodeT.n a0), (NodeT.s a0), (NodeT.keys a0), (f108bv0 a0 a1 a2)⟩ : NodeT), .d .bool true])
                      none)
                    none))
                none)
              none)
            none))
        none)
      none)) := by kernel_rfl
theorem f108b_spec (N : Nat) (a0 : NodeT) (a1 : List ByteArray) (a2 : NodeT) (hg : gPW a0 a1 a2 = true) (hm : mu108b [.d .node a0, .d (.sl .str) a1, .clo 97 [⟨.node, a2⟩]] = N) : ∃ keep rounds, ∀ {R : Type} (k : List Dt → Option R), evFn (f108be N) keep rounds f108bc [.ro, .ro, .fn] [false, false] true [.cell 6 27, .tmp 7] [27, 4] [.d .node a0, .d (.sl .str) a1, .clo 97 [⟨.node, a2⟩]] k = k [.d .node ((putIn a0 a1 a2).1), .d .bool ((putIn a0 a1 a2).2)] := by
  have hm : a1.length = N := hm
  subst hm
  simp only [gPW, gP, Bool.and_eq_true] at hg
  obtain ⟨⟨hg, hpa, hx2⟩, hne⟩ := hg
  have hg0 := hg
  rw [sm_node_def] at hg
  simp only [Bool.and_eq_true] at hg
  obtain ⟨_, _, _, hke, hki⟩ := hg
  have nke := smL_len hke
  have nki := smL_len hki
  refine ⟨f108bk, 0, fun {R} k => ?_⟩
  rw [f108b_run]
  show _ = k [.d .node (putIn a0 a1 a2).1, .d .bool (putIn a0 a1 a2).2]
  match a1, hpa, hne with
  | [], _, hne => cases hne
  | [p], hpa, _ =>
    have hg3 : gS3 a0 p a2 = true := by simp only [gS3, Bool.and_eq_true]; exact ⟨hg0, smL_head hpa, hx2⟩
    have e5 : atI (t := .str) [p] 0 = p := rfl
    simp only [eta_node, eN_eq, e5, hg3, putIn]
    rfl
  | p :: q :: r, hpa, _ =>
    have l0 : decide ((0 : Int) < ((p :: q :: r).length : Int)) = true := decide_eq_true (by simp only [List.length_cons]; omega)
    have l1 : (((p :: q :: r).length : Int) == (1 : Int)) = false := by rw [beq_eq_false_iff_ne]; simp only [List.length_cons]; omega
    have l2 : decide ((1 : Int) ≤ ((p :: q :: r).length : Int)) = true := decide_eq_true (by simp only [List.length_cons]; omega)
    have l3 : decide (((p :: q :: r).length : Int) ≤ ((p :: q :: r).length : Int)) = true := decide_eq_true (Int.le_refl _)
    have l4 : ((p :: q :: r).take (Int.toNat ((p :: q :: r).length : Int))).drop 1 = q :: r := by rw [Int.toNat_natCast, List.take_length]; rfl
    have l5 : atI (t := .str) (p :: q :: r) 0 = p := rfl
    have l6 : Nat.blt (q :: r).length (p :: q :: r).length = true := by rw [Nat.blt_eq]; simp only [List.length_cons]; omega
    have l7 : (((p :: q :: r).length : Int) == (0 : Int)) = false := by rw [beq_eq_false_iff_ne]; simp only [List.length_cons]; omega
    have l8 : decide (((p :: q :: r).length : Int) > (1 : Int)) = true := decide_eq_true (by simp only [List.length_cons]; omega)
    have hqr : smL smStr (q :: r) = true := smL_tail hpa
    simp only [eta_node, eN_eq, hg0, l0, l1, l5, cond_true, cond_false]
    rw [putIn]
    by_cases hk : kidAt a0 p < 0
    · rw [decide_eq_true hk]; rfl
    obtain ⟨i, e, h1⟩ := kidAt_bd hk
    obtain ⟨i1, i0, _, it⟩ := idx h1 (by omega)
    have hx := atI_lt (t := .node) h1
    have hgk : gPW (atI (t := .node) a0.kids i) (q :: r) a2 = true := by
      simp only [gPW, gP, Bool.and_eq_true]
      exact ⟨⟨sm_kid hg0 (List.mem_of_getElem? hx), hqr, hx2⟩, rfl⟩
    simp only [decide_eq_false hk, f108bv0, eta_node, eN_eq, l2, l3, l4, l5, l6, hgk, e, i1, i0, it, Bool.and_self, cond_true, cond_false]
    cases (putIn (atI (t := .node) a0.kids i) (q :: r) a2).2 <;> rfl

noncomputable def s108b : Gm.Spec := Gm.Spec.of [.ro, .ro, .fn] [false, false] true q108b
theorem good108b : Gm.Good Try.prog (108, s108b) := by
  refine ⟨⟨spec_rec mu108b fun N hr => ?_, _, Try.func108, by kernel_rfl, of_decide_eq_true (by kernel_rfl)⟩, Gm.Spec.of_natl _ _ _ _⟩
  have hl : ∀ x ∈ [(38, s38), (39, s39), (97, s97), (108, s108br N)], Gm.Good Try.prog x := List.forall_mem_cons.2 ⟨good38, List.forall_mem_cons.2 ⟨good39, List.forall_mem_cons.2 ⟨good97, List.forall_mem_cons.2 ⟨⟨⟨hr, _, Try.func108, by kernel_rfl, of_decide_eq_true (by kernel_rfl)⟩, Gm.Spec.of_natl _ _ _ _⟩, List.forall_mem_nil _⟩⟩⟩⟩
  intro R
  refine spec_ok (E := f108be N) (tab_ok.env hl) (tab.natl hl) Try.func108 (by kernel_rfl : Try.f108.body = some f108bc) [27, 4] (by kernel_rfl) ?_
  intro ds outs h
  obtain ⟨h, hm⟩ := qeq_some h
  unfold q108b at h
  split at h
  · simp only [Option.some.injEq, Prod.mk.injEq] at h; obtain ⟨hg, h⟩ := h; cases h; exact f108b_spec N _ _ _ hg hm
  · cases h

noncomputable def q108 : List Dt → Option (Bool × List Dt) := fun ds => (match q108a ds with | some r => some r | none => (match q108b ds with | some r => some r | none => none))
noncomputable def s108 : Gm.Spec := Gm.Spec.of [.ro, .ro, .fn] [false, false] true q108
theorem good108 : Gm.Good Try.prog (108, s108) := by
  refine ⟨⟨spec_part (q := q108) ?_, good108a.1.2⟩, Gm.Spec.of_natl _ _ _ _⟩
  intro ds outs h
  unfold q108 at h
  cases ha : q108a ds with
  | some r =>
    simp only [ha] at h
    exact ⟨q108a, good108a.1.1, by rw [ha]; exact h⟩
  | none =>
  simp only [ha] at h
  cases hb : q108b ds with
  | some r =>
    simp only [hb] at h
    exact ⟨q108b, good108b.1.1, by rw [hb]; exact h⟩
  | none =>
  simp only [hb] at h
  cases h
/-! ### loop.example/g00465/impl.changedAt -/
noncomputable def f96ac : Code := (Try.f96.body).getD .skip
def f96ak : Nat → Kp := kat [⟨[1, 2, 3, 6], [], [], []⟩, ⟨[3, 6, 8, 9], [], [], []⟩, ⟨[3, 6, 8, 18], [], [], []⟩, ⟨[6, 7], [], [], []⟩, ⟨[6, 7], [], [], []⟩]
noncomputable def f96ae : Env := tab.env [(39, s39), (101, s101), (108, s108)]
theorem f96a_run {R : Type} (n : Nat) (k : List Dt → Option R) (a0 : NodeT) (a1 : List ByteArray) : evFn f96ae f96ak n f96ac [.ro, .ro, .fn] [false, false] true [.cell 6 27, .tmp 7] [27, 4] [.d .node a0, .d (.sl .str) a1, .clo 101 []] k =
    (cond (gW (eN a0) a1)
    (cond (!((cutIn (eN a0) a1).2))
      (cond (sm_node (eN a0))
        (k [.d .node (eN a0), .d .bool false])
        none)
      (k [.d .node (eN ((cutIn (eN a0) a1).1)), .d .bool true]))
    none) := by kernel_rfl
theorem f96a_spec (a0 : NodeT) (a1 : List ByteArray) (hg : gW a0 a1 = true) : ∃ keep rounds, ∀ {R : Type} (k : List Dt → Option R), evFn f96ae keep rounds f96ac [.ro, .ro, .fn] [false, false] true [.cell 6 27, .tmp 7] [27, 4] [.d .node a0, .d (.sl .str) a1, .clo 101 []] k = k [.d .node ((cutAt a0 a1).1), .d .bool ((cutAt a0 a1).2)] := by
  refine ⟨f96ak, 0, fun {R} k => ?_⟩
  rw [f96a_run]
  have hs : sm_node a0 = true := by simp only [gW, Bool.and_eq_true] at hg; exact hg.1
  simp only [eta_node, eN_eq, hg, hs, cond_true]
  show _ = k [.d .node (cutAt a0 a1).1, .d .bool (cutAt a0 a1).2]
  unfold cutAt
  cases (cutIn a0 a1).2 <;> rfl

noncomputable def q96a : List Dt → Option (Bool × List Dt)
  | [.d .node a0, .d (.sl .str) a1, .clo 101 []] => some ((gW a0 a1), [.d .node ((cutAt a0 a1).1), .d .bool ((cutAt a0 a1).2)])
  | _ => none
noncomputable def s96a : Gm.Spec := Gm.Spec.of [.ro, .ro, .fn] [false, false] true q96a
theorem good96a : Gm.Good Try.prog (96, s96a) := by
  have hl : ∀ x ∈ [(39, s39), (101, s101), (108, s108)], Gm.Good Try.prog x := List.forall_mem_cons.2 ⟨good39, List.forall_mem_cons.2 ⟨good101, List.forall_mem_cons.2 ⟨good108, List.forall_mem_nil _⟩⟩⟩
  refine ⟨⟨spec_ok (tab_ok.env hl) (tab.natl hl) Try.func96 (by kernel_rfl : Try.f96.body = some f96ac) [27, 4] (by kernel_rfl) ?_, _, Try.func96, by kernel_rfl, of_decide_eq_true (by kernel_rfl)⟩, Gm.Spec.of_natl _ _ _ _⟩
  intro ds outs h
  unfold q96a at h
  split at h
  · simp only [Option.some.injEq, Prod.mk.injEq] at h; obtain ⟨hg, h⟩ := h; cases h; exact f96a_spec _ _ hg
  · cases h

/-! ### loop.example/g00465/impl.changedAt -/
noncomputable def f96bc : Code := (Try.f96.body).getD .skip
def f96bk : Nat → Kp := kat [⟨[1, 2, 3, 6], [], [], []⟩, ⟨[3, 6, 8, 9], [], [], []⟩, ⟨[3, 6, 8, 18], [], [], []⟩, ⟨[6, 7], [], [], []⟩, ⟨[6, 7], [], [], []⟩]
noncomputable def f96be : Env := tab.env [(39, s39), (97, s97), (108, s108)]
theorem f96b_run {R : Type} (n : Nat) (k : List Dt → Option R) (a0 : NodeT) (a1 : List ByteArray) (a2 : NodeT) : evFn f96be f96bk n f96bc [.ro, .ro, .fn] [false, false] true [.cell 6 27, .tmp 7] [27, 4] [.d .node a0, .d (.sl .str) a1, .clo 97 [⟨.node, a2⟩]] k =
    (cond (gPW (eN a0) a1 a2)
    (cond (!((putIn (eN a0) a1 a2).2))
      (cond (sm_node (eN a0))
        (k [.d .node (eN a0), .d .bool false])
        none)
      (k [.d .node (eN ((putIn (eN a0) a1 a2).1)), .d .bool true]))
    none) := by kernel_rfl
theorem f96b_spec (a0 : NodeT) (a1 : List ByteArray) (a2 : NodeT) (hg : gPW a0 a1 a2 = true) : ∃ keep rounds, ∀ {R : Type} (k : List Dt → Option R), evFn f96be keep rounds f96bc [.ro, .ro, .fn] [false, false] true [.cell 6 27, .tmp 7] [27, 4] [.d .node a0, .d (.sl .str) a1, .clo 97 [⟨.node, a2⟩]] k = k [.d .node ((putAtW a0 a1 a2).1), .d .bool ((putAtW a0 a1 a2).2)] := by
  refine ⟨f96bk, 0, fun {R} k => ?_⟩
  rw [f96b_run]
  have hs : sm_node a0 = true := by simp only [gPW, gP, Bool.and_eq_true] at hg; exact hg.1.1
  simp only [eta_node, eN_eq, hg, hs, cond_true]
  show _ = k [.d .node (putAtW a0 a1 a2).1, .d .bool (putAtW a0 a1 a2).2]
  unfold putAtW
  cases (putIn a0 a1 a2).2 <;> rfl

noncomputable def q96b : List Dt → Option (Bool × List Dt)
  | [.d .node a0, .d (.sl .str) a1, .clo 97 [⟨.node, a2⟩]] => some ((gPW a0 a1 a2), [.d .node ((putAtW a0 a1 a2).1), .d .bool ((putAtW a0 a1 a2).2)])
  | _ => none
noncomputable def s96b : Gm.Spec := Gm.Spec.of [.ro, .ro, .fn] [false, false] true q96b
theorem good96b : Gm.Good Try.prog (96, s96b) := by
  have hl : ∀ x ∈ [(39, s39), (97, s97), (108, s108)], Gm.Good Try.prog x := List.forall_mem_cons.2 ⟨good39, List.forall_mem_cons.2 ⟨good97, List.forall_mem_cons.2 ⟨good108, List.forall_mem_nil _⟩⟩⟩
  refine ⟨⟨spec_ok (tab_ok.env hl) (tab.natl hl) Try.func96 (by kernel_rfl : Try.f96.body = some f96bc) [27, 4] (by kernel_rfl) ?_, _, Try.func96, by kernel_rfl, of_decide_eq_true (by kernel_rfl)⟩, Gm.Spec.of_natl _ _ _ _⟩
  intro ds outs h
  unfold q96b at h
  split at h
  · simp only [Option.some.injEq, Prod.mk.injEq] at h; obtain ⟨hg, h⟩ := h; cases h; exact f96b_spec _ _ _ hg
  · cases h

noncomputable def q96 : List Dt → Option (Bool × List Dt) := fun ds => (match q96a ds with | some r => some r | none => (match q96b ds with | some r => some r | none => none))
noncomputable def s96 : Gm.Spec := Gm.Spec.of [.ro, .ro, .fn] [false, false] true q96
theorem good96 : Gm.Good Try.prog (96, s96) := by
  refine ⟨⟨spec_part (q := q96) ?_, good96a.1.2⟩, Gm.Spec.of_natl _ _ _ _⟩
  intro ds outs h
  unfold q96 at h
  cases ha : q96a ds with
  | some r =>
    simp only [ha] at h
    exact ⟨q96a, good96a.1.1, by rw [ha]; exact h⟩
  | none =>
  simp only [ha] at h
  cases hb : q96b ds with
  | some r =>
    simp only [hb] at h
    exact ⟨q96b, good96b.1.1, by rw [hb]; exact h⟩
  | none =>
  simp only [hb] at h
  cases h
end Go.Proofs.Ytalnkjjnohgjkaa

/- x -/
namespace Go.Proofs.Ytalnkjjnohgjkaa
open Go Go.Gm
/-! ### loop.example/g00465/impl.PutPtr -/
noncomputable def f86c : Code := (Try.f86.body).getD .skip
def f86k : Nat → Kp := kat [⟨[1, 3, 5, 6], [], [], []⟩, ⟨[1, 3, 5, 6, 10], [], [], []⟩, ⟨[6, 7], [], [], []⟩, ⟨[6, 7], [], [], []⟩]
noncomputable def f86e : Env := tab.env [(39, s39), (96, s96), (97, s97)]
theorem f86_run {R : Type} (n : Nat) (k : List Dt → Option R) (a0 : NodeT) (a1 : List ByteArray) (a2 : NodeT) : evFn f86e f86k n f86c [.ro, .ro, .ro] [false, false] true [.cell 6 27, .tmp 7] [27, 4] [.d .node a0, .d (.sl .str) a1, .d .node a2] k =
    (cond ((a1.length : Int) == (0 : Int))
    (cond (sm_node (eN a2))
      (k [.d .node (eN a2), .d .bool true])
      none)
    (cond (gPW (eN a0) a1 (eN a2))
      (k [.d .node (eN ((putAtW (eN a0) a1 (eN a2)).1)), .d .bool ((putAtW (eN a0) a1 (eN a2)).2)])
      none)) := by kernel_rfl
theorem f86_spec (a0 : NodeT) (a1 : List ByteArray) (a2 : NodeT) (hg : gP a0 a1 a2 = true) : ∃ keep rounds, ∀ {R : Type} (k : List Dt → Option R), evFn f86e keep rounds f86c [.ro, .ro, .ro] [false, false] true [.cell 6 27, .tmp 7] [27, 4] [.d .node a0, .d (.sl .str) a1, .d .node a2] k = k [.d .node ((putPtr a0 a1 a2).1), .d .bool ((putPtr a0 a1 a2).2)] := by
  have hgp := hg
  simp only [gP, Bool.and_eq_true] at hg
  obtain ⟨hg, hpa, hx2⟩ := hg
  refine ⟨f86k, 0, fun {R} k => ?_⟩
  rw [f86_run]
  show _ = k [.d .node (putPtr a0 a1 a2).1, .d .bool (putPtr a0 a1 a2).2]
  unfold putPtr
  cases a1 with
  | nil => simp only [eta_node, eN_eq, hx2]; rfl
  | cons p r =>
    have hgw : gPW a0 (p :: r) a2 = true := by simp only [gPW, hgp]; rfl
    have l7 : (((p :: r).length : Int) == (0 : Int)) = false := by rw [beq_eq_false_iff_ne]; simp only [List.length_cons]; omega
    simp only [eta_node, eN_eq, hgw, l7, cond_true, cond_false]

noncomputable def q86 : List Dt → Option (Bool × List Dt)
  | [.d .node a0, .d (.sl .str) a1, .d .node a2] => some ((gP a0 a1 a2), [.d .node ((putPtr a0 a1 a2).1), .d .bool ((putPtr a0 a1 a2).2)])
  | _ => none
noncomputable def s86 : Gm.Spec := Gm.Spec.of [.ro, .ro, .ro] [false, false] true q86
theorem good86 : Gm.Good Try.prog (86, s86) := by
  have hl : ∀ x ∈ [(39, s39), (96, s96), (97, s97)], Gm.Good Try.prog x := List.forall_mem_cons.2 ⟨good39, List.forall_mem_cons.2 ⟨good96, List.forall_mem_cons.2 ⟨good97, List.forall_mem_nil _⟩⟩⟩
  refine ⟨⟨spec_ok (tab_ok.env hl) (tab.natl hl) Try.func86 (by kernel_rfl : Try.f86.body = some f86c) [27, 4] (by kernel_rfl) ?_, _, Try.func86, by kernel_rfl, of_decide_eq_true (by kernel_rfl)⟩, Gm.Spec.of_natl _ _ _ _⟩
  intro ds outs h
  unfold q86 at h
  split at h
  · simp only [Option.some.injEq, Prod.mk.injEq] at h; obtain ⟨hg, h⟩ := h; cases h; exact f86_spec _ _ _ hg
  · cases h
/-! ### loop.example/g00465/spec.Set -/
noncomputable def f78c : Code := (Try.f78.body).getD .skip
def f78k : Nat → Kp := kat [⟨[1, 3, 5, 6], [], [], []⟩, ⟨[1, 3, 5, 6, 7], [], [], []⟩, ⟨[1, 3, 5, 6, 7, 24], [], [], []⟩, ⟨[6], [], [], []⟩, ⟨[1, 3, 5, 6, 7, 8], [], [], []⟩, ⟨[1, 3, 5, 6, 7, 8, 30], [], [], []⟩, ⟨[6, 7], [], [], []⟩, ⟨[6], [], [], []⟩, ⟨[1, 3, 5, 6, 7, 8], [], [], []⟩, ⟨[1, 3, 5, 6, 7, 8, 51], [], [], []⟩, ⟨[1, 3, 5, 6, 7, 8], [], [], []⟩, ⟨[1, 3, 5, 6, 7, 8, 9], [], [], []⟩, ⟨[3, 5, 6, 7, 8, 9], [], [769], []⟩, ⟨[3, 5, 6, 7, 8, 9, 10], [], [], []⟩, ⟨[3, 6, 7, 8, 9, 10], [], [], []⟩, ⟨[6], [], [], []⟩]
noncomputable def f78e : Env := tab.env [(41, s41), (85, s85)]
noncomputable def f78L0 {R : Type} (n : Nat) (x0 : Int → Bool → Option R) (x1 : Int → Option R) (vs1 : ByteArray) (vb3_0 : Int) (vb3_1 : Int) (vb3_2 : ByteArray) (vb3_3 : List ByteArray) (vb3_4 : List NodeT) (vb5_0 : Int) (vb5_1 : Int) (vb5_2 : ByteArray) (vb5_3 : List ByteArray) (vb5_4 : List NodeT) (vb7_0 : Int) (vb7_1 : Int) (vb7_2 : ByteArray) (vr768 : List ByteArray) (vr769 : List NodeT) : Nat → Int → Option R
  | 0, _ => none
  | m + 1, vs8 =>
    (cond (decide (vs8 < (vb3_3.length : Int)))
      (cond ((decide ((0 : Int) ≤ vs8)) && (decide (vs8 < (vb3_3.length : Int))))
        (cond (sLt (atI (t := .str) vb3_3 (Int.toNat vs8)) vs1)
          (f78L0 n x0 x1 vs1 vb3_0 vb3_1 vb3_2 vb3_3 vb3_4 vb5_0 vb5_1 vb5_2 vb5_3 vb5_4 vb7_0 vb7_1 vb7_2 vr768 vr769 m (IntKind.wrap .i64 (vs8 + (1 : Int))))
          (x0 vs8 (sLt (atI (t := .str) vb3_3 (Int.toNat vs8)) vs1)))
        none)
      (x1 vs8))
theorem f78L0_b {R : Type} (n : Nat) (k' : Ex → St → Option R) (vs1 : ByteArray) (vs8 : Int) (vb3_0 : Int) (vb3_1 : Int) (vb3_2 : ByteArray) (vb3_3 : List ByteArray) (vb3_4 : List NodeT) (vb5_0 : Int) (vb5_1 : Int) (vb5_2 : ByteArray) (vb5_3 : List ByteArray) (vb5_4 : List NodeT) (vb7_0 : Int) (vb7_1 : Int) (vb7_2 : ByteArray) (vr768 : List ByteArray) (vr769 : List NodeT) : ev f78e f78k n (cAt [1,1,1,1,1,1,0,0,0] f78c) ⟨[(1, .c (.one (.v (.string vs1)))), (3, .c (.one (.pt 3 0))), (5, .c (.one (.pt 5 0))), (6, .c (.one (.pt 6 0))), (7, .c (.one (.pt 7 0))), (8, .c (.one (.v (.int .i64 vs8))))], [(3, ⟨.node, [.v (.int .i64 vb3_0), .v (.int .i64 vb3_1), .v (.string vb3_2), .ro .str vb3_3, .ro .node vb3_4]⟩), (5, ⟨.node, [.v (.int .i64 vb5_0), .v (.int .i64 vb5_1), .v (.string vb5_2), .ro .str vb5_3, .ro .node vb5_4]⟩), (6, ⟨.node, [.v (.int .i64 (0 : Int)), .v (.int .i64 (0 : Int)), .v (.string ByteArray.empty), .nl, .nl]⟩), (7, ⟨.node, [.v (.int .i64 vb7_0), .v (.int .i64 vb7_1), .v (.string vb7_2), .h 768 0 0 [], .h 769 0 0 []]⟩)], [(768, .live ⟨.str, .deep, 0, [], vr768⟩), (769, .live ⟨.node, .deep, 0, [], vr769⟩)]⟩ k' =
    (cond (decide (vs8 < (vb3_3.length : Int)))
    (cond ((decide ((0 : Int) ≤ vs8)) && (decide (vs8 < (vb3_3.length : Int))))
      (cond (sLt (atI (t := .str) vb3_3 (Int.toNat vs8)) vs1)
        (k' .normal ⟨[(1, .c (.one (.v (.string vs1)))), (3, .c (.one (.pt 3 0))), (5, .c (.one (.pt 5 0))), (6, .c (.one (.pt 6 0))), (7, .c (.one (.pt 7 0))), (8, .c (.one (.v (.int .i64 (IntKind.wrap .i64 (vs8 + (1 : Int)))))))], [(3, ⟨.node, [.v (.int .i64 vb3_0), .v (.int .i64 vb3_1), .v (.string vb3_2), .ro .str vb3_3, .ro .node vb3_4]⟩), (5, ⟨.node, [.v (.int .i64 vb5_0), .v (.int .i64 vb5_1), .v (.string vb5_2), .ro .str vb5_3, .ro .node vb5_4]⟩), (6, ⟨.node, [.v (.int .i64 (0 : Int)), .v (.int .i64 (0 : Int)), .v (.string ByteArray.empty), .nl, .nl]⟩), (7, ⟨.node, [.v (.int .i64 vb7_0), .v (.int .i64 vb7_1), .v (.string vb7_2), .h 768 0 0 [], .h 769 0 0 []]⟩)], [(768, .live ⟨.str, .deep, 0, [], vr768⟩), (769, .live ⟨.node, .deep, 0, [], vr769⟩)]⟩)
        (k' (.exit 0) ⟨[(1, .c (.one (.v (.string vs1)))), (3, .c (.one (.pt 3 0))), (5, .c (.one (.pt 5 0))), (6, .c (.one (.pt 6 0))), (7, .c (.one (.pt 7 0))), (8, .c (.one (.v (.int .i64 vs8)))), (51, .c (.one (.v (.bool (sLt (atI (t := .str) vb3_3 (Int.toNat vs8)) vs1)))))], [(3, ⟨.node, [.v (.int .i64 vb3_0), .v (.int .i64 vb3_1), .v (.string vb3_2), .ro .str vb3_3, .ro .node vb3_4]⟩), (5, ⟨.node, [.v (.int .i64 vb5_0), .v (.int .i64 vb5_1), .v (.string vb5_2), .ro .str vb5_3, .ro .node vb5_4]⟩), (6, ⟨.node, [.v (.int .i64 (0 : Int)), .v (.int .i64 (0 : Int)), .v (.string ByteArray.empty), .nl, .nl]⟩), (7, ⟨.node, [.v (.int .i64 vb7_0), .v (.int .i64 vb7_1), .v (.string vb7_2), .h 768 0 0 [], .h 769 0 0 []]⟩)], [(768, .live ⟨.str, .deep, 0, [], vr768⟩), (769, .live ⟨.node, .deep, 0, [], vr769⟩)]⟩))
      none)
    (k' (.exit 0) ⟨[(1, .c (.one (.v (.string vs1)))), (3, .c (.one (.pt 3 0))), (5, .c (.one (.pt 5 0))), (6, .c (.one (.pt 6 0))), (7, .c (.one (.pt 7 0))), (8, .c (.one (.v (.int .i64 vs8)))), (51, .c (.one (.v (.bool false))))], [(3, ⟨.node, [.v (.int .i64 vb3_0), .v (.int .i64 vb3_1), .v (.string vb3_2), .ro .str vb3_3, .ro .node vb3_4]⟩), (5, ⟨.node, [.v (.int .i64 vb5_0), .v (.int .i64 vb5_1), .v (.string vb5_2), .ro .str vb5_3, .ro .node vb5_4]⟩), (6, ⟨.node, [.v (.int .i64 (0 : Int)), .v (.int .i64 (0 : Int)), .v (.string ByteArray.empty), .nl, .nl]⟩), (7, ⟨.node, [.v (.int .i64 vb7_0), .v (.int .i64 vb7_1), .v (.string vb7_2), .h 768 0 0 [], .h 769 0 0 []]⟩)], [(768, .live ⟨.str, .deep, 0, [], vr768⟩), (769, .live ⟨.node, .deep, 0, [], vr769⟩)]⟩)) := by kernel_rfl
theorem f78L0_eq {R : Type} (n : Nat) (k' : Ex → St → Option R) (vs1 : ByteArray) (vb3_0 : Int) (vb3_1 : Int) (vb3_2 : ByteArray) (vb3_3 : List ByteArray) (vb3_4 : List NodeT) (vb5_0 : Int) (vb5_1 : Int) (vb5_2 : ByteArray) (vb5_3 : List ByteArray) (vb5_4 : List NodeT) (vb7_0 : Int) (vb7_1 : Int) (vb7_2 : ByteArray) (vr768 : List ByteArray) (vr769 : List NodeT) : ∀ (m : Nat) (vs8 : Int), iter (fun st k => ev f78e f78k n (cAt [1,1,1,1,1,1,0,0,0] f78c) st k) m ⟨[(1, .c (.one (.v (.string vs1)))), (3, .c (.one (.pt 3 0))), (5, .c (.one (.pt 5 0))), (6, .c (.one (.pt 6 0))), (7, .c (.one (.pt 7 0))), (8, .c (.one (.v (.int .i64 vs8))))], [(3, ⟨.node, [.v (.int .i64 vb3_0), .v (.int .i64 vb3_1), .v (.string vb3_2), .ro .str vb3_3, .ro .node vb3_4]⟩), (5, ⟨.node, [.v (.int .i64 vb5_0), .v (.int .i64 vb5_1), .v (.string vb5_2), .ro .str vb5_3, .ro .node vb5_4]⟩), (6, ⟨.node, [.v (.int .i64 (0 : Int)), .v (.int .i64 (0 : Int)), .v (.string ByteArray.empty), .nl, .nl]⟩), (7, ⟨.node, [.v (.int .i64 vb7_0), .v (.int .i64 vb7_1), .v (.string vb7_2), .h 768 0 0 [], .h 769 0 0 []]⟩)], [(768, .live ⟨.str, .deep, 0, [], vr768⟩), (769, .live ⟨.node, .deep, 0, [], vr769⟩)]⟩ k' = f78L0 n (fun (xvs8 : Int) (xvs51 : Bool) => k' (.exit 0) ⟨[(1, .c (.one (.v (.string vs1)))), (3, .c (.one (.pt 3 0))), (5, .c (.one (.pt 5 0))), (6, .c (.one (.pt 6 0))), (7, .c (.one (.pt 7 0))), (8, .c (.one (.v (.int .i64 xvs8)))), (51, .c (.one (.v (.bool xvs51))))], [(3, ⟨.node, [.v (.int .i64 vb3_0), .v (.int .i64 vb3_1), .v (.string vb3_2), .ro .str vb3_3, .ro .node vb3_4]⟩), (5, ⟨.node, [.v (.int .i64 vb5_0), .v (.int .i64 vb5_1), .v (.string vb5_2), .ro .str vb5_3, .ro .node vb5_4]⟩), (6, ⟨.node, [.v (.int .i64 (0 : Int)), .v (.int .i64 (0 : Int)), .v (.string ByteArray.empty), .nl, .nl]⟩), (7, ⟨.node, [.v (.int .i64 vb7_0), .v (.int .i64 vb7_1), .v (.string vb7_2), .h 768 0 0 [], .h 769 0 0 []]⟩)], [(768, .live ⟨.str, .deep, 0, [], vr768⟩), (769, .live ⟨.node, .deep, 0, [], vr769⟩)]⟩) (fun (xvs8 : Int) => k' (.exit 0) ⟨[(1, .c (.one (.v (.string vs1)))), (3, .c (.one (.pt 3 0))), (5, .c (.one (.pt 5 0))), (6, .c (.one (.pt 6 0))), (7, .c (.one (.pt 7 0))), (8, .c (.one (.v (.int .i64 xvs8)))), (51, .c (.one (.v (.bool false))))], [(3, ⟨.node, [.v (.int .i64 vb3_0), .v (.int .i64 vb3_1), .v (.string vb3_2), .ro .str vb3_3, .ro .node vb3_4]⟩), (5, ⟨.node, [.v (.int .i64 vb5_0), .v (.int .i64 vb5_1), .v (.string vb5_2), .ro .str vb5_3, .ro .node vb5_4]⟩), (6, ⟨.node, [.v (.int .i64 (0 : Int)), .v (.int .i64 (0 : Int)), .v (.string ByteArray.empty), .nl, .nl]⟩), (7, ⟨.node, [.v (.int .i64 vb7_0), .v (.int .i64 vb7_1), .v (.string vb7_2), .h 768 0 0 [], .h 769 0 0 []]⟩)], [(768, .live ⟨.str, .deep, 0, [], vr768⟩), (769, .live ⟨.node, .deep, 0, [], vr769⟩)]⟩) vs1 vb3_0 vb3_1 vb3_2 vb3_3 vb3_4 vb5_0 vb5_1 vb5_2 vb5_3 vb5_4 vb7_0 vb7_1 vb7_2 vr768 vr769 m vs8 := by
  intro m; induction m with
  | zero => intros; rfl
  | succ m ih =>
    intro vs8
    simp only [iter]
    rw [f78L0_b]
    simp only [ih, f78L0]

noncomputable def f78K0 {R : Type} (n : Nat) (k' : Ex → St → Option R) : Ex → St → Option R := (blockK 0 (seqK f78e f78k n (cAt [1,1,1,1,1,1,1] f78c) k'))
theorem f78K0_x0 {R : Type} (n : Nat) (k : List Dt → Option R) (a0 : NodeT) (a1 : ByteArray) (a2 : NodeT) (vs1 : ByteArray) (vb3_0 : Int) (vb3_1 : Int) (vb3_2 : ByteArray) (vb3_3 : List ByteArray) (vb3_4 : List NodeT) (vb5_0 : Int) (vb5_1 : Int) (vb5_2 : ByteArray) (vb5_3 : List ByteArray) (vb5_4 : List NodeT) (vb7_0 : Int) (vb7_1 : Int) (vb7_2 : ByteArray) (vr768 : List ByteArray) (vr769 : List NodeT) (xvs8 : Int) (xvs51 : Bool) : f78K0 n (exitK f78e [.ro, .ro, .ro] [false] false [.cell 6 27] [27] [.d .node a0, .d .str a1, .d .node a2] k) (.exit 0) ⟨[(1, .c (.one (.v (.string vs1)))), (3, .c (.one (.pt 3 0))), (5, .c (.one (.pt 5 0))), (6, .c (.one (.pt 6 0))), (7, .c (.one (.pt 7 0))), (8, .c (.one (.v (.int .i64 xvs8)))), (51, .c (.one (.v (.bool xvs51))))], [(3, ⟨.node, [.v (.int .i64 vb3_0), .v (.int .i64 vb3_1), .v (.string vb3_2), .ro .str vb3_3, .ro .node vb3_4]⟩), (5, ⟨.node, [.v (.int .i64 vb5_0), .v (.int .i64 vb5_1), .v (.string vb5_2), .ro .str vb5_3, .ro .node vb5_4]⟩), (6, ⟨.node, [.v (.int .i64 (0 : Int)), .v (.int .i64 (0 : Int)), .v (.string ByteArray.empty), .nl, .nl]⟩), (7, ⟨.node, [.v (.int .i64 vb7_0), .v (.int .i64 vb7_1), .v (.string vb7_2), .h 768 0 0 [], .h 769 0 0 []]⟩)], [(768, .live ⟨.str, .deep, 0, [], vr768⟩), (769, .live ⟨.node, .deep, 0, [], vr769⟩)]⟩ =
    (cond ((decide ((0 : Int) ≤ xvs8)) && (decide (xvs8 ≤ (vr768.length : Int))))
    (cond (Nat.ble (0 + ((vr768.take (Int.toNat xvs8)).drop 0).length) LIM)
      (cond (Nat.ble ((([] : List ByteArray) ++ ((vr768.take (Int.toNat xvs8)).drop 0)).length + 1) LIM)
        (cond ((decide ((0 : Int) ≤ xvs8)) && (decide (xvs8 ≤ (vr769.length : Int))))
          (cond (Nat.ble (0 + ((vr769.take (Int.toNat xvs8)).drop 0).length) LIM)
            (cond (sm_node (⟨vb5_0, vb5_1, vb5_2, vb5_3, vb5_4⟩ : NodeT))
              (cond (Nat.ble ((([] : List NodeT) ++ ((vr769.take (Int.toNat xvs8)).drop 0)).length + 1) LIM)
                (cond ((decide ((0 : Int) ≤ xvs8)) && ((decide (xvs8 ≤ (vr768.length : Int))) && (decide ((vr768.length : Int) ≤ (vr768.length : Int)))))
                  (cond (Nat.ble (((([] : List ByteArray) ++ ((vr768.take (Int.toNat xvs8)).drop 0)) ++ ([vs1] : List ByteArray)).length + ((vr768.take (Int.toNat (vr768.length : Int))).drop (Int.toNat xvs8)).length) LIM)
                    (cond ((decide ((0 : Int) ≤ xvs8)) && ((decide (xvs8 ≤ (vr769.length : Int))) && (decide ((vr769.length : Int) ≤ (vr769.length : Int)))))
                      (cond (Nat.ble (((([] : List NodeT) ++ ((vr769.take (Int.toNat xvs8)).drop 0)) ++ ([(⟨vb5_0, vb5_1, vb5_2, vb5_3, vb5_4⟩ : NodeT)] : List NodeT)).length + ((vr769.take (Int.toNat (vr769.length : Int))).drop (Int.toNat xvs8)).length) LIM)
                        (k [.d .node (⟨vb3_0, vb3_1, vb3_2, (((([] : List ByteArray) ++ ((vr768.take (Int.toNat xvs8)).drop 0)) ++ ([vs1] : List ByteArray)) ++ ((vr768.take (Int.toNat (vr768.length : Int))).drop (Int.toNat xvs8))), (((([] : List NodeT) ++ ((vr769.take (Int.toNat xvs8)).drop 0)) ++ ([(⟨vb5_0, vb5_1, vb5_2, vb5_3, vb5_4⟩ : NodeT)] : List NodeT)) ++ ((vr769.take (Int.toNat (vr769.length : Int))).drop (Int.toNat xvs8)))⟩ : NodeT)])
                        none)
                      none)
                    none)
                  none)
                none)
              none)
            none)
          none)
        none)
      none)
    none) := by kernel_rfl
theorem f78K0_x1 {R : Type} (n : Nat) (k : List Dt → Option R) (a0 : NodeT) (a1 : ByteArray) (a2 : NodeT) (vs1 : ByteArray) (vb3_0 : Int) (vb3_1 : Int) (vb3_2 : ByteArray) (vb3_3 : List ByteArray) (vb3_4 : List NodeT) (vb5_0 : Int) (vb5_1 : Int) (vb5_2 : ByteArray) (vb5_3 : List ByteArray) (vb5_4 : List NodeT) (vb7_0 : Int) (vb7_1 : Int) (vb7_2 : ByteArray) (vr768 : List ByteArray) (vr769 : List NodeT) (xvs8 : Int) : f78K0 n (exitK f78e [.ro, .ro, .ro] [false] false [.cell 6 27] [27] [.d .node a0, .d .str a1, .d .node a2] k) (.exit 0) ⟨[(1, .c (.one (.v (.string vs1)))), (3, .c (.one (.pt 3 0))), (5, .c (.one (.pt 5 0))), (6, .c (.one (.pt 6 0))), (7, .c (.one (.pt 7 0))), (8, .c (.one (.v (.int .i64 xvs8)))), (51, .c (.one (.v (.bool false))))], [(3, ⟨.node, [.v (.int .i64 vb3_0), .v (.int .i64 vb3_1), .v (.string vb3_2), .ro .str vb3_3, .ro .node vb3_4]⟩), (5, ⟨.node, [.v (.int .i64 vb5_0), .v (.int .i64 vb5_1), .v (.string vb5_2), .ro .str vb5_3, .ro .node vb5_4]⟩), (6, ⟨.node, [.v (.int .i64 (0 : Int)), .v (.int .i64 (0 : Int)), .v (.string ByteArray.empty), .nl, .nl]⟩), (7, ⟨.node, [.v (.int .i64 vb7_0), .v (.int .i64 vb7_1), .v (.string vb7_2), .h 768 0 0 [], .h 769 0 0 []]⟩)], [(768, .live ⟨.str, .deep, 0, [], vr768⟩), (769, .live ⟨.node, .deep, 0, [], vr769⟩)]⟩ =
    (cond ((decide ((0 : Int) ≤ xvs8)) && (decide (xvs8 ≤ (vr768.length : Int))))
    (cond (Nat.ble (0 + ((vr768.take (Int.toNat xvs8)).drop 0).length) LIM)
      (cond (Nat.ble ((([] : List ByteArray) ++ ((vr768.take (Int.toNat xvs8)).drop 0)).length + 1) LIM)
        (cond ((decide ((0 : Int) ≤ xvs8)) && (decide (xvs8 ≤ (vr769.length : Int))))
          (cond (Nat.ble (0 + ((vr769.take (Int.toNat xvs8)).drop 0).length) LIM)
            (cond (sm_node (⟨vb5_0, vb5_1, vb5_2, vb5_3, vb5_4⟩ : NodeT))
              (cond (Nat.ble ((([] : List NodeT) ++ ((vr769.take (Int.toNat xvs8)).drop 0)).length + 1) LIM)
                (cond ((decide ((0 : Int) ≤ xvs8)) && ((decide (xvs8 ≤ (vr768.length : Int))) && (decide ((vr768.length : Int) ≤ (vr768.length : Int)))))
                  (cond (Nat.ble (((([] : List ByteArray) ++ ((vr768.take (Int.toNat xvs8)).drop 0)) ++ ([vs1] : List ByteArray)).length + ((vr768.take (Int.toNat (vr768.length : Int))).drop (Int.toNat xvs8)).length) LIM)
                    (cond ((decide ((0 : Int) ≤ xvs8)) && ((decide (xvs8 ≤ (vr769.length : Int))) && (decide ((vr769.length : Int) ≤ (vr769.length : Int)))))
                      (cond (Nat.ble (((([] : List NodeT) ++ ((vr769.take (Int.toNat xvs8)).drop 0)) ++ ([(⟨vb5_0, vb5_1, vb5_2, vb5_3, vb5_4⟩ : NodeT)] : List NodeT)).length + ((vr769.take (Int.toNat (vr769.length : Int))).drop (Int.toNat xvs8)).length) LIM)
                        (k [.d .node (⟨vb3_0, vb3_1, vb3_2, (((([] : List ByteArray) ++ ((vr768.take (Int.toNat xvs8)).drop 0)) ++ ([vs1] : List ByteArray)) ++ ((vr768.take (Int.toNat (vr768.length : Int))).drop (Int.toNat xvs8))), (((([] : List NodeT) ++ ((vr769.take (Int.toNat xvs8)).drop 0)) ++ ([(⟨vb5_0, vb5_1, vb5_2, vb5_3, vb5_4⟩ : NodeT)] : List NodeT)) ++ ((vr769.take (Int.toNat (vr769.length : Int))).drop (Int.toNat xvs8)))⟩ : NodeT)])
                        none)
                      none)
                    none)
                  none)
                none)
              none)
            none)
          none)
        none)
      none)
    none) := by kernel_rfl

theorem f78_run {R : Type} (n : Nat) (k : List Dt → Option R) (a0 : NodeT) (a1 : ByteArray) (a2 : NodeT) : evFn f78e f78k n f78c [.ro, .ro, .ro] [false] false [.cell 6 27] [27] [.d .node a0, .d .str a1, .d .node a2] k =
    (cond (sm_node (eN a0))
    (cond ((NodeT.kind a0) != (5 : Int))
      (k [.d .node (eN a0)])
      (cond (((NodeT.keys a0).length : Int) != ((NodeT.kids a0).length : Int))
        (k [.d .node (eN a0)])
        (cond ((fun (x : NodeT) (_ : ByteArray) => sm_node x) (eN a0) a1)
          (cond (decide ((keyAt (eN a0) a1) ≥ (0 : Int)))
            (cond (sm_node (eN a2))
              (cond ((decide ((0 : Int) ≤ (keyAt (eN a0) a1))) && (decide ((keyAt (eN a0) a1) < ((NodeT.kids a0).length : Int))))
                (k [.d .node (⟨(NodeT.kind a0), (NodeT.n a0), (NodeT.s a0), (NodeT.keys a0), ((NodeT.kids a0).set (Int.toNat (keyAt (eN a0) a1)) (eN a2))⟩ : NodeT)])
                none)
              none)
            (f78L0 n (fun (xvs8 : Int) (xvs51 : Bool) =>
              (cond ((decide ((0 : Int) ≤ xvs8)) && (decide (xvs8 ≤ ((NodeT.keys a0).length : Int))))
                (cond (Nat.ble (0 + (((NodeT.keys a0).take (Int.toNat xvs8)).drop 0).length) LIM)
                  (cond (Nat.ble ((([] : List ByteArray) ++ (((NodeT.keys a0).take (Int.toNat xvs8)).drop 0)).length + 1) LIM)
                    (cond ((decide ((0 : Int) ≤ xvs8)) && (decide (xvs8 ≤ ((NodeT.kids a0).length : Int))))
                      (cond (Nat.ble (0 + (((NodeT.kids a0).take (Int.toNat xvs8)).drop 0).length) LIM)
                        (cond (sm_node (⟨(NodeT.kind a2), (NodeT.n a2), (NodeT.s a2), (NodeT.keys a2), (NodeT.kids a2)⟩ : NodeT))
                          (cond (Nat.ble ((([] : List NodeT) ++ (((NodeT.kids a0).take (Int.toNat xvs8)).drop 0)).length + 1) LIM)
                            (cond ((decide ((0 : Int) ≤ xvs8)) && ((decide (xvs8 ≤ ((NodeT.keys a0).length : Int))) && (decide (((NodeT.keys a0).length : Int) ≤ ((NodeT.keys a0).length : Int)))))
                              (cond (Nat.ble (((([] : List ByteArray) ++ (((NodeT.keys a0).take (Int.toNat xvs8)).drop 0)) ++ ([a1] : List ByteArray)).length + (((NodeT.keys a0).take (Int.toNat ((NodeT.keys a0).length : Int))).drop (Int.toNat xvs8)).length) LIM)
                                (cond ((decide ((0 : Int) ≤ xvs8)) && ((decide (xvs8 ≤ ((NodeT.kids a0).length : Int))) && (decide (((NodeT.kids a0).length : Int) ≤ ((NodeT.kids a0).length : Int)))))
                                  (cond (Nat.ble (((([] : List NodeT) ++ (((NodeT.kids a0).take (Int.toNat xvs8)).drop 0)) ++ ([(⟨(NodeT.kind a2), (NodeT.n a2), (NodeT.s a2), (NodeT.keys a2), (NodeT.kids a2)⟩ : NodeT)] : List NodeT)).length + (((NodeT.kids a0).take (Int.toNat ((NodeT.kids a0).length : Int))).drop (Int.toNat xvs8)).length) LIM)
                                    (k [.d .node (⟨(NodeT.kind a0), (NodeT.n a0), (NodeT.s a0), (((([] : List ByteArray) ++ (((NodeT.keys a0).take (Int.toNat xvs8)).drop 0)) ++ ([a1] : List ByteArray)) ++ (((NodeT.keys a0).take (Int.toNat ((NodeT.keys a0).length : Int))).drop (Int.toNat xvs8))), (((([] : List NodeT) ++ (((NodeT.kids a0).take (Int.toNat xvs8)).drop 0)) ++ ([(⟨(NodeT.kind a2), (NodeT.n a2), (NodeT.s a2), (NodeT.keys a2), (NodeT.kids a2)⟩ : NodeT)] : List NodeT)) ++ (((NodeT.kids a0).take (Int.toNat ((NodeT.kids a0).length : Int))).drop (Int.toNat xvs8)))⟩ : NodeT)])
                                    none)
                                  none)
                                none)
                              none)
                            none)
                          none)
                        none)
                      none)
                    none)
                  none)
                none)) (fun (xvs8 : Int) =>
              (cond ((decide ((0 : Int) ≤ xvs8)) && (decide (xvs8 ≤ ((NodeT.keys a0).length : Int))))
                (cond (Nat.ble (0 + (((NodeT.keys a0).take (Int.toNat xvs8)).drop 0).length) LIM)
                  (cond (Nat.ble ((([] : List ByteArray) ++ (((NodeT.keys a0).take (Int.toNat xvs8)).drop 0)).length + 1) LIM)
                    (cond ((decide ((0 : Int) ≤ xvs8)) && (decide (xvs8 ≤ ((NodeT.kids a0).length : Int))))
                      (cond (Nat.ble (0 + (((NodeT.kids a0).take (Int.toNat xvs8)).drop 0).length) LIM)
                        (cond (sm_node (⟨(NodeT.kind a2), (NodeT.n a2), (NodeT.s a2), (NodeT.keys a2), (NodeT.kids a2)⟩ : NodeT))
                          (cond (Nat.ble ((([] : List NodeT) ++ (((NodeT.kids a0).take (Int.toNat xvs8)).drop 0)).length + 1) LIM)
                            (cond ((decide ((0 : Int) ≤ xvs8)) && ((decide (xvs8 ≤ ((NodeT.keys a0).length : Int))) && (decide (((NodeT.keys a0).length : Int) ≤ ((NodeT.keys a0).length : Int)))))
                              (cond (Nat.ble (((([] : List ByteArray) ++ (((NodeT.keys a0).take (Int.toNat xvs8)).drop 0)) ++ ([a1] : List ByteArray)).length + (((NodeT.keys a0).take (Int.toNat ((NodeT.keys a0).length : Int))).drop (Int.toNat xvs8)).length) LIM)
                                (cond ((decide ((0 : Int) ≤ xvs8)) && ((decide (xvs8 ≤ ((NodeT.kids a0).length : Int))) && (decide (((NodeT.kids a0).length : Int) ≤ ((NodeT.kids a0).length : Int)))))
                                  (cond (Nat.ble (((([] : List NodeT) ++ (((NodeT.kids a0).take (Int.toNat xvs8)).drop 0)) ++ ([(⟨(NodeT.kind a2), (NodeT.n a2), (NodeT.s a2), (NodeT.keys a2), (NodeT.kids a2)⟩ : NodeT)] : List NodeT)).length + (((NodeT.kids a0).take (Int.toNat ((NodeT.kids a0).length : Int))).drop (Int.toNat xvs8)).length) LIM)
                                    (k [.d .node (⟨(NodeT.kind a0), (NodeT.n a0), (NodeT.s a0), (((([] : List ByteArray) ++ (((NodeT.keys a0).take (Int.toNat xvs8)).drop 0)) ++ ([a1] : List ByteArray)) ++ (((NodeT.keys a0).take (Int.toNat ((NodeT.keys a0).length : Int))).drop (Int.toNat xvs8))), (((([] : List NodeT) ++ (((NodeT.kids a0).take (Int.toNat xvs8)).drop 0)) ++ ([(⟨(NodeT.kind a2), (NodeT.n a2), (NodeT.s a2), (NodeT.keys a2), (NodeT.kids a2)⟩ : NodeT)] : List NodeT)) ++ (((NodeT.kids a0).take (Int.toNat ((NodeT.kids a0).length : Int))).drop (Int.toNat xvs8)))⟩ : NodeT)])
                                    none)
                                  none)
                                none)
                              none)
                            none)
                          none)
                        none)
                      none)
                    none)
                  none)
                none)) a1 (NodeT.kind a0) (NodeT.n a0) (NodeT.s a0) (NodeT.keys a0) (NodeT.kids a0) (NodeT.kind a2) (NodeT.n a2) (NodeT.s a2) (NodeT.keys a2) (NodeT.kids a2) (NodeT.kind a0) (NodeT.n a0) (NodeT.s a0) (NodeT.keys a0) (NodeT.kids a0) n (0 : Int)))
          none)))
    none) := by
  refine Eq.trans (b := (cond (sm_node (eN a0))
    (cond ((NodeT.kind a0) != (5 : Int))
      (k [.d .node (eN a0)])
      (cond (((NodeT.keys a0).length : Int) != ((NodeT.kids a0).length : Int))
        (k [.d .node (eN a0)])
        (cond ((fun (x : NodeT) (_ : ByteArray) => sm_node x) (eN a0) a1)
          (cond (decide ((keyAt (eN a0) a1) ≥ (0 : Int)))
            (cond (sm_node (eN a2))
              (cond ((decide ((0 : Int) ≤ (keyAt (eN a0) a1))) && (decide ((keyAt (eN a0) a1) < ((NodeT.kids a0).length : Int))))
                (k [.d .node (⟨(NodeT.kind a0), (NodeT.n a0), (NodeT.s a0), (NodeT.keys a0), ((NodeT.kids a0).set (Int.toNat (keyAt (eN a0) a1)) (eN a2))⟩ : NodeT)])
                none)
              none)
            (iter (fun st k => ev f78e f78k n (cAt [1,1,1,1,1,1,0,0,0] f78c) st k) n ⟨[(1, .c (.one (.v (.string a1)))), (3, .c (.one (.pt 3 0))), (5, .c (.one (.pt 5 0))), (6, .c (.one (.pt 6 0))), (7, .c (.one (.pt 7 0))), (8, .c (.one (.v (.int .i64 (0 : Int)))))], [(3, ⟨.node, [.v (.int .i64 (NodeT.kind a0)), .v (.int .i64 (NodeT.n a0)), .v (.string (NodeT.s a0)), .ro .str (NodeT.keys a0), .ro .node (NodeT.kids a0)]⟩), (5, ⟨.node, [.v (.int .i64 (NodeT.kind a2)), .v (.int .i64 (NodeT.n a2)), .v (.string (NodeT.s a2)), .ro .str (NodeT.keys a2), .ro .node (NodeT.kids a2)]⟩), (6, ⟨.node, [.v (.int .i64 (0 : Int)), .v (.int .i64 (0 : Int)), .v (.string ByteArray.empty), .nl, .nl]⟩), (7, ⟨.node, [.v (.int .i64 (NodeT.kind a0)), .v (.int .i64 (NodeT.n a0)), .v (.string (NodeT.s a0)), .h 768 0 0 [], .h 769 0 0 []]⟩)], [(768, .live ⟨.str, .deep, 0, [], (NodeT.keys a0)⟩), (769, .live ⟨.node, .deep, 0, [], (NodeT.kids a0)⟩)]⟩ (f78K0 n (exitK f78e [.ro, .ro, .ro] [false] false [.cell 6 27] [27] [.d .node a0, .d .str a1, .d .node a2] k))))
          none)))
    none)) (by kernel_rfl) ?_
  simp only [f78L0_eq, f78K0_x0, f78K0_x1]
theorem f78_spec (a0 : NodeT) (a1 : ByteArray) (a2 : NodeT) (hg : gS3 a0 a1 a2 = true) : ∃ keep rounds, ∀ {R : Type} (k : List Dt → Option R), evFn f78e keep rounds f78c [.ro, .ro, .ro] [false] false [.cell 6 27] [27] [.d .node a0, .d .str a1, .d .node a2] k = k [.d .node (setK a0 a1 a2)] := by
  have hg3 := hg
  simp only [gS3, Bool.and_eq_true] at hg
  obtain ⟨hg, hs1, hx2⟩ := hg
  have hg0 := hg
  rw [sm_node_def] at hg
  simp only [Bool.and_eq_true] at hg
  obtain ⟨_, _, _, hke, hki⟩ := hg
  have nke := smL_len hke
  have nki := smL_len hki
  refine ⟨f78k, a0.keys.length + 1, fun {R} k => ?_⟩
  rw [f78_run]
  simp only [eta_node, eN_eq, hg0, hx2, cond_true]
  show _ = k [.d .node (setK a0 a1 a2)]
  cases h5 : a0.kind == (5 : Int)
  · rw [show (a0.kind != (5 : Int)) = true by simp only [bne, h5]; rfl]
    unfold setK isMapN; rw [h5]; rfl
  rw [show (a0.kind != (5 : Int)) = false by simp only [bne, h5]; rfl]
  cases hl : ((a0.keys.length : Int) == (a0.kids.length : Int))
  · rw [show ((a0.keys.length : Int) != (a0.kids.length : Int)) = true by simp only [bne, hl]; rfl]
    unfold setK isMapN; rw [h5, hl]; rfl
  rw [show ((a0.keys.length : Int) != (a0.kids.length : Int)) = false by simp only [bne, hl]; rfl]
  have hm : isMapN a0 = true := by unfold isMapN; rw [h5, hl]; rfl
  have hl := (isMapN_eq hm).2
  simp only [cond_false]
  by_cases hk : keyAt a0 a1 < 0
  · rw [setK_neg hm hk, decide_eq_false (show ¬ (keyAt a0 a1 ≥ 0) by omega)]
    simp only [cond_false]
    refine Eq.trans (loop_find (n := a0.keys.length) (F := fun m i => f78L0 (a0.keys.length + 1) _ _ a1 _ _ _ a0.keys a0.kids _ _ _ _ _ _ _ _ _ _ m i) (p := fun j => !(sLt (atI (t := .str) a0.keys j) a1)) (hit := fun i => k [.d .node (putKey a0 i a1 a2)]) (miss := k [.d .node (putKey a0 (a0.keys.length : Int) a1 a2)])
      (fun m j hj => ?_) (fun m => ?_) a0.keys.length 0 (a0.keys.length + 1) (by omega) (by omega)) ?_
    · obtain ⟨h1, h0, hw, ht⟩ := idx hj (by omega)
      have d0 : decide ((0 : Int) ≤ (j : Int)) = true := decide_eq_true (by omega)
      have d1 : decide ((j : Int) ≤ (a0.keys.length : Int)) = true := decide_eq_true (by omega)
      have d2 : decide ((j : Int) ≤ (a0.kids.length : Int)) = true := decide_eq_true (by omega)
      have d6 : decide ((a0.keys.length : Int) ≤ (a0.keys.length : Int)) = true := decide_eq_true (Int.le_refl _)
      have d7 : decide ((a0.kids.length : Int) ≤ (a0.kids.length : Int)) = true := decide_eq_true (Int.le_refl _)
      simp only [f78L0, h1, h0, hw, ht, Bool.and_self, cond_true]
      cases sLt (atI (t := .str) a0.keys j) a1
      · simp only [Bool.not_false, d0, d1, d2, d6, d7, Int.toNat_natCast, List.drop_zero, List.take_length, List.nil_append, limT nke, limT1 nke, limT1D nke, limT nki, limT1 nki, limT1D nki, Bool.and_self, cond_true]
        rfl
      · rfl
    · have d0 : decide ((0 : Int) ≤ (a0.keys.length : Int)) = true := decide_eq_true (by omega)
      have d1 : decide ((a0.keys.length : Int) ≤ (a0.keys.length : Int)) = true := decide_eq_true (by omega)
      have d2 : decide ((a0.keys.length : Int) ≤ (a0.kids.length : Int)) = true := decide_eq_true (by omega)
      have d6 : decide ((a0.keys.length : Int) ≤ (a0.keys.length : Int)) = true := decide_eq_true (Int.le_refl _)
      have d7 : decide ((a0.kids.length : Int) ≤ (a0.kids.length : Int)) = true := decide_eq_true (Int.le_refl _)
      have e1 := limT nke a0.keys.length
      have e2 := limT1 nke a0.keys.length
      have e3 := limT1D nke a0.keys.length a0.keys.length a1
      rw [List.take_length] at e1 e2 e3
      have e4 : putKey a0 (a0.keys.length : Int) a1 a2 = ⟨a0.kind, a0.n, a0.s, a0.keys ++ [a1] ++ a0.keys.drop a0.keys.length, a0.kids.take a0.keys.length ++ [a2] ++ a0.kids.drop a0.keys.length⟩ := by
        unfold putKey insL; rw [Int.toNat_natCast, List.take_length]
      simp only [f78L0, idxE, cond_false, e1, e2, e3, e4, d0, d1, d2, d6, d7, Int.toNat_natCast, List.drop_zero, List.take_length, List.nil_append, limT nke, limT1 nke, limT1D nke, limT nki, limT1 nki, limT1D nki, Bool.and_self, cond_true]
    · unfold comesAt
      cases firstN (fun j => !(sLt (atI (t := .str) a0.keys j) a1)) 0 a0.keys.length <;> rfl
  · rw [setK_pos hm hk, decide_eq_true (show keyAt a0 a1 ≥ 0 by omega)]
    obtain ⟨i, e, h1, h2⟩ := keyAt_bd a0 a1 hk
    obtain ⟨i1, i0, _, _⟩ := idx h2 (by omega)
    simp only [eta_node, eN_eq, e, i0, i1, Bool.and_self, cond_true]
    rfl

noncomputable def q78 : List Dt → Option (Bool × List Dt)
  | [.d .node a0, .d .str a1, .d .node a2] => some ((gS3 a0 a1 a2), [.d .node (setK a0 a1 a2)])
  | _ => none
noncomputable def s78 : Gm.Spec := Gm.Spec.of [.ro, .ro, .ro] [false] false q78
theorem good78 : Gm.Good Try.prog (78, s78) := by
  have hl : ∀ x ∈ [(41, s41), (85, s85)], Gm.Good Try.prog x := List.forall_mem_cons.2 ⟨good41, List.forall_mem_cons.2 ⟨good85, List.forall_mem_nil _⟩⟩
  refine ⟨⟨spec_ok (tab_ok.env hl) (tab.natl hl) Try.func78 (by kernel_rfl : Try.f78.body = some f78c) [27] (by kernel_rfl) ?_, _, Try.func78, by kernel_rfl, of_decide_eq_true (by kernel_rfl)⟩, Gm.Spec.of_natl _ _ _ _⟩
  intro ds outs h
  unfold q78 at h
  split at h
  · simp only [Option.some.injEq, Prod.mk.injEq] at h; obtain ⟨hg, h⟩ := h; cases h; exact f78_spec _ _ _ hg
  · cases h
/-! ### loop.example/g00465/spec.l22Into -/
noncomputable def f104c : Code := (Try.f104.body).getD .skip
def f104k : Nat → Kp := kat [⟨[1, 3, 5, 6], [], [], []⟩, ⟨[1, 5, 6, 7], [], [641], []⟩, ⟨[1, 5, 6, 7, 8], [], [], []⟩, ⟨[1, 6, 7, 8], [], [], []⟩, ⟨[6, 7], [], [], []⟩, ⟨[6], [], [], []⟩]
noncomputable def f104e : Env := tab.env [(41, s41)]
theorem f104_run {R : Type} (n : Nat) (k : List Dt → Option R) (a0 : NodeT) (a1 : Int) (a2 : NodeT) : evFn f104e f104k n f104c [.ro, .ro, .ro] [false] false [.cell 6 27] [27] [.d .node a0, .d (.i .i64) a1, .d .node a2] k =
    (cond (sm_node (eN a0))
    (cond ((decide ((0 : Int) ≤ a1)) && (decide (a1 ≤ ((NodeT.kids a0).length : Int))))
      (cond (Nat.ble (0 + (((NodeT.kids a0).take (Int.toNat a1)).drop 0).length) LIM)
        (cond (sm_node (eN a2))
          (cond (Nat.ble ((([] : List NodeT) ++ (((NodeT.kids a0).take (Int.toNat a1)).drop 0)).length + 1) LIM)
            (cond ((decide ((0 : Int) ≤ a1)) && ((decide (a1 ≤ ((NodeT.kids a0).length : Int))) && (decide (((NodeT.kids a0).length : Int) ≤ ((NodeT.kids a0).length : Int)))))
              (cond (Nat.ble (((([] : List NodeT) ++ (((NodeT.kids a0).take (Int.toNat a1)).drop 0)) ++ ([(eN a2)] : List NodeT)).length + (((NodeT.kids a0).take (Int.toNat ((NodeT.kids a0).length : Int))).drop (Int.toNat a1)).length) LIM)
                (k [.d .node (⟨(NodeT.kind a0), (NodeT.n a0), (NodeT.s a0), (NodeT.keys a0), (((([] : List NodeT) ++ (((NodeT.kids a0).take (Int.toNat a1)).drop 0)) ++ ([(eN a2)] : List NodeT)) ++ (((NodeT.kids a0).take (Int.toNat ((NodeT.kids a0).length : Int))).drop (Int.toNat a1)))⟩ : NodeT)])
                none)
              none)
            none)
          none)
        none)
      none)
    none) := by kernel_rfl
theorem f104_spec (a0 : NodeT) (a1 : Int) (a2 : NodeT) (hg : gInto a0 a1 a2 = true) : ∃ keep rounds, ∀ {R : Type} (k : List Dt → Option R), evFn f104e keep rounds f104c [.ro, .ro, .ro] [false] false [.cell 6 27] [27] [.d .node a0, .d (.i .i64) a1, .d .node a2] k = k [.d .node (putKid a0 a1 a2)] := by
  simp only [gInto, Bool.and_eq_true] at hg
  obtain ⟨hg, hx2, hi0, hi1⟩ := hg
  have hi0 : 0 ≤ a1 := of_decide_eq_true hi0
  have hi1 : a1 ≤ (a0.kids.length : Int) := of_decide_eq_true hi1
  obtain ⟨i, rfl⟩ := Int.eq_ofNat_of_zero_le hi0
  have hg0 := hg
  rw [sm_node_def] at hg
  simp only [Bool.and_eq_true] at hg
  obtain ⟨_, _, _, hke, hki⟩ := hg
  have nke := smL_len hke
  have nki := smL_len hki
  refine ⟨f104k, 0, fun {R} k => ?_⟩
  rw [f104_run]
  have d0 : decide ((0 : Int) ≤ (i : Int)) = true := decide_eq_true (by omega)
  have d2 : decide ((i : Int) ≤ (a0.kids.length : Int)) = true := decide_eq_true (by omega)
  have d7 : decide ((a0.kids.length : Int) ≤ (a0.kids.length : Int)) = true := decide_eq_true (Int.le_refl _)
  simp only [eta_node, eN_eq, hg0, hx2, d0, d2, d7, Int.toNat_natCast, List.drop_zero, List.take_length, List.nil_append, limT nki, limT1 nki, limT1D nki, Bool.and_self, cond_true]
  rfl

noncomputable def q104 : List Dt → Option (Bool × List Dt)
  | [.d .node a0, .d (.i .i64) a1, .d .node a2] => some ((gInto a0 a1 a2), [.d .node (putKid a0 a1 a2)])
  | _ => none
noncomputable def s104 : Gm.Spec := Gm.Spec.of [.ro, .ro, .ro] [false] false q104
theorem good104 : Gm.Good Try.prog (104, s104) := by
  have hl : ∀ x ∈ [(41, s41)], Gm.Good Try.prog x := List.forall_mem_cons.2 ⟨good41, List.forall_mem_nil _⟩
  refine ⟨⟨spec_ok (tab_ok.env hl) (tab.natl hl) Try.func104 (by kernel_rfl : Try.f104.body = some f104c) [27] (by kernel_rfl) ?_, _, Try.func104, by kernel_rfl, of_decide_eq_true (by kernel_rfl)⟩, Gm.Spec.of_natl _ _ _ _⟩
  intro ds outs h
  unfold q104 at h
  split at h
  · simp only [Option.some.injEq, Prod.mk.injEq] at h; obtain ⟨hg, h⟩ := h; cases h; exact f104_spec _ _ _ hg
  · cases h
/-! ### loop.example/g00465/spec.l22Last -/
noncomputable def f88c : Code := (Try.f88.body).getD .skip
def f88k : Nat → Kp := kat [⟨[1, 3, 5, 6], [], [], []⟩, ⟨[1, 3, 5, 6, 20], [], [], []⟩, ⟨[6, 7], [], [], []⟩, ⟨[1, 3, 5, 6, 27], [], [], []⟩, ⟨[6, 7], [], [], []⟩, ⟨[1, 3, 5, 6, 8], [], [], []⟩, ⟨[1, 3, 5, 6, 8, 34], [], [], []⟩, ⟨[1, 3, 5, 6, 8], [], [], []⟩, ⟨[1, 3, 5, 6, 8, 51], [], [], []⟩, ⟨[6, 7], [], [], []⟩, ⟨[6, 7], [], [], []⟩]
noncomputable def f88e : Env := tab.env [(41, s41), (59, s59), (78, s78), (104, s104)]
noncomputable def f88L0 {R : Type} (n : Nat) (x0 : Int → Int → ByteArray → (List ByteArray) → (List NodeT) → Option R) (x1 : Int → Bool → Option R) (vs1 : ByteArray) (vb3_0 : Int) (vb3_1 : Int) (vb3_2 : ByteArray) (vb3_3 : List ByteArray) (vb3_4 : List NodeT) (vb5_0 : Int) (vb5_1 : Int) (vb5_2 : ByteArray) (vb5_3 : List ByteArray) (vb5_4 : List NodeT) : Nat → Int → Option R
  | 0, _ => none
  | m + 1, vs8 =>
    (cond (decide (vs8 ≤ (vb3_4.length : Int)))
      (cond (okI vs8)
        (cond (sEq (digS vs8) vs1)
          (cond (gInto (⟨vb3_0, vb3_1, vb3_2, vb3_3, vb3_4⟩ : NodeT) vs8 (⟨vb5_0, vb5_1, vb5_2, vb5_3, vb5_4⟩ : NodeT))
            (x0 (NodeT.kind (putKid (⟨vb3_0, vb3_1, vb3_2, vb3_3, vb3_4⟩ : NodeT) vs8 (⟨vb5_0, vb5_1, vb5_2, vb5_3, vb5_4⟩ : NodeT))) (NodeT.n (putKid (⟨vb3_0, vb3_1, vb3_2, vb3_3, vb3_4⟩ : NodeT) vs8 (⟨vb5_0, vb5_1, vb5_2, vb5_3, vb5_4⟩ : NodeT))) (NodeT.s (putKid (⟨vb3_0, vb3_1, vb3_2, vb3_3, vb3_4⟩ : NodeT) vs8 (⟨vb5_0, vb5_1, vb5_2, vb5_3, vb5_4⟩ : NodeT))) (NodeT.keys (putKid (⟨vb3_0, vb3_1, vb3_2, vb3_3, vb3_4⟩ : NodeT) vs8 (⟨vb5_0, vb5_1, vb5_2, vb5_3, vb5_4⟩ : NodeT))) (NodeT.kids (putKid (⟨vb3_0, vb3_1, vb3_2, vb3_3, vb3_4⟩ : NodeT) vs8 (⟨vb5_0, vb5_1, vb5_2, vb5_3, vb5_4⟩ : NodeT))))
            none)
          (cond (sEq vs1 (bs [45]))
            (cond (vs8 == (vb3_4.length : Int))
              (cond (gInto (⟨vb3_0, vb3_1, vb3_2, vb3_3, vb3_4⟩ : NodeT) vs8 (⟨vb5_0, vb5_1, vb5_2, vb5_3, vb5_4⟩ : NodeT))
                (x0 (NodeT.kind (putKid (⟨vb3_0, vb3_1, vb3_2, vb3_3, vb3_4⟩ : NodeT) vs8 (⟨vb5_0, vb5_1, vb5_2, vb5_3, vb5_4⟩ : NodeT))) (NodeT.n (putKid (⟨vb3_0, vb3_1, vb3_2, vb3_3, vb3_4⟩ : NodeT) vs8 (⟨vb5_0, vb5_1, vb5_2, vb5_3, vb5_4⟩ : NodeT))) (NodeT.s (putKid (⟨vb3_0, vb3_1, vb3_2, vb3_3, vb3_4⟩ : NodeT) vs8 (⟨vb5_0, vb5_1, vb5_2, vb5_3, vb5_4⟩ : NodeT))) (NodeT.keys (putKid (⟨vb3_0, vb3_1, vb3_2, vb3_3, vb3_4⟩ : NodeT) vs8 (⟨vb5_0, vb5_1, vb5_2, vb5_3, vb5_4⟩ : NodeT))) (NodeT.kids (putKid (⟨vb3_0, vb3_1, vb3_2, vb3_3, vb3_4⟩ : NodeT) vs8 (⟨vb5_0, vb5_1, vb5_2, vb5_3, vb5_4⟩ : NodeT))))
                none)
              (f88L0 n x0 x1 vs1 vb3_0 vb3_1 vb3_2 vb3_3 vb3_4 vb5_0 vb5_1 vb5_2 vb5_3 vb5_4 m (IntKind.wrap .i64 (vs8 + (1 : Int)))))
            (f88L0 n x0 x1 vs1 vb3_0 vb3_1 vb3_2 vb3_3 vb3_4 vb5_0 vb5_1 vb5_2 vb5_3 vb5_4 m (IntKind.wrap .i64 (vs8 + (1 : Int))))))
        none)
      (x1 vs8 (decide (vs8 ≤ (vb3_4.length : Int)))))
theorem f88L0_b {R : Type} (n : Nat) (k' : Ex → St → Option R) (vs1 : ByteArray) (vs8 : Int) (vb3_0 : Int) (vb3_1 : Int) (vb3_2 : ByteArray) (vb3_3 : List ByteArray) (vb3_4 : List NodeT) (vb5_0 : Int) (vb5_1 : Int) (vb5_2 : ByteArray) (vb5_3 : List ByteArray) (vb5_4 : List NodeT) : ev f88e f88k n (cAt [1,1,1,0,1,0,0] f88c) ⟨[(1, .c (.one (.v (.string vs1)))), (3, .c (.one (.pt 3 0))), (5, .c (.one (.pt 5 0))), (6, .c (.one (.pt 6 0))), (8, .c (.one (.v (.int .i64 vs8))))], [(3, ⟨.node, [.v (.int .i64 vb3_0), .v (.int .i64 vb3_1), .v (.string vb3_2), .ro .str vb3_3, .ro .node vb3_4]⟩), (5, ⟨.node, [.v (.int .i64 vb5_0), .v (.int .i64 vb5_1), .v (.string vb5_2), .ro .str vb5_3, .ro .node vb5_4]⟩), (6, ⟨.node, [.v (.int .i64 (0 : Int)), .v (.int .i64 (0 : Int)), .v (.string ByteArray.empty), .nl, .nl]⟩)], []⟩ k' =
    (cond (decide (vs8 ≤ (vb3_4.length : Int)))
    (cond (okI vs8)
      (cond (sEq (digS vs8) vs1)
        (cond (gInto (⟨vb3_0, vb3_1, vb3_2, vb3_3, vb3_4⟩ : NodeT) vs8 (⟨vb5_0, vb5_1, vb5_2, vb5_3, vb5_4⟩ : NodeT))
          (k' .ret ⟨[(6, .c (.one (.pt 6 0))), (7, .c (.one (.v (.bool true))))], [(6, ⟨.node, [.v (.int .i64 (NodeT.kind (putKid (⟨vb3_0, vb3_1, vb3_2, vb3_3, vb3_4⟩ : NodeT) vs8 (⟨vb5_0, vb5_1, vb5_2, vb5_3, vb5_4⟩ : NodeT)))), .v (.int .i64 (NodeT.n (putKid (⟨vb3_0, vb3_1, vb3_2, vb3_3, vb3_4⟩ : NodeT) vs8 (⟨vb5_0, vb5_1, vb5_2, vb5_3, vb5_4⟩ : NodeT)))), .v (.string (NodeT.s (putKid (⟨vb3_0, vb3_1, vb3_2, vb3_3, vb3_4⟩ : NodeT) vs8 (⟨vb5_0, vb5_1, vb5_2, vb5_3, vb5_4⟩ : NodeT)))), .ro .str (NodeT.keys (putKid (⟨vb3_0, vb3_1, vb3_2, vb3_3, vb3_4⟩ : NodeT) vs8 (⟨vb5_0, vb5_1, vb5_2, vb5_3, vb5_4⟩ : NodeT))), .ro .node (NodeT.kids (putKid (⟨vb3_0, vb3_1, vb3_2, vb3_3, vb3_4⟩ : NodeT) vs8 (⟨vb5_0, vb5_1, vb5_2, vb5_3, vb5_4⟩ : NodeT)))]⟩)], []⟩)
          none)
        (cond (sEq vs1 (bs [45]))
          (cond (vs8 == (vb3_4.length : Int))
            (cond (gInto (⟨vb3_0, vb3_1, vb3_2, vb3_3, vb3_4⟩ : NodeT) vs8 (⟨vb5_0, vb5_1, vb5_2, vb5_3, vb5_4⟩ : NodeT))
              (k' .ret ⟨[(6, .c (.one (.pt 6 0))), (7, .c (.one (.v (.bool true))))], [(6, ⟨.node, [.v (.int .i64 (NodeT.kind (putKid (⟨vb3_0, vb3_1, vb3_2, vb3_3, vb3_4⟩ : NodeT) vs8 (⟨vb5_0, vb5_1, vb5_2, vb5_3, vb5_4⟩ : NodeT)))), .v (.int .i64 (NodeT.n (putKid (⟨vb3_0, vb3_1, vb3_2, vb3_3, vb3_4⟩ : NodeT) vs8 (⟨vb5_0, vb5_1, vb5_2, vb5_3, vb5_4⟩ : NodeT)))), .v (.string (NodeT.s (putKid (⟨vb3_0, vb3_1, vb3_2, vb3_3, vb3_4⟩ : NodeT) vs8 (⟨vb5_0, vb5_1, vb5_2, vb5_3, vb5_4⟩ : NodeT)))), .ro .str (NodeT.keys (putKid (⟨vb3_0, vb3_1, vb3_2, vb3_3, vb3_4⟩ : NodeT) vs8 (⟨vb5_0, vb5_1, vb5_2, vb5_3, vb5_4⟩ : NodeT))), .ro .node (NodeT.kids (putKid (⟨vb3_0, vb3_1, vb3_2, vb3_3, vb3_4⟩ : NodeT) vs8 (⟨vb5_0, vb5_1, vb5_2, vb5_3, vb5_4⟩ : NodeT)))]⟩)], []⟩)
              none)
            (k' .normal ⟨[(1, .c (.one (.v (.string vs1)))), (3, .c (.one (.pt 3 0))), (5, .c (.one (.pt 5 0))), (6, .c (.one (.pt 6 0))), (8, .c (.one (.v (.int .i64 (IntKind.wrap .i64 (vs8 + (1 : Int)))))))], [(3, ⟨.node, [.v (.int .i64 vb3_0), .v (.int .i64 vb3_1), .v (.string vb3_2), .ro .str vb3_3, .ro .node vb3_4]⟩), (5, ⟨.node, [.v (.int .i64 vb5_0), .v (.int .i64 vb5_1), .v (.string vb5_2), .ro .str vb5_3, .ro .node vb5_4]⟩), (6, ⟨.node, [.v (.int .i64 (0 : Int)), .v (.int .i64 (0 : Int)), .v (.string ByteArray.empty), .nl, .nl]⟩)], []⟩))
          (k' .normal ⟨[(1, .c (.one (.v (.string vs1)))), (3, .c (.one (.pt 3 0))), (5, .c (.one (.pt 5 0))), (6, .c (.one (.pt 6 0))), (8, .c (.one (.v (.int .i64 (IntKind.wrap .i64 (vs8 + (1 : Int)))))))], [(3, ⟨.node, [.v (.int .i64 vb3_0), .v (.int .i64 vb3_1), .v (.string vb3_2), .ro .str vb3_3, .ro .node vb3_4]⟩), (5, ⟨.node, [.v (.int .i64 vb5_0), .v (.int .i64 vb5_1), .v (.string vb5_2), .ro .str vb5_3, .ro .node vb5_4]⟩), (6, ⟨.node, [.v (.int .i64 (0 : Int)), .v (.int .i64 (0 : Int)), .v (.string ByteArray.empty), .nl, .nl]⟩)], []⟩)))
      none)
    (k' (.exit 0) ⟨[(1, .c (.one (.v (.string vs1)))), (3, .c (.one (.pt 3 0))), (5, .c (.one (.pt 5 0))), (6, .c (.one (.pt 6 0))), (8, .c (.one (.v (.int .i64 vs8)))), (34, .c (.one (.v (.bool (decide (vs8 ≤ (vb3_4.length : Int)))))))], [(3, ⟨.node, [.v (.int .i64 vb3_0), .v (.int .i64 vb3_1), .v (.string vb3_2), .ro .str vb3_3, .ro .node vb3_4]⟩), (5, ⟨.node, [.v (.int .i64 vb5_0), .v (.int .i64 vb5_1), .v (.string vb5_2), .ro .str vb5_3, .ro .node vb5_4]⟩), (6, ⟨.node, [.v (.int .i64 (0 : Int)), .v (.int .i64 (0 : Int)), .v (.string ByteArray.empty), .nl, .nl]⟩)], []⟩)) := by kernel_rfl
theorem f88L0_eq {R : Type} (n : Nat) (k' : Ex → St → Option R) (vs1 : ByteArray) (vb3_0 : Int) (vb3_1 : Int) (vb3_2 : ByteArray) (vb3_3 : List ByteArray) (vb3_4 : List NodeT) (vb5_0 : Int) (vb5_1 : Int) (vb5_2 : ByteArray) (vb5_3 : List ByteArray) (vb5_4 : List NodeT) : ∀ (m : Nat) (vs8 : Int), iter (fun st k => ev f88e f88k n (cAt [1,1,1,0,1,0,0] f88c) st k) m ⟨[(1, .c (.one (.v (.string vs1)))), (3, .c (.one (.pt 3 0))), (5, .c (.one (.pt 5 0))), (6, .c (.one (.pt 6 0))), (8, .c (.one (.v (.int .i64 vs8))))], [(3, ⟨.node, [.v (.int .i64 vb3_0), .v (.int .i64 vb3_1), .v (.string vb3_2), .ro .str vb3_3, .ro .node vb3_4]⟩), (5, ⟨.node, [.v (.int .i64 vb5_0), .v (.int .i64 vb5_1), .v (.string vb5_2), .ro .str vb5_3, .ro .node vb5_4]⟩), (6, ⟨.node, [.v (.int .i64 (0 : Int)), .v (.int .i64 (0 : Int)), .v (.string ByteArray.empty), .nl, .nl]⟩)], []⟩ k' = f88L0 n (fun (xvb6_0 : Int) (xvb6_1 : Int) (xvb6_2 : ByteArray) (xvb6_3 : List ByteArray) (xvb6_4 : List NodeT) => k' .ret ⟨[(6, .c (.one (.pt 6 0))), (7, .c (.one (.v (.bool true))))], [(6, ⟨.node, [.v (.int .i64 xvb6_0), .v (.int .i64 xvb6_1), .v (.string xvb6_2), .ro .str xvb6_3, .ro .node xvb6_4]⟩)], []⟩) (fun (xvs8 : Int) (xvs34 : Bool) => k' (.exit 0) ⟨[(1, .c (.one (.v (.string vs1)))), (3, .c (.one (.pt 3 0))), (5, .c (.one (.pt 5 0))), (6, .c (.one (.pt 6 0))), (8, .c (.one (.v (.int .i64 xvs8)))), (34, .c (.one (.v (.bool xvs34))))], [(3, ⟨.node, [.v (.int .i64 vb3_0), .v (.int .i64 vb3_1), .v (.string vb3_2), .ro .str vb3_3, .ro .node vb3_4]⟩), (5, ⟨.node, [.v (.int .i64 vb5_0), .v (.int .i64 vb5_1), .v (.string vb5_2), .ro .str vb5_3, .ro .node vb5_4]⟩), (6, ⟨.node, [.v (.int .i64 (0 : Int)), .v (.int .i64 (0 : Int)), .v (.string ByteArray.empty), .nl, .nl]⟩)], []⟩) vs1 vb3_0 vb3_1 vb3_2 vb3_3 vb3_4 vb5_0 vb5_1 vb5_2 vb5_3 vb5_4 m vs8 := by
  intro m; induction m with
  | zero => intros; rfl
  | succ m ih =>
    intro vs8
    simp only [iter]
    rw [f88L0_b]
    simp only [ih, f88L0]

noncomputable def f88K0 {R : Type} (n : Nat) (k' : Ex → St → Option R) : Ex → St → Option R := (blockK 0 (seqK f88e f88k n (cAt [1,1,1,1] f88c) k'))
theorem f88K0_x0 {R : Type} (n : Nat) (k : List Dt → Option R) (a0 : NodeT) (a1 : ByteArray) (a2 : NodeT) (xvb6_0 : Int) (xvb6_1 : Int) (xvb6_2 : ByteArray) (xvb6_3 : List ByteArray) (xvb6_4 : List NodeT) : f88K0 n (exitK f88e [.ro, .ro, .ro] [false, false] false [.cell 6 27, .tmp 7] [27, 4] [.d .node a0, .d .str a1, .d .node a2] k) .ret ⟨[(6, .c (.one (.pt 6 0))), (7, .c (.one (.v (.bool true))))], [(6, ⟨.node, [.v (.int .i64 xvb6_0), .v (.int .i64 xvb6_1), .v (.string xvb6_2), .ro .str xvb6_3, .ro .node xvb6_4]⟩)], []⟩ =
    (k [.d .node (⟨xvb6_0, xvb6_1, xvb6_2, xvb6_3, xvb6_4⟩ : NodeT), .d .bool true]) := by kernel_rfl
theorem f88K0_x1 {R : Type} (n : Nat) (k : List Dt → Option R) (a0 : NodeT) (a1 : ByteArray) (a2 : NodeT) (vs1 : ByteArray) (vb3_0 : Int) (vb3_1 : Int) (vb3_2 : ByteArray) (vb3_3 : List ByteArray) (vb3_4 : List NodeT) (vb5_0 : Int) (vb5_1 : Int) (vb5_2 : ByteArray) (vb5_3 : List ByteArray) (vb5_4 : List NodeT) (xvs8 : Int) (xvs34 : Bool) : f88K0 n (exitK f88e [.ro, .ro, .ro] [false, false] false [.cell 6 27, .tmp 7] [27, 4] [.d .node a0, .d .str a1, .d .node a2] k) (.exit 0) ⟨[(1, .c (.one (.v (.string vs1)))), (3, .c (.one (.pt 3 0))), (5, .c (.one (.pt 5 0))), (6, .c (.one (.pt 6 0))), (8, .c (.one (.v (.int .i64 xvs8)))), (34, .c (.one (.v (.bool xvs34))))], [(3, ⟨.node, [.v (.int .i64 vb3_0), .v (.int .i64 vb3_1), .v (.string vb3_2), .ro .str vb3_3, .ro .node vb3_4]⟩), (5, ⟨.node, [.v (.int .i64 vb5_0), .v (.int .i64 vb5_1), .v (.string vb5_2), .ro .str vb5_3, .ro .node vb5_4]⟩), (6, ⟨.node, [.v (.int .i64 (0 : Int)), .v (.int .i64 (0 : Int)), .v (.string ByteArray.empty), .nl, .nl]⟩)], []⟩ =
    (cond (sm_node (⟨vb3_0, vb3_1, vb3_2, vb3_3, vb3_4⟩ : NodeT))
    (k [.d .node (⟨vb3_0, vb3_1, vb3_2, vb3_3, vb3_4⟩ : NodeT), .d .bool false])
    none) := by kernel_rfl

theorem f88_run {R : Type} (n : Nat) (k : List Dt → Option R) (a0 : NodeT) (a1 : ByteArray) (a2 : NodeT) : evFn f88e f88k n f88c [.ro, .ro, .ro] [false, false] false [.cell 6 27, .tmp 7] [27, 4] [.d .node a0, .d .str a1, .d .node a2] k =
    (cond ((NodeT.kind a0) == (5 : Int))
    (cond (((NodeT.keys a0).length : Int) == ((NodeT.kids a0).length : Int))
      (cond (gS3 (eN a0) a1 (eN a2))
        (k [.d .node (eN (setK (eN a0) a1 (eN a2))), .d .bool true])
        none)
      (cond ((NodeT.kind a0) != (4 : Int))
        (cond (sm_node (eN a0))
          (k [.d .node (eN a0), .d .bool false])
          none)
        (f88L0 n (fun (xvb6_0 : Int) (xvb6_1 : Int) (xvb6_2 : ByteArray) (xvb6_3 : List ByteArray) (xvb6_4 : List NodeT) =>
          (k [.d .node (⟨xvb6_0, xvb6_1, xvb6_2, xvb6_3, xvb6_4⟩ : NodeT), .d .bool true])) (fun (xvs8 : Int) (xvs34 : Bool) =>
          (cond (sm_node (⟨(NodeT.kind a0), (NodeT.n a0), (NodeT.s a0), (NodeT.keys a0), (NodeT.kids a0)⟩ : NodeT))
            (k [.d .node (eN a0), .d .bool false])
            none)) a1 (NodeT.kind a0) (NodeT.n a0) (NodeT.s a0) (NodeT.keys a0) (NodeT.kids a0) (NodeT.kind a2) (NodeT.n a2) (NodeT.s a2) (NodeT.keys a2) (NodeT.kids a2) n (0 : Int))))
    (cond ((NodeT.kind a0) != (4 : Int))
      (cond (sm_node (eN a0))
        (k [.d .node (eN a0), .d .bool false])
        none)
      (f88L0 n (fun (xvb6_0 : Int) (xvb6_1 : Int) (xvb6_2 : ByteArray) (xvb6_3 : List ByteArray) (xvb6_4 : List NodeT) =>
        (k [.d .node (⟨xvb6_0, xvb6_1, xvb6_2, xvb6_3, xvb6_4⟩ : NodeT), .d .bool true])) (fun (xvs8 : Int) (xvs34 : Bool) =>
        (cond (sm_node (⟨(NodeT.kind a0), (NodeT.n a0), (NodeT.s a0), (NodeT.keys a0), (NodeT.kids a0)⟩ : NodeT))
          (k [.d .node (eN a0), .d .bool false])
          none)) a1 (NodeT.kind a0) (NodeT.n a0) (NodeT.s a0) (NodeT.keys a0) (NodeT.kids a0) (NodeT.kind a2) (NodeT.n a2) (NodeT.s a2) (NodeT.keys a2) (NodeT.kids a2) n (0 : Int)))) := by
  refine Eq.trans (b := (cond ((NodeT.kind a0) == (5 : Int))
    (cond (((NodeT.keys a0).length : Int) == ((NodeT.kids a0).length : Int))
      (cond (gS3 (eN a0) a1 (eN a2))
        (k [.d .node (eN (setK (eN a0) a1 (eN a2))), .d .bool true])
        none)
      (cond ((NodeT.kind a0) != (4 : Int))
        (cond (sm_node (eN a0))
          (k [.d .node (eN a0), .d .bool false])
          none)
        (iter (fun st k => ev f88e f88k n (cAt [1,1,1,0,1,0,0] f88c) st k) n ⟨[(1, .c (.one (.v (.string a1)))), (3, .c (.one (.pt 3 0))), (5, .c (.one (.pt 5 0))), (6, .c (.one (.pt 6 0))), (8, .c (.one (.v (.int .i64 (0 : Int)))))], [(3, ⟨.node, [.v (.int .i64 (NodeT.kind a0)), .v (.int .i64 (NodeT.n a0)), .v (.string (NodeT.s a0)), .ro .str (NodeT.keys a0), .ro .node (NodeT.kids a0)]⟩), (5, ⟨.node, [.v (.int .i64 (NodeT.kind a2)), .v (.int .i64 (NodeT.n a2)), .v (.string (NodeT.s a2)), .ro .str (NodeT.keys a2), .ro .node (NodeT.kids a2)]⟩), (6, ⟨.node, [.v (.int .i64 (0 : Int)), .v (.int .i64 (0 : Int)), .v (.string ByteArray.empty), .nl, .nl]⟩)], []⟩ (f88K0 n (exitK f88e [.ro, .ro, .ro] [false, false] false [.cell 6 27, .tmp 7] [27, 4] [.d .node a0, .d .str a1, .d .node a2] k)))))
    (cond ((NodeT.kind a0) != (4 : Int))
      (cond (sm_node (eN a0))
        (k [.d .node (eN a0), .d .bool false])
        none)
      (iter (fun st k => ev f88e f88k n (cAt [1,1,1,0,1,0,0] f88c) st k) n ⟨[(1, .c (.one (.v (.string a1)))), (3, .c (.one (.pt 3 0))), (5, .c (.one (.pt 5 0))), (6, .c (.one (.pt 6 0))), (8, .c (.one (.v (.int .i64 (0 : Int)))))], [(3, ⟨.node, [.v (.int .i64 (NodeT.kind a0)), .v (.int .i64 (NodeT.n a0)), .v (.string (NodeT.s a0)), .ro .str (NodeT.keys a0), .ro .node (NodeT.kids a0)]⟩), (5, ⟨.node, [.v (.int .i64 (NodeT.kind a2)), .v (.int .i64 (NodeT.n a2)), .v (.string (NodeT.s a2)), .ro .str (NodeT.keys a2), .ro .node (NodeT.kids a2)]⟩), (6, ⟨.node, [.v (.int .i64 (0 : Int)), .v (.int .i64 (0 : Int)), .v (.string ByteArray.empty), .nl, .nl]⟩)], []⟩ (f88K0 n (exitK f88e [.ro, .ro, .ro] [false, false] false [.cell 6 27, .tmp 7] [27, 4] [.d .node a0, .d .str a1, .d .node a2] k)))))) (by kernel_rfl) ?_
  simp only [f88L0_eq, f88K0_x0, f88K0_x1]
theorem f88_spec (a0 : NodeT) (a1 : ByteArray) (a2 : NodeT) (hg : gS3 a0 a1 a2 = true) : ∃ keep rounds, ∀ {R : Type} (k : List Dt → Option R), evFn f88e keep rounds f88c [.ro, .ro, .ro] [false, false] false [.cell 6 27, .tmp 7] [27, 4] [.d .node a0, .d .str a1, .d .node a2] k = k [.d .node ((sLast a0 a1 a2).1), .d .bool ((sLast a0 a1 a2).2)] := by
  have hg3 := hg
  simp only [gS3, Bool.and_eq_true] at hg
  obtain ⟨hg, hs1, hx2⟩ := hg
  have hg0 := hg
  rw [sm_node_def] at hg
  simp only [Bool.and_eq_true] at hg
  obtain ⟨_, _, _, hke, hki⟩ := hg
  have nke := smL_len hke
  have nki := smL_len hki
  refine ⟨f88k, a0.kids.length + 2, fun {R} k => ?_⟩
  rw [f88_run]
  simp only [eta_node, eN_eq, hg0, hg3, cond_true]
  show _ = k [.d .node (sLast a0 a1 a2).1, .d .bool (sLast a0 a1 a2).2]
  unfold sLast
  rw [putPtr_one]
  unfold putLast
  cases h5 : a0.kind == (5 : Int)
  rotate_left
  · obtain ⟨n4, e4⟩ := bne4 h5
    cases hl : ((a0.keys.length : Int) == (a0.kids.length : Int))
    · rw [show isMapN a0 = false by unfold isMapN; rw [h5, hl]; rfl, n4, e4]; rfl
    · rw [show isMapN a0 = true by unfold isMapN; rw [h5, hl]; rfl]; rfl
  rw [show isMapN a0 = false by unfold isMapN; rw [h5]; rfl]
  simp only [cond_false]
  cases h4 : a0.kind == (4 : Int)
  · rw [show (a0.kind != (4 : Int)) = true by simp only [bne, h4]; rfl]; rfl
  rw [show (a0.kind != (4 : Int)) = false by simp only [bne, h4]; rfl]
  simp only [cond_true, cond_false]
  refine Eq.trans (loop_find (n := a0.kids.length + 1) (F := fun m i => f88L0 (a0.kids.length + 2) _ _ a1 _ _ _ _ a0.kids _ _ _ _ _ m i) (p := slotP a1 a0.kids.length) (hit := fun i => k [.d .node (putKid a0 i a2), .d .bool true]) (miss := k [.d .node a0, .d .bool false])
    (fun m j hj => ?_) (fun m => ?_) (a0.kids.length + 1) 0 (a0.kids.length + 2) (by omega) (by omega)) ?_
  · have h1 : decide ((j : Int) ≤ (a0.kids.length : Int)) = true := decide_eq_true (by omega)
    have h2 : okI (j : Int) = true := okI_of (by omega) (by omega)
    have h3 : gInto a0 (j : Int) a2 = true := by
      simp only [gInto, Bool.and_eq_true, decide_eq_true_eq]; exact ⟨hg0, hx2, by omega, by omega⟩
    have hw : IntKind.wrap .i64 ((j : Int) + 1) = ((j + 1 : Nat) : Int) := by rw [wrap_id (by omega) (by omega)]; rfl
    simp only [f88L0, eta_node, eN_eq, h1, h2, h3, hw, cond_true]
    unfold slotP
    rw [show sEq a1 (bs [45]) = sEq a1 dash from rfl]
    cases sEq (digS (j : Int)) a1
    · cases sEq a1 dash
      · rfl
      · cases ((j : Int) == (a0.kids.length : Int)) <;> rfl
    · rfl
  · have h1 : decide (((a0.kids.length + 1 : Nat) : Int) ≤ (a0.kids.length : Int)) = false := decide_eq_false (by omega)
    simp only [f88L0, h1, cond_false]
  · unfold slotAt
    cases hf : firstN (slotP a1 a0.kids.length) 0 (a0.kids.length + 1) with
    | none => rfl
    | some i =>
      rw [decide_eq_false (show ¬ (plc (some i) < 0) by show ¬ ((i : Int) < 0); omega)]
      rfl

noncomputable def q88 : List Dt → Option (Bool × List Dt)
  | [.d .node a0, .d .str a1, .d .node a2] => some ((gS3 a0 a1 a2), [.d .node ((sLast a0 a1 a2).1), .d .bool ((sLast a0 a1 a2).2)])
  | _ => none
noncomputable def s88 : Gm.Spec := Gm.Spec.of [.ro, .ro, .ro] [false, false] false q88
theorem good88 : Gm.Good Try.prog (88, s88) := by
  have hl : ∀ x ∈ [(41, s41), (59, s59), (78, s78), (104, s104)], Gm.Good Try.prog x := List.forall_mem_cons.2 ⟨good41, List.forall_mem_cons.2 ⟨good59, List.forall_mem_cons.2 ⟨good78, List.forall_mem_cons.2 ⟨good104, List.forall_mem_nil _⟩⟩⟩⟩
  refine ⟨⟨spec_ok (tab_ok.env hl) (tab.natl hl) Try.func88 (by kernel_rfl : Try.f88.body = some f88c) [27, 4] (by kernel_rfl) ?_, _, Try.func88, by kernel_rfl, of_decide_eq_true (by kernel_rfl)⟩, Gm.Spec.of_natl _ _ _ _⟩
  intro ds outs h
  unfold q88 at h
  split at h
  · simp only [Option.some.injEq, Prod.mk.injEq] at h; obtain ⟨hg, h⟩ := h; cases h; exact f88_spec _ _ _ hg
  · cases h
noncomputable def q47 : List Dt → Option (Bool × List Dt)
  | [.d .node a0, .d (.sl .str) a1, .d .node a2] => some ((gP a0 a1 a2), [.d .node ((putPtr a0 a1 a2).1), .d .bool ((putPtr a0 a1 a2).2)])
  | _ => none
noncomputable def mu47 : List Dt → Nat
  | [.d .node a0, .d (.sl .str) a1, .d .node a2] => (fun (_ : NodeT) (p : List ByteArray) (_ : NodeT) => p.length) a0 a1 a2
  | _ => 0
noncomputable def s47r (N : Nat) : Gm.Spec := Gm.Spec.of [.ro, .ro, .ro] [false, false] false (qlt mu47 N q47)
/-! ### loop.example/g00465/spec.PutPtr -/
noncomputable def f47c : Code := (Try.f47.body).getD .skip
def f47k : Nat → Kp := kat [⟨[1, 3, 5, 6], [], [], []⟩, ⟨[1, 3, 5, 6, 16], [], [], []⟩, ⟨[6, 7], [], [], []⟩, ⟨[1, 3, 5, 6, 21], [], [], []⟩, ⟨[6, 8, 9], [], [], []⟩, ⟨[6, 7], [], [], []⟩, ⟨[1, 3, 5, 6, 10], [], [], []⟩, ⟨[1, 3, 5, 6, 10, 46], [], [], []⟩, ⟨[6, 7], [], [], []⟩, ⟨[3, 6, 10, 11, 12], [], [], []⟩, ⟨[6, 10, 11, 12, 13], [], [], []⟩, ⟨[6, 10, 11, 12, 13, 63], [], [], []⟩, ⟨[6, 12, 13], [], [], []⟩, ⟨[6, 7], [], [], []⟩]
noncomputable def f47e (N : Nat) : Env := tab.env [(40, s40), (41, s41), (47, s47r N), (88, s88)]
noncomputable def f47v0 (a0 : NodeT) (a1 : List ByteArray) (a2 : NodeT) : List NodeT :=
  ((NodeT.kids a0).set (Int.toNat (kidAt (eN a0) (atI (t := .str) a1 0))) (eN ((putPtr (eN (atI (t := .node) (NodeT.kids a0) (Int.toNat (kidAt (eN a0) (atI (t := .str) a1 0))))) ((a1.take (Int.toNat (a1.length : Int))).drop 1) (eN a2)).1)))
theorem f47_run {R : Type} (N : Nat) (n : Nat) (k : List Dt → Option R) (a0 : NodeT) (a1 : List ByteArray) (a2 : NodeT) : evFn (f47e N) f47k n f47c [.ro, .ro, .ro] [false, false] false [.cell 6 27, .tmp 7] [27, 4] [.d .node a0, .d (.sl .str) a1, .d .node a2] k =
    (cond ((a1.length : Int) == (0 : Int))
    (cond (sm_node (eN a2))
      (k [.d .node (eN a2), .d .bool true])
      none)
    (cond ((a1.length : Int) == (1 : Int))
      (cond (decide ((0 : Int) < (a1.length : Int)))
        (cond (gS3 (eN a0) (atI (t := .str) a1 0) (eN a2))
          (k [.d .node (eN ((sLast (eN a0) (atI (t := .str) a1 0) (eN a2)).1)), .d .bool ((sLast (eN a0) (atI (t := .str) a1 0) (eN a2)).2)])
          none)
        none)
      (cond (decide ((0 : Int) < (a1.length : Int)))
        (cond ((fun (x : NodeT) (_ : ByteArray) => sm_node x) (eN a0) (atI (t := .str) a1 0))
          (cond (decide ((kidAt (eN a0) (atI (t := .str) a1 0)) < (0 : Int)))
            (cond (sm_node (eN a0))
              (k [.d .node (eN a0), .d .bool false])
              none)
            (cond (decide ((kidAt (eN a0) (atI (t := .str) a1 0)) ≥ ((NodeT.kids a0).length : Int)))
              (cond (sm_node (eN a0))
                (k [.d .node (eN a0), .d .bool false])
                none)
              (cond ((decide ((0 : Int) ≤ (kidAt (eN a0) (atI (t := .str) a1 0)))) && (decide ((kidAt (eN a0) (atI (t := .str) a1 0)) < ((NodeT.kids a0).length : Int))))
                (cond ((decide ((1 : Int) ≤ (a1.length : Int))) && (decide ((a1.length : Int) ≤ (a1.length : Int))))
                  (cond ((gP (eN (atI (t := .node) (NodeT.kids a0) (Int.toNat (kidAt (eN a0) (atI (t := .str) a1 0))))) ((a1.take (Int.toNat (a1.length : Int))).drop 1) (eN a2)) && (Nat.blt ((fun (_ : NodeT) (p : List ByteArray) (_ : NodeT) => p.length) (eN (atI (t := .node) (NodeT.kids a0) (Int.toNat (kidAt (eN a0) (atI (t := .str) a1 0))))) ((a1.take (Int.toNat (a1.length : Int))).drop 1) (eN a2)) N))
                    (cond (sm_node (eN a0))
                      (cond ((putPtr (eN (atI (t := .node) (NodeT.kids a0) (Int.toNat (kidAt (eN a0) (atI (t := .str) a1 0))))) ((a1.take (Int.toNat (a1.length : Int))).drop 1) (eN a2)).2)
                        (cond ((decide ((0 : Int) ≤ (kidAt (eN a0) (atI (t := .str) a1 0)))) && (decide ((kidAt (eN a0) (atI (t := .str) a1 0)) < ((NodeT.kids a0).length : Int))))
                          (k [.d .node (⟨(NodeT.kind a0), (NodeT.n a0), (NodeT.s a0), (NodeT.keys a0), (f47v0 a0 a1 a2)⟩ : NodeT), .d .bool ((putPtr (eN (atI (t := .node) (NodeT.kids a0) (Int.toNat (kidAt (eN a0) (atI (t := .str) a1 0))))) ((a1.take (Int.toNat (a1.length : Int))).drop 1) (eN a2)).2)])
                          none)
                        (k [.d .node (eN a0), .d .bool ((putPtr (eN (atI (t := .node) (NodeT.kids a0) (Int.toNat (kidAt (eN a0) (atI (t := .str) a1 0))))) ((a1.take (Int.toNat (a1.length : Int))).drop 1) (eN a2)).2)]))
                      none)
                    none)
                  none)
                none)))
          none)
        none))) := by kernel_rfl
theorem f47_spec (N : Nat) (a0 : NodeT) (a1 : List ByteArray) (a2 : NodeT) (hg : gP a0 a1 a2 = true) (hm : mu47 [.d .node a0, .d (.sl .str) a1, .d .node a2] = N) : ∃ keep rounds, ∀ {R : Type} (k : List Dt → Option R), evFn (f47e N) keep rounds f47c [.ro, .ro, .ro] [false, false] false [.cell 6 27, .tmp 7] [27, 4] [.d .node a0, .d (.sl .str) a1, .d .node a2] k = k [.d .node ((putPtr a0 a1 a2).1), .d .bool ((putPtr a0 a1 a2).2)] := by
  have hm : a1.length = N := hm
  subst hm
  simp only [gP, Bool.and_eq_true] at hg
  obtain ⟨hg, hpa, hx2⟩ := hg
  have hg0 := hg
  rw [sm_node_def] at hg
  simp only [Bool.and_eq_true] at hg
  obtain ⟨_, _, _, hke, hki⟩ := hg
  have nke := smL_len hke
  have nki := smL_len hki
  refine ⟨f47k, 0, fun {R} k => ?_⟩
  rw [f47_run]
  show _ = k [.d .node (putPtr a0 a1 a2).1, .d .bool (putPtr a0 a1 a2).2]
  match a1, hpa with
  | [], _ =>
    simp only [eta_node, eN_eq, hx2]
    rfl
  | [p], hpa =>
    have l0 : decide ((0 : Int) < (([p] : List ByteArray).length : Int)) = true := rfl
    have l5 : atI (t := .str) [p] 0 = p := rfl
    have l7 : ((([p] : List ByteArray).length : Int) == (0 : Int)) = false := rfl
    have l8 : ((([p] : List ByteArray).length : Int) == (1 : Int)) = true := rfl
    have hg3 : gS3 a0 p a2 = true := by simp only [gS3, Bool.and_eq_true]; exact ⟨hg0, smL_head hpa, hx2⟩
    simp only [eta_node, eN_eq, l0, l5, l7, l8, hg3, cond_true, cond_false]
    rfl
  | p :: q :: r, hpa =>
    have l0 : decide ((0 : Int) < ((p :: q :: r).length : Int)) = true := decide_eq_true (by simp only [List.length_cons]; omega)
    have l1 : (((p :: q :: r).length : Int) == (1 : Int)) = false := by rw [beq_eq_false_iff_ne]; simp only [List.length_cons]; omega
    have l2 : decide ((1 : Int) ≤ ((p :: q :: r).length : Int)) = true := decide_eq_true (by simp only [List.length_cons]; omega)
    have l3 : decide (((p :: q :: r).length : Int) ≤ ((p :: q :: r).length : Int)) = true := decide_eq_true (Int.le_refl _)
    have l4 : ((p :: q :: r).take (Int.toNat ((p :: q :: r).length : Int))).drop 1 = q :: r := by rw [Int.toNat_natCast, List.take_length]; rfl
    have l5 : atI (t := .str) (p :: q :: r) 0 = p := rfl
    have l6 : Nat.blt (q :: r).length (p :: q :: r).length = true := by rw [Nat.blt_eq]; simp only [List.length_cons]; omega
    have l7 : (((p :: q :: r).length : Int) == (0 : Int)) = false := by rw [beq_eq_false_iff_ne]; simp only [List.length_cons]; omega
    have l8 : decide (((p :: q :: r).length : Int) > (1 : Int)) = true := decide_eq_true (by simp only [List.length_cons]; omega)
    have hqr : smL smStr (q :: r) = true := smL_tail hpa
    simp only [eta_node, eN_eq, hg0, l0, l1, l5, l7, cond_true, cond_false]
    by_cases hk : kidAt a0 p < 0
    · rw [putPtr_no a0 p q r a2 hk, decide_eq_true hk]; rfl
    rw [putPtr_deep a0 p q r a2 hk]
    obtain ⟨i, e, h1⟩ := kidAt_bd hk
    obtain ⟨i1, i0, hw, it⟩ := idx h1 (by omega)
    have d1 : decide ((i : Int) ≥ (a0.kids.length : Int)) = false := decide_eq_false (by omega)
    have hx := atI_lt (t := .node) h1
    have hgk : gP (atI (t := .node) a0.kids i) (q :: r) a2 = true := by
      simp only [gP, Bool.and_eq_true]
      exact ⟨sm_kid hg0 (List.mem_of_getElem? hx), hqr, hx2⟩
    simp only [decide_eq_false hk, f47v0, eta_node, eN_eq, l2, l3, l4, l5, l6, hgk, e, i1, i0, it, d1, Bool.and_self, cond_true, cond_false]
    cases (putPtr (atI (t := .node) a0.kids i) (q :: r) a2).2 <;> rfl

noncomputable def s47 : Gm.Spec := Gm.Spec.of [.ro, .ro, .ro] [false, false] false q47
theorem good47 : Gm.Good Try.prog (47, s47) := by
  refine ⟨⟨spec_rec mu47 fun N hr => ?_, _, Try.func47, by kernel_rfl, of_decide_eq_true (by kernel_rfl)⟩, Gm.Spec.of_natl _ _ _ _⟩
  have hl : ∀ x ∈ [(40, s40), (41, s41), (47, s47r N), (88, s88)], Gm.Good Try.prog x := List.forall_mem_cons.2 ⟨good40, List.forall_mem_cons.2 ⟨good41, List.forall_mem_cons.2 ⟨⟨⟨hr, _, Try.func47, by kernel_rfl, of_decide_eq_true (by kernel_rfl)⟩, Gm.Spec.of_natl _ _ _ _⟩, List.forall_mem_cons.2 ⟨good88, List.forall_mem_nil _⟩⟩⟩⟩
  intro R
  refine spec_ok (E := f47e N) (tab_ok.env hl) (tab.natl hl) Try.func47 (by kernel_rfl : Try.f47.body = some f47c) [27, 4] (by kernel_rfl) ?_
  intro ds outs h
  obtain ⟨h, hm⟩ := qeq_some h
  unfold q47 at h
  split at h
  · simp only [Option.some.injEq, Prod.mk.injEq] at h; obtain ⟨hg, h⟩ := h; cases h; exact f47_spec N _ _ _ hg hm
  · cases h
/-! ### loop.example/g00465/impl.CutPtr -/
noncomputable def f87c : Code := (Try.f87.body).getD .skip
def f87k : Nat → Kp := kat [⟨[1, 2, 4], [], [], []⟩, ⟨[1, 2, 4, 8], [], [], []⟩, ⟨[4, 5], [], [], []⟩, ⟨[4, 5], [], [], []⟩]
noncomputable def f87e : Env := tab.env [(39, s39), (96, s96), (101, s101)]
theorem f87_run {R : Type} (n : Nat) (k : List Dt → Option R) (a0 : NodeT) (a1 : List ByteArray) : evFn f87e f87k n f87c [.ro, .ro] [false, false] true [.cell 4 27, .tmp 5] [27, 4] [.d .node a0, .d (.sl .str) a1] k =
    (cond ((a1.length : Int) == (0 : Int))
    (cond (sm_node (eN a0))
      (k [.d .node (eN a0), .d .bool false])
      none)
    (cond (gW (eN a0) a1)
      (k [.d .node (eN ((cutAt (eN a0) a1).1)), .d .bool ((cutAt (eN a0) a1).2)])
      none)) := by kernel_rfl
theorem f87_spec (a0 : NodeT) (a1 : List ByteArray) (hg : (sm_node a0 && smL smStr a1) = true) : ∃ keep rounds, ∀ {R : Type} (k : List Dt → Option R), evFn f87e keep rounds f87c [.ro, .ro] [false, false] true [.cell 4 27, .tmp 5] [27, 4] [.d .node a0, .d (.sl .str) a1] k = k [.d .node ((cutPtr a0 a1).1), .d .bool ((cutPtr a0 a1).2)] := by
  simp only [Bool.and_eq_true] at hg
  obtain ⟨hg, hpa⟩ := hg
  refine ⟨f87k, 0, fun {R} k => ?_⟩
  rw [f87_run]
  show _ = k [.d .node (cutPtr a0 a1).1, .d .bool (cutPtr a0 a1).2]
  unfold cutPtr
  cases a1 with
  | nil => simp only [eta_node, eN_eq, hg]; rfl
  | cons p r =>
    have hgw : gW a0 (p :: r) = true := by simp only [gW, Bool.and_eq_true]; exact ⟨hg, hpa, rfl⟩
    have l7 : (((p :: r).length : Int) == (0 : Int)) = false := by rw [beq_eq_false_iff_ne]; simp only [List.length_cons]; omega
    simp only [eta_node, eN_eq, hgw, l7, cond_true, cond_false]

noncomputable def q87 : List Dt → Option (Bool × List Dt)
  | [.d .node a0, .d (.sl .str) a1] => some (((fun (x : NodeT) (y : List ByteArray) => sm_node x && smL smStr y) a0 a1), [.d .node ((cutPtr a0 a1).1), .d .bool ((cutPtr a0 a1).2)])
  | _ => none
noncomputable def s87 : Gm.Spec := Gm.Spec.of [.ro, .ro] [false, false] true q87
theorem good87 : Gm.Good Try.prog (87, s87) := by
  have hl : ∀ x ∈ [(39, s39), (96, s96), (101, s101)], Gm.Good Try.prog x := List.forall_mem_cons.2 ⟨good39, List.forall_mem_cons.2 ⟨good96, List.forall_mem_cons.2 ⟨good101, List.forall_mem_nil _⟩⟩⟩
  refine ⟨⟨spec_ok (tab_ok.env hl) (tab.natl hl) Try.func87 (by kernel_rfl : Try.f87.body = some f87c) [27, 4] (by kernel_rfl) ?_, _, Try.func87, by kernel_rfl, of_decide_eq_true (by kernel_rfl)⟩, Gm.Spec.of_natl _ _ _ _⟩
  intro ds outs h
  unfold q87 at h
  split at h
  · simp only [Option.some.injEq, Prod.mk.injEq] at h; obtain ⟨hg, h⟩ := h; cases h; exact f87_spec _ _ hg
  · cases h
noncomputable def q48 : List Dt → Option (Bool × List Dt)
  | [.d .node a0, .d (.sl .str) a1] => some (((fun (x : NodeT) (y : List ByteArray) => sm_node x && smL smStr y) a0 a1), [.d .node ((cutPtr a0 a1).1), .d .bool ((cutPtr a0 a1).2)])
  | _ => none
noncomputable def mu48 : List Dt → Nat
  | [.d .node a0, .d (.sl .str) a1] => (fun (_ : NodeT) (p : List ByteArray) => p.length) a0 a1
  | _ => 0
noncomputable def s48r (N : Nat) : Gm.Spec := Gm.Spec.of [.ro, .ro] [false, false] false (qlt mu48 N q48)
/-! ### loop.example/g00465/spec.CutPtr -/
noncomputable def f48c : Code := (Try.f48.body).getD .skip
def f48k : Nat → Kp := kat [⟨[1, 2, 4], [], [], []⟩, ⟨[1, 2, 4, 6], [], [], []⟩, ⟨[1, 2, 4, 6, 14], [], [], []⟩, ⟨[4, 5], [], [], []⟩, ⟨[1, 2, 4, 6, 7], [], [], []⟩, ⟨[1, 2, 4, 6, 7, 29], [], [], []⟩, ⟨[4, 5], [], [], []⟩, ⟨[1, 2, 4, 6, 7, 33], [], [], []⟩, ⟨[4, 6, 7, 8, 9], [], [], []⟩, ⟨[4, 6, 7, 8, 9, 45], [], [], []⟩, ⟨[4, 6, 9], [], [], []⟩, ⟨[4, 5], [], [], []⟩, ⟨[1, 2, 4, 6, 7, 55], [], [705], []⟩, ⟨[4, 5], [], [], []⟩, ⟨[4, 6], [], [], []⟩, ⟨[4, 5], [], [], []⟩]
noncomputable def f48e (N : Nat) : Env := tab.env [(40, s40), (41, s41), (48, s48r N), (89, s89)]
noncomputable def f48v0 (a0 : NodeT) (a1 : List ByteArray) : List NodeT :=
  ((NodeT.kids a0).set (Int.toNat (kidAt (eN a0) (atI (t := .str) a1 0))) (eN ((cutPtr (eN (atI (t := .node) (NodeT.kids a0) (Int.toNat (kidAt (eN a0) (atI (t := .str) a1 0))))) ((a1.take (Int.toNat (a1.length : Int))).drop 1)).1)))
theorem f48_run {R : Type} (N : Nat) (n : Nat) (k : List Dt → Option R) (a0 : NodeT) (a1 : List ByteArray) : evFn (f48e N) f48k n f48c [.ro, .ro] [false, false] false [.cell 4 27, .tmp 5] [27, 4] [.d .node a0, .d (.sl .str) a1] k =
    (cond (sm_node (eN a0))
    (cond ((a1.length : Int) == (0 : Int))
      (k [.d .node (eN a0), .d .bool false])
      (cond (decide ((0 : Int) < (a1.length : Int)))
        (cond ((fun (x : NodeT) (_ : ByteArray) => sm_node x) (eN a0) (atI (t := .str) a1 0))
          (cond (decide ((kidAt (eN a0) (atI (t := .str) a1 0)) < (0 : Int)))
            (k [.d .node (eN a0), .d .bool false])
            (cond (decide ((kidAt (eN a0) (atI (t := .str) a1 0)) ≥ ((NodeT.kids a0).length : Int)))
              (k [.d .node (eN a0), .d .bool false])
              (cond (decide ((a1.length : Int) > (1 : Int)))
                (cond ((decide ((0 : Int) ≤ (kidAt (eN a0) (atI (t := .str) a1 0)))) && (decide ((kidAt (eN a0) (atI (t := .str) a1 0)) < ((NodeT.kids a0).length : Int))))
                  (cond ((decide ((1 : Int) ≤ (a1.length : Int))) && (decide ((a1.length : Int) ≤ (a1.length : Int))))
                    (cond (((fun (x : NodeT) (y : List ByteArray) => sm_node x && smL smStr y) (eN (atI (t := .node) (NodeT.kids a0) (Int.toNat (kidAt (eN a0) (atI (t := .str) a1 0))))) ((a1.take (Int.toNat (a1.length : Int))).drop 1)) && (Nat.blt ((fun (_ : NodeT) (p : List ByteArray) => p.length) (eN (atI (t := .node) (NodeT.kids a0) (Int.toNat (kidAt (eN a0) (atI (t := .str) a1 0))))) ((a1.take (Int.toNat (a1.length : Int))).drop 1)) N))
                      (cond ((cutPtr (eN (atI (t := .node) (NodeT.kids a0) (Int.toNat (kidAt (eN a0) (atI (t := .str) a1 0))))) ((a1.take (Int.toNat (a1.length : Int))).drop 1)).2)
                        (cond ((decide ((0 : Int) ≤ (kidAt (eN a0) (atI (t := .str) a1 0)))) && (decide ((kidAt (eN a0) (atI (t := .str) a1 0)) < ((NodeT.kids a0).length : Int))))
                          (k [.d .node (⟨(NodeT.kind a0), (NodeT.n a0), (NodeT.s a0), (NodeT.keys a0), (f48v0 a0 a1)⟩ : NodeT), .d .bool ((cutPtr (eN (atI (t := .node) (NodeT.kids a0) (Int.toNat (kidAt (eN a0) (atI (t := .str) a1 0))))) ((a1.take (Int.toNat (a1.length : Int))).drop 1)).2)])
                          none)
                        (k [.d .node (eN a0), .d .bool ((cutPtr (eN (atI (t := .node) (NodeT.kids a0) (Int.toNat (kidAt (eN a0) (atI (t := .str) a1 0))))) ((a1.take (Int.toNat (a1.length : Int))).drop 1)).2)]))
                      none)
                    none)
                  none)
                (cond ((NodeT.kind a0) == (5 : Int))
                  (cond (decide ((0 : Int) < (a1.length : Int)))
                    (cond ((fun (x : NodeT) (_ : ByteArray) => sm_node x) (eN a0) (atI (t := .str) a1 0))
                      (k [.d .node (eN (unset (eN a0) (atI (t := .str) a1 0))), .d .bool true])
                      none)
                    none)
                  (cond ((decide ((0 : Int) ≤ (kidAt (eN a0) (atI (t := .str) a1 0)))) && (decide ((kidAt (eN a0) (atI (t := .str) a1 0)) ≤ ((NodeT.kids a0).length : Int))))
                    (cond (Nat.ble (0 + (((NodeT.kids a0).take (Int.toNat (kidAt (eN a0) (atI (t := .str) a1 0)))).drop 0).length) LIM)
                      (cond ((decide ((0 : Int) ≤ (IntKind.wrap .i64 ((kidAt (eN a0) (atI (t := .str) a1 0)) + (1 : Int))))) && ((decide ((IntKind.wrap .i64 ((kidAt (eN a0) (atI (t := .str) a1 0)) + (1 : Int))) ≤ ((NodeT.kids a0).length : Int))) && (decide (((NodeT.kids a0).length : Int) ≤ ((NodeT.kids a0).length : Int)))))
                        (cond (Nat.ble ((([] : List NodeT) ++ (((NodeT.kids a0).take (Int.toNat (kidAt (eN a0) (atI (t := .str) a1 0)))).drop 0)).length + (((NodeT.kids a0).take (Int.toNat ((NodeT.kids a0).length : Int))).drop (Int.toNat (IntKind.wrap .i64 ((kidAt (eN a0) (atI (t := .str) a1 0)) + (1 : Int))))).length) LIM)
                          (k [.d .node (⟨(NodeT.kind a0), (NodeT.n a0), (NodeT.s a0), (NodeT.keys a0), ((([] : List NodeT) ++ (((NodeT.kids a0).take (Int.toNat (kidAt (eN a0) (atI (t := .str) a1 0)))).drop 0)) ++ (((NodeT.kids a0).take (Int.toNat ((NodeT.kids a0).length : Int))).drop (Int.toNat (IntKind.wrap .i64 ((kidAt (eN a0) (atI (t := .str) a1 0)) + (1 : Int))))))⟩ : NodeT), .d .bool true])
                          none)
                        none)
                      none)
                    none)))))
          none)
        none))
    none) := by kernel_rfl
theorem f48_spec (N : Nat) (a0 : NodeT) (a1 : List ByteArray) (hg : (sm_node a0 && smL smStr a1) = true) (hm : mu48 [.d .node a0, .d (.sl .str) a1] = N) : ∃ keep rounds, ∀ {R : Type} (k : List Dt → Option R), evFn (f48e N) keep rounds f48c [.ro, .ro] [false, false] false [.cell 4 27, .tmp 5] [27, 4] [.d .node a0, .d (.sl .str) a1] k = k [.d .node ((cutPtr a0 a1).1), .d .bool ((cutPtr a0 a1).2)] := by
  have hm : a1.length = N := hm
  subst hm
  simp only [Bool.and_eq_true] at hg
  obtain ⟨hg, hpa⟩ := hg
  have hg0 := hg
  rw [sm_node_def] at hg
  simp only [Bool.and_eq_true] at hg
  obtain ⟨_, _, _, hke, hki⟩ := hg
  have nke := smL_len hke
  have nki := smL_len hki
  refine ⟨f48k, 0, fun {R} k => ?_⟩
  rw [f48_run]
  show _ = k [.d .node (cutPtr a0 a1).1, .d .bool (cutPtr a0 a1).2]
  match a1, hpa with
  | [], _ =>
    simp only [eta_node, eN_eq, hg0]
    rfl
  | [p], _ =>
    have l0 : decide ((0 : Int) < (([p] : List ByteArray).length : Int)) = true := rfl
    have l5 : atI (t := .str) [p] 0 = p := rfl
    have l7 : ((([p] : List ByteArray).length : Int) == (0 : Int)) = false := rfl
    have l8 : decide ((([p] : List ByteArray).length : Int) > (1 : Int)) = false := rfl
    simp only [eta_node, eN_eq, hg0, l0, l5, l7, l8, cond_true, cond_false]
    by_cases hk : kidAt a0 p < 0
    · rw [cutPtr_no a0 p [] hk, decide_eq_true hk]; rfl
    rw [cutPtr_one a0 p hk]
    obtain ⟨i, e, h1⟩ := kidAt_bd hk
    obtain ⟨i1, i0, hw, it⟩ := idx h1 (by omega)
    have d1 : decide ((i : Int) ≥ (a0.kids.length : Int)) = false := decide_eq_false (by omega)
    have d2 : decide ((i : Int) ≤ (a0.kids.length : Int)) = true := decide_eq_true (by omega)
    have d3 : decide ((0 : Int) ≤ ((i + 1 : Nat) : Int)) = true := decide_eq_true (by omega)
    have d5 : decide (((i + 1 : Nat) : Int) ≤ (a0.kids.length : Int)) = true := decide_eq_true (by omega)
    have d7 : decide ((a0.kids.length : Int) ≤ (a0.kids.length : Int)) = true := decide_eq_true (Int.le_refl _)
    rw [decide_eq_false hk]
    cases h5 : a0.kind == (5 : Int)
    · simp only [e, hw, i0, d1, d2, d3, d5, d7, Int.toNat_natCast, List.drop_zero, List.take_length, List.nil_append, limT nki, limTD nki, Bool.and_self, cond_true, cond_false]
      rfl
    · simp only [e, d1, cond_true, cond_false]
  | p :: q :: r, hpa =>
    have l0 : decide ((0 : Int) < ((p :: q :: r).length : Int)) = true := decide_eq_true (by simp only [List.length_cons]; omega)
    have l1 : (((p :: q :: r).length : Int) == (1 : Int)) = false := by rw [beq_eq_false_iff_ne]; simp only [List.length_cons]; omega
    have l2 : decide ((1 : Int) ≤ ((p :: q :: r).length : Int)) = true := decide_eq_true (by simp only [List.length_cons]; omega)
    have l3 : decide (((p :: q :: r).length : Int) ≤ ((p :: q :: r).length : Int)) = true := decide_eq_true (Int.le_refl _)
    have l4 : ((p :: q :: r).take (Int.toNat ((p :: q :: r).length : Int))).drop 1 = q :: r := by rw [Int.toNat_natCast, List.take_length]; rfl
    have l5 : atI (t := .str) (p :: q :: r) 0 = p := rfl
    have l6 : Nat.blt (q :: r).length (p :: q :: r).length = true := by rw [Nat.blt_eq]; simp only [List.length_cons]; omega
    have l7 : (((p :: q :: r).length : Int) == (0 : Int)) = false := by rw [beq_eq_false_iff_ne]; simp only [List.length_cons]; omega
    have l8 : decide (((p :: q :: r).length : Int) > (1 : Int)) = true := decide_eq_true (by simp only [List.length_cons]; omega)
    have hqr : smL smStr (q :: r) = true := smL_tail hpa
    simp only [eta_node, eN_eq, hg0, l0, l5, l7, l8, cond_true, cond_false]
    by_cases hk : kidAt a0 p < 0
    · rw [cutPtr_no a0 p _ hk, decide_eq_true hk]; rfl
    rw [cutPtr_deep a0 p q r hk]
    obtain ⟨i, e, h1⟩ := kidAt_bd hk
    obtain ⟨i1, i0, hw, it⟩ := idx h1 (by omega)
    have d1 : decide ((i : Int) ≥ (a0.kids.length : Int)) = false := decide_eq_false (by omega)
    have hx := atI_lt (t := .node) h1
    have hs := sm_kid hg0 (List.mem_of_getElem? hx)
    simp only [decide_eq_false hk, f48v0, eta_node, eN_eq, l2, l3, l4, l5, l6, hs, hqr, e, i1, i0, it, d1, Bool.and_self, cond_true, cond_false]
    cases (cutPtr (atI (t := .node) a0.kids i) (q :: r)).2 <;> rfl

noncomputable def s48 : Gm.Spec := Gm.Spec.of [.ro, .ro] [false, false] false q48
theorem good48 : Gm.Good Try.prog (48, s48) := by
  refine ⟨⟨spec_rec mu48 fun N hr => ?_, _, Try.func48, by kernel_rfl, of_decide_eq_true (by kernel_rfl)⟩, Gm.Spec.of_natl _ _ _ _⟩
  have hl : ∀ x ∈ [(40, s40), (41, s41), (48, s48r N), (89, s89)], Gm.Good Try.prog x := List.forall_mem_cons.2 ⟨good40, List.forall_mem_cons.2 ⟨good41, List.forall_mem_cons.2 ⟨⟨⟨hr, _, Try.func48, by kernel_rfl, of_decide_eq_true (by kernel_rfl)⟩, Gm.Spec.of_natl _ _ _ _⟩, List.forall_mem_cons.2 ⟨good89, List.forall_mem_nil _⟩⟩⟩⟩
  intro R
  refine spec_ok (E := f48e N) (tab_ok.env hl) (tab.natl hl) Try.func48 (by kernel_rfl : Try.f48.body = some f48c) [27, 4] (by kernel_rfl) ?_
  intro ds outs h
  obtain ⟨h, hm⟩ := qeq_some h
  unfold q48 at h
  split at h
  · simp only [Option.some.injEq, Prod.mk.injEq] at h; obtain ⟨hg, h⟩ := h; cases h; exact f48_spec N _ _ hg hm
  · cases h
end Go.Proofs.Ytalnkjjnohgjkaa

/- x -/
namespace Go.Proofs.Ytalnkjjnohgjkaa
open Go Go.Gm
/-! ### loop.example/g00465/spec.l23Put -/
noncomputable def f49c : Code := (Try.f49.body).getD .skip
def f49k : Nat → Kp := kat [⟨[1, 4, 6, 7, 8], [], [], []⟩, ⟨[7, 8, 10, 11], [], [], []⟩, ⟨[7, 8, 10, 20], [], [], []⟩, ⟨[8, 9], [], [], []⟩, ⟨[8, 9], [], [], []⟩]
noncomputable def f49e : Env := tab.env [(41, s41), (47, s47)]
theorem f49_run {R : Type} (n : Nat) (k : List Dt → Option R) (a0 : NodeT) (a1 : List ByteArray) (a2 : NodeT) (a3 : NodeT) : evFn f49e f49k n f49c [.ro, .ro, .ro, .ro] [false, false] false [.cell 8 27, .tmp 9] [27, 4] [.d .node a0, .d (.sl .str) a1, .d .node a2, .d .node a3] k =
    (cond (gP (eN a0) a1 (eN a2))
    (cond (!((putPtr (eN a0) a1 (eN a2)).2))
      (cond (sm_node (eN a3))
        (k [.d .node (eN a3), .d .bool false])
        none)
      (k [.d .node (eN ((putPtr (eN a0) a1 (eN a2)).1)), .d .bool true]))
    none) := by kernel_rfl
theorem f49_spec (a0 : NodeT) (a1 : List ByteArray) (a2 : NodeT) (a3 : NodeT) (hg : gPutW a0 a1 a2 a3 = true) : ∃ keep rounds, ∀ {R : Type} (k : List Dt → Option R), evFn f49e keep rounds f49c [.ro, .ro, .ro, .ro] [false, false] false [.cell 8 27, .tmp 9] [27, 4] [.d .node a0, .d (.sl .str) a1, .d .node a2, .d .node a3] k = k [.d .node ((putW a0 a1 a2 a3).1), .d .bool ((putW a0 a1 a2 a3).2)] := by
  simp only [gPutW, Bool.and_eq_true] at hg
  refine ⟨f49k, 0, fun {R} k => ?_⟩
  rw [f49_run]
  simp only [eta_node, eN_eq, hg.1, hg.2, cond_true]
  show _ = k [.d .node (putW a0 a1 a2 a3).1, .d .bool (putW a0 a1 a2 a3).2]
  unfold putW
  cases (putPtr a0 a1 a2).2 <;> rfl

noncomputable def q49 : List Dt → Option (Bool × List Dt)
  | [.d .node a0, .d (.sl .str) a1, .d .node a2, .d .node a3] => some ((gPutW a0 a1 a2 a3), [.d .node ((putW a0 a1 a2 a3).1), .d .bool ((putW a0 a1 a2 a3).2)])
  | _ => none
noncomputable def s49 : Gm.Spec := Gm.Spec.of [.ro, .ro, .ro, .ro] [false, false] false q49
theorem good49 : Gm.Good Try.prog (49, s49) := by
  have hl : ∀ x ∈ [(41, s41), (47, s47)], Gm.Good Try.prog x := List.forall_mem_cons.2 ⟨good41, List.forall_mem_cons.2 ⟨good47, List.forall_mem_nil _⟩⟩
  refine ⟨⟨spec_ok (tab_ok.env hl) (tab.natl hl) Try.func49 (by kernel_rfl : Try.f49.body = some f49c) [27, 4] (by kernel_rfl) ?_, _, Try.func49, by kernel_rfl, of_decide_eq_true (by kernel_rfl)⟩, Gm.Spec.of_natl _ _ _ _⟩
  intro ds outs h
  unfold q49 at h
  split at h
  · simp only [Option.some.injEq, Prod.mk.injEq] at h; obtain ⟨hg, h⟩ := h; cases h; exact f49_spec _ _ _ _ hg
  · cases h
/-! ### loop.example/g00465/impl.patched -/
noncomputable def f44c : Code := (Try.f44.body).getD .skip
def f44k : Nat → Kp := kat [⟨[2, 3, 4], [], [], []⟩, ⟨[2, 3, 4, 17], [], [], []⟩, ⟨[2, 3, 4, 17, 18], [], [], []⟩, ⟨[4, 5], [], [], []⟩, ⟨[2, 3, 4, 17, 28], [], [], []⟩, ⟨[4, 5], [], [], []⟩, ⟨[2, 3, 4, 17, 36], [], [], []⟩, ⟨[2, 3, 4, 41], [], [], []⟩, ⟨[4, 5], [], [], []⟩, ⟨[3, 4, 6, 7], [], [], []⟩, ⟨[3, 4, 6, 53], [], [], []⟩, ⟨[4, 5], [], [], []⟩, ⟨[4, 5], [], [], []⟩, ⟨[2, 3, 4, 63], [], [], []⟩, ⟨[2, 3, 4, 8, 9], [], [], []⟩, ⟨[4, 5], [], [], []⟩, ⟨[2, 3, 4, 10, 11], [], [], []⟩, ⟨[2, 3, 4, 10, 99], [], [], []⟩, ⟨[4, 5], [], [], []⟩, ⟨[2, 3, 4, 10, 103], [], [], []⟩, ⟨[2, 3, 4, 10, 12], [], [], []⟩, ⟨[2, 3, 4, 10, 13], [], [], []⟩, ⟨[2, 3, 4, 10, 13, 14, 15], [], [], []⟩, ⟨[2, 3, 4, 10, 14, 132], [], [], []⟩, ⟨[4, 5], [], [], []⟩, ⟨[2, 3, 4, 10], [], [], []⟩, ⟨[4, 5], [], [], []⟩]
noncomputable def f44e : Env := tab.env [(10, s10), (12, s12), (39, s39), (42, s42), (86, s86), (87, s87)]
theorem f44_run {R : Type} (n : Nat) (k : List Dt → Option R) (a0 : NodeT) (a1 : PopT) : evFn f44e f44k n f44c [.ro, .ro] [false, false] true [.cell 4 27, .tmp 5] [27, 4] [.d .node a0, .d .pop a1] k =
    (cond ((PopT.kind a1) == (1 : Int))
    (cond (gP (eN a0) (PopT.path a1) (eN (PopT.x a1)))
      (k [.d .node (eN ((putPtr (eN a0) (PopT.path a1) (eN (PopT.x a1))).1)), .d .bool ((putPtr (eN a0) (PopT.path a1) (eN (PopT.x a1))).2)])
      none)
    (cond ((PopT.kind a1) == (2 : Int))
      (cond ((fun (x : NodeT) (y : List ByteArray) => sm_node x && smL smStr y) (eN a0) (PopT.path a1))
        (k [.d .node (eN ((cutPtr (eN a0) (PopT.path a1)).1)), .d .bool ((cutPtr (eN a0) (PopT.path a1)).2)])
        none)
      (cond ((PopT.kind a1) == (3 : Int))
        (cond (((PopT.path a1).length : Int) == (0 : Int))
          (cond (sm_node (eN (PopT.x a1)))
            (k [.d .node (eN (PopT.x a1)), .d .bool true])
            none)
          (cond ((fun (x : NodeT) (y : List ByteArray) => sm_node x && smL smStr y) (eN a0) (PopT.path a1))
            (cond (!((cutPtr (eN a0) (PopT.path a1)).2))
              (k [.d .node (⟨(0 : Int), (0 : Int), ByteArray.empty, ([] : List ByteArray), ([] : List NodeT)⟩ : NodeT), .d .bool false])
              (cond (gP (eN ((cutPtr (eN a0) (PopT.path a1)).1)) (PopT.path a1) (eN (PopT.x a1)))
                (k [.d .node (eN ((putPtr (eN ((cutPtr (eN a0) (PopT.path a1)).1)) (PopT.path a1) (eN (PopT.x a1))).1)), .d .bool ((putPtr (eN ((cutPtr (eN a0) (PopT.path a1)).1)) (PopT.path a1) (eN (PopT.x a1))).2)])
                none))
            none))
        (cond ((PopT.kind a1) == (4 : Int))
          (cond ((fun (x : NodeT) (y : List ByteArray) => sm_node x && smL smStr y) (eN a0) (PopT.path a1))
            (cond (sm_node (eN a0))
              (cond ((atPtr (eN a0) (PopT.path a1)).2)
                (cond (sm2 sm_node (eN ((atPtr (eN a0) (PopT.path a1)).1)) (eN (PopT.x a1)))
                  (k [.d .node (eN a0), .d .bool (eqD (eN ((atPtr (eN a0) (PopT.path a1)).1)) (eN (PopT.x a1)))])
                  none)
                (k [.d .node (eN a0), .d .bool false]))
              none)
            none)
          (cond ((fun (x : NodeT) (y : List ByteArray) => sm_node x && smL smStr y) (eN a0) (PopT.src a1))
            (cond (!((atPtr (eN a0) (PopT.src a1)).2))
              (k [.d .node (⟨(0 : Int), (0 : Int), ByteArray.empty, ([] : List ByteArray), ([] : List NodeT)⟩ : NodeT), .d .bool false])
              (cond ((PopT.kind a1) != (5 : Int))
                (cond ((PopT.kind a1) != (6 : Int))
                  (k [.d .node (⟨(0 : Int), (0 : Int), ByteArray.empty, ([] : List ByteArray), ([] : List NodeT)⟩ : NodeT), .d .bool false])
                  (cond ((PopT.kind a1) == (5 : Int))
                    (cond (decide (((PopT.path a1).length : Int) > ((PopT.src a1).length : Int)))
                      (cond ((decide ((0 : Int) ≤ ((PopT.src a1).length : Int))) && (decide (((PopT.src a1).length : Int) ≤ ((PopT.path a1).length : Int))))
                        (cond ((fun (x y : List ByteArray) => gLenW x) (((PopT.path a1).take (Int.toNat ((PopT.src a1).length : Int))).drop 0) (PopT.src a1))
                          (cond ((fun (x : NodeT) (y : List ByteArray) => sm_node x && smL smStr y) (eN a0) (PopT.src a1))
                            (cond (eqD (((PopT.path a1).take (Int.toNat ((PopT.src a1).length : Int))).drop 0) (PopT.src a1))
                              (k [.d .node (⟨(0 : Int), (0 : Int), ByteArray.empty, ([] : List ByteArray), ([] : List NodeT)⟩ : NodeT), .d .bool false])
                              (cond (!((cutPtr (eN a0) (PopT.src a1)).2))
                                (k [.d .node (⟨(0 : Int), (0 : Int), ByteArray.empty, ([] : List ByteArray), ([] : List NodeT)⟩ : NodeT), .d .bool false])
                                (cond (gP (eN ((cutPtr (eN a0) (PopT.src a1)).1)) (PopT.path a1) (eN ((atPtr (eN a0) (PopT.src a1)).1)))
                                  (k [.d .node (eN ((putPtr (eN ((cutPtr (eN a0) (PopT.src a1)).1)) (PopT.path a1) (eN ((atPtr (eN a0) (PopT.src a1)).1))).1)), .d .bool ((putPtr (eN ((cutPtr (eN a0) (PopT.src a1)).1)) (PopT.path a1) (eN ((atPtr (eN a0) (PopT.src a1)).1))).2)])
                                  none)))
                            none)
                          none)
                        none)
                      (cond ((fun (x : NodeT) (y : List ByteArray) => sm_node x && smL smStr y) (eN a0) (PopT.src a1))
                        (cond (!((cutPtr (eN a0) (PopT.src a1)).2))
                          (k [.d .node (⟨(0 : Int), (0 : Int), ByteArray.empty, ([] : List ByteArray), ([] : List NodeT)⟩ : NodeT), .d .bool false])
                          (cond (gP (eN ((cutPtr (eN a0) (PopT.src a1)).1)) (PopT.path a1) (eN ((atPtr (eN a0) (PopT.src a1)).1)))
                            (k [.d .node (eN ((putPtr (eN ((cutPtr (eN a0) (PopT.src a1)).1)) (PopT.path a1) (eN ((atPtr (eN a0) (PopT.src a1)).1))).1)), .d .bool ((putPtr (eN ((cutPtr (eN a0) (PopT.src a1)).1)) (PopT.path a1) (eN ((atPtr (eN a0) (PopT.src a1)).1))).2)])
                            none))
                        none))
                    (cond (gP (eN a0) (PopT.path a1) (eN ((atPtr (eN a0) (PopT.src a1)).1)))
                      (k [.d .node (eN ((putPtr (eN a0) (PopT.path a1) (eN ((atPtr (eN a0) (PopT.src a1)).1))).1)), .d .bool ((putPtr (eN a0) (PopT.path a1) (eN ((atPtr (eN a0) (PopT.src a1)).1))).2)])
                      none)))
                (cond ((PopT.kind a1) == (5 : Int))
                  (cond (decide (((PopT.path a1).length : Int) > ((PopT.src a1).length : Int)))
                    (cond ((decide ((0 : Int) ≤ ((PopT.src a1).length : Int))) && (decide (((PopT.src a1).length : Int) ≤ ((PopT.path a1).length : Int))))
                      (cond ((fun (x y : List ByteArray) => gLenW x) (((PopT.path a1).take (Int.toNat ((PopT.src a1).length : Int))).drop 0) (PopT.src a1))
                        (cond ((fun (x : NodeT) (y : List ByteArray) => sm_node x && smL smStr y) (eN a0) (PopT.src a1))
                          (cond (eqD (((PopT.path a1).take (Int.toNat ((PopT.src a1).length : Int))).drop 0) (PopT.src a1))
                            (k [.d .node (⟨(0 : Int), (0 : Int), ByteArray.empty, ([] : List ByteArray), ([] : List NodeT)⟩ : NodeT), .d .bool false])
                            (cond (!((cutPtr (eN a0) (PopT.src a1)).2))
                              (k [.d .node (⟨(0 : Int), (0 : Int), ByteArray.empty, ([] : List ByteArray), ([] : List NodeT)⟩ : NodeT), .d .bool false])
                              (cond (gP (eN ((cutPtr (eN a0) (PopT.src a1)).1)) (PopT.path a1) (eN ((atPtr (eN a0) (PopT.src a1)).1)))
                                (k [.d .node (eN ((putPtr (eN ((cutPtr (eN a0) (PopT.src a1)).1)) (PopT.path a1) (eN ((atPtr (eN a0) (PopT.src a1)).1))).1)), .d .bool ((putPtr (eN ((cutPtr (eN a0) (PopT.src a1)).1)) (PopT.path a1) (eN ((atPtr (eN a0) (PopT.src a1)).1))).2)])
                                none)))
                          none)
                        none)
                      none)
                    (cond ((fun (x : NodeT) (y : List ByteArray) => sm_node x && smL smStr y) (eN a0) (PopT.src a1))
                      (cond (!((cutPtr (eN a0) (PopT.src a1)).2))
                        (k [.d .node (⟨(0 : Int), (0 : Int), ByteArray.empty, ([] : List ByteArray), ([] : List NodeT)⟩ : NodeT), .d .bool false])
                        (cond (gP (eN ((cutPtr (eN a0) (PopT.src a1)).1)) (PopT.path a1) (eN ((atPtr (eN a0) (PopT.src a1)).1)))
                          (k [.d .node (eN ((putPtr (eN ((cutPtr (eN a0) (PopT.src a1)).1)) (PopT.path a1) (eN ((atPtr (eN a0) (PopT.src a1)).1))).1)), .d .bool ((putPtr (eN ((cutPtr (eN a0) (PopT.src a1)).1)) (PopT.path a1) (eN ((atPtr (eN a0) (PopT.src a1)).1))).2)])
                          none))
                      none))
                  (cond (gP (eN a0) (PopT.path a1) (eN ((atPtr (eN a0) (PopT.src a1)).1)))
                    (k [.d .node (eN ((putPtr (eN a0) (PopT.path a1) (eN ((atPtr (eN a0) (PopT.src a1)).1))).1)), .d .bool ((putPtr (eN a0) (PopT.path a1) (eN ((atPtr (eN a0) (PopT.src a1)).1))).2)])
                    none))))
            none))))) := by kernel_rfl
theorem f44_spec (a0 : NodeT) (a1 : PopT) (hg : gP2 a0 a1 = true) : ∃ keep rounds, ∀ {R : Type} (k : List Dt → Option R), evFn f44e keep rounds f44c [.ro, .ro] [false, false] true [.cell 4 27, .tmp 5] [27, 4] [.d .node a0, .d .pop a1] k = k [.d .node ((patchedI a0 a1).1), .d .bool ((patchedI a0 a1).2)] := by
  have hgp := hg
  simp only [gP2, Bool.and_eq_true] at hg
  obtain ⟨hg0, hp⟩ := hg
  obtain ⟨h1, h2, h3⟩ := sm_pop_parts hp
  have c1 : sm_node (cutPtr a0 a1.path).1 = true := (cutPtr_ok hg0).1
  have c2 : sm_node (cutPtr a0 a1.src).1 = true := (cutPtr_ok hg0).1
  have t1 : sm_node (atPtr a0 a1.path).1 = true := atPtr_sm hg0
  have t2 : sm_node (atPtr a0 a1.src).1 = true := atPtr_sm hg0
  have g1 : gP a0 a1.path a1.x = true := by simp only [gP, hg0, h1, h3, Bool.and_self]
  have g2 : gP (cutPtr a0 a1.path).1 a1.path a1.x = true := by simp only [gP, c1, h1, h3, Bool.and_self]
  have g3 : gP (cutPtr a0 a1.src).1 a1.path (atPtr a0 a1.src).1 = true := by simp only [gP, c2, h1, t2, Bool.and_self]
  have g4 : gP a0 a1.path (atPtr a0 a1.src).1 = true := by simp only [gP, hg0, h1, t2, Bool.and_self]
  have l1 := smL_len h1
  have l2 := smL_len h2
  have gl : gLenW (a1.path.take a1.src.length) = true := gLenW_of (by rw [List.length_take]; omega)
  have n0 : decide ((0 : Int) ≤ (a1.src.length : Int)) = true := decide_eq_true (by omega)
  refine ⟨f44k, 0, fun {R} k => ?_⟩
  rw [f44_run]
  simp only [eta_node, eN_eq, hg0, h1, h2, h3, c1, c2, t1, t2, g1, g2, g3, g4, sm2, Bool.and_self, cond_true, Int.toNat_natCast, List.drop_zero, gl, n0, Bool.true_and]
  show _ = k [.d .node (patchedI a0 a1).1, .d .bool (patchedI a0 a1).2]
  unfold patchedI frontOf
  simp only [bne]
  cases a1.kind == (1 : Int)
  rotate_left
  · rfl
  cases a1.kind == (2 : Int)
  rotate_left
  · rfl
  cases a1.kind == (3 : Int)
  rotate_left
  · cases (a1.path.length : Int) == (0 : Int)
    · cases (cutPtr a0 a1.path).2 <;> rfl
    · rfl
  cases a1.kind == (4 : Int)
  rotate_left
  · cases (atPtr a0 a1.path).2 <;> rfl
  cases (atPtr a0 a1.src).2
  · rfl
  cases a1.kind == (5 : Int)
  · cases a1.kind == (6 : Int) <;> rfl
  by_cases hl : (a1.path.length : Int) > (a1.src.length : Int)
  · rw [decide_eq_true hl, decide_eq_true (show (a1.src.length : Int) ≤ (a1.path.length : Int) by omega)]
    simp only [cond_true, cond_false, Bool.not_true, Bool.not_false]
    cases eqD (a1.path.take a1.src.length) a1.src
    · cases (cutPtr a0 a1.src).2 <;> rfl
    · rfl
  · rw [decide_eq_false hl]
    simp only [cond_true, cond_false, Bool.not_true, Bool.not_false]
    cases (cutPtr a0 a1.src).2 <;> rfl

noncomputable def q44 : List Dt → Option (Bool × List Dt)
  | [.d .node a0, .d .pop a1] => some ((gP2 a0 a1), [.d .node ((patchedI a0 a1).1), .d .bool ((patchedI a0 a1).2)])
  | _ => none
noncomputable def s44 : Gm.Spec := Gm.Spec.of [.ro, .ro] [false, false] true q44
theorem good44 : Gm.Good Try.prog (44, s44) := by
  have hl : ∀ x ∈ [(10, s10), (12, s12), (39, s39), (42, s42), (86, s86), (87, s87)], Gm.Good Try.prog x := List.forall_mem_cons.2 ⟨good10, List.forall_mem_cons.2 ⟨good12, List.forall_mem_cons.2 ⟨good39, List.forall_mem_cons.2 ⟨good42, List.forall_mem_cons.2 ⟨good86, List.forall_mem_cons.2 ⟨good87, List.forall_mem_nil _⟩⟩⟩⟩⟩⟩
  refine ⟨⟨spec_ok (tab_ok.env hl) (tab.natl hl) Try.func44 (by kernel_rfl : Try.f44.body = some f44c) [27, 4] (by kernel_rfl) ?_, _, Try.func44, by kernel_rfl, of_decide_eq_true (by kernel_rfl)⟩, Gm.Spec.of_natl _ _ _ _⟩
  intro ds outs h
  unfold q44 at h
  split at h
  · simp only [Option.some.injEq, Prod.mk.injEq] at h; obtain ⟨hg, h⟩ := h; cases h; exact f44_spec _ _ hg
  · cases h
/-! ### loop.example/g00465/impl.PatchOne -/
noncomputable def f13c : Code := (Try.f13.body).getD .skip
def f13k : Nat → Kp := kat [⟨[2, 3, 4], [], [], []⟩, ⟨[2, 4, 6, 7], [], [], []⟩, ⟨[2, 4, 6, 15], [], [], []⟩, ⟨[4, 5], [], [], []⟩, ⟨[4, 5], [], [], []⟩]
noncomputable def f13e : Env := tab.env [(39, s39), (44, s44)]
theorem f13_run {R : Type} (n : Nat) (k : List Dt → Option R) (a0 : NodeT) (a1 : PopT) : evFn f13e f13k n f13c [.ro, .ro] [false, false] true [.cell 4 27, .tmp 5] [27, 4] [.d .node a0, .d .pop a1] k =
    (cond (gP2 (eN a0) (⟨(PopT.kind a1), (PopT.path a1), (PopT.src a1), (eN (PopT.x a1))⟩ : PopT))
    (cond (!((patchedI (eN a0) (⟨(PopT.kind a1), (PopT.path a1), (PopT.src a1), (eN (PopT.x a1))⟩ : PopT)).2))
      (cond (sm_node (eN a0))
        (k [.d .node (eN a0), .d .bool false])
        none)
      (k [.d .node (eN ((patchedI (eN a0) (⟨(PopT.kind a1), (PopT.path a1), (PopT.src a1), (eN (PopT.x a1))⟩ : PopT)).1)), .d .bool true]))
    none) := by kernel_rfl
theorem f13_spec (a0 : NodeT) (a1 : PopT) (hg : gP2 a0 a1 = true) : ∃ keep rounds, ∀ {R : Type} (k : List Dt → Option R), evFn f13e keep rounds f13c [.ro, .ro] [false, false] true [.cell 4 27, .tmp 5] [27, 4] [.d .node a0, .d .pop a1] k = k [.d .node ((patchOne a0 a1).1), .d .bool ((patchOne a0 a1).2)] := by
  have hg0 : sm_node a0 = true := by simp only [gP2, Bool.and_eq_true] at hg; exact hg.1
  refine ⟨f13k, 0, fun {R} k => ?_⟩
  rw [f13_run]
  simp only [eta_node, eN_eq, eta_pop, hg, hg0, cond_true]
  show _ = k [.d .node (patchOne a0 a1).1, .d .bool (patchOne a0 a1).2]
  unfold patchOne
  cases (patchedI a0 a1).2 <;> rfl

noncomputable def q13 : List Dt → Option (Bool × List Dt)
  | [.d .node a0, .d .pop a1] => some ((gP2 a0 a1), [.d .node ((patchOne a0 a1).1), .d .bool ((patchOne a0 a1).2)])
  | _ => none
noncomputable def s13 : Gm.Spec := Gm.Spec.of [.ro, .ro] [false, false] true q13
theorem good13 : Gm.Good Try.prog (13, s13) := by
  have hl : ∀ x ∈ [(39, s39), (44, s44)], Gm.Good Try.prog x := List.forall_mem_cons.2 ⟨good39, List.forall_mem_cons.2 ⟨good44, List.forall_mem_nil _⟩⟩
  refine ⟨⟨spec_ok (tab_ok.env hl) (tab.natl hl) Try.func13 (by kernel_rfl : Try.f13.body = some f13c) [27, 4] (by kernel_rfl) ?_, _, Try.func13, by kernel_rfl, of_decide_eq_true (by kernel_rfl)⟩, Gm.Spec.of_natl _ _ _ _⟩
  intro ds outs h
  unfold q13 at h
  split at h
  · simp only [Option.some.injEq, Prod.mk.injEq] at h; obtain ⟨hg, h⟩ := h; cases h; exact f13_spec _ _ hg
  · cases h
/-! ### loop.example/g00465/spec.PatchOne -/
noncomputable def f15c : Code := (Try.f15.body).getD .skip
def f15k : Nat → Kp := kat [⟨[2, 3, 4], [], [], []⟩, ⟨[2, 3, 4, 6], [], [], []⟩, ⟨[2, 3, 4, 6, 30], [], [], []⟩, ⟨[2, 3, 4, 6, 30, 31], [], [], []⟩, ⟨[4, 7, 8], [], [], []⟩, ⟨[4, 5], [], [], []⟩, ⟨[2, 3, 4, 6, 30, 44], [], [], []⟩, ⟨[4, 9, 10], [], [], []⟩, ⟨[4, 5], [], [], []⟩, ⟨[2, 3, 4, 6, 30, 55], [], [], []⟩, ⟨[2, 3, 4, 6, 60], [], [], []⟩, ⟨[4, 5], [], [], []⟩, ⟨[2, 3, 4, 6, 11, 12], [], [], []⟩, ⟨[2, 3, 4, 6, 11, 72], [], [], []⟩, ⟨[4, 5], [], [], []⟩, ⟨[4, 13, 14], [], [], []⟩, ⟨[4, 5], [], [], []⟩, ⟨[2, 3, 4, 6, 30, 86], [], [], []⟩, ⟨[3, 4, 6, 15, 16], [], [], []⟩, ⟨[4, 5], [], [], []⟩, ⟨[2, 3, 4, 6, 30, 103], [], [], []⟩, ⟨[2, 3, 4, 6, 17], [], [], []⟩, ⟨[2, 3, 4, 6, 17, 19, 20], [], [], []⟩, ⟨[2, 3, 4, 6, 17, 19, 127], [], [], []⟩, ⟨[4, 5], [], [], []⟩, ⟨[4, 21, 22], [], [], []⟩, ⟨[4, 5], [], [], []⟩, ⟨[2, 3, 4, 6, 140], [], [], []⟩, ⟨[2, 3, 4, 6, 23, 24], [], [], []⟩, ⟨[2, 3, 4, 6, 23, 150], [], [], []⟩, ⟨[4, 5], [], [], []⟩, ⟨[4, 25, 26], [], [], []⟩, ⟨[4, 5], [], [], []⟩, ⟨[4, 5], [], [], []⟩]
noncomputable def f15e : Env := tab.env [(11, s11), (41, s41), (47, s47), (48, s48), (49, s49), (50, s50), (51, s51)]
theorem f15_run {R : Type} (n : Nat) (k : List Dt → Option R) (a0 : NodeT) (a1 : PopT) : evFn f15e f15k n f15c [.ro, .ro] [false, false] false [.cell 4 27, .tmp 5] [27, 4] [.d .node a0, .d .pop a1] k =
    (cond (sm_node (eN a0))
    (cond ((PopT.kind a1) == (1 : Int))
      (cond (gP (eN a0) (PopT.path a1) (eN (PopT.x a1)))
        (k [.d .node (eN ((putPtr (eN a0) (PopT.path a1) (eN (PopT.x a1))).1)), .d .bool ((putPtr (eN a0) (PopT.path a1) (eN (PopT.x a1))).2)])
        none)
      (cond ((PopT.kind a1) == (2 : Int))
        (cond ((fun (x : NodeT) (y : List ByteArray) => sm_node x && smL smStr y) (eN a0) (PopT.path a1))
          (k [.d .node (eN ((cutPtr (eN a0) (PopT.path a1)).1)), .d .bool ((cutPtr (eN a0) (PopT.path a1)).2)])
          none)
        (cond ((PopT.kind a1) == (3 : Int))
          (cond (((PopT.path a1).length : Int) == (0 : Int))
            (cond (sm_node (eN (PopT.x a1)))
              (k [.d .node (eN (PopT.x a1)), .d .bool true])
              none)
            (cond ((fun (x : NodeT) (y : List ByteArray) => sm_node x && smL smStr y) (eN a0) (PopT.path a1))
              (cond (!((cutPtr (eN a0) (PopT.path a1)).2))
                (k [.d .node (eN a0), .d .bool false])
                (cond (gPutW (eN ((cutPtr (eN a0) (PopT.path a1)).1)) (PopT.path a1) (eN (PopT.x a1)) (eN a0))
                  (k [.d .node (eN ((putW (eN ((cutPtr (eN a0) (PopT.path a1)).1)) (PopT.path a1) (eN (PopT.x a1)) (eN a0)).1)), .d .bool ((putW (eN ((cutPtr (eN a0) (PopT.path a1)).1)) (PopT.path a1) (eN (PopT.x a1)) (eN a0)).2)])
                  none))
              none))
          (cond ((PopT.kind a1) == (4 : Int))
            (cond ((fun (x : NodeT) (y : List ByteArray) => sm_node x && smL smStr y) (eN a0) (PopT.path a1))
              (cond ((atPtr (eN a0) (PopT.path a1)).2)
                (cond (sm2 sm_node (eN ((atPtr (eN a0) (PopT.path a1)).1)) (eN (PopT.x a1)))
                  (k [.d .node (eN a0), .d .bool (eqD (eN ((atPtr (eN a0) (PopT.path a1)).1)) (eN (PopT.x a1)))])
                  none)
                (k [.d .node (eN a0), .d .bool false]))
              none)
            (cond ((PopT.kind a1) == (5 : Int))
              (cond ((fun (x : NodeT) (y : List ByteArray) => sm_node x && smL smStr y) (eN a0) (PopT.src a1))
                (cond ((fun (x : NodeT) (y : List ByteArray) => sm_node x && smL smStr y) (eN a0) (PopT.src a1))
                  (cond (!((cutPtr (eN a0) (PopT.src a1)).2))
                    (k [.d .node (eN a0), .d .bool false])
                    (cond (gFr (PopT.src a1) (PopT.path a1))
                      (cond (frontOf (PopT.src a1) (PopT.path a1))
                        (k [.d .node (eN a0), .d .bool false])
                        (cond (gPutW (eN ((cutPtr (eN a0) (PopT.src a1)).1)) (PopT.path a1) (eN ((atPtr (eN a0) (PopT.src a1)).1)) (eN a0))
                          (k [.d .node (eN ((putW (eN ((cutPtr (eN a0) (PopT.src a1)).1)) (PopT.path a1) (eN ((atPtr (eN a0) (PopT.src a1)).1)) (eN a0)).1)), .d .bool ((putW (eN ((cutPtr (eN a0) (PopT.src a1)).1)) (PopT.path a1) (eN ((atPtr (eN a0) (PopT.src a1)).1)) (eN a0)).2)])
                          none))
                      none))
                  none)
                none)
              (cond ((PopT.kind a1) == (6 : Int))
                (cond ((fun (x : NodeT) (y : List ByteArray) => sm_node x && smL smStr y) (eN a0) (PopT.src a1))
                  (cond (!((atPtr (eN a0) (PopT.src a1)).2))
                    (k [.d .node (eN a0), .d .bool false])
                    (cond (gP (eN a0) (PopT.path a1) (eN ((atPtr (eN a0) (PopT.src a1)).1)))
                      (k [.d .node (eN ((putPtr (eN a0) (PopT.path a1) (eN ((atPtr (eN a0) (PopT.src a1)).1))).1)), .d .bool ((putPtr (eN a0) (PopT.path a1) (eN ((atPtr (eN a0) (PopT.src a1)).1))).2)])
                      none))
                  none)
                (k [.d .node (eN a0), .d .bool false])))))))
    none) := by kernel_rfl
theorem f15_spec (a0 : NodeT) (a1 : PopT) (hg : gP2 a0 a1 = true) : ∃ keep rounds, ∀ {R : Type} (k : List Dt → Option R), evFn f15e keep rounds f15c [.ro, .ro] [false, false] false [.cell 4 27, .tmp 5] [27, 4] [.d .node a0, .d .pop a1] k = k [.d .node ((patchOne a0 a1).1), .d .bool ((patchOne a0 a1).2)] := by
  have hgp := hg
  simp only [gP2, Bool.and_eq_true] at hg
  obtain ⟨hg0, hp⟩ := hg
  obtain ⟨h1, h2, h3⟩ := sm_pop_parts hp
  have c1 : sm_node (cutPtr a0 a1.path).1 = true := (cutPtr_ok hg0).1
  have c2 : sm_node (cutPtr a0 a1.src).1 = true := (cutPtr_ok hg0).1
  have t1 : sm_node (atPtr a0 a1.path).1 = true := atPtr_sm hg0
  have t2 : sm_node (atPtr a0 a1.src).1 = true := atPtr_sm hg0
  have g1 : gP a0 a1.path a1.x = true := by simp only [gP, hg0, h1, h3, Bool.and_self]
  have g2 : gP (cutPtr a0 a1.path).1 a1.path a1.x = true := by simp only [gP, c1, h1, h3, Bool.and_self]
  have g3 : gP (cutPtr a0 a1.src).1 a1.path (atPtr a0 a1.src).1 = true := by simp only [gP, c2, h1, t2, Bool.and_self]
  have g4 : gP a0 a1.path (atPtr a0 a1.src).1 = true := by simp only [gP, hg0, h1, t2, Bool.and_self]
  have l1 := smL_len h1
  have l2 := smL_len h2
  have w2 : gPutW (cutPtr a0 a1.path).1 a1.path a1.x a0 = true := by simp only [gPutW, g2, hg0, Bool.and_self]
  have w3 : gPutW (cutPtr a0 a1.src).1 a1.path (atPtr a0 a1.src).1 a0 = true := by simp only [gPutW, g3, hg0, Bool.and_self]
  have gf : gFr a1.src a1.path = true := by simp only [gFr, gLenW_sm h1, gLenW_sm h2, Bool.and_self]
  refine ⟨f15k, 0, fun {R} k => ?_⟩
  rw [f15_run]
  simp only [eta_node, eN_eq, hg0, h1, h2, h3, c1, c2, t1, t2, g1, g2, g3, g4, sm2, Bool.and_self, cond_true, w2, w3, gf]
  show _ = k [.d .node (patchOne a0 a1).1, .d .bool (patchOne a0 a1).2]
  unfold patchOne patchedI
  cases a1.kind == (1 : Int)
  rotate_left
  · simp only [cond_true]; rw [putPtr_eta]
  cases a1.kind == (2 : Int)
  rotate_left
  · simp only [cond_true, cond_false]; rw [cutPtr_eta]
  cases a1.kind == (3 : Int)
  rotate_left
  · simp only [cond_true, cond_false]
    cases (a1.path.length : Int) == (0 : Int)
    · cases (cutPtr a0 a1.path).2
      · rfl
      · simp only [cond_true, cond_false, Bool.not_true, putW]
    · rfl
  cases a1.kind == (4 : Int)
  rotate_left
  · simp only [cond_true, cond_false]
    cases (atPtr a0 a1.path).2
    · rfl
    · cases eqD (atPtr a0 a1.path).1 a1.x <;> rfl
  cases a1.kind == (5 : Int)
  rotate_left
  · simp only [cond_true, cond_false]
    cases ht : (atPtr a0 a1.src).2
    · rw [at_cut ht]; rfl
    · cases (cutPtr a0 a1.src).2
      · cases frontOf a1.src a1.path <;> rfl
      · cases frontOf a1.src a1.path
        · simp only [cond_true, cond_false, Bool.not_true, putW]
        · rfl
  cases a1.kind == (6 : Int)
  · simp only [cond_true, cond_false]
    cases (atPtr a0 a1.src).2 <;> rfl
  · simp only [cond_true, cond_false]
    cases (atPtr a0 a1.src).2
    · rfl
    · simp only [cond_true, cond_false, Bool.not_true, Bool.not_false]; rw [putPtr_eta]

noncomputable def q15 : List Dt → Option (Bool × List Dt)
  | [.d .node a0, .d .pop a1] => some ((gP2 a0 a1), [.d .node ((patchOne a0 a1).1), .d .bool ((patchOne a0 a1).2)])
  | _ => none
noncomputable def s15 : Gm.Spec := Gm.Spec.of [.ro, .ro] [false, false] false q15
theorem good15 : Gm.Good Try.prog (15, s15) := by
  have hl : ∀ x ∈ [(11, s11), (41, s41), (47, s47), (48, s48), (49, s49), (50, s50), (51, s51)], Gm.Good Try.prog x := List.forall_mem_cons.2 ⟨good11, List.forall_mem_cons.2 ⟨good41, List.forall_mem_cons.2 ⟨good47, List.forall_mem_cons.2 ⟨good48, List.forall_mem_cons.2 ⟨good49, List.forall_mem_cons.2 ⟨good50, List.forall_mem_cons.2 ⟨good51, List.forall_mem_nil _⟩⟩⟩⟩⟩⟩⟩
  refine ⟨⟨spec_ok (tab_ok.env hl) (tab.natl hl) Try.func15 (by kernel_rfl : Try.f15.body = some f15c) [27, 4] (by kernel_rfl) ?_, _, Try.func15, by kernel_rfl, of_decide_eq_true (by kernel_rfl)⟩, Gm.Spec.of_natl _ _ _ _⟩
  intro ds outs h
  unfold q15 at h
  split at h
  · simp only [Option.some.injEq, Prod.mk.injEq] at h; obtain ⟨hg, h⟩ := h; cases h; exact f15_spec _ _ hg
  · cases h
end Go.Proofs.Ytalnkjjnohgjkaa

/- x -/
namespace Go.Proofs.Ytalnkjjnohgjkaa
open Go Go.Gm
/-! ### loop.example/g00465/laws.szStringS -/
noncomputable def f54c : Code := (Try.f54.body).getD .skip
def f54k : Nat → Kp := kat [⟨[0, 1], [], [], []⟩, ⟨[0, 1], [], [], []⟩, ⟨[0, 1, 11], [], [], []⟩, ⟨[4], [], [], []⟩, ⟨[0, 1, 5], [], [], []⟩, ⟨[0, 1, 5, 15], [], [], []⟩, ⟨[0, 1, 5], [], [], []⟩, ⟨[0, 1, 5], [], [], []⟩, ⟨[0, 1, 5, 26], [], [], []⟩, ⟨[4], [], [], []⟩, ⟨[4], [], [], []⟩]
noncomputable def f54e : Env := tab.env []
noncomputable def f54L0 {R : Type} (n : Nat) (x0 : Option R) (x1 : Int → Int → Bool → Option R) (vs0 : List ByteArray) : Nat → Int → Int → Option R
  | 0, _, _ => none
  | m + 1, vs1, vs5 =>
    (cond (decide (vs5 < (vs0.length : Int)))
      (cond ((decide ((0 : Int) ≤ vs5)) && (decide (vs5 < (vs0.length : Int))))
        (cond (decide ((IntKind.wrap .i64 (vs1 - (ByteArray.size (atI (t := .str) vs0 (Int.toNat vs5)) : Int))) < (0 : Int)))
          (x0)
          (f54L0 n x0 x1 vs0 m (IntKind.wrap .i64 (vs1 - (ByteArray.size (atI (t := .str) vs0 (Int.toNat vs5)) : Int))) (IntKind.wrap .i64 (vs5 + (1 : Int)))))
        none)
      (x1 vs1 vs5 (decide (vs5 < (vs0.length : Int)))))
theorem f54L0_b {R : Type} (n : Nat) (k' : Ex → St → Option R) (vs0 : List ByteArray) (vs1 : Int) (vs5 : Int) : ev f54e f54k n (cAt [1,1,1,0,1,0,0] f54c) ⟨[(0, .c (.one (.ro .str vs0))), (1, .c (.one (.v (.int .i64 vs1)))), (5, .c (.one (.v (.int .i64 vs5))))], [], []⟩ k' =
    (cond (decide (vs5 < (vs0.length : Int)))
    (cond ((decide ((0 : Int) ≤ vs5)) && (decide (vs5 < (vs0.length : Int))))
      (cond (decide ((IntKind.wrap .i64 (vs1 - (ByteArray.size (atI (t := .str) vs0 (Int.toNat vs5)) : Int))) < (0 : Int)))
        (k' .ret ⟨[(4, .c (.one (.v (.int .i64 (-1 : Int)))))], [], []⟩)
        (k' .normal ⟨[(0, .c (.one (.ro .str vs0))), (1, .c (.one (.v (.int .i64 (IntKind.wrap .i64 (vs1 - (ByteArray.size (atI (t := .str) vs0 (Int.toNat vs5)) : Int))))))), (5, .c (.one (.v (.int .i64 (IntKind.wrap .i64 (vs5 + (1 : Int)))))))], [], []⟩))
      none)
    (k' (.exit 0) ⟨[(0, .c (.one (.ro .str vs0))), (1, .c (.one (.v (.int .i64 vs1)))), (5, .c (.one (.v (.int .i64 vs5)))), (15, .c (.one (.v (.bool (decide (vs5 < (vs0.length : Int)))))))], [], []⟩)) := by kernel_rfl
theorem f54L0_eq {R : Type} (n : Nat) (k' : Ex → St → Option R) (vs0 : List ByteArray) : ∀ (m : Nat) (vs1 : Int) (vs5 : Int), iter (fun st k => ev f54e f54k n (cAt [1,1,1,0,1,0,0] f54c) st k) m ⟨[(0, .c (.one (.ro .str vs0))), (1, .c (.one (.v (.int .i64 vs1)))), (5, .c (.one (.v (.int .i64 vs5))))], [], []⟩ k' = f54L0 n (k' .ret ⟨[(4, .c (.one (.v (.int .i64 (-1 : Int)))))], [], []⟩) (fun (xvs1 : Int) (xvs5 : Int) (xvs15 : Bool) => k' (.exit 0) ⟨[(0, .c (.one (.ro .str vs0))), (1, .c (.one (.v (.int .i64 xvs1)))), (5, .c (.one (.v (.int .i64 xvs5)))), (15, .c (.one (.v (.bool xvs15))))], [], []⟩) vs0 m vs1 vs5 := by
  intro m; induction m with
  | zero => intros; rfl
  | succ m ih =>
    intro vs1 vs5
    simp only [iter]
    rw [f54L0_b]
    simp only [ih, f54L0]

noncomputable def f54K0 {R : Type} (n : Nat) (k' : Ex → St → Option R) : Ex → St → Option R := (blockK 0 (seqK f54e f54k n (cAt [1,1,1,1] f54c) k'))
theorem f54K0_x0 {R : Type} (n : Nat) (k : List Dt → Option R) (a0 : List ByteArray) (a1 : Int)  : f54K0 n (exitK f54e [.ro, .ro] [false] true [.tmp 4] [3] [.d (.sl .str) a0, .d (.i .i64) a1] k) .ret ⟨[(4, .c (.one (.v (.int .i64 (-1 : Int)))))], [], []⟩ =
    (k [.d (.i .i64) (-1 : Int)]) := by kernel_rfl
theorem f54K0_x1 {R : Type} (n : Nat) (k : List Dt → Option R) (a0 : List ByteArray) (a1 : Int) (vs0 : List ByteArray) (xvs1 : Int) (xvs5 : Int) (xvs15 : Bool) : f54K0 n (exitK f54e [.ro, .ro] [false] true [.tmp 4] [3] [.d (.sl .str) a0, .d (.i .i64) a1] k) (.exit 0) ⟨[(0, .c (.one (.ro .str vs0))), (1, .c (.one (.v (.int .i64 xvs1)))), (5, .c (.one (.v (.int .i64 xvs5)))), (15, .c (.one (.v (.bool xvs15))))], [], []⟩ =
    (k [.d (.i .i64) xvs1]) := by kernel_rfl

theorem f54_run {R : Type} (n : Nat) (k : List Dt → Option R) (a0 : List ByteArray) (a1 : Int) : evFn f54e f54k n f54c [.ro, .ro] [false] true [.tmp 4] [3] [.d (.sl .str) a0, .d (.i .i64) a1] k =
    (cond (decide ((IntKind.wrap .i64 (a1 - (a0.length : Int))) < (0 : Int)))
    (k [.d (.i .i64) (-1 : Int)])
    (f54L0 n (k [.d (.i .i64) (-1 : Int)]) (fun (xvs1 : Int) (xvs5 : Int) (xvs15 : Bool) =>
      (k [.d (.i .i64) xvs1])) a0 n (IntKind.wrap .i64 (a1 - (a0.length : Int))) (0 : Int))) := by
  refine Eq.trans (b := (cond (decide ((IntKind.wrap .i64 (a1 - (a0.length : Int))) < (0 : Int)))
    (k [.d (.i .i64) (-1 : Int)])
    (iter (fun st k => ev f54e f54k n (cAt [1,1,1,0,1,0,0] f54c) st k) n ⟨[(0, .c (.one (.ro .str a0))), (1, .c (.one (.v (.int .i64 (IntKind.wrap .i64 (a1 - (a0.length : Int))))))), (5, .c (.one (.v (.int .i64 (0 : Int)))))], [], []⟩ (f54K0 n (exitK f54e [.ro, .ro] [false] true [.tmp 4] [3] [.d (.sl .str) a0, .d (.i .i64) a1] k))))) (by kernel_rfl) ?_
  simp only [f54L0_eq, f54K0_x0, f54K0_x1]
theorem f54_spec (a0 : List ByteArray) (a1 : Int) (hg : gzL_str a0 a1 = true) : ∃ keep rounds, ∀ {R : Type} (k : List Dt → Option R), evFn f54e keep rounds f54c [.ro, .ro] [false] true [.tmp 4] [3] [.d (.sl .str) a0, .d (.i .i64) a1] k = k [.d (.i .i64) (zL_str a0 a1)] := by
  simp only [gzL_str, okL, Bool.and_eq_true, okN_iff] at hg
  obtain ⟨⟨hl, hs⟩, hn⟩ := hg
  have hl : a0.length ≤ 9223372036854775807 := bleN hl
  refine ⟨f54k, a0.length + 1, fun k => ?_⟩
  rw [f54_run, wrap_id (x := a1 - (a0.length : Int)) (by omega) (by omega)]
  show _ = k [.d (.i .i64) (zL_str a0 a1)]
  unfold zL_str
  have eL : szL ByteArray.size a0 = a0.length + (a0.map ByteArray.size).sum := rfl
  by_cases hc : a1 - (a0.length : Int) < 0
  · simp only [hc, decide_true, cond_true]
    rw [szI_neg (by omega)]
  · simp only [hc, decide_false, cond_false]
    refine Eq.trans (loop_fold (xs := a0) (F := fun m j left => f54L0 (a0.length + 1) _ _ a0 m left (j : Int)) (step := szStep ByteArray.size)
      (out := fun _ => k [.d (.i .i64) (-1 : Int)]) (good := fun left => k [.d (.i .i64) left]) (fun n => 0 ≤ n ∧ n ≤ 1048576)
      (fun x n n' hx hn h => by
        unfold szStep at h
        split at h
        · cases h
        · cases h; omega)
      (fun m j n x hx hn => ?_)
      (fun m n hn => by simp only [f54L0, idxE, cond_false]) a0.length 0 (a0.length + 1) (a1 - (a0.length : Int)) (by omega) (by omega) (by omega)) ?_
    · obtain ⟨h1, h0, hw, ht⟩ := idx (lt_of_get hx) (by omega)
      have hx2 := List.all_eq_true.1 hs x (List.mem_of_getElem? hx)
      have hx2 : x.size ≤ 9223372036854775807 := bleN hx2
      simp only [f54L0, h1, h0, hw, ht, atI_of (t := .str) hx, Bool.and_self, cond_true]
      rw [wrap_id (x := n - (x.size : Int)) (by omega) (by omega)]
      unfold szStep
      by_cases h : n - (x.size : Int) < 0
      · simp only [h, decide_true, cond_true, if_true, Sum.elim_inl]
      · simp only [h, decide_false, cond_false, if_false, Sum.elim_inr]
    · rw [List.drop_zero, sz_fold _ _ _ (by omega)]
      by_cases h2 : a1 - (a0.length : Int) - ((a0.map ByteArray.size).sum : Nat) < 0
      · rw [if_pos h2, szI_neg (by omega)]; rfl
      · rw [if_neg h2, szI_pos (by omega)]
        simp only [Sum.elim_inr]
        rw [show a1 - (a0.length : Int) - ((a0.map ByteArray.size).sum : Nat) = a1 - (szL ByteArray.size a0 : Nat) by omega]

noncomputable def q54 : List Dt → Option (Bool × List Dt)
  | [.d (.sl .str) a0, .d (.i .i64) a1] => some ((gzL_str a0 a1), [.d (.i .i64) (zL_str a0 a1)])
  | _ => none
noncomputable def s54 : Gm.Spec := Gm.Spec.of [.ro, .ro] [false] true q54
theorem good54 : Gm.Good Try.prog (54, s54) := by
  have hl : ∀ x ∈ ([] : List (Nat × Gm.Spec)), Gm.Good Try.prog x := fun _ h => by cases h
  refine ⟨⟨spec_ok (tab_ok.env hl) (tab.natl hl) Try.func54 (by kernel_rfl : Try.f54.body = some f54c) [3] (by kernel_rfl) ?_, _, Try.func54, by kernel_rfl, of_decide_eq_true (by kernel_rfl)⟩, Gm.Spec.of_natl _ _ _ _⟩
  intro ds outs h
  unfold q54 at h
  split at h
  · simp only [Option.some.injEq, Prod.mk.injEq] at h; obtain ⟨hg, h⟩ := h; cases h; exact f54_spec _ _ hg
  · cases h
noncomputable def q19 : List Dt → Option (Bool × List Dt)
  | [.d .node a0, .d (.i .i64) a1] => some ((gz_node a0 a1), [.d (.i .i64) (z_node a0 a1)])
  | _ => none
noncomputable def mu19 : List Dt → Nat
  | [.d .node a0, .d (.i .i64) a1] => mz_node a0 a1
  | _ => 0
noncomputable def s19r (N : Nat) : Gm.Spec := Gm.Spec.of [.ro, .ro] [false] true (qlt mu19 N q19)
noncomputable def s19 : Gm.Spec := Gm.Spec.of [.ro, .ro] [false] true q19
noncomputable def q55 : List Dt → Option (Bool × List Dt)
  | [.d (.sl .node) a0, .d (.i .i64) a1] => some ((gzL_node a0 a1), [.d (.i .i64) (zL_node a0 a1)])
  | _ => none
noncomputable def mu55 : List Dt → Nat
  | [.d (.sl .node) a0, .d (.i .i64) a1] => mzL_node a0 a1
  | _ => 0
noncomputable def s55r (N : Nat) : Gm.Spec := Gm.Spec.of [.ro, .ro] [false] true (qlt mu55 N q55)
/-! ### loop.example/g00465/laws.szNode -/
noncomputable def f19c : Code := (Try.f19.body).getD .skip
def f19k : Nat → Kp := kat [⟨[1, 2], [], [], []⟩, ⟨[1, 2], [], [], []⟩, ⟨[1, 2, 11], [], [], []⟩, ⟨[4], [], [], []⟩, ⟨[1, 2], [], [], []⟩, ⟨[1, 2, 17], [], [], []⟩, ⟨[4], [], [], []⟩, ⟨[1], [], [], []⟩, ⟨[1, 23], [], [], []⟩, ⟨[4], [], [], []⟩, ⟨[4], [], [], []⟩]
noncomputable def f19e (N : Nat) : Env := tab.env [(54, s54), (55, s55r N)]
theorem f19_run {R : Type} (N : Nat) (n : Nat) (k : List Dt → Option R) (a0 : NodeT) (a1 : Int) : evFn (f19e N) f19k n f19c [.ro, .ro] [false] true [.tmp 4] [3] [.d .node a0, .d (.i .i64) a1] k =
    (cond (decide ((IntKind.wrap .i64 (a1 - (ByteArray.size (NodeT.s a0) : Int))) < (0 : Int)))
    (k [.d (.i .i64) (-1 : Int)])
    (cond (gzL_str (NodeT.keys a0) (IntKind.wrap .i64 (a1 - (ByteArray.size (NodeT.s a0) : Int))))
      (cond (decide ((zL_str (NodeT.keys a0) (IntKind.wrap .i64 (a1 - (ByteArray.size (NodeT.s a0) : Int)))) < (0 : Int)))
        (k [.d (.i .i64) (-1 : Int)])
        (cond ((gzL_node (NodeT.kids a0) (zL_str (NodeT.keys a0) (IntKind.wrap .i64 (a1 - (ByteArray.size (NodeT.s a0) : Int))))) && (Nat.blt (mzL_node (NodeT.kids a0) (zL_str (NodeT.keys a0) (IntKind.wrap .i64 (a1 - (ByteArray.size (NodeT.s a0) : Int))))) N))
          (cond (decide ((zL_node (NodeT.kids a0) (zL_str (NodeT.keys a0) (IntKind.wrap .i64 (a1 - (ByteArray.size (NodeT.s a0) : Int))))) < (0 : Int)))
            (k [.d (.i .i64) (-1 : Int)])
            (k [.d (.i .i64) (zL_node (NodeT.kids a0) (zL_str (NodeT.keys a0) (IntKind.wrap .i64 (a1 - (ByteArray.size (NodeT.s a0) : Int)))))]))
          none))
      none)) := by kernel_rfl
theorem f19_spec (N : Nat) (a0 : NodeT) (a1 : Int) (hg : gz_node a0 a1 = true) (hm : mu19 [.d .node a0, .d (.i .i64) a1] = N) : ∃ keep rounds, ∀ {R : Type} (k : List Dt → Option R), evFn (f19e N) keep rounds f19c [.ro, .ro] [false] true [.tmp 4] [3] [.d .node a0, .d (.i .i64) a1] k = k [.d (.i .i64) (z_node a0 a1)] := by
  have hm : mz_node a0 a1 = N := hm
  subst hm
  simp only [gz_node, ok_node_def, Bool.and_eq_true, okN_iff] at hg
  obtain ⟨⟨hf_kind, hf_n, hf_s, hf_keys, hf_kids⟩, hn1, hn2⟩ := hg
  have hf_sb : a0.s.size ≤ 9223372036854775807 := bleN hf_s
  have eN := szN_node_def a0
  refine ⟨f19k, 0, fun {R} k => ?_⟩
  rw [f19_run]
  show _ = k [.d (.i .i64) (z_node a0 a1)]
  unfold z_node
  rw [wrap_id (x := a1 - ((a0.s.size : Nat) : Int)) (by omega) (by omega)]
  by_cases h1 : a1 - ((a0.s.size : Nat) : Int) < 0
  · simp only [h1, decide_true, cond_true]; rw [szI_neg (by omega)]
  simp only [h1, decide_false, cond_false]
  have g2 : gzL_str a0.keys (a1 - ((a0.s.size : Nat) : Int)) = true := by simp only [gzL_str, Bool.and_eq_true, okN_iff]; exact ⟨hf_keys, by omega, by omega⟩
  have z2 : zL_str a0.keys (a1 - ((a0.s.size : Nat) : Int)) = szI (szL ByteArray.size a0.keys) (a1 - ((a0.s.size : Nat) : Int)) := rfl
  rw [g2, z2]
  by_cases h2 : (a1 - ((a0.s.size : Nat) : Int)) - ((szL ByteArray.size a0.keys : Nat) : Int) < 0
  · rw [szI_neg h2, szI_neg (by omega)]; rfl
  rw [szI_pos h2]
  simp only [cond_true, h2, decide_false, cond_false, Bool.and_self]
  have g3 : gzL_node a0.kids ((a1 - ((a0.s.size : Nat) : Int)) - ((szL ByteArray.size a0.keys : Nat) : Int)) = true := by simp only [gzL_node, Bool.and_eq_true, okN_iff]; exact ⟨hf_kids, by omega, by omega⟩
  have m3 : Nat.blt (mzL_node a0.kids ((a1 - ((a0.s.size : Nat) : Int)) - ((szL ByteArray.size a0.keys : Nat) : Int))) (mz_node a0 a1) = true := by rw [Nat.blt_eq]; simp only [mzL_node, mz_node, nd_node_def]; omega
  have z3 : zL_node a0.kids ((a1 - ((a0.s.size : Nat) : Int)) - ((szL ByteArray.size a0.keys : Nat) : Int)) = szI (szL szN_node a0.kids) ((a1 - ((a0.s.size : Nat) : Int)) - ((szL ByteArray.size a0.keys : Nat) : Int)) := rfl
  rw [g3, m3, z3]
  by_cases h3 : ((a1 - ((a0.s.size : Nat) : Int)) - ((szL ByteArray.size a0.keys : Nat) : Int)) - ((szL szN_node a0.kids : Nat) : Int) < 0
  · rw [szI_neg h3, szI_neg (by omega)]; rfl
  rw [szI_pos h3]
  simp only [cond_true, h3, decide_false, cond_false, Bool.and_self]
  rw [szI_pos (by omega)]
  first
    | rfl
    | rw [show (((a1 - ((a0.s.size : Nat) : Int)) - ((szL ByteArray.size a0.keys : Nat) : Int)) - ((szL szN_node a0.kids : Nat) : Int)) = a1 - ((szN_node a0 : Nat) : Int) by omega]


/-! ### loop.example/g00465/laws.szNodeS -/
noncomputable def f55c : Code := (Try.f55.body).getD .skip
def f55k : Nat → Kp := kat [⟨[0, 1], [], [], []⟩, ⟨[0, 1], [], [], []⟩, ⟨[0, 1, 11], [], [], []⟩, ⟨[4], [], [], []⟩, ⟨[0, 1, 5], [], [], []⟩, ⟨[0, 1, 5, 15], [], [], []⟩, ⟨[0, 1, 5], [], [], []⟩, ⟨[0, 1, 5], [], [], []⟩, ⟨[0, 1, 5, 25], [], [], []⟩, ⟨[4], [], [], []⟩, ⟨[4], [], [], []⟩]
noncomputable def f55e (N : Nat) : Env := tab.env [(19, s19r N)]
noncomputable def f55L0 {R : Type} (N : Nat) (n : Nat) (x0 : Option R) (x1 : Int → Int → Bool → Option R) (vs0 : List NodeT) : Nat → Int → Int → Option R
  | 0, _, _ => none
  | m + 1, vs1, vs5 =>
    (cond (decide (vs5 < (vs0.length : Int)))
      (cond ((decide ((0 : Int) ≤ vs5)) && (decide (vs5 < (vs0.length : Int))))
        (cond ((gz_node (eN (atI (t := .node) vs0 (Int.toNat vs5))) vs1) && (Nat.blt (mz_node (eN (atI (t := .node) vs0 (Int.toNat vs5))) vs1) N))
          (cond (decide ((z_node (eN (atI (t := .node) vs0 (Int.toNat vs5))) vs1) < (0 : Int)))
            (x0)
            (f55L0 N n x0 x1 vs0 m (z_node (eN (atI (t := .node) vs0 (Int.toNat vs5))) vs1) (IntKind.wrap .i64 (vs5 + (1 : Int)))))
          none)
        none)
      (x1 vs1 vs5 (decide (vs5 < (vs0.length : Int)))))
theorem f55L0_b {R : Type} (N : Nat) (n : Nat) (k' : Ex → St → Option R) (vs0 : List NodeT) (vs1 : Int) (vs5 : Int) : ev (f55e N) f55k n (cAt [1,1,1,0,1,0,0] f55c) ⟨[(0, .c (.one (.ro .node vs0))), (1, .c (.one (.v (.int .i64 vs1)))), (5, .c (.one (.v (.int .i64 vs5))))], [], []⟩ k' =
    (cond (decide (vs5 < (vs0.length : Int)))
    (cond ((decide ((0 : Int) ≤ vs5)) && (decide (vs5 < (vs0.length : Int))))
      (cond ((gz_node (eN (atI (t := .node) vs0 (Int.toNat vs5))) vs1) && (Nat.blt (mz_node (eN (atI (t := .node) vs0 (Int.toNat vs5))) vs1) N))
        (cond (decide ((z_node (eN (atI (t := .node) vs0 (Int.toNat vs5))) vs1) < (0 : Int)))
          (k' .ret ⟨[(4, .c (.one (.v (.int .i64 (-1 : Int)))))], [], []⟩)
          (k' .normal ⟨[(0, .c (.one (.ro .node vs0))), (1, .c (.one (.v (.int .i64 (z_node (eN (atI (t := .node) vs0 (Int.toNat vs5))) vs1))))), (5, .c (.one (.v (.int .i64 (IntKind.wrap .i64 (vs5 + (1 : Int)))))))], [], []⟩))
        none)
      none)
    (k' (.exit 0) ⟨[(0, .c (.one (.ro .node vs0))), (1, .c (.one (.v (.int .i64 vs1)))), (5, .c (.one (.v (.int .i64 vs5)))), (15, .c (.one (.v (.bool (decide (vs5 < (vs0.length : Int)))))))], [], []⟩)) := by kernel_rfl
theorem f55L0_eq {R : Type} (N : Nat) (n : Nat) (k' : Ex → St → Option R) (vs0 : List NodeT) : ∀ (m : Nat) (vs1 : Int) (vs5 : Int), iter (fun st k => ev (f55e N) f55k n (cAt [1,1,1,0,1,0,0] f55c) st k) m ⟨[(0, .c (.one (.ro .node vs0))), (1, .c (.one (.v (.int .i64 vs1)))), (5, .c (.one (.v (.int .i64 vs5))))], [], []⟩ k' = f55L0 N n (k' .ret ⟨[(4, .c (.one (.v (.int .i64 (-1 : Int)))))], [], []⟩) (fun (xvs1 : Int) (xvs5 : Int) (xvs15 : Bool) => k' (.exit 0) ⟨[(0, .c (.one (.ro .node vs0))), (1, .c (.one (.v (.int .i64 xvs1)))), (5, .c (.one (.v (.int .i64 xvs5)))), (15, .c (.one (.v (.bool xvs15))))], [], []⟩) vs0 m vs1 vs5 := by
  intro m; induction m with
  | zero => intros; rfl
  | succ m ih =>
    intro vs1 vs5
    simp only [iter]
    rw [f55L0_b]
    simp only [ih, f55L0]

noncomputable def f55K0 {R : Type} (N : Nat) (n : Nat) (k' : Ex → St → Option R) : Ex → St → Option R := (blockK 0 (seqK (f55e N) f55k n (cAt [1,1,1,1] f55c) k'))
theorem f55K0_x0 {R : Type} (N : Nat) (n : Nat) (k : List Dt → Option R) (a0 : List NodeT) (a1 : Int)  : f55K0 N n (exitK (f55e N) [.ro, .ro] [false] true [.tmp 4] [3] [.d (.sl .node) a0, .d (.i .i64) a1] k) .ret ⟨[(4, .c (.one (.v (.int .i64 (-1 : Int)))))], [], []⟩ =
    (k [.d (.i .i64) (-1 : Int)]) := by kernel_rfl
theorem f55K0_x1 {R : Type} (N : Nat) (n : Nat) (k : List Dt → Option R) (a0 : List NodeT) (a1 : Int) (vs0 : List NodeT) (xvs1 : Int) (xvs5 : Int) (xvs15 : Bool) : f55K0 N n (exitK (f55e N) [.ro, .ro] [false] true [.tmp 4] [3] [.d (.sl .node) a0, .d (.i .i64) a1] k) (.exit 0) ⟨[(0, .c (.one (.ro .node vs0))), (1, .c (.one (.v (.int .i64 xvs1)))), (5, .c (.one (.v (.int .i64 xvs5)))), (15, .c (.one (.v (.bool xvs15))))], [], []⟩ =
    (k [.d (.i .i64) xvs1]) := by kernel_rfl

theorem f55_run {R : Type} (N : Nat) (n : Nat) (k : List Dt → Option R) (a0 : List NodeT) (a1 : Int) : evFn (f55e N) f55k n f55c [.ro, .ro] [false] true [.tmp 4] [3] [.d (.sl .node) a0, .d (.i .i64) a1] k =
    (cond (decide ((IntKind.wrap .i64 (a1 - (a0.length : Int))) < (0 : Int)))
    (k [.d (.i .i64) (-1 : Int)])
    (f55L0 N n (k [.d (.i .i64) (-1 : Int)]) (fun (xvs1 : Int) (xvs5 : Int) (xvs15 : Bool) =>
      (k [.d (.i .i64) xvs1])) a0 n (IntKind.wrap .i64 (a1 - (a0.length : Int))) (0 : Int))) := by
  refine Eq.trans (b := (cond (decide ((IntKind.wrap .i64 (a1 - (a0.length : Int))) < (0 : Int)))
    (k [.d (.i .i64) (-1 : Int)])
    (iter (fun st k => ev (f55e N) f55k n (cAt [1,1,1,0,1,0,0] f55c) st k) n ⟨[(0, .c (.one (.ro .node a0))), (1, .c (.one (.v (.int .i64 (IntKind.wrap .i64 (a1 - (a0.length : Int))))))), (5, .c (.one (.v (.int .i64 (0 : Int)))))], [], []⟩ (f55K0 N n (exitK (f55e N) [.ro, .ro] [false] true [.tmp 4] [3] [.d (.sl .node) a0, .d (.i .i64) a1] k))))) (by kernel_rfl) ?_
  simp only [f55L0_eq, f55K0_x0, f55K0_x1]
theorem f55_spec (N : Nat) (a0 : List NodeT) (a1 : Int) (hg : gzL_node a0 a1 = true) (hm : mu55 [.d (.sl .node) a0, .d (.i .i64) a1] = N) : ∃ keep rounds, ∀ {R : Type} (k : List Dt → Option R), evFn (f55e N) keep rounds f55c [.ro, .ro] [false] true [.tmp 4] [3] [.d (.sl .node) a0, .d (.i .i64) a1] k = k [.d (.i .i64) (zL_node a0 a1)] := by
  have hm : mzL_node a0 a1 = N := hm
  subst hm
  simp only [gzL_node, okL, Bool.and_eq_true, okN_iff] at hg
  obtain ⟨⟨hl, hs⟩, hn⟩ := hg
  have hl : a0.length ≤ 9223372036854775807 := bleN hl
  refine ⟨f55k, a0.length + 1, fun {R} k => ?_⟩
  rw [f55_run, wrap_id (x := a1 - (a0.length : Int)) (by omega) (by omega)]
  show _ = k [.d (.i .i64) (zL_node a0 a1)]
  unfold zL_node
  have eL : szL szN_node a0 = a0.length + (a0.map szN_node).sum := rfl
  by_cases hc : a1 - (a0.length : Int) < 0
  · simp only [hc, decide_true, cond_true]
    rw [szI_neg (by omega)]
  · simp only [hc, decide_false, cond_false]
    refine Eq.trans (loop_fold (xs := a0) (F := fun m j left => f55L0 (mzL_node a0 a1) (a0.length + 1) _ _ a0 m left (j : Int)) (step := szStep szN_node)
      (out := fun _ => k [.d (.i .i64) (-1 : Int)]) (good := fun left => k [.d (.i .i64) left]) (fun n => 0 ≤ n ∧ n ≤ 1048576)
      (fun x n n' hx hn h => by
        unfold szStep at h
        split at h
        · cases h
        · cases h; omega)
      (fun m j n x hx hn => ?_)
      (fun m n hn => by simp only [f55L0, idxE, cond_false]) a0.length 0 (a0.length + 1) (a1 - (a0.length : Int)) (by omega) (by omega) (by omega)) ?_
    · obtain ⟨h1, h0, hw, ht⟩ := idx (lt_of_get hx) (by omega)
      have hmem := List.mem_of_getElem? hx
      have hx2 := List.all_eq_true.1 hs x hmem
      have hb : Nat.blt (mz_node x n) (mzL_node a0 a1) = true := by
        have := ndL_mem (f := nd_node) hmem
        rw [Nat.blt_eq]; simp only [mz_node, mzL_node]; omega
      have hg2 : gz_node x n = true := by simp only [gz_node, Bool.and_eq_true, okN_iff]; exact ⟨hx2, by omega, by omega⟩
      have hz : z_node x n = szI (szN_node x) n := rfl
      simp only [f55L0, h1, h0, hw, ht, atI_of (t := .node) hx, Bool.and_self, cond_true, eta_node, eN_eq, hg2, hz, hb]
      unfold szStep
      by_cases h : n - (szN_node x : Int) < 0
      · rw [szI_neg h]; simp only [h, if_true, Sum.elim_inl]; rfl
      · rw [szI_pos h]; simp only [h, decide_false, cond_false, if_false, Sum.elim_inr]
    · rw [List.drop_zero, sz_fold _ _ _ (by omega)]
      by_cases h2 : a1 - (a0.length : Int) - ((a0.map szN_node).sum : Nat) < 0
      · rw [if_pos h2, szI_neg (by omega)]; rfl
      · rw [if_neg h2, szI_pos (by omega)]
        simp only [Sum.elim_inr]
        rw [show a1 - (a0.length : Int) - ((a0.map szN_node).sum : Nat) = a1 - (szL szN_node a0 : Nat) by omega]


theorem goods19 : ∀ x ∈ ([⟨19, [.ro, .ro], [false], true, mu19, q19⟩, ⟨55, [.ro, .ro], [false], true, mu55, q55⟩] : List Rc), Gm.SpecOk Try.prog x.f (Gm.Spec.of x.ms x.rs x.ow x.q) := by
  refine spec_recs _ fun N hr => ?_
  have hr1 : Gm.SpecOk Try.prog 19 (Gm.Spec.of [.ro, .ro] [false] true (qlt mu19 N q19)) := fun {R} => hr _ (.head _)
  have hr2 : Gm.SpecOk Try.prog 55 (Gm.Spec.of [.ro, .ro] [false] true (qlt mu55 N q55)) := fun {R} => hr _ (.tail _ (.head _))
  refine List.forall_mem_cons.2 ⟨?_, List.forall_mem_cons.2 ⟨?_, List.forall_mem_nil _⟩⟩
  · have hl : ∀ x ∈ ([(54, s54), (55, s55r N)] : List (Nat × Gm.Spec)), Gm.Good Try.prog x := List.forall_mem_cons.2 ⟨good54, List.forall_mem_cons.2 ⟨⟨⟨hr2, _, Try.func55, by kernel_rfl, of_decide_eq_true (by kernel_rfl)⟩, Gm.Spec.of_natl _ _ _ _⟩, List.forall_mem_nil _⟩⟩
    show Gm.SpecOk Try.prog 19 (Gm.Spec.of [.ro, .ro] [false] true (qeq mu19 N q19))
    intro R
    refine spec_ok (E := f19e N) (tab_ok.env hl) (tab.natl hl) Try.func19 (by kernel_rfl : Try.f19.body = some f19c) [3] (by kernel_rfl) ?_
    intro ds outs h
    obtain ⟨h, hm⟩ := qeq_some h
    unfold q19 at h
    split at h
    · simp only [Option.some.injEq, Prod.mk.injEq] at h; obtain ⟨hg, h⟩ := h; cases h; exact f19_spec N _ _ hg hm
    · cases h
  · have hl : ∀ x ∈ ([(19, s19r N)] : List (Nat × Gm.Spec)), Gm.Good Try.prog x := List.forall_mem_cons.2 ⟨⟨⟨hr1, _, Try.func19, by kernel_rfl, of_decide_eq_true (by kernel_rfl)⟩, Gm.Spec.of_natl _ _ _ _⟩, List.forall_mem_nil _⟩
    show Gm.SpecOk Try.prog 55 (Gm.Spec.of [.ro, .ro] [false] true (qeq mu55 N q55))
    intro R
    refine spec_ok (E := f55e N) (tab_ok.env hl) (tab.natl hl) Try.func55 (by kernel_rfl : Try.f55.body = some f55c) [3] (by kernel_rfl) ?_
    intro ds outs h
    obtain ⟨h, hm⟩ := qeq_some h
    unfold q55 at h
    split at h
    · simp only [Option.some.injEq, Prod.mk.injEq] at h; obtain ⟨hg, h⟩ := h; cases h; exact f55_spec N _ _ hg hm
    · cases h
theorem good19 : Gm.Good Try.prog (19, s19) := ⟨⟨fun {R} => goods19 _ (.head _), _, Try.func19, by kernel_rfl, of_decide_eq_true (by kernel_rfl)⟩, Gm.Spec.of_natl _ _ _ _⟩
/-! ### loop.example/g00465/laws.toStringS -/
noncomputable def f60c : Code := (Try.f60.body).getD .skip
def f60k : Nat → Kp := kat [⟨[0], [], [], []⟩, ⟨[0, 3], [], [], []⟩, ⟨[0, 3, 4], [], [], []⟩, ⟨[0, 3, 4, 11], [], [], []⟩, ⟨[0, 3, 4], [], [], []⟩, ⟨[0, 3, 4], [], [], []⟩, ⟨[2], [], [], []⟩]
noncomputable def f60e : Env := tab.env []
noncomputable def f60L0 {R : Type} (n : Nat) (x0 : Int → Bool → (List ByteArray) → Option R) (vs0 : List ByteArray) : Nat → Int → (List ByteArray) → Option R
  | 0, _, _ => none
  | m + 1, vs4, vr448 =>
    (cond (decide (vs4 < (vs0.length : Int)))
      (cond ((decide ((0 : Int) ≤ vs4)) && (decide (vs4 < (vs0.length : Int))))
        (cond ((decide ((0 : Int) ≤ vs4)) && (decide (vs4 < (vr448.length : Int))))
          (f60L0 n x0 vs0 m (IntKind.wrap .i64 (vs4 + (1 : Int))) (vr448.set (Int.toNat vs4) (atI (t := .str) vs0 (Int.toNat vs4))))
          none)
        none)
      (x0 vs4 (decide (vs4 < (vs0.length : Int))) vr448))
theorem f60L0_b {R : Type} (n : Nat) (k' : Ex → St → Option R) (vs0 : List ByteArray) (vs4 : Int) (vr448 : List ByteArray) : ev f60e f60k n (cAt [1,1,0,1,0,0] f60c) ⟨[(0, .c (.one (.ro .str vs0))), (3, .c (.one (.h 448 0 0 []))), (4, .c (.one (.v (.int .i64 vs4))))], [], [(448, .live ⟨.str, .deep, 0, [], vr448⟩)]⟩ k' =
    (cond (decide (vs4 < (vs0.length : Int)))
    (cond ((decide ((0 : Int) ≤ vs4)) && (decide (vs4 < (vs0.length : Int))))
      (cond ((decide ((0 : Int) ≤ vs4)) && (decide (vs4 < (vr448.length : Int))))
        (k' .normal ⟨[(0, .c (.one (.ro .str vs0))), (3, .c (.one (.h 448 0 0 []))), (4, .c (.one (.v (.int .i64 (IntKind.wrap .i64 (vs4 + (1 : Int)))))))], [], [(448, .live ⟨.str, .deep, 0, [], (vr448.set (Int.toNat vs4) (atI (t := .str) vs0 (Int.toNat vs4)))⟩)]⟩)
        none)
      none)
    (k' (.exit 0) ⟨[(0, .c (.one (.ro .str vs0))), (3, .c (.one (.h 448 0 0 []))), (4, .c (.one (.v (.int .i64 vs4)))), (11, .c (.one (.v (.bool (decide (vs4 < (vs0.length : Int)))))))], [], [(448, .live ⟨.str, .deep, 0, [], vr448⟩)]⟩)) := by kernel_rfl
theorem f60L0_eq {R : Type} (n : Nat) (k' : Ex → St → Option R) (vs0 : List ByteArray) : ∀ (m : Nat) (vs4 : Int) (vr448 : List ByteArray), iter (fun st k => ev f60e f60k n (cAt [1,1,0,1,0,0] f60c) st k) m ⟨[(0, .c (.one (.ro .str vs0))), (3, .c (.one (.h 448 0 0 []))), (4, .c (.one (.v (.int .i64 vs4))))], [], [(448, .live ⟨.str, .deep, 0, [], vr448⟩)]⟩ k' = f60L0 n (fun (xvs4 : Int) (xvs11 : Bool) (xvr448 : List ByteArray) => k' (.exit 0) ⟨[(0, .c (.one (.ro .str vs0))), (3, .c (.one (.h 448 0 0 []))), (4, .c (.one (.v (.int .i64 xvs4)))), (11, .c (.one (.v (.bool xvs11))))], [], [(448, .live ⟨.str, .deep, 0, [], xvr448⟩)]⟩) vs0 m vs4 vr448 := by
  intro m; induction m with
  | zero => intros; rfl
  | succ m ih =>
    intro vs4 vr448
    simp only [iter]
    rw [f60L0_b]
    simp only [ih, f60L0]

noncomputable def f60K0 {R : Type} (n : Nat) (k' : Ex → St → Option R) : Ex → St → Option R := (blockK 0 (seqK f60e f60k n (cAt [1,1,1] f60c) k'))
theorem f60K0_x0 {R : Type} (n : Nat) (k : List Dt → Option R) (a0 : List ByteArray) (vs0 : List ByteArray) (xvs4 : Int) (xvs11 : Bool) (xvr448 : List ByteArray) : f60K0 n (exitK f60e [.ro] [false] true [.tmp 2] [24] [.d (.sl .str) a0] k) (.exit 0) ⟨[(0, .c (.one (.ro .str vs0))), (3, .c (.one (.h 448 0 0 []))), (4, .c (.one (.v (.int .i64 xvs4)))), (11, .c (.one (.v (.bool xvs11))))], [], [(448, .live ⟨.str, .deep, 0, [], xvr448⟩)]⟩ =
    (k [.d (.sl .str) xvr448]) := by kernel_rfl

theorem f60_run {R : Type} (n : Nat) (k : List Dt → Option R) (a0 : List ByteArray) : evFn f60e f60k n f60c [.ro] [false] true [.tmp 2] [24] [.d (.sl .str) a0] k =
    (cond ((decide ((a0.length : Int) = (a0.length : Int))) && ((decide ((0 : Int) ≤ (a0.length : Int))) && (decide ((a0.length : Int) ≤ (LIM : Int)))))
    (f60L0 n (fun (xvs4 : Int) (xvs11 : Bool) (xvr448 : List ByteArray) =>
      (k [.d (.sl .str) xvr448])) a0 n (0 : Int) (List.replicate (Int.toNat (a0.length : Int)) ByteArray.empty))
    none) := by
  refine Eq.trans (b := (cond ((decide ((a0.length : Int) = (a0.length : Int))) && ((decide ((0 : Int) ≤ (a0.length : Int))) && (decide ((a0.length : Int) ≤ (LIM : Int)))))
    (iter (fun st k => ev f60e f60k n (cAt [1,1,0,1,0,0] f60c) st k) n ⟨[(0, .c (.one (.ro .str a0))), (3, .c (.one (.h 448 0 0 []))), (4, .c (.one (.v (.int .i64 (0 : Int)))))], [], [(448, .live ⟨.str, .deep, 0, [], (List.replicate (Int.toNat (a0.length : Int)) ByteArray.empty)⟩)]⟩ (f60K0 n (exitK f60e [.ro] [false] true [.tmp 2] [24] [.d (.sl .str) a0] k)))
    none)) (by kernel_rfl) ?_
  simp only [f60L0_eq, f60K0_x0]
theorem f60_spec (a0 : List ByteArray) (hg : smL smStr a0 = true) : ∃ keep rounds, ∀ {R : Type} (k : List Dt → Option R), evFn f60e keep rounds f60c [.ro] [false] true [.tmp 2] [24] [.d (.sl .str) a0] k = k [.d (.sl .str) a0] := by
  have hl : a0.length ≤ 1048576 := smL_len hg
  have hs := smL_all hg
  refine ⟨f60k, a0.length + 1, fun k => ?_⟩
  rw [f60_run, mkOk hl]
  simp only [cond_true]
  have := loop_copy (xs := a0) (f := fun x => x) (F := fun m j out => f60L0 (a0.length + 1) (fun (xvs4 : Int) (xvs11 : Bool) (xvr448 : List ByteArray) => (k [.d (.sl .str) xvr448])) a0 m (j : Int) out) (good := fun out => k [.d (.sl .str) out]) ByteArray.empty
    (fun m j out x hx hl' => by
      obtain ⟨h1, h0, hw, ht⟩ := idx (lt_of_get hx) (by omega)
      obtain ⟨h2, _, _, _⟩ := idx (show j < out.length by rw [hl']; exact lt_of_get hx) (by omega)
      have hx2 := List.all_eq_true.1 hs x (List.mem_of_getElem? hx)
      simp only [f60L0, h1, h0, h2, hw, ht, atI_of (t := .str) hx, Bool.and_self, cond_true])
    (fun m out => by simp only [f60L0, idxE, cond_false]) a0.length 0 (a0.length + 1) (by omega) (by omega)
  simpa using this

noncomputable def q60 : List Dt → Option (Bool × List Dt)
  | [.d (.sl .str) a0] => some ((smL smStr a0), [.d (.sl .str) a0])
  | _ => none
noncomputable def s60 : Gm.Spec := Gm.Spec.of [.ro] [false] true q60
theorem good60 : Gm.Good Try.prog (60, s60) := by
  have hl : ∀ x ∈ ([] : List (Nat × Gm.Spec)), Gm.Good Try.prog x := fun _ h => by cases h
  refine ⟨⟨spec_ok (tab_ok.env hl) (tab.natl hl) Try.func60 (by kernel_rfl : Try.f60.body = some f60c) [24] (by kernel_rfl) ?_, _, Try.func60, by kernel_rfl, of_decide_eq_true (by kernel_rfl)⟩, Gm.Spec.of_natl _ _ _ _⟩
  intro ds outs h
  unfold q60 at h
  split at h
  · simp only [Option.some.injEq, Prod.mk.injEq] at h; obtain ⟨hg, h⟩ := h; cases h; exact f60_spec _ hg
  · cases h
noncomputable def q21 : List Dt → Option (Bool × List Dt)
  | [.d .node a0] => some ((sm_node a0), [.d .node a0])
  | _ => none
noncomputable def mu21 : List Dt → Nat
  | [.d .node a0] => mt_node a0
  | _ => 0
noncomputable def s21r (N : Nat) : Gm.Spec := Gm.Spec.of [.ro] [false] true (qlt mu21 N q21)
noncomputable def s21 : Gm.Spec := Gm.Spec.of [.ro] [false] true q21
noncomputable def q61 : List Dt → Option (Bool × List Dt)
  | [.d (.sl .node) a0] => some ((smL sm_node a0), [.d (.sl .node) a0])
  | _ => none
noncomputable def mu61 : List Dt → Nat
  | [.d (.sl .node) a0] => mtL_node a0
  | _ => 0
noncomputable def s61r (N : Nat) : Gm.Spec := Gm.Spec.of [.ro] [false] true (qlt mu61 N q61)
/-! ### loop.example/g00465/laws.toNode -/
noncomputable def f21c : Code := (Try.f21.body).getD .skip
def f21k : Nat → Kp := kat [⟨[1, 2], [], [], []⟩, ⟨[1, 2, 3], [], [], []⟩, ⟨[1, 2, 3], [], [], []⟩, ⟨[1, 2, 3], [], [], []⟩, ⟨[1, 2, 3], [], [], []⟩, ⟨[1, 2, 3], [], [], []⟩, ⟨[2, 3], [], [], []⟩, ⟨[2], [], [], []⟩]
noncomputable def f21e (N : Nat) : Env := tab.env [(60, s60), (61, s61r N)]
theorem f21_run {R : Type} (N : Nat) (n : Nat) (k : List Dt → Option R) (a0 : NodeT) : evFn (f21e N) f21k n f21c [.ro] [false] true [.cell 2 27] [27] [.d .node a0] k =
    (cond (smL smStr (NodeT.keys a0))
    (cond ((smL sm_node (NodeT.kids a0)) && (Nat.blt (mtL_node (NodeT.kids a0)) N))
      (k [.d .node (eN a0)])
      none)
    none) := by kernel_rfl
theorem f21_spec (N : Nat) (a0 : NodeT) (hg : sm_node a0 = true) (hm : mu21 [.d .node a0] = N) : ∃ keep rounds, ∀ {R : Type} (k : List Dt → Option R), evFn (f21e N) keep rounds f21c [.ro] [false] true [.cell 2 27] [27] [.d .node a0] k = k [.d .node a0] := by
  have hm : mt_node a0 = N := hm
  subst hm
  have m1 : Nat.blt (mtL_node a0.kids) (mt_node a0) = true := by rw [Nat.blt_eq]; simp only [mtL_node, mt_node, nd_node_def]; omega
  simp only [sm_node_def, Bool.and_eq_true] at hg
  refine ⟨f21k, 0, fun {R} k => ?_⟩
  rw [f21_run]
  simp only [hg, m1, Bool.and_self, cond_true, eta_node, eN_eq]


/-! ### loop.example/g00465/laws.toNodeS -/
noncomputable def f61c : Code := (Try.f61.body).getD .skip
def f61k : Nat → Kp := kat [⟨[0], [], [], []⟩, ⟨[0, 3], [], [], []⟩, ⟨[0, 3, 4], [], [], []⟩, ⟨[0, 3, 4, 11], [], [], []⟩, ⟨[0, 3, 4], [], [], []⟩, ⟨[0, 3, 4], [], [], []⟩, ⟨[2], [], [], []⟩]
noncomputable def f61e (N : Nat) : Env := tab.env [(21, s21r N)]
noncomputable def f61L0 {R : Type} (N : Nat) (n : Nat) (x0 : Int → Bool → (List NodeT) → Option R) (vs0 : List NodeT) : Nat → Int → (List NodeT) → Option R
  | 0, _, _ => none
  | m + 1, vs4, vr448 =>
    (cond (decide (vs4 < (vs0.length : Int)))
      (cond ((decide ((0 : Int) ≤ vs4)) && (decide (vs4 < (vs0.length : Int))))
        (cond ((sm_node (eN (atI (t := .node) vs0 (Int.toNat vs4)))) && (Nat.blt (mt_node (eN (atI (t := .node) vs0 (Int.toNat vs4)))) N))
          (cond ((decide ((0 : Int) ≤ vs4)) && (decide (vs4 < (vr448.length : Int))))
            (f61L0 N n x0 vs0 m (IntKind.wrap .i64 (vs4 + (1 : Int))) (vr448.set (Int.toNat vs4) (eN (atI (t := .node) vs0 (Int.toNat vs4)))))
            none)
          none)
        none)
      (x0 vs4 (decide (vs4 < (vs0.length : Int))) vr448))
theorem f61L0_b {R : Type} (N : Nat) (n : Nat) (k' : Ex → St → Option R) (vs0 : List NodeT) (vs4 : Int) (vr448 : List NodeT) : ev (f61e N) f61k n (cAt [1,1,0,1,0,0] f61c) ⟨[(0, .c (.one (.ro .node vs0))), (3, .c (.one (.h 448 0 0 []))), (4, .c (.one (.v (.int .i64 vs4))))], [], [(448, .live ⟨.node, .deep, 0, [], vr448⟩)]⟩ k' =
    (cond (decide (vs4 < (vs0.length : Int)))
    (cond ((decide ((0 : Int) ≤ vs4)) && (decide (vs4 < (vs0.length : Int))))
      (cond ((sm_node (eN (atI (t := .node) vs0 (Int.toNat vs4)))) && (Nat.blt (mt_node (eN (atI (t := .node) vs0 (Int.toNat vs4)))) N))
        (cond ((decide ((0 : Int) ≤ vs4)) && (decide (vs4 < (vr448.length : Int))))
          (k' .normal ⟨[(0, .c (.one (.ro .node vs0))), (3, .c (.one (.h 448 0 0 []))), (4, .c (.one (.v (.int .i64 (IntKind.wrap .i64 (vs4 + (1 : Int)))))))], [], [(448, .live ⟨.node, .deep, 0, [], (vr448.set (Int.toNat vs4) (eN (atI (t := .node) vs0 (Int.toNat vs4))))⟩)]⟩)
          none)
        none)
      none)
    (k' (.exit 0) ⟨[(0, .c (.one (.ro .node vs0))), (3, .c (.one (.h 448 0 0 []))), (4, .c (.one (.v (.int .i64 vs4)))), (11, .c (.one (.v (.bool (decide (vs4 < (vs0.length : Int)))))))], [], [(448, .live ⟨.node, .deep, 0, [], vr448⟩)]⟩)) := by kernel_rfl
theorem f61L0_eq {R : Type} (N : Nat) (n : Nat) (k' : Ex → St → Option R) (vs0 : List NodeT) : ∀ (m : Nat) (vs4 : Int) (vr448 : List NodeT), iter (fun st k => ev (f61e N) f61k n (cAt [1,1,0,1,0,0] f61c) st k) m ⟨[(0, .c (.one (.ro .node vs0))), (3, .c (.one (.h 448 0 0 []))), (4, .c (.one (.v (.int .i64 vs4))))], [], [(448, .live ⟨.node, .deep, 0, [], vr448⟩)]⟩ k' = f61L0 N n (fun (xvs4 : Int) (xvs11 : Bool) (xvr448 : List NodeT) => k' (.exit 0) ⟨[(0, .c (.one (.ro .node vs0))), (3, .c (.one (.h 448 0 0 []))), (4, .c (.one (.v (.int .i64 xvs4)))), (11, .c (.one (.v (.bool xvs11))))], [], [(448, .live ⟨.node, .deep, 0, [], xvr448⟩)]⟩) vs0 m vs4 vr448 := by
  intro m; induction m with
  | zero => intros; rfl
  | succ m ih =>
    intro vs4 vr448
    simp only [iter]
    rw [f61L0_b]
    simp only [ih, f61L0]

noncomputable def f61K0 {R : Type} (N : Nat) (n : Nat) (k' : Ex → St → Option R) : Ex → St → Option R := (blockK 0 (seqK (f61e N) f61k n (cAt [1,1,1] f61c) k'))
theorem f61K0_x0 {R : Type} (N : Nat) (n : Nat) (k : List Dt → Option R) (a0 : List NodeT) (vs0 : List NodeT) (xvs4 : Int) (xvs11 : Bool) (xvr448 : List NodeT) : f61K0 N n (exitK (f61e N) [.ro] [false] true [.tmp 2] [25] [.d (.sl .node) a0] k) (.exit 0) ⟨[(0, .c (.one (.ro .node vs0))), (3, .c (.one (.h 448 0 0 []))), (4, .c (.one (.v (.int .i64 xvs4)))), (11, .c (.one (.v (.bool xvs11))))], [], [(448, .live ⟨.node, .deep, 0, [], xvr448⟩)]⟩ =
    (k [.d (.sl .node) xvr448]) := by kernel_rfl

theorem f61_run {R : Type} (N : Nat) (n : Nat) (k : List Dt → Option R) (a0 : List NodeT) : evFn (f61e N) f61k n f61c [.ro] [false] true [.tmp 2] [25] [.d (.sl .node) a0] k =
    (cond ((decide ((a0.length : Int) = (a0.length : Int))) && ((decide ((0 : Int) ≤ (a0.length : Int))) && (decide ((a0.length : Int) ≤ (LIM : Int)))))
    (f61L0 N n (fun (xvs4 : Int) (xvs11 : Bool) (xvr448 : List NodeT) =>
      (k [.d (.sl .node) xvr448])) a0 n (0 : Int) (List.replicate (Int.toNat (a0.length : Int)) (⟨(0 : Int), (0 : Int), ByteArray.empty, ([] : List ByteArray), ([] : List NodeT)⟩ : NodeT)))
    none) := by
  refine Eq.trans (b := (cond ((decide ((a0.length : Int) = (a0.length : Int))) && ((decide ((0 : Int) ≤ (a0.length : Int))) && (decide ((a0.length : Int) ≤ (LIM : Int)))))
    (iter (fun st k => ev (f61e N) f61k n (cAt [1,1,0,1,0,0] f61c) st k) n ⟨[(0, .c (.one (.ro .node a0))), (3, .c (.one (.h 448 0 0 []))), (4, .c (.one (.v (.int .i64 (0 : Int)))))], [], [(448, .live ⟨.node, .deep, 0, [], (List.replicate (Int.toNat (a0.length : Int)) (⟨(0 : Int), (0 : Int), ByteArray.empty, ([] : List ByteArray), ([] : List NodeT)⟩ : NodeT))⟩)]⟩ (f61K0 N n (exitK (f61e N) [.ro] [false] true [.tmp 2] [25] [.d (.sl .node) a0] k)))
    none)) (by kernel_rfl) ?_
  simp only [f61L0_eq, f61K0_x0]
theorem f61_spec (N : Nat) (a0 : List NodeT) (hg : smL sm_node a0 = true) (hm : mu61 [.d (.sl .node) a0] = N) : ∃ keep rounds, ∀ {R : Type} (k : List Dt → Option R), evFn (f61e N) keep rounds f61c [.ro] [false] true [.tmp 2] [25] [.d (.sl .node) a0] k = k [.d (.sl .node) a0] := by
  have hm : mtL_node a0 = N := hm
  subst hm
  have hl : a0.length ≤ 1048576 := smL_len hg
  have hs := smL_all hg
  refine ⟨f61k, a0.length + 1, fun {R} k => ?_⟩
  rw [f61_run, mkOk hl]
  simp only [cond_true]
  have := loop_copy (xs := a0) (f := fun x => x) (F := fun m j out => f61L0 (mtL_node a0) (a0.length + 1) (fun (xvs4 : Int) (xvs11 : Bool) (xvr448 : List NodeT) => (k [.d (.sl .node) xvr448])) a0 m (j : Int) out) (good := fun out => k [.d (.sl .node) out]) (⟨(0 : Int), (0 : Int), ByteArray.empty, ([] : List ByteArray), ([] : List NodeT)⟩ : NodeT)
    (fun m j out x hx hl' => by
      obtain ⟨h1, h0, hw, ht⟩ := idx (lt_of_get hx) (by omega)
      obtain ⟨h2, _, _, _⟩ := idx (show j < out.length by rw [hl']; exact lt_of_get hx) (by omega)
      have hmem := List.mem_of_getElem? hx
      have hx2 := List.all_eq_true.1 hs x hmem
      have hb : Nat.blt (mt_node x) (mtL_node a0) = true := by
        have := ndL_mem (f := nd_node) hmem
        rw [Nat.blt_eq]; simp only [mt_node, mtL_node]; omega
      simp only [f61L0, h1, h0, h2, hw, ht, atI_of (t := .node) hx, Bool.and_self, cond_true, eta_node, eN_eq, hx2, hb])
    (fun m out => by simp only [f61L0, idxE, cond_false]) a0.length 0 (a0.length + 1) (by omega) (by omega)
  simpa using this


theorem goods21 : ∀ x ∈ ([⟨21, [.ro], [false], true, mu21, q21⟩, ⟨61, [.ro], [false], true, mu61, q61⟩] : List Rc), Gm.SpecOk Try.prog x.f (Gm.Spec.of x.ms x.rs x.ow x.q) := by
  refine spec_recs _ fun N hr => ?_
  have hr1 : Gm.SpecOk Try.prog 21 (Gm.Spec.of [.ro] [false] true (qlt mu21 N q21)) := fun {R} => hr _ (.head _)
  have hr2 : Gm.SpecOk Try.prog 61 (Gm.Spec.of [.ro] [false] true (qlt mu61 N q61)) := fun {R} => hr _ (.tail _ (.head _))
  refine List.forall_mem_cons.2 ⟨?_, List.forall_mem_cons.2 ⟨?_, List.forall_mem_nil _⟩⟩
  · have hl : ∀ x ∈ ([(60, s60), (61, s61r N)] : List (Nat × Gm.Spec)), Gm.Good Try.prog x := List.forall_mem_cons.2 ⟨good60, List.forall_mem_cons.2 ⟨⟨⟨hr2, _, Try.func61, by kernel_rfl, of_decide_eq_true (by kernel_rfl)⟩, Gm.Spec.of_natl _ _ _ _⟩, List.forall_mem_nil _⟩⟩
    show Gm.SpecOk Try.prog 21 (Gm.Spec.of [.ro] [false] true (qeq mu21 N q21))
    intro R
    refine spec_ok (E := f21e N) (tab_ok.env hl) (tab.natl hl) Try.func21 (by kernel_rfl : Try.f21.body = some f21c) [27] (by kernel_rfl) ?_
    intro ds outs h
    obtain ⟨h, hm⟩ := qeq_some h
    unfold q21 at h
    split at h
    · simp only [Option.some.injEq, Prod.mk.injEq] at h; obtain ⟨hg, h⟩ := h; cases h; exact f21_spec N _ hg hm
    · cases h
  · have hl : ∀ x ∈ ([(21, s21r N)] : List (Nat × Gm.Spec)), Gm.Good Try.prog x := List.forall_mem_cons.2 ⟨⟨⟨hr1, _, Try.func21, by kernel_rfl, of_decide_eq_true (by kernel_rfl)⟩, Gm.Spec.of_natl _ _ _ _⟩, List.forall_mem_nil _⟩
    show Gm.SpecOk Try.prog 61 (Gm.Spec.of [.ro] [false] true (qeq mu61 N q61))
    intro R
    refine spec_ok (E := f61e N) (tab_ok.env hl) (tab.natl hl) Try.func61 (by kernel_rfl : Try.f61.body = some f61c) [25] (by kernel_rfl) ?_
    intro ds outs h
    obtain ⟨h, hm⟩ := qeq_some h
    unfold q61 at h
    split at h
    · simp only [Option.some.injEq, Prod.mk.injEq] at h; obtain ⟨hg, h⟩ := h; cases h; exact f61_spec N _ hg hm
    · cases h
theorem good21 : Gm.Good Try.prog (21, s21) := ⟨⟨fun {R} => goods21 _ (.head _), _, Try.func21, by kernel_rfl, of_decide_eq_true (by kernel_rfl)⟩, Gm.Spec.of_natl _ _ _ _⟩
/-! ### loop.example/g00465/laws.eqStringS -/
noncomputable def f66c : Code := (Try.f66.body).getD .skip
def f66k : Nat → Kp := kat [⟨[0, 1], [], [], []⟩, ⟨[0, 1, 10], [], [], []⟩, ⟨[4], [], [], []⟩, ⟨[0, 1, 5], [], [], []⟩, ⟨[0, 1, 5, 14], [], [], []⟩, ⟨[0, 1, 5], [], [], []⟩, ⟨[0, 1, 5, 25], [], [], []⟩, ⟨[4], [], [], []⟩, ⟨[4], [], [], []⟩]
noncomputable def f66e : Env := tab.env []
noncomputable def f66L0 {R : Type} (n : Nat) (x0 : Option R) (x1 : Int → Bool → Option R) (vs0 : List ByteArray) (vs1 : List ByteArray) : Nat → Int → Option R
  | 0, _ => none
  | m + 1, vs5 =>
    (cond (decide (vs5 < (vs0.length : Int)))
      (cond ((decide ((0 : Int) ≤ vs5)) && (decide (vs5 < (vs0.length : Int))))
        (cond ((decide ((0 : Int) ≤ vs5)) && (decide (vs5 < (vs1.length : Int))))
          (cond (!(sEq (atI (t := .str) vs0 (Int.toNat vs5)) (atI (t := .str) vs1 (Int.toNat vs5))))
            (x0)
            (f66L0 n x0 x1 vs0 vs1 m (IntKind.wrap .i64 (vs5 + (1 : Int)))))
          none)
        none)
      (x1 vs5 (decide (vs5 < (vs0.length : Int)))))
theorem f66L0_b {R : Type} (n : Nat) (k' : Ex → St → Option R) (vs0 : List ByteArray) (vs1 : List ByteArray) (vs5 : Int) : ev f66e f66k n (cAt [1,1,0,1,0,0] f66c) ⟨[(0, .c (.one (.ro .str vs0))), (1, .c (.one (.ro .str vs1))), (5, .c (.one (.v (.int .i64 vs5))))], [], []⟩ k' =
    (cond (decide (vs5 < (vs0.length : Int)))
    (cond ((decide ((0 : Int) ≤ vs5)) && (decide (vs5 < (vs0.length : Int))))
      (cond ((decide ((0 : Int) ≤ vs5)) && (decide (vs5 < (vs1.length : Int))))
        (cond (!(sEq (atI (t := .str) vs0 (Int.toNat vs5)) (atI (t := .str) vs1 (Int.toNat vs5))))
          (k' .ret ⟨[(4, .c (.one (.v (.bool false))))], [], []⟩)
          (k' .normal ⟨[(0, .c (.one (.ro .str vs0))), (1, .c (.one (.ro .str vs1))), (5, .c (.one (.v (.int .i64 (IntKind.wrap .i64 (vs5 + (1 : Int)))))))], [], []⟩))
        none)
      none)
    (k' (.exit 0) ⟨[(0, .c (.one (.ro .str vs0))), (1, .c (.one (.ro .str vs1))), (5, .c (.one (.v (.int .i64 vs5)))), (14, .c (.one (.v (.bool (decide (vs5 < (vs0.length : Int)))))))], [], []⟩)) := by kernel_rfl
theorem f66L0_eq {R : Type} (n : Nat) (k' : Ex → St → Option R) (vs0 : List ByteArray) (vs1 : List ByteArray) : ∀ (m : Nat) (vs5 : Int), iter (fun st k => ev f66e f66k n (cAt [1,1,0,1,0,0] f66c) st k) m ⟨[(0, .c (.one (.ro .str vs0))), (1, .c (.one (.ro .str vs1))), (5, .c (.one (.v (.int .i64 vs5))))], [], []⟩ k' = f66L0 n (k' .ret ⟨[(4, .c (.one (.v (.bool false))))], [], []⟩) (fun (xvs5 : Int) (xvs14 : Bool) => k' (.exit 0) ⟨[(0, .c (.one (.ro .str vs0))), (1, .c (.one (.ro .str vs1))), (5, .c (.one (.v (.int .i64 xvs5)))), (14, .c (.one (.v (.bool xvs14))))], [], []⟩) vs0 vs1 m vs5 := by
  intro m; induction m with
  | zero => intros; rfl
  | succ m ih =>
    intro vs5
    simp only [iter]
    rw [f66L0_b]
    simp only [ih, f66L0]

noncomputable def f66K0 {R : Type} (n : Nat) (k' : Ex → St → Option R) : Ex → St → Option R := (blockK 0 (seqK f66e f66k n (cAt [1,1,1] f66c) k'))
theorem f66K0_x0 {R : Type} (n : Nat) (k : List Dt → Option R) (a0 : List ByteArray) (a1 : List ByteArray)  : f66K0 n (exitK f66e [.ro, .ro] [false] true [.tmp 4] [4] [.d (.sl .str) a0, .d (.sl .str) a1] k) .ret ⟨[(4, .c (.one (.v (.bool false))))], [], []⟩ =
    (k [.d .bool false]) := by kernel_rfl
theorem f66K0_x1 {R : Type} (n : Nat) (k : List Dt → Option R) (a0 : List ByteArray) (a1 : List ByteArray) (vs0 : List ByteArray) (vs1 : List ByteArray) (xvs5 : Int) (xvs14 : Bool) : f66K0 n (exitK f66e [.ro, .ro] [false] true [.tmp 4] [4] [.d (.sl .str) a0, .d (.sl .str) a1] k) (.exit 0) ⟨[(0, .c (.one (.ro .str vs0))), (1, .c (.one (.ro .str vs1))), (5, .c (.one (.v (.int .i64 xvs5)))), (14, .c (.one (.v (.bool xvs14))))], [], []⟩ =
    (k [.d .bool true]) := by kernel_rfl

theorem f66_run {R : Type} (n : Nat) (k : List Dt → Option R) (a0 : List ByteArray) (a1 : List ByteArray) : evFn f66e f66k n f66c [.ro, .ro] [false] true [.tmp 4] [4] [.d (.sl .str) a0, .d (.sl .str) a1] k =
    (cond ((a0.length : Int) != (a1.length : Int))
    (k [.d .bool false])
    (f66L0 n (k [.d .bool false]) (fun (xvs5 : Int) (xvs14 : Bool) =>
      (k [.d .bool true])) a0 a1 n (0 : Int))) := by
  refine Eq.trans (b := (cond ((a0.length : Int) != (a1.length : Int))
    (k [.d .bool false])
    (iter (fun st k => ev f66e f66k n (cAt [1,1,0,1,0,0] f66c) st k) n ⟨[(0, .c (.one (.ro .str a0))), (1, .c (.one (.ro .str a1))), (5, .c (.one (.v (.int .i64 (0 : Int)))))], [], []⟩ (f66K0 n (exitK f66e [.ro, .ro] [false] true [.tmp 4] [4] [.d (.sl .str) a0, .d (.sl .str) a1] k))))) (by kernel_rfl) ?_
  simp only [f66L0_eq, f66K0_x0, f66K0_x1]
theorem f66_spec (a0 : List ByteArray) (a1 : List ByteArray) (hg : sm2 (smL smStr) a0 a1 = true) : ∃ keep rounds, ∀ {R : Type} (k : List Dt → Option R), evFn f66e keep rounds f66c [.ro, .ro] [false] true [.tmp 4] [4] [.d (.sl .str) a0, .d (.sl .str) a1] k = k [.d .bool (eqD a0 a1)] := by
  simp only [sm2, Bool.and_eq_true] at hg
  obtain ⟨hg0, hg1⟩ := hg
  have hl : a0.length ≤ 1048576 := smL_len hg0
  refine ⟨f66k, a0.length + 1, fun k => ?_⟩
  rw [f66_run]
  by_cases hc : a0.length = a1.length
  · have hc' : ((a0.length : Int) != (a1.length : Int)) = false := by simp [hc]
    simp only [hc', cond_false]
    refine Eq.trans (loop_idx (n := a0.length) (F := fun m i => f66L0 (a0.length + 1) _ _ a0 a1 m i) (p := fun j => sEq (atI (t := .str) a0 j) (atI (t := .str) a1 j)) (good := k [.d .bool true]) (bad := k [.d .bool false])
      (fun m j hj => ?_) (fun m => by simp only [f66L0, idxE, cond_false]) a0.length 0 (a0.length + 1) (by omega) (by omega)) ?_
    · obtain ⟨h1, h0, hw, ht⟩ := idx hj (by omega)
      obtain ⟨h2, _, _, _⟩ := idx (show j < a1.length by omega) (by omega)
      simp only [f66L0, h1, h0, h2, hw, ht, Bool.and_self, cond_true]
      cases sEq (atI (t := .str) a0 j) (atI (t := .str) a1 j) <;> rfl
    · rw [allN_eq hc (fun j x y hx hy => by rw [atI_of (t := .str) hx, atI_of (t := .str) hy, ← eqD_str])]
      cases eqD a0 a1 <;> rfl
  · simp only [bneLen hc, cond_true]
    rw [eqD_ne (fun e => hc (by rw [e]))]

noncomputable def q66 : List Dt → Option (Bool × List Dt)
  | [.d (.sl .str) a0, .d (.sl .str) a1] => some ((sm2 (smL smStr) a0 a1), [.d .bool (eqD a0 a1)])
  | _ => none
noncomputable def s66 : Gm.Spec := Gm.Spec.of [.ro, .ro] [false] true q66
theorem good66 : Gm.Good Try.prog (66, s66) := by
  have hl : ∀ x ∈ ([] : List (Nat × Gm.Spec)), Gm.Good Try.prog x := fun _ h => by cases h
  refine ⟨⟨spec_ok (tab_ok.env hl) (tab.natl hl) Try.func66 (by kernel_rfl : Try.f66.body = some f66c) [4] (by kernel_rfl) ?_, _, Try.func66, by kernel_rfl, of_decide_eq_true (by kernel_rfl)⟩, Gm.Spec.of_natl _ _ _ _⟩
  intro ds outs h
  unfold q66 at h
  split at h
  · simp only [Option.some.injEq, Prod.mk.injEq] at h; obtain ⟨hg, h⟩ := h; cases h; exact f66_spec _ _ hg
  · cases h
noncomputable def q24 : List Dt → Option (Bool × List Dt)
  | [.d .node a0, .d .node a1] => some ((sm2 sm_node a0 a1), [.d .bool (eqD a0 a1)])
  | _ => none
noncomputable def mu24 : List Dt → Nat
  | [.d .node a0, .d .node a1] => me_node a0 a1
  | _ => 0
noncomputable def s24r (N : Nat) : Gm.Spec := Gm.Spec.of [.ro, .ro] [false] true (qlt mu24 N q24)
noncomputable def s24 : Gm.Spec := Gm.Spec.of [.ro, .ro] [false] true q24
noncomputable def q67 : List Dt → Option (Bool × List Dt)
  | [.d (.sl .node) a0, .d (.sl .node) a1] => some ((sm2 (smL sm_node) a0 a1), [.d .bool (eqD a0 a1)])
  | _ => none
noncomputable def mu67 : List Dt → Nat
  | [.d (.sl .node) a0, .d (.sl .node) a1] => meL_node a0 a1
  | _ => 0
noncomputable def s67r (N : Nat) : Gm.Spec := Gm.Spec.of [.ro, .ro] [false] true (qlt mu67 N q67)
/-! ### loop.example/g00465/laws.eqNode -/
noncomputable def f24c : Code := (Try.f24.body).getD .skip
def f24k : Nat → Kp := kat [⟨[2, 3], [], [], []⟩, ⟨[2, 3, 9], [], [], []⟩, ⟨[4], [], [], []⟩, ⟨[2, 3, 14], [], [], []⟩, ⟨[4], [], [], []⟩, ⟨[2, 3, 19], [], [], []⟩, ⟨[4], [], [], []⟩, ⟨[2, 3, 25], [], [], []⟩, ⟨[4], [], [], []⟩, ⟨[31], [], [], []⟩, ⟨[4], [], [], []⟩, ⟨[4], [], [], []⟩]
noncomputable def f24e (N : Nat) : Env := tab.env [(66, s66), (67, s67r N)]
theorem f24_run {R : Type} (N : Nat) (n : Nat) (k : List Dt → Option R) (a0 : NodeT) (a1 : NodeT) : evFn (f24e N) f24k n f24c [.ro, .ro] [false] true [.tmp 4] [4] [.d .node a0, .d .node a1] k =
    (cond ((NodeT.kind a0) != (NodeT.kind a1))
    (k [.d .bool false])
    (cond ((NodeT.n a0) != (NodeT.n a1))
      (k [.d .bool false])
      (cond (!(sEq (NodeT.s a0) (NodeT.s a1)))
        (k [.d .bool false])
        (cond (sm2 (smL smStr) (NodeT.keys a0) (NodeT.keys a1))
          (cond (!(eqD (NodeT.keys a0) (NodeT.keys a1)))
            (k [.d .bool false])
            (cond ((sm2 (smL sm_node) (NodeT.kids a0) (NodeT.kids a1)) && (Nat.blt (meL_node (NodeT.kids a0) (NodeT.kids a1)) N))
              (cond (!(eqD (NodeT.kids a0) (NodeT.kids a1)))
                (k [.d .bool false])
                (k [.d .bool true]))
              none))
          none)))) := by kernel_rfl
theorem f24_spec (N : Nat) (a0 : NodeT) (a1 : NodeT) (hg : sm2 sm_node a0 a1 = true) (hm : mu24 [.d .node a0, .d .node a1] = N) : ∃ keep rounds, ∀ {R : Type} (k : List Dt → Option R), evFn (f24e N) keep rounds f24c [.ro, .ro] [false] true [.tmp 4] [4] [.d .node a0, .d .node a1] k = k [.d .bool (eqD a0 a1)] := by
  have hm : me_node a0 a1 = N := hm
  subst hm
  have m1 : Nat.blt (meL_node a0.kids a1.kids) (me_node a0 a1) = true := by rw [Nat.blt_eq]; simp only [meL_node, me_node, nd_node_def]; omega
  simp only [sm2, sm_node_def, Bool.and_eq_true] at hg
  refine ⟨f24k, 0, fun {R} k => ?_⟩
  rw [f24_run, eqD_node]
  simp only [bne, sm2, hg, m1, Bool.and_self, Bool.true_and, cond_true]
  cases (a0.kind == a1.kind) <;> cases (a0.n == a1.n) <;> cases sEq a0.s a1.s <;> cases eqD a0.keys a1.keys <;> cases eqD a0.kids a1.kids <;> rfl


/-! ### loop.example/g00465/laws.eqNodeS -/
noncomputable def f67c : Code := (Try.f67.body).getD .skip
def f67k : Nat → Kp := kat [⟨[0, 1], [], [], []⟩, ⟨[0, 1, 10], [], [], []⟩, ⟨[4], [], [], []⟩, ⟨[0, 1, 5], [], [], []⟩, ⟨[0, 1, 5, 14], [], [], []⟩, ⟨[0, 1, 5], [], [], []⟩, ⟨[0, 1, 5, 26], [], [], []⟩, ⟨[4], [], [], []⟩, ⟨[4], [], [], []⟩]
noncomputable def f67e (N : Nat) : Env := tab.env [(24, s24r N)]
noncomputable def f67L0 {R : Type} (N : Nat) (n : Nat) (x0 : Option R) (x1 : Int → Bool → Option R) (vs0 : List NodeT) (vs1 : List NodeT) : Nat → Int → Option R
  | 0, _ => none
  | m + 1, vs5 =>
    (cond (decide (vs5 < (vs0.length : Int)))
      (cond ((decide ((0 : Int) ≤ vs5)) && (decide (vs5 < (vs0.length : Int))))
        (cond ((decide ((0 : Int) ≤ vs5)) && (decide (vs5 < (vs1.length : Int))))
          (cond ((sm2 sm_node (eN (atI (t := .node) vs0 (Int.toNat vs5))) (eN (atI (t := .node) vs1 (Int.toNat vs5)))) && (Nat.blt (me_node (eN (atI (t := .node) vs0 (Int.toNat vs5))) (eN (atI (t := .node) vs1 (Int.toNat vs5)))) N))
            (cond (!(eqD (eN (atI (t := .node) vs0 (Int.toNat vs5))) (eN (atI (t := .node) vs1 (Int.toNat vs5)))))
              (x0)
              (f67L0 N n x0 x1 vs0 vs1 m (IntKind.wrap .i64 (vs5 + (1 : Int)))))
            none)
          none)
        none)
      (x1 vs5 (decide (vs5 < (vs0.length : Int)))))
theorem f67L0_b {R : Type} (N : Nat) (n : Nat) (k' : Ex → St → Option R) (vs0 : List NodeT) (vs1 : List NodeT) (vs5 : Int) : ev (f67e N) f67k n (cAt [1,1,0,1,0,0] f67c) ⟨[(0, .c (.one (.ro .node vs0))), (1, .c (.one (.ro .node vs1))), (5, .c (.one (.v (.int .i64 vs5))))], [], []⟩ k' =
    (cond (decide (vs5 < (vs0.length : Int)))
    (cond ((decide ((0 : Int) ≤ vs5)) && (decide (vs5 < (vs0.length : Int))))
      (cond ((decide ((0 : Int) ≤ vs5)) && (decide (vs5 < (vs1.length : Int))))
        (cond ((sm2 sm_node (eN (atI (t := .node) vs0 (Int.toNat vs5))) (eN (atI (t := .node) vs1 (Int.toNat vs5)))) && (Nat.blt (me_node (eN (atI (t := .node) vs0 (Int.toNat vs5))) (eN (atI (t := .node) vs1 (Int.toNat vs5)))) N))
          (cond (!(eqD (eN (atI (t := .node) vs0 (Int.toNat vs5))) (eN (atI (t := .node) vs1 (Int.toNat vs5)))))
            (k' .ret ⟨[(4, .c (.one (.v (.bool false))))], [], []⟩)
            (k' .normal ⟨[(0, .c (.one (.ro .node vs0))), (1, .c (.one (.ro .node vs1))), (5, .c (.one (.v (.int .i64 (IntKind.wrap .i64 (vs5 + (1 : Int)))))))], [], []⟩))
          none)
        none)
      none)
    (k' (.exit 0) ⟨[(0, .c (.one (.ro .node vs0))), (1, .c (.one (.ro .node vs1))), (5, .c (.one (.v (.int .i64 vs5)))), (14, .c (.one (.v (.bool (decide (vs5 < (vs0.length : Int)))))))], [], []⟩)) := by kernel_rfl
theorem f67L0_eq {R : Type} (N : Nat) (n : Nat) (k' : Ex → St → Option R) (vs0 : List NodeT) (vs1 : List NodeT) : ∀ (m : Nat) (vs5 : Int), iter (fun st k => ev (f67e N) f67k n (cAt [1,1,0,1,0,0] f67c) st k) m ⟨[(0, .c (.one (.ro .node vs0))), (1, .c (.one (.ro .node vs1))), (5, .c (.one (.v (.int .i64 vs5))))], [], []⟩ k' = f67L0 N n (k' .ret ⟨[(4, .c (.one (.v (.bool false))))], [], []⟩) (fun (xvs5 : Int) (xvs14 : Bool) => k' (.exit 0) ⟨[(0, .c (.one (.ro .node vs0))), (1, .c (.one (.ro .node vs1))), (5, .c (.one (.v (.int .i64 xvs5)))), (14, .c (.one (.v (.bool xvs14))))], [], []⟩) vs0 vs1 m vs5 := by
  intro m; induction m with
  | zero => intros; rfl
  | succ m ih =>
    intro vs5
    simp only [iter]
    rw [f67L0_b]
    simp only [ih, f67L0]

noncomputable def f67K0 {R : Type} (N : Nat) (n : Nat) (k' : Ex → St → Option R) : Ex → St → Option R := (blockK 0 (seqK (f67e N) f67k n (cAt [1,1,1] f67c) k'))
theorem f67K0_x0 {R : Type} (N : Nat) (n : Nat) (k : List Dt → Option R) (a0 : List NodeT) (a1 : List NodeT)  : f67K0 N n (exitK (f67e N) [.ro, .ro] [false] true [.tmp 4] [4] [.d (.sl .node) a0, .d (.sl .node) a1] k) .ret ⟨[(4, .c (.one (.v (.bool false))))], [], []⟩ =
    (k [.d .bool false]) := by kernel_rfl
theorem f67K0_x1 {R : Type} (N : Nat) (n : Nat) (k : List Dt → Option R) (a0 : List NodeT) (a1 : List NodeT) (vs0 : List NodeT) (vs1 : List NodeT) (xvs5 : Int) (xvs14 : Bool) : f67K0 N n (exitK (f67e N) [.ro, .ro] [false] true [.tmp 4] [4] [.d (.sl .node) a0, .d (.sl .node) a1] k) (.exit 0) ⟨[(0, .c (.one (.ro .node vs0))), (1, .c (.one (.ro .node vs1))), (5, .c (.one (.v (.int .i64 xvs5)))), (14, .c (.one (.v (.bool xvs14))))], [], []⟩ =
    (k [.d .bool true]) := by kernel_rfl

theorem f67_run {R : Type} (N : Nat) (n : Nat) (k : List Dt → Option R) (a0 : List NodeT) (a1 : List NodeT) : evFn (f67e N) f67k n f67c [.ro, .ro] [false] true [.tmp 4] [4] [.d (.sl .node) a0, .d (.sl .node) a1] k =
    (cond ((a0.length : Int) != (a1.length : Int))
    (k [.d .bool false])
    (f67L0 N n (k [.d .bool false]) (fun (xvs5 : Int) (xvs14 : Bool) =>
      (k [.d .bool true])) a0 a1 n (0 : Int))) := by
  refine Eq.trans (b := (cond ((a0.length : Int) != (a1.length : Int))
    (k [.d .bool false])
    (iter (fun st k => ev (f67e N) f67k n (cAt [1,1,0,1,0,0] f67c) st k) n ⟨[(0, .c (.one (.ro .node a0))), (1, .c (.one (.ro .node a1))), (5, .c (.one (.v (.int .i64 (0 : Int)))))], [], []⟩ (f67K0 N n (exitK (f67e N) [.ro, .ro] [false] true [.tmp 4] [4] [.d (.sl .node) a0, .d (.sl .node) a1] k))))) (by kernel_rfl) ?_
  simp only [f67L0_eq, f67K0_x0, f67K0_x1]
theorem f67_spec (N : Nat) (a0 : List NodeT) (a1 : List NodeT) (hg : sm2 (smL sm_node) a0 a1 = true) (hm : mu67 [.d (.sl .node) a0, .d (.sl .node) a1] = N) : ∃ keep rounds, ∀ {R : Type} (k : List Dt → Option R), evFn (f67e N) keep rounds f67c [.ro, .ro] [false] true [.tmp 4] [4] [.d (.sl .node) a0, .d (.sl .node) a1] k = k [.d .bool (eqD a0 a1)] := by
  have hm : meL_node a0 a1 = N := hm
  subst hm
  simp only [sm2, Bool.and_eq_true] at hg
  obtain ⟨hg0, hg1⟩ := hg
  have hl : a0.length ≤ 1048576 := smL_len hg0
  refine ⟨f67k, a0.length + 1, fun {R} k => ?_⟩
  rw [f67_run]
  by_cases hc : a0.length = a1.length
  · have hc' : ((a0.length : Int) != (a1.length : Int)) = false := by simp [hc]
    simp only [hc', cond_false]
    refine Eq.trans (loop_idx (n := a0.length) (F := fun m i => f67L0 (meL_node a0 a1) (a0.length + 1) _ _ a0 a1 m i) (p := fun j => eqD (atI (t := .node) a0 j) (atI (t := .node) a1 j)) (good := k [.d .bool true]) (bad := k [.d .bool false])
      (fun m j hj => ?_) (fun m => by simp only [f67L0, idxE, cond_false]) a0.length 0 (a0.length + 1) (by omega) (by omega)) ?_
    · obtain ⟨h1, h0, hw, ht⟩ := idx hj (by omega)
      obtain ⟨h2, _, _, _⟩ := idx (show j < a1.length by omega) (by omega)
      have ha := smL_at (t := .node) hg0 hj
      have hb := smL_at (t := .node) hg1 (show j < a1.length by omega)
      have hm1 : Nat.blt (me_node (atI (t := .node) a0 j) (atI (t := .node) a1 j)) (meL_node a0 a1) = true := by
        obtain ⟨x, hx, _⟩ := drop_get hj
        have := ndL_mem (f := nd_node) (List.mem_of_getElem? hx)
        rw [atI_of (t := .node) hx, Nat.blt_eq]; simp only [me_node, meL_node]; omega
      simp only [f67L0, h1, h0, h2, hw, ht, Bool.and_self, cond_true, sm2, eta_node, eN_eq, ha, hb, hm1]
      cases eqD (atI (t := .node) a0 j) (atI (t := .node) a1 j) <;> rfl
    · rw [allN_eq hc (fun j x y hx hy => by rw [atI_of (t := .node) hx, atI_of (t := .node) hy])]
      cases eqD a0 a1 <;> rfl
  · simp only [bneLen hc, cond_true]
    rw [eqD_ne (fun e => hc (by rw [e]))]


theorem goods24 : ∀ x ∈ ([⟨24, [.ro, .ro], [false], true, mu24, q24⟩, ⟨67, [.ro, .ro], [false], true, mu67, q67⟩] : List Rc), Gm.SpecOk Try.prog x.f (Gm.Spec.of x.ms x.rs x.ow x.q) := by
  refine spec_recs _ fun N hr => ?_
  have hr1 : Gm.SpecOk Try.prog 24 (Gm.Spec.of [.ro, .ro] [false] true (qlt mu24 N q24)) := fun {R} => hr _ (.head _)
  have hr2 : Gm.SpecOk Try.prog 67 (Gm.Spec.of [.ro, .ro] [false] true (qlt mu67 N q67)) := fun {R} => hr _ (.tail _ (.head _))
  refine List.forall_mem_cons.2 ⟨?_, List.forall_mem_cons.2 ⟨?_, List.forall_mem_nil _⟩⟩
  · have hl : ∀ x ∈ ([(66, s66), (67, s67r N)] : List (Nat × Gm.Spec)), Gm.Good Try.prog x := List.forall_mem_cons.2 ⟨good66, List.forall_mem_cons.2 ⟨⟨⟨hr2, _, Try.func67, by kernel_rfl, of_decide_eq_true (by kernel_rfl)⟩, Gm.Spec.of_natl _ _ _ _⟩, List.forall_mem_nil _⟩⟩
    show Gm.SpecOk Try.prog 24 (Gm.Spec.of [.ro, .ro] [false] true (qeq mu24 N q24))
    intro R
    refine spec_ok (E := f24e N) (tab_ok.env hl) (tab.natl hl) Try.func24 (by kernel_rfl : Try.f24.body = some f24c) [4] (by kernel_rfl) ?_
    intro ds outs h
    obtain ⟨h, hm⟩ := qeq_some h
    unfold q24 at h
    split at h
    · simp only [Option.some.injEq, Prod.mk.injEq] at h; obtain ⟨hg, h⟩ := h; cases h; exact f24_spec N _ _ hg hm
    · cases h
  · have hl : ∀ x ∈ ([(24, s24r N)] : List (Nat × Gm.Spec)), Gm.Good Try.prog x := List.forall_mem_cons.2 ⟨⟨⟨hr1, _, Try.func24, by kernel_rfl, of_decide_eq_true (by kernel_rfl)⟩, Gm.Spec.of_natl _ _ _ _⟩, List.forall_mem_nil _⟩
    show Gm.SpecOk Try.prog 67 (Gm.Spec.of [.ro, .ro] [false] true (qeq mu67 N q67))
    intro R
    refine spec_ok (E := f67e N) (tab_ok.env hl) (tab.natl hl) Try.func67 (by kernel_rfl : Try.f67.body = some f67c) [4] (by kernel_rfl) ?_
    intro ds outs h
    obtain ⟨h, hm⟩ := qeq_some h
    unfold q67 at h
    split at h
    · simp only [Option.some.injEq, Prod.mk.injEq] at h; obtain ⟨hg, h⟩ := h; cases h; exact f67_spec N _ _ hg hm
    · cases h
theorem good24 : Gm.Good Try.prog (24, s24) := ⟨⟨fun {R} => goods24 _ (.head _), _, Try.func24, by kernel_rfl, of_decide_eq_true (by kernel_rfl)⟩, Gm.Spec.of_natl _ _ _ _⟩
/-! ### loop.example/g00465/laws.szPatchOp -/
noncomputable def f28c : Code := (Try.f28.body).getD .skip
def f28k : Nat → Kp := kat [⟨[1, 2], [], [], []⟩, ⟨[1, 2], [], [], []⟩, ⟨[1, 2, 10], [], [], []⟩, ⟨[4], [], [], []⟩, ⟨[1, 2], [], [], []⟩, ⟨[1, 2, 16], [], [], []⟩, ⟨[4], [], [], []⟩, ⟨[1], [], [], []⟩, ⟨[1, 22], [], [], []⟩, ⟨[4], [], [], []⟩, ⟨[4], [], [], []⟩]
noncomputable def f28e : Env := tab.env [(19, s19), (54, s54)]
theorem f28_run {R : Type} (n : Nat) (k : List Dt → Option R) (a0 : PopT) (a1 : Int) : evFn f28e f28k n f28c [.ro, .ro] [false] true [.tmp 4] [3] [.d .pop a0, .d (.i .i64) a1] k =
    (cond (gzL_str (PopT.path a0) a1)
    (cond (decide ((zL_str (PopT.path a0) a1) < (0 : Int)))
      (k [.d (.i .i64) (-1 : Int)])
      (cond (gzL_str (PopT.src a0) (zL_str (PopT.path a0) a1))
        (cond (decide ((zL_str (PopT.src a0) (zL_str (PopT.path a0) a1)) < (0 : Int)))
          (k [.d (.i .i64) (-1 : Int)])
          (cond (gz_node (eN (PopT.x a0)) (zL_str (PopT.src a0) (zL_str (PopT.path a0) a1)))
            (cond (decide ((z_node (eN (PopT.x a0)) (zL_str (PopT.src a0) (zL_str (PopT.path a0) a1))) < (0 : Int)))
              (k [.d (.i .i64) (-1 : Int)])
              (k [.d (.i .i64) (z_node (eN (PopT.x a0)) (zL_str (PopT.src a0) (zL_str (PopT.path a0) a1)))]))
            none))
        none))
    none) := by kernel_rfl
theorem f28_spec (a0 : PopT) (a1 : Int) (hg : gz_pop a0 a1 = true) : ∃ keep rounds, ∀ {R : Type} (k : List Dt → Option R), evFn f28e keep rounds f28c [.ro, .ro] [false] true [.tmp 4] [3] [.d .pop a0, .d (.i .i64) a1] k = k [.d (.i .i64) (z_pop a0 a1)] := by
  simp only [gz_pop, ok_pop, Bool.and_eq_true, okN_iff] at hg
  obtain ⟨⟨hf_kind, hf_path, hf_src, hf_x⟩, hn1, hn2⟩ := hg
  have eN : szN_pop a0 = szL ByteArray.size a0.path + szL ByteArray.size a0.src + szN_node a0.x := rfl
  refine ⟨f28k, 0, fun k => ?_⟩
  rw [f28_run]
  simp only [eta_node, eN_eq]
  show _ = k [.d (.i .i64) (z_pop a0 a1)]
  unfold z_pop
  have g1 : gzL_str a0.path a1 = true := by simp only [gzL_str, Bool.and_eq_true, okN_iff]; exact ⟨hf_path, by omega, by omega⟩
  have z2 : zL_str a0.path a1 = szI (szL ByteArray.size a0.path) a1 := rfl
  rw [g1, z2]
  by_cases h2 : a1 - ((szL ByteArray.size a0.path : Nat) : Int) < 0
  · rw [szI_neg h2, szI_neg (by omega)]; rfl
  rw [szI_pos h2]
  simp only [cond_true, h2, decide_false, cond_false]
  have g3 : gzL_str a0.src (a1 - ((szL ByteArray.size a0.path : Nat) : Int)) = true := by simp only [gzL_str, Bool.and_eq_true, okN_iff]; exact ⟨hf_src, by omega, by omega⟩
  have z4 : zL_str a0.src (a1 - ((szL ByteArray.size a0.path : Nat) : Int)) = szI (szL ByteArray.size a0.src) (a1 - ((szL ByteArray.size a0.path : Nat) : Int)) := rfl
  rw [g3, z4]
  by_cases h4 : (a1 - ((szL ByteArray.size a0.path : Nat) : Int)) - ((szL ByteArray.size a0.src : Nat) : Int) < 0
  · rw [szI_neg h4, szI_neg (by omega)]; rfl
  rw [szI_pos h4]
  simp only [cond_true, h4, decide_false, cond_false]
  have g5 : gz_node a0.x ((a1 - ((szL ByteArray.size a0.path : Nat) : Int)) - ((szL ByteArray.size a0.src : Nat) : Int)) = true := by simp only [gz_node, Bool.and_eq_true, okN_iff]; exact ⟨hf_x, by omega, by omega⟩
  have z6 : z_node a0.x ((a1 - ((szL ByteArray.size a0.path : Nat) : Int)) - ((szL ByteArray.size a0.src : Nat) : Int)) = szI (szN_node a0.x) ((a1 - ((szL ByteArray.size a0.path : Nat) : Int)) - ((szL ByteArray.size a0.src : Nat) : Int)) := rfl
  rw [g5, z6]
  by_cases h6 : ((a1 - ((szL ByteArray.size a0.path : Nat) : Int)) - ((szL ByteArray.size a0.src : Nat) : Int)) - ((szN_node a0.x : Nat) : Int) < 0
  · rw [szI_neg h6, szI_neg (by omega)]; rfl
  rw [szI_pos h6]
  simp only [cond_true, h6, decide_false, cond_false]
  rw [szI_pos (by omega)]
  first
    | rfl
    | rw [show (((a1 - ((szL ByteArray.size a0.path : Nat) : Int)) - ((szL ByteArray.size a0.src : Nat) : Int)) - ((szN_node a0.x : Nat) : Int)) = a1 - ((szN_pop a0 : Nat) : Int) by omega]

noncomputable def q28 : List Dt → Option (Bool × List Dt)
  | [.d .pop a0, .d (.i .i64) a1] => some ((gz_pop a0 a1), [.d (.i .i64) (z_pop a0 a1)])
  | _ => none
noncomputable def s28 : Gm.Spec := Gm.Spec.of [.ro, .ro] [false] true q28
theorem good28 : Gm.Good Try.prog (28, s28) := by
  have hl : ∀ x ∈ [(19, s19), (54, s54)], Gm.Good Try.prog x := List.forall_mem_cons.2 ⟨good19, List.forall_mem_cons.2 ⟨good54, List.forall_mem_nil _⟩⟩
  refine ⟨⟨spec_ok (tab_ok.env hl) (tab.natl hl) Try.func28 (by kernel_rfl : Try.f28.body = some f28c) [3] (by kernel_rfl) ?_, _, Try.func28, by kernel_rfl, of_decide_eq_true (by kernel_rfl)⟩, Gm.Spec.of_natl _ _ _ _⟩
  intro ds outs h
  unfold q28 at h
  split at h
  · simp only [Option.some.injEq, Prod.mk.injEq] at h; obtain ⟨hg, h⟩ := h; cases h; exact f28_spec _ _ hg
  · cases h
/-! ### loop.example/g00465/laws.toPatchOp -/
noncomputable def f29c : Code := (Try.f29.body).getD .skip
def f29k : Nat → Kp := kat [⟨[1, 2], [], [], []⟩, ⟨[1, 2, 3], [], [], []⟩, ⟨[1, 2, 3], [], [], []⟩, ⟨[1, 2, 3], [], [], []⟩, ⟨[1, 2, 3], [], [], []⟩, ⟨[2, 3], [], [], []⟩, ⟨[2], [], [], []⟩]
noncomputable def f29e : Env := tab.env [(21, s21), (60, s60)]
theorem f29_run {R : Type} (n : Nat) (k : List Dt → Option R) (a0 : PopT) : evFn f29e f29k n f29c [.ro] [false] true [.cell 2 35] [35] [.d .pop a0] k =
    (cond (smL smStr (PopT.path a0))
    (cond (smL smStr (PopT.src a0))
      (cond (sm_node (eN (PopT.x a0)))
        (k [.d .pop (⟨(PopT.kind a0), (PopT.path a0), (PopT.src a0), (eN (PopT.x a0))⟩ : PopT)])
        none)
      none)
    none) := by kernel_rfl
theorem f29_spec (a0 : PopT) (hg : sm_pop a0 = true) : ∃ keep rounds, ∀ {R : Type} (k : List Dt → Option R), evFn f29e keep rounds f29c [.ro] [false] true [.cell 2 35] [35] [.d .pop a0] k = k [.d .pop a0] := by
  simp only [sm_pop, Bool.and_eq_true] at hg
  refine ⟨f29k, 0, fun k => ?_⟩
  rw [f29_run]
  simp only [hg, cond_true, eta_node, eN_eq]

noncomputable def q29 : List Dt → Option (Bool × List Dt)
  | [.d .pop a0] => some ((sm_pop a0), [.d .pop a0])
  | _ => none
noncomputable def s29 : Gm.Spec := Gm.Spec.of [.ro] [false] true q29
theorem good29 : Gm.Good Try.prog (29, s29) := by
  have hl : ∀ x ∈ [(21, s21), (60, s60)], Gm.Good Try.prog x := List.forall_mem_cons.2 ⟨good21, List.forall_mem_cons.2 ⟨good60, List.forall_mem_nil _⟩⟩
  refine ⟨⟨spec_ok (tab_ok.env hl) (tab.natl hl) Try.func29 (by kernel_rfl : Try.f29.body = some f29c) [35] (by kernel_rfl) ?_, _, Try.func29, by kernel_rfl, of_decide_eq_true (by kernel_rfl)⟩, Gm.Spec.of_natl _ _ _ _⟩
  intro ds outs h
  unfold q29 at h
  split at h
  · simp only [Option.some.injEq, Prod.mk.injEq] at h; obtain ⟨hg, h⟩ := h; cases h; exact f29_spec _ hg
  · cases h
/-! ### loop.example/g00465/laws.eqPatchOp -/
noncomputable def f30c : Code := (Try.f30.body).getD .skip
def f30k : Nat → Kp := kat [⟨[2, 3], [], [], []⟩, ⟨[2, 3, 9], [], [], []⟩, ⟨[4], [], [], []⟩, ⟨[2, 3, 15], [], [], []⟩, ⟨[4], [], [], []⟩, ⟨[2, 3, 21], [], [], []⟩, ⟨[4], [], [], []⟩, ⟨[27], [], [], []⟩, ⟨[4], [], [], []⟩, ⟨[4], [], [], []⟩]
noncomputable def f30e : Env := tab.env [(24, s24), (66, s66)]
theorem f30_run {R : Type} (n : Nat) (k : List Dt → Option R) (a0 : PopT) (a1 : PopT) : evFn f30e f30k n f30c [.ro, .ro] [false] true [.tmp 4] [4] [.d .pop a0, .d .pop a1] k =
    (cond ((PopT.kind a0) != (PopT.kind a1))
    (k [.d .bool false])
    (cond (sm2 (smL smStr) (PopT.path a0) (PopT.path a1))
      (cond (!(eqD (PopT.path a0) (PopT.path a1)))
        (k [.d .bool false])
        (cond (sm2 (smL smStr) (PopT.src a0) (PopT.src a1))
          (cond (!(eqD (PopT.src a0) (PopT.src a1)))
            (k [.d .bool false])
            (cond (sm2 sm_node (eN (PopT.x a0)) (eN (PopT.x a1)))
              (cond (!(eqD (eN (PopT.x a0)) (eN (PopT.x a1))))
                (k [.d .bool false])
                (k [.d .bool true]))
              none))
          none))
      none)) := by kernel_rfl
theorem f30_spec (a0 : PopT) (a1 : PopT) (hg : sm2 sm_pop a0 a1 = true) : ∃ keep rounds, ∀ {R : Type} (k : List Dt → Option R), evFn f30e keep rounds f30c [.ro, .ro] [false] true [.tmp 4] [4] [.d .pop a0, .d .pop a1] k = k [.d .bool (eqD a0 a1)] := by
  simp only [sm2, sm_pop, Bool.and_eq_true] at hg
  refine ⟨f30k, 0, fun k => ?_⟩
  rw [f30_run, eqD_pop]
  simp only [bne, sm2, hg, Bool.and_self, Bool.true_and, cond_true, eta_node, eN_eq]
  cases (a0.kind == a1.kind) <;> cases eqD a0.path a1.path <;> cases eqD a0.src a1.src <;> cases eqD a0.x a1.x <;> rfl

noncomputable def q30 : List Dt → Option (Bool × List Dt)
  | [.d .pop a0, .d .pop a1] => some ((sm2 sm_pop a0 a1), [.d .bool (eqD a0 a1)])
  | _ => none
noncomputable def s30 : Gm.Spec := Gm.Spec.of [.ro, .ro] [false] true q30
theorem good30 : Gm.Good Try.prog (30, s30) := by
  have hl : ∀ x ∈ [(24, s24), (66, s66)], Gm.Good Try.prog x := List.forall_mem_cons.2 ⟨good24, List.forall_mem_cons.2 ⟨good66, List.forall_mem_nil _⟩⟩
  refine ⟨⟨spec_ok (tab_ok.env hl) (tab.natl hl) Try.func30 (by kernel_rfl : Try.f30.body = some f30c) [4] (by kernel_rfl) ?_, _, Try.func30, by kernel_rfl, of_decide_eq_true (by kernel_rfl)⟩, Gm.Spec.of_natl _ _ _ _⟩
  intro ds outs h
  unfold q30 at h
  split at h
  · simp only [Option.some.injEq, Prod.mk.injEq] at h; obtain ⟨hg, h⟩ := h; cases h; exact f30_spec _ _ hg
  · cases h
end Go.Proofs.Ytalnkjjnohgjkaa

/- What the functions compute, part 2. No conditions. -/
import Derived.Test.YtinbejnakemfjaaPutPtrFn1
/- x -/
namespace Go.Proofs.Ytinbejnakemfjaa
open Go Go.Gm
/-! ### loop.example/g00465/impl.PutPtr -/
noncomputable def f27c : Code := (Try.f27.body).getD .skip
def f27k : Nat → Kp := kat [⟨[1, 3, 5, 6], [], [], []⟩, ⟨[1, 3, 5, 6, 10], [], [], []⟩, ⟨[6, 7], [], [], []⟩, ⟨[6, 7], [], [], []⟩]
noncomputable def f27e : Env := tab.env [(46, s46), (50, s50), (55, s55)]
theorem f27_run {R : Type} (n : Nat) (k : List Dt → Option R) (a0 : NodeT) (a1 : List ByteArray) (a2 : NodeT) : evFn f27e f27k n f27c [.ro, .ro, .ro] [false, false] true [.cell 6 31, .tmp 7] [31, 4] [.d .node a0, .d (.sl .str) a1, .d .node a2] k =
    (cond ((a1.length : Int) == (0 : Int))
    (cond (sm_node (eN a2))
      (k [.d .node (eN a2), .d .bool true])
      none)
    (cond (gPW (eN a0) a1 (eN a2))
      (k [.d .node (eN ((putAtW (eN a0) a1 (eN a2)).1)), .d .bool ((putAtW (eN a0) a1 (eN a2)).2)])
      none)) := by kernel_rfl
theorem f27_spec (a0 : NodeT) (a1 : List ByteArray) (a2 : NodeT) (hg : gP a0 a1 a2 = true) : ∃ keep rounds, ∀ {R : Type} (k : List Dt → Option R), evFn f27e keep rounds f27c [.ro, .ro, .ro] [false, false] true [.cell 6 31, .tmp 7] [31, 4] [.d .node a0, .d (.sl .str) a1, .d .node a2] k = k [.d .node ((putPtr a0 a1 a2).1), .d .bool ((putPtr a0 a1 a2).2)] := by
  have hgp := hg
  simp only [gP, Bool.and_eq_true] at hg
  obtain ⟨hg, hpa, hx2⟩ := hg
  refine ⟨f27k, 0, fun {R} k => ?_⟩
  rw [f27_run]
  show _ = k [.d .node (putPtr a0 a1 a2).1, .d .bool (putPtr a0 a1 a2).2]
  unfold putPtr
  cases a1 with
  | nil => simp only [eta_node, eN_eq, hx2]; rfl
  | cons p r =>
    have hgw : gPW a0 (p :: r) a2 = true := by simp only [gPW, hgp]; rfl
    have l7 : (((p :: r).length : Int) == (0 : Int)) = false := by rw [beq_eq_false_iff_ne]; simp only [List.length_cons]; omega
    simp only [eta_node, eN_eq, hgw, l7, cond_true, cond_false]

noncomputable def q27 : List Dt → Option (Bool × List Dt)
  | [.d .node a0, .d (.sl .str) a1, .d .node a2] => some ((gP a0 a1 a2), [.d .node ((putPtr a0 a1 a2).1), .d .bool ((putPtr a0 a1 a2).2)])
  | _ => none
noncomputable def s27 : Gm.Spec := Gm.Spec.of [.ro, .ro, .ro] [false, false] true q27
theorem good27 : Gm.Good Try.prog (27, s27) := by
  have hl : ∀ x ∈ [(46, s46), (50, s50), (55, s55)], Gm.Good Try.prog x := List.forall_mem_cons.2 ⟨good46, List.forall_mem_cons.2 ⟨good50, List.forall_mem_cons.2 ⟨good55, List.forall_mem_nil _⟩⟩⟩
  refine ⟨⟨spec_ok (tab_ok.env hl) (tab.natl hl) Try.func27 (by kernel_rfl : Try.f27.body = some f27c) [31, 4] (by kernel_rfl) ?_, _, Try.func27, by kernel_rfl, of_decide_eq_true (by kernel_rfl)⟩, Gm.Spec.of_natl _ _ _ _⟩
  intro ds outs h
  unfold q27 at h
  split at h
  · simp only [Option.some.injEq, Prod.mk.injEq] at h; obtain ⟨hg, h⟩ := h; cases h; exact f27_spec _ _ _ hg
  · cases h
/-! ### loop.example/g00465/spec.Set -/
noncomputable def f71c : Code := (Try.f71.body).getD .skip
def f71k : Nat → Kp := kat [⟨[1, 3, 5, 6], [], [], []⟩, ⟨[1, 3, 5, 6, 7], [], [], []⟩, ⟨[1, 3, 5, 6, 7, 24], [], [], []⟩, ⟨[6], [], [], []⟩, ⟨[1, 3, 5, 6, 7, 8], [], [], []⟩, ⟨[1, 3, 5, 6, 7, 8, 30], [], [], []⟩, ⟨[6, 7], [], [], []⟩, ⟨[6], [], [], []⟩, ⟨[1, 3, 5, 6, 7, 8], [], [], []⟩, ⟨[1, 3, 5, 6, 7, 8, 51], [], [], []⟩, ⟨[1, 3, 5, 6, 7, 8], [], [], []⟩, ⟨[1, 3, 5, 6, 7, 8, 9], [], [], []⟩, ⟨[3, 5, 6, 7, 8, 9], [], [769], []⟩, ⟨[3, 5, 6, 7, 8, 9, 10], [], [], []⟩, ⟨[3, 6, 7, 8, 9, 10], [], [], []⟩, ⟨[6], [], [], []⟩]
noncomputable def f71e : Env := tab.env [(44, s44), (66, s66)]
noncomputable def f71L0 {R : Type} (n : Nat) (x0 : Int → Bool → Option R) (x1 : Int → Option R) (vs1 : ByteArray) (vb3_0 : Int) (vb3_1 : Int) (vb3_2 : ByteArray) (vb3_3 : List ByteArray) (vb3_4 : List NodeT) (vb5_0 : Int) (vb5_1 : Int) (vb5_2 : ByteArray) (vb5_3 : List ByteArray) (vb5_4 : List NodeT) (vb7_0 : Int) (vb7_1 : Int) (vb7_2 : ByteArray) (vr768 : List ByteArray) (vr769 : List NodeT) : Nat → Int → Option R
  | 0, _ => none
  | m + 1, vs8 =>
    (cond (decide (vs8 < (vb3_3.length : Int)))
      (cond ((decide ((0 : Int) ≤ vs8)) && (decide (vs8 < (vb3_3.length : Int))))
        (cond (sLt (atI (t := .str) vb3_3 (Int.toNat vs8)) vs1)
          (f71L0 n x0 x1 vs1 vb3_0 vb3_1 vb3_2 vb3_3 vb3_4 vb5_0 vb5_1 vb5_2 vb5_3 vb5_4 vb7_0 vb7_1 vb7_2 vr768 vr769 m (IntKind.wrap .i64 (vs8 + (1 : Int))))
          (x0 vs8 (sLt (atI (t := .str) vb3_3 (Int.toNat vs8)) vs1)))
        none)
      (x1 vs8))
theorem f71L0_b {R : Type} (n : Nat) (k' : Ex → St → Option R) (vs1 : ByteArray) (vs8 : Int) (vb3_0 : Int) (vb3_1 : Int) (vb3_2 : ByteArray) (vb3_3 : List ByteArray) (vb3_4 : List NodeT) (vb5_0 : Int) (vb5_1 : Int) (vb5_2 : ByteArray) (vb5_3 : List ByteArray) (vb5_4 : List NodeT) (vb7_0 : Int) (vb7_1 : Int) (vb7_2 : ByteArray) (vr768 : List ByteArray) (vr769 : List NodeT) : ev f71e f71k n (cAt [1,1,1,1,1,1,0,0,0] f71c) ⟨[(1, .c (.one (.v (.string vs1)))), (3, .c (.one (.pt 3 0))), (5, .c (.one (.pt 5 0))), (6, .c (.one (.pt 6 0))), (7, .c (.one (.pt 7 0))), (8, .c (.one (.v (.int .i64 vs8))))], [(3, ⟨.node, [.v (.int .i64 vb3_0), .v (.int .i64 vb3_1), .v (.string vb3_2), .ro .str vb3_3, .ro .node vb3_4]⟩), (5, ⟨.node, [.v (.int .i64 vb5_0), .v (.int .i64 vb5_1), .v (.string vb5_2), .ro .str vb5_3, .ro .node vb5_4]⟩), (6, ⟨.node, [.v (.int .i64 (0 : Int)), .v (.int .i64 (0 : Int)), .v (.string ByteArray.empty), .nl, .nl]⟩), (7, ⟨.node, [.v (.int .i64 vb7_0), .v (.int .i64 vb7_1), .v (.string vb7_2), .h 768 0 0 [], .h 769 0 0 []]⟩)], [(768, .live ⟨.str, .deep, 0, [], vr768⟩), (769, .live ⟨.node, .deep, 0, [], vr769⟩)]⟩ k' =
    (cond (decide (vs8 < (vb3_3.length : Int)))
    (cond ((decide ((0 : Int) ≤ vs8)) && (decide (vs8 < (vb3_3.length : Int))))
      (cond (sLt (atI (t := .str) vb3_3 (Int.toNat vs8)) vs1)
        (k' .normal ⟨[(1, .c (.one (.v (.string vs1)))), (3, .c (.one (.pt 3 0))), (5, .c (.one (.pt 5 0))), (6, .c (.one (.pt 6 0))), (7, .c (.one (.pt 7 0))), (8, .c (.one (.v (.int .i64 (IntKind.wrap .i64 (vs8 + (1 : Int)))))))], [(3, ⟨.node, [.v (.int .i64 vb3_0), .v (.int .i64 vb3_1), .v (.string vb3_2), .ro .str vb3_3, .ro .node vb3_4]⟩), (5, ⟨.node, [.v (.int .i64 vb5_0), .v (.int .i64 vb5_1), .v (.string vb5_2), .ro .str vb5_3, .ro .node vb5_4]⟩), (6, ⟨.node, [.v (.int .i64 (0 : Int)), .v (.int .i64 (0 : Int)), .v (.string ByteArray.empty), .nl, .nl]⟩), (7, ⟨.node, [.v (.int .i64 vb7_0), .v (.int .i64 vb7_1), .v (.string vb7_2), .h 768 0 0 [], .h 769 0 0 []]⟩)], [(768, .live ⟨.str, .deep, 0, [], vr768⟩), (769, .live ⟨.node, .deep, 0, [], vr769⟩)]⟩)
        (k' (.exit 0) ⟨[(1, .c (.one (.v (.string vs1)))), (3, .c (.one (.pt 3 0))), (5, .c (.one (.pt 5 0))), (6, .c (.one (.pt 6 0))), (7, .c (.one (.pt 7 0))), (8, .c (.one (.v (.int .i64 vs8)))), (51, .c (.one (.v (.bool (sLt (atI (t := .str) vb3_3 (Int.toNat vs8)) vs1)))))], [(3, ⟨.node, [.v (.int .i64 vb3_0), .v (.int .i64 vb3_1), .v (.string vb3_2), .ro .str vb3_3, .ro .node vb3_4]⟩), (5, ⟨.node, [.v (.int .i64 vb5_0), .v (.int .i64 vb5_1), .v (.string vb5_2), .ro .str vb5_3, .ro .node vb5_4]⟩), (6, ⟨.node, [.v (.int .i64 (0 : Int)), .v (.int .i64 (0 : Int)), .v (.string ByteArray.empty), .nl, .nl]⟩), (7, ⟨.node, [.v (.int .i64 vb7_0), .v (.int .i64 vb7_1), .v (.string vb7_2), .h 768 0 0 [], .h 769 0 0 []]⟩)], [(768, .live ⟨.str, .deep, 0, [], vr768⟩), (769, .live ⟨.node, .deep, 0, [], vr769⟩)]⟩))
      none)
    (k' (.exit 0) ⟨[(1, .c (.one (.v (.string vs1)))), (3, .c (.one (.pt 3 0))), (5, .c (.one (.pt 5 0))), (6, .c (.one (.pt 6 0))), (7, .c (.one (.pt 7 0))), (8, .c (.one (.v (.int .i64 vs8)))), (51, .c (.one (.v (.bool false))))], [(3, ⟨.node, [.v (.int .i64 vb3_0), .v (.int .i64 vb3_1), .v (.string vb3_2), .ro .str vb3_3, .ro .node vb3_4]⟩), (5, ⟨.node, [.v (.int .i64 vb5_0), .v (.int .i64 vb5_1), .v (.string vb5_2), .ro .str vb5_3, .ro .node vb5_4]⟩), (6, ⟨.node, [.v (.int .i64 (0 : Int)), .v (.int .i64 (0 : Int)), .v (.string ByteArray.empty), .nl, .nl]⟩), (7, ⟨.node, [.v (.int .i64 vb7_0), .v (.int .i64 vb7_1), .v (.string vb7_2), .h 768 0 0 [], .h 769 0 0 []]⟩)], [(768, .live ⟨.str, .deep, 0, [], vr768⟩), (769, .live ⟨.node, .deep, 0, [], vr769⟩)]⟩)) := by kernel_rfl
theorem f71L0_eq {R : Type} (n : Nat) (k' : Ex → St → Option R) (vs1 : ByteArray) (vb3_0 : Int) (vb3_1 : Int) (vb3_2 : ByteArray) (vb3_3 : List ByteArray) (vb3_4 : List NodeT) (vb5_0 : Int) (vb5_1 : Int) (vb5_2 : ByteArray) (vb5_3 : List ByteArray) (vb5_4 : List NodeT) (vb7_0 : Int) (vb7_1 : Int) (vb7_2 : ByteArray) (vr768 : List ByteArray) (vr769 : List NodeT) : ∀ (m : Nat) (vs8 : Int), iter (fun st k => ev f71e f71k n (cAt [1,1,1,1,1,1,0,0,0] f71c) st k) m ⟨[(1, .c (.one (.v (.string vs1)))), (3, .c (.one (.pt 3 0))), (5, .c (.one (.pt 5 0))), (6, .c (.one (.pt 6 0))), (7, .c (.one (.pt 7 0))), (8, .c (.one (.v (.int .i64 vs8))))], [(3, ⟨.node, [.v (.int .i64 vb3_0), .v (.int .i64 vb3_1), .v (.string vb3_2), .ro .str vb3_3, .ro .node vb3_4]⟩), (5, ⟨.node, [.v (.int .i64 vb5_0), .v (.int .i64 vb5_1), .v (.string vb5_2), .ro .str vb5_3, .ro .node vb5_4]⟩), (6, ⟨.node, [.v (.int .i64 (0 : Int)), .v (.int .i64 (0 : Int)), .v (.string ByteArray.empty), .nl, .nl]⟩), (7, ⟨.node, [.v (.int .i64 vb7_0), .v (.int .i64 vb7_1), .v (.string vb7_2), .h 768 0 0 [], .h 769 0 0 []]⟩)], [(768, .live ⟨.str, .deep, 0, [], vr768⟩), (769, .live ⟨.node, .deep, 0, [], vr769⟩)]⟩ k' = f71L0 n (fun (xvs8 : Int) (xvs51 : Bool) => k' (.exit 0) ⟨[(1, .c (.one (.v (.string vs1)))), (3, .c (.one (.pt 3 0))), (5, .c (.one (.pt 5 0))), (6, .c (.one (.pt 6 0))), (7, .c (.one (.pt 7 0))), (8, .c (.one (.v (.int .i64 xvs8)))), (51, .c (.one (.v (.bool xvs51))))], [(3, ⟨.node, [.v (.int .i64 vb3_0), .v (.int .i64 vb3_1), .v (.string vb3_2), .ro .str vb3_3, .ro .node vb3_4]⟩), (5, ⟨.node, [.v (.int .i64 vb5_0), .v (.int .i64 vb5_1), .v (.string vb5_2), .ro .str vb5_3, .ro .node vb5_4]⟩), (6, ⟨.node, [.v (.int .i64 (0 : Int)), .v (.int .i64 (0 : Int)), .v (.string ByteArray.empty), .nl, .nl]⟩), (7, ⟨.node, [.v (.int .i64 vb7_0), .v (.int .i64 vb7_1), .v (.string vb7_2), .h 768 0 0 [], .h 769 0 0 []]⟩)], [(768, .live ⟨.str, .deep, 0, [], vr768⟩), (769, .live ⟨.node, .deep, 0, [], vr769⟩)]⟩) (fun (xvs8 : Int) => k' (.exit 0) ⟨[(1, .c (.one (.v (.string vs1)))), (3, .c (.one (.pt 3 0))), (5, .c (.one (.pt 5 0))), (6, .c (.one (.pt 6 0))), (7, .c (.one (.pt 7 0))), (8, .c (.one (.v (.int .i64 xvs8)))), (51, .c (.one (.v (.bool false))))], [(3, ⟨.node, [.v (.int .i64 vb3_0), .v (.int .i64 vb3_1), .v (.string vb3_2), .ro .str vb3_3, .ro .node vb3_4]⟩), (5, ⟨.node, [.v (.int .i64 vb5_0), .v (.int .i64 vb5_1), .v (.string vb5_2), .ro .str vb5_3, .ro .node vb5_4]⟩), (6, ⟨.node, [.v (.int .i64 (0 : Int)), .v (.int .i64 (0 : Int)), .v (.string ByteArray.empty), .nl, .nl]⟩), (7, ⟨.node, [.v (.int .i64 vb7_0), .v (.int .i64 vb7_1), .v (.string vb7_2), .h 768 0 0 [], .h 769 0 0 []]⟩)], [(768, .live ⟨.str, .deep, 0, [], vr768⟩), (769, .live ⟨.node, .deep, 0, [], vr769⟩)]⟩) vs1 vb3_0 vb3_1 vb3_2 vb3_3 vb3_4 vb5_0 vb5_1 vb5_2 vb5_3 vb5_4 vb7_0 vb7_1 vb7_2 vr768 vr769 m vs8 := by
  intro m; induction m with
  | zero => intros; rfl
  | succ m ih =>
    intro vs8
    simp only [iter]
    rw [f71L0_b]
    simp only [ih, f71L0]

noncomputable def f71K0 {R : Type} (n : Nat) (k' : Ex → St → Option R) : Ex → St → Option R := (blockK 0 (seqK f71e f71k n (cAt [1,1,1,1,1,1,1] f71c) k'))
theorem f71K0_x0 {R : Type} (n : Nat) (k : List Dt → Option R) (a0 : NodeT) (a1 : ByteArray) (a2 : NodeT) (vs1 : ByteArray) (vb3_0 : Int) (vb3_1 : Int) (vb3_2 : ByteArray) (vb3_3 : List ByteArray) (vb3_4 : List NodeT) (vb5_0 : Int) (vb5_1 : Int) (vb5_2 : ByteArray) (vb5_3 : List ByteArray) (vb5_4 : List NodeT) (vb7_0 : Int) (vb7_1 : Int) (vb7_2 : ByteArray) (vr768 : List ByteArray) (vr769 : List NodeT) (xvs8 : Int) (xvs51 : Bool) : f71K0 n (exitK f71e [.ro, .ro, .ro] [false] false [.cell 6 31] [31] [.d .node a0, .d .str a1, .d .node a2] k) (.exit 0) ⟨[(1, .c (.one (.v (.string vs1)))), (3, .c (.one (.pt 3 0))), (5, .c (.one (.pt 5 0))), (6, .c (.one (.pt 6 0))), (7, .c (.one (.pt 7 0))), (8, .c (.one (.v (.int .i64 xvs8)))), (51, .c (.one (.v (.bool xvs51))))], [(3, ⟨.node, [.v (.int .i64 vb3_0), .v (.int .i64 vb3_1), .v (.string vb3_2), .ro .str vb3_3, .ro .node vb3_4]⟩), (5, ⟨.node, [.v (.int .i64 vb5_0), .v (.int .i64 vb5_1), .v (.string vb5_2), .ro .str vb5_3, .ro .node vb5_4]⟩), (6, ⟨.node, [.v (.int .i64 (0 : Int)), .v (.int .i64 (0 : Int)), .v (.string ByteArray.empty), .nl, .nl]⟩), (7, ⟨.node, [.v (.int .i64 vb7_0), .v (.int .i64 vb7_1), .v (.string vb7_2), .h 768 0 0 [], .h 769 0 0 []]⟩)], [(768, .live ⟨.str, .deep, 0, [], vr768⟩), (769, .live ⟨.node, .deep, 0, [], vr769⟩)]⟩ =
    (cond ((decide ((0 : Int) ≤ xvs8)) && (decide (xvs8 ≤ (vr768.length : Int))))
    (cond (Nat.ble (0 + ((vr768.take (Int.toNat xvs8)).drop 0).length) LIM)
      (cond (Nat.ble ((([] : List ByteArray) ++ ((vr768.take (Int.toNat xvs8)).drop 0)).length + 1) LIM)
        (cond ((decide ((0 : Int) ≤ xvs8)) && (decide (xvs8 ≤ (vr769.length : Int))))
          (cond (Nat.ble (0 + ((vr769.take (Int.toNat xvs8)).drop 0).length) LIM)
            (cond (sm_node (⟨vb5_0, vb5_1, vb5_2, vb5_3, vb5_4⟩ : NodeT))
              (cond (Nat.ble ((([] : List NodeT) ++ ((vr769.take (Int.toNat xvs8)).drop 0)).length + 1) LIM)
                (cond ((decide ((0 : Int) ≤ xvs8)) && ((decide (xvs8 ≤ (vr768.length : Int))) && (decide ((vr768.length : Int) ≤ (vr768.length : Int)))))
                  (cond (Nat.ble (((([] : List ByteArray) ++ ((vr768.take (Int.toNat xvs8)).drop 0)) ++ ([vs1] : List ByteArray)).length + ((vr768.take (Int.toNat (vr768.length : Int))).drop (Int.toNat xvs8)).length) LIM)
                    (cond ((decide ((0 : Int) ≤ xvs8)) && ((decide (xvs8 ≤ (vr769.length : Int))) && (decide ((vr769.length : Int) ≤ (vr769.length : Int)))))
                      (cond (Nat.ble (((([] : List NodeT) ++ ((vr769.take (Int.toNat xvs8)).drop 0)) ++ ([(⟨vb5_0, vb5_1, vb5_2, vb5_3, vb5_4⟩ : NodeT)] : List NodeT)).length + ((vr769.take (Int.toNat (vr769.length : Int))).drop (Int.toNat xvs8)).length) LIM)
                        (k [.d .node (⟨vb3_0, vb3_1, vb3_2, (((([] : List ByteArray) ++ ((vr768.take (Int.toNat xvs8)).drop 0)) ++ ([vs1] : List ByteArray)) ++ ((vr768.take (Int.toNat (vr768.length : Int))).drop (Int.toNat xvs8))), (((([] : List NodeT) ++ ((vr769.take (Int.toNat xvs8)).drop 0)) ++ ([(⟨vb5_0, vb5_1, vb5_2, vb5_3, vb5_4⟩ : NodeT)] : List NodeT)) ++ ((vr769.take (Int.toNat (vr769.length : Int))).drop (Int.toNat xvs8)))⟩ : NodeT)])
                        none)
                      none)
                    none)
                  none)
                none)
              none)
            none)
          none)
        none)
      none)
    none) := by kernel_rfl
theorem f71K0_x1 {R : Type} (n : Nat) (k : List Dt → Option R) (a0 : NodeT) (a1 : ByteArray) (a2 : NodeT) (vs1 : ByteArray) (vb3_0 : Int) (vb3_1 : Int) (vb3_2 : ByteArray) (vb3_3 : List ByteArray) (vb3_4 : List NodeT) (vb5_0 : Int) (vb5_1 : Int) (vb5_2 : ByteArray) (vb5_3 : List ByteArray) (vb5_4 : List NodeT) (vb7_0 : Int) (vb7_1 : Int) (vb7_2 : ByteArray) (vr768 : List ByteArray) (vr769 : List NodeT) (xvs8 : Int) : f71K0 n (exitK f71e [.ro, .ro, .ro] [false] false [.cell 6 31] [31] [.d .node a0, .d .str a1, .d .node a2] k) (.exit 0) ⟨[(1, .c (.one (.v (.string vs1)))), (3, .c (.one (.pt 3 0))), (5, .c (.one (.pt 5 0))), (6, .c (.one (.pt 6 0))), (7, .c (.one (.pt 7 0))), (8, .c (.one (.v (.int .i64 xvs8)))), (51, .c (.one (.v (.bool false))))], [(3, ⟨.node, [.v (.int .i64 vb3_0), .v (.int .i64 vb3_1), .v (.string vb3_2), .ro .str vb3_3, .ro .node vb3_4]⟩), (5, ⟨.node, [.v (.int .i64 vb5_0), .v (.int .i64 vb5_1), .v (.string vb5_2), .ro .str vb5_3, .ro .node vb5_4]⟩), (6, ⟨.node, [.v (.int .i64 (0 : Int)), .v (.int .i64 (0 : Int)), .v (.string ByteArray.empty), .nl, .nl]⟩), (7, ⟨.node, [.v (.int .i64 vb7_0), .v (.int .i64 vb7_1), .v (.string vb7_2), .h 768 0 0 [], .h 769 0 0 []]⟩)], [(768, .live ⟨.str, .deep, 0, [], vr768⟩), (769, .live ⟨.node, .deep, 0, [], vr769⟩)]⟩ =
    (cond ((decide ((0 : Int) ≤ xvs8)) && (decide (xvs8 ≤ (vr768.length : Int))))
    (cond (Nat.ble (0 + ((vr768.take (Int.toNat xvs8)).drop 0).length) LIM)
      (cond (Nat.ble ((([] : List ByteArray) ++ ((vr768.take (Int.toNat xvs8)).drop 0)).length + 1) LIM)
        (cond ((decide ((0 : Int) ≤ xvs8)) && (decide (xvs8 ≤ (vr769.length : Int))))
          (cond (Nat.ble (0 + ((vr769.take (Int.toNat xvs8)).drop 0).length) LIM)
            (cond (sm_node (⟨vb5_0, vb5_1, vb5_2, vb5_3, vb5_4⟩ : NodeT))
              (cond (Nat.ble ((([] : List NodeT) ++ ((vr769.take (Int.toNat xvs8)).drop 0)).length + 1) LIM)
                (cond ((decide ((0 : Int) ≤ xvs8)) && ((decide (xvs8 ≤ (vr768.length : Int))) && (decide ((vr768.length : Int) ≤ (vr768.length : Int)))))
                  (cond (Nat.ble (((([] : List ByteArray) ++ ((vr768.take (Int.toNat xvs8)).drop 0)) ++ ([vs1] : List ByteArray)).length + ((vr768.take (Int.toNat (vr768.length : Int))).drop (Int.toNat xvs8)).length) LIM)
                    (cond ((decide ((0 : Int) ≤ xvs8)) && ((decide (xvs8 ≤ (vr769.length : Int))) && (decide ((vr769.length : Int) ≤ (vr769.length : Int)))))
                      (cond (Nat.ble (((([] : List NodeT) ++ ((vr769.take (Int.toNat xvs8)).drop 0)) ++ ([(⟨vb5_0, vb5_1, vb5_2, vb5_3, vb5_4⟩ : NodeT)] : List NodeT)).length + ((vr769.take (Int.toNat (vr769.length : Int))).drop (Int.toNat xvs8)).length) LIM)
                        (k [.d .node (⟨vb3_0, vb3_1, vb3_2, (((([] : List ByteArray) ++ ((vr768.take (Int.toNat xvs8)).drop 0)) ++ ([vs1] : List ByteArray)) ++ ((vr768.take (Int.toNat (vr768.length : Int))).drop (Int.toNat xvs8))), (((([] : List NodeT) ++ ((vr769.take (Int.toNat xvs8)).drop 0)) ++ ([(⟨vb5_0, vb5_1, vb5_2, vb5_3, vb5_4⟩ : NodeT)] : List NodeT)) ++ ((vr769.take (Int.toNat (vr769.length : Int))).drop (Int.toNat xvs8)))⟩ : NodeT)])
                        none)
                      none)
                    none)
                  none)
                none)
              none)
            none)
          none)
        none)
      none)
    none) := by kernel_rfl

theorem f71_run {R : Type} (n : Nat) (k : List Dt → Option R) (a0 : NodeT) (a1 : ByteArray) (a2 : NodeT) : evFn f71e f71k n f71c [.ro, .ro, .ro] [false] false [.cell 6 31] [31] [.d .node a0, .d .str a1, .d .node a2] k =
    (cond (sm_node (eN a0))
    (cond ((NodeT.kind a0) != (5 : Int))
      (k [.d .node (eN a0)])
      (cond (((NodeT.keys a0).length : Int) != ((NodeT.kids a0).length : Int))
        (k [.d .node (eN a0)])
        (cond ((fun (x : NodeT) (_ : ByteArray) => sm_node x) (eN a0) a1)
          (cond (decide ((keyAt (eN a0) a1) ≥ (0 : Int)))
            (cond (sm_node (eN a2))
              (cond ((decide ((0 : Int) ≤ (keyAt (eN a0) a1))) && (decide ((keyAt (eN a0) a1) < ((NodeT.kids a0).length : Int))))
                (k [.d .node (⟨(NodeT.kind a0), (NodeT.n a0), (NodeT.s a0), (NodeT.keys a0), ((NodeT.kids a0).set (Int.toNat (keyAt (eN a0) a1)) (eN a2))⟩ : NodeT)])
                none)
              none)
            (f71L0 n (fun (xvs8 : Int) (xvs51 : Bool) =>
              (cond ((decide ((0 : Int) ≤ xvs8)) && (decide (xvs8 ≤ ((NodeT.keys a0).length : Int))))
                (cond (Nat.ble (0 + (((NodeT.keys a0).take (Int.toNat xvs8)).drop 0).length) LIM)
                  (cond (Nat.ble ((([] : List ByteArray) ++ (((NodeT.keys a0).take (Int.toNat xvs8)).drop 0)).length + 1) LIM)
                    (cond ((decide ((0 : Int) ≤ xvs8)) && (decide (xvs8 ≤ ((NodeT.kids a0).length : Int))))
                      (cond (Nat.ble (0 + (((NodeT.kids a0).take (Int.toNat xvs8)).drop 0).length) LIM)
                        (cond (sm_node (⟨(NodeT.kind a2), (NodeT.n a2), (NodeT.s a2), (NodeT.keys a2), (NodeT.kids a2)⟩ : NodeT))
                          (cond (Nat.ble ((([] : List NodeT) ++ (((NodeT.kids a0).take (Int.toNat xvs8)).drop 0)).length + 1) LIM)
                            (cond ((decide ((0 : Int) ≤ xvs8)) && ((decide (xvs8 ≤ ((NodeT.keys a0).length : Int))) && (decide (((NodeT.keys a0).length : Int) ≤ ((NodeT.keys a0).length : Int)))))
                              (cond (Nat.ble (((([] : List ByteArray) ++ (((NodeT.keys a0).take (Int.toNat xvs8)).drop 0)) ++ ([a1] : List ByteArray)).length + (((NodeT.keys a0).take (Int.toNat ((NodeT.keys a0).length : Int))).drop (Int.toNat xvs8)).length) LIM)
                                (cond ((decide ((0 : Int) ≤ xvs8)) && ((decide (xvs8 ≤ ((NodeT.kids a0).length : Int))) && (decide (((NodeT.kids a0).length : Int) ≤ ((NodeT.kids a0).length : Int)))))
                                  (cond (Nat.ble (((([] : List NodeT) ++ (((NodeT.kids a0).take (Int.toNat xvs8)).drop 0)) ++ ([(⟨(NodeT.kind a2), (NodeT.n a2), (NodeT.s a2), (NodeT.keys a2), (NodeT.kids a2)⟩ : NodeT)] : List NodeT)).length + (((NodeT.kids a0).take (Int.toNat ((NodeT.kids a0).length : Int))).drop (Int.toNat xvs8)).length) LIM)
                                    (k [.d .node (⟨(NodeT.kind a0), (NodeT.n a0), (NodeT.s a0), (((([] : List ByteArray) ++ (((NodeT.keys a0).take (Int.toNat xvs8)).drop 0)) ++ ([a1] : List ByteArray)) ++ (((NodeT.keys a0).take (Int.toNat ((NodeT.keys a0).length : Int))).drop (Int.toNat xvs8))), (((([] : List NodeT) ++ (((NodeT.kids a0).take (Int.toNat xvs8)).drop 0)) ++ ([(⟨(NodeT.kind a2), (NodeT.n a2), (NodeT.s a2), (NodeT.keys a2), (NodeT.kids a2)⟩ : NodeT)] : List NodeT)) ++ (((NodeT.kids a0).take (Int.toNat ((NodeT.kids a0).length : Int))).drop (Int.toNat xvs8)))⟩ : NodeT)])
                                    none)
                                  none)
                                none)
                              none)
                            none)
                          none)
                        none)
                      none)
                    none)
                  none)
                none)) (fun (xvs8 : Int) =>
              (cond ((decide ((0 : Int) ≤ xvs8)) && (decide (xvs8 ≤ ((NodeT.keys a0).length : Int))))
                (cond (Nat.ble (0 + (((NodeT.keys a0).take (Int.toNat xvs8)).drop 0).length) LIM)
                  (cond (Nat.ble ((([] : List ByteArray) ++ (((NodeT.keys a0).take (Int.toNat xvs8)).drop 0)).length + 1) LIM)
                    (cond ((decide ((0 : Int) ≤ xvs8)) && (decide (xvs8 ≤ ((NodeT.kids a0).length : Int))))
                      (cond (Nat.ble (0 + (((NodeT.kids a0).take (Int.toNat xvs8)).drop 0).length) LIM)
                        (cond (sm_node (⟨(NodeT.kind a2), (NodeT.n a2), (NodeT.s a2), (NodeT.keys a2), (NodeT.kids a2)⟩ : NodeT))
                          (cond (Nat.ble ((([] : List NodeT) ++ (((NodeT.kids a0).take (Int.toNat xvs8)).drop 0)).length + 1) LIM)
                            (cond ((decide ((0 : Int) ≤ xvs8)) && ((decide (xvs8 ≤ ((NodeT.keys a0).length : Int))) && (decide (((NodeT.keys a0).length : Int) ≤ ((NodeT.keys a0).length : Int)))))
                              (cond (Nat.ble (((([] : List ByteArray) ++ (((NodeT.keys a0).take (Int.toNat xvs8)).drop 0)) ++ ([a1] : List ByteArray)).length + (((NodeT.keys a0).take (Int.toNat ((NodeT.keys a0).length : Int))).drop (Int.toNat xvs8)).length) LIM)
                                (cond ((decide ((0 : Int) ≤ xvs8)) && ((decide (xvs8 ≤ ((NodeT.kids a0).length : Int))) && (decide (((NodeT.kids a0).length : Int) ≤ ((NodeT.kids a0).length : Int)))))
                                  (cond (Nat.ble (((([] : List NodeT) ++ (((NodeT.kids a0).take (Int.toNat xvs8)).drop 0)) ++ ([(⟨(NodeT.kind a2), (NodeT.n a2), (NodeT.s a2), (NodeT.keys a2), (NodeT.kids a2)⟩ : NodeT)] : List NodeT)).length + (((NodeT.kids a0).take (Int.toNat ((NodeT.kids a0).length : Int))).drop (Int.toNat xvs8)).length) LIM)
                                    (k [.d .node (⟨(NodeT.kind a0), (NodeT.n a0), (NodeT.s a0), (((([] : List ByteArray) ++ (((NodeT.keys a0).take (Int.toNat xvs8)).drop 0)) ++ ([a1] : List ByteArray)) ++ (((NodeT.keys a0).take (Int.toNat ((NodeT.keys a0).length : Int))).drop (Int.toNat xvs8))), (((([] : List NodeT) ++ (((NodeT.kids a0).take (Int.toNat xvs8)).drop 0)) ++ ([(⟨(NodeT.kind a2), (NodeT.n a2), (NodeT.s a2), (NodeT.keys a2), (NodeT.kids a2)⟩ : NodeT)] : List NodeT)) ++ (((NodeT.kids a0).take (Int.toNat ((NodeT.kids a0).length : Int))).drop (Int.toNat xvs8)))⟩ : NodeT)])
                                    none)
                                  none)
                                none)
                              none)
                            none)
                          none)
                        none)
                      none)
                    none)
                  none)
                none)) a1 (NodeT.kind a0) (NodeT.n a0) (NodeT.s a0) (NodeT.keys a0) (NodeT.kids a0) (NodeT.kind a2) (NodeT.n a2) (NodeT.s a2) (NodeT.keys a2) (NodeT.kids a2) (NodeT.kind a0) (NodeT.n a0) (NodeT.s a0) (NodeT.keys a0) (NodeT.kids a0) n (0 : Int)))
          none)))
    none) := by
  refine Eq.trans (b := (cond (sm_node (eN a0))
    (cond ((NodeT.kind a0) != (5 : Int))
      (k [.d .node (eN a0)])
      (cond (((NodeT.keys a0).length : Int) != ((NodeT.kids a0).length : Int))
        (k [.d .node (eN a0)])
        (cond ((fun (x : NodeT) (_ : ByteArray) => sm_node x) (eN a0) a1)
          (cond (decide ((keyAt (eN a0) a1) ≥ (0 : Int)))
            (cond (sm_node (eN a2))
              (cond ((decide ((0 : Int) ≤ (keyAt (eN a0) a1))) && (decide ((keyAt (eN a0) a1) < ((NodeT.kids a0).length : Int))))
                (k [.d .node (⟨(NodeT.kind a0), (NodeT.n a0), (NodeT.s a0), (NodeT.keys a0), ((NodeT.kids a0).set (Int.toNat (keyAt (eN a0) a1)) (eN a2))⟩ : NodeT)])
                none)
              none)
            (iter (fun st k => ev f71e f71k n (cAt [1,1,1,1,1,1,0,0,0] f71c) st k) n ⟨[(1, .c (.one (.v (.string a1)))), (3, .c (.one (.pt 3 0))), (5, .c (.one (.pt 5 0))), (6, .c (.one (.pt 6 0))), (7, .c (.one (.pt 7 0))), (8, .c (.one (.v (.int .i64 (0 : Int)))))], [(3, ⟨.node, [.v (.int .i64 (NodeT.kind a0)), .v (.int .i64 (NodeT.n a0)), .v (.string (NodeT.s a0)), .ro .str (NodeT.keys a0), .ro .node (NodeT.kids a0)]⟩), (5, ⟨.node, [.v (.int .i64 (NodeT.kind a2)), .v (.int .i64 (NodeT.n a2)), .v (.string (NodeT.s a2)), .ro .str (NodeT.keys a2), .ro .node (NodeT.kids a2)]⟩), (6, ⟨.node, [.v (.int .i64 (0 : Int)), .v (.int .i64 (0 : Int)), .v (.string ByteArray.empty), .nl, .nl]⟩), (7, ⟨.node, [.v (.int .i64 (NodeT.kind a0)), .v (.int .i64 (NodeT.n a0)), .v (.string (NodeT.s a0)), .h 768 0 0 [], .h 769 0 0 []]⟩)], [(768, .live ⟨.str, .deep, 0, [], (NodeT.keys a0)⟩), (769, .live ⟨.node, .deep, 0, [], (NodeT.kids a0)⟩)]⟩ (f71K0 n (exitK f71e [.ro, .ro, .ro] [false] false [.cell 6 31] [31] [.d .node a0, .d .str a1, .d .node a2] k))))
          none)))
    none)) (by kernel_rfl) ?_
  simp only [f71L0_eq, f71K0_x0, f71K0_x1]
theorem f71_spec (a0 : NodeT) (a1 : ByteArray) (a2 : NodeT) (hg : gS3 a0 a1 a2 = true) : ∃ keep rounds, ∀ {R : Type} (k : List Dt → Option R), evFn f71e keep rounds f71c [.ro, .ro, .ro] [false] false [.cell 6 31] [31] [.d .node a0, .d .str a1, .d .node a2] k = k [.d .node (setK a0 a1 a2)] := by
  have hg3 := hg
  simp only [gS3, Bool.and_eq_true] at hg
  obtain ⟨hg, hs1, hx2⟩ := hg
  have hg0 := hg
  rw [sm_node_def] at hg
  simp only [Bool.and_eq_true] at hg
  obtain ⟨_, _, _, hke, hki⟩ := hg
  have nke := smL_len hke
  have nki := smL_len hki
  refine ⟨f71k, a0.keys.length + 1, fun {R} k => ?_⟩
  rw [f71_run]
  simp only [eta_node, eN_eq, hg0, hx2, cond_true]
  show _ = k [.d .node (setK a0 a1 a2)]
  cases h5 : a0.kind == (5 : Int)
  · rw [show (a0.kind != (5 : Int)) = true by simp only [bne, h5]; rfl]
    unfold setK isMapN; rw [h5]; rfl
  rw [show (a0.kind != (5 : Int)) = false by simp only [bne, h5]; rfl]
  cases hl : ((a0.keys.length : Int) == (a0.kids.length : Int))
  · rw [show ((a0.keys.length : Int) != (a0.kids.length : Int)) = true by simp only [bne, hl]; rfl]
    unfold setK isMapN; rw [h5, hl]; rfl
  rw [show ((a0.keys.length : Int) != (a0.kids.length : Int)) = false by simp only [bne, hl]; rfl]
  have hm : isMapN a0 = true := by unfold isMapN; rw [h5, hl]; rfl
  have hl := (isMapN_eq hm).2
  simp only [cond_false]
  by_cases hk : keyAt a0 a1 < 0
  · rw [setK_neg hm hk, decide_eq_false (show ¬ (keyAt a0 a1 ≥ 0) by omega)]
    simp only [cond_false]
    refine Eq.trans (loop_find (n := a0.keys.length) (F := fun m i => f71L0 (a0.keys.length + 1) _ _ a1 _ _ _ a0.keys a0.kids _ _ _ _ _ _ _ _ _ _ m i) (p := fun j => !(sLt (atI (t := .str) a0.keys j) a1)) (hit := fun i => k [.d .node (putKey a0 i a1 a2)]) (miss := k [.d .node (putKey a0 (a0.keys.length : Int) a1 a2)])
      (fun m j hj => ?_) (fun m => ?_) a0.keys.length 0 (a0.keys.length + 1) (by omega) (by omega)) ?_
    · obtain ⟨h1, h0, hw, ht⟩ := idx hj (by omega)
      have d0 : decide ((0 : Int) ≤ (j : Int)) = true := decide_eq_true (by omega)
      have d1 : decide ((j : Int) ≤ (a0.keys.length : Int)) = true := decide_eq_true (by omega)
      have d2 : decide ((j : Int) ≤ (a0.kids.length : Int)) = true := decide_eq_true (by omega)
      have d6 : decide ((a0.keys.length : Int) ≤ (a0.keys.length : Int)) = true := decide_eq_true (Int.le_refl _)
      have d7 : decide ((a0.kids.length : Int) ≤ (a0.kids.length : Int)) = true := decide_eq_true (Int.le_refl _)
      simp only [f71L0, h1, h0, hw, ht, Bool.and_self, cond_true]
      cases sLt (atI (t := .str) a0.keys j) a1
      · simp only [Bool.not_false, d0, d1, d2, d6, d7, Int.toNat_natCast, List.drop_zero, List.take_length, List.nil_append, limT nke, limT1 nke, limT1D nke, limT nki, limT1 nki, limT1D nki, Bool.and_self, cond_true]
        rfl
      · rfl
    · have d0 : decide ((0 : Int) ≤ (a0.keys.length : Int)) = true := decide_eq_true (by omega)
      have d1 : decide ((a0.keys.length : Int) ≤ (a0.keys.length : Int)) = true := decide_eq_true (by omega)
      have d2 : decide ((a0.keys.length : Int) ≤ (a0.kids.length : Int)) = true := decide_eq_true (by omega)
      have d6 : decide ((a0.keys.length : Int) ≤ (a0.keys.length : Int)) = true := decide_eq_true (Int.le_refl _)
      have d7 : decide ((a0.kids.length : Int) ≤ (a0.kids.length : Int)) = true := decide_eq_true (Int.le_refl _)
      have e1 := limT nke a0.keys.length
      have e2 := limT1 nke a0.keys.length
      have e3 := limT1D nke a0.keys.length a0.keys.length a1
      rw [List.take_length] at e1 e2 e3
      have e4 : putKey a0 (a0.keys.length : Int) a1 a2 = ⟨a0.kind, a0.n, a0.s, a0.keys ++ [a1] ++ a0.keys.drop a0.keys.length, a0.kids.take a0.keys.length ++ [a2] ++ a0.kids.drop a0.keys.length⟩ := by
        unfold putKey insL; rw [Int.toNat_natCast, List.take_length]
      simp only [f71L0, idxE, cond_false, e1, e2, e3, e4, d0, d1, d2, d6, d7, Int.toNat_natCast, List.drop_zero, List.take_length, List.nil_append, limT nke, limT1 nke, limT1D nke, limT nki, limT1 nki, limT1D nki, Bool.and_self, cond_true]
    · unfold comesAt
      cases firstN (fun j => !(sLt (atI (t := .str) a0.keys j) a1)) 0 a0.keys.length <;> rfl
  · rw [setK_pos hm hk, decide_eq_true (show keyAt a0 a1 ≥ 0 by omega)]
    obtain ⟨i, e, h1, h2⟩ := keyAt_bd a0 a1 hk
    obtain ⟨i1, i0, _, _⟩ := idx h2 (by omega)
    simp only [eta_node, eN_eq, e, i0, i1, Bool.and_self, cond_true]
    rfl

noncomputable def q71 : List Dt → Option (Bool × List Dt)
  | [.d .node a0, .d .str a1, .d .node a2] => some ((gS3 a0 a1 a2), [.d .node (setK a0 a1 a2)])
  | _ => none
noncomputable def s71 : Gm.Spec := Gm.Spec.of [.ro, .ro, .ro] [false] false q71
theorem good71 : Gm.Good Try.prog (71, s71) := by
  have hl : ∀ x ∈ [(44, s44), (66, s66)], Gm.Good Try.prog x := List.forall_mem_cons.2 ⟨good44, List.forall_mem_cons.2 ⟨good66, List.forall_mem_nil _⟩⟩
  refine ⟨⟨spec_ok (tab_ok.env hl) (tab.natl hl) Try.func71 (by kernel_rfl : Try.f71.body = some f71c) [31] (by kernel_rfl) ?_, _, Try.func71, by kernel_rfl, of_decide_eq_true (by kernel_rfl)⟩, Gm.Spec.of_natl _ _ _ _⟩
  intro ds outs h
  unfold q71 at h
  split at h
  · simp only [Option.some.injEq, Prod.mk.injEq] at h; obtain ⟨hg, h⟩ := h; cases h; exact f71_spec _ _ _ hg
  · cases h
/-! ### loop.example/g00465/spec.l22Into -/
noncomputable def f72c : Code := (Try.f72.body).getD .skip
def f72k : Nat → Kp := kat [⟨[1, 3, 5, 6], [], [], []⟩, ⟨[1, 5, 6, 7], [], [641], []⟩, ⟨[1, 5, 6, 7, 8], [], [], []⟩, ⟨[1, 6, 7, 8], [], [], []⟩, ⟨[6, 7], [], [], []⟩, ⟨[6], [], [], []⟩]
noncomputable def f72e : Env := tab.env [(44, s44)]
theorem f72_run {R : Type} (n : Nat) (k : List Dt → Option R) (a0 : NodeT) (a1 : Int) (a2 : NodeT) : evFn f72e f72k n f72c [.ro, .ro, .ro] [false] false [.cell 6 31] [31] [.d .node a0, .d (.i .i64) a1, .d .node a2] k =
    (cond (sm_node (eN a0))
    (cond ((decide ((0 : Int) ≤ a1)) && (decide (a1 ≤ ((NodeT.kids a0).length : Int))))
      (cond (Nat.ble (0 + (((NodeT.kids a0).take (Int.toNat a1)).drop 0).length) LIM)
        (cond (sm_node (eN a2))
          (cond (Nat.ble ((([] : List NodeT) ++ (((NodeT.kids a0).take (Int.toNat a1)).drop 0)).length + 1) LIM)
            (cond ((decide ((0 : Int) ≤ a1)) && ((decide (a1 ≤ ((NodeT.kids a0).length : Int))) && (decide (((NodeT.kids a0).length : Int) ≤ ((NodeT.kids a0).length : Int)))))
              (cond (Nat.ble (((([] : List NodeT) ++ (((NodeT.kids a0).take (Int.toNat a1)).drop 0)) ++ ([(eN a2)] : List NodeT)).length + (((NodeT.kids a0).take (Int.toNat ((NodeT.kids a0).length : Int))).drop (Int.toNat a1)).length) LIM)
                (k [.d .node (⟨(NodeT.kind a0), (NodeT.n a0), (NodeT.s a0), (NodeT.keys a0), (((([] : List NodeT) ++ (((NodeT.kids a0).take (Int.toNat a1)).drop 0)) ++ ([(eN a2)] : List NodeT)) ++ (((NodeT.kids a0).take (Int.toNat ((NodeT.kids a0).length : Int))).drop (Int.toNat a1)))⟩ : NodeT)])
                none)
              none)
            none)
          none)
        none)
      none)
    none) := by kernel_rfl
theorem f72_spec (a0 : NodeT) (a1 : Int) (a2 : NodeT) (hg : gInto a0 a1 a2 = true) : ∃ keep rounds, ∀ {R : Type} (k : List Dt → Option R), evFn f72e keep rounds f72c [.ro, .ro, .ro] [false] false [.cell 6 31] [31] [.d .node a0, .d (.i .i64) a1, .d .node a2] k = k [.d .node (putKid a0 a1 a2)] := by
  simp only [gInto, Bool.and_eq_true] at hg
  obtain ⟨hg, hx2, hi0, hi1⟩ := hg
  have hi0 : 0 ≤ a1 := of_decide_eq_true hi0
  have hi1 : a1 ≤ (a0.kids.length : Int) := of_decide_eq_true hi1
  obtain ⟨i, rfl⟩ := Int.eq_ofNat_of_zero_le hi0
  have hg0 := hg
  rw [sm_node_def] at hg
  simp only [Bool.and_eq_true] at hg
  obtain ⟨_, _, _, hke, hki⟩ := hg
  have nke := smL_len hke
  have nki := smL_len hki
  refine ⟨f72k, 0, fun {R} k => ?_⟩
  rw [f72_run]
  have d0 : decide ((0 : Int) ≤ (i : Int)) = true := decide_eq_true (by omega)
  have d2 : decide ((i : Int) ≤ (a0.kids.length : Int)) = true := decide_eq_true (by omega)
  have d7 : decide ((a0.kids.length : Int) ≤ (a0.kids.length : Int)) = true := decide_eq_true (Int.le_refl _)
  simp only [eta_node, eN_eq, hg0, hx2, d0, d2, d7, Int.toNat_natCast, List.drop_zero, List.take_length, List.nil_append, limT nki, limT1 nki, limT1D nki, Bool.and_self, cond_true]
  rfl

noncomputable def q72 : List Dt → Option (Bool × List Dt)
  | [.d .node a0, .d (.i .i64) a1, .d .node a2] => some ((gInto a0 a1 a2), [.d .node (putKid a0 a1 a2)])
  | _ => none
noncomputable def s72 : Gm.Spec := Gm.Spec.of [.ro, .ro, .ro] [false] false q72
theorem good72 : Gm.Good Try.prog (72, s72) := by
  have hl : ∀ x ∈ [(44, s44)], Gm.Good Try.prog x := List.forall_mem_cons.2 ⟨good44, List.forall_mem_nil _⟩
  refine ⟨⟨spec_ok (tab_ok.env hl) (tab.natl hl) Try.func72 (by kernel_rfl : Try.f72.body = some f72c) [31] (by kernel_rfl) ?_, _, Try.func72, by kernel_rfl, of_decide_eq_true (by kernel_rfl)⟩, Gm.Spec.of_natl _ _ _ _⟩
  intro ds outs h
  unfold q72 at h
  split at h
  · simp only [Option.some.injEq, Prod.mk.injEq] at h; obtain ⟨hg, h⟩ := h; cases h; exact f72_spec _ _ _ hg
  · cases h
/-! ### loop.example/g00465/spec.l22Last -/
noncomputable def f54c : Code := (Try.f54.body).getD .skip
def f54k : Nat → Kp := kat [⟨[1, 3, 5, 6], [], [], []⟩, ⟨[1, 3, 5, 6, 20], [], [], []⟩, ⟨[6, 7], [], [], []⟩, ⟨[1, 3, 5, 6, 27], [], [], []⟩, ⟨[6, 7], [], [], []⟩, ⟨[1, 3, 5, 6, 8], [], [], []⟩, ⟨[1, 3, 5, 6, 8, 34], [], [], []⟩, ⟨[1, 3, 5, 6, 8], [], [], []⟩, ⟨[1, 3, 5, 6, 8, 51], [], [], []⟩, ⟨[6, 7], [], [], []⟩, ⟨[6, 7], [], [], []⟩]
noncomputable def f54e : Env := tab.env [(37, s37), (44, s44), (71, s71), (72, s72)]
noncomputable def f54L0 {R : Type} (n : Nat) (x0 : Int → Int → ByteArray → (List ByteArray) → (List NodeT) → Option R) (x1 : Int → Bool → Option R) (vs1 : ByteArray) (vb3_0 : Int) (vb3_1 : Int) (vb3_2 : ByteArray) (vb3_3 : List ByteArray) (vb3_4 : List NodeT) (vb5_0 : Int) (vb5_1 : Int) (vb5_2 : ByteArray) (vb5_3 : List ByteArray) (vb5_4 : List NodeT) : Nat → Int → Option R
  | 0, _ => none
  | m + 1, vs8 =>
    (cond (decide (vs8 ≤ (vb3_4.length : Int)))
      (cond (okI vs8)
        (cond (sEq (digS vs8) vs1)
          (cond (gInto (⟨vb3_0, vb3_1, vb3_2, vb3_3, vb3_4⟩ : NodeT) vs8 (⟨vb5_0, vb5_1, vb5_2, vb5_3, vb5_4⟩ : NodeT))
            (x0 (NodeT.kind (putKid (⟨vb3_0, vb3_1, vb3_2, vb3_3, vb3_4⟩ : NodeT) vs8 (⟨vb5_0, vb5_1, vb5_2, vb5_3, vb5_4⟩ : NodeT))) (NodeT.n (putKid (⟨vb3_0, vb3_1, vb3_2, vb3_3, vb3_4⟩ : NodeT) vs8 (⟨vb5_0, vb5_1, vb5_2, vb5_3, vb5_4⟩ : NodeT))) (NodeT.s (putKid (⟨vb3_0, vb3_1, vb3_2, vb3_3, vb3_4⟩ : NodeT) vs8 (⟨vb5_0, vb5_1, vb5_2, vb5_3, vb5_4⟩ : NodeT))) (NodeT.keys (putKid (⟨vb3_0, vb3_1, vb3_2, vb3_3, vb3_4⟩ : NodeT) vs8 (⟨vb5_0, vb5_1, vb5_2, vb5_3, vb5_4⟩ : NodeT))) (NodeT.kids (putKid (⟨vb3_0, vb3_1, vb3_2, vb3_3, vb3_4⟩ : NodeT) vs8 (⟨vb5_0, vb5_1, vb5_2, vb5_3, vb5_4⟩ : NodeT))))
            none)
          (cond (sEq vs1 (bs [45]))
            (cond (vs8 == (vb3_4.length : Int))
              (cond (gInto (⟨vb3_0, vb3_1, vb3_2, vb3_3, vb3_4⟩ : NodeT) vs8 (⟨vb5_0, vb5_1, vb5_2, vb5_3, vb5_4⟩ : NodeT))
                (x0 (NodeT.kind (putKid (⟨vb3_0, vb3_1, vb3_2, vb3_3, vb3_4⟩ : NodeT) vs8 (⟨vb5_0, vb5_1, vb5_2, vb5_3, vb5_4⟩ : NodeT))) (NodeT.n (putKid (⟨vb3_0, vb3_1, vb3_2, vb3_3, vb3_4⟩ : NodeT) vs8 (⟨vb5_0, vb5_1, vb5_2, vb5_3, vb5_4⟩ : NodeT))) (NodeT.s (putKid (⟨vb3_0, vb3_1, vb3_2, vb3_3, vb3_4⟩ : NodeT) vs8 (⟨vb5_0, vb5_1, vb5_2, vb5_3, vb5_4⟩ : NodeT))) (NodeT.keys (putKid (⟨vb3_0, vb3_1, vb3_2, vb3_3, vb3_4⟩ : NodeT) vs8 (⟨vb5_0, vb5_1, vb5_2, vb5_3, vb5_4⟩ : NodeT))) (NodeT.kids (putKid (⟨vb3_0, vb3_1, vb3_2, vb3_3, vb3_4⟩ : NodeT) vs8 (⟨vb5_0, vb5_1, vb5_2, vb5_3, vb5_4⟩ : NodeT))))
                none)
              (f54L0 n x0 x1 vs1 vb3_0 vb3_1 vb3_2 vb3_3 vb3_4 vb5_0 vb5_1 vb5_2 vb5_3 vb5_4 m (IntKind.wrap .i64 (vs8 + (1 : Int)))))
            (f54L0 n x0 x1 vs1 vb3_0 vb3_1 vb3_2 vb3_3 vb3_4 vb5_0 vb5_1 vb5_2 vb5_3 vb5_4 m (IntKind.wrap .i64 (vs8 + (1 : Int))))))
        none)
      (x1 vs8 (decide (vs8 ≤ (vb3_4.length : Int)))))
theorem f54L0_b {R : Type} (n : Nat) (k' : Ex → St → Option R) (vs1 : ByteArray) (vs8 : Int) (vb3_0 : Int) (vb3_1 : Int) (vb3_2 : ByteArray) (vb3_3 : List ByteArray) (vb3_4 : List NodeT) (vb5_0 : Int) (vb5_1 : Int) (vb5_2 : ByteArray) (vb5_3 : List ByteArray) (vb5_4 : List NodeT) : ev f54e f54k n (cAt [1,1,1,0,1,0,0] f54c) ⟨[(1, .c (.one (.v (.string vs1)))), (3, .c (.one (.pt 3 0))), (5, .c (.one (.pt 5 0))), (6, .c (.one (.pt 6 0))), (8, .c (.one (.v (.int .i64 vs8))))], [(3, ⟨.node, [.v (.int .i64 vb3_0), .v (.int .i64 vb3_1), .v (.string vb3_2), .ro .str vb3_3, .ro .node vb3_4]⟩), (5, ⟨.node, [.v (.int .i64 vb5_0), .v (.int .i64 vb5_1), .v (.string vb5_2), .ro .str vb5_3, .ro .node vb5_4]⟩), (6, ⟨.node, [.v (.int .i64 (0 : Int)), .v (.int .i64 (0 : Int)), .v (.string ByteArray.empty), .nl, .nl]⟩)], []⟩ k' =
    (cond (decide (vs8 ≤ (vb3_4.length : Int)))
    (cond (okI vs8)
      (cond (sEq (digS vs8) vs1)
        (cond (gInto (⟨vb3_0, vb3_1, vb3_2, vb3_3, vb3_4⟩ : NodeT) vs8 (⟨vb5_0, vb5_1, vb5_2, vb5_3, vb5_4⟩ : NodeT))
          (k' .ret ⟨[(6, .c (.one (.pt 6 0))), (7, .c (.one (.v (.bool true))))], [(6, ⟨.node, [.v (.int .i64 (NodeT.kind (putKid (⟨vb3_0, vb3_1, vb3_2, vb3_3, vb3_4⟩ : NodeT) vs8 (⟨vb5_0, vb5_1, vb5_2, vb5_3, vb5_4⟩ : NodeT)))), .v (.int .i64 (NodeT.n (putKid (⟨vb3_0, vb3_1, vb3_2, vb3_3, vb3_4⟩ : NodeT) vs8 (⟨vb5_0, vb5_1, vb5_2, vb5_3, vb5_4⟩ : NodeT)))), .v (.string (NodeT.s (putKid (⟨vb3_0, vb3_1, vb3_2, vb3_3, vb3_4⟩ : NodeT) vs8 (⟨vb5_0, vb5_1, vb5_2, vb5_3, vb5_4⟩ : NodeT)))), .ro .str (NodeT.keys (putKid (⟨vb3_0, vb3_1, vb3_2, vb3_3, vb3_4⟩ : NodeT) vs8 (⟨vb5_0, vb5_1, vb5_2, vb5_3, vb5_4⟩ : NodeT))), .ro .node (NodeT.kids (putKid (⟨vb3_0, vb3_1, vb3_2, vb3_3, vb3_4⟩ : NodeT) vs8 (⟨vb5_0, vb5_1, vb5_2, vb5_3, vb5_4⟩ : NodeT)))]⟩)], []⟩)
          none)
        (cond (sEq vs1 (bs [45]))
          (cond (vs8 == (vb3_4.length : Int))
            (cond (gInto (⟨vb3_0, vb3_1, vb3_2, vb3_3, vb3_4⟩ : NodeT) vs8 (⟨vb5_0, vb5_1, vb5_2, vb5_3, vb5_4⟩ : NodeT))
              (k' .ret ⟨[(6, .c (.one (.pt 6 0))), (7, .c (.one (.v (.bool true))))], [(6, ⟨.node, [.v (.int .i64 (NodeT.kind (putKid (⟨vb3_0, vb3_1, vb3_2, vb3_3, vb3_4⟩ : NodeT) vs8 (⟨vb5_0, vb5_1, vb5_2, vb5_3, vb5_4⟩ : NodeT)))), .v (.int .i64 (NodeT.n (putKid (⟨vb3_0, vb3_1, vb3_2, vb3_3, vb3_4⟩ : NodeT) vs8 (⟨vb5_0, vb5_1, vb5_2, vb5_3, vb5_4⟩ : NodeT)))), .v (.string (NodeT.s (putKid (⟨vb3_0, vb3_1, vb3_2, vb3_3, vb3_4⟩ : NodeT) vs8 (⟨vb5_0, vb5_1, vb5_2, vb5_3, vb5_4⟩ : NodeT)))), .ro .str (NodeT.keys (putKid (⟨vb3_0, vb3_1, vb3_2, vb3_3, vb3_4⟩ : NodeT) vs8 (⟨vb5_0, vb5_1, vb5_2, vb5_3, vb5_4⟩ : NodeT))), .ro .node (NodeT.kids (putKid (⟨vb3_0, vb3_1, vb3_2, vb3_3, vb3_4⟩ : NodeT) vs8 (⟨vb5_0, vb5_1, vb5_2, vb5_3, vb5_4⟩ : NodeT)))]⟩)], []⟩)
              none)
            (k' .normal ⟨[(1, .c (.one (.v (.string vs1)))), (3, .c (.one (.pt 3 0))), (5, .c (.one (.pt 5 0))), (6, .c (.one (.pt 6 0))), (8, .c (.one (.v (.int .i64 (IntKind.wrap .i64 (vs8 + (1 : Int)))))))], [(3, ⟨.node, [.v (.int .i64 vb3_0), .v (.int .i64 vb3_1), .v (.string vb3_2), .ro .str vb3_3, .ro .node vb3_4]⟩), (5, ⟨.node, [.v (.int .i64 vb5_0), .v (.int .i64 vb5_1), .v (.string vb5_2), .ro .str vb5_3, .ro .node vb5_4]⟩), (6, ⟨.node, [.v (.int .i64 (0 : Int)), .v (.int .i64 (0 : Int)), .v (.string ByteArray.empty), .nl, .nl]⟩)], []⟩))
          (k' .normal ⟨[(1, .c (.one (.v (.string vs1)))), (3, .c (.one (.pt 3 0))), (5, .c (.one (.pt 5 0))), (6, .c (.one (.pt 6 0))), (8, .c (.one (.v (.int .i64 (IntKind.wrap .i64 (vs8 + (1 : Int)))))))], [(3, ⟨.node, [.v (.int .i64 vb3_0), .v (.int .i64 vb3_1), .v (.string vb3_2), .ro .str vb3_3, .ro .node vb3_4]⟩), (5, ⟨.node, [.v (.int .i64 vb5_0), .v (.int .i64 vb5_1), .v (.string vb5_2), .ro .str vb5_3, .ro .node vb5_4]⟩), (6, ⟨.node, [.v (.int .i64 (0 : Int)), .v (.int .i64 (0 : Int)), .v (.string ByteArray.empty), .nl, .nl]⟩)], []⟩)))
      none)
    (k' (.exit 0) ⟨[(1, .c (.one (.v (.string vs1)))), (3, .c (.one (.pt 3 0))), (5, .c (.one (.pt 5 0))), (6, .c (.one (.pt 6 0))), (8, .c (.one (.v (.int .i64 vs8)))), (34, .c (.one (.v (.bool (decide (vs8 ≤ (vb3_4.length : Int)))))))], [(3, ⟨.node, [.v (.int .i64 vb3_0), .v (.int .i64 vb3_1), .v (.string vb3_2), .ro .str vb3_3, .ro .node vb3_4]⟩), (5, ⟨.node, [.v (.int .i64 vb5_0), .v (.int .i64 vb5_1), .v (.string vb5_2), .ro .str vb5_3, .ro .node vb5_4]⟩), (6, ⟨.node, [.v (.int .i64 (0 : Int)), .v (.int .i64 (0 : Int)), .v (.string ByteArray.empty), .nl, .nl]⟩)], []⟩)) := by kernel_rfl
theorem f54L0_eq {R : Type} (n : Nat) (k' : Ex → St → Option R) (vs1 : ByteArray) (vb3_0 : Int) (vb3_1 : Int) (vb3_2 : ByteArray) (vb3_3 : List ByteArray) (vb3_4 : List NodeT) (vb5_0 : Int) (vb5_1 : Int) (vb5_2 : ByteArray) (vb5_3 : List ByteArray) (vb5_4 : List NodeT) : ∀ (m : Nat) (vs8 : Int), iter (fun st k => ev f54e f54k n (cAt [1,1,1,0,1,0,0] f54c) st k) m ⟨[(1, .c (.one (.v (.string vs1)))), (3, .c (.one (.pt 3 0))), (5, .c (.one (.pt 5 0))), (6, .c (.one (.pt 6 0))), (8, .c (.one (.v (.int .i64 vs8))))], [(3, ⟨.node, [.v (.int .i64 vb3_0), .v (.int .i64 vb3_1), .v (.string vb3_2), .ro .str vb3_3, .ro .node vb3_4]⟩), (5, ⟨.node, [.v (.int .i64 vb5_0), .v (.int .i64 vb5_1), .v (.string vb5_2), .ro .str vb5_3, .ro .node vb5_4]⟩), (6, ⟨.node, [.v (.int .i64 (0 : Int)), .v (.int .i64 (0 : Int)), .v (.string ByteArray.empty), .nl, .nl]⟩)], []⟩ k' = f54L0 n (fun (xvb6_0 : Int) (xvb6_1 : Int) (xvb6_2 : ByteArray) (xvb6_3 : List ByteArray) (xvb6_4 : List NodeT) => k' .ret ⟨[(6, .c (.one (.pt 6 0))), (7, .c (.one (.v (.bool true))))], [(6, ⟨.node, [.v (.int .i64 xvb6_0), .v (.int .i64 xvb6_1), .v (.string xvb6_2), .ro .str xvb6_3, .ro .node xvb6_4]⟩)], []⟩) (fun (xvs8 : Int) (xvs34 : Bool) => k' (.exit 0) ⟨[(1, .c (.one (.v (.string vs1)))), (3, .c (.one (.pt 3 0))), (5, .c (.one (.pt 5 0))), (6, .c (.one (.pt 6 0))), (8, .c (.one (.v (.int .i64 xvs8)))), (34, .c (.one (.v (.bool xvs34))))], [(3, ⟨.node, [.v (.int .i64 vb3_0), .v (.int .i64 vb3_1), .v (.string vb3_2), .ro .str vb3_3, .ro .node vb3_4]⟩), (5, ⟨.node, [.v (.int .i64 vb5_0), .v (.int .i64 vb5_1), .v (.string vb5_2), .ro .str vb5_3, .ro .node vb5_4]⟩), (6, ⟨.node, [.v (.int .i64 (0 : Int)), .v (.int .i64 (0 : Int)), .v (.string ByteArray.empty), .nl, .nl]⟩)], []⟩) vs1 vb3_0 vb3_1 vb3_2 vb3_3 vb3_4 vb5_0 vb5_1 vb5_2 vb5_3 vb5_4 m vs8 := by
  intro m; induction m with
  | zero => intros; rfl
  | succ m ih =>
    intro vs8
    simp only [iter]
    rw [f54L0_b]
    simp only [ih, f54L0]

noncomputable def f54K0 {R : Type} (n : Nat) (k' : Ex → St → Option R) : Ex → St → Option R := (blockK 0 (seqK f54e f54k n (cAt [1,1,1,1] f54c) k'))
theorem f54K0_x0 {R : Type} (n : Nat) (k : List Dt → Option R) (a0 : NodeT) (a1 : ByteArray) (a2 : NodeT) (xvb6_0 : Int) (xvb6_1 : Int) (xvb6_2 : ByteArray) (xvb6_3 : List ByteArray) (xvb6_4 : List NodeT) : f54K0 n (exitK f54e [.ro, .ro, .ro] [false, false] false [.cell 6 31, .tmp 7] [31, 4] [.d .node a0, .d .str a1, .d .node a2] k) .ret ⟨[(6, .c (.one (.pt 6 0))), (7, .c (.one (.v (.bool true))))], [(6, ⟨.node, [.v (.int .i64 xvb6_0), .v (.int .i64 xvb6_1), .v (.string xvb6_2), .ro .str xvb6_3, .ro .node xvb6_4]⟩)], []⟩ =
    (k [.d .node (⟨xvb6_0, xvb6_1, xvb6_2, xvb6_3, xvb6_4⟩ : NodeT), .d .bool true]) := by kernel_rfl
theorem f54K0_x1 {R : Type} (n : Nat) (k : List Dt → Option R) (a0 : NodeT) (a1 : ByteArray) (a2 : NodeT) (vs1 : ByteArray) (vb3_0 : Int) (vb3_1 : Int) (vb3_2 : ByteArray) (vb3_3 : List ByteArray) (vb3_4 : List NodeT) (vb5_0 : Int) (vb5_1 : Int) (vb5_2 : ByteArray) (vb5_3 : List ByteArray) (vb5_4 : List NodeT) (xvs8 : Int) (xvs34 : Bool) : f54K0 n (exitK f54e [.ro, .ro, .ro] [false, false] false [.cell 6 31, .tmp 7] [31, 4] [.d .node a0, .d .str a1, .d .node a2] k) (.exit 0) ⟨[(1, .c (.one (.v (.string vs1)))), (3, .c (.one (.pt 3 0))), (5, .c (.one (.pt 5 0))), (6, .c (.one (.pt 6 0))), (8, .c (.one (.v (.int .i64 xvs8)))), (34, .c (.one (.v (.bool xvs34))))], [(3, ⟨.node, [.v (.int .i64 vb3_0), .v (.int .i64 vb3_1), .v (.string vb3_2), .ro .str vb3_3, .ro .node vb3_4]⟩), (5, ⟨.node, [.v (.int .i64 vb5_0), .v (.int .i64 vb5_1), .v (.string vb5_2), .ro .str vb5_3, .ro .node vb5_4]⟩), (6, ⟨.node, [.v (.int .i64 (0 : Int)), .v (.int .i64 (0 : Int)), .v (.string ByteArray.empty), .nl, .nl]⟩)], []⟩ =
    (cond (sm_node (⟨vb3_0, vb3_1, vb3_2, vb3_3, vb3_4⟩ : NodeT))
    (k [.d .node (⟨vb3_0, vb3_1, vb3_2, vb3_3, vb3_4⟩ : NodeT), .d .bool false])
    none) := by kernel_rfl

theorem f54_run {R : Type} (n : Nat) (k : List Dt → Option R) (a0 : NodeT) (a1 : ByteArray) (a2 : NodeT) : evFn f54e f54k n f54c [.ro, .ro, .ro] [false, false] false [.cell 6 31, .tmp 7] [31, 4] [.d .node a0, .d .str a1, .d .node a2] k =
    (cond ((NodeT.kind a0) == (5 : Int))
    (cond (((NodeT.keys a0).length : Int) == ((NodeT.kids a0).length : Int))
      (cond (gS3 (eN a0) a1 (eN a2))
        (k [.d .node (eN (setK (eN a0) a1 (eN a2))), .d .bool true])
        none)
      (cond ((NodeT.kind a0) != (4 : Int))
        (cond (sm_node (eN a0))
          (k [.d .node (eN a0), .d .bool false])
          none)
        (f54L0 n (fun (xvb6_0 : Int) (xvb6_1 : Int) (xvb6_2 : ByteArray) (xvb6_3 : List ByteArray) (xvb6_4 : List NodeT) =>
          (k [.d .node (⟨xvb6_0, xvb6_1, xvb6_2, xvb6_3, xvb6_4⟩ : NodeT), .d .bool true])) (fun (xvs8 : Int) (xvs34 : Bool) =>
          (cond (sm_node (⟨(NodeT.kind a0), (NodeT.n a0), (NodeT.s a0), (NodeT.keys a0), (NodeT.kids a0)⟩ : NodeT))
            (k [.d .node (eN a0), .d .bool false])
            none)) a1 (NodeT.kind a0) (NodeT.n a0) (NodeT.s a0) (NodeT.keys a0) (NodeT.kids a0) (NodeT.kind a2) (NodeT.n a2) (NodeT.s a2) (NodeT.keys a2) (NodeT.kids a2) n (0 : Int))))
    (cond ((NodeT.kind a0) != (4 : Int))
      (cond (sm_node (eN a0))
        (k [.d .node (eN a0), .d .bool false])
        none)
      (f54L0 n (fun (xvb6_0 : Int) (xvb6_1 : Int) (xvb6_2 : ByteArray) (xvb6_3 : List ByteArray) (xvb6_4 : List NodeT) =>
        (k [.d .node (⟨xvb6_0, xvb6_1, xvb6_2, xvb6_3, xvb6_4⟩ : NodeT), .d .bool true])) (fun (xvs8 : Int) (xvs34 : Bool) =>
        (cond (sm_node (⟨(NodeT.kind a0), (NodeT.n a0), (NodeT.s a0), (NodeT.keys a0), (NodeT.kids a0)⟩ : NodeT))
          (k [.d .node (eN a0), .d .bool false])
          none)) a1 (NodeT.kind a0) (NodeT.n a0) (NodeT.s a0) (NodeT.keys a0) (NodeT.kids a0) (NodeT.kind a2) (NodeT.n a2) (NodeT.s a2) (NodeT.keys a2) (NodeT.kids a2) n (0 : Int)))) := by
  refine Eq.trans (b := (cond ((NodeT.kind a0) == (5 : Int))
    (cond (((NodeT.keys a0).length : Int) == ((NodeT.kids a0).length : Int))
      (cond (gS3 (eN a0) a1 (eN a2))
        (k [.d .node (eN (setK (eN a0) a1 (eN a2))), .d .bool true])
        none)
      (cond ((NodeT.kind a0) != (4 : Int))
        (cond (sm_node (eN a0))
          (k [.d .node (eN a0), .d .bool false])
          none)
        (iter (fun st k => ev f54e f54k n (cAt [1,1,1,0,1,0,0] f54c) st k) n ⟨[(1, .c (.one (.v (.string a1)))), (3, .c (.one (.pt 3 0))), (5, .c (.one (.pt 5 0))), (6, .c (.one (.pt 6 0))), (8, .c (.one (.v (.int .i64 (0 : Int)))))], [(3, ⟨.node, [.v (.int .i64 (NodeT.kind a0)), .v (.int .i64 (NodeT.n a0)), .v (.string (NodeT.s a0)), .ro .str (NodeT.keys a0), .ro .node (NodeT.kids a0)]⟩), (5, ⟨.node, [.v (.int .i64 (NodeT.kind a2)), .v (.int .i64 (NodeT.n a2)), .v (.string (NodeT.s a2)), .ro .str (NodeT.keys a2), .ro .node (NodeT.kids a2)]⟩), (6, ⟨.node, [.v (.int .i64 (0 : Int)), .v (.int .i64 (0 : Int)), .v (.string ByteArray.empty), .nl, .nl]⟩)], []⟩ (f54K0 n (exitK f54e [.ro, .ro, .ro] [false, false] false [.cell 6 31, .tmp 7] [31, 4] [.d .node a0, .d .str a1, .d .node a2] k)))))
    (cond ((NodeT.kind a0) != (4 : Int))
      (cond (sm_node (eN a0))
        (k [.d .node (eN a0), .d .bool false])
        none)
      (iter (fun st k => ev f54e f54k n (cAt [1,1,1,0,1,0,0] f54c) st k) n ⟨[(1, .c (.one (.v (.string a1)))), (3, .c (.one (.pt 3 0))), (5, .c (.one (.pt 5 0))), (6, .c (.one (.pt 6 0))), (8, .c (.one (.v (.int .i64 (0 : Int)))))], [(3, ⟨.node, [.v (.int .i64 (NodeT.kind a0)), .v (.int .i64 (NodeT.n a0)), .v (.string (NodeT.s a0)), .ro .str (NodeT.keys a0), .ro .node (NodeT.kids a0)]⟩), (5, ⟨.node, [.v (.int .i64 (NodeT.kind a2)), .v (.int .i64 (NodeT.n a2)), .v (.string (NodeT.s a2)), .ro .str (NodeT.keys a2), .ro .node (NodeT.kids a2)]⟩), (6, ⟨.node, [.v (.int .i64 (0 : Int)), .v (.int .i64 (0 : Int)), .v (.string ByteArray.empty), .nl, .nl]⟩)], []⟩ (f54K0 n (exitK f54e [.ro, .ro, .ro] [false, false] false [.cell 6 31, .tmp 7] [31, 4] [.d .node a0, .d .str a1, .d .node a2] k)))))) (by kernel_rfl) ?_
  simp only [f54L0_eq, f54K0_x0, f54K0_x1]
theorem f54_spec (a0 : NodeT) (a1 : ByteArray) (a2 : NodeT) (hg : gS3 a0 a1 a2 = true) : ∃ keep rounds, ∀ {R : Type} (k : List Dt → Option R), evFn f54e keep rounds f54c [.ro, .ro, .ro] [false, false] false [.cell 6 31, .tmp 7] [31, 4] [.d .node a0, .d .str a1, .d .node a2] k = k [.d .node ((sLast a0 a1 a2).1), .d .bool ((sLast a0 a1 a2).2)] := by
  have hg3 := hg
  simp only [gS3, Bool.and_eq_true] at hg
  obtain ⟨hg, hs1, hx2⟩ := hg
  have hg0 := hg
  rw [sm_node_def] at hg
  simp only [Bool.and_eq_true] at hg
  obtain ⟨_, _, _, hke, hki⟩ := hg
  have nke := smL_len hke
  have nki := smL_len hki
  refine ⟨f54k, a0.kids.length + 2, fun {R} k => ?_⟩
  rw [f54_run]
  simp only [eta_node, eN_eq, hg0, hg3, cond_true]
  show _ = k [.d .node (sLast a0 a1 a2).1, .d .bool (sLast a0 a1 a2).2]
  unfold sLast
  rw [putPtr_one]
  unfold putLast
  cases h5 : a0.kind == (5 : Int)
  rotate_left
  · obtain ⟨n4, e4⟩ := bne4 h5
    cases hl : ((a0.keys.length : Int) == (a0.kids.length : Int))
    · rw [show isMapN a0 = false by unfold isMapN; rw [h5, hl]; rfl, n4, e4]; rfl
    · rw [show isMapN a0 = true by unfold isMapN; rw [h5, hl]; rfl]; rfl
  rw [show isMapN a0 = false by unfold isMapN; rw [h5]; rfl]
  simp only [cond_false]
  cases h4 : a0.kind == (4 : Int)
  · rw [show (a0.kind != (4 : Int)) = true by simp only [bne, h4]; rfl]; rfl
  rw [show (a0.kind != (4 : Int)) = false by simp only [bne, h4]; rfl]
  simp only [cond_true, cond_false]
  refine Eq.trans (loop_find (n := a0.kids.length + 1) (F := fun m i => f54L0 (a0.kids.length + 2) _ _ a1 _ _ _ _ a0.kids _ _ _ _ _ m i) (p := slotP a1 a0.kids.length) (hit := fun i => k [.d .node (putKid a0 i a2), .d .bool true]) (miss := k [.d .node a0, .d .bool false])
    (fun m j hj => ?_) (fun m => ?_) (a0.kids.length + 1) 0 (a0.kids.length + 2) (by omega) (by omega)) ?_
  · have h1 : decide ((j : Int) ≤ (a0.kids.length : Int)) = true := decide_eq_true (by omega)
    have h2 : okI (j : Int) = true := okI_of (by omega) (by omega)
    have h3 : gInto a0 (j : Int) a2 = true := by
      simp only [gInto, Bool.and_eq_true, decide_eq_true_eq]; exact ⟨hg0, hx2, by omega, by omega⟩
    have hw : IntKind.wrap .i64 ((j : Int) + 1) = ((j + 1 : Nat) : Int) := by rw [wrap_id (by omega) (by omega)]; rfl
    simp only [f54L0, eta_node, eN_eq, h1, h2, h3, hw, cond_true]
    unfold slotP
    rw [show sEq a1 (bs [45]) = sEq a1 dash from rfl]
    cases sEq (digS (j : Int)) a1
    · cases sEq a1 dash
      · rfl
      · cases ((j : Int) == (a0.kids.length : Int)) <;> rfl
    · rfl
  · have h1 : decide (((a0.kids.length + 1 : Nat) : Int) ≤ (a0.kids.length : Int)) = false := decide_eq_false (by omega)
    simp only [f54L0, h1, cond_false]
  · unfold slotAt
    cases hf : firstN (slotP a1 a0.kids.length) 0 (a0.kids.length + 1) with
    | none => rfl
    | some i =>
      rw [decide_eq_false (show ¬ (plc (some i) < 0) by show ¬ ((i : Int) < 0); omega)]
      rfl

noncomputable def q54 : List Dt → Option (Bool × List Dt)
  | [.d .node a0, .d .str a1, .d .node a2] => some ((gS3 a0 a1 a2), [.d .node ((sLast a0 a1 a2).1), .d .bool ((sLast a0 a1 a2).2)])
  | _ => none
noncomputable def s54 : Gm.Spec := Gm.Spec.of [.ro, .ro, .ro] [false, false] false q54
theorem good54 : Gm.Good Try.prog (54, s54) := by
  have hl : ∀ x ∈ [(37, s37), (44, s44), (71, s71), (72, s72)], Gm.Good Try.prog x := List.forall_mem_cons.2 ⟨good37, List.forall_mem_cons.2 ⟨good44, List.forall_mem_cons.2 ⟨good71, List.forall_mem_cons.2 ⟨good72, List.forall_mem_nil _⟩⟩⟩⟩
  refine ⟨⟨spec_ok (tab_ok.env hl) (tab.natl hl) Try.func54 (by kernel_rfl : Try.f54.body = some f54c) [31, 4] (by kernel_rfl) ?_, _, Try.func54, by kernel_rfl, of_decide_eq_true (by kernel_rfl)⟩, Gm.Spec.of_natl _ _ _ _⟩
  intro ds outs h
  unfold q54 at h
  split at h
  · simp only [Option.some.injEq, Prod.mk.injEq] at h; obtain ⟨hg, h⟩ := h; cases h; exact f54_spec _ _ _ hg
  · cases h
noncomputable def q26 : List Dt → Option (Bool × List Dt)
  | [.d .node a0, .d (.sl .str) a1, .d .node a2] => some ((gP a0 a1 a2), [.d .node ((putPtr a0 a1 a2).1), .d .bool ((putPtr a0 a1 a2).2)])
  | _ => none
noncomputable def mu26 : List Dt → Nat
  | [.d .node a0, .d (.sl .str) a1, .d .node a2] => (fun (_ : NodeT) (p : List ByteArray) (_ : NodeT) => p.length) a0 a1 a2
  | _ => 0
noncomputable def s26r (N : Nat) : Gm.Spec := Gm.Spec.of [.ro, .ro, .ro] [false, false] false (qlt mu26 N q26)
/-! ### loop.example/g00465/spec.PutPtr -/
noncomputable def f26c : Code := (Try.f26.body).getD .skip
def f26k : Nat → Kp := kat [⟨[1, 3, 5, 6], [], [], []⟩, ⟨[1, 3, 5, 6, 16], [], [], []⟩, ⟨[6, 7], [], [], []⟩, ⟨[1, 3, 5, 6, 21], [], [], []⟩, ⟨[6, 8, 9], [], [], []⟩, ⟨[6, 7], [], [], []⟩, ⟨[1, 3, 5, 6, 10], [], [], []⟩, ⟨[1, 3, 5, 6, 10, 46], [], [], []⟩, ⟨[6, 7], [], [], []⟩, ⟨[3, 6, 10, 11, 12], [], [], []⟩, ⟨[6, 10, 11, 12, 13], [], [], []⟩, ⟨[6, 10, 11, 12, 13, 63], [], [], []⟩, ⟨[6, 12, 13], [], [], []⟩, ⟨[6, 7], [], [], []⟩]
noncomputable def f26e (N : Nat) : Env := tab.env [(26, s26r N), (43, s43), (44, s44), (54, s54)]
noncomputable def f26v0 (a0 : NodeT) (a1 : List ByteArray) (a2 : NodeT) : List NodeT :=
  ((NodeT.kids a0).set (Int.toNat (kidAt (eN a0) (atI (t := .str) a1 0))) (eN ((putPtr (eN (atI (t := .node) (NodeT.kids a0) (Int.toNat (kidAt (eN a0) (atI (t := .str) a1 0))))) ((a1.take (Int.toNat (a1.length : Int))).drop 1) (eN a2)).1)))
theorem f26_run {R : Type} (N : Nat) (n : Nat) (k : List Dt → Option R) (a0 : NodeT) (a1 : List ByteArray) (a2 : NodeT) : evFn (f26e N) f26k n f26c [.ro, .ro, .ro] [false, false] false [.cell 6 31, .tmp 7] [31, 4] [.d .node a0, .d (.sl .str) a1, .d .node a2] k =
    (cond ((a1.length : Int) == (0 : Int))
    (cond (sm_node (eN a2))
      (k [.d .node (eN a2), .d .bool true])
      none)
    (cond ((a1.length : Int) == (1 : Int))
      (cond (decide ((0 : Int) < (a1.length : Int)))
        (cond (gS3 (eN a0) (atI (t := .str) a1 0) (eN a2))
          (k [.d .node (eN ((sLast (eN a0) (atI (t := .str) a1 0) (eN a2)).1)), .d .bool ((sLast (eN a0) (atI (t := .str) a1 0) (eN a2)).2)])
          none)
        none)
      (cond (decide ((0 : Int) < (a1.length : Int)))
        (cond ((fun (x : NodeT) (_ : ByteArray) => sm_node x) (eN a0) (atI (t := .str) a1 0))
          (cond (decide ((kidAt (eN a0) (atI (t := .str) a1 0)) < (0 : Int)))
            (cond (sm_node (eN a0))
              (k [.d .node (eN a0), .d .bool false])
              none)
            (cond (decide ((kidAt (eN a0) (atI (t := .str) a1 0)) ≥ ((NodeT.kids a0).length : Int)))
              (cond (sm_node (eN a0))
                (k [.d .node (eN a0), .d .bool false])
                none)
              (cond ((decide ((0 : Int) ≤ (kidAt (eN a0) (atI (t := .str) a1 0)))) && (decide ((kidAt (eN a0) (atI (t := .str) a1 0)) < ((NodeT.kids a0).length : Int))))
                (cond ((decide ((1 : Int) ≤ (a1.length : Int))) && (decide ((a1.length : Int) ≤ (a1.length : Int))))
                  (cond ((gP (eN (atI (t := .node) (NodeT.kids a0) (Int.toNat (kidAt (eN a0) (atI (t := .str) a1 0))))) ((a1.take (Int.toNat (a1.length : Int))).drop 1) (eN a2)) && (Nat.blt ((fun (_ : NodeT) (p : List ByteArray) (_ : NodeT) => p.length) (eN (atI (t := .node) (NodeT.kids a0) (Int.toNat (kidAt (eN a0) (atI (t := .str) a1 0))))) ((a1.take (Int.toNat (a1.length : Int))).drop 1) (eN a2)) N))
                    (cond (sm_node (eN a0))
                      (cond ((putPtr (eN (atI (t := .node) (NodeT.kids a0) (Int.toNat (kidAt (eN a0) (atI (t := .str) a1 0))))) ((a1.take (Int.toNat (a1.length : Int))).drop 1) (eN a2)).2)
                        (cond ((decide ((0 : Int) ≤ (kidAt (eN a0) (atI (t := .str) a1 0)))) && (decide ((kidAt (eN a0) (atI (t := .str) a1 0)) < ((NodeT.kids a0).length : Int))))
                          (k [.d .node (⟨(NodeT.kind a0), (NodeT.n a0), (NodeT.s a0), (NodeT.keys a0), (f26v0 a0 a1 a2)⟩ : NodeT), .d .bool ((putPtr (eN (atI (t := .node) (NodeT.kids a0) (Int.toNat (kidAt (eN a0) (atI (t := .str) a1 0))))) ((a1.take (Int.toNat (a1.length : Int))).drop 1) (eN a2)).2)])
                          none)
                        (k [.d .node (eN a0), .d .bool ((putPtr (eN (atI (t := .node) (NodeT.kids a0) (Int.toNat (kidAt (eN a0) (atI (t := .str) a1 0))))) ((a1.take (Int.toNat (a1.length : Int))).drop 1) (eN a2)).2)]))
                      none)
                    none)
                  none)
                none)))
          none)
        none))) := by kernel_rfl
theorem f26_spec (N : Nat) (a0 : NodeT) (a1 : List ByteArray) (a2 : NodeT) (hg : gP a0 a1 a2 = true) (hm : mu26 [.d .node a0, .d (.sl .str) a1, .d .node a2] = N) : ∃ keep rounds, ∀ {R : Type} (k : List Dt → Option R), evFn (f26e N) keep rounds f26c [.ro, .ro, .ro] [false, false] false [.cell 6 31, .tmp 7] [31, 4] [.d .node a0, .d (.sl .str) a1, .d .node a2] k = k [.d .node ((putPtr a0 a1 a2).1), .d .bool ((putPtr a0 a1 a2).2)] := by
  have hm : a1.length = N := hm
  subst hm
  simp only [gP, Bool.and_eq_true] at hg
  obtain ⟨hg, hpa, hx2⟩ := hg
  have hg0 := hg
  rw [sm_node_def] at hg
  simp only [Bool.and_eq_true] at hg
  obtain ⟨_, _, _, hke, hki⟩ := hg
  have nke := smL_len hke
  have nki := smL_len hki
  refine ⟨f26k, 0, fun {R} k => ?_⟩
  rw [f26_run]
  show _ = k [.d .node (putPtr a0 a1 a2).1, .d .bool (putPtr a0 a1 a2).2]
  match a1, hpa with
  | [], _ =>
    simp only [eta_node, eN_eq, hx2]
    rfl
  | [p], hpa =>
    have l0 : decide ((0 : Int) < (([p] : List ByteArray).length : Int)) = true := rfl
    have l5 : atI (t := .str) [p] 0 = p := rfl
    have l7 : ((([p] : List ByteArray).length : Int) == (0 : Int)) = false := rfl
    have l8 : ((([p] : List ByteArray).length : Int) == (1 : Int)) = true := rfl
    have hg3 : gS3 a0 p a2 = true := by simp only [gS3, Bool.and_eq_true]; exact ⟨hg0, smL_head hpa, hx2⟩
    simp only [eta_node, eN_eq, l0, l5, l7, l8, hg3, cond_true, cond_false]
    rfl
  | p :: q :: r, hpa =>
    have l0 : decide ((0 : Int) < ((p :: q :: r).length : Int)) = true := decide_eq_true (by simp only [List.length_cons]; omega)
    have l1 : (((p :: q :: r).length : Int) == (1 : Int)) = false := by rw [beq_eq_false_iff_ne]; simp only [List.length_cons]; omega
    have l2 : decide ((1 : Int) ≤ ((p :: q :: r).length : Int)) = true := decide_eq_true (by simp only [List.length_cons]; omega)
    have l3 : decide (((p :: q :: r).length : Int) ≤ ((p :: q :: r).length : Int)) = true := decide_eq_true (Int.le_refl _)
    have l4 : ((p :: q :: r).take (Int.toNat ((p :: q :: r).length : Int))).drop 1 = q :: r := by rw [Int.toNat_natCast, List.take_length]; rfl
    have l5 : atI (t := .str) (p :: q :: r) 0 = p := rfl
    have l6 : Nat.blt (q :: r).length (p :: q :: r).length = true := by rw [Nat.blt_eq]; simp only [List.length_cons]; omega
    have l7 : (((p :: q :: r).length : Int) == (0 : Int)) = false := by rw [beq_eq_false_iff_ne]; simp only [List.length_cons]; omega
    have l8 : decide (((p :: q :: r).length : Int) > (1 : Int)) = true := decide_eq_true (by simp only [List.length_cons]; omega)
    have hqr : smL smStr (q :: r) = true := smL_tail hpa
    simp only [eta_node, eN_eq, hg0, l0, l1, l5, l7, cond_true, cond_false]
    by_cases hk : kidAt a0 p < 0
    · rw [putPtr_no a0 p q r a2 hk, decide_eq_true hk]; rfl
    rw [putPtr_deep a0 p q r a2 hk]
    obtain ⟨i, e, h1⟩ := kidAt_bd hk
    obtain ⟨i1, i0, hw, it⟩ := idx h1 (by omega)
    have d1 : decide ((i : Int) ≥ (a0.kids.length : Int)) = false := decide_eq_false (by omega)
    have hx := atI_lt (t := .node) h1
    have hgk : gP (atI (t := .node) a0.kids i) (q :: r) a2 = true := by
      simp only [gP, Bool.and_eq_true]
      exact ⟨sm_kid hg0 (List.mem_of_getElem? hx), hqr, hx2⟩
    simp only [decide_eq_false hk, f26v0, eta_node, eN_eq, l2, l3, l4, l5, l6, hgk, e, i1, i0, it, d1, Bool.and_self, cond_true, cond_false]
    cases (putPtr (atI (t := .node) a0.kids i) (q :: r) a2).2 <;> rfl

noncomputable def s26 : Gm.Spec := Gm.Spec.of [.ro, .ro, .ro] [false, false] false q26
theorem good26 : Gm.Good Try.prog (26, s26) := by
  refine ⟨⟨spec_rec mu26 fun N hr => ?_, _, Try.func26, by kernel_rfl, of_decide_eq_true (by kernel_rfl)⟩, Gm.Spec.of_natl _ _ _ _⟩
  have hl : ∀ x ∈ [(26, s26r N), (43, s43), (44, s44), (54, s54)], Gm.Good Try.prog x := List.forall_mem_cons.2 ⟨⟨⟨hr, _, Try.func26, by kernel_rfl, of_decide_eq_true (by kernel_rfl)⟩, Gm.Spec.of_natl _ _ _ _⟩, List.forall_mem_cons.2 ⟨good43, List.forall_mem_cons.2 ⟨good44, List.forall_mem_cons.2 ⟨good54, List.forall_mem_nil _⟩⟩⟩⟩
  intro R
  refine spec_ok (E := f26e N) (tab_ok.env hl) (tab.natl hl) Try.func26 (by kernel_rfl : Try.f26.body = some f26c) [31, 4] (by kernel_rfl) ?_
  intro ds outs h
  obtain ⟨h, hm⟩ := qeq_some h
  unfold q26 at h
  split at h
  · simp only [Option.some.injEq, Prod.mk.injEq] at h; obtain ⟨hg, h⟩ := h; cases h; exact f26_spec N _ _ _ hg hm
  · cases h
end Go.Proofs.Ytinbejnakemfjaa

/- x -/
namespace Go.Proofs.Ytinbejnakemfjaa
open Go Go.Gm
/-! ### loop.example/g00465/laws.szStringS -/
noncomputable def f17c : Code := (Try.f17.body).getD .skip
def f17k : Nat → Kp := kat [⟨[0, 1], [], [], []⟩, ⟨[0, 1], [], [], []⟩, ⟨[0, 1, 11], [], [], []⟩, ⟨[4], [], [], []⟩, ⟨[0, 1, 5], [], [], []⟩, ⟨[0, 1, 5, 15], [], [], []⟩, ⟨[0, 1, 5], [], [], []⟩, ⟨[0, 1, 5], [], [], []⟩, ⟨[0, 1, 5, 26], [], [], []⟩, ⟨[4], [], [], []⟩, ⟨[4], [], [], []⟩]
noncomputable def f17e : Env := tab.env []
noncomputable def f17L0 {R : Type} (n : Nat) (x0 : Option R) (x1 : Int → Int → Bool → Option R) (vs0 : List ByteArray) : Nat → Int → Int → Option R
  | 0, _, _ => none
  | m + 1, vs1, vs5 =>
    (cond (decide (vs5 < (vs0.length : Int)))
      (cond ((decide ((0 : Int) ≤ vs5)) && (decide (vs5 < (vs0.length : Int))))
        (cond (decide ((IntKind.wrap .i64 (vs1 - (ByteArray.size (atI (t := .str) vs0 (Int.toNat vs5)) : Int))) < (0 : Int)))
          (x0)
          (f17L0 n x0 x1 vs0 m (IntKind.wrap .i64 (vs1 - (ByteArray.size (atI (t := .str) vs0 (Int.toNat vs5)) : Int))) (IntKind.wrap .i64 (vs5 + (1 : Int)))))
        none)
      (x1 vs1 vs5 (decide (vs5 < (vs0.length : Int)))))
theorem f17L0_b {R : Type} (n : Nat) (k' : Ex → St → Option R) (vs0 : List ByteArray) (vs1 : Int) (vs5 : Int) : ev f17e f17k n (cAt [1,1,1,0,1,0,0] f17c) ⟨[(0, .c (.one (.ro .str vs0))), (1, .c (.one (.v (.int .i64 vs1)))), (5, .c (.one (.v (.int .i64 vs5))))], [], []⟩ k' =
    (cond (decide (vs5 < (vs0.length : Int)))
    (cond ((decide ((0 : Int) ≤ vs5)) && (decide (vs5 < (vs0.length : Int))))
      (cond (decide ((IntKind.wrap .i64 (vs1 - (ByteArray.size (atI (t := .str) vs0 (Int.toNat vs5)) : Int))) < (0 : Int)))
        (k' .ret ⟨[(4, .c (.one (.v (.int .i64 (-1 : Int)))))], [], []⟩)
        (k' .normal ⟨[(0, .c (.one (.ro .str vs0))), (1, .c (.one (.v (.int .i64 (IntKind.wrap .i64 (vs1 - (ByteArray.size (atI (t := .str) vs0 (Int.toNat vs5)) : Int))))))), (5, .c (.one (.v (.int .i64 (IntKind.wrap .i64 (vs5 + (1 : Int)))))))], [], []⟩))
      none)
    (k' (.exit 0) ⟨[(0, .c (.one (.ro .str vs0))), (1, .c (.one (.v (.int .i64 vs1)))), (5, .c (.one (.v (.int .i64 vs5)))), (15, .c (.one (.v (.bool (decide (vs5 < (vs0.length : Int)))))))], [], []⟩)) := by kernel_rfl
theorem f17L0_eq {R : Type} (n : Nat) (k' : Ex → St → Option R) (vs0 : List ByteArray) : ∀ (m : Nat) (vs1 : Int) (vs5 : Int), iter (fun st k => ev f17e f17k n (cAt [1,1,1,0,1,0,0] f17c) st k) m ⟨[(0, .c (.one (.ro .str vs0))), (1, .c (.one (.v (.int .i64 vs1)))), (5, .c (.one (.v (.int .i64 vs5))))], [], []⟩ k' = f17L0 n (k' .ret ⟨[(4, .c (.one (.v (.int .i64 (-1 : Int)))))], [], []⟩) (fun (xvs1 : Int) (xvs5 : Int) (xvs15 : Bool) => k' (.exit 0) ⟨[(0, .c (.one (.ro .str vs0))), (1, .c (.one (.v (.int .i64 xvs1)))), (5, .c (.one (.v (.int .i64 xvs5)))), (15, .c (.one (.v (.bool xvs15))))], [], []⟩) vs0 m vs1 vs5 := by
  intro m; induction m with
  | zero => intros; rfl
  | succ m ih =>
    intro vs1 vs5
    simp only [iter]
    rw [f17L0_b]
    simp only [ih, f17L0]

noncomputable def f17K0 {R : Type} (n : Nat) (k' : Ex → St → Option R) : Ex → St → Option R := (blockK 0 (seqK f17e f17k n (cAt [1,1,1,1] f17c) k'))
theorem f17K0_x0 {R : Type} (n : Nat) (k : List Dt → Option R) (a0 : List ByteArray) (a1 : Int)  : f17K0 n (exitK f17e [.ro, .ro] [false] true [.tmp 4] [3] [.d (.sl .str) a0, .d (.i .i64) a1] k) .ret ⟨[(4, .c (.one (.v (.int .i64 (-1 : Int)))))], [], []⟩ =
    (k [.d (.i .i64) (-1 : Int)]) := by kernel_rfl
theorem f17K0_x1 {R : Type} (n : Nat) (k : List Dt → Option R) (a0 : List ByteArray) (a1 : Int) (vs0 : List ByteArray) (xvs1 : Int) (xvs5 : Int) (xvs15 : Bool) : f17K0 n (exitK f17e [.ro, .ro] [false] true [.tmp 4] [3] [.d (.sl .str) a0, .d (.i .i64) a1] k) (.exit 0) ⟨[(0, .c (.one (.ro .str vs0))), (1, .c (.one (.v (.int .i64 xvs1)))), (5, .c (.one (.v (.int .i64 xvs5)))), (15, .c (.one (.v (.bool xvs15))))], [], []⟩ =
    (k [.d (.i .i64) xvs1]) := by kernel_rfl

theorem f17_run {R : Type} (n : Nat) (k : List Dt → Option R) (a0 : List ByteArray) (a1 : Int) : evFn f17e f17k n f17c [.ro, .ro] [false] true [.tmp 4] [3] [.d (.sl .str) a0, .d (.i .i64) a1] k =
    (cond (decide ((IntKind.wrap .i64 (a1 - (a0.length : Int))) < (0 : Int)))
    (k [.d (.i .i64) (-1 : Int)])
    (f17L0 n (k [.d (.i .i64) (-1 : Int)]) (fun (xvs1 : Int) (xvs5 : Int) (xvs15 : Bool) =>
      (k [.d (.i .i64) xvs1])) a0 n (IntKind.wrap .i64 (a1 - (a0.length : Int))) (0 : Int))) := by
  refine Eq.trans (b := (cond (decide ((IntKind.wrap .i64 (a1 - (a0.length : Int))) < (0 : Int)))
    (k [.d (.i .i64) (-1 : Int)])
    (iter (fun st k => ev f17e f17k n (cAt [1,1,1,0,1,0,0] f17c) st k) n ⟨[(0, .c (.one (.ro .str a0))), (1, .c (.one (.v (.int .i64 (IntKind.wrap .i64 (a1 - (a0.length : Int))))))), (5, .c (.one (.v (.int .i64 (0 : Int)))))], [], []⟩ (f17K0 n (exitK f17e [.ro, .ro] [false] true [.tmp 4] [3] [.d (.sl .str) a0, .d (.i .i64) a1] k))))) (by kernel_rfl) ?_
  simp only [f17L0_eq, f17K0_x0, f17K0_x1]
theorem f17_spec (a0 : List ByteArray) (a1 : Int) (hg : gzL_str a0 a1 = true) : ∃ keep rounds, ∀ {R : Type} (k : List Dt → Option R), evFn f17e keep rounds f17c [.ro, .ro] [false] true [.tmp 4] [3] [.d (.sl .str) a0, .d (.i .i64) a1] k = k [.d (.i .i64) (zL_str a0 a1)] := by
  simp only [gzL_str, okL, Bool.and_eq_true, okN_iff] at hg
  obtain ⟨⟨hl, hs⟩, hn⟩ := hg
  have hl : a0.length ≤ 9223372036854775807 := bleN hl
  refine ⟨f17k, a0.length + 1, fun k => ?_⟩
  rw [f17_run, wrap_id (x := a1 - (a0.length : Int)) (by omega) (by omega)]
  show _ = k [.d (.i .i64) (zL_str a0 a1)]
  unfold zL_str
  have eL : szL ByteArray.size a0 = a0.length + (a0.map ByteArray.size).sum := rfl
  by_cases hc : a1 - (a0.length : Int) < 0
  · simp only [hc, decide_true, cond_true]
    rw [szI_neg (by omega)]
  · simp only [hc, decide_false, cond_false]
    refine Eq.trans (loop_fold (xs := a0) (F := fun m j left => f17L0 (a0.length + 1) _ _ a0 m left (j : Int)) (step := szStep ByteArray.size)
      (out := fun _ => k [.d (.i .i64) (-1 : Int)]) (good := fun left => k [.d (.i .i64) left]) (fun n => 0 ≤ n ∧ n ≤ 1048576)
      (fun x n n' hx hn h => by
        unfold szStep at h
        split at h
        · cases h
        · cases h; omega)
      (fun m j n x hx hn => ?_)
      (fun m n hn => by simp only [f17L0, idxE, cond_false]) a0.length 0 (a0.length + 1) (a1 - (a0.length : Int)) (by omega) (by omega) (by omega)) ?_
    · obtain ⟨h1, h0, hw, ht⟩ := idx (lt_of_get hx) (by omega)
      have hx2 := List.all_eq_true.1 hs x (List.mem_of_getElem? hx)
      have hx2 : x.size ≤ 9223372036854775807 := bleN hx2
      simp only [f17L0, h1, h0, hw, ht, atI_of (t := .str) hx, Bool.and_self, cond_true]
      rw [wrap_id (x := n - (x.size : Int)) (by omega) (by omega)]
      unfold szStep
      by_cases h : n - (x.size : Int) < 0
      · simp only [h, decide_true, cond_true, if_true, Sum.elim_inl]
      · simp only [h, decide_false, cond_false, if_false, Sum.elim_inr]
    · rw [List.drop_zero, sz_fold _ _ _ (by omega)]
      by_cases h2 : a1 - (a0.length : Int) - ((a0.map ByteArray.size).sum : Nat) < 0
      · rw [if_pos h2, szI_neg (by omega)]; rfl
      · rw [if_neg h2, szI_pos (by omega)]
        simp only [Sum.elim_inr]
        rw [show a1 - (a0.length : Int) - ((a0.map ByteArray.size).sum : Nat) = a1 - (szL ByteArray.size a0 : Nat) by omega]

noncomputable def q17 : List Dt → Option (Bool × List Dt)
  | [.d (.sl .str) a0, .d (.i .i64) a1] => some ((gzL_str a0 a1), [.d (.i .i64) (zL_str a0 a1)])
  | _ => none
noncomputable def s17 : Gm.Spec := Gm.Spec.of [.ro, .ro] [false] true q17
theorem good17 : Gm.Good Try.prog (17, s17) := by
  have hl : ∀ x ∈ ([] : List (Nat × Gm.Spec)), Gm.Good Try.prog x := fun _ h => by cases h
  refine ⟨⟨spec_ok (tab_ok.env hl) (tab.natl hl) Try.func17 (by kernel_rfl : Try.f17.body = some f17c) [3] (by kernel_rfl) ?_, _, Try.func17, by kernel_rfl, of_decide_eq_true (by kernel_rfl)⟩, Gm.Spec.of_natl _ _ _ _⟩
  intro ds outs h
  unfold q17 at h
  split at h
  · simp only [Option.some.injEq, Prod.mk.injEq] at h; obtain ⟨hg, h⟩ := h; cases h; exact f17_spec _ _ hg
  · cases h
noncomputable def q8 : List Dt → Option (Bool × List Dt)
  | [.d .node a0, .d (.i .i64) a1] => some ((gz_node a0 a1), [.d (.i .i64) (z_node a0 a1)])
  | _ => none
noncomputable def mu8 : List Dt → Nat
  | [.d .node a0, .d (.i .i64) a1] => mz_node a0 a1
  | _ => 0
noncomputable def s8r (N : Nat) : Gm.Spec := Gm.Spec.of [.ro, .ro] [false] true (qlt mu8 N q8)
noncomputable def s8 : Gm.Spec := Gm.Spec.of [.ro, .ro] [false] true q8
noncomputable def q36 : List Dt → Option (Bool × List Dt)
  | [.d (.sl .node) a0, .d (.i .i64) a1] => some ((gzL_node a0 a1), [.d (.i .i64) (zL_node a0 a1)])
  | _ => none
noncomputable def mu36 : List Dt → Nat
  | [.d (.sl .node) a0, .d (.i .i64) a1] => mzL_node a0 a1
  | _ => 0
noncomputable def s36r (N : Nat) : Gm.Spec := Gm.Spec.of [.ro, .ro] [false] true (qlt mu36 N q36)
/-! ### loop.example/g00465/laws.szNode -/
noncomputable def f8c : Code := (Try.f8.body).getD .skip
def f8k : Nat → Kp := kat [⟨[1, 2], [], [], []⟩, ⟨[1, 2], [], [], []⟩, ⟨[1, 2, 11], [], [], []⟩, ⟨[4], [], [], []⟩, ⟨[1, 2], [], [], []⟩, ⟨[1, 2, 17], [], [], []⟩, ⟨[4], [], [], []⟩, ⟨[1], [], [], []⟩, ⟨[1, 23], [], [], []⟩, ⟨[4], [], [], []⟩, ⟨[4], [], [], []⟩]
noncomputable def f8e (N : Nat) : Env := tab.env [(17, s17), (36, s36r N)]
theorem f8_run {R : Type} (N : Nat) (n : Nat) (k : List Dt → Option R) (a0 : NodeT) (a1 : Int) : evFn (f8e N) f8k n f8c [.ro, .ro] [false] true [.tmp 4] [3] [.d .node a0, .d (.i .i64) a1] k =
    (cond (decide ((IntKind.wrap .i64 (a1 - (ByteArray.size (NodeT.s a0) : Int))) < (0 : Int)))
    (k [.d (.i .i64) (-1 : Int)])
    (cond (gzL_str (NodeT.keys a0) (IntKind.wrap .i64 (a1 - (ByteArray.size (NodeT.s a0) : Int))))
      (cond (decide ((zL_str (NodeT.keys a0) (IntKind.wrap .i64 (a1 - (ByteArray.size (NodeT.s a0) : Int)))) < (0 : Int)))
        (k [.d (.i .i64) (-1 : Int)])
        (cond ((gzL_node (NodeT.kids a0) (zL_str (NodeT.keys a0) (IntKind.wrap .i64 (a1 - (ByteArray.size (NodeT.s a0) : Int))))) && (Nat.blt (mzL_node (NodeT.kids a0) (zL_str (NodeT.keys a0) (IntKind.wrap .i64 (a1 - (ByteArray.size (NodeT.s a0) : Int))))) N))
          (cond (decide ((zL_node (NodeT.kids a0) (zL_str (NodeT.keys a0) (IntKind.wrap .i64 (a1 - (ByteArray.size (NodeT.s a0) : Int))))) < (0 : Int)))
            (k [.d (.i .i64) (-1 : Int)])
            (k [.d (.i .i64) (zL_node (NodeT.kids a0) (zL_str (NodeT.keys a0) (IntKind.wrap .i64 (a1 - (ByteArray.size (NodeT.s a0) : Int)))))]))
          none))
      none)) := by kernel_rfl
theorem f8_spec (N : Nat) (a0 : NodeT) (a1 : Int) (hg : gz_node a0 a1 = true) (hm : mu8 [.d .node a0, .d (.i .i64) a1] = N) : ∃ keep rounds, ∀ {R : Type} (k : List Dt → Option R), evFn (f8e N) keep rounds f8c [.ro, .ro] [false] true [.tmp 4] [3] [.d .node a0, .d (.i .i64) a1] k = k [.d (.i .i64) (z_node a0 a1)] := by
  have hm : mz_node a0 a1 = N := hm
  subst hm
  simp only [gz_node, ok_node_def, Bool.and_eq_true, okN_iff] at hg
  obtain ⟨⟨hf_kind, hf_n, hf_s, hf_keys, hf_kids⟩, hn1, hn2⟩ := hg
  have hf_sb : a0.s.size ≤ 9223372036854775807 := bleN hf_s
  have eN := szN_node_def a0
  refine ⟨f8k, 0, fun {R} k => ?_⟩
  rw [f8_run]
  show _ = k [.d (.i .i64) (z_node a0 a1)]
  unfold z_node
  rw [wrap_id (x := a1 - ((a0.s.size : Nat) : Int)) (by omega) (by omega)]
  by_cases h1 : a1 - ((a0.s.size : Nat) : Int) < 0
  · simp only [h1, decide_true, cond_true]; rw [szI_neg (by omega)]
  simp only [h1, decide_false, cond_false]
  have g2 : gzL_str a0.keys (a1 - ((a0.s.size : Nat) : Int)) = true := by simp only [gzL_str, Bool.and_eq_true, okN_iff]; exact ⟨hf_keys, by omega, by omega⟩
  have z2 : zL_str a0.keys (a1 - ((a0.s.size : Nat) : Int)) = szI (szL ByteArray.size a0.keys) (a1 - ((a0.s.size : Nat) : Int)) := rfl
  rw [g2, z2]
  by_cases h2 : (a1 - ((a0.s.size : Nat) : Int)) - ((szL ByteArray.size a0.keys : Nat) : Int) < 0
  · rw [szI_neg h2, szI_neg (by omega)]; rfl
  rw [szI_pos h2]
  simp only [cond_true, h2, decide_false, cond_false, Bool.and_self]
  have g3 : gzL_node a0.kids ((a1 - ((a0.s.size : Nat) : Int)) - ((szL ByteArray.size a0.keys : Nat) : Int)) = true := by simp only [gzL_node, Bool.and_eq_true, okN_iff]; exact ⟨hf_kids, by omega, by omega⟩
  have m3 : Nat.blt (mzL_node a0.kids ((a1 - ((a0.s.size : Nat) : Int)) - ((szL ByteArray.size a0.keys : Nat) : Int))) (mz_node a0 a1) = true := by rw [Nat.blt_eq]; simp only [mzL_node, mz_node, nd_node_def]; omega
  have z3 : zL_node a0.kids ((a1 - ((a0.s.size : Nat) : Int)) - ((szL ByteArray.size a0.keys : Nat) : Int)) = szI (szL szN_node a0.kids) ((a1 - ((a0.s.size : Nat) : Int)) - ((szL ByteArray.size a0.keys : Nat) : Int)) := rfl
  rw [g3, m3, z3]
  by_cases h3 : ((a1 - ((a0.s.size : Nat) : Int)) - ((szL ByteArray.size a0.keys : Nat) : Int)) - ((szL szN_node a0.kids : Nat) : Int) < 0
  · rw [szI_neg h3, szI_neg (by omega)]; rfl
  rw [szI_pos h3]
  simp only [cond_true, h3, decide_false, cond_false, Bool.and_self]
  rw [szI_pos (by omega)]
  first
    | rfl
    | rw [show (((a1 - ((a0.s.size : Nat) : Int)) - ((szL ByteArray.size a0.keys : Nat) : Int)) - ((szL szN_node a0.kids : Nat) : Int)) = a1 - ((szN_node a0 : Nat) : Int) by omega]


/-! ### loop.example/g00465/laws.szNodeS -/
noncomputable def f36c : Code := (Try.f36.body).getD .skip
def f36k : Nat → Kp := kat [⟨[0, 1], [], [], []⟩, ⟨[0, 1], [], [], []⟩, ⟨[0, 1, 11], [], [], []⟩, ⟨[4], [], [], []⟩, ⟨[0, 1, 5], [], [], []⟩, ⟨[0, 1, 5, 15], [], [], []⟩, ⟨[0, 1, 5], [], [], []⟩, ⟨[0, 1, 5], [], [], []⟩, ⟨[0, 1, 5, 25], [], [], []⟩, ⟨[4], [], [], []⟩, ⟨[4], [], [], []⟩]
noncomputable def f36e (N : Nat) : Env := tab.env [(8, s8r N)]
noncomputable def f36L0 {R : Type} (N : Nat) (n : Nat) (x0 : Option R) (x1 : Int → Int → Bool → Option R) (vs0 : List NodeT) : Nat → Int → Int → Option R
  | 0, _, _ => none
  | m + 1, vs1, vs5 =>
    (cond (decide (vs5 < (vs0.length : Int)))
      (cond ((decide ((0 : Int) ≤ vs5)) && (decide (vs5 < (vs0.length : Int))))
        (cond ((gz_node (eN (atI (t := .node) vs0 (Int.toNat vs5))) vs1) && (Nat.blt (mz_node (eN (atI (t := .node) vs0 (Int.toNat vs5))) vs1) N))
          (cond (decide ((z_node (eN (atI (t := .node) vs0 (Int.toNat vs5))) vs1) < (0 : Int)))
            (x0)
            (f36L0 N n x0 x1 vs0 m (z_node (eN (atI (t := .node) vs0 (Int.toNat vs5))) vs1) (IntKind.wrap .i64 (vs5 + (1 : Int)))))
          none)
        none)
      (x1 vs1 vs5 (decide (vs5 < (vs0.length : Int)))))
theorem f36L0_b {R : Type} (N : Nat) (n : Nat) (k' : Ex → St → Option R) (vs0 : List NodeT) (vs1 : Int) (vs5 : Int) : ev (f36e N) f36k n (cAt [1,1,1,0,1,0,0] f36c) ⟨[(0, .c (.one (.ro .node vs0))), (1, .c (.one (.v (.int .i64 vs1)))), (5, .c (.one (.v (.int .i64 vs5))))], [], []⟩ k' =
    (cond (decide (vs5 < (vs0.length : Int)))
    (cond ((decide ((0 : Int) ≤ vs5)) && (decide (vs5 < (vs0.length : Int))))
      (cond ((gz_node (eN (atI (t := .node) vs0 (Int.toNat vs5))) vs1) && (Nat.blt (mz_node (eN (atI (t := .node) vs0 (Int.toNat vs5))) vs1) N))
        (cond (decide ((z_node (eN (atI (t := .node) vs0 (Int.toNat vs5))) vs1) < (0 : Int)))
          (k' .ret ⟨[(4, .c (.one (.v (.int .i64 (-1 : Int)))))], [], []⟩)
          (k' .normal ⟨[(0, .c (.one (.ro .node vs0))), (1, .c (.one (.v (.int .i64 (z_node (eN (atI (t := .node) vs0 (Int.toNat vs5))) vs1))))), (5, .c (.one (.v (.int .i64 (IntKind.wrap .i64 (vs5 + (1 : Int)))))))], [], []⟩))
        none)
      none)
    (k' (.exit 0) ⟨[(0, .c (.one (.ro .node vs0))), (1, .c (.one (.v (.int .i64 vs1)))), (5, .c (.one (.v (.int .i64 vs5)))), (15, .c (.one (.v (.bool (decide (vs5 < (vs0.length : Int)))))))], [], []⟩)) := by kernel_rfl
theorem f36L0_eq {R : Type} (N : Nat) (n : Nat) (k' : Ex → St → Option R) (vs0 : List NodeT) : ∀ (m : Nat) (vs1 : Int) (vs5 : Int), iter (fun st k => ev (f36e N) f36k n (cAt [1,1,1,0,1,0,0] f36c) st k) m ⟨[(0, .c (.one (.ro .node vs0))), (1, .c (.one (.v (.int .i64 vs1)))), (5, .c (.one (.v (.int .i64 vs5))))], [], []⟩ k' = f36L0 N n (k' .ret ⟨[(4, .c (.one (.v (.int .i64 (-1 : Int)))))], [], []⟩) (fun (xvs1 : Int) (xvs5 : Int) (xvs15 : Bool) => k' (.exit 0) ⟨[(0, .c (.one (.ro .node vs0))), (1, .c (.one (.v (.int .i64 xvs1)))), (5, .c (.one (.v (.int .i64 xvs5)))), (15, .c (.one (.v (.bool xvs15))))], [], []⟩) vs0 m vs1 vs5 := by
  intro m; induction m with
  | zero => intros; rfl
  | succ m ih =>
    intro vs1 vs5
    simp only [iter]
    rw [f36L0_b]
    simp only [ih, f36L0]

noncomputable def f36K0 {R : Type} (N : Nat) (n : Nat) (k' : Ex → St → Option R) : Ex → St → Option R := (blockK 0 (seqK (f36e N) f36k n (cAt [1,1,1,1] f36c) k'))
theorem f36K0_x0 {R : Type} (N : Nat) (n : Nat) (k : List Dt → Option R) (a0 : List NodeT) (a1 : Int)  : f36K0 N n (exitK (f36e N) [.ro, .ro] [false] true [.tmp 4] [3] [.d (.sl .node) a0, .d (.i .i64) a1] k) .ret ⟨[(4, .c (.one (.v (.int .i64 (-1 : Int)))))], [], []⟩ =
    (k [.d (.i .i64) (-1 : Int)]) := by kernel_rfl
theorem f36K0_x1 {R : Type} (N : Nat) (n : Nat) (k : List Dt → Option R) (a0 : List NodeT) (a1 : Int) (vs0 : List NodeT) (xvs1 : Int) (xvs5 : Int) (xvs15 : Bool) : f36K0 N n (exitK (f36e N) [.ro, .ro] [false] true [.tmp 4] [3] [.d (.sl .node) a0, .d (.i .i64) a1] k) (.exit 0) ⟨[(0, .c (.one (.ro .node vs0))), (1, .c (.one (.v (.int .i64 xvs1)))), (5, .c (.one (.v (.int .i64 xvs5)))), (15, .c (.one (.v (.bool xvs15))))], [], []⟩ =
    (k [.d (.i .i64) xvs1]) := by kernel_rfl

theorem f36_run {R : Type} (N : Nat) (n : Nat) (k : List Dt → Option R) (a0 : List NodeT) (a1 : Int) : evFn (f36e N) f36k n f36c [.ro, .ro] [false] true [.tmp 4] [3] [.d (.sl .node) a0, .d (.i .i64) a1] k =
    (cond (decide ((IntKind.wrap .i64 (a1 - (a0.length : Int))) < (0 : Int)))
    (k [.d (.i .i64) (-1 : Int)])
    (f36L0 N n (k [.d (.i .i64) (-1 : Int)]) (fun (xvs1 : Int) (xvs5 : Int) (xvs15 : Bool) =>
      (k [.d (.i .i64) xvs1])) a0 n (IntKind.wrap .i64 (a1 - (a0.length : Int))) (0 : Int))) := by
  refine Eq.trans (b := (cond (decide ((IntKind.wrap .i64 (a1 - (a0.length : Int))) < (0 : Int)))
    (k [.d (.i .i64) (-1 : Int)])
    (iter (fun st k => ev (f36e N) f36k n (cAt [1,1,1,0,1,0,0] f36c) st k) n ⟨[(0, .c (.one (.ro .node a0))), (1, .c (.one (.v (.int .i64 (IntKind.wrap .i64 (a1 - (a0.length : Int))))))), (5, .c (.one (.v (.int .i64 (0 : Int)))))], [], []⟩ (f36K0 N n (exitK (f36e N) [.ro, .ro] [false] true [.tmp 4] [3] [.d (.sl .node) a0, .d (.i .i64) a1] k))))) (by kernel_rfl) ?_
  simp only [f36L0_eq, f36K0_x0, f36K0_x1]
theorem f36_spec (N : Nat) (a0 : List NodeT) (a1 : Int) (hg : gzL_node a0 a1 = true) (hm : mu36 [.d (.sl .node) a0, .d (.i .i64) a1] = N) : ∃ keep rounds, ∀ {R : Type} (k : List Dt → Option R), evFn (f36e N) keep rounds f36c [.ro, .ro] [false] true [.tmp 4] [3] [.d (.sl .node) a0, .d (.i .i64) a1] k = k [.d (.i .i64) (zL_node a0 a1)] := by
  have hm : mzL_node a0 a1 = N := hm
  subst hm
  simp only [gzL_node, okL, Bool.and_eq_true, okN_iff] at hg
  obtain ⟨⟨hl, hs⟩, hn⟩ := hg
  have hl : a0.length ≤ 9223372036854775807 := bleN hl
  refine ⟨f36k, a0.length + 1, fun {R} k => ?_⟩
  rw [f36_run, wrap_id (x := a1 - (a0.length : Int)) (by omega) (by omega)]
  show _ = k [.d (.i .i64) (zL_node a0 a1)]
  unfold zL_node
  have eL : szL szN_node a0 = a0.length + (a0.map szN_node).sum := rfl
  by_cases hc : a1 - (a0.length : Int) < 0
  · simp only [hc, decide_true, cond_true]
    rw [szI_neg (by omega)]
  · simp only [hc, decide_false, cond_false]
    refine Eq.trans (loop_fold (xs := a0) (F := fun m j left => f36L0 (mzL_node a0 a1) (a0.length + 1) _ _ a0 m left (j : Int)) (step := szStep szN_node)
      (out := fun _ => k [.d (.i .i64) (-1 : Int)]) (good := fun left => k [.d (.i .i64) left]) (fun n => 0 ≤ n ∧ n ≤ 1048576)
      (fun x n n' hx hn h => by
        unfold szStep at h
        split at h
        · cases h
        · cases h; omega)
      (fun m j n x hx hn => ?_)
      (fun m n hn => by simp only [f36L0, idxE, cond_false]) a0.length 0 (a0.length + 1) (a1 - (a0.length : Int)) (by omega) (by omega) (by omega)) ?_
    · obtain ⟨h1, h0, hw, ht⟩ := idx (lt_of_get hx) (by omega)
      have hmem := List.mem_of_getElem? hx
      have hx2 := List.all_eq_true.1 hs x hmem
      have hb : Nat.blt (mz_node x n) (mzL_node a0 a1) = true := by
        have := ndL_mem (f := nd_node) hmem
        rw [Nat.blt_eq]; simp only [mz_node, mzL_node]; omega
      have hg2 : gz_node x n = true := by simp only [gz_node, Bool.and_eq_true, okN_iff]; exact ⟨hx2, by omega, by omega⟩
      have hz : z_node x n = szI (szN_node x) n := rfl
      simp only [f36L0, h1, h0, hw, ht, atI_of (t := .node) hx, Bool.and_self, cond_true, eta_node, eN_eq, hg2, hz, hb]
      unfold szStep
      by_cases h : n - (szN_node x : Int) < 0
      · rw [szI_neg h]; simp only [h, if_true, Sum.elim_inl]; rfl
      · rw [szI_pos h]; simp only [h, decide_false, cond_false, if_false, Sum.elim_inr]
    · rw [List.drop_zero, sz_fold _ _ _ (by omega)]
      by_cases h2 : a1 - (a0.length : Int) - ((a0.map szN_node).sum : Nat) < 0
      · rw [if_pos h2, szI_neg (by omega)]; rfl
      · rw [if_neg h2, szI_pos (by omega)]
        simp only [Sum.elim_inr]
        rw [show a1 - (a0.length : Int) - ((a0.map szN_node).sum : Nat) = a1 - (szL szN_node a0 : Nat) by omega]


theorem goods8 : ∀ x ∈ ([⟨8, [.ro, .ro], [false], true, mu8, q8⟩, ⟨36, [.ro, .ro], [false], true, mu36, q36⟩] : List Rc), Gm.SpecOk Try.prog x.f (Gm.Spec.of x.ms x.rs x.ow x.q) := by
  refine spec_recs _ fun N hr => ?_
  have hr1 : Gm.SpecOk Try.prog 8 (Gm.Spec.of [.ro, .ro] [false] true (qlt mu8 N q8)) := fun {R} => hr _ (.head _)
  have hr2 : Gm.SpecOk Try.prog 36 (Gm.Spec.of [.ro, .ro] [false] true (qlt mu36 N q36)) := fun {R} => hr _ (.tail _ (.head _))
  refine List.forall_mem_cons.2 ⟨?_, List.forall_mem_cons.2 ⟨?_, List.forall_mem_nil _⟩⟩
  · have hl : ∀ x ∈ ([(17, s17), (36, s36r N)] : List (Nat × Gm.Spec)), Gm.Good Try.prog x := List.forall_mem_cons.2 ⟨good17, List.forall_mem_cons.2 ⟨⟨⟨hr2, _, Try.func36, by kernel_rfl, of_decide_eq_true (by kernel_rfl)⟩, Gm.Spec.of_natl _ _ _ _⟩, List.forall_mem_nil _⟩⟩
    show Gm.SpecOk Try.prog 8 (Gm.Spec.of [.ro, .ro] [false] true (qeq mu8 N q8))
    intro R
    refine spec_ok (E := f8e N) (tab_ok.env hl) (tab.natl hl) Try.func8 (by kernel_rfl : Try.f8.body = some f8c) [3] (by kernel_rfl) ?_
    intro ds outs h
    obtain ⟨h, hm⟩ := qeq_some h
    unfold q8 at h
    split at h
    · simp only [Option.some.injEq, Prod.mk.injEq] at h; obtain ⟨hg, h⟩ := h; cases h; exact f8_spec N _ _ hg hm
    · cases h
  · have hl : ∀ x ∈ ([(8, s8r N)] : List (Nat × Gm.Spec)), Gm.Good Try.prog x := List.forall_mem_cons.2 ⟨⟨⟨hr1, _, Try.func8, by kernel_rfl, of_decide_eq_true (by kernel_rfl)⟩, Gm.Spec.of_natl _ _ _ _⟩, List.forall_mem_nil _⟩
    show Gm.SpecOk Try.prog 36 (Gm.Spec.of [.ro, .ro] [false] true (qeq mu36 N q36))
    intro R
    refine spec_ok (E := f36e N) (tab_ok.env hl) (tab.natl hl) Try.func36 (by kernel_rfl : Try.f36.body = some f36c) [3] (by kernel_rfl) ?_
    intro ds outs h
    obtain ⟨h, hm⟩ := qeq_some h
    unfold q36 at h
    split at h
    · simp only [Option.some.injEq, Prod.mk.injEq] at h; obtain ⟨hg, h⟩ := h; cases h; exact f36_spec N _ _ hg hm
    · cases h
theorem good8 : Gm.Good Try.prog (8, s8) := ⟨⟨fun {R} => goods8 _ (.head _), _, Try.func8, by kernel_rfl, of_decide_eq_true (by kernel_rfl)⟩, Gm.Spec.of_natl _ _ _ _⟩
/-! ### loop.example/g00465/laws.toStringS -/
noncomputable def f19c : Code := (Try.f19.body).getD .skip
def f19k : Nat → Kp := kat [⟨[0], [], [], []⟩, ⟨[0, 3], [], [], []⟩, ⟨[0, 3, 4], [], [], []⟩, ⟨[0, 3, 4, 11], [], [], []⟩, ⟨[0, 3, 4], [], [], []⟩, ⟨[0, 3, 4], [], [], []⟩, ⟨[2], [], [], []⟩]
noncomputable def f19e : Env := tab.env []
noncomputable def f19L0 {R : Type} (n : Nat) (x0 : Int → Bool → (List ByteArray) → Option R) (vs0 : List ByteArray) : Nat → Int → (List ByteArray) → Option R
  | 0, _, _ => none
  | m + 1, vs4, vr448 =>
    (cond (decide (vs4 < (vs0.length : Int)))
      (cond ((decide ((0 : Int) ≤ vs4)) && (decide (vs4 < (vs0.length : Int))))
        (cond ((decide ((0 : Int) ≤ vs4)) && (decide (vs4 < (vr448.length : Int))))
          (f19L0 n x0 vs0 m (IntKind.wrap .i64 (vs4 + (1 : Int))) (vr448.set (Int.toNat vs4) (atI (t := .str) vs0 (Int.toNat vs4))))
          none)
        none)
      (x0 vs4 (decide (vs4 < (vs0.length : Int))) vr448))
theorem f19L0_b {R : Type} (n : Nat) (k' : Ex → St → Option R) (vs0 : List ByteArray) (vs4 : Int) (vr448 : List ByteArray) : ev f19e f19k n (cAt [1,1,0,1,0,0] f19c) ⟨[(0, .c (.one (.ro .str vs0))), (3, .c (.one (.h 448 0 0 []))), (4, .c (.one (.v (.int .i64 vs4))))], [], [(448, .live ⟨.str, .deep, 0, [], vr448⟩)]⟩ k' =
    (cond (decide (vs4 < (vs0.length : Int)))
    (cond ((decide ((0 : Int) ≤ vs4)) && (decide (vs4 < (vs0.length : Int))))
      (cond ((decide ((0 : Int) ≤ vs4)) && (decide (vs4 < (vr448.length : Int))))
        (k' .normal ⟨[(0, .c (.one (.ro .str vs0))), (3, .c (.one (.h 448 0 0 []))), (4, .c (.one (.v (.int .i64 (IntKind.wrap .i64 (vs4 + (1 : Int)))))))], [], [(448, .live ⟨.str, .deep, 0, [], (vr448.set (Int.toNat vs4) (atI (t := .str) vs0 (Int.toNat vs4)))⟩)]⟩)
        none)
      none)
    (k' (.exit 0) ⟨[(0, .c (.one (.ro .str vs0))), (3, .c (.one (.h 448 0 0 []))), (4, .c (.one (.v (.int .i64 vs4)))), (11, .c (.one (.v (.bool (decide (vs4 < (vs0.length : Int)))))))], [], [(448, .live ⟨.str, .deep, 0, [], vr448⟩)]⟩)) := by kernel_rfl
theorem f19L0_eq {R : Type} (n : Nat) (k' : Ex → St → Option R) (vs0 : List ByteArray) : ∀ (m : Nat) (vs4 : Int) (vr448 : List ByteArray), iter (fun st k => ev f19e f19k n (cAt [1,1,0,1,0,0] f19c) st k) m ⟨[(0, .c (.one (.ro .str vs0))), (3, .c (.one (.h 448 0 0 []))), (4, .c (.one (.v (.int .i64 vs4))))], [], [(448, .live ⟨.str, .deep, 0, [], vr448⟩)]⟩ k' = f19L0 n (fun (xvs4 : Int) (xvs11 : Bool) (xvr448 : List ByteArray) => k' (.exit 0) ⟨[(0, .c (.one (.ro .str vs0))), (3, .c (.one (.h 448 0 0 []))), (4, .c (.one (.v (.int .i64 xvs4)))), (11, .c (.one (.v (.bool xvs11))))], [], [(448, .live ⟨.str, .deep, 0, [], xvr448⟩)]⟩) vs0 m vs4 vr448 := by
  intro m; induction m with
  | zero => intros; rfl
  | succ m ih =>
    intro vs4 vr448
    simp only [iter]
    rw [f19L0_b]
    simp only [ih, f19L0]

noncomputable def f19K0 {R : Type} (n : Nat) (k' : Ex → St → Option R) : Ex → St → Option R := (blockK 0 (seqK f19e f19k n (cAt [1,1,1] f19c) k'))
theorem f19K0_x0 {R : Type} (n : Nat) (k : List Dt → Option R) (a0 : List ByteArray) (vs0 : List ByteArray) (xvs4 : Int) (xvs11 : Bool) (xvr448 : List ByteArray) : f19K0 n (exitK f19e [.ro] [false] true [.tmp 2] [22] [.d (.sl .str) a0] k) (.exit 0) ⟨[(0, .c (.one (.ro .str vs0))), (3, .c (.one (.h 448 0 0 []))), (4, .c (.one (.v (.int .i64 xvs4)))), (11, .c (.one (.v (.bool xvs11))))], [], [(448, .live ⟨.str, .deep, 0, [], xvr448⟩)]⟩ =
    (k [.d (.sl .str) xvr448]) := by kernel_rfl

theorem f19_run {R : Type} (n : Nat) (k : List Dt → Option R) (a0 : List ByteArray) : evFn f19e f19k n f19c [.ro] [false] true [.tmp 2] [22] [.d (.sl .str) a0] k =
    (cond ((decide ((a0.length : Int) = (a0.length : Int))) && ((decide ((0 : Int) ≤ (a0.length : Int))) && (decide ((a0.length : Int) ≤ (LIM : Int)))))
    (f19L0 n (fun (xvs4 : Int) (xvs11 : Bool) (xvr448 : List ByteArray) =>
      (k [.d (.sl .str) xvr448])) a0 n (0 : Int) (List.replicate (Int.toNat (a0.length : Int)) ByteArray.empty))
    none) := by
  refine Eq.trans (b := (cond ((decide ((a0.length : Int) = (a0.length : Int))) && ((decide ((0 : Int) ≤ (a0.length : Int))) && (decide ((a0.length : Int) ≤ (LIM : Int)))))
    (iter (fun st k => ev f19e f19k n (cAt [1,1,0,1,0,0] f19c) st k) n ⟨[(0, .c (.one (.ro .str a0))), (3, .c (.one (.h 448 0 0 []))), (4, .c (.one (.v (.int .i64 (0 : Int)))))], [], [(448, .live ⟨.str, .deep, 0, [], (List.replicate (Int.toNat (a0.length : Int)) ByteArray.empty)⟩)]⟩ (f19K0 n (exitK f19e [.ro] [false] true [.tmp 2] [22] [.d (.sl .str) a0] k)))
    none)) (by kernel_rfl) ?_
  simp only [f19L0_eq, f19K0_x0]
theorem f19_spec (a0 : List ByteArray) (hg : smL smStr a0 = true) : ∃ keep rounds, ∀ {R : Type} (k : List Dt → Option R), evFn f19e keep rounds f19c [.ro] [false] true [.tmp 2] [22] [.d (.sl .str) a0] k = k [.d (.sl .str) a0] := by
  have hl : a0.length ≤ 1048576 := smL_len hg
  have hs := smL_all hg
  refine ⟨f19k, a0.length + 1, fun k => ?_⟩
  rw [f19_run, mkOk hl]
  simp only [cond_true]
  have := loop_copy (xs := a0) (f := fun x => x) (F := fun m j out => f19L0 (a0.length + 1) (fun (xvs4 : Int) (xvs11 : Bool) (xvr448 : List ByteArray) => (k [.d (.sl .str) xvr448])) a0 m (j : Int) out) (good := fun out => k [.d (.sl .str) out]) ByteArray.empty
    (fun m j out x hx hl' => by
      obtain ⟨h1, h0, hw, ht⟩ := idx (lt_of_get hx) (by omega)
      obtain ⟨h2, _, _, _⟩ := idx (show j < out.length by rw [hl']; exact lt_of_get hx) (by omega)
      have hx2 := List.all_eq_true.1 hs x (List.mem_of_getElem? hx)
      simp only [f19L0, h1, h0, h2, hw, ht, atI_of (t := .str) hx, Bool.and_self, cond_true])
    (fun m out => by simp only [f19L0, idxE, cond_false]) a0.length 0 (a0.length + 1) (by omega) (by omega)
  simpa using this

noncomputable def q19 : List Dt → Option (Bool × List Dt)
  | [.d (.sl .str) a0] => some ((smL smStr a0), [.d (.sl .str) a0])
  | _ => none
noncomputable def s19 : Gm.Spec := Gm.Spec.of [.ro] [false] true q19
theorem good19 : Gm.Good Try.prog (19, s19) := by
  have hl : ∀ x ∈ ([] : List (Nat × Gm.Spec)), Gm.Good Try.prog x := fun _ h => by cases h
  refine ⟨⟨spec_ok (tab_ok.env hl) (tab.natl hl) Try.func19 (by kernel_rfl : Try.f19.body = some f19c) [22] (by kernel_rfl) ?_, _, Try.func19, by kernel_rfl, of_decide_eq_true (by kernel_rfl)⟩, Gm.Spec.of_natl _ _ _ _⟩
  intro ds outs h
  unfold q19 at h
  split at h
  · simp only [Option.some.injEq, Prod.mk.injEq] at h; obtain ⟨hg, h⟩ := h; cases h; exact f19_spec _ hg
  · cases h
noncomputable def q10 : List Dt → Option (Bool × List Dt)
  | [.d .node a0] => some ((sm_node a0), [.d .node a0])
  | _ => none
noncomputable def mu10 : List Dt → Nat
  | [.d .node a0] => mt_node a0
  | _ => 0
noncomputable def s10r (N : Nat) : Gm.Spec := Gm.Spec.of [.ro] [false] true (qlt mu10 N q10)
noncomputable def s10 : Gm.Spec := Gm.Spec.of [.ro] [false] true q10
noncomputable def q38 : List Dt → Option (Bool × List Dt)
  | [.d (.sl .node) a0] => some ((smL sm_node a0), [.d (.sl .node) a0])
  | _ => none
noncomputable def mu38 : List Dt → Nat
  | [.d (.sl .node) a0] => mtL_node a0
  | _ => 0
noncomputable def s38r (N : Nat) : Gm.Spec := Gm.Spec.of [.ro] [false] true (qlt mu38 N q38)
/-! ### loop.example/g00465/laws.toNode -/
noncomputable def f10c : Code := (Try.f10.body).getD .skip
def f10k : Nat → Kp := kat [⟨[1, 2], [], [], []⟩, ⟨[1, 2, 3], [], [], []⟩, ⟨[1, 2, 3], [], [], []⟩, ⟨[1, 2, 3], [], [], []⟩, ⟨[1, 2, 3], [], [], []⟩, ⟨[1, 2, 3], [], [], []⟩, ⟨[2, 3], [], [], []⟩, ⟨[2], [], [], []⟩]
noncomputable def f10e (N : Nat) : Env := tab.env [(19, s19), (38, s38r N)]
theorem f10_run {R : Type} (N : Nat) (n : Nat) (k : List Dt → Option R) (a0 : NodeT) : evFn (f10e N) f10k n f10c [.ro] [false] true [.cell 2 31] [31] [.d .node a0] k =
    (cond (smL smStr (NodeT.keys a0))
    (cond ((smL sm_node (NodeT.kids a0)) && (Nat.blt (mtL_node (NodeT.kids a0)) N))
      (k [.d .node (eN a0)])
      none)
    none) := by kernel_rfl
theorem f10_spec (N : Nat) (a0 : NodeT) (hg : sm_node a0 = true) (hm : mu10 [.d .node a0] = N) : ∃ keep rounds, ∀ {R : Type} (k : List Dt → Option R), evFn (f10e N) keep rounds f10c [.ro] [false] true [.cell 2 31] [31] [.d .node a0] k = k [.d .node a0] := by
  have hm : mt_node a0 = N := hm
  subst hm
  have m1 : Nat.blt (mtL_node a0.kids) (mt_node a0) = true := by rw [Nat.blt_eq]; simp only [mtL_node, mt_node, nd_node_def]; omega
  simp only [sm_node_def, Bool.and_eq_true] at hg
  refine ⟨f10k, 0, fun {R} k => ?_⟩
  rw [f10_run]
  simp only [hg, m1, Bool.and_self, cond_true, eta_node, eN_eq]


/-! ### loop.example/g00465/laws.toNodeS -/
noncomputable def f38c : Code := (Try.f38.body).getD .skip
def f38k : Nat → Kp := kat [⟨[0], [], [], []⟩, ⟨[0, 3], [], [], []⟩, ⟨[0, 3, 4], [], [], []⟩, ⟨[0, 3, 4, 11], [], [], []⟩, ⟨[0, 3, 4], [], [], []⟩, ⟨[0, 3, 4], [], [], []⟩, ⟨[2], [], [], []⟩]
noncomputable def f38e (N : Nat) : Env := tab.env [(10, s10r N)]
noncomputable def f38L0 {R : Type} (N : Nat) (n : Nat) (x0 : Int → Bool → (List NodeT) → Option R) (vs0 : List NodeT) : Nat → Int → (List NodeT) → Option R
  | 0, _, _ => none
  | m + 1, vs4, vr448 =>
    (cond (decide (vs4 < (vs0.length : Int)))
      (cond ((decide ((0 : Int) ≤ vs4)) && (decide (vs4 < (vs0.length : Int))))
        (cond ((sm_node (eN (atI (t := .node) vs0 (Int.toNat vs4)))) && (Nat.blt (mt_node (eN (atI (t := .node) vs0 (Int.toNat vs4)))) N))
          (cond ((decide ((0 : Int) ≤ vs4)) && (decide (vs4 < (vr448.length : Int))))
            (f38L0 N n x0 vs0 m (IntKind.wrap .i64 (vs4 + (1 : Int))) (vr448.set (Int.toNat vs4) (eN (atI (t := .node) vs0 (Int.toNat vs4)))))
            none)
          none)
        none)
      (x0 vs4 (decide (vs4 < (vs0.length : Int))) vr448))
theorem f38L0_b {R : Type} (N : Nat) (n : Nat) (k' : Ex → St → Option R) (vs0 : List NodeT) (vs4 : Int) (vr448 : List NodeT) : ev (f38e N) f38k n (cAt [1,1,0,1,0,0] f38c) ⟨[(0, .c (.one (.ro .node vs0))), (3, .c (.one (.h 448 0 0 []))), (4, .c (.one (.v (.int .i64 vs4))))], [], [(448, .live ⟨.node, .deep, 0, [], vr448⟩)]⟩ k' =
    (cond (decide (vs4 < (vs0.length : Int)))
    (cond ((decide ((0 : Int) ≤ vs4)) && (decide (vs4 < (vs0.length : Int))))
      (cond ((sm_node (eN (atI (t := .node) vs0 (Int.toNat vs4)))) && (Nat.blt (mt_node (eN (atI (t := .node) vs0 (Int.toNat vs4)))) N))
        (cond ((decide ((0 : Int) ≤ vs4)) && (decide (vs4 < (vr448.length : Int))))
          (k' .normal ⟨[(0, .c (.one (.ro .node vs0))), (3, .c (.one (.h 448 0 0 []))), (4, .c (.one (.v (.int .i64 (IntKind.wrap .i64 (vs4 + (1 : Int)))))))], [], [(448, .live ⟨.node, .deep, 0, [], (vr448.set (Int.toNat vs4) (eN (atI (t := .node) vs0 (Int.toNat vs4))))⟩)]⟩)
          none)
        none)
      none)
    (k' (.exit 0) ⟨[(0, .c (.one (.ro .node vs0))), (3, .c (.one (.h 448 0 0 []))), (4, .c (.one (.v (.int .i64 vs4)))), (11, .c (.one (.v (.bool (decide (vs4 < (vs0.length : Int)))))))], [], [(448, .live ⟨.node, .deep, 0, [], vr448⟩)]⟩)) := by kernel_rfl
theorem f38L0_eq {R : Type} (N : Nat) (n : Nat) (k' : Ex → St → Option R) (vs0 : List NodeT) : ∀ (m : Nat) (vs4 : Int) (vr448 : List NodeT), iter (fun st k => ev (f38e N) f38k n (cAt [1,1,0,1,0,0] f38c) st k) m ⟨[(0, .c (.one (.ro .node vs0))), (3, .c (.one (.h 448 0 0 []))), (4, .c (.one (.v (.int .i64 vs4))))], [], [(448, .live ⟨.node, .deep, 0, [], vr448⟩)]⟩ k' = f38L0 N n (fun (xvs4 : Int) (xvs11 : Bool) (xvr448 : List NodeT) => k' (.exit 0) ⟨[(0, .c (.one (.ro .node vs0))), (3, .c (.one (.h 448 0 0 []))), (4, .c (.one (.v (.int .i64 xvs4)))), (11, .c (.one (.v (.bool xvs11))))], [], [(448, .live ⟨.node, .deep, 0, [], xvr448⟩)]⟩) vs0 m vs4 vr448 := by
  intro m; induction m with
  | zero => intros; rfl
  | succ m ih =>
    intro vs4 vr448
    simp only [iter]
    rw [f38L0_b]
    simp only [ih, f38L0]

noncomputable def f38K0 {R : Type} (N : Nat) (n : Nat) (k' : Ex → St → Option R) : Ex → St → Option R := (blockK 0 (seqK (f38e N) f38k n (cAt [1,1,1] f38c) k'))
theorem f38K0_x0 {R : Type} (N : Nat) (n : Nat) (k : List Dt → Option R) (a0 : List NodeT) (vs0 : List NodeT) (xvs4 : Int) (xvs11 : Bool) (xvr448 : List NodeT) : f38K0 N n (exitK (f38e N) [.ro] [false] true [.tmp 2] [29] [.d (.sl .node) a0] k) (.exit 0) ⟨[(0, .c (.one (.ro .node vs0))), (3, .c (.one (.h 448 0 0 []))), (4, .c (.one (.v (.int .i64 xvs4)))), (11, .c (.one (.v (.bool xvs11))))], [], [(448, .live ⟨.node, .deep, 0, [], xvr448⟩)]⟩ =
    (k [.d (.sl .node) xvr448]) := by kernel_rfl

theorem f38_run {R : Type} (N : Nat) (n : Nat) (k : List Dt → Option R) (a0 : List NodeT) : evFn (f38e N) f38k n f38c [.ro] [false] true [.tmp 2] [29] [.d (.sl .node) a0] k =
    (cond ((decide ((a0.length : Int) = (a0.length : Int))) && ((decide ((0 : Int) ≤ (a0.length : Int))) && (decide ((a0.length : Int) ≤ (LIM : Int)))))
    (f38L0 N n (fun (xvs4 : Int) (xvs11 : Bool) (xvr448 : List NodeT) =>
      (k [.d (.sl .node) xvr448])) a0 n (0 : Int) (List.replicate (Int.toNat (a0.length : Int)) (⟨(0 : Int), (0 : Int), ByteArray.empty, ([] : List ByteArray), ([] : List NodeT)⟩ : NodeT)))
    none) := by
  refine Eq.trans (b := (cond ((decide ((a0.length : Int) = (a0.length : Int))) && ((decide ((0 : Int) ≤ (a0.length : Int))) && (decide ((a0.length : Int) ≤ (LIM : Int)))))
    (iter (fun st k => ev (f38e N) f38k n (cAt [1,1,0,1,0,0] f38c) st k) n ⟨[(0, .c (.one (.ro .node a0))), (3, .c (.one (.h 448 0 0 []))), (4, .c (.one (.v (.int .i64 (0 : Int)))))], [], [(448, .live ⟨.node, .deep, 0, [], (List.replicate (Int.toNat (a0.length : Int)) (⟨(0 : Int), (0 : Int), ByteArray.empty, ([] : List ByteArray), ([] : List NodeT)⟩ : NodeT))⟩)]⟩ (f38K0 N n (exitK (f38e N) [.ro] [false] true [.tmp 2] [29] [.d (.sl .node) a0] k)))
    none)) (by kernel_rfl) ?_
  simp only [f38L0_eq, f38K0_x0]
theorem f38_spec (N : Nat) (a0 : List NodeT) (hg : smL sm_node a0 = true) (hm : mu38 [.d (.sl .node) a0] = N) : ∃ keep rounds, ∀ {R : Type} (k : List Dt → Option R), evFn (f38e N) keep rounds f38c [.ro] [false] true [.tmp 2] [29] [.d (.sl .node) a0] k = k [.d (.sl .node) a0] := by
  have hm : mtL_node a0 = N := hm
  subst hm
  have hl : a0.length ≤ 1048576 := smL_len hg
  have hs := smL_all hg
  refine ⟨f38k, a0.length + 1, fun {R} k => ?_⟩
  rw [f38_run, mkOk hl]
  simp only [cond_true]
  have := loop_copy (xs := a0) (f := fun x => x) (F := fun m j out => f38L0 (mtL_node a0) (a0.length + 1) (fun (xvs4 : Int) (xvs11 : Bool) (xvr448 : List NodeT) => (k [.d (.sl .node) xvr448])) a0 m (j : Int) out) (good := fun out => k [.d (.sl .node) out]) (⟨(0 : Int), (0 : Int), ByteArray.empty, ([] : List ByteArray), ([] : List NodeT)⟩ : NodeT)
    (fun m j out x hx hl' => by
      obtain ⟨h1, h0, hw, ht⟩ := idx (lt_of_get hx) (by omega)
      obtain ⟨h2, _, _, _⟩ := idx (show j < out.length by rw [hl']; exact lt_of_get hx) (by omega)
      have hmem := List.mem_of_getElem? hx
      have hx2 := List.all_eq_true.1 hs x hmem
      have hb : Nat.blt (mt_node x) (mtL_node a0) = true := by
        have := ndL_mem (f := nd_node) hmem
        rw [Nat.blt_eq]; simp only [mt_node, mtL_node]; omega
      simp only [f38L0, h1, h0, h2, hw, ht, atI_of (t := .node) hx, Bool.and_self, cond_true, eta_node, eN_eq, hx2, hb])
    (fun m out => by simp only [f38L0, idxE, cond_false]) a0.length 0 (a0.length + 1) (by omega) (by omega)
  simpa using this


theorem goods10 : ∀ x ∈ ([⟨10, [.ro], [false], true, mu10, q10⟩, ⟨38, [.ro], [false], true, mu38, q38⟩] : List Rc), Gm.SpecOk Try.prog x.f (Gm.Spec.of x.ms x.rs x.ow x.q) := by
  refine spec_recs _ fun N hr => ?_
  have hr1 : Gm.SpecOk Try.prog 10 (Gm.Spec.of [.ro] [false] true (qlt mu10 N q10)) := fun {R} => hr _ (.head _)
  have hr2 : Gm.SpecOk Try.prog 38 (Gm.Spec.of [.ro] [false] true (qlt mu38 N q38)) := fun {R} => hr _ (.tail _ (.head _))
  refine List.forall_mem_cons.2 ⟨?_, List.forall_mem_cons.2 ⟨?_, List.forall_mem_nil _⟩⟩
  · have hl : ∀ x ∈ ([(19, s19), (38, s38r N)] : List (Nat × Gm.Spec)), Gm.Good Try.prog x := List.forall_mem_cons.2 ⟨good19, List.forall_mem_cons.2 ⟨⟨⟨hr2, _, Try.func38, by kernel_rfl, of_decide_eq_true (by kernel_rfl)⟩, Gm.Spec.of_natl _ _ _ _⟩, List.forall_mem_nil _⟩⟩
    show Gm.SpecOk Try.prog 10 (Gm.Spec.of [.ro] [false] true (qeq mu10 N q10))
    intro R
    refine spec_ok (E := f10e N) (tab_ok.env hl) (tab.natl hl) Try.func10 (by kernel_rfl : Try.f10.body = some f10c) [31] (by kernel_rfl) ?_
    intro ds outs h
    obtain ⟨h, hm⟩ := qeq_some h
    unfold q10 at h
    split at h
    · simp only [Option.some.injEq, Prod.mk.injEq] at h; obtain ⟨hg, h⟩ := h; cases h; exact f10_spec N _ hg hm
    · cases h
  · have hl : ∀ x ∈ ([(10, s10r N)] : List (Nat × Gm.Spec)), Gm.Good Try.prog x := List.forall_mem_cons.2 ⟨⟨⟨hr1, _, Try.func10, by kernel_rfl, of_decide_eq_true (by kernel_rfl)⟩, Gm.Spec.of_natl _ _ _ _⟩, List.forall_mem_nil _⟩
    show Gm.SpecOk Try.prog 38 (Gm.Spec.of [.ro] [false] true (qeq mu38 N q38))
    intro R
    refine spec_ok (E := f38e N) (tab_ok.env hl) (tab.natl hl) Try.func38 (by kernel_rfl : Try.f38.body = some f38c) [29] (by kernel_rfl) ?_
    intro ds outs h
    obtain ⟨h, hm⟩ := qeq_some h
    unfold q38 at h
    split at h
    · simp only [Option.some.injEq, Prod.mk.injEq] at h; obtain ⟨hg, h⟩ := h; cases h; exact f38_spec N _ hg hm
    · cases h
theorem good10 : Gm.Good Try.prog (10, s10) := ⟨⟨fun {R} => goods10 _ (.head _), _, Try.func10, by kernel_rfl, of_decide_eq_true (by kernel_rfl)⟩, Gm.Spec.of_natl _ _ _ _⟩
/-! ### loop.example/g00465/laws.eqStringS -/
noncomputable def f21c : Code := (Try.f21.body).getD .skip
def f21k : Nat → Kp := kat [⟨[0, 1], [], [], []⟩, ⟨[0, 1, 10], [], [], []⟩, ⟨[4], [], [], []⟩, ⟨[0, 1, 5], [], [], []⟩, ⟨[0, 1, 5, 14], [], [], []⟩, ⟨[0, 1, 5], [], [], []⟩, ⟨[0, 1, 5, 25], [], [], []⟩, ⟨[4], [], [], []⟩, ⟨[4], [], [], []⟩]
noncomputable def f21e : Env := tab.env []
noncomputable def f21L0 {R : Type} (n : Nat) (x0 : Option R) (x1 : Int → Bool → Option R) (vs0 : List ByteArray) (vs1 : List ByteArray) : Nat → Int → Option R
  | 0, _ => none
  | m + 1, vs5 =>
    (cond (decide (vs5 < (vs0.length : Int)))
      (cond ((decide ((0 : Int) ≤ vs5)) && (decide (vs5 < (vs0.length : Int))))
        (cond ((decide ((0 : Int) ≤ vs5)) && (decide (vs5 < (vs1.length : Int))))
          (cond (!(sEq (atI (t := .str) vs0 (Int.toNat vs5)) (atI (t := .str) vs1 (Int.toNat vs5))))
            (x0)
            (f21L0 n x0 x1 vs0 vs1 m (IntKind.wrap .i64 (vs5 + (1 : Int)))))
          none)
        none)
      (x1 vs5 (decide (vs5 < (vs0.length : Int)))))
theorem f21L0_b {R : Type} (n : Nat) (k' : Ex → St → Option R) (vs0 : List ByteArray) (vs1 : List ByteArray) (vs5 : Int) : ev f21e f21k n (cAt [1,1,0,1,0,0] f21c) ⟨[(0, .c (.one (.ro .str vs0))), (1, .c (.one (.ro .str vs1))), (5, .c (.one (.v (.int .i64 vs5))))], [], []⟩ k' =
    (cond (decide (vs5 < (vs0.length : Int)))
    (cond ((decide ((0 : Int) ≤ vs5)) && (decide (vs5 < (vs0.length : Int))))
      (cond ((decide ((0 : Int) ≤ vs5)) && (decide (vs5 < (vs1.length : Int))))
        (cond (!(sEq (atI (t := .str) vs0 (Int.toNat vs5)) (atI (t := .str) vs1 (Int.toNat vs5))))
          (k' .ret ⟨[(4, .c (.one (.v (.bool false))))], [], []⟩)
          (k' .normal ⟨[(0, .c (.one (.ro .str vs0))), (1, .c (.one (.ro .str vs1))), (5, .c (.one (.v (.int .i64 (IntKind.wrap .i64 (vs5 + (1 : Int)))))))], [], []⟩))
        none)
      none)
    (k' (.exit 0) ⟨[(0, .c (.one (.ro .str vs0))), (1, .c (.one (.ro .str vs1))), (5, .c (.one (.v (.int .i64 vs5)))), (14, .c (.one (.v (.bool (decide (vs5 < (vs0.length : Int)))))))], [], []⟩)) := by kernel_rfl
theorem f21L0_eq {R : Type} (n : Nat) (k' : Ex → St → Option R) (vs0 : List ByteArray) (vs1 : List ByteArray) : ∀ (m : Nat) (vs5 : Int), iter (fun st k => ev f21e f21k n (cAt [1,1,0,1,0,0] f21c) st k) m ⟨[(0, .c (.one (.ro .str vs0))), (1, .c (.one (.ro .str vs1))), (5, .c (.one (.v (.int .i64 vs5))))], [], []⟩ k' = f21L0 n (k' .ret ⟨[(4, .c (.one (.v (.bool false))))], [], []⟩) (fun (xvs5 : Int) (xvs14 : Bool) => k' (.exit 0) ⟨[(0, .c (.one (.ro .str vs0))), (1, .c (.one (.ro .str vs1))), (5, .c (.one (.v (.int .i64 xvs5)))), (14, .c (.one (.v (.bool xvs14))))], [], []⟩) vs0 vs1 m vs5 := by
  intro m; induction m with
  | zero => intros; rfl
  | succ m ih =>
    intro vs5
    simp only [iter]
    rw [f21L0_b]
    simp only [ih, f21L0]

noncomputable def f21K0 {R : Type} (n : Nat) (k' : Ex → St → Option R) : Ex → St → Option R := (blockK 0 (seqK f21e f21k n (cAt [1,1,1] f21c) k'))
theorem f21K0_x0 {R : Type} (n : Nat) (k : List Dt → Option R) (a0 : List ByteArray) (a1 : List ByteArray)  : f21K0 n (exitK f21e [.ro, .ro] [false] true [.tmp 4] [4] [.d (.sl .str) a0, .d (.sl .str) a1] k) .ret ⟨[(4, .c (.one (.v (.bool false))))], [], []⟩ =
    (k [.d .bool false]) := by kernel_rfl
theorem f21K0_x1 {R : Type} (n : Nat) (k : List Dt → Option R) (a0 : List ByteArray) (a1 : List ByteArray) (vs0 : List ByteArray) (vs1 : List ByteArray) (xvs5 : Int) (xvs14 : Bool) : f21K0 n (exitK f21e [.ro, .ro] [false] true [.tmp 4] [4] [.d (.sl .str) a0, .d (.sl .str) a1] k) (.exit 0) ⟨[(0, .c (.one (.ro .str vs0))), (1, .c (.one (.ro .str vs1))), (5, .c (.one (.v (.int .i64 xvs5)))), (14, .c (.one (.v (.bool xvs14))))], [], []⟩ =
    (k [.d .bool true]) := by kernel_rfl

theorem f21_run {R : Type} (n : Nat) (k : List Dt → Option R) (a0 : List ByteArray) (a1 : List ByteArray) : evFn f21e f21k n f21c [.ro, .ro] [false] true [.tmp 4] [4] [.d (.sl .str) a0, .d (.sl .str) a1] k =
    (cond ((a0.length : Int) != (a1.length : Int))
    (k [.d .bool false])
    (f21L0 n (k [.d .bool false]) (fun (xvs5 : Int) (xvs14 : Bool) =>
      (k [.d .bool true])) a0 a1 n (0 : Int))) := by
  refine Eq.trans (b := (cond ((a0.length : Int) != (a1.length : Int))
    (k [.d .bool false])
    (iter (fun st k => ev f21e f21k n (cAt [1,1,0,1,0,0] f21c) st k) n ⟨[(0, .c (.one (.ro .str a0))), (1, .c (.one (.ro .str a1))), (5, .c (.one (.v (.int .i64 (0 : Int)))))], [], []⟩ (f21K0 n (exitK f21e [.ro, .ro] [false] true [.tmp 4] [4] [.d (.sl .str) a0, .d (.sl .str) a1] k))))) (by kernel_rfl) ?_
  simp only [f21L0_eq, f21K0_x0, f21K0_x1]
theorem f21_spec (a0 : List ByteArray) (a1 : List ByteArray) (hg : sm2 (smL smStr) a0 a1 = true) : ∃ keep rounds, ∀ {R : Type} (k : List Dt → Option R), evFn f21e keep rounds f21c [.ro, .ro] [false] true [.tmp 4] [4] [.d (.sl .str) a0, .d (.sl .str) a1] k = k [.d .bool (eqD a0 a1)] := by
  simp only [sm2, Bool.and_eq_true] at hg
  obtain ⟨hg0, hg1⟩ := hg
  have hl : a0.length ≤ 1048576 := smL_len hg0
  refine ⟨f21k, a0.length + 1, fun k => ?_⟩
  rw [f21_run]
  by_cases hc : a0.length = a1.length
  · have hc' : ((a0.length : Int) != (a1.length : Int)) = false := by simp [hc]
    simp only [hc', cond_false]
    refine Eq.trans (loop_idx (n := a0.length) (F := fun m i => f21L0 (a0.length + 1) _ _ a0 a1 m i) (p := fun j => sEq (atI (t := .str) a0 j) (atI (t := .str) a1 j)) (good := k [.d .bool true]) (bad := k [.d .bool false])
      (fun m j hj => ?_) (fun m => by simp only [f21L0, idxE, cond_false]) a0.length 0 (a0.length + 1) (by omega) (by omega)) ?_
    · obtain ⟨h1, h0, hw, ht⟩ := idx hj (by omega)
      obtain ⟨h2, _, _, _⟩ := idx (show j < a1.length by omega) (by omega)
      simp only [f21L0, h1, h0, h2, hw, ht, Bool.and_self, cond_true]
      cases sEq (atI (t := .str) a0 j) (atI (t := .str) a1 j) <;> rfl
    · rw [allN_eq hc (fun j x y hx hy => by rw [atI_of (t := .str) hx, atI_of (t := .str) hy, ← eqD_str])]
      cases eqD a0 a1 <;> rfl
  · simp only [bneLen hc, cond_true]
    rw [eqD_ne (fun e => hc (by rw [e]))]

noncomputable def q21 : List Dt → Option (Bool × List Dt)
  | [.d (.sl .str) a0, .d (.sl .str) a1] => some ((sm2 (smL smStr) a0 a1), [.d .bool (eqD a0 a1)])
  | _ => none
noncomputable def s21 : Gm.Spec := Gm.Spec.of [.ro, .ro] [false] true q21
theorem good21 : Gm.Good Try.prog (21, s21) := by
  have hl : ∀ x ∈ ([] : List (Nat × Gm.Spec)), Gm.Good Try.prog x := fun _ h => by cases h
  refine ⟨⟨spec_ok (tab_ok.env hl) (tab.natl hl) Try.func21 (by kernel_rfl : Try.f21.body = some f21c) [4] (by kernel_rfl) ?_, _, Try.func21, by kernel_rfl, of_decide_eq_true (by kernel_rfl)⟩, Gm.Spec.of_natl _ _ _ _⟩
  intro ds outs h
  unfold q21 at h
  split at h
  · simp only [Option.some.injEq, Prod.mk.injEq] at h; obtain ⟨hg, h⟩ := h; cases h; exact f21_spec _ _ hg
  · cases h
noncomputable def q13 : List Dt → Option (Bool × List Dt)
  | [.d .node a0, .d .node a1] => some ((sm2 sm_node a0 a1), [.d .bool (eqD a0 a1)])
  | _ => none
noncomputable def mu13 : List Dt → Nat
  | [.d .node a0, .d .node a1] => me_node a0 a1
  | _ => 0
noncomputable def s13r (N : Nat) : Gm.Spec := Gm.Spec.of [.ro, .ro] [false] true (qlt mu13 N q13)
noncomputable def s13 : Gm.Spec := Gm.Spec.of [.ro, .ro] [false] true q13
noncomputable def q40 : List Dt → Option (Bool × List Dt)
  | [.d (.sl .node) a0, .d (.sl .node) a1] => some ((sm2 (smL sm_node) a0 a1), [.d .bool (eqD a0 a1)])
  | _ => none
noncomputable def mu40 : List Dt → Nat
  | [.d (.sl .node) a0, .d (.sl .node) a1] => meL_node a0 a1
  | _ => 0
noncomputable def s40r (N : Nat) : Gm.Spec := Gm.Spec.of [.ro, .ro] [false] true (qlt mu40 N q40)
/-! ### loop.example/g00465/laws.eqNode -/
noncomputable def f13c : Code := (Try.f13.body).getD .skip
def f13k : Nat → Kp := kat [⟨[2, 3], [], [], []⟩, ⟨[2, 3, 9], [], [], []⟩, ⟨[4], [], [], []⟩, ⟨[2, 3, 14], [], [], []⟩, ⟨[4], [], [], []⟩, ⟨[2, 3, 19], [], [], []⟩, ⟨[4], [], [], []⟩, ⟨[2, 3, 25], [], [], []⟩, ⟨[4], [], [], []⟩, ⟨[31], [], [], []⟩, ⟨[4], [], [], []⟩, ⟨[4], [], [], []⟩]
noncomputable def f13e (N : Nat) : Env := tab.env [(21, s21), (40, s40r N)]
theorem f13_run {R : Type} (N : Nat) (n : Nat) (k : List Dt → Option R) (a0 : NodeT) (a1 : NodeT) : evFn (f13e N) f13k n f13c [.ro, .ro] [false] true [.tmp 4] [4] [.d .node a0, .d .node a1] k =
    (cond ((NodeT.kind a0) != (NodeT.kind a1))
    (k [.d .bool false])
    (cond ((NodeT.n a0) != (NodeT.n a1))
      (k [.d .bool false])
      (cond (!(sEq (NodeT.s a0) (NodeT.s a1)))
        (k [.d .bool false])
        (cond (sm2 (smL smStr) (NodeT.keys a0) (NodeT.keys a1))
          (cond (!(eqD (NodeT.keys a0) (NodeT.keys a1)))
            (k [.d .bool false])
            (cond ((sm2 (smL sm_node) (NodeT.kids a0) (NodeT.kids a1)) && (Nat.blt (meL_node (NodeT.kids a0) (NodeT.kids a1)) N))
              (cond (!(eqD (NodeT.kids a0) (NodeT.kids a1)))
                (k [.d .bool false])
                (k [.d .bool true]))
              none))
          none)))) := by kernel_rfl
theorem f13_spec (N : Nat) (a0 : NodeT) (a1 : NodeT) (hg : sm2 sm_node a0 a1 = true) (hm : mu13 [.d .node a0, .d .node a1] = N) : ∃ keep rounds, ∀ {R : Type} (k : List Dt → Option R), evFn (f13e N) keep rounds f13c [.ro, .ro] [false] true [.tmp 4] [4] [.d .node a0, .d .node a1] k = k [.d .bool (eqD a0 a1)] := by
  have hm : me_node a0 a1 = N := hm
  subst hm
  have m1 : Nat.blt (meL_node a0.kids a1.kids) (me_node a0 a1) = true := by rw [Nat.blt_eq]; simp only [meL_node, me_node, nd_node_def]; omega
  simp only [sm2, sm_node_def, Bool.and_eq_true] at hg
  refine ⟨f13k, 0, fun {R} k => ?_⟩
  rw [f13_run, eqD_node]
  simp only [bne, sm2, hg, m1, Bool.and_self, Bool.true_and, cond_true]
  cases (a0.kind == a1.kind) <;> cases (a0.n == a1.n) <;> cases sEq a0.s a1.s <;> cases eqD a0.keys a1.keys <;> cases eqD a0.kids a1.kids <;> rfl


/-! ### loop.example/g00465/laws.eqNodeS -/
noncomputable def f40c : Code := (Try.f40.body).getD .skip
def f40k : Nat → Kp := kat [⟨[0, 1], [], [], []⟩, ⟨[0, 1, 10], [], [], []⟩, ⟨[4], [], [], []⟩, ⟨[0, 1, 5], [], [], []⟩, ⟨[0, 1, 5, 14], [], [], []⟩, ⟨[0, 1, 5], [], [], []⟩, ⟨[0, 1, 5, 26], [], [], []⟩, ⟨[4], [], [], []⟩, ⟨[4], [], [], []⟩]
noncomputable def f40e (N : Nat) : Env := tab.env [(13, s13r N)]
noncomputable def f40L0 {R : Type} (N : Nat) (n : Nat) (x0 : Option R) (x1 : Int → Bool → Option R) (vs0 : List NodeT) (vs1 : List NodeT) : Nat → Int → Option R
  | 0, _ => none
  | m + 1, vs5 =>
    (cond (decide (vs5 < (vs0.length : Int)))
      (cond ((decide ((0 : Int) ≤ vs5)) && (decide (vs5 < (vs0.length : Int))))
        (cond ((decide ((0 : Int) ≤ vs5)) && (decide (vs5 < (vs1.length : Int))))
          (cond ((sm2 sm_node (eN (atI (t := .node) vs0 (Int.toNat vs5))) (eN (atI (t := .node) vs1 (Int.toNat vs5)))) && (Nat.blt (me_node (eN (atI (t := .node) vs0 (Int.toNat vs5))) (eN (atI (t := .node) vs1 (Int.toNat vs5)))) N))
            (cond (!(eqD (eN (atI (t := .node) vs0 (Int.toNat vs5))) (eN (atI (t := .node) vs1 (Int.toNat vs5)))))
              (x0)
              (f40L0 N n x0 x1 vs0 vs1 m (IntKind.wrap .i64 (vs5 + (1 : Int)))))
            none)
          none)
        none)
      (x1 vs5 (decide (vs5 < (vs0.length : Int)))))
theorem f40L0_b {R : Type} (N : Nat) (n : Nat) (k' : Ex → St → Option R) (vs0 : List NodeT) (vs1 : List NodeT) (vs5 : Int) : ev (f40e N) f40k n (cAt [1,1,0,1,0,0] f40c) ⟨[(0, .c (.one (.ro .node vs0))), (1, .c (.one (.ro .node vs1))), (5, .c (.one (.v (.int .i64 vs5))))], [], []⟩ k' =
    (cond (decide (vs5 < (vs0.length : Int)))
    (cond ((decide ((0 : Int) ≤ vs5)) && (decide (vs5 < (vs0.length : Int))))
      (cond ((decide ((0 : Int) ≤ vs5)) && (decide (vs5 < (vs1.length : Int))))
        (cond ((sm2 sm_node (eN (atI (t := .node) vs0 (Int.toNat vs5))) (eN (atI (t := .node) vs1 (Int.toNat vs5)))) && (Nat.blt (me_node (eN (atI (t := .node) vs0 (Int.toNat vs5))) (eN (atI (t := .node) vs1 (Int.toNat vs5)))) N))
          (cond (!(eqD (eN (atI (t := .node) vs0 (Int.toNat vs5))) (eN (atI (t := .node) vs1 (Int.toNat vs5)))))
            (k' .ret ⟨[(4, .c (.one (.v (.bool false))))], [], []⟩)
            (k' .normal ⟨[(0, .c (.one (.ro .node vs0))), (1, .c (.one (.ro .node vs1))), (5, .c (.one (.v (.int .i64 (IntKind.wrap .i64 (vs5 + (1 : Int)))))))], [], []⟩))
          none)
        none)
      none)
    (k' (.exit 0) ⟨[(0, .c (.one (.ro .node vs0))), (1, .c (.one (.ro .node vs1))), (5, .c (.one (.v (.int .i64 vs5)))), (14, .c (.one (.v (.bool (decide (vs5 < (vs0.length : Int)))))))], [], []⟩)) := by kernel_rfl
theorem f40L0_eq {R : Type} (N : Nat) (n : Nat) (k' : Ex → St → Option R) (vs0 : List NodeT) (vs1 : List NodeT) : ∀ (m : Nat) (vs5 : Int), iter (fun st k => ev (f40e N) f40k n (cAt [1,1,0,1,0,0] f40c) st k) m ⟨[(0, .c (.one (.ro .node vs0))), (1, .c (.one (.ro .node vs1))), (5, .c (.one (.v (.int .i64 vs5))))], [], []⟩ k' = f40L0 N n (k' .ret ⟨[(4, .c (.one (.v (.bool false))))], [], []⟩) (fun (xvs5 : Int) (xvs14 : Bool) => k' (.exit 0) ⟨[(0, .c (.one (.ro .node vs0))), (1, .c (.one (.ro .node vs1))), (5, .c (.one (.v (.int .i64 xvs5)))), (14, .c (.one (.v (.bool xvs14))))], [], []⟩) vs0 vs1 m vs5 := by
  intro m; induction m with
  | zero => intros; rfl
  | succ m ih =>
    intro vs5
    simp only [iter]
    rw [f40L0_b]
    simp only [ih, f40L0]

noncomputable def f40K0 {R : Type} (N : Nat) (n : Nat) (k' : Ex → St → Option R) : Ex → St → Option R := (blockK 0 (seqK (f40e N) f40k n (cAt [1,1,1] f40c) k'))
theorem f40K0_x0 {R : Type} (N : Nat) (n : Nat) (k : List Dt → Option R) (a0 : List NodeT) (a1 : List NodeT)  : f40K0 N n (exitK (f40e N) [.ro, .ro] [false] true [.tmp 4] [4] [.d (.sl .node) a0, .d (.sl .node) a1] k) .ret ⟨[(4, .c (.one (.v (.bool false))))], [], []⟩ =
    (k [.d .bool false]) := by kernel_rfl
theorem f40K0_x1 {R : Type} (N : Nat) (n : Nat) (k : List Dt → Option R) (a0 : List NodeT) (a1 : List NodeT) (vs0 : List NodeT) (vs1 : List NodeT) (xvs5 : Int) (xvs14 : Bool) : f40K0 N n (exitK (f40e N) [.ro, .ro] [false] true [.tmp 4] [4] [.d (.sl .node) a0, .d (.sl .node) a1] k) (.exit 0) ⟨[(0, .c (.one (.ro .node vs0))), (1, .c (.one (.ro .node vs1))), (5, .c (.one (.v (.int .i64 xvs5)))), (14, .c (.one (.v (.bool xvs14))))], [], []⟩ =
    (k [.d .bool true]) := by kernel_rfl

theorem f40_run {R : Type} (N : Nat) (n : Nat) (k : List Dt → Option R) (a0 : List NodeT) (a1 : List NodeT) : evFn (f40e N) f40k n f40c [.ro, .ro] [false] true [.tmp 4] [4] [.d (.sl .node) a0, .d (.sl .node) a1] k =
    (cond ((a0.length : Int) != (a1.length : Int))
    (k [.d .bool false])
    (f40L0 N n (k [.d .bool false]) (fun (xvs5 : Int) (xvs14 : Bool) =>
      (k [.d .bool true])) a0 a1 n (0 : Int))) := by
  refine Eq.trans (b := (cond ((a0.length : Int) != (a1.length : Int))
    (k [.d .bool false])
    (iter (fun st k => ev (f40e N) f40k n (cAt [1,1,0,1,0,0] f40c) st k) n ⟨[(0, .c (.one (.ro .node a0))), (1, .c (.one (.ro .node a1))), (5, .c (.one (.v (.int .i64 (0 : Int)))))], [], []⟩ (f40K0 N n (exitK (f40e N) [.ro, .ro] [false] true [.tmp 4] [4] [.d (.sl .node) a0, .d (.sl .node) a1] k))))) (by kernel_rfl) ?_
  simp only [f40L0_eq, f40K0_x0, f40K0_x1]
theorem f40_spec (N : Nat) (a0 : List NodeT) (a1 : List NodeT) (hg : sm2 (smL sm_node) a0 a1 = true) (hm : mu40 [.d (.sl .node) a0, .d (.sl .node) a1] = N) : ∃ keep rounds, ∀ {R : Type} (k : List Dt → Option R), evFn (f40e N) keep rounds f40c [.ro, .ro] [false] true [.tmp 4] [4] [.d (.sl .node) a0, .d (.sl .node) a1] k = k [.d .bool (eqD a0 a1)] := by
  have hm : meL_node a0 a1 = N := hm
  subst hm
  simp only [sm2, Bool.and_eq_true] at hg
  obtain ⟨hg0, hg1⟩ := hg
  have hl : a0.length ≤ 1048576 := smL_len hg0
  refine ⟨f40k, a0.length + 1, fun {R} k => ?_⟩
  rw [f40_run]
  by_cases hc : a0.length = a1.length
  · have hc' : ((a0.length : Int) != (a1.length : Int)) = false := by simp [hc]
    simp only [hc', cond_false]
    refine Eq.trans (loop_idx (n := a0.length) (F := fun m i => f40L0 (meL_node a0 a1) (a0.length + 1) _ _ a0 a1 m i) (p := fun j => eqD (atI (t := .node) a0 j) (atI (t := .node) a1 j)) (good := k [.d .bool true]) (bad := k [.d .bool false])
      (fun m j hj => ?_) (fun m => by simp only [f40L0, idxE, cond_false]) a0.length 0 (a0.length + 1) (by omega) (by omega)) ?_
    · obtain ⟨h1, h0, hw, ht⟩ := idx hj (by omega)
      obtain ⟨h2, _, _, _⟩ := idx (show j < a1.length by omega) (by omega)
      have ha := smL_at (t := .node) hg0 hj
      have hb := smL_at (t := .node) hg1 (show j < a1.length by omega)
      have hm1 : Nat.blt (me_node (atI (t := .node) a0 j) (atI (t := .node) a1 j)) (meL_node a0 a1) = true := by
        obtain ⟨x, hx, _⟩ := drop_get hj
        have := ndL_mem (f := nd_node) (List.mem_of_getElem? hx)
        rw [atI_of (t := .node) hx, Nat.blt_eq]; simp only [me_node, meL_node]; omega
      simp only [f40L0, h1, h0, h2, hw, ht, Bool.and_self, cond_true, sm2, eta_node, eN_eq, ha, hb, hm1]
      cases eqD (atI (t := .node) a0 j) (atI (t := .node) a1 j) <;> rfl
    · rw [allN_eq hc (fun j x y hx hy => by rw [atI_of (t := .node) hx, atI_of (t := .node) hy])]
      cases eqD a0 a1 <;> rfl
  · simp only [bneLen hc, cond_true]
    rw [eqD_ne (fun e => hc (by rw [e]))]


theorem goods13 : ∀ x ∈ ([⟨13, [.ro, .ro], [false], true, mu13, q13⟩, ⟨40, [.ro, .ro], [false], true, mu40, q40⟩] : List Rc), Gm.SpecOk Try.prog x.f (Gm.Spec.of x.ms x.rs x.ow x.q) := by
  refine spec_recs _ fun N hr => ?_
  have hr1 : Gm.SpecOk Try.prog 13 (Gm.Spec.of [.ro, .ro] [false] true (qlt mu13 N q13)) := fun {R} => hr _ (.head _)
  have hr2 : Gm.SpecOk Try.prog 40 (Gm.Spec.of [.ro, .ro] [false] true (qlt mu40 N q40)) := fun {R} => hr _ (.tail _ (.head _))
  refine List.forall_mem_cons.2 ⟨?_, List.forall_mem_cons.2 ⟨?_, List.forall_mem_nil _⟩⟩
  · have hl : ∀ x ∈ ([(21, s21), (40, s40r N)] : List (Nat × Gm.Spec)), Gm.Good Try.prog x := List.forall_mem_cons.2 ⟨good21, List.forall_mem_cons.2 ⟨⟨⟨hr2, _, Try.func40, by kernel_rfl, of_decide_eq_true (by kernel_rfl)⟩, Gm.Spec.of_natl _ _ _ _⟩, List.forall_mem_nil _⟩⟩
    show Gm.SpecOk Try.prog 13 (Gm.Spec.of [.ro, .ro] [false] true (qeq mu13 N q13))
    intro R
    refine spec_ok (E := f13e N) (tab_ok.env hl) (tab.natl hl) Try.func13 (by kernel_rfl : Try.f13.body = some f13c) [4] (by kernel_rfl) ?_
    intro ds outs h
    obtain ⟨h, hm⟩ := qeq_some h
    unfold q13 at h
    split at h
    · simp only [Option.some.injEq, Prod.mk.injEq] at h; obtain ⟨hg, h⟩ := h; cases h; exact f13_spec N _ _ hg hm
    · cases h
  · have hl : ∀ x ∈ ([(13, s13r N)] : List (Nat × Gm.Spec)), Gm.Good Try.prog x := List.forall_mem_cons.2 ⟨⟨⟨hr1, _, Try.func13, by kernel_rfl, of_decide_eq_true (by kernel_rfl)⟩, Gm.Spec.of_natl _ _ _ _⟩, List.forall_mem_nil _⟩
    show Gm.SpecOk Try.prog 40 (Gm.Spec.of [.ro, .ro] [false] true (qeq mu40 N q40))
    intro R
    refine spec_ok (E := f40e N) (tab_ok.env hl) (tab.natl hl) Try.func40 (by kernel_rfl : Try.f40.body = some f40c) [4] (by kernel_rfl) ?_
    intro ds outs h
    obtain ⟨h, hm⟩ := qeq_some h
    unfold q40 at h
    split at h
    · simp only [Option.some.injEq, Prod.mk.injEq] at h; obtain ⟨hg, h⟩ := h; cases h; exact f40_spec N _ _ hg hm
    · cases h
theorem good13 : Gm.Good Try.prog (13, s13) := ⟨⟨fun {R} => goods13 _ (.head _), _, Try.func13, by kernel_rfl, of_decide_eq_true (by kernel_rfl)⟩, Gm.Spec.of_natl _ _ _ _⟩
end Go.Proofs.Ytinbejnakemfjaa

/- x -/
namespace Go.Proofs.Ytinbejnakemfjaa
open Go Go.Gm
/-! ### loop.example/g00465/laws.markText -/
noncomputable def f47c : Code := (Try.f47.body).getD .skip
def f47k : Nat → Kp := kat [⟨[0], [], [], []⟩, ⟨[0, 5], [], [], []⟩, ⟨[2], [], [], []⟩, ⟨[0, 3], [], [], []⟩, ⟨[0, 3, 7], [], [], []⟩, ⟨[0, 3], [], [], []⟩, ⟨[0, 3], [], [], []⟩, ⟨[2], [], [], []⟩]
noncomputable def f47e : Env := tab.env []
noncomputable def f47L0 {R : Type} (n : Nat) (x0 : Int → ByteArray → Bool → Option R)  : Nat → Int → ByteArray → Option R
  | 0, _, _ => none
  | m + 1, vs0, vs3 =>
    (cond (decide (vs0 > (0 : Int)))
      (cond (decide (ByteArray.size (bytesOf ([(IntKind.wrap .u8 (IntKind.wrap .i64 ((48 : Int) + (Int.tmod vs0 (10 : Int)))))] : List Int)) + ByteArray.size vs3 ≤ 9223372036854775807))
        (f47L0 n x0 m (IntKind.wrap .i64 (Int.tdiv vs0 (10 : Int))) ((bytesOf ([(IntKind.wrap .u8 (IntKind.wrap .i64 ((48 : Int) + (Int.tmod vs0 (10 : Int)))))] : List Int)) ++ vs3))
        none)
      (x0 vs0 vs3 (decide (vs0 > (0 : Int)))))
theorem f47L0_b {R : Type} (n : Nat) (k' : Ex → St → Option R) (vs0 : Int) (vs3 : ByteArray) : ev f47e f47k n (cAt [1,1,1,0,0,0] f47c) ⟨[(0, .c (.one (.v (.int .i64 vs0)))), (3, .c (.one (.v (.string vs3))))], [], []⟩ k' =
    (cond (decide (vs0 > (0 : Int)))
    (cond (decide (ByteArray.size (bytesOf ([(IntKind.wrap .u8 (IntKind.wrap .i64 ((48 : Int) + (Int.tmod vs0 (10 : Int)))))] : List Int)) + ByteArray.size vs3 ≤ 9223372036854775807))
      (k' .normal ⟨[(0, .c (.one (.v (.int .i64 (IntKind.wrap .i64 (Int.tdiv vs0 (10 : Int))))))), (3, .c (.one (.v (.string ((bytesOf ([(IntKind.wrap .u8 (IntKind.wrap .i64 ((48 : Int) + (Int.tmod vs0 (10 : Int)))))] : List Int)) ++ vs3)))))], [], []⟩)
      none)
    (k' (.exit 0) ⟨[(0, .c (.one (.v (.int .i64 vs0)))), (3, .c (.one (.v (.string vs3)))), (7, .c (.one (.v (.bool (decide (vs0 > (0 : Int)))))))], [], []⟩)) := by kernel_rfl
theorem f47L0_eq {R : Type} (n : Nat) (k' : Ex → St → Option R)  : ∀ (m : Nat) (vs0 : Int) (vs3 : ByteArray), iter (fun st k => ev f47e f47k n (cAt [1,1,1,0,0,0] f47c) st k) m ⟨[(0, .c (.one (.v (.int .i64 vs0)))), (3, .c (.one (.v (.string vs3))))], [], []⟩ k' = f47L0 n (fun (xvs0 : Int) (xvs3 : ByteArray) (xvs7 : Bool) => k' (.exit 0) ⟨[(0, .c (.one (.v (.int .i64 xvs0)))), (3, .c (.one (.v (.string xvs3)))), (7, .c (.one (.v (.bool xvs7))))], [], []⟩) m vs0 vs3 := by
  intro m; induction m with
  | zero => intros; rfl
  | succ m ih =>
    intro vs0 vs3
    simp only [iter]
    rw [f47L0_b]
    simp only [ih, f47L0]

noncomputable def f47K0 {R : Type} (n : Nat) (k' : Ex → St → Option R) : Ex → St → Option R := (blockK 0 (seqK f47e f47k n (cAt [1,1,1,1] f47c) k'))
theorem f47K0_x0 {R : Type} (n : Nat) (k : List Dt → Option R) (a0 : Int) (xvs0 : Int) (xvs3 : ByteArray) (xvs7 : Bool) : f47K0 n (exitK f47e [.ro] [false] true [.tmp 2] [9] [.d (.i .i64) a0] k) (.exit 0) ⟨[(0, .c (.one (.v (.int .i64 xvs0)))), (3, .c (.one (.v (.string xvs3)))), (7, .c (.one (.v (.bool xvs7))))], [], []⟩ =
    (cond (decide (ByteArray.size (bs [109]) + ByteArray.size xvs3 ≤ 9223372036854775807))
    (k [.d .str ((bs [109]) ++ xvs3)])
    none) := by kernel_rfl

theorem f47_run {R : Type} (n : Nat) (k : List Dt → Option R) (a0 : Int) : evFn f47e f47k n f47c [.ro] [false] true [.tmp 2] [9] [.d (.i .i64) a0] k =
    (cond (decide (a0 ≤ (0 : Int)))
    (k [.d .str (bs [109,48])])
    (f47L0 n (fun (xvs0 : Int) (xvs3 : ByteArray) (xvs7 : Bool) =>
      (cond (decide (ByteArray.size (bs [109]) + ByteArray.size xvs3 ≤ 9223372036854775807))
        (k [.d .str ((bs [109]) ++ xvs3)])
        none)) n a0 ByteArray.empty)) := by
  refine Eq.trans (b := (cond (decide (a0 ≤ (0 : Int)))
    (k [.d .str (bs [109,48])])
    (iter (fun st k => ev f47e f47k n (cAt [1,1,1,0,0,0] f47c) st k) n ⟨[(0, .c (.one (.v (.int .i64 a0)))), (3, .c (.one (.v (.string ByteArray.empty))))], [], []⟩ (f47K0 n (exitK f47e [.ro] [false] true [.tmp 2] [9] [.d (.i .i64) a0] k))))) (by kernel_rfl) ?_
  simp only [f47L0_eq, f47K0_x0]
theorem f47_spec (a0 : Int) (hg : okI a0 = true) : ∃ keep rounds, ∀ {R : Type} (k : List Dt → Option R), evFn f47e keep rounds f47c [.ro] [false] true [.tmp 2] [9] [.d (.i .i64) a0] k = k [.d .str (mkT a0)] := by
  rw [okI_iff] at hg
  refine ⟨f47k, 25, fun {R} k => ?_⟩
  rw [f47_run]
  show _ = k [.d .str (mkT a0)]
  unfold mkT
  by_cases hz : a0 ≤ 0
  · simp only [hz, decide_true, cond_true]
  simp only [hz, decide_false, cond_false]
  have key : ∀ (d m : Nat) (n : Int) (out : ByteArray), 0 ≤ n → n.natAbs < 10 ^ d → d ≤ 20 → d < m → n ≤ 9223372036854775807 → out.size + d ≤ 100 → ∀ X : Int → ByteArray → Bool → Option R, f47L0 25 X m n out = X 0 (digR n.natAbs out) false := by
    intro d
    induction d with
    | zero =>
      intro m n out h0 hn hd hm hw hs X
      obtain ⟨m, rfl⟩ : ∃ m', m = m' + 1 := ⟨m - 1, by omega⟩
      have : n = 0 := by omega
      subst this
      simp only [f47L0]
      rfl
    | succ d ih =>
      intro m n out h0 hn hd hm hw hs X
      obtain ⟨m, rfl⟩ : ∃ m', m = m' + 1 := ⟨m - 1, by omega⟩
      by_cases hn0 : n = 0
      · subst hn0
        simp only [f47L0]
        rfl
      have h0' : decide (n > (0 : Int)) = true := decide_eq_true (by omega)
      have hn2 : n.natAbs / 10 < 10 ^ d := by rw [Nat.pow_succ] at hn; omega
      have hb := byte_dig (n.natAbs % 10) (by omega)
      have hsz : ByteArray.size ⟨#[UInt8.ofNat (48 + n.natAbs % 10)]⟩ = 1 := rfl
      simp only [f47L0, h0', cond_true]
      have t1 : IntKind.wrap .i64 (Int.tdiv n 10) = ((n.natAbs / 10 : Nat) : Int) := by rw [tdiv_pos (by omega)]; exact wrap_id (by omega) (by omega)
      have t2 : Int.tmod n 10 = ((n.natAbs % 10 : Nat) : Int) := tmod_pos (by omega)
      rw [t1, t2, hb]
      have fin := ih m (((n.natAbs / 10 : Nat) : Int)) (⟨#[UInt8.ofNat (48 + n.natAbs % 10)]⟩ ++ out) (by omega) (by omega) (by omega) (by omega) (by omega) (by rw [ByteArray.size_append]; omega) X
      rw [show (((n.natAbs / 10 : Nat) : Int)).natAbs = n.natAbs / 10 by omega, digR_step (by omega)] at fin
      rw [← fin]
      have hle := app_le (a := ⟨#[UInt8.ofNat (48 + n.natAbs % 10)]⟩) (b := out) (by omega)
      simp only [cond_true, hle]
  refine Eq.trans (key 20 25 a0 ByteArray.empty (by omega) (by have : (10 : Nat) ^ 20 = 100000000000000000000 := rfl; omega) (by omega) (by omega) (by omega) (by show 0 + 20 ≤ 100; omega) _) ?_
  have e : digR a0.natAbs ByteArray.empty = ⟨(natDig a0.natAbs).toArray⟩ := by
    unfold digR; rw [if_neg (by omega)]; apply ba_ext; simp
  have hs := digS_size (n := a0) (okI_iff.2 hg)
  have ed : digS a0 = ⟨(natDig a0.natAbs).toArray⟩ := by
    unfold digS; rw [if_neg (by omega)]; simp
  rw [e, ← ed, app_le (by rw [bs_size, List.length_cons, List.length_nil]; omega)]
  rfl

noncomputable def q47 : List Dt → Option (Bool × List Dt)
  | [.d (.i .i64) a0] => some ((okI a0), [.d .str (mkT a0)])
  | _ => none
noncomputable def s47 : Gm.Spec := Gm.Spec.of [.ro] [false] true q47
theorem good47 : Gm.Good Try.prog (47, s47) := by
  have hl : ∀ x ∈ ([] : List (Nat × Gm.Spec)), Gm.Good Try.prog x := fun _ h => by cases h
  refine ⟨⟨spec_ok (tab_ok.env hl) (tab.natl hl) Try.func47 (by kernel_rfl : Try.f47.body = some f47c) [9] (by kernel_rfl) ?_, _, Try.func47, by kernel_rfl, of_decide_eq_true (by kernel_rfl)⟩, Gm.Spec.of_natl _ _ _ _⟩
  intro ds outs h
  unfold q47 at h
  split at h
  · simp only [Option.some.injEq, Prod.mk.injEq] at h; obtain ⟨hg, h⟩ := h; cases h; exact f47_spec _ hg
  · cases h
/-! ### loop.example/g00465/laws.markStringS -/
noncomputable def f22c : Code := (Try.f22.body).getD .skip
def f22k : Nat → Kp := kat [⟨[0, 1], [], [], []⟩, ⟨[0, 1, 5], [], [], []⟩, ⟨[0, 1, 5, 9], [], [], []⟩, ⟨[0, 1, 5], [], [], []⟩, ⟨[0, 1, 5], [], [], []⟩, ⟨[0, 1, 5], [], [], []⟩, ⟨[0, 4], [], [], []⟩]
noncomputable def f22e : Env := tab.env [(47, s47)]
noncomputable def f22L0 {R : Type} (n : Nat) (x0 : Int → Int → Bool → (List ByteArray) → Option R)  : Nat → Int → Int → (List ByteArray) → Option R
  | 0, _, _, _ => none
  | m + 1, vs1, vs5, vr0 =>
    (cond (decide (vs5 < (vr0.length : Int)))
      (cond (okI vs1)
        (cond ((decide ((0 : Int) ≤ vs5)) && (decide (vs5 < (vr0.length : Int))))
          (f22L0 n x0 m (IntKind.wrap .i64 (vs1 + (1 : Int))) (IntKind.wrap .i64 (vs5 + (1 : Int))) (vr0.set (Int.toNat vs5) (mkT vs1)))
          none)
        none)
      (x0 vs1 vs5 (decide (vs5 < (vr0.length : Int))) vr0))
theorem f22L0_b {R : Type} (n : Nat) (k' : Ex → St → Option R) (vs1 : Int) (vs5 : Int) (vr0 : List ByteArray) : ev f22e f22k n (cAt [1,0,1,0,0] f22c) ⟨[(0, .c (.one (.h 0 0 0 []))), (1, .c (.one (.v (.int .i64 vs1)))), (5, .c (.one (.v (.int .i64 vs5))))], [], [(0, .live ⟨.str, .deep, 0, [], vr0⟩)]⟩ k' =
    (cond (decide (vs5 < (vr0.length : Int)))
    (cond (okI vs1)
      (cond ((decide ((0 : Int) ≤ vs5)) && (decide (vs5 < (vr0.length : Int))))
        (k' .normal ⟨[(0, .c (.one (.h 0 0 0 []))), (1, .c (.one (.v (.int .i64 (IntKind.wrap .i64 (vs1 + (1 : Int))))))), (5, .c (.one (.v (.int .i64 (IntKind.wrap .i64 (vs5 + (1 : Int)))))))], [], [(0, .live ⟨.str, .deep, 0, [], (vr0.set (Int.toNat vs5) (mkT vs1))⟩)]⟩)
        none)
      none)
    (k' (.exit 0) ⟨[(0, .c (.one (.h 0 0 0 []))), (1, .c (.one (.v (.int .i64 vs1)))), (5, .c (.one (.v (.int .i64 vs5)))), (9, .c (.one (.v (.bool (decide (vs5 < (vr0.length : Int)))))))], [], [(0, .live ⟨.str, .deep, 0, [], vr0⟩)]⟩)) := by kernel_rfl
theorem f22L0_eq {R : Type} (n : Nat) (k' : Ex → St → Option R)  : ∀ (m : Nat) (vs1 : Int) (vs5 : Int) (vr0 : List ByteArray), iter (fun st k => ev f22e f22k n (cAt [1,0,1,0,0] f22c) st k) m ⟨[(0, .c (.one (.h 0 0 0 []))), (1, .c (.one (.v (.int .i64 vs1)))), (5, .c (.one (.v (.int .i64 vs5))))], [], [(0, .live ⟨.str, .deep, 0, [], vr0⟩)]⟩ k' = f22L0 n (fun (xvs1 : Int) (xvs5 : Int) (xvs9 : Bool) (xvr0 : List ByteArray) => k' (.exit 0) ⟨[(0, .c (.one (.h 0 0 0 []))), (1, .c (.one (.v (.int .i64 xvs1)))), (5, .c (.one (.v (.int .i64 xvs5)))), (9, .c (.one (.v (.bool xvs9))))], [], [(0, .live ⟨.str, .deep, 0, [], xvr0⟩)]⟩) m vs1 vs5 vr0 := by
  intro m; induction m with
  | zero => intros; rfl
  | succ m ih =>
    intro vs1 vs5 vr0
    simp only [iter]
    rw [f22L0_b]
    simp only [ih, f22L0]

noncomputable def f22K0 {R : Type} (n : Nat) (k' : Ex → St → Option R) : Ex → St → Option R := (blockK 0 (seqK f22e f22k n (cAt [1,1] f22c) k'))
theorem f22K0_x0 {R : Type} (n : Nat) (k : List Dt → Option R) (a0 : List ByteArray) (a1 : Int) (xvs1 : Int) (xvs5 : Int) (xvs9 : Bool) (xvr0 : List ByteArray) : f22K0 n (exitK f22e [.«mut», .ro] [false] true [.tmp 4] [3] [.d (.sl .str) a0, .d (.i .i64) a1] k) (.exit 0) ⟨[(0, .c (.one (.h 0 0 0 []))), (1, .c (.one (.v (.int .i64 xvs1)))), (5, .c (.one (.v (.int .i64 xvs5)))), (9, .c (.one (.v (.bool xvs9))))], [], [(0, .live ⟨.str, .deep, 0, [], xvr0⟩)]⟩ =
    (k [.d (.i .i64) xvs1, .d (.sl .str) xvr0]) := by kernel_rfl

theorem f22_run {R : Type} (n : Nat) (k : List Dt → Option R) (a0 : List ByteArray) (a1 : Int) : evFn f22e f22k n f22c [.«mut», .ro] [false] true [.tmp 4] [3] [.d (.sl .str) a0, .d (.i .i64) a1] k =
    (f22L0 n (fun (xvs1 : Int) (xvs5 : Int) (xvs9 : Bool) (xvr0 : List ByteArray) =>
    (k [.d (.i .i64) xvs1, .d (.sl .str) xvr0])) n a1 (0 : Int) a0) := by
  refine Eq.trans (b := (iter (fun st k => ev f22e f22k n (cAt [1,0,1,0,0] f22c) st k) n ⟨[(0, .c (.one (.h 0 0 0 []))), (1, .c (.one (.v (.int .i64 a1)))), (5, .c (.one (.v (.int .i64 (0 : Int)))))], [], [(0, .live ⟨.str, .deep, 0, [], a0⟩)]⟩ (f22K0 n (exitK f22e [.«mut», .ro] [false] true [.tmp 4] [3] [.d (.sl .str) a0, .d (.i .i64) a1] k)))) (by kernel_rfl) ?_
  simp only [f22L0_eq, f22K0_x0]
theorem f22_spec (a0 : List ByteArray) (a1 : Int) (hg : gmk a1 (ctL ct_str a0) = true) : ∃ keep rounds, ∀ {R : Type} (k : List Dt → Option R), evFn f22e keep rounds f22c [.«mut», .ro] [false] true [.tmp 4] [3] [.d (.sl .str) a0, .d (.i .i64) a1] k = k [.d (.i .i64) (mkL mk_str a1 a0).2, .d (.sl .str) (mkL mk_str a1 a0).1] := by
  rw [gmk_iff] at hg
  have hl := ctL_len ct_str_pos a0
  refine ⟨f22k, a0.length + 1, fun {R} k => ?_⟩
  rw [f22_run]
  refine Eq.trans (loop_mark (F := fun m kk i l => f22L0 (a0.length + 1) _ m kk i l) (f := mk_str) (c := ct_str) (good := fun kk l => k [.d (.i .i64) kk, .d (.sl .str) l]) (n := a0.length) mk_str_ct
    (fun m kk j l x hx hln h0 hB => ?_) (fun m kk l hln => by simp only [f22L0, hln, idxE, cond_false]) a0 (a0.length + 1) a1 [] (by simp) (by omega) hg.1 hg.2) rfl
  obtain ⟨h1, h2, _, ht⟩ := idx (lt_of_get hx) (by omega)
  have hA : ∀ a, atI (t := .str) (l.set j a) j = a := fun a => atI_set (t := .str) (lt_of_get hx) a
  have hj := lt_of_get hx
  simp only [ct_str] at hB
  simp (disch := omega) only [f22L0, h1, h2, ht, hA, atI_of (t := .str) hx, List.set_set, List.length_set, wrap_id, gmk_of, okI_of, mk_str, Bool.and_self, cond_true]

noncomputable def q22 : List Dt → Option (Bool × List Dt)
  | [.d (.sl .str) a0, .d (.i .i64) a1] => some (((fun (x : List ByteArray) (k : Int) => gmk k (ctL ct_str x)) a0 a1), [.d (.i .i64) (mkL mk_str a1 a0).2, .d (.sl .str) (mkL mk_str a1 a0).1])
  | _ => none
noncomputable def s22 : Gm.Spec := Gm.Spec.of [.«mut», .ro] [false] true q22
theorem good22 : Gm.Good Try.prog (22, s22) := by
  have hl : ∀ x ∈ [(47, s47)], Gm.Good Try.prog x := List.forall_mem_cons.2 ⟨good47, List.forall_mem_nil _⟩
  refine ⟨⟨spec_ok (tab_ok.env hl) (tab.natl hl) Try.func22 (by kernel_rfl : Try.f22.body = some f22c) [3] (by kernel_rfl) ?_, _, Try.func22, by kernel_rfl, of_decide_eq_true (by kernel_rfl)⟩, Gm.Spec.of_natl _ _ _ _⟩
  intro ds outs h
  unfold q22 at h
  split at h
  · simp only [Option.some.injEq, Prod.mk.injEq] at h; obtain ⟨hg, h⟩ := h; cases h; exact f22_spec _ _ hg
  · cases h
noncomputable def q41 : List Dt → Option (Bool × List Dt)
  | [.d (.sl .node) a0, .d (.i .i64) a1] => some (((fun (x : List NodeT) (k : Int) => gmk k (ctL ct_node x)) a0 a1), [.d (.i .i64) (mkL mk_node a1 a0).2, .d (.sl .node) (mkL mk_node a1 a0).1])
  | _ => none
noncomputable def mu41 : List Dt → Nat
  | [.d (.sl .node) a0, .d (.i .i64) a1] => mmL_node a0 a1
  | _ => 0
noncomputable def s41r (N : Nat) : Gm.Spec := Gm.Spec.of [.«mut», .ro] [false] true (qlt mu41 N q41)
/-! ### loop.example/g00465/laws.markNodeS -/
noncomputable def f41c : Code := (Try.f41.body).getD .skip
def f41k : Nat → Kp := kat [⟨[0, 1], [], [], []⟩, ⟨[0, 1, 5], [], [], []⟩, ⟨[0, 1, 5, 9], [], [], []⟩, ⟨[0, 1, 5], [], [], []⟩, ⟨[0, 1, 5], [], [], []⟩, ⟨[0, 1, 5], [], [], []⟩, ⟨[0, 1, 5], [], [], []⟩, ⟨[0, 1, 5], [], [], []⟩, ⟨[0, 1, 5], [], [], []⟩, ⟨[0, 1, 5], [], [], []⟩, ⟨[0, 1, 5], [], [], []⟩, ⟨[0, 1, 5], [], [], []⟩, ⟨[0, 4], [], [], []⟩]
noncomputable def f41e (N : Nat) : Env := tab.env [(22, s22), (41, s41r N), (47, s47)]
noncomputable def f41v0 (vr0 : List NodeT) (vs5 : Int) (vs1 : Int) : List NodeT :=
  (vr0.set (Int.toNat vs5) (⟨vs1, (NodeT.n (atI (t := .node) vr0 (Int.toNat vs5))), (NodeT.s (atI (t := .node) vr0 (Int.toNat vs5))), (NodeT.keys (atI (t := .node) vr0 (Int.toNat vs5))), (NodeT.kids (atI (t := .node) vr0 (Int.toNat vs5)))⟩ : NodeT))
noncomputable def f41v1 (vr0 : List NodeT) (vs5 : Int) (vs1 : Int) : List NodeT :=
  ((f41v0 vr0 vs5 vs1).set (Int.toNat vs5) (⟨(NodeT.kind (atI (t := .node) (f41v0 vr0 vs5 vs1) (Int.toNat vs5))), (IntKind.wrap .i64 (vs1 + (1 : Int))), (NodeT.s (atI (t := .node) (f41v0 vr0 vs5 vs1) (Int.toNat vs5))), (NodeT.keys (atI (t := .node) (f41v0 vr0 vs5 vs1) (Int.toNat vs5))), (NodeT.kids (atI (t := .node) (f41v0 vr0 vs5 vs1) (Int.toNat vs5)))⟩ : NodeT))
noncomputable def f41v2 (vr0 : List NodeT) (vs5 : Int) (vs1 : Int) : List NodeT :=
  ((f41v1 vr0 vs5 vs1).set (Int.toNat vs5) (⟨(NodeT.kind (atI (t := .node) (f41v1 vr0 vs5 vs1) (Int.toNat vs5))), (NodeT.n (atI (t := .node) (f41v1 vr0 vs5 vs1) (Int.toNat vs5))), (mkT (IntKind.wrap .i64 ((IntKind.wrap .i64 (vs1 + (1 : Int))) + (1 : Int)))), (NodeT.keys (atI (t := .node) (f41v1 vr0 vs5 vs1) (Int.toNat vs5))), (NodeT.kids (atI (t := .node) (f41v1 vr0 vs5 vs1) (Int.toNat vs5)))⟩ : NodeT))
noncomputable def f41v3 (vr0 : List NodeT) (vs5 : Int) (vs1 : Int) : List NodeT :=
  ((f41v2 vr0 vs5 vs1).set (Int.toNat vs5) (⟨(NodeT.kind (atI (t := .node) (f41v2 vr0 vs5 vs1) (Int.toNat vs5))), (NodeT.n (atI (t := .node) (f41v2 vr0 vs5 vs1) (Int.toNat vs5))), (NodeT.s (atI (t := .node) (f41v2 vr0 vs5 vs1) (Int.toNat vs5))), (mkL mk_str (IntKind.wrap .i64 ((IntKind.wrap .i64 ((IntKind.wrap .i64 (vs1 + (1 : Int))) + (1 : Int))) + (1 : Int))) (NodeT.keys (atI (t := .node) (f41v2 vr0 vs5 vs1) (Int.toNat vs5)))).1, (NodeT.kids (atI (t := .node) (f41v2 vr0 vs5 vs1) (Int.toNat vs5)))⟩ : NodeT))
noncomputable def f41v4 (vr0 : List NodeT) (vs5 : Int) (vs1 : Int) : List NodeT :=
  ((f41v3 vr0 vs5 vs1).set (Int.toNat vs5) (⟨(NodeT.kind (atI (t := .node) (f41v3 vr0 vs5 vs1) (Int.toNat vs5))), (NodeT.n (atI (t := .node) (f41v3 vr0 vs5 vs1) (Int.toNat vs5))), (NodeT.s (atI (t := .node) (f41v3 vr0 vs5 vs1) (Int.toNat vs5))), (NodeT.keys (atI (t := .node) (f41v3 vr0 vs5 vs1) (Int.toNat vs5))), (mkL mk_node (mkL mk_str (IntKind.wrap .i64 ((IntKind.wrap .i64 ((IntKind.wrap .i64 (vs1 + (1 : Int))) + (1 : Int))) + (1 : Int))) (NodeT.keys (atI (t := .node) (f41v2 vr0 vs5 vs1) (Int.toNat vs5)))).2 (NodeT.kids (atI (t := .node) (f41v3 vr0 vs5 vs1) (Int.toNat vs5)))).1⟩ : NodeT))
noncomputable def f41L0 {R : Type} (N : Nat) (n : Nat) (x0 : Int → Int → Bool → (List NodeT) → Option R)  : Nat → Int → Int → (List NodeT) → Option R
  | 0, _, _, _ => none
  | m + 1, vs1, vs5, vr0 =>
    (cond (decide (vs5 < (vr0.length : Int)))
      (cond ((decide ((0 : Int) ≤ vs5)) && (decide (vs5 < (vr0.length : Int))))
        (cond ((decide ((0 : Int) ≤ vs5)) && (decide (vs5 < ((f41v0 vr0 vs5 vs1).length : Int))))
          (cond (okI (IntKind.wrap .i64 ((IntKind.wrap .i64 (vs1 + (1 : Int))) + (1 : Int))))
            (cond ((decide ((0 : Int) ≤ vs5)) && (decide (vs5 < ((f41v1 vr0 vs5 vs1).length : Int))))
              (cond ((decide ((0 : Int) ≤ vs5)) && (decide (vs5 < ((f41v2 vr0 vs5 vs1).length : Int))))
                (cond ((fun (x : List ByteArray) (k : Int) => gmk k (ctL ct_str x)) (NodeT.keys (atI (t := .node) (f41v2 vr0 vs5 vs1) (Int.toNat vs5))) (IntKind.wrap .i64 ((IntKind.wrap .i64 ((IntKind.wrap .i64 (vs1 + (1 : Int))) + (1 : Int))) + (1 : Int))))
                  (cond ((decide ((0 : Int) ≤ vs5)) && (decide (vs5 < ((f41v3 vr0 vs5 vs1).length : Int))))
                    (cond (((fun (x : List NodeT) (k : Int) => gmk k (ctL ct_node x)) (NodeT.kids (atI (t := .node) (f41v3 vr0 vs5 vs1) (Int.toNat vs5))) (mkL mk_str (IntKind.wrap .i64 ((IntKind.wrap .i64 ((IntKind.wrap .i64 (vs1 + (1 : Int))) + (1 : Int))) + (1 : Int))) (NodeT.keys (atI (t := .node) (f41v2 vr0 vs5 vs1) (Int.toNat vs5)))).2) && (Nat.blt (mmL_node (NodeT.kids (atI (t := .node) (f41v3 vr0 vs5 vs1) (Int.toNat vs5))) (mkL mk_str (IntKind.wrap .i64 ((IntKind.wrap .i64 ((IntKind.wrap .i64 (vs1 + (1 : Int))) + (1 : Int))) + (1 : Int))) (NodeT.keys (atI (t := .node) (f41v2 vr0 vs5 vs1) (Int.toNat vs5)))).2) N))
                      (f41L0 N n x0 m (mkL mk_node (mkL mk_str (IntKind.wrap .i64 ((IntKind.wrap .i64 ((IntKind.wrap .i64 (vs1 + (1 : Int))) + (1 : Int))) + (1 : Int))) (NodeT.keys (atI (t := .node) (f41v2 vr0 vs5 vs1) (Int.toNat vs5)))).2 (NodeT.kids (atI (t := .node) (f41v3 vr0 vs5 vs1) (Int.toNat vs5)))).2 (IntKind.wrap .i64 (vs5 + (1 : Int))) (f41v4 vr0 vs5 vs1))
                      none)
                    none)
                  none)
                none)
              none)
            none)
          none)
        none)
      (x0 vs1 vs5 (decide (vs5 < (vr0.length : Int))) vr0))
theorem f41L0_b {R : Type} (N : Nat) (n : Nat) (k' : Ex → St → Option R) (vs1 : Int) (vs5 : Int) (vr0 : List NodeT) : ev (f41e N) f41k n (cAt [1,0,1,0,0] f41c) ⟨[(0, .c (.one (.h 0 0 0 []))), (1, .c (.one (.v (.int .i64 vs1)))), (5, .c (.one (.v (.int .i64 vs5))))], [], [(0, .live ⟨.node, .deep, 0, [], vr0⟩)]⟩ k' =
    (cond (decide (vs5 < (vr0.length : Int)))
    (cond ((decide ((0 : Int) ≤ vs5)) && (decide (vs5 < (vr0.length : Int))))
      (cond ((decide ((0 : Int) ≤ vs5)) && (decide (vs5 < ((f41v0 vr0 vs5 vs1).length : Int))))
        (cond (okI (IntKind.wrap .i64 ((IntKind.wrap .i64 (vs1 + (1 : Int))) + (1 : Int))))
          (cond ((decide ((0 : Int) ≤ vs5)) && (decide (vs5 < ((f41v1 vr0 vs5 vs1).length : Int))))
            (cond ((decide ((0 : Int) ≤ vs5)) && (decide (vs5 < ((f41v2 vr0 vs5 vs1).length : Int))))
              (cond ((fun (x : List ByteArray) (k : Int) => gmk k (ctL ct_str x)) (NodeT.keys (atI (t := .node) (f41v2 vr0 vs5 vs1) (Int.toNat vs5))) (IntKind.wrap .i64 ((IntKind.wrap .i64 ((IntKind.wrap .i64 (vs1 + (1 : Int))) + (1 : Int))) + (1 : Int))))
                (cond ((decide ((0 : Int) ≤ vs5)) && (decide (vs5 < ((f41v3 vr0 vs5 vs1).length : Int))))
                  (cond (((fun (x : List NodeT) (k : Int) => gmk k (ctL ct_node x)) (NodeT.kids (atI (t := .node) (f41v3 vr0 vs5 vs1) (Int.toNat vs5))) (mkL mk_str (IntKind.wrap .i64 ((IntKind.wrap .i64 ((IntKind.wrap .i64 (vs1 + (1 : Int))) + (1 : Int))) + (1 : Int))) (NodeT.keys (atI (t := .node) (f41v2 vr0 vs5 vs1) (Int.toNat vs5)))).2) && (Nat.blt (mmL_node (NodeT.kids (atI (t := .node) (f41v3 vr0 vs5 vs1) (Int.toNat vs5))) (mkL mk_str (IntKind.wrap .i64 ((IntKind.wrap .i64 ((IntKind.wrap .i64 (vs1 + (1 : Int))) + (1 : Int))) + (1 : Int))) (NodeT.keys (atI (t := .node) (f41v2 vr0 vs5 vs1) (Int.toNat vs5)))).2) N))
                    (k' .normal ⟨[(0, .c (.one (.h 0 0 0 []))), (1, .c (.one (.v (.int .i64 (mkL mk_node (mkL mk_str (IntKind.wrap .i64 ((IntKind.wrap .i64 ((IntKind.wrap .i64 (vs1 + (1 : Int))) + (1 : Int))) + (1 : Int))) (NodeT.keys (atI (t := .node) (f41v2 vr0 vs5 vs1) (Int.toNat vs5)))).2 (NodeT.kids (atI (t := .node) (f41v3 vr0 vs5 vs1) (Int.toNat vs5)))).2)))), (5, .c (.one (.v (.int .i64 (IntKind.wrap .i64 (vs5 + (1 : Int)))))))], [], [(0, .live ⟨.node, .deep, 0, [], (f41v4 vr0 vs5 vs1)⟩)]⟩)
                    none)
                  none)
                none)
              none)
            none)
          none)
        none)
      none)
    (k' (.exit 0) ⟨[(0, .c (.one (.h 0 0 0 []))), (1, .c (.one (.v (.int .i64 vs1)))), (5, .c (.one (.v (.int .i64 vs5)))), (9, .c (.one (.v (.bool (decide (vs5 < (vr0.length : Int)))))))], [], [(0, .live ⟨.node, .deep, 0, [], vr0⟩)]⟩)) := by kernel_rfl
theorem f41L0_eq {R : Type} (N : Nat) (n : Nat) (k' : Ex → St → Option R)  : ∀ (m : Nat) (vs1 : Int) (vs5 : Int) (vr0 : List NodeT), iter (fun st k => ev (f41e N) f41k n (cAt [1,0,1,0,0] f41c) st k) m ⟨[(0, .c (.one (.h 0 0 0 []))), (1, .c (.one (.v (.int .i64 vs1)))), (5, .c (.one (.v (.int .i64 vs5))))], [], [(0, .live ⟨.node, .deep, 0, [], vr0⟩)]⟩ k' = f41L0 N n (fun (xvs1 : Int) (xvs5 : Int) (xvs9 : Bool) (xvr0 : List NodeT) => k' (.exit 0) ⟨[(0, .c (.one (.h 0 0 0 []))), (1, .c (.one (.v (.int .i64 xvs1)))), (5, .c (.one (.v (.int .i64 xvs5)))), (9, .c (.one (.v (.bool xvs9))))], [], [(0, .live ⟨.node, .deep, 0, [], xvr0⟩)]⟩) m vs1 vs5 vr0 := by
  intro m; induction m with
  | zero => intros; rfl
  | succ m ih =>
    intro vs1 vs5 vr0
    simp only [iter]
    rw [f41L0_b]
    simp only [ih, f41L0]

noncomputable def f41K0 {R : Type} (N : Nat) (n : Nat) (k' : Ex → St → Option R) : Ex → St → Option R := (blockK 0 (seqK (f41e N) f41k n (cAt [1,1] f41c) k'))
theorem f41K0_x0 {R : Type} (N : Nat) (n : Nat) (k : List Dt → Option R) (a0 : List NodeT) (a1 : Int) (xvs1 : Int) (xvs5 : Int) (xvs9 : Bool) (xvr0 : List NodeT) : f41K0 N n (exitK (f41e N) [.«mut», .ro] [false] true [.tmp 4] [3] [.d (.sl .node) a0, .d (.i .i64) a1] k) (.exit 0) ⟨[(0, .c (.one (.h 0 0 0 []))), (1, .c (.one (.v (.int .i64 xvs1)))), (5, .c (.one (.v (.int .i64 xvs5)))), (9, .c (.one (.v (.bool xvs9))))], [], [(0, .live ⟨.node, .deep, 0, [], xvr0⟩)]⟩ =
    (k [.d (.i .i64) xvs1, .d (.sl .node) xvr0]) := by kernel_rfl

theorem f41_run {R : Type} (N : Nat) (n : Nat) (k : List Dt → Option R) (a0 : List NodeT) (a1 : Int) : evFn (f41e N) f41k n f41c [.«mut», .ro] [false] true [.tmp 4] [3] [.d (.sl .node) a0, .d (.i .i64) a1] k =
    (f41L0 N n (fun (xvs1 : Int) (xvs5 : Int) (xvs9 : Bool) (xvr0 : List NodeT) =>
    (k [.d (.i .i64) xvs1, .d (.sl .node) xvr0])) n a1 (0 : Int) a0) := by
  refine Eq.trans (b := (iter (fun st k => ev (f41e N) f41k n (cAt [1,0,1,0,0] f41c) st k) n ⟨[(0, .c (.one (.h 0 0 0 []))), (1, .c (.one (.v (.int .i64 a1)))), (5, .c (.one (.v (.int .i64 (0 : Int)))))], [], [(0, .live ⟨.node, .deep, 0, [], a0⟩)]⟩ (f41K0 N n (exitK (f41e N) [.«mut», .ro] [false] true [.tmp 4] [3] [.d (.sl .node) a0, .d (.i .i64) a1] k)))) (by kernel_rfl) ?_
  simp only [f41L0_eq, f41K0_x0]
theorem f41_spec (N : Nat) (a0 : List NodeT) (a1 : Int) (hg : gmk a1 (ctL ct_node a0) = true) (hm : mu41 [.d (.sl .node) a0, .d (.i .i64) a1] = N) : ∃ keep rounds, ∀ {R : Type} (k : List Dt → Option R), evFn (f41e N) keep rounds f41c [.«mut», .ro] [false] true [.tmp 4] [3] [.d (.sl .node) a0, .d (.i .i64) a1] k = k [.d (.i .i64) (mkL mk_node a1 a0).2, .d (.sl .node) (mkL mk_node a1 a0).1] := by
  have hm : mmL_node a0 a1 = N := hm
  subst hm
  rw [gmk_iff] at hg
  have hl := ctL_len ct_node_pos a0
  refine ⟨f41k, a0.length + 1, fun {R} k => ?_⟩
  rw [f41_run]
  refine Eq.trans (loop_markM (F := fun m kk i l => f41L0 (mmL_node a0 a1) (a0.length + 1) _ m kk i l) (f := mk_node) (c := ct_node) (good := fun kk l => k [.d (.i .i64) kk, .d (.sl .node) l]) (n := a0.length) (fun x => x ∈ a0) mk_node_ct
    (fun m kk j l x hx hxm hln h0 hB => ?_) (fun m kk l hln => by simp only [f41L0, hln, idxE, cond_false]) a0 (a0.length + 1) a1 [] (fun _ h => h) (by simp) (by omega) hg.1 hg.2) rfl
  obtain ⟨h1, h2, _, ht⟩ := idx (lt_of_get hx) (by omega)
  have hA : ∀ a, atI (t := .node) (l.set j a) j = a := fun a => atI_set (t := .node) (lt_of_get hx) a
  have hj := lt_of_get hx
  have hb : ∀ q, Nat.blt (mmL_node x.kids q) (mmL_node a0 a1) = true := fun q => by
    have := ndL_mem (f := nd_node) hxm
    rw [nd_node_def] at this
    rw [Nat.blt_eq]; simp only [mmL_node]; omega
  rw [ct_node_def] at hB
  simp (disch := omega) only [f41L0, f41v0, f41v1, f41v2, f41v3, f41v4, h1, h2, ht, hA, atI_of (t := .node) hx, List.set_set, List.length_set, wrap_id, gmk_of, okI_of, mk_node_def, mkL_node_ct, mkL_str_ct, hb, Bool.and_self, cond_true]

noncomputable def s41 : Gm.Spec := Gm.Spec.of [.«mut», .ro] [false] true q41
theorem good41 : Gm.Good Try.prog (41, s41) := by
  refine ⟨⟨spec_rec mu41 fun N hr => ?_, _, Try.func41, by kernel_rfl, of_decide_eq_true (by kernel_rfl)⟩, Gm.Spec.of_natl _ _ _ _⟩
  have hl : ∀ x ∈ [(22, s22), (41, s41r N), (47, s47)], Gm.Good Try.prog x := List.forall_mem_cons.2 ⟨good22, List.forall_mem_cons.2 ⟨⟨⟨hr, _, Try.func41, by kernel_rfl, of_decide_eq_true (by kernel_rfl)⟩, Gm.Spec.of_natl _ _ _ _⟩, List.forall_mem_cons.2 ⟨good47, List.forall_mem_nil _⟩⟩⟩
  intro R
  refine spec_ok (E := f41e N) (tab_ok.env hl) (tab.natl hl) Try.func41 (by kernel_rfl : Try.f41.body = some f41c) [3] (by kernel_rfl) ?_
  intro ds outs h
  obtain ⟨h, hm⟩ := qeq_some h
  unfold q41 at h
  split at h
  · simp only [Option.some.injEq, Prod.mk.injEq] at h; obtain ⟨hg, h⟩ := h; cases h; exact f41_spec N _ _ hg hm
  · cases h
/-! ### loop.example/g00465/laws.markNode -/
noncomputable def f14c : Code := (Try.f14.body).getD .skip
def f14k : Nat → Kp := kat [⟨[0, 1, 2], [], [], []⟩, ⟨[0, 1, 2], [], [], []⟩, ⟨[0, 1], [], [], []⟩, ⟨[0, 4], [], [], []⟩]
noncomputable def f14e : Env := tab.env [(22, s22), (41, s41)]
theorem f14_run {R : Type} (n : Nat) (k : List Dt → Option R) (a0 : List ByteArray) (a1 : List NodeT) (a2 : Int) (z0 : Dt) (z1 : Dt) (z2 : Dt) : evFnS f14e f14k n f14c [.skp, .skp, .skp, .«mut», .«mut»] [.ro] [false] [.tmp 4] [3] [z0, z1, z2, .d (.sl .str) a0, .d (.sl .node) a1] [.d (.i .i64) a2] k =
    (cond ((fun (x : List ByteArray) (k : Int) => gmk k (ctL ct_str x)) a0 a2)
    (cond ((fun (x : List NodeT) (k : Int) => gmk k (ctL ct_node x)) a1 (mkL mk_str a2 a0).2)
      (k [.d (.i .i64) (mkL mk_node (mkL mk_str a2 a0).2 a1).2, .d (.sl .str) (mkL mk_str a2 a0).1, .d (.sl .node) (mkL mk_node (mkL mk_str a2 a0).2 a1).1])
      none)
    none) := by kernel_rfl
theorem f14_spec (a0 : List ByteArray) (a1 : List NodeT) (a2 : Int) (z0 : Dt) (z1 : Dt) (z2 : Dt) (hg : gmk a2 (ctL ct_str a0 + ctL ct_node a1) = true) : ∃ keep rounds, ∀ {R : Type} (k : List Dt → Option R), evFnS f14e keep rounds f14c [.skp, .skp, .skp, .«mut», .«mut»] [.ro] [false] [.tmp 4] [3] [z0, z1, z2, .d (.sl .str) a0, .d (.sl .node) a1] [.d (.i .i64) a2] k = k [.d (.i .i64) (mkL mk_node ((mkL mk_str a2 a0).2) a1).2, .d (.sl .str) (mkL mk_str a2 a0).1, .d (.sl .node) (mkL mk_node ((mkL mk_str a2 a0).2) a1).1] := by
  rw [gmk_iff] at hg
  refine ⟨f14k, 0, fun {R} k => ?_⟩
  rw [f14_run]
  simp (disch := omega) only [gmk_of, mkL_node_ct, mkL_str_ct, cond_true]

noncomputable def q14 : List Dt → Option (Bool × List Dt)
  | [_, _, _, .d (.sl .str) a0, .d (.sl .node) a1, .d (.i .i64) a2] => some (((fun (a0 : List ByteArray) (a1 : List NodeT) (a2 : Int) => gmk a2 (ctL ct_str a0 + ctL ct_node a1)) a0 a1 a2), [.d (.i .i64) (mkL mk_node ((mkL mk_str a2 a0).2) a1).2, .d (.sl .str) (mkL mk_str a2 a0).1, .d (.sl .node) (mkL mk_node ((mkL mk_str a2 a0).2) a1).1])
  | _ => none
noncomputable def s14 : Gm.Spec := Gm.Spec.ofS [.skp, .skp, .skp, .«mut», .«mut»] [.ro] [false] q14
theorem good14 : Gm.Good Try.prog (14, s14) := by
  have hl : ∀ x ∈ [(22, s22), (41, s41)], Gm.Good Try.prog x := List.forall_mem_cons.2 ⟨good22, List.forall_mem_cons.2 ⟨good41, List.forall_mem_nil _⟩⟩
  refine ⟨⟨spec_okS (tab_ok.env hl) (tab.natl hl) Try.func14 (by kernel_rfl : Try.f14.body = some f14c) [3] (by kernel_rfl) ?_, _, Try.func14, by kernel_rfl, of_decide_eq_true (by kernel_rfl)⟩, Gm.Spec.ofS_natl _ _ _ _⟩
  intro ds outs h _
  unfold q14 at h
  split at h
  · simp only [Option.some.injEq, Prod.mk.injEq] at h; obtain ⟨hg, h⟩ := h; cases h; exact f14_spec _ _ _ _ _ _ hg
  · cases h
/-! ### loop.example/g00465/laws.heldStringS -/
noncomputable def f42c : Code := (Try.f42.body).getD .skip
def f42k : Nat → Kp := kat [⟨[0, 1], [], [], []⟩, ⟨[0, 1, 5], [], [], []⟩, ⟨[0, 1, 5, 9], [], [], []⟩, ⟨[0, 1, 5], [], [], []⟩, ⟨[0, 1, 5, 18], [], [], []⟩, ⟨[4], [], [], []⟩, ⟨[0, 1, 5], [], [], []⟩, ⟨[4], [], [], []⟩]
noncomputable def f42e : Env := tab.env [(47, s47)]
noncomputable def f42L0 {R : Type} (n : Nat) (x0 : Option R) (x1 : Int → Int → Bool → Option R) (vs0 : List ByteArray) : Nat → Int → Int → Option R
  | 0, _, _ => none
  | m + 1, vs1, vs5 =>
    (cond (decide (vs5 < (vs0.length : Int)))
      (cond ((decide ((0 : Int) ≤ vs5)) && (decide (vs5 < (vs0.length : Int))))
        (cond (okI vs1)
          (cond (!(sEq (atI (t := .str) vs0 (Int.toNat vs5)) (mkT vs1)))
            (x0)
            (f42L0 n x0 x1 vs0 m (IntKind.wrap .i64 (vs1 + (1 : Int))) (IntKind.wrap .i64 (vs5 + (1 : Int)))))
          none)
        none)
      (x1 vs1 vs5 (decide (vs5 < (vs0.length : Int)))))
theorem f42L0_b {R : Type} (n : Nat) (k' : Ex → St → Option R) (vs0 : List ByteArray) (vs1 : Int) (vs5 : Int) : ev f42e f42k n (cAt [1,0,1,0,0] f42c) ⟨[(0, .c (.one (.ro .str vs0))), (1, .c (.one (.v (.int .i64 vs1)))), (5, .c (.one (.v (.int .i64 vs5))))], [], []⟩ k' =
    (cond (decide (vs5 < (vs0.length : Int)))
    (cond ((decide ((0 : Int) ≤ vs5)) && (decide (vs5 < (vs0.length : Int))))
      (cond (okI vs1)
        (cond (!(sEq (atI (t := .str) vs0 (Int.toNat vs5)) (mkT vs1)))
          (k' .ret ⟨[(4, .c (.one (.v (.int .i64 (-1 : Int)))))], [], []⟩)
          (k' .normal ⟨[(0, .c (.one (.ro .str vs0))), (1, .c (.one (.v (.int .i64 (IntKind.wrap .i64 (vs1 + (1 : Int))))))), (5, .c (.one (.v (.int .i64 (IntKind.wrap .i64 (vs5 + (1 : Int)))))))], [], []⟩))
        none)
      none)
    (k' (.exit 0) ⟨[(0, .c (.one (.ro .str vs0))), (1, .c (.one (.v (.int .i64 vs1)))), (5, .c (.one (.v (.int .i64 vs5)))), (9, .c (.one (.v (.bool (decide (vs5 < (vs0.length : Int)))))))], [], []⟩)) := by kernel_rfl
theorem f42L0_eq {R : Type} (n : Nat) (k' : Ex → St → Option R) (vs0 : List ByteArray) : ∀ (m : Nat) (vs1 : Int) (vs5 : Int), iter (fun st k => ev f42e f42k n (cAt [1,0,1,0,0] f42c) st k) m ⟨[(0, .c (.one (.ro .str vs0))), (1, .c (.one (.v (.int .i64 vs1)))), (5, .c (.one (.v (.int .i64 vs5))))], [], []⟩ k' = f42L0 n (k' .ret ⟨[(4, .c (.one (.v (.int .i64 (-1 : Int)))))], [], []⟩) (fun (xvs1 : Int) (xvs5 : Int) (xvs9 : Bool) => k' (.exit 0) ⟨[(0, .c (.one (.ro .str vs0))), (1, .c (.one (.v (.int .i64 xvs1)))), (5, .c (.one (.v (.int .i64 xvs5)))), (9, .c (.one (.v (.bool xvs9))))], [], []⟩) vs0 m vs1 vs5 := by
  intro m; induction m with
  | zero => intros; rfl
  | succ m ih =>
    intro vs1 vs5
    simp only [iter]
    rw [f42L0_b]
    simp only [ih, f42L0]

noncomputable def f42K0 {R : Type} (n : Nat) (k' : Ex → St → Option R) : Ex → St → Option R := (blockK 0 (seqK f42e f42k n (cAt [1,1] f42c) k'))
theorem f42K0_x0 {R : Type} (n : Nat) (k : List Dt → Option R) (a0 : List ByteArray) (a1 : Int)  : f42K0 n (exitK f42e [.ro, .ro] [false] true [.tmp 4] [3] [.d (.sl .str) a0, .d (.i .i64) a1] k) .ret ⟨[(4, .c (.one (.v (.int .i64 (-1 : Int)))))], [], []⟩ =
    (k [.d (.i .i64) (-1 : Int)]) := by kernel_rfl
theorem f42K0_x1 {R : Type} (n : Nat) (k : List Dt → Option R) (a0 : List ByteArray) (a1 : Int) (vs0 : List ByteArray) (xvs1 : Int) (xvs5 : Int) (xvs9 : Bool) : f42K0 n (exitK f42e [.ro, .ro] [false] true [.tmp 4] [3] [.d (.sl .str) a0, .d (.i .i64) a1] k) (.exit 0) ⟨[(0, .c (.one (.ro .str vs0))), (1, .c (.one (.v (.int .i64 xvs1)))), (5, .c (.one (.v (.int .i64 xvs5)))), (9, .c (.one (.v (.bool xvs9))))], [], []⟩ =
    (k [.d (.i .i64) xvs1]) := by kernel_rfl

theorem f42_run {R : Type} (n : Nat) (k : List Dt → Option R) (a0 : List ByteArray) (a1 : Int) : evFn f42e f42k n f42c [.ro, .ro] [false] true [.tmp 4] [3] [.d (.sl .str) a0, .d (.i .i64) a1] k =
    (f42L0 n (k [.d (.i .i64) (-1 : Int)]) (fun (xvs1 : Int) (xvs5 : Int) (xvs9 : Bool) =>
    (k [.d (.i .i64) xvs1])) a0 n a1 (0 : Int)) := by
  refine Eq.trans (b := (iter (fun st k => ev f42e f42k n (cAt [1,0,1,0,0] f42c) st k) n ⟨[(0, .c (.one (.ro .str a0))), (1, .c (.one (.v (.int .i64 a1)))), (5, .c (.one (.v (.int .i64 (0 : Int)))))], [], []⟩ (f42K0 n (exitK f42e [.ro, .ro] [false] true [.tmp 4] [3] [.d (.sl .str) a0, .d (.i .i64) a1] k)))) (by kernel_rfl) ?_
  simp only [f42L0_eq, f42K0_x0, f42K0_x1]
theorem f42_spec (a0 : List ByteArray) (a1 : Int) (hg : gmk a1 (ctL ct_str a0) = true) : ∃ keep rounds, ∀ {R : Type} (k : List Dt → Option R), evFn f42e keep rounds f42c [.ro, .ro] [false] true [.tmp 4] [3] [.d (.sl .str) a0, .d (.i .i64) a1] k = k [.d (.i .i64) (hdL mk_str a1 a0)] := by
  rw [gmk_iff] at hg
  have hl := ctL_len ct_str_pos a0
  refine ⟨f42k, a0.length + 1, fun {R} k => ?_⟩
  rw [f42_run]
  refine Eq.trans (loop_held (xs := a0) (F := fun m kk i => f42L0 (a0.length + 1) _ _ a0 m kk i) (f := mk_str) (c := ct_str) (good := fun kk => k [.d (.i .i64) kk]) (bad := k [.d (.i .i64) (-1 : Int)]) mk_str_ct
    (fun m kk j x hx h0 hB => ?_) (fun m kk => by simp only [f42L0, idxE, cond_false]) a0.length 0 (a0.length + 1) a1 (by omega) (by omega) hg.1 (by rw [List.drop_zero]; exact hg.2)) ?_
  · obtain ⟨h1, h2, _, ht⟩ := idx (lt_of_get hx) (by omega)
    have hj := lt_of_get hx
    simp only [ct_str] at hB
    simp (disch := omega) only [f42L0, h1, h2, ht, atI_of (t := .str) hx, wrap_id, gmk_of, okI_of, mk_str, eqD_str, Bool.cond_not, cond_and, bne, decide_ge0, decide_m1, cond_true, cond_false, Bool.cond_self, Bool.and_self]
  · rw [List.drop_zero]
    show _ = k [.d (.i .i64) (hdL mk_str a1 a0)]
    unfold hdL
    cases eqD a0 (mkL mk_str a1 a0).1 <;> rfl

noncomputable def q42 : List Dt → Option (Bool × List Dt)
  | [.d (.sl .str) a0, .d (.i .i64) a1] => some (((fun (x : List ByteArray) (k : Int) => gmk k (ctL ct_str x)) a0 a1), [.d (.i .i64) (hdL mk_str a1 a0)])
  | _ => none
noncomputable def s42 : Gm.Spec := Gm.Spec.of [.ro, .ro] [false] true q42
theorem good42 : Gm.Good Try.prog (42, s42) := by
  have hl : ∀ x ∈ [(47, s47)], Gm.Good Try.prog x := List.forall_mem_cons.2 ⟨good47, List.forall_mem_nil _⟩
  refine ⟨⟨spec_ok (tab_ok.env hl) (tab.natl hl) Try.func42 (by kernel_rfl : Try.f42.body = some f42c) [3] (by kernel_rfl) ?_, _, Try.func42, by kernel_rfl, of_decide_eq_true (by kernel_rfl)⟩, Gm.Spec.of_natl _ _ _ _⟩
  intro ds outs h
  unfold q42 at h
  split at h
  · simp only [Option.some.injEq, Prod.mk.injEq] at h; obtain ⟨hg, h⟩ := h; cases h; exact f42_spec _ _ hg
  · cases h
noncomputable def q48 : List Dt → Option (Bool × List Dt)
  | [.d (.sl .node) a0, .d (.i .i64) a1] => some (((fun (x : List NodeT) (k : Int) => gmk k (ctL ct_node x)) a0 a1), [.d (.i .i64) (hdL mk_node a1 a0)])
  | _ => none
noncomputable def mu48 : List Dt → Nat
  | [.d (.sl .node) a0, .d (.i .i64) a1] => mmL_node a0 a1
  | _ => 0
noncomputable def s48r (N : Nat) : Gm.Spec := Gm.Spec.of [.ro, .ro] [false] true (qlt mu48 N q48)
/-! ### loop.example/g00465/laws.heldNodeS -/
noncomputable def f48c : Code := (Try.f48.body).getD .skip
def f48k : Nat → Kp := kat [⟨[0, 1], [], [], []⟩, ⟨[0, 1, 5], [], [], []⟩, ⟨[0, 1, 5, 9], [], [], []⟩, ⟨[0, 1, 5], [], [], []⟩, ⟨[0, 1, 5, 18], [], [], []⟩, ⟨[4], [], [], []⟩, ⟨[0, 1, 5], [], [], []⟩, ⟨[0, 1, 5, 27], [], [], []⟩, ⟨[4], [], [], []⟩, ⟨[0, 1, 5], [], [], []⟩, ⟨[0, 1, 5, 37], [], [], []⟩, ⟨[4], [], [], []⟩, ⟨[0, 1, 5], [], [], []⟩, ⟨[0, 1, 5], [], [], []⟩, ⟨[0, 1, 5, 48], [], [], []⟩, ⟨[4], [], [], []⟩, ⟨[0, 1, 5], [], [], []⟩, ⟨[0, 1, 5, 57], [], [], []⟩, ⟨[4], [], [], []⟩, ⟨[4], [], [], []⟩]
noncomputable def f48e (N : Nat) : Env := tab.env [(42, s42), (47, s47), (48, s48r N)]
noncomputable def f48L0 {R : Type} (N : Nat) (n : Nat) (x0 : Option R) (x1 : Int → Int → Bool → Option R) (vs0 : List NodeT) : Nat → Int → Int → Option R
  | 0, _, _ => none
  | m + 1, vs1, vs5 =>
    (cond (decide (vs5 < (vs0.length : Int)))
      (cond ((decide ((0 : Int) ≤ vs5)) && (decide (vs5 < (vs0.length : Int))))
        (cond ((NodeT.kind (atI (t := .node) vs0 (Int.toNat vs5))) != vs1)
          (x0)
          (cond ((decide ((0 : Int) ≤ vs5)) && (decide (vs5 < (vs0.length : Int))))
            (cond ((NodeT.n (atI (t := .node) vs0 (Int.toNat vs5))) != (IntKind.wrap .i64 (vs1 + (1 : Int))))
              (x0)
              (cond ((decide ((0 : Int) ≤ vs5)) && (decide (vs5 < (vs0.length : Int))))
                (cond (okI (IntKind.wrap .i64 ((IntKind.wrap .i64 (vs1 + (1 : Int))) + (1 : Int))))
                  (cond (!(sEq (NodeT.s (atI (t := .node) vs0 (Int.toNat vs5))) (mkT (IntKind.wrap .i64 ((IntKind.wrap .i64 (vs1 + (1 : Int))) + (1 : Int))))))
                    (x0)
                    (cond ((decide ((0 : Int) ≤ vs5)) && (decide (vs5 < (vs0.length : Int))))
                      (cond ((fun (x : List ByteArray) (k : Int) => gmk k (ctL ct_str x)) (NodeT.keys (atI (t := .node) vs0 (Int.toNat vs5))) (IntKind.wrap .i64 ((IntKind.wrap .i64 ((IntKind.wrap .i64 (vs1 + (1 : Int))) + (1 : Int))) + (1 : Int))))
                        (cond (decide ((hdL mk_str (IntKind.wrap .i64 ((IntKind.wrap .i64 ((IntKind.wrap .i64 (vs1 + (1 : Int))) + (1 : Int))) + (1 : Int))) (NodeT.keys (atI (t := .node) vs0 (Int.toNat vs5)))) < (0 : Int)))
                          (x0)
                          (cond ((decide ((0 : Int) ≤ vs5)) && (decide (vs5 < (vs0.length : Int))))
                            (cond (((fun (x : List NodeT) (k : Int) => gmk k (ctL ct_node x)) (NodeT.kids (atI (t := .node) vs0 (Int.toNat vs5))) (hdL mk_str (IntKind.wrap .i64 ((IntKind.wrap .i64 ((IntKind.wrap .i64 (vs1 + (1 : Int))) + (1 : Int))) + (1 : Int))) (NodeT.keys (atI (t := .node) vs0 (Int.toNat vs5))))) && (Nat.blt (mmL_node (NodeT.kids (atI (t := .node) vs0 (Int.toNat vs5))) (hdL mk_str (IntKind.wrap .i64 ((IntKind.wrap .i64 ((IntKind.wrap .i64 (vs1 + (1 : Int))) + (1 : Int))) + (1 : Int))) (NodeT.keys (atI (t := .node) vs0 (Int.toNat vs5))))) N))
                              (cond (decide ((hdL mk_node (hdL mk_str (IntKind.wrap .i64 ((IntKind.wrap .i64 ((IntKind.wrap .i64 (vs1 + (1 : Int))) + (1 : Int))) + (1 : Int))) (NodeT.keys (atI (t := .node) vs0 (Int.toNat vs5)))) (NodeT.kids (atI (t := .node) vs0 (Int.toNat vs5)))) < (0 : Int)))
                                (x0)
                                (f48L0 N n x0 x1 vs0 m (hdL mk_node (hdL mk_str (IntKind.wrap .i64 ((IntKind.wrap .i64 ((IntKind.wrap .i64 (vs1 + (1 : Int))) + (1 : Int))) + (1 : Int))) (NodeT.keys (atI (t := .node) vs0 (Int.toNat vs5)))) (NodeT.kids (atI (t := .node) vs0 (Int.toNat vs5)))) (IntKind.wrap .i64 (vs5 + (1 : Int)))))
                              none)
                            none))
                        none)
                      none))
                  none)
                none))
            none))
        none)
      (x1 vs1 vs5 (decide (vs5 < (vs0.length : Int)))))
theorem f48L0_b {R : Type} (N : Nat) (n : Nat) (k' : Ex → St → Option R) (vs0 : List NodeT) (vs1 : Int) (vs5 : Int) : ev (f48e N) f48k n (cAt [1,0,1,0,0] f48c) ⟨[(0, .c (.one (.ro .node vs0))), (1, .c (.one (.v (.int .i64 vs1)))), (5, .c (.one (.v (.int .i64 vs5))))], [], []⟩ k' =
    (cond (decide (vs5 < (vs0.length : Int)))
    (cond ((decide ((0 : Int) ≤ vs5)) && (decide (vs5 < (vs0.length : Int))))
      (cond ((NodeT.kind (atI (t := .node) vs0 (Int.toNat vs5))) != vs1)
        (k' .ret ⟨[(4, .c (.one (.v (.int .i64 (-1 : Int)))))], [], []⟩)
        (cond ((decide ((0 : Int) ≤ vs5)) && (decide (vs5 < (vs0.length : Int))))
          (cond ((NodeT.n (atI (t := .node) vs0 (Int.toNat vs5))) != (IntKind.wrap .i64 (vs1 + (1 : Int))))
            (k' .ret ⟨[(4, .c (.one (.v (.int .i64 (-1 : Int)))))], [], []⟩)
            (cond ((decide ((0 : Int) ≤ vs5)) && (decide (vs5 < (vs0.length : Int))))
              (cond (okI (IntKind.wrap .i64 ((IntKind.wrap .i64 (vs1 + (1 : Int))) + (1 : Int))))
                (cond (!(sEq (NodeT.s (atI (t := .node) vs0 (Int.toNat vs5))) (mkT (IntKind.wrap .i64 ((IntKind.wrap .i64 (vs1 + (1 : Int))) + (1 : Int))))))
                  (k' .ret ⟨[(4, .c (.one (.v (.int .i64 (-1 : Int)))))], [], []⟩)
                  (cond ((decide ((0 : Int) ≤ vs5)) && (decide (vs5 < (vs0.length : Int))))
                    (cond ((fun (x : List ByteArray) (k : Int) => gmk k (ctL ct_str x)) (NodeT.keys (atI (t := .node) vs0 (Int.toNat vs5))) (IntKind.wrap .i64 ((IntKind.wrap .i64 ((IntKind.wrap .i64 (vs1 + (1 : Int))) + (1 : Int))) + (1 : Int))))
                      (cond (decide ((hdL mk_str (IntKind.wrap .i64 ((IntKind.wrap .i64 ((IntKind.wrap .i64 (vs1 + (1 : Int))) + (1 : Int))) + (1 : Int))) (NodeT.keys (atI (t := .node) vs0 (Int.toNat vs5)))) < (0 : Int)))
                        (k' .ret ⟨[(4, .c (.one (.v (.int .i64 (-1 : Int)))))], [], []⟩)
                        (cond ((decide ((0 : Int) ≤ vs5)) && (decide (vs5 < (vs0.length : Int))))
                          (cond (((fun (x : List NodeT) (k : Int) => gmk k (ctL ct_node x)) (NodeT.kids (atI (t := .node) vs0 (Int.toNat vs5))) (hdL mk_str (IntKind.wrap .i64 ((IntKind.wrap .i64 ((IntKind.wrap .i64 (vs1 + (1 : Int))) + (1 : Int))) + (1 : Int))) (NodeT.keys (atI (t := .node) vs0 (Int.toNat vs5))))) && (Nat.blt (mmL_node (NodeT.kids (atI (t := .node) vs0 (Int.toNat vs5))) (hdL mk_str (IntKind.wrap .i64 ((IntKind.wrap .i64 ((IntKind.wrap .i64 (vs1 + (1 : Int))) + (1 : Int))) + (1 : Int))) (NodeT.keys (atI (t := .node) vs0 (Int.toNat vs5))))) N))
                            (cond (decide ((hdL mk_node (hdL mk_str (IntKind.wrap .i64 ((IntKind.wrap .i64 ((IntKind.wrap .i64 (vs1 + (1 : Int))) + (1 : Int))) + (1 : Int))) (NodeT.keys (atI (t := .node) vs0 (Int.toNat vs5)))) (NodeT.kids (atI (t := .node) vs0 (Int.toNat vs5)))) < (0 : Int)))
                              (k' .ret ⟨[(4, .c (.one (.v (.int .i64 (-1 : Int)))))], [], []⟩)
                              (k' .normal ⟨[(0, .c (.one (.ro .node vs0))), (1, .c (.one (.v (.int .i64 (hdL mk_node (hdL mk_str (IntKind.wrap .i64 ((IntKind.wrap .i64 ((IntKind.wrap .i64 (vs1 + (1 : Int))) + (1 : Int))) + (1 : Int))) (NodeT.keys (atI (t := .node) vs0 (Int.toNat vs5)))) (NodeT.kids (atI (t := .node) vs0 (Int.toNat vs5)))))))), (5, .c (.one (.v (.int .i64 (IntKind.wrap .i64 (vs5 + (1 : Int)))))))], [], []⟩))
                            none)
                          none))
                      none)
                    none))
                none)
              none))
          none))
      none)
    (k' (.exit 0) ⟨[(0, .c (.one (.ro .node vs0))), (1, .c (.one (.v (.int .i64 vs1)))), (5, .c (.one (.v (.int .i64 vs5)))), (9, .c (.one (.v (.bool (decide (vs5 < (vs0.length : Int)))))))], [], []⟩)) := by kernel_rfl
theorem f48L0_eq {R : Type} (N : Nat) (n : Nat) (k' : Ex → St → Option R) (vs0 : List NodeT) : ∀ (m : Nat) (vs1 : Int) (vs5 : Int), iter (fun st k => ev (f48e N) f48k n (cAt [1,0,1,0,0] f48c) st k) m ⟨[(0, .c (.one (.ro .node vs0))), (1, .c (.one (.v (.int .i64 vs1)))), (5, .c (.one (.v (.int .i64 vs5))))], [], []⟩ k' = f48L0 N n (k' .ret ⟨[(4, .c (.one (.v (.int .i64 (-1 : Int)))))], [], []⟩) (fun (xvs1 : Int) (xvs5 : Int) (xvs9 : Bool) => k' (.exit 0) ⟨[(0, .c (.one (.ro .node vs0))), (1, .c (.one (.v (.int .i64 xvs1)))), (5, .c (.one (.v (.int .i64 xvs5)))), (9, .c (.one (.v (.bool xvs9))))], [], []⟩) vs0 m vs1 vs5 := by
  intro m; induction m with
  | zero => intros; rfl
  | succ m ih =>
    intro vs1 vs5
    simp only [iter]
    rw [f48L0_b]
    simp only [ih, f48L0]

noncomputable def f48K0 {R : Type} (N : Nat) (n : Nat) (k' : Ex → St → Option R) : Ex → St → Option R := (blockK 0 (seqK (f48e N) f48k n (cAt [1,1] f48c) k'))
theorem f48K0_x0 {R : Type} (N : Nat) (n : Nat) (k : List Dt → Option R) (a0 : List NodeT) (a1 : Int)  : f48K0 N n (exitK (f48e N) [.ro, .ro] [false] true [.tmp 4] [3] [.d (.sl .node) a0, .d (.i .i64) a1] k) .ret ⟨[(4, .c (.one (.v (.int .i64 (-1 : Int)))))], [], []⟩ =
    (k [.d (.i .i64) (-1 : Int)]) := by kernel_rfl
theorem f48K0_x1 {R : Type} (N : Nat) (n : Nat) (k : List Dt → Option R) (a0 : List NodeT) (a1 : Int) (vs0 : List NodeT) (xvs1 : Int) (xvs5 : Int) (xvs9 : Bool) : f48K0 N n (exitK (f48e N) [.ro, .ro] [false] true [.tmp 4] [3] [.d (.sl .node) a0, .d (.i .i64) a1] k) (.exit 0) ⟨[(0, .c (.one (.ro .node vs0))), (1, .c (.one (.v (.int .i64 xvs1)))), (5, .c (.one (.v (.int .i64 xvs5)))), (9, .c (.one (.v (.bool xvs9))))], [], []⟩ =
    (k [.d (.i .i64) xvs1]) := by kernel_rfl

theorem f48_run {R : Type} (N : Nat) (n : Nat) (k : List Dt → Option R) (a0 : List NodeT) (a1 : Int) : evFn (f48e N) f48k n f48c [.ro, .ro] [false] true [.tmp 4] [3] [.d (.sl .node) a0, .d (.i .i64) a1] k =
    (f48L0 N n (k [.d (.i .i64) (-1 : Int)]) (fun (xvs1 : Int) (xvs5 : Int) (xvs9 : Bool) =>
    (k [.d (.i .i64) xvs1])) a0 n a1 (0 : Int)) := by
  refine Eq.trans (b := (iter (fun st k => ev (f48e N) f48k n (cAt [1,0,1,0,0] f48c) st k) n ⟨[(0, .c (.one (.ro .node a0))), (1, .c (.one (.v (.int .i64 a1)))), (5, .c (.one (.v (.int .i64 (0 : Int)))))], [], []⟩ (f48K0 N n (exitK (f48e N) [.ro, .ro] [false] true [.tmp 4] [3] [.d (.sl .node) a0, .d (.i .i64) a1] k)))) (by kernel_rfl) ?_
  simp only [f48L0_eq, f48K0_x0, f48K0_x1]
theorem f48_spec (N : Nat) (a0 : List NodeT) (a1 : Int) (hg : gmk a1 (ctL ct_node a0) = true) (hm : mu48 [.d (.sl .node) a0, .d (.i .i64) a1] = N) : ∃ keep rounds, ∀ {R : Type} (k : List Dt → Option R), evFn (f48e N) keep rounds f48c [.ro, .ro] [false] true [.tmp 4] [3] [.d (.sl .node) a0, .d (.i .i64) a1] k = k [.d (.i .i64) (hdL mk_node a1 a0)] := by
  have hm : mmL_node a0 a1 = N := hm
  subst hm
  rw [gmk_iff] at hg
  have hl := ctL_len ct_node_pos a0
  refine ⟨f48k, a0.length + 1, fun {R} k => ?_⟩
  rw [f48_run]
  refine Eq.trans (loop_held (xs := a0) (F := fun m kk i => f48L0 (mmL_node a0 a1) (a0.length + 1) _ _ a0 m kk i) (f := mk_node) (c := ct_node) (good := fun kk => k [.d (.i .i64) kk]) (bad := k [.d (.i .i64) (-1 : Int)]) mk_node_ct
    (fun m kk j x hx h0 hB => ?_) (fun m kk => by simp only [f48L0, idxE, cond_false]) a0.length 0 (a0.length + 1) a1 (by omega) (by omega) hg.1 (by rw [List.drop_zero]; exact hg.2)) ?_
  · obtain ⟨h1, h2, _, ht⟩ := idx (lt_of_get hx) (by omega)
    have hj := lt_of_get hx
    have hb : ∀ q, Nat.blt (mmL_node x.kids q) (mmL_node a0 a1) = true := fun q => by
      have := ndL_mem (f := nd_node) (List.mem_of_getElem? hx)
      rw [nd_node_def] at this
      rw [Nat.blt_eq]; simp only [mmL_node]; omega
    rw [ct_node_def] at hB
    rcases hdL_cases mk_str (kk + 1 + 1 + 1) x.keys with ⟨q0, v0⟩ | ⟨q0, v0⟩ <;>
    rcases hdL_cases mk_node ((mkL mk_str (kk + 1 + 1 + 1) x.keys).2) x.kids with ⟨q1, v1⟩ | ⟨q1, v1⟩ <;>
    simp (disch := omega) only [mkL_node_ct, mkL_str_ct] at q0 v0 q1 v1 <;>
    simp (disch := omega) only [f48L0, h1, h2, ht, atI_of (t := .node) hx, wrap_id, gmk_of, okI_of, mk_node_def, mkL_node_ct, mkL_str_ct, eqD_node, hb, Bool.cond_not, cond_and, bne, decide_ge0, decide_m1, cond_true, cond_false, Bool.cond_self, q0, v0, q1, v1, Bool.and_self]
  · rw [List.drop_zero]
    show _ = k [.d (.i .i64) (hdL mk_node a1 a0)]
    unfold hdL
    cases eqD a0 (mkL mk_node a1 a0).1 <;> rfl

noncomputable def s48 : Gm.Spec := Gm.Spec.of [.ro, .ro] [false] true q48
theorem good48 : Gm.Good Try.prog (48, s48) := by
  refine ⟨⟨spec_rec mu48 fun N hr => ?_, _, Try.func48, by kernel_rfl, of_decide_eq_true (by kernel_rfl)⟩, Gm.Spec.of_natl _ _ _ _⟩
  have hl : ∀ x ∈ [(42, s42), (47, s47), (48, s48r N)], Gm.Good Try.prog x := List.forall_mem_cons.2 ⟨good42, List.forall_mem_cons.2 ⟨good47, List.forall_mem_cons.2 ⟨⟨⟨hr, _, Try.func48, by kernel_rfl, of_decide_eq_true (by kernel_rfl)⟩, Gm.Spec.of_natl _ _ _ _⟩, List.forall_mem_nil _⟩⟩⟩
  intro R
  refine spec_ok (E := f48e N) (tab_ok.env hl) (tab.natl hl) Try.func48 (by kernel_rfl : Try.f48.body = some f48c) [3] (by kernel_rfl) ?_
  intro ds outs h
  obtain ⟨h, hm⟩ := qeq_some h
  unfold q48 at h
  split at h
  · simp only [Option.some.injEq, Prod.mk.injEq] at h; obtain ⟨hg, h⟩ := h; cases h; exact f48_spec N _ _ hg hm
  · cases h
/-! ### loop.example/g00465/laws.heldNode -/
noncomputable def f23c : Code := (Try.f23.body).getD .skip
def f23k : Nat → Kp := kat [⟨[1, 2], [], [], []⟩, ⟨[1, 2], [], [], []⟩, ⟨[1, 2, 10], [], [], []⟩, ⟨[4], [], [], []⟩, ⟨[1], [], [], []⟩, ⟨[1, 16], [], [], []⟩, ⟨[4], [], [], []⟩, ⟨[4], [], [], []⟩]
noncomputable def f23e : Env := tab.env [(42, s42), (48, s48)]
theorem f23_run {R : Type} (n : Nat) (k : List Dt → Option R) (a0 : NodeT) (a1 : Int) : evFn f23e f23k n f23c [.ro, .ro] [false] true [.tmp 4] [3] [.d .node a0, .d (.i .i64) a1] k =
    (cond ((fun (x : List ByteArray) (k : Int) => gmk k (ctL ct_str x)) (NodeT.keys a0) a1)
    (cond (decide ((hdL mk_str a1 (NodeT.keys a0)) < (0 : Int)))
      (k [.d (.i .i64) (-1 : Int)])
      (cond ((fun (x : List NodeT) (k : Int) => gmk k (ctL ct_node x)) (NodeT.kids a0) (hdL mk_str a1 (NodeT.keys a0)))
        (cond (decide ((hdL mk_node (hdL mk_str a1 (NodeT.keys a0)) (NodeT.kids a0)) < (0 : Int)))
          (k [.d (.i .i64) (-1 : Int)])
          (k [.d (.i .i64) (hdL mk_node (hdL mk_str a1 (NodeT.keys a0)) (NodeT.kids a0))]))
        none))
    none) := by kernel_rfl
theorem f23_spec (a0 : NodeT) (a1 : Int) (hg : gmk a1 (cts_node a0) = true) : ∃ keep rounds, ∀ {R : Type} (k : List Dt → Option R), evFn f23e keep rounds f23c [.ro, .ro] [false] true [.tmp 4] [3] [.d .node a0, .d (.i .i64) a1] k = k [.d (.i .i64) (hds_node a1 a0)] := by
  rw [gmk_iff] at hg
  simp only [cts_node] at hg
  refine ⟨f23k, 0, fun {R} k => ?_⟩
  rw [f23_run]
  show _ = k [.d (.i .i64) (hds_node a1 a0)]
  unfold hds_node
  rcases hdL_cases mk_str (a1) a0.keys with ⟨q0, v0⟩ | ⟨q0, v0⟩ <;>
  rcases hdL_cases mk_node ((mkL mk_str (a1) a0.keys).2) a0.kids with ⟨q1, v1⟩ | ⟨q1, v1⟩ <;>
  (try simp (disch := omega) only [mkL_node_ct, mkL_str_ct] at q0 v0 q1 v1) <;>
  simp (disch := omega) only [gmk_of, mks_node, mkL_node_ct, mkL_str_ct, eqD_node, Bool.cond_not, cond_and, bne, decide_ge0, decide_m1, cond_true, cond_false, Bool.cond_self, q0, v0, q1, v1, beq_self_eq_true, sEq_self, eqD_self, Bool.and_self, Bool.true_and, Bool.and_true, Bool.and_false, Bool.false_and]

noncomputable def q23 : List Dt → Option (Bool × List Dt)
  | [.d .node a0, .d (.i .i64) a1] => some (((fun (x : NodeT) (k : Int) => gmk k (cts_node x)) a0 a1), [.d (.i .i64) (hds_node a1 a0)])
  | _ => none
noncomputable def s23 : Gm.Spec := Gm.Spec.of [.ro, .ro] [false] true q23
theorem good23 : Gm.Good Try.prog (23, s23) := by
  have hl : ∀ x ∈ [(42, s42), (48, s48)], Gm.Good Try.prog x := List.forall_mem_cons.2 ⟨good42, List.forall_mem_cons.2 ⟨good48, List.forall_mem_nil _⟩⟩
  refine ⟨⟨spec_ok (tab_ok.env hl) (tab.natl hl) Try.func23 (by kernel_rfl : Try.f23.body = some f23c) [3] (by kernel_rfl) ?_, _, Try.func23, by kernel_rfl, of_decide_eq_true (by kernel_rfl)⟩, Gm.Spec.of_natl _ _ _ _⟩
  intro ds outs h
  unfold q23 at h
  split at h
  · simp only [Option.some.injEq, Prod.mk.injEq] at h; obtain ⟨hg, h⟩ := h; cases h; exact f23_spec _ _ hg
  · cases h
end Go.Proofs.Ytinbejnakemfjaa

/- x -/
namespace Go.Proofs.Ytinbejnakemfjaa
open Go Go.Gm
/-! ### loop.example/g00465/laws.FnExactPutPtr -/
noncomputable def f6c : Code := (Try.f6.body).getD .skip
def f6k : Nat → Kp := kat [⟨[1, 3, 5], [], [], []⟩, ⟨[1, 3, 5, 7], [], [], []⟩, ⟨[1, 3, 5, 7], [], [], []⟩, ⟨[1, 3, 5, 7, 24], [], [], []⟩, ⟨[6], [], [], []⟩, ⟨[1, 3, 5, 7], [], [], []⟩, ⟨[1, 3, 5, 7, 29], [], [], []⟩, ⟨[6], [], [], []⟩, ⟨[1, 3, 5, 7], [], [], []⟩, ⟨[1, 3, 5, 34], [], [], []⟩, ⟨[6], [], [], []⟩, ⟨[1, 3, 5, 8, 9], [], [], []⟩, ⟨[1, 3, 5, 8, 9, 10], [], [], []⟩, ⟨[1, 3, 5, 8, 9, 10, 11], [], [], []⟩, ⟨[1, 3, 5, 8, 9, 10, 11, 12], [], [], []⟩, ⟨[1, 3, 5, 8, 9, 10, 11, 12, 13, 14], [], [], []⟩, ⟨[1, 3, 5, 8, 9, 10, 11, 12, 13, 14, 66], [], [], []⟩, ⟨[6], [], [], []⟩, ⟨[1, 3, 5, 8, 9, 10, 11, 12, 13, 14, 71], [], [], []⟩, ⟨[6], [], [], []⟩, ⟨[1, 3, 5, 8, 9, 10, 11, 12, 13, 14, 76], [], [], []⟩, ⟨[6], [], [], []⟩, ⟨[1, 3, 5, 8, 9, 10, 11, 12, 13, 14, 81], [], [], []⟩, ⟨[6], [], [], []⟩, ⟨[1, 3, 5, 8, 9, 10, 11, 12, 13, 14, 15], [], [], []⟩, ⟨[1, 3, 5, 8, 9, 11, 12, 13, 14, 15], [], [], []⟩, ⟨[1, 3, 5, 8, 9, 12, 13, 14, 15], [], [], []⟩, ⟨[1, 3, 5, 8, 9, 13, 14, 15], [], [], []⟩, ⟨[1, 3, 5, 8, 9, 13, 103], [], [], []⟩, ⟨[6], [], [], []⟩, ⟨[1, 3, 5, 8, 9, 13, 16], [], [], []⟩, ⟨[1, 3, 5, 8, 9, 13, 16], [], [], []⟩, ⟨[1, 3, 5, 8, 9, 13, 16, 17], [], [], []⟩, ⟨[1, 3, 5, 8, 9, 13, 16, 17], [], [], []⟩, ⟨[1, 3, 5, 8, 9, 13, 16, 17, 111], [], [], []⟩, ⟨[6], [], [], []⟩, ⟨[1, 3, 5, 8, 9, 13, 16, 114], [], [], []⟩, ⟨[6], [], [], []⟩, ⟨[8, 9, 13, 16, 18, 19], [], [], []⟩, ⟨[13, 16, 133], [], [], []⟩, ⟨[6], [], [], []⟩, ⟨[13, 16, 17], [], [], []⟩, ⟨[16, 17], [], [], []⟩, ⟨[16, 17, 138], [], [], []⟩, ⟨[6], [], [], []⟩, ⟨[141], [], [], []⟩, ⟨[6], [], [], []⟩, ⟨[6], [], [], []⟩]
noncomputable def f6e : Env := tab.env [(8, s8), (10, s10), (13, s13), (14, s14), (17, s17), (19, s19), (21, s21), (22, s22), (23, s23), (26, s26), (27, s27)]
noncomputable def f6v0 (a0 : NodeT) (a1 : List ByteArray) (a2 : NodeT) : List NodeT :=
  (mkL mk_node ((mkL mk_str ((mkL mk_str (mkL mk_node ((mkL mk_str (1 : Int) (NodeT.keys a0)).2) (NodeT.kids a0)).2 a1).2) (NodeT.keys a2)).2) (NodeT.kids a2)).1
theorem f6_run {R : Type} (n : Nat) (k : List Dt → Option R) (a0 : NodeT) (a1 : List ByteArray) (a2 : NodeT) : evFn f6e f6k n f6c [.ro, .ro, .ro] [false] true [.tmp 6] [4] [.d .node a0, .d (.sl .str) a1, .d .node a2] k =
    (cond (gz_node (eN a0) (1048576 : Int))
    (cond (decide ((z_node (eN a0) (1048576 : Int)) < (0 : Int)))
      (k [.d .bool true])
      (cond (gzL_str a1 (z_node (eN a0) (1048576 : Int)))
        (cond (decide ((zL_str a1 (z_node (eN a0) (1048576 : Int))) < (0 : Int)))
          (k [.d .bool true])
          (cond (gz_node (eN a2) (zL_str a1 (z_node (eN a0) (1048576 : Int))))
            (cond (decide ((z_node (eN a2) (zL_str a1 (z_node (eN a0) (1048576 : Int)))) < (0 : Int)))
              (k [.d .bool true])
              (cond (sm_node (eN a0))
                (cond (smL smStr a1)
                  (cond (sm_node (eN a2))
                    (cond (gP (eN a0) a1 (eN a2))
                      (cond (sm_node (eN a0))
                        (cond (smL smStr a1)
                          (cond (sm_node (eN a2))
                            (cond (gP (eN a0) a1 (eN a2))
                              (cond (sm2 sm_node (eN ((putPtr (eN a0) a1 (eN a2)).1)) (eN ((putPtr (eN a0) a1 (eN a2)).1)))
                                (cond (!(eqD (eN ((putPtr (eN a0) a1 (eN a2)).1)) (eN ((putPtr (eN a0) a1 (eN a2)).1))))
                                  (k [.d .bool false])
                                  (cond (!(((putPtr (eN a0) a1 (eN a2)).2) == ((putPtr (eN a0) a1 (eN a2)).2)))
                                    (k [.d .bool false])
                                    (cond (sm_node (eN a0))
                                      (cond (sm2 sm_node (eN a0) (eN a0))
                                        (cond (!(eqD (eN a0) (eN a0)))
                                          (k [.d .bool false])
                                          (cond (smL smStr a1)
                                            (cond (sm2 (smL smStr) a1 a1)
                                              (cond (!(eqD a1 a1))
                                                (k [.d .bool false])
                                                (cond (sm_node (eN a2))
                                                  (cond (sm2 sm_node (eN a2) (eN a2))
                                                    (cond (!(eqD (eN a2) (eN a2)))
                                                      (k [.d .bool false])
                                                      (cond ((fun (a0 : List ByteArray) (a1 : List NodeT) (a2 : Int) => gmk a2 (ctL ct_str a0 + ctL ct_node a1)) (NodeT.keys a0) (NodeT.kids a0) (1 : Int))
                                                        (cond ((fun (x : List ByteArray) (k : Int) => gmk k (ctL ct_str x)) a1 (mkL mk_node ((mkL mk_str (1 : Int) (NodeT.keys a0)).2) (NodeT.kids a0)).2)
                                                          (cond ((fun (a0 : List ByteArray) (a1 : List NodeT) (a2 : Int) => gmk a2 (ctL ct_str a0 + ctL ct_node a1)) (NodeT.keys a2) (NodeT.kids a2) (mkL mk_str (mkL mk_node ((mkL mk_str (1 : Int) (NodeT.keys a0)).2) (NodeT.kids a0)).2 a1).2)
                                                            (cond (decide ((mkL mk_node ((mkL mk_str ((mkL mk_str (mkL mk_node ((mkL mk_str (1 : Int) (NodeT.keys a0)).2) (NodeT.kids a0)).2 a1).2) (NodeT.keys a2)).2) (NodeT.kids a2)).2 < (0 : Int)))
                                                              (k [.d .bool false])
                                                              (cond (sm2 sm_node (eN ((putPtr (eN a0) a1 (eN a2)).1)) (eN ((putPtr (eN a0) a1 (eN a2)).1)))
                                                                (cond (!(eqD (eN ((putPtr (eN a0) a1 (eN a2)).1)) (eN ((putPtr (eN a0) a1 (eN a2)).1))))
                                                                  (k [.d .bool false])
                                                                  (cond (!(((putPtr (eN a0) a1 (eN a2)).2) == ((putPtr (eN a0) a1 (eN a2)).2)))
                                                                    (k [.d .bool false])
                                                                    (cond ((fun (a0 : List ByteArray) (a1 : List NodeT) (a2 : Int) => gmk a2 (ctL ct_str a0 + ctL ct_node a1)) (NodeT.keys ((putPtr (eN a0) a1 (eN a2)).1)) (NodeT.kids ((putPtr (eN a0) a1 (eN a2)).1)) (1 : Int))
                                                                      (cond ((fun (x : NodeT) (k : Int) => gmk k (cts_node x)) (⟨(NodeT.kind ((putPtr (eN a0) a1 (eN a2)).1)), (NodeT.n ((putPtr (eN a0) a1 (eN a2)).1)), (NodeT.s ((putPtr (eN a0) a1 (eN a2)).1)), (mkL mk_str (1 : Int) (NodeT.keys ((putPtr (eN a0) a1 (eN a2)).1))).1, (mkL mk_node ((mkL mk_str (1 : Int) (NodeT.keys ((putPtr (eN a0) a1 (eN a2)).1))).2) (NodeT.kids ((putPtr (eN a0) a1 (eN a2)).1))).1⟩ : NodeT) (1 : Int))
                                                                        (cond (decide ((hds_node (1 : Int) (⟨(NodeT.kind ((putPtr (eN a0) a1 (eN a2)).1)), (NodeT.n ((putPtr (eN a0) a1 (eN a2)).1)), (NodeT.s ((putPtr (eN a0) a1 (eN a2)).1)), (mkL mk_str (1 : Int) (NodeT.keys ((putPtr (eN a0) a1 (eN a2)).1))).1, (mkL mk_node ((mkL mk_str (1 : Int) (NodeT.keys ((putPtr (eN a0) a1 (eN a2)).1))).2) (NodeT.kids ((putPtr (eN a0) a1 (eN a2)).1))).1⟩ : NodeT)) < (0 : Int)))
                                                                          (k [.d .bool false])
                                                                          (cond ((hds_node (1 : Int) (⟨(NodeT.kind ((putPtr (eN a0) a1 (eN a2)).1)), (NodeT.n ((putPtr (eN a0) a1 (eN a2)).1)), (NodeT.s ((putPtr (eN a0) a1 (eN a2)).1)), (mkL mk_str (1 : Int) (NodeT.keys ((putPtr (eN a0) a1 (eN a2)).1))).1, (mkL mk_node ((mkL mk_str (1 : Int) (NodeT.keys ((putPtr (eN a0) a1 (eN a2)).1))).2) (NodeT.kids ((putPtr (eN a0) a1 (eN a2)).1))).1⟩ : NodeT)) != (mkL mk_node ((mkL mk_str (1 : Int) (NodeT.keys ((putPtr (eN a0) a1 (eN a2)).1))).2) (NodeT.kids ((putPtr (eN a0) a1 (eN a2)).1))).2)
                                                                            (k [.d .bool false])
                                                                            (cond (sm_node (eN a0))
                                                                              (cond (smL smStr a1)
                                                                                (cond (sm_node (eN a2))
                                                                                  (cond (gP (eN a0) a1 (eN a2))
                                                                                    (cond (sm2 sm_node (eN ((putPtr (eN a0) a1 (eN a2)).1)) (eN ((putPtr (eN a0) a1 (eN a2)).1)))
                                                                                      (cond (!(eqD (eN ((putPtr (eN a0) a1 (eN a2)).1)) (eN ((putPtr (eN a0) a1 (eN a2)).1))))
                                                                                        (k [.d .bool false])
                                                                                        (cond (!(((putPtr (eN a0) a1 (eN a2)).2) == ((putPtr (eN a0) a1 (eN a2)).2)))
                                                                                          (k [.d .bool false])
                                                                                          (cond ((fun (x : NodeT) (k : Int) => gmk k (cts_node x)) (⟨(NodeT.kind ((putPtr (eN a0) a1 (eN a2)).1)), (NodeT.n ((putPtr (eN a0) a1 (eN a2)).1)), (NodeT.s ((putPtr (eN a0) a1 (eN a2)).1)), (mkL mk_str (1 : Int) (NodeT.keys ((putPtr (eN a0) a1 (eN a2)).1))).1, (mkL mk_node ((mkL mk_str (1 : Int) (NodeT.keys ((putPtr (eN a0) a1 (eN a2)).1))).2) (NodeT.kids ((putPtr (eN a0) a1 (eN a2)).1))).1⟩ : NodeT) (1 : Int))
                                                                                            (cond (decide ((hds_node (1 : Int) (⟨(NodeT.kind ((putPtr (eN a0) a1 (eN a2)).1)), (NodeT.n ((putPtr (eN a0) a1 (eN a2)).1)), (NodeT.s ((putPtr (eN a0) a1 (eN a2)).1)), (mkL mk_str (1 : Int) (NodeT.keys ((putPtr (eN a0) a1 (eN a2)).1))).1, (mkL mk_node ((mkL mk_str (1 : Int) (NodeT.keys ((putPtr (eN a0) a1 (eN a2)).1))).2) (NodeT.kids ((putPtr (eN a0) a1 (eN a2)).1))).1⟩ : NodeT)) < (0 : Int)))
                                                                                              (k [.d .bool false])
                                                                                              (cond ((hds_node (1 : Int) (⟨(NodeT.kind ((putPtr (eN a0) a1 (eN a2)).1)), (NodeT.n ((putPtr (eN a0) a1 (eN a2)).1)), (NodeT.s ((putPtr (eN a0) a1 (eN a2)).1)), (mkL mk_str (1 : Int) (NodeT.keys ((putPtr (eN a0) a1 (eN a2)).1))).1, (mkL mk_node ((mkL mk_str (1 : Int) (NodeT.keys ((putPtr (eN a0) a1 (eN a2)).1))).2) (NodeT.kids ((putPtr (eN a0) a1 (eN a2)).1))).1⟩ : NodeT)) != (mkL mk_node ((mkL mk_str (1 : Int) (NodeT.keys ((putPtr (eN a0) a1 (eN a2)).1))).2) (NodeT.kids ((putPtr (eN a0) a1 (eN a2)).1))).2)
                                                                                                (k [.d .bool false])
                                                                                                (k [.d .bool true])))
                                                                                            none)))
                                                                                      none)
                                                                                    none)
                                                                                  none)
                                                                                none)
                                                                              none)))
                                                                        none)
                                                                      none)))
                                                                none))
                                                            none)
                                                          none)
                                                        none))
                                                    none)
                                                  none))
                                              none)
                                            none))
                                        none)
                                      none)))
                                none)
                              none)
                            none)
                          none)
                        none)
                      none)
                    none)
                  none)
                none))
            none))
        none))
    none) := by kernel_rfl
theorem f6_spec (a0 : NodeT) (a1 : List ByteArray) (a2 : NodeT) (hg : (ok_node a0 && okL okStr a1 && ok_node a2) = true) : ∃ keep rounds, ∀ {R : Type} (k : List Dt → Option R), evFn f6e keep rounds f6c [.ro, .ro, .ro] [false] true [.tmp 6] [4] [.d .node a0, .d (.sl .str) a1, .d .node a2] k = k [.d .bool ((fun (_ : NodeT) (_ : List ByteArray) (_ : NodeT) => true) a0 a1 a2)] := by
  simp only [Bool.and_eq_true] at hg
  obtain ⟨⟨hg0, hg1⟩, hg2⟩ := hg
  refine ⟨f6k, 0, fun {R} k => ?_⟩
  rw [f6_run]
  have g0 : gz_node a0 (1048576 : Int) = true := by simp only [gz_node, Bool.and_eq_true, okN_iff]; exact ⟨hg0, by omega, by omega⟩
  have e0 : z_node a0 (1048576 : Int) = szI (szN_node a0) (1048576 : Int) := rfl
  by_cases c0 : szI (szN_node a0) (1048576 : Int) < 0
  · simp only [eta_node, eN_eq, eta_rule, eR_eq, g0, e0, c0, decide_true, decide_false, cond_true, cond_false]
  have b0 : szI (szN_node a0) (1048576 : Int) = (1048576 : Int) - ((szN_node a0) : Nat) := by
    by_cases h : (1048576 : Int) - ((szN_node a0) : Nat) < 0
    · rw [szI_neg h] at c0; omega
    · exact szI_pos h
  have s0 : sm_node a0 = true := sm_node_of hg0 (by omega)
  have n0 : 0 ≤ (szI (szN_node a0) (1048576 : Int)) ∧ (szI (szN_node a0) (1048576 : Int)) ≤ 1048576 := by omega
  have p0 := cts_node_sz a0
  simp only [cts_node] at p0
  have g1 : gzL_str a1 (szI (szN_node a0) (1048576 : Int)) = true := by simp only [gzL_str, Bool.and_eq_true, okN_iff]; exact ⟨hg1, by omega, by omega⟩
  have e1 : zL_str a1 (szI (szN_node a0) (1048576 : Int)) = szI (szL ByteArray.size a1) (szI (szN_node a0) (1048576 : Int)) := rfl
  by_cases c1 : szI (szL ByteArray.size a1) (szI (szN_node a0) (1048576 : Int)) < 0
  · simp only [eta_node, eN_eq, eta_rule, eR_eq, g0, e0, c0, g1, e1, c1, decide_true, decide_false, cond_true, cond_false]
  have b1 : szI (szL ByteArray.size a1) (szI (szN_node a0) (1048576 : Int)) = (szI (szN_node a0) (1048576 : Int)) - ((szL ByteArray.size a1) : Nat) := by
    by_cases h : (szI (szN_node a0) (1048576 : Int)) - ((szL ByteArray.size a1) : Nat) < 0
    · rw [szI_neg h] at c1; omega
    · exact szI_pos h
  have s1 : smL smStr a1 = true := smL_of hg1 (show szL ByteArray.size a1 ≤ 1048576 by omega) (fun x hx h => smStr_of h)
  have n1 : 0 ≤ (szI (szL ByteArray.size a1) (szI (szN_node a0) (1048576 : Int))) ∧ (szI (szL ByteArray.size a1) (szI (szN_node a0) (1048576 : Int))) ≤ 1048576 := by omega
  have p1 := ctL_sm ct_str_sm s1
  have g2 : gz_node a2 (szI (szL ByteArray.size a1) (szI (szN_node a0) (1048576 : Int))) = true := by simp only [gz_node, Bool.and_eq_true, okN_iff]; exact ⟨hg2, by omega, by omega⟩
  have e2 : z_node a2 (szI (szL ByteArray.size a1) (szI (szN_node a0) (1048576 : Int))) = szI (szN_node a2) (szI (szL ByteArray.size a1) (szI (szN_node a0) (1048576 : Int))) := rfl
  by_cases c2 : szI (szN_node a2) (szI (szL ByteArray.size a1) (szI (szN_node a0) (1048576 : Int))) < 0
  · simp only [eta_node, eN_eq, eta_rule, eR_eq, g0, e0, c0, g1, e1, c1, g2, e2, c2, decide_true, decide_false, cond_true, cond_false]
  have b2 : szI (szN_node a2) (szI (szL ByteArray.size a1) (szI (szN_node a0) (1048576 : Int))) = (szI (szL ByteArray.size a1) (szI (szN_node a0) (1048576 : Int))) - ((szN_node a2) : Nat) := by
    by_cases h : (szI (szL ByteArray.size a1) (szI (szN_node a0) (1048576 : Int))) - ((szN_node a2) : Nat) < 0
    · rw [szI_neg h] at c2; omega
    · exact szI_pos h
  have s2 : sm_node a2 = true := sm_node_of hg2 (by omega)
  have n2 : 0 ≤ (szI (szN_node a2) (szI (szL ByteArray.size a1) (szI (szN_node a0) (1048576 : Int)))) ∧ (szI (szN_node a2) (szI (szL ByteArray.size a1) (szI (szN_node a0) (1048576 : Int)))) ≤ 1048576 := by omega
  have p2 := cts_node_sz a2
  simp only [cts_node] at p2
  have sA0 : sm_node ((putPtr a0 a1 a2).1) = true := (putPtr_ok s0 s1 s2 (by omega)).1
  have zA0 : szN_node ((putPtr a0 a1 a2).1) ≤ 8388608 := Nat.le_trans (putPtr_ok s0 s1 s2 (by omega)).2 (by omega)
  have pA0 := cts_node_sz ((putPtr a0 a1 a2).1)
  simp only [cts_node] at pA0
  have hgp : gP a0 a1 a2 = true := by simp only [gP, s0, s1, s2, Bool.and_self]
  simp only [f6v0, cts_node_mk, hds_node_mk]
  simp (disch := omega) only [g0, e0, c0, g1, e1, c1, g2, e2, c2, s0, s1, s2, sA0, sm2, eta_node, eN_eq, eta_rule, eR_eq, gmk_of, decide_ge0, decide_false, cond_true, cond_false, Bool.and_self, bne_self_eq_false, beq_self_eq_true, sEq_self, eqD_self, Bool.not_true, mkL_node_ct, mkL_str_ct, cts_node, hgp]

noncomputable def q6 : List Dt → Option (Bool × List Dt)
  | [.d .node a0, .d (.sl .str) a1, .d .node a2] => some (((fun (x0 : NodeT) (x1 : List ByteArray) (x2 : NodeT) => ok_node x0 && okL okStr x1 && ok_node x2) a0 a1 a2), [.d .bool ((fun (_ : NodeT) (_ : List ByteArray) (_ : NodeT) => true) a0 a1 a2)])
  | _ => none
noncomputable def s6 : Gm.Spec := Gm.Spec.of [.ro, .ro, .ro] [false] true q6
theorem good6 : Gm.Good Try.prog (6, s6) := by
  have hl : ∀ x ∈ [(8, s8), (10, s10), (13, s13), (14, s14), (17, s17), (19, s19), (21, s21), (22, s22), (23, s23), (26, s26), (27, s27)], Gm.Good Try.prog x := List.forall_mem_cons.2 ⟨good8, List.forall_mem_cons.2 ⟨good10, List.forall_mem_cons.2 ⟨good13, List.forall_mem_cons.2 ⟨good14, List.forall_mem_cons.2 ⟨good17, List.forall_mem_cons.2 ⟨good19, List.forall_mem_cons.2 ⟨good21, List.forall_mem_cons.2 ⟨good22, List.forall_mem_cons.2 ⟨good23, List.forall_mem_cons.2 ⟨good26, List.forall_mem_cons.2 ⟨good27, List.forall_mem_nil _⟩⟩⟩⟩⟩⟩⟩⟩⟩⟩⟩
  refine ⟨⟨spec_ok (tab_ok.env hl) (tab.natl hl) Try.func6 (by kernel_rfl : Try.f6.body = some f6c) [4] (by kernel_rfl) ?_, _, Try.func6, by kernel_rfl, of_decide_eq_true (by kernel_rfl)⟩, Gm.Spec.of_natl _ _ _ _⟩
  intro ds outs h
  unfold q6 at h
  split at h
  · simp only [Option.some.injEq, Prod.mk.injEq] at h; obtain ⟨hg, h⟩ := h; cases h; exact f6_spec _ _ _ hg
  · cases h
end Go.Proofs.Ytinbejnakemfjaa

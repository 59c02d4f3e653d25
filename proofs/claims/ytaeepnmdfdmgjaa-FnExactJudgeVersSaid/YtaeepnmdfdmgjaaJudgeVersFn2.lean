/- What the functions compute, part 2. No conditions. -/
import Derived.Test.YtaeepnmdfdmgjaaJudgeVersFn1
/- x -/
namespace Go.Proofs.Ytaeepnmdfdmgjaa
open Go Go.Gm
/-! ### loop.example/g00465/spec.l18Log -/
noncomputable def f32c : Code := (Try.f32.body).getD .skip
def f32k : Nat → Kp := kat [⟨[1], [], [], []⟩, ⟨[1, 3], [], [], []⟩, ⟨[1, 3, 9], [], [], []⟩, ⟨[1, 3], [], [], []⟩, ⟨[1, 3, 4], [], [], []⟩, ⟨[1, 3, 50], [], [], []⟩, ⟨[2], [], [], []⟩, ⟨[2], [], [], []⟩]
noncomputable def f32e : Env := tab.env [(16, s16), (48, s48)]
noncomputable def f32L0 {R : Type} (n : Nat) (x0 : Option R) (x1 : Int → Bool → Option R) (vb1_0 : List ItemT) (vb1_1 : Int) (vb1_2 : List ScaleT) (vb1_3 : Int) (vb1_4 : List ToldT) : Nat → Int → Option R
  | 0, _ => none
  | m + 1, vs3 =>
    (cond (decide (vs3 < (vb1_4.length : Int)))
      (cond ((decide ((0 : Int) ≤ vs3)) && (decide (vs3 < (vb1_4.length : Int))))
        (cond (!(inR (ToldT.time (atI (t := .told) vb1_4 (Int.toNat vs3))) (0 : Int) vb1_3))
          (x0)
          (cond (okStr (ToldT.name (atI (t := .told) vb1_4 (Int.toNat vs3))))
            (cond (!(nameOk (ToldT.name (atI (t := .told) vb1_4 (Int.toNat vs3)))))
              (x0)
              (cond (!(inR (ToldT.n (atI (t := .told) vb1_4 (Int.toNat vs3))) (0 : Int) (1000 : Int)))
                (x0)
                (cond (decide (vs3 > (0 : Int)))
                  (cond ((decide ((0 : Int) ≤ (IntKind.wrap .i64 (vs3 - (1 : Int))))) && (decide ((IntKind.wrap .i64 (vs3 - (1 : Int))) < (vb1_4.length : Int))))
                    (cond (decide ((ToldT.time (atI (t := .told) vb1_4 (Int.toNat (IntKind.wrap .i64 (vs3 - (1 : Int)))))) > (ToldT.time (atI (t := .told) vb1_4 (Int.toNat vs3)))))
                      (x0)
                      (f32L0 n x0 x1 vb1_0 vb1_1 vb1_2 vb1_3 vb1_4 m (IntKind.wrap .i64 (vs3 + (1 : Int)))))
                    none)
                  (f32L0 n x0 x1 vb1_0 vb1_1 vb1_2 vb1_3 vb1_4 m (IntKind.wrap .i64 (vs3 + (1 : Int)))))))
            none))
        none)
      (x1 vs3 (decide (vs3 < (vb1_4.length : Int)))))
theorem f32L0_b {R : Type} (n : Nat) (k' : Ex → St → Option R) (vs3 : Int) (vb1_0 : List ItemT) (vb1_1 : Int) (vb1_2 : List ScaleT) (vb1_3 : Int) (vb1_4 : List ToldT) : ev f32e f32k n (cAt [1,0,1,0,0] f32c) ⟨[(1, .c (.one (.pt 1 0))), (3, .c (.one (.v (.int .i64 vs3))))], [(1, ⟨.world, [.ro .item vb1_0, .v (.int .i64 vb1_1), .ro .scale vb1_2, .v (.int .i64 vb1_3), .ro .told vb1_4]⟩)], []⟩ k' =
    (cond (decide (vs3 < (vb1_4.length : Int)))
    (cond ((decide ((0 : Int) ≤ vs3)) && (decide (vs3 < (vb1_4.length : Int))))
      (cond (!(inR (ToldT.time (atI (t := .told) vb1_4 (Int.toNat vs3))) (0 : Int) vb1_3))
        (k' .ret ⟨[(2, .c (.one (.v (.bool false))))], [], []⟩)
        (cond (okStr (ToldT.name (atI (t := .told) vb1_4 (Int.toNat vs3))))
          (cond (!(nameOk (ToldT.name (atI (t := .told) vb1_4 (Int.toNat vs3)))))
            (k' .ret ⟨[(2, .c (.one (.v (.bool false))))], [], []⟩)
            (cond (!(inR (ToldT.n (atI (t := .told) vb1_4 (Int.toNat vs3))) (0 : Int) (1000 : Int)))
              (k' .ret ⟨[(2, .c (.one (.v (.bool false))))], [], []⟩)
              (cond (decide (vs3 > (0 : Int)))
                (cond ((decide ((0 : Int) ≤ (IntKind.wrap .i64 (vs3 - (1 : Int))))) && (decide ((IntKind.wrap .i64 (vs3 - (1 : Int))) < (vb1_4.length : Int))))
                  (cond (decide ((ToldT.time (atI (t := .told) vb1_4 (Int.toNat (IntKind.wrap .i64 (vs3 - (1 : Int)))))) > (ToldT.time (atI (t := .told) vb1_4 (Int.toNat vs3)))))
                    (k' .ret ⟨[(2, .c (.one (.v (.bool false))))], [], []⟩)
                    (k' .normal ⟨[(1, .c (.one (.pt 1 0))), (3, .c (.one (.v (.int .i64 (IntKind.wrap .i64 (vs3 + (1 : Int)))))))], [(1, ⟨.world, [.ro .item vb1_0, .v (.int .i64 vb1_1), .ro .scale vb1_2, .v (.int .i64 vb1_3), .ro .told vb1_4]⟩)], []⟩))
                  none)
                (k' .normal ⟨[(1, .c (.one (.pt 1 0))), (3, .c (.one (.v (.int .i64 (IntKind.wrap .i64 (vs3 + (1 : Int)))))))], [(1, ⟨.world, [.ro .item vb1_0, .v (.int .i64 vb1_1), .ro .scale vb1_2, .v (.int .i64 vb1_3), .ro .told vb1_4]⟩)], []⟩))))
          none))
      none)
    (k' (.exit 0) ⟨[(1, .c (.one (.pt 1 0))), (3, .c (.one (.v (.int .i64 vs3)))), (9, .c (.one (.v (.bool (decide (vs3 < (vb1_4.length : Int)))))))], [(1, ⟨.world, [.ro .item vb1_0, .v (.int .i64 vb1_1), .ro .scale vb1_2, .v (.int .i64 vb1_3), .ro .told vb1_4]⟩)], []⟩)) := by kernel_rfl
theorem f32L0_eq {R : Type} (n : Nat) (k' : Ex → St → Option R) (vb1_0 : List ItemT) (vb1_1 : Int) (vb1_2 : List ScaleT) (vb1_3 : Int) (vb1_4 : List ToldT) : ∀ (m : Nat) (vs3 : Int), iter (fun st k => ev f32e f32k n (cAt [1,0,1,0,0] f32c) st k) m ⟨[(1, .c (.one (.pt 1 0))), (3, .c (.one (.v (.int .i64 vs3))))], [(1, ⟨.world, [.ro .item vb1_0, .v (.int .i64 vb1_1), .ro .scale vb1_2, .v (.int .i64 vb1_3), .ro .told vb1_4]⟩)], []⟩ k' = f32L0 n (k' .ret ⟨[(2, .c (.one (.v (.bool false))))], [], []⟩) (fun (xvs3 : Int) (xvs9 : Bool) => k' (.exit 0) ⟨[(1, .c (.one (.pt 1 0))), (3, .c (.one (.v (.int .i64 xvs3)))), (9, .c (.one (.v (.bool xvs9))))], [(1, ⟨.world, [.ro .item vb1_0, .v (.int .i64 vb1_1), .ro .scale vb1_2, .v (.int .i64 vb1_3), .ro .told vb1_4]⟩)], []⟩) vb1_0 vb1_1 vb1_2 vb1_3 vb1_4 m vs3 := by
  intro m; induction m with
  | zero => intros; rfl
  | succ m ih =>
    intro vs3
    simp only [iter]
    rw [f32L0_b]
    simp only [ih, f32L0]

noncomputable def f32K0 {R : Type} (n : Nat) (k' : Ex → St → Option R) : Ex → St → Option R := (blockK 0 (seqK f32e f32k n (cAt [1,1] f32c) k'))
theorem f32K0_x0 {R : Type} (n : Nat) (k : List Dt → Option R) (a0 : WorldT)  : f32K0 n (exitK f32e [.ro] [false] true [.tmp 2] [4] [.d .world a0] k) .ret ⟨[(2, .c (.one (.v (.bool false))))], [], []⟩ =
    (k [.d .bool false]) := by kernel_rfl
theorem f32K0_x1 {R : Type} (n : Nat) (k : List Dt → Option R) (a0 : WorldT) (vb1_0 : List ItemT) (vb1_1 : Int) (vb1_2 : List ScaleT) (vb1_3 : Int) (vb1_4 : List ToldT) (xvs3 : Int) (xvs9 : Bool) : f32K0 n (exitK f32e [.ro] [false] true [.tmp 2] [4] [.d .world a0] k) (.exit 0) ⟨[(1, .c (.one (.pt 1 0))), (3, .c (.one (.v (.int .i64 xvs3)))), (9, .c (.one (.v (.bool xvs9))))], [(1, ⟨.world, [.ro .item vb1_0, .v (.int .i64 vb1_1), .ro .scale vb1_2, .v (.int .i64 vb1_3), .ro .told vb1_4]⟩)], []⟩ =
    (k [.d .bool (decide ((vb1_4.length : Int) ≤ (40 : Int)))]) := by kernel_rfl

theorem f32_run {R : Type} (n : Nat) (k : List Dt → Option R) (a0 : WorldT) : evFn f32e f32k n f32c [.ro] [false] true [.tmp 2] [4] [.d .world a0] k =
    (f32L0 n (k [.d .bool false]) (fun (xvs3 : Int) (xvs9 : Bool) =>
    (k [.d .bool (decide (((WorldT.log a0).length : Int) ≤ (40 : Int)))])) (StoreT.items (WorldT.store a0)) (StoreT.next (WorldT.store a0)) (WorldT.scales a0) (WorldT.time a0) (WorldT.log a0) n (0 : Int)) := by
  refine Eq.trans (b := (iter (fun st k => ev f32e f32k n (cAt [1,0,1,0,0] f32c) st k) n ⟨[(1, .c (.one (.pt 1 0))), (3, .c (.one (.v (.int .i64 (0 : Int)))))], [(1, ⟨.world, [.ro .item (StoreT.items (WorldT.store a0)), .v (.int .i64 (StoreT.next (WorldT.store a0))), .ro .scale (WorldT.scales a0), .v (.int .i64 (WorldT.time a0)), .ro .told (WorldT.log a0)]⟩)], []⟩ (f32K0 n (exitK f32e [.ro] [false] true [.tmp 2] [4] [.d .world a0] k)))) (by kernel_rfl) ?_
  simp only [f32L0_eq, f32K0_x0, f32K0_x1]
theorem f32_spec (a0 : WorldT) (hg : sm_world a0 = true) : ∃ keep rounds, ∀ {R : Type} (k : List Dt → Option R), evFn f32e keep rounds f32c [.ro] [false] true [.tmp 2] [4] [.d .world a0] k = k [.d .bool (logOk a0)] := by
  have hg0 := hg
  simp only [sm_world, Bool.and_eq_true] at hg
  obtain ⟨hst, hsc, htm, hlog⟩ := hg
  have n1 := smL_len hsc
  have n2 := smL_len hlog
  refine ⟨f32k, a0.log.length + 1, fun {R} k => ?_⟩
  rw [f32_run]
  refine Eq.trans (loop_idx (n := a0.log.length) (F := fun m i => f32L0 (a0.log.length + 1) _ _ a0.store.items a0.store.next a0.scales a0.time a0.log m i) (p := toldC a0.log a0.time) (good := k [.d .bool (decide ((a0.log.length : Int) ≤ (40 : Int)))]) (bad := k [.d .bool false])
    (fun m j hj => ?_) (fun m => by simp only [f32L0, idxE, cond_false]) (a0.log.length) 0 (a0.log.length + 1) (by omega) (by omega)) ?_
  · obtain ⟨h1, h0, hw, ht⟩ := idx hj (by omega)
    have hx := smL_at (t := .told) hlog hj
    simp only [sm_told, Bool.and_eq_true] at hx
    simp only [f32L0, h1, h0, hw, ht, okStr_sm hx.2.1, isMany, Bool.and_self, cond_true]
    unfold toldC
    by_cases hz : (j : Int) > 0
    · obtain ⟨h2, h3, _, h5⟩ := idx (show j - 1 < a0.log.length by omega) (by omega)
      simp only [hz, decide_true, cond_true, idxM hj (by omega) (by omega), h2, h3, h5, Bool.and_self]
      cases inR (atI (t := .told) a0.log j).time 0 a0.time <;> cases nameOk (atI (t := .told) a0.log j).name <;> cases inR (atI (t := .told) a0.log j).n 0 1000 <;> cases decide ((atI (t := .told) a0.log (j - 1)).time > (atI (t := .told) a0.log j).time) <;> rfl
    · simp only [hz, decide_false, cond_false]
      cases inR (atI (t := .told) a0.log j).time 0 a0.time <;> cases nameOk (atI (t := .told) a0.log j).name <;> cases inR (atI (t := .told) a0.log j).n 0 1000 <;> rfl
  · unfold logOk
    cases allN (toldC a0.log a0.time) 0 a0.log.length <;> rfl

noncomputable def q32 : List Dt → Option (Bool × List Dt)
  | [.d .world a0] => some ((sm_world a0), [.d .bool (logOk a0)])
  | _ => none
noncomputable def s32 : Gm.Spec := Gm.Spec.of [.ro] [false] true q32
theorem good32 : Gm.Good Try.prog (32, s32) := by
  have hl : ∀ x ∈ [(16, s16), (48, s48)], Gm.Good Try.prog x := List.forall_mem_cons.2 ⟨good16, List.forall_mem_cons.2 ⟨good48, List.forall_mem_nil _⟩⟩
  refine ⟨⟨spec_ok (tab_ok.env hl) (tab.natl hl) Try.func32 (by kernel_rfl : Try.f32.body = some f32c) [4] (by kernel_rfl) ?_, _, Try.func32, by kernel_rfl, of_decide_eq_true (by kernel_rfl)⟩, Gm.Spec.of_natl _ _ _ _⟩
  intro ds outs h
  unfold q32 at h
  split at h
  · simp only [Option.some.injEq, Prod.mk.injEq] at h; obtain ⟨hg, h⟩ := h; cases h; exact f32_spec _ hg
  · cases h
/-! ### loop.example/g00465/impl.WorldOk -/
noncomputable def f20c : Code := (Try.f20.body).getD .skip
def f20k : Nat → Kp := kat [⟨[1], [], [], []⟩, ⟨[1, 32], [], [], []⟩, ⟨[2], [], [], []⟩, ⟨[1, 34, 35, 36], [], [], []⟩, ⟨[1, 34, 35, 36, 37], [], [], []⟩, ⟨[1, 3, 4, 34, 35, 36], [], [], []⟩, ⟨[1, 34, 35, 36, 76], [], [], []⟩, ⟨[2], [], [], []⟩, ⟨[1, 34, 35, 36], [], [], []⟩, ⟨[1, 79, 80, 81], [], [], []⟩, ⟨[1, 79, 80, 81, 82], [], [], []⟩, ⟨[1, 5, 6, 79, 80, 81], [], [], []⟩, ⟨[1, 79, 80, 81, 119], [], [], []⟩, ⟨[2], [], [], []⟩, ⟨[1, 79, 80, 81], [], [], []⟩, ⟨[2], [], [], []⟩]
noncomputable def f20e : Env := tab.env [(23, s23), (36, s36), (37, s37), (38, s38), (39, s39), (40, s40)]
noncomputable def f20L0 {R : Type} (n : Nat) (x0 : Option R) (x1 : Int → Bool → Option R) (vs34 : List ScaleT) (vs35 : Int) (vb1_0 : List ItemT) (vb1_1 : Int) (vb1_2 : List ScaleT) (vb1_3 : Int) (vb1_4 : List ToldT) : Nat → Int → Option R
  | 0, _ => none
  | m + 1, vs36 =>
    (cond (decide (vs36 < vs35))
      (cond ((decide ((0 : Int) ≤ vs36)) && (decide (vs36 < (vs34.length : Int))))
        (cond (sm_scale (atI (t := .scale) vs34 (Int.toNat vs36)))
          (cond (!(scaleOk (atI (t := .scale) vs34 (Int.toNat vs36))))
            (x0)
            (cond ((decide ((0 : Int) ≤ vs36)) && (decide (vs36 < (vb1_0.length : Int))))
              (cond (!(sEq (ScaleT.name (atI (t := .scale) vs34 (Int.toNat vs36))) (OrderT.name (ItemT.order (atI (t := .item) vb1_0 (Int.toNat vs36))))))
                (x0)
                (cond (decide (((ScaleT.recs (atI (t := .scale) vs34 (Int.toNat vs36))).length : Int) > (0 : Int)))
                  (cond ((decide ((0 : Int) ≤ (IntKind.wrap .i64 (((ScaleT.recs (atI (t := .scale) vs34 (Int.toNat vs36))).length : Int) - (1 : Int))))) && (decide ((IntKind.wrap .i64 (((ScaleT.recs (atI (t := .scale) vs34 (Int.toNat vs36))).length : Int) - (1 : Int))) < ((ScaleT.recs (atI (t := .scale) vs34 (Int.toNat vs36))).length : Int))))
                    (cond (decide ((RcdT.time (atI (t := .rcd) (ScaleT.recs (atI (t := .scale) vs34 (Int.toNat vs36))) (Int.toNat (IntKind.wrap .i64 (((ScaleT.recs (atI (t := .scale) vs34 (Int.toNat vs36))).length : Int) - (1 : Int)))))) > vb1_3))
                      (x0)
                      (f20L0 n x0 x1 vs34 vs35 vb1_0 vb1_1 vb1_2 vb1_3 vb1_4 m (IntKind.wrap .i64 (vs36 + (1 : Int)))))
                    none)
                  (f20L0 n x0 x1 vs34 vs35 vb1_0 vb1_1 vb1_2 vb1_3 vb1_4 m (IntKind.wrap .i64 (vs36 + (1 : Int))))))
              none))
          none)
        none)
      (x1 vs36 (decide (vs36 < vs35))))
theorem f20L0_b {R : Type} (n : Nat) (k' : Ex → St → Option R) (vs34 : List ScaleT) (vs35 : Int) (vs36 : Int) (vb1_0 : List ItemT) (vb1_1 : Int) (vb1_2 : List ScaleT) (vb1_3 : Int) (vb1_4 : List ToldT) : ev f20e f20k n (cAt [1,1,0,1,0,0] f20c) ⟨[(1, .c (.one (.pt 1 0))), (34, .c (.one (.ro .scale vs34))), (35, .c (.one (.v (.int .i64 vs35)))), (36, .c (.one (.v (.int .i64 vs36))))], [(1, ⟨.world, [.ro .item vb1_0, .v (.int .i64 vb1_1), .ro .scale vb1_2, .v (.int .i64 vb1_3), .ro .told vb1_4]⟩)], []⟩ k' =
    (cond (decide (vs36 < vs35))
    (cond ((decide ((0 : Int) ≤ vs36)) && (decide (vs36 < (vs34.length : Int))))
      (cond (sm_scale (atI (t := .scale) vs34 (Int.toNat vs36)))
        (cond (!(scaleOk (atI (t := .scale) vs34 (Int.toNat vs36))))
          (k' .ret ⟨[(2, .c (.one (.v (.bool false))))], [], []⟩)
          (cond ((decide ((0 : Int) ≤ vs36)) && (decide (vs36 < (vb1_0.length : Int))))
            (cond (!(sEq (ScaleT.name (atI (t := .scale) vs34 (Int.toNat vs36))) (OrderT.name (ItemT.order (atI (t := .item) vb1_0 (Int.toNat vs36))))))
              (k' .ret ⟨[(2, .c (.one (.v (.bool false))))], [], []⟩)
              (cond (decide (((ScaleT.recs (atI (t := .scale) vs34 (Int.toNat vs36))).length : Int) > (0 : Int)))
                (cond ((decide ((0 : Int) ≤ (IntKind.wrap .i64 (((ScaleT.recs (atI (t := .scale) vs34 (Int.toNat vs36))).length : Int) - (1 : Int))))) && (decide ((IntKind.wrap .i64 (((ScaleT.recs (atI (t := .scale) vs34 (Int.toNat vs36))).length : Int) - (1 : Int))) < ((ScaleT.recs (atI (t := .scale) vs34 (Int.toNat vs36))).length : Int))))
                  (cond (decide ((RcdT.time (atI (t := .rcd) (ScaleT.recs (atI (t := .scale) vs34 (Int.toNat vs36))) (Int.toNat (IntKind.wrap .i64 (((ScaleT.recs (atI (t := .scale) vs34 (Int.toNat vs36))).length : Int) - (1 : Int)))))) > vb1_3))
                    (k' .ret ⟨[(2, .c (.one (.v (.bool false))))], [], []⟩)
                    (k' .normal ⟨[(1, .c (.one (.pt 1 0))), (34, .c (.one (.ro .scale vs34))), (35, .c (.one (.v (.int .i64 vs35)))), (36, .c (.one (.v (.int .i64 (IntKind.wrap .i64 (vs36 + (1 : Int)))))))], [(1, ⟨.world, [.ro .item vb1_0, .v (.int .i64 vb1_1), .ro .scale vb1_2, .v (.int .i64 vb1_3), .ro .told vb1_4]⟩)], []⟩))
                  none)
                (k' .normal ⟨[(1, .c (.one (.pt 1 0))), (34, .c (.one (.ro .scale vs34))), (35, .c (.one (.v (.int .i64 vs35)))), (36, .c (.one (.v (.int .i64 (IntKind.wrap .i64 (vs36 + (1 : Int)))))))], [(1, ⟨.world, [.ro .item vb1_0, .v (.int .i64 vb1_1), .ro .scale vb1_2, .v (.int .i64 vb1_3), .ro .told vb1_4]⟩)], []⟩)))
            none))
        none)
      none)
    (k' (.exit 0) ⟨[(1, .c (.one (.pt 1 0))), (34, .c (.one (.ro .scale vs34))), (35, .c (.one (.v (.int .i64 vs35)))), (36, .c (.one (.v (.int .i64 vs36)))), (37, .c (.one (.v (.bool (decide (vs36 < vs35))))))], [(1, ⟨.world, [.ro .item vb1_0, .v (.int .i64 vb1_1), .ro .scale vb1_2, .v (.int .i64 vb1_3), .ro .told vb1_4]⟩)], []⟩)) := by kernel_rfl
theorem f20L0_eq {R : Type} (n : Nat) (k' : Ex → St → Option R) (vs34 : List ScaleT) (vs35 : Int) (vb1_0 : List ItemT) (vb1_1 : Int) (vb1_2 : List ScaleT) (vb1_3 : Int) (vb1_4 : List ToldT) : ∀ (m : Nat) (vs36 : Int), iter (fun st k => ev f20e f20k n (cAt [1,1,0,1,0,0] f20c) st k) m ⟨[(1, .c (.one (.pt 1 0))), (34, .c (.one (.ro .scale vs34))), (35, .c (.one (.v (.int .i64 vs35)))), (36, .c (.one (.v (.int .i64 vs36))))], [(1, ⟨.world, [.ro .item vb1_0, .v (.int .i64 vb1_1), .ro .scale vb1_2, .v (.int .i64 vb1_3), .ro .told vb1_4]⟩)], []⟩ k' = f20L0 n (k' .ret ⟨[(2, .c (.one (.v (.bool false))))], [], []⟩) (fun (xvs36 : Int) (xvs37 : Bool) => k' (.exit 0) ⟨[(1, .c (.one (.pt 1 0))), (34, .c (.one (.ro .scale vs34))), (35, .c (.one (.v (.int .i64 vs35)))), (36, .c (.one (.v (.int .i64 xvs36)))), (37, .c (.one (.v (.bool xvs37))))], [(1, ⟨.world, [.ro .item vb1_0, .v (.int .i64 vb1_1), .ro .scale vb1_2, .v (.int .i64 vb1_3), .ro .told vb1_4]⟩)], []⟩) vs34 vs35 vb1_0 vb1_1 vb1_2 vb1_3 vb1_4 m vs36 := by
  intro m; induction m with
  | zero => intros; rfl
  | succ m ih =>
    intro vs36
    simp only [iter]
    rw [f20L0_b]
    simp only [ih, f20L0]

noncomputable def f20L1 {R : Type} (n : Nat) (x0 : Option R) (x1 : Int → Bool → Option R) (vs79 : List ToldT) (vs80 : Int) (vb1_0 : List ItemT) (vb1_1 : Int) (vb1_2 : List ScaleT) (vb1_3 : Int) (vb1_4 : List ToldT) : Nat → Int → Option R
  | 0, _ => none
  | m + 1, vs81 =>
    (cond (decide (vs81 < vs80))
      (cond ((decide ((0 : Int) ≤ vs81)) && (decide (vs81 < (vs79.length : Int))))
        (cond (!(inR (ToldT.time (atI (t := .told) vs79 (Int.toNat vs81))) (0 : Int) vb1_3))
          (x0)
          (cond (okStr (ToldT.name (atI (t := .told) vs79 (Int.toNat vs81))))
            (cond (!(nameOk (ToldT.name (atI (t := .told) vs79 (Int.toNat vs81)))))
              (x0)
              (cond (!(isMany (ToldT.n (atI (t := .told) vs79 (Int.toNat vs81)))))
                (x0)
                (cond (decide (vs81 > (0 : Int)))
                  (cond ((decide ((0 : Int) ≤ (IntKind.wrap .i64 (vs81 - (1 : Int))))) && (decide ((IntKind.wrap .i64 (vs81 - (1 : Int))) < (vb1_4.length : Int))))
                    (cond (decide ((ToldT.time (atI (t := .told) vb1_4 (Int.toNat (IntKind.wrap .i64 (vs81 - (1 : Int)))))) > (ToldT.time (atI (t := .told) vs79 (Int.toNat vs81)))))
                      (x0)
                      (f20L1 n x0 x1 vs79 vs80 vb1_0 vb1_1 vb1_2 vb1_3 vb1_4 m (IntKind.wrap .i64 (vs81 + (1 : Int)))))
                    none)
                  (f20L1 n x0 x1 vs79 vs80 vb1_0 vb1_1 vb1_2 vb1_3 vb1_4 m (IntKind.wrap .i64 (vs81 + (1 : Int)))))))
            none))
        none)
      (x1 vs81 (decide (vs81 < vs80))))
theorem f20L1_b {R : Type} (n : Nat) (k' : Ex → St → Option R) (vs79 : List ToldT) (vs80 : Int) (vs81 : Int) (vb1_0 : List ItemT) (vb1_1 : Int) (vb1_2 : List ScaleT) (vb1_3 : Int) (vb1_4 : List ToldT) : ev f20e f20k n (cAt [1,1,1,0,1,0,0] f20c) ⟨[(1, .c (.one (.pt 1 0))), (79, .c (.one (.ro .told vs79))), (80, .c (.one (.v (.int .i64 vs80)))), (81, .c (.one (.v (.int .i64 vs81))))], [(1, ⟨.world, [.ro .item vb1_0, .v (.int .i64 vb1_1), .ro .scale vb1_2, .v (.int .i64 vb1_3), .ro .told vb1_4]⟩)], []⟩ k' =
    (cond (decide (vs81 < vs80))
    (cond ((decide ((0 : Int) ≤ vs81)) && (decide (vs81 < (vs79.length : Int))))
      (cond (!(inR (ToldT.time (atI (t := .told) vs79 (Int.toNat vs81))) (0 : Int) vb1_3))
        (k' .ret ⟨[(2, .c (.one (.v (.bool false))))], [], []⟩)
        (cond (okStr (ToldT.name (atI (t := .told) vs79 (Int.toNat vs81))))
          (cond (!(nameOk (ToldT.name (atI (t := .told) vs79 (Int.toNat vs81)))))
            (k' .ret ⟨[(2, .c (.one (.v (.bool false))))], [], []⟩)
            (cond (!(isMany (ToldT.n (atI (t := .told) vs79 (Int.toNat vs81)))))
              (k' .ret ⟨[(2, .c (.one (.v (.bool false))))], [], []⟩)
              (cond (decide (vs81 > (0 : Int)))
                (cond ((decide ((0 : Int) ≤ (IntKind.wrap .i64 (vs81 - (1 : Int))))) && (decide ((IntKind.wrap .i64 (vs81 - (1 : Int))) < (vb1_4.length : Int))))
                  (cond (decide ((ToldT.time (atI (t := .told) vb1_4 (Int.toNat (IntKind.wrap .i64 (vs81 - (1 : Int)))))) > (ToldT.time (atI (t := .told) vs79 (Int.toNat vs81)))))
                    (k' .ret ⟨[(2, .c (.one (.v (.bool false))))], [], []⟩)
                    (k' .normal ⟨[(1, .c (.one (.pt 1 0))), (79, .c (.one (.ro .told vs79))), (80, .c (.one (.v (.int .i64 vs80)))), (81, .c (.one (.v (.int .i64 (IntKind.wrap .i64 (vs81 + (1 : Int)))))))], [(1, ⟨.world, [.ro .item vb1_0, .v (.int .i64 vb1_1), .ro .scale vb1_2, .v (.int .i64 vb1_3), .ro .told vb1_4]⟩)], []⟩))
                  none)
                (k' .normal ⟨[(1, .c (.one (.pt 1 0))), (79, .c (.one (.ro .told vs79))), (80, .c (.one (.v (.int .i64 vs80)))), (81, .c (.one (.v (.int .i64 (IntKind.wrap .i64 (vs81 + (1 : Int)))))))], [(1, ⟨.world, [.ro .item vb1_0, .v (.int .i64 vb1_1), .ro .scale vb1_2, .v (.int .i64 vb1_3), .ro .told vb1_4]⟩)], []⟩))))
          none))
      none)
    (k' (.exit 2) ⟨[(1, .c (.one (.pt 1 0))), (79, .c (.one (.ro .told vs79))), (80, .c (.one (.v (.int .i64 vs80)))), (81, .c (.one (.v (.int .i64 vs81)))), (82, .c (.one (.v (.bool (decide (vs81 < vs80))))))], [(1, ⟨.world, [.ro .item vb1_0, .v (.int .i64 vb1_1), .ro .scale vb1_2, .v (.int .i64 vb1_3), .ro .told vb1_4]⟩)], []⟩)) := by kernel_rfl
theorem f20L1_eq {R : Type} (n : Nat) (k' : Ex → St → Option R) (vs79 : List ToldT) (vs80 : Int) (vb1_0 : List ItemT) (vb1_1 : Int) (vb1_2 : List ScaleT) (vb1_3 : Int) (vb1_4 : List ToldT) : ∀ (m : Nat) (vs81 : Int), iter (fun st k => ev f20e f20k n (cAt [1,1,1,0,1,0,0] f20c) st k) m ⟨[(1, .c (.one (.pt 1 0))), (79, .c (.one (.ro .told vs79))), (80, .c (.one (.v (.int .i64 vs80)))), (81, .c (.one (.v (.int .i64 vs81))))], [(1, ⟨.world, [.ro .item vb1_0, .v (.int .i64 vb1_1), .ro .scale vb1_2, .v (.int .i64 vb1_3), .ro .told vb1_4]⟩)], []⟩ k' = f20L1 n (k' .ret ⟨[(2, .c (.one (.v (.bool false))))], [], []⟩) (fun (xvs81 : Int) (xvs82 : Bool) => k' (.exit 2) ⟨[(1, .c (.one (.pt 1 0))), (79, .c (.one (.ro .told vs79))), (80, .c (.one (.v (.int .i64 vs80)))), (81, .c (.one (.v (.int .i64 xvs81)))), (82, .c (.one (.v (.bool xvs82))))], [(1, ⟨.world, [.ro .item vb1_0, .v (.int .i64 vb1_1), .ro .scale vb1_2, .v (.int .i64 vb1_3), .ro .told vb1_4]⟩)], []⟩) vs79 vs80 vb1_0 vb1_1 vb1_2 vb1_3 vb1_4 m vs81 := by
  intro m; induction m with
  | zero => intros; rfl
  | succ m ih =>
    intro vs81
    simp only [iter]
    rw [f20L1_b]
    simp only [ih, f20L1]

noncomputable def f20K1 {R : Type} (n : Nat) (k' : Ex → St → Option R) : Ex → St → Option R := (blockK 2 (seqK f20e f20k n (cAt [1,1,1,1] f20c) k'))
theorem f20K1_x0 {R : Type} (n : Nat) (k : List Dt → Option R) (a0 : WorldT)  : f20K1 n (exitK f20e [.ro] [false] true [.tmp 2] [4] [.d .world a0] k) .ret ⟨[(2, .c (.one (.v (.bool false))))], [], []⟩ =
    (k [.d .bool false]) := by kernel_rfl
theorem f20K1_x1 {R : Type} (n : Nat) (k : List Dt → Option R) (a0 : WorldT) (vs79 : List ToldT) (vs80 : Int) (vb1_0 : List ItemT) (vb1_1 : Int) (vb1_2 : List ScaleT) (vb1_3 : Int) (vb1_4 : List ToldT) (xvs81 : Int) (xvs82 : Bool) : f20K1 n (exitK f20e [.ro] [false] true [.tmp 2] [4] [.d .world a0] k) (.exit 2) ⟨[(1, .c (.one (.pt 1 0))), (79, .c (.one (.ro .told vs79))), (80, .c (.one (.v (.int .i64 vs80)))), (81, .c (.one (.v (.int .i64 xvs81)))), (82, .c (.one (.v (.bool xvs82))))], [(1, ⟨.world, [.ro .item vb1_0, .v (.int .i64 vb1_1), .ro .scale vb1_2, .v (.int .i64 vb1_3), .ro .told vb1_4]⟩)], []⟩ =
    (k [.d .bool true]) := by kernel_rfl

noncomputable def f20K0 {R : Type} (n : Nat) (k' : Ex → St → Option R) : Ex → St → Option R := (blockK 0 (seqK f20e f20k n (cAt [1,1,1] f20c) k'))
theorem f20K0_x0 {R : Type} (n : Nat) (k : List Dt → Option R) (a0 : WorldT)  : f20K0 n (exitK f20e [.ro] [false] true [.tmp 2] [4] [.d .world a0] k) .ret ⟨[(2, .c (.one (.v (.bool false))))], [], []⟩ =
    (k [.d .bool false]) := by kernel_rfl
theorem f20K0_x1 {R : Type} (n : Nat) (k : List Dt → Option R) (a0 : WorldT) (vs34 : List ScaleT) (vs35 : Int) (vb1_0 : List ItemT) (vb1_1 : Int) (vb1_2 : List ScaleT) (vb1_3 : Int) (vb1_4 : List ToldT) (xvs36 : Int) (xvs37 : Bool) : f20K0 n (exitK f20e [.ro] [false] true [.tmp 2] [4] [.d .world a0] k) (.exit 0) ⟨[(1, .c (.one (.pt 1 0))), (34, .c (.one (.ro .scale vs34))), (35, .c (.one (.v (.int .i64 vs35)))), (36, .c (.one (.v (.int .i64 xvs36)))), (37, .c (.one (.v (.bool xvs37))))], [(1, ⟨.world, [.ro .item vb1_0, .v (.int .i64 vb1_1), .ro .scale vb1_2, .v (.int .i64 vb1_3), .ro .told vb1_4]⟩)], []⟩ =
    (f20L1 n (k [.d .bool false]) (fun (xvs81 : Int) (xvs82 : Bool) =>
    (k [.d .bool true])) vb1_4 (vb1_4.length : Int) vb1_0 vb1_1 vb1_2 vb1_3 vb1_4 n (0 : Int)) := by
  refine Eq.trans (b := (iter (fun st k => ev f20e f20k n (cAt [1,1,1,0,1,0,0] f20c) st k) n ⟨[(1, .c (.one (.pt 1 0))), (79, .c (.one (.ro .told vb1_4))), (80, .c (.one (.v (.int .i64 (vb1_4.length : Int))))), (81, .c (.one (.v (.int .i64 (0 : Int)))))], [(1, ⟨.world, [.ro .item vb1_0, .v (.int .i64 vb1_1), .ro .scale vb1_2, .v (.int .i64 vb1_3), .ro .told vb1_4]⟩)], []⟩ (f20K1 n (exitK f20e [.ro] [false] true [.tmp 2] [4] [.d .world a0] k)))) (by kernel_rfl) ?_
  simp only [f20L1_eq, f20K1_x0, f20K1_x1]

theorem f20_run {R : Type} (n : Nat) (k : List Dt → Option R) (a0 : WorldT) : evFn f20e f20k n f20c [.ro] [false] true [.tmp 2] [4] [.d .world a0] k =
    (cond (sm_store (WorldT.store a0))
    (cond (!(storeOk (WorldT.store a0)))
      (k [.d .bool false])
      (cond (((WorldT.scales a0).length : Int) != ((StoreT.items (WorldT.store a0)).length : Int))
        (k [.d .bool false])
        (cond (!(isTime (WorldT.time a0)))
          (k [.d .bool false])
          (cond (decide (((WorldT.log a0).length : Int) > (40 : Int)))
            (k [.d .bool false])
            (f20L0 n (k [.d .bool false]) (fun (xvs36 : Int) (xvs37 : Bool) =>
              (f20L1 n (k [.d .bool false]) (fun (xvs81 : Int) (xvs82 : Bool) =>
                (k [.d .bool true])) (WorldT.log a0) ((WorldT.log a0).length : Int) (StoreT.items (WorldT.store a0)) (StoreT.next (WorldT.store a0)) (WorldT.scales a0) (WorldT.time a0) (WorldT.log a0) n (0 : Int))) (WorldT.scales a0) ((WorldT.scales a0).length : Int) (StoreT.items (WorldT.store a0)) (StoreT.next (WorldT.store a0)) (WorldT.scales a0) (WorldT.time a0) (WorldT.log a0) n (0 : Int))))))
    none) := by
  refine Eq.trans (b := (cond (sm_store (WorldT.store a0))
    (cond (!(storeOk (WorldT.store a0)))
      (k [.d .bool false])
      (cond (((WorldT.scales a0).length : Int) != ((StoreT.items (WorldT.store a0)).length : Int))
        (k [.d .bool false])
        (cond (!(isTime (WorldT.time a0)))
          (k [.d .bool false])
          (cond (decide (((WorldT.log a0).length : Int) > (40 : Int)))
            (k [.d .bool false])
            (iter (fun st k => ev f20e f20k n (cAt [1,1,0,1,0,0] f20c) st k) n ⟨[(1, .c (.one (.pt 1 0))), (34, .c (.one (.ro .scale (WorldT.scales a0)))), (35, .c (.one (.v (.int .i64 ((WorldT.scales a0).length : Int))))), (36, .c (.one (.v (.int .i64 (0 : Int)))))], [(1, ⟨.world, [.ro .item (StoreT.items (WorldT.store a0)), .v (.int .i64 (StoreT.next (WorldT.store a0))), .ro .scale (WorldT.scales a0), .v (.int .i64 (WorldT.time a0)), .ro .told (WorldT.log a0)]⟩)], []⟩ (f20K0 n (exitK f20e [.ro] [false] true [.tmp 2] [4] [.d .world a0] k)))))))
    none)) (by kernel_rfl) ?_
  simp only [f20L0_eq, f20K0_x0, f20K0_x1, f20L1_eq, f20K1_x0, f20K1_x1]
theorem f20_spec (a0 : WorldT) (hg : sm_world a0 = true) : ∃ keep rounds, ∀ {R : Type} (k : List Dt → Option R), evFn f20e keep rounds f20c [.ro] [false] true [.tmp 2] [4] [.d .world a0] k = k [.d .bool (worldOk a0)] := by
  have hg0 := hg
  simp only [sm_world, Bool.and_eq_true] at hg
  obtain ⟨hst, hsc, htm, hlog⟩ := hg
  have n1 := smL_len hsc
  have n2 := smL_len hlog
  refine ⟨f20k, a0.scales.length + a0.log.length + 1, fun {R} k => ?_⟩
  rw [f20_run]
  simp only [hst, isTime, cond_true]
  unfold worldOk
  cases storeOk a0.store
  · rfl
  cases hl2 : ((a0.scales.length : Int) == (a0.store.items.length : Int))
  · rw [show ((a0.scales.length : Int) != (a0.store.items.length : Int)) = true by simp only [bne, hl2]; rfl]; rfl
  rw [show ((a0.scales.length : Int) != (a0.store.items.length : Int)) = false by simp only [bne, hl2]; rfl]
  have hle := eq_of_beq hl2
  cases inR a0.time 0 1000000
  · rfl
  by_cases h40 : (a0.log.length : Int) > 40
  · rw [decide_eq_true h40, decide_eq_false (show ¬ ((a0.log.length : Int) ≤ 40) by omega)]
    simp only [Bool.and_false, Bool.not_true, cond_false, cond_true]
  rw [decide_eq_false h40, decide_eq_true (show (a0.log.length : Int) ≤ 40 by omega)]
  simp only [Bool.not_true, cond_false, Bool.true_and, Bool.and_true]
  refine Eq.trans (loop_idx (n := a0.scales.length) (F := fun m i => f20L0 (a0.scales.length + a0.log.length + 1) _ _ a0.scales (a0.scales.length : Int) a0.store.items a0.store.next a0.scales a0.time a0.log m i) (p := scalC a0.scales a0.store.items a0.time) (good := _) (bad := k [.d .bool false])
    (fun m j hj => ?_) (fun m => by simp only [f20L0, idxE, cond_false]; rfl) (a0.scales.length) 0 (a0.scales.length + a0.log.length + 1) (by omega) (by omega)) ?_
  · obtain ⟨h1, h0, hw, ht⟩ := idx hj (by omega)
    have hx := smL_at (t := .scale) hsc hj
    have hx2 := hx
    simp only [sm_scale, Bool.and_eq_true] at hx2
    have hr := smL_len hx2.2.2
    obtain ⟨g1, _, _, _⟩ := idx (show j < a0.store.items.length by omega) (by omega)
    simp only [f20L0, h1, h0, hw, ht, hx, g1, Bool.and_self, cond_true]
    unfold scalC lateR
    by_cases hz : ((atI (t := .scale) a0.scales j).recs.length : Int) > 0
    · obtain ⟨h2, h3, _, h5⟩ := idx (show (atI (t := .scale) a0.scales j).recs.length - 1 < (atI (t := .scale) a0.scales j).recs.length by omega) (by omega)
      have hwr : IntKind.wrap .i64 (((atI (t := .scale) a0.scales j).recs.length : Int) - 1) = (((atI (t := .scale) a0.scales j).recs.length - 1 : Nat) : Int) := by rw [wrap_id (by omega) (by omega)]; omega
      simp only [hz, decide_true, cond_true, hwr, h2, h3, h5, Bool.and_self, Bool.true_and]
      cases scaleOk (atI (t := .scale) a0.scales j) <;> cases sEq (atI (t := .scale) a0.scales j).name (atI (t := .item) a0.store.items j).order.name <;> cases decide ((atI (t := .rcd) (atI (t := .scale) a0.scales j).recs ((atI (t := .scale) a0.scales j).recs.length - 1)).time > a0.time) <;> rfl
    · simp only [hz, decide_false, cond_false, Bool.false_and]
      cases scaleOk (atI (t := .scale) a0.scales j) <;> cases sEq (atI (t := .scale) a0.scales j).name (atI (t := .item) a0.store.items j).order.name <;> rfl
  cases allN (scalC a0.scales a0.store.items a0.time) 0 a0.scales.length
  · rfl
  simp only [cond_true, Bool.true_and]
  refine Eq.trans (loop_idx (n := a0.log.length) (F := fun m i => f20L1 (a0.scales.length + a0.log.length + 1) _ _ a0.log (a0.log.length : Int) a0.store.items a0.store.next a0.scales a0.time a0.log m i) (p := toldC a0.log a0.time) (good := k [.d .bool true]) (bad := k [.d .bool false])
    (fun m j hj => ?_) (fun m => by simp only [f20L1, idxE, cond_false]) (a0.log.length) 0 (a0.scales.length + a0.log.length + 1) (by omega) (by omega)) ?_
  · obtain ⟨h1, h0, hw, ht⟩ := idx hj (by omega)
    have hx := smL_at (t := .told) hlog hj
    simp only [sm_told, Bool.and_eq_true] at hx
    simp only [f20L1, h1, h0, hw, ht, okStr_sm hx.2.1, isMany, Bool.and_self, cond_true]
    unfold toldC
    by_cases hz : (j : Int) > 0
    · obtain ⟨h2, h3, _, h5⟩ := idx (show j - 1 < a0.log.length by omega) (by omega)
      simp only [hz, decide_true, cond_true, idxM hj (by omega) (by omega), h2, h3, h5, Bool.and_self]
      cases inR (atI (t := .told) a0.log j).time 0 a0.time <;> cases nameOk (atI (t := .told) a0.log j).name <;> cases inR (atI (t := .told) a0.log j).n 0 1000 <;> cases decide ((atI (t := .told) a0.log (j - 1)).time > (atI (t := .told) a0.log j).time) <;> rfl
    · simp only [hz, decide_false, cond_false]
      cases inR (atI (t := .told) a0.log j).time 0 a0.time <;> cases nameOk (atI (t := .told) a0.log j).name <;> cases inR (atI (t := .told) a0.log j).n 0 1000 <;> rfl
  cases allN (toldC a0.log a0.time) 0 a0.log.length <;> rfl

noncomputable def q20 : List Dt → Option (Bool × List Dt)
  | [.d .world a0] => some ((sm_world a0), [.d .bool (worldOk a0)])
  | _ => none
noncomputable def s20 : Gm.Spec := Gm.Spec.of [.ro] [false] true q20
theorem good20 : Gm.Good Try.prog (20, s20) := by
  have hl : ∀ x ∈ [(23, s23), (36, s36), (37, s37), (38, s38), (39, s39), (40, s40)], Gm.Good Try.prog x := List.forall_mem_cons.2 ⟨good23, List.forall_mem_cons.2 ⟨good36, List.forall_mem_cons.2 ⟨good37, List.forall_mem_cons.2 ⟨good38, List.forall_mem_cons.2 ⟨good39, List.forall_mem_cons.2 ⟨good40, List.forall_mem_nil _⟩⟩⟩⟩⟩⟩
  refine ⟨⟨spec_ok (tab_ok.env hl) (tab.natl hl) Try.func20 (by kernel_rfl : Try.f20.body = some f20c) [4] (by kernel_rfl) ?_, _, Try.func20, by kernel_rfl, of_decide_eq_true (by kernel_rfl)⟩, Gm.Spec.of_natl _ _ _ _⟩
  intro ds outs h
  unfold q20 at h
  split at h
  · simp only [Option.some.injEq, Prod.mk.injEq] at h; obtain ⟨hg, h⟩ := h; cases h; exact f20_spec _ hg
  · cases h
/-! ### loop.example/g00465/spec.WorldOk -/
noncomputable def f15c : Code := (Try.f15.body).getD .skip
def f15k : Nat → Kp := kat [⟨[1], [], [], []⟩, ⟨[1, 25], [], [], []⟩, ⟨[2], [], [], []⟩, ⟨[1, 3], [], [], []⟩, ⟨[1, 3, 30], [], [], []⟩, ⟨[1, 3], [], [], []⟩, ⟨[1, 3, 4], [], [], []⟩, ⟨[1, 3, 4, 5], [], [], []⟩, ⟨[1, 3, 72], [], [], []⟩, ⟨[2], [], [], []⟩, ⟨[2], [], [], []⟩]
noncomputable def f15e : Env := tab.env [(16, s16), (30, s30), (31, s31), (32, s32)]
noncomputable def f15L0 {R : Type} (n : Nat) (x0 : Option R) (x1 : Int → Bool → Option R) (vb1_0 : List ItemT) (vb1_1 : Int) (vb1_2 : List ScaleT) (vb1_3 : Int) (vb1_4 : List ToldT) : Nat → Int → Option R
  | 0, _ => none
  | m + 1, vs3 =>
    (cond (decide (vs3 < (vb1_2.length : Int)))
      (cond ((decide ((0 : Int) ≤ vs3)) && (decide (vs3 < (vb1_2.length : Int))))
        (cond (sm_scale (atI (t := .scale) vb1_2 (Int.toNat vs3)))
          (cond (!(scaleOk (atI (t := .scale) vb1_2 (Int.toNat vs3))))
            (x0)
            (cond ((decide ((0 : Int) ≤ vs3)) && (decide (vs3 < (vb1_0.length : Int))))
              (cond (!(sEq (ScaleT.name (atI (t := .scale) vb1_2 (Int.toNat vs3))) (OrderT.name (ItemT.order (atI (t := .item) vb1_0 (Int.toNat vs3))))))
                (x0)
                (cond (decide (((ScaleT.recs (atI (t := .scale) vb1_2 (Int.toNat vs3))).length : Int) > (0 : Int)))
                  (cond ((decide ((0 : Int) ≤ (IntKind.wrap .i64 (((ScaleT.recs (atI (t := .scale) vb1_2 (Int.toNat vs3))).length : Int) - (1 : Int))))) && (decide ((IntKind.wrap .i64 (((ScaleT.recs (atI (t := .scale) vb1_2 (Int.toNat vs3))).length : Int) - (1 : Int))) < ((ScaleT.recs (atI (t := .scale) vb1_2 (Int.toNat vs3))).length : Int))))
                    (cond (decide ((RcdT.time (atI (t := .rcd) (ScaleT.recs (atI (t := .scale) vb1_2 (Int.toNat vs3))) (Int.toNat (IntKind.wrap .i64 (((ScaleT.recs (atI (t := .scale) vb1_2 (Int.toNat vs3))).length : Int) - (1 : Int)))))) > vb1_3))
                      (x0)
                      (f15L0 n x0 x1 vb1_0 vb1_1 vb1_2 vb1_3 vb1_4 m (IntKind.wrap .i64 (vs3 + (1 : Int)))))
                    none)
                  (f15L0 n x0 x1 vb1_0 vb1_1 vb1_2 vb1_3 vb1_4 m (IntKind.wrap .i64 (vs3 + (1 : Int))))))
              none))
          none)
        none)
      (x1 vs3 (decide (vs3 < (vb1_2.length : Int)))))
theorem f15L0_b {R : Type} (n : Nat) (k' : Ex → St → Option R) (vs3 : Int) (vb1_0 : List ItemT) (vb1_1 : Int) (vb1_2 : List ScaleT) (vb1_3 : Int) (vb1_4 : List ToldT) : ev f15e f15k n (cAt [1,1,0,1,0,0] f15c) ⟨[(1, .c (.one (.pt 1 0))), (3, .c (.one (.v (.int .i64 vs3))))], [(1, ⟨.world, [.ro .item vb1_0, .v (.int .i64 vb1_1), .ro .scale vb1_2, .v (.int .i64 vb1_3), .ro .told vb1_4]⟩)], []⟩ k' =
    (cond (decide (vs3 < (vb1_2.length : Int)))
    (cond ((decide ((0 : Int) ≤ vs3)) && (decide (vs3 < (vb1_2.length : Int))))
      (cond (sm_scale (atI (t := .scale) vb1_2 (Int.toNat vs3)))
        (cond (!(scaleOk (atI (t := .scale) vb1_2 (Int.toNat vs3))))
          (k' .ret ⟨[(2, .c (.one (.v (.bool false))))], [], []⟩)
          (cond ((decide ((0 : Int) ≤ vs3)) && (decide (vs3 < (vb1_0.length : Int))))
            (cond (!(sEq (ScaleT.name (atI (t := .scale) vb1_2 (Int.toNat vs3))) (OrderT.name (ItemT.order (atI (t := .item) vb1_0 (Int.toNat vs3))))))
              (k' .ret ⟨[(2, .c (.one (.v (.bool false))))], [], []⟩)
              (cond (decide (((ScaleT.recs (atI (t := .scale) vb1_2 (Int.toNat vs3))).length : Int) > (0 : Int)))
                (cond ((decide ((0 : Int) ≤ (IntKind.wrap .i64 (((ScaleT.recs (atI (t := .scale) vb1_2 (Int.toNat vs3))).length : Int) - (1 : Int))))) && (decide ((IntKind.wrap .i64 (((ScaleT.recs (atI (t := .scale) vb1_2 (Int.toNat vs3))).length : Int) - (1 : Int))) < ((ScaleT.recs (atI (t := .scale) vb1_2 (Int.toNat vs3))).length : Int))))
                  (cond (decide ((RcdT.time (atI (t := .rcd) (ScaleT.recs (atI (t := .scale) vb1_2 (Int.toNat vs3))) (Int.toNat (IntKind.wrap .i64 (((ScaleT.recs (atI (t := .scale) vb1_2 (Int.toNat vs3))).length : Int) - (1 : Int)))))) > vb1_3))
                    (k' .ret ⟨[(2, .c (.one (.v (.bool false))))], [], []⟩)
                    (k' .normal ⟨[(1, .c (.one (.pt 1 0))), (3, .c (.one (.v (.int .i64 (IntKind.wrap .i64 (vs3 + (1 : Int)))))))], [(1, ⟨.world, [.ro .item vb1_0, .v (.int .i64 vb1_1), .ro .scale vb1_2, .v (.int .i64 vb1_3), .ro .told vb1_4]⟩)], []⟩))
                  none)
                (k' .normal ⟨[(1, .c (.one (.pt 1 0))), (3, .c (.one (.v (.int .i64 (IntKind.wrap .i64 (vs3 + (1 : Int)))))))], [(1, ⟨.world, [.ro .item vb1_0, .v (.int .i64 vb1_1), .ro .scale vb1_2, .v (.int .i64 vb1_3), .ro .told vb1_4]⟩)], []⟩)))
            none))
        none)
      none)
    (k' (.exit 0) ⟨[(1, .c (.one (.pt 1 0))), (3, .c (.one (.v (.int .i64 vs3)))), (30, .c (.one (.v (.bool (decide (vs3 < (vb1_2.length : Int)))))))], [(1, ⟨.world, [.ro .item vb1_0, .v (.int .i64 vb1_1), .ro .scale vb1_2, .v (.int .i64 vb1_3), .ro .told vb1_4]⟩)], []⟩)) := by kernel_rfl
theorem f15L0_eq {R : Type} (n : Nat) (k' : Ex → St → Option R) (vb1_0 : List ItemT) (vb1_1 : Int) (vb1_2 : List ScaleT) (vb1_3 : Int) (vb1_4 : List ToldT) : ∀ (m : Nat) (vs3 : Int), iter (fun st k => ev f15e f15k n (cAt [1,1,0,1,0,0] f15c) st k) m ⟨[(1, .c (.one (.pt 1 0))), (3, .c (.one (.v (.int .i64 vs3))))], [(1, ⟨.world, [.ro .item vb1_0, .v (.int .i64 vb1_1), .ro .scale vb1_2, .v (.int .i64 vb1_3), .ro .told vb1_4]⟩)], []⟩ k' = f15L0 n (k' .ret ⟨[(2, .c (.one (.v (.bool false))))], [], []⟩) (fun (xvs3 : Int) (xvs30 : Bool) => k' (.exit 0) ⟨[(1, .c (.one (.pt 1 0))), (3, .c (.one (.v (.int .i64 xvs3)))), (30, .c (.one (.v (.bool xvs30))))], [(1, ⟨.world, [.ro .item vb1_0, .v (.int .i64 vb1_1), .ro .scale vb1_2, .v (.int .i64 vb1_3), .ro .told vb1_4]⟩)], []⟩) vb1_0 vb1_1 vb1_2 vb1_3 vb1_4 m vs3 := by
  intro m; induction m with
  | zero => intros; rfl
  | succ m ih =>
    intro vs3
    simp only [iter]
    rw [f15L0_b]
    simp only [ih, f15L0]

noncomputable def f15K0 {R : Type} (n : Nat) (k' : Ex → St → Option R) : Ex → St → Option R := (blockK 0 (seqK f15e f15k n (cAt [1,1,1] f15c) k'))
theorem f15K0_x0 {R : Type} (n : Nat) (k : List Dt → Option R) (a0 : WorldT)  : f15K0 n (exitK f15e [.ro] [false] true [.tmp 2] [4] [.d .world a0] k) .ret ⟨[(2, .c (.one (.v (.bool false))))], [], []⟩ =
    (k [.d .bool false]) := by kernel_rfl
theorem f15K0_x1 {R : Type} (n : Nat) (k : List Dt → Option R) (a0 : WorldT) (vb1_0 : List ItemT) (vb1_1 : Int) (vb1_2 : List ScaleT) (vb1_3 : Int) (vb1_4 : List ToldT) (xvs3 : Int) (xvs30 : Bool) : f15K0 n (exitK f15e [.ro] [false] true [.tmp 2] [4] [.d .world a0] k) (.exit 0) ⟨[(1, .c (.one (.pt 1 0))), (3, .c (.one (.v (.int .i64 xvs3)))), (30, .c (.one (.v (.bool xvs30))))], [(1, ⟨.world, [.ro .item vb1_0, .v (.int .i64 vb1_1), .ro .scale vb1_2, .v (.int .i64 vb1_3), .ro .told vb1_4]⟩)], []⟩ =
    (cond (sm_world (⟨(⟨vb1_0, vb1_1⟩ : StoreT), vb1_2, vb1_3, vb1_4⟩ : WorldT))
    (k [.d .bool (logOk (⟨(⟨vb1_0, vb1_1⟩ : StoreT), vb1_2, vb1_3, vb1_4⟩ : WorldT))])
    none) := by kernel_rfl

theorem f15_run {R : Type} (n : Nat) (k : List Dt → Option R) (a0 : WorldT) : evFn f15e f15k n f15c [.ro] [false] true [.tmp 2] [4] [.d .world a0] k =
    (cond (sm_store (WorldT.store a0))
    (cond (!(storeOk (WorldT.store a0)))
      (k [.d .bool false])
      (cond (((WorldT.scales a0).length : Int) != ((StoreT.items (WorldT.store a0)).length : Int))
        (k [.d .bool false])
        (cond (!(inR (WorldT.time a0) (0 : Int) (1000000 : Int)))
          (k [.d .bool false])
          (f15L0 n (k [.d .bool false]) (fun (xvs3 : Int) (xvs30 : Bool) =>
            (cond (sm_world (⟨(⟨(StoreT.items (WorldT.store a0)), (StoreT.next (WorldT.store a0))⟩ : StoreT), (WorldT.scales a0), (WorldT.time a0), (WorldT.log a0)⟩ : WorldT))
              (k [.d .bool (logOk (⟨(⟨(StoreT.items (WorldT.store a0)), (StoreT.next (WorldT.store a0))⟩ : StoreT), (WorldT.scales a0), (WorldT.time a0), (WorldT.log a0)⟩ : WorldT))])
              none)) (StoreT.items (WorldT.store a0)) (StoreT.next (WorldT.store a0)) (WorldT.scales a0) (WorldT.time a0) (WorldT.log a0) n (0 : Int)))))
    none) := by
  refine Eq.trans (b := (cond (sm_store (WorldT.store a0))
    (cond (!(storeOk (WorldT.store a0)))
      (k [.d .bool false])
      (cond (((WorldT.scales a0).length : Int) != ((StoreT.items (WorldT.store a0)).length : Int))
        (k [.d .bool false])
        (cond (!(inR (WorldT.time a0) (0 : Int) (1000000 : Int)))
          (k [.d .bool false])
          (iter (fun st k => ev f15e f15k n (cAt [1,1,0,1,0,0] f15c) st k) n ⟨[(1, .c (.one (.pt 1 0))), (3, .c (.one (.v (.int .i64 (0 : Int)))))], [(1, ⟨.world, [.ro .item (StoreT.items (WorldT.store a0)), .v (.int .i64 (StoreT.next (WorldT.store a0))), .ro .scale (WorldT.scales a0), .v (.int .i64 (WorldT.time a0)), .ro .told (WorldT.log a0)]⟩)], []⟩ (f15K0 n (exitK f15e [.ro] [false] true [.tmp 2] [4] [.d .world a0] k))))))
    none)) (by kernel_rfl) ?_
  simp only [f15L0_eq, f15K0_x0, f15K0_x1]
theorem f15_spec (a0 : WorldT) (hg : sm_world a0 = true) : ∃ keep rounds, ∀ {R : Type} (k : List Dt → Option R), evFn f15e keep rounds f15c [.ro] [false] true [.tmp 2] [4] [.d .world a0] k = k [.d .bool (worldOk a0)] := by
  have hg0 := hg
  simp only [sm_world, Bool.and_eq_true] at hg
  obtain ⟨hst, hsc, htm, hlog⟩ := hg
  have n1 := smL_len hsc
  have n2 := smL_len hlog
  refine ⟨f15k, a0.scales.length + a0.log.length + 1, fun {R} k => ?_⟩
  rw [f15_run]
  simp only [hst, isTime, cond_true]
  unfold worldOk
  cases storeOk a0.store
  · rfl
  cases hl2 : ((a0.scales.length : Int) == (a0.store.items.length : Int))
  · rw [show ((a0.scales.length : Int) != (a0.store.items.length : Int)) = true by simp only [bne, hl2]; rfl]; rfl
  rw [show ((a0.scales.length : Int) != (a0.store.items.length : Int)) = false by simp only [bne, hl2]; rfl]
  have hle := eq_of_beq hl2
  cases inR a0.time 0 1000000
  · rfl
  simp only [eta_world2, hg0, Bool.not_true, cond_false, cond_true, Bool.true_and]
  refine Eq.trans (loop_idx (n := a0.scales.length) (F := fun m i => f15L0 (a0.scales.length + a0.log.length + 1) _ _ a0.store.items a0.store.next a0.scales a0.time a0.log m i) (p := scalC a0.scales a0.store.items a0.time) (good := k [.d .bool (logOk a0)]) (bad := k [.d .bool false])
    (fun m j hj => ?_) (fun m => by simp only [f15L0, idxE, cond_false]) (a0.scales.length) 0 (a0.scales.length + a0.log.length + 1) (by omega) (by omega)) ?_
  · obtain ⟨h1, h0, hw, ht⟩ := idx hj (by omega)
    have hx := smL_at (t := .scale) hsc hj
    have hx2 := hx
    simp only [sm_scale, Bool.and_eq_true] at hx2
    have hr := smL_len hx2.2.2
    obtain ⟨g1, _, _, _⟩ := idx (show j < a0.store.items.length by omega) (by omega)
    simp only [f15L0, h1, h0, hw, ht, hx, g1, Bool.and_self, cond_true]
    unfold scalC lateR
    by_cases hz : ((atI (t := .scale) a0.scales j).recs.length : Int) > 0
    · obtain ⟨h2, h3, _, h5⟩ := idx (show (atI (t := .scale) a0.scales j).recs.length - 1 < (atI (t := .scale) a0.scales j).recs.length by omega) (by omega)
      have hwr : IntKind.wrap .i64 (((atI (t := .scale) a0.scales j).recs.length : Int) - 1) = (((atI (t := .scale) a0.scales j).recs.length - 1 : Nat) : Int) := by rw [wrap_id (by omega) (by omega)]; omega
      simp only [hz, decide_true, cond_true, hwr, h2, h3, h5, Bool.and_self, Bool.true_and]
      cases scaleOk (atI (t := .scale) a0.scales j) <;> cases sEq (atI (t := .scale) a0.scales j).name (atI (t := .item) a0.store.items j).order.name <;> cases decide ((atI (t := .rcd) (atI (t := .scale) a0.scales j).recs ((atI (t := .scale) a0.scales j).recs.length - 1)).time > a0.time) <;> rfl
    · simp only [hz, decide_false, cond_false, Bool.false_and]
      cases scaleOk (atI (t := .scale) a0.scales j) <;> cases sEq (atI (t := .scale) a0.scales j).name (atI (t := .item) a0.store.items j).order.name <;> rfl
  unfold logOk
  cases allN (scalC a0.scales a0.store.items a0.time) 0 a0.scales.length <;> rfl

noncomputable def q15 : List Dt → Option (Bool × List Dt)
  | [.d .world a0] => some ((sm_world a0), [.d .bool (worldOk a0)])
  | _ => none
noncomputable def s15 : Gm.Spec := Gm.Spec.of [.ro] [false] true q15
theorem good15 : Gm.Good Try.prog (15, s15) := by
  have hl : ∀ x ∈ [(16, s16), (30, s30), (31, s31), (32, s32)], Gm.Good Try.prog x := List.forall_mem_cons.2 ⟨good16, List.forall_mem_cons.2 ⟨good30, List.forall_mem_cons.2 ⟨good31, List.forall_mem_cons.2 ⟨good32, List.forall_mem_nil _⟩⟩⟩⟩
  refine ⟨⟨spec_ok (tab_ok.env hl) (tab.natl hl) Try.func15 (by kernel_rfl : Try.f15.body = some f15c) [4] (by kernel_rfl) ?_, _, Try.func15, by kernel_rfl, of_decide_eq_true (by kernel_rfl)⟩, Gm.Spec.of_natl _ _ _ _⟩
  intro ds outs h
  unfold q15 at h
  split at h
  · simp only [Option.some.injEq, Prod.mk.injEq] at h; obtain ⟨hg, h⟩ := h; cases h; exact f15_spec _ hg
  · cases h
end Go.Proofs.Ytaeepnmdfdmgjaa

/- x -/
namespace Go.Proofs.Ytaeepnmdfdmgjaa
open Go Go.Gm
/-! ### loop.example/g00465/impl.JudgeVers -/
noncomputable def f11c : Code := (Try.f11.body).getD .skip
def f11k : Nat → Kp := kat [⟨[1], [], [], []⟩, ⟨[2], [], [], []⟩]
noncomputable def f11e : Env := tab.env [(20, s20)]
theorem f11_run {R : Type} (n : Nat) (k : List Dt → Option R) (a0 : WorldT) : evFn f11e f11k n f11c [.ro] [false] true [.tmp 2] [4] [.d .world a0] k =
    (cond (sm_world a0)
    (cond (worldOk a0)
      (k [.d .bool (decide ((IntKind.wrap .i64 ((StoreT.next (WorldT.store a0)) - (1 : Int))) ≥ ((StoreT.items (WorldT.store a0)).length : Int)))])
      (k [.d .bool false]))
    none) := by kernel_rfl
theorem f11_spec (a0 : WorldT) (hg : sm_world a0 = true) : ∃ keep rounds, ∀ {R : Type} (k : List Dt → Option R), evFn f11e keep rounds f11c [.ro] [false] true [.tmp 2] [4] [.d .world a0] k = k [.d .bool (judgeV a0)] := by
  refine ⟨f11k, 0, fun {R} k => ?_⟩
  rw [f11_run, hg]
  unfold judgeV
  cases hw : worldOk a0
  · rfl
  have hb := inR_iff.1 (storeOk_items (worldOk_store hw)).1
  rw [wrap_id (x := a0.store.next - 1) (by omega) (by omega)]
  rfl

noncomputable def q11 : List Dt → Option (Bool × List Dt)
  | [.d .world a0] => some ((sm_world a0), [.d .bool (judgeV a0)])
  | _ => none
noncomputable def s11 : Gm.Spec := Gm.Spec.of [.ro] [false] true q11
theorem good11 : Gm.Good Try.prog (11, s11) := by
  have hl : ∀ x ∈ [(20, s20)], Gm.Good Try.prog x := List.forall_mem_cons.2 ⟨good20, List.forall_mem_nil _⟩
  refine ⟨⟨spec_ok (tab_ok.env hl) (tab.natl hl) Try.func11 (by kernel_rfl : Try.f11.body = some f11c) [4] (by kernel_rfl) ?_, _, Try.func11, by kernel_rfl, of_decide_eq_true (by kernel_rfl)⟩, Gm.Spec.of_natl _ _ _ _⟩
  intro ds outs h
  unfold q11 at h
  split at h
  · simp only [Option.some.injEq, Prod.mk.injEq] at h; obtain ⟨hg, h⟩ := h; cases h; exact f11_spec _ hg
  · cases h
/-! ### loop.example/g00465/spec.JudgeVers -/
noncomputable def f10c : Code := (Try.f10.body).getD .skip
def f10k : Nat → Kp := kat [⟨[1], [], [], []⟩, ⟨[1, 7], [], [], []⟩, ⟨[2], [], [], []⟩, ⟨[1, 3], [], [], []⟩, ⟨[1, 3, 13], [], [], []⟩, ⟨[1, 3], [], [], []⟩, ⟨[1, 3, 4], [], [], []⟩, ⟨[1, 3, 4, 18], [], [], []⟩, ⟨[1, 3, 4], [], [], []⟩, ⟨[1, 3, 4, 35], [], [], []⟩, ⟨[2], [], [], []⟩, ⟨[1, 3, 46], [], [], []⟩, ⟨[2], [], [], []⟩, ⟨[2], [], [], []⟩]
noncomputable def f10e : Env := tab.env [(15, s15)]
noncomputable def f10L0 {R : Type} (n : Nat) (x0 : Option R) (x1 : Int → Bool → Option R) (vs3 : Int) (vb1_0 : List ItemT) (vb1_1 : Int) (vb1_2 : List ScaleT) (vb1_3 : Int) (vb1_4 : List ToldT) : Nat → Int → Option R
  | 0, _ => none
  | m + 1, vs4 =>
    (cond (decide (vs4 < vs3))
      (cond ((decide ((0 : Int) ≤ vs3)) && (decide (vs3 < (vb1_0.length : Int))))
        (cond ((decide ((0 : Int) ≤ vs4)) && (decide (vs4 < (vb1_0.length : Int))))
          (cond ((ItemT.ver (atI (t := .item) vb1_0 (Int.toNat vs3))) == (ItemT.ver (atI (t := .item) vb1_0 (Int.toNat vs4))))
            (x0)
            (f10L0 n x0 x1 vs3 vb1_0 vb1_1 vb1_2 vb1_3 vb1_4 m (IntKind.wrap .i64 (vs4 + (1 : Int)))))
          none)
        none)
      (x1 vs4 (decide (vs4 < vs3))))
theorem f10L0_b {R : Type} (n : Nat) (k' : Ex → St → Option R) (vs3 : Int) (vs4 : Int) (vb1_0 : List ItemT) (vb1_1 : Int) (vb1_2 : List ScaleT) (vb1_3 : Int) (vb1_4 : List ToldT) : ev f10e f10k n (cAt [1,1,0,1,0,0,1,0,0,0,1,0,0] f10c) ⟨[(1, .c (.one (.pt 1 0))), (3, .c (.one (.v (.int .i64 vs3)))), (4, .c (.one (.v (.int .i64 vs4))))], [(1, ⟨.world, [.ro .item vb1_0, .v (.int .i64 vb1_1), .ro .scale vb1_2, .v (.int .i64 vb1_3), .ro .told vb1_4]⟩)], []⟩ k' =
    (cond (decide (vs4 < vs3))
    (cond ((decide ((0 : Int) ≤ vs3)) && (decide (vs3 < (vb1_0.length : Int))))
      (cond ((decide ((0 : Int) ≤ vs4)) && (decide (vs4 < (vb1_0.length : Int))))
        (cond ((ItemT.ver (atI (t := .item) vb1_0 (Int.toNat vs3))) == (ItemT.ver (atI (t := .item) vb1_0 (Int.toNat vs4))))
          (k' .ret ⟨[(2, .c (.one (.v (.bool false))))], [], []⟩)
          (k' .normal ⟨[(1, .c (.one (.pt 1 0))), (3, .c (.one (.v (.int .i64 vs3)))), (4, .c (.one (.v (.int .i64 (IntKind.wrap .i64 (vs4 + (1 : Int)))))))], [(1, ⟨.world, [.ro .item vb1_0, .v (.int .i64 vb1_1), .ro .scale vb1_2, .v (.int .i64 vb1_3), .ro .told vb1_4]⟩)], []⟩))
        none)
      none)
    (k' (.exit 2) ⟨[(1, .c (.one (.pt 1 0))), (3, .c (.one (.v (.int .i64 vs3)))), (4, .c (.one (.v (.int .i64 vs4)))), (18, .c (.one (.v (.bool (decide (vs4 < vs3))))))], [(1, ⟨.world, [.ro .item vb1_0, .v (.int .i64 vb1_1), .ro .scale vb1_2, .v (.int .i64 vb1_3), .ro .told vb1_4]⟩)], []⟩)) := by kernel_rfl
theorem f10L0_eq {R : Type} (n : Nat) (k' : Ex → St → Option R) (vs3 : Int) (vb1_0 : List ItemT) (vb1_1 : Int) (vb1_2 : List ScaleT) (vb1_3 : Int) (vb1_4 : List ToldT) : ∀ (m : Nat) (vs4 : Int), iter (fun st k => ev f10e f10k n (cAt [1,1,0,1,0,0,1,0,0,0,1,0,0] f10c) st k) m ⟨[(1, .c (.one (.pt 1 0))), (3, .c (.one (.v (.int .i64 vs3)))), (4, .c (.one (.v (.int .i64 vs4))))], [(1, ⟨.world, [.ro .item vb1_0, .v (.int .i64 vb1_1), .ro .scale vb1_2, .v (.int .i64 vb1_3), .ro .told vb1_4]⟩)], []⟩ k' = f10L0 n (k' .ret ⟨[(2, .c (.one (.v (.bool false))))], [], []⟩) (fun (xvs4 : Int) (xvs18 : Bool) => k' (.exit 2) ⟨[(1, .c (.one (.pt 1 0))), (3, .c (.one (.v (.int .i64 vs3)))), (4, .c (.one (.v (.int .i64 xvs4)))), (18, .c (.one (.v (.bool xvs18))))], [(1, ⟨.world, [.ro .item vb1_0, .v (.int .i64 vb1_1), .ro .scale vb1_2, .v (.int .i64 vb1_3), .ro .told vb1_4]⟩)], []⟩) vs3 vb1_0 vb1_1 vb1_2 vb1_3 vb1_4 m vs4 := by
  intro m; induction m with
  | zero => intros; rfl
  | succ m ih =>
    intro vs4
    simp only [iter]
    rw [f10L0_b]
    simp only [ih, f10L0]

noncomputable def f10K0 {R : Type} (n : Nat) (k' : Ex → St → Option R) : Ex → St → Option R := (blockK 2 (seqK f10e f10k n (cAt [1,1,0,1,0,0,1,0,0,1] f10c) (blockK 1 (seqK f10e f10k n (cAt [1,1,0,1,0,0,1,1] f10c) k'))))
theorem f10K0_x0 {R : Type} (n : Nat) (k' : Ex → St → Option R)  : f10K0 n k' .ret ⟨[(2, .c (.one (.v (.bool false))))], [], []⟩ =
    (k' .ret ⟨[(2, .c (.one (.v (.bool false))))], [], []⟩) := by kernel_rfl
theorem f10K0_x1 {R : Type} (n : Nat) (k' : Ex → St → Option R) (vs3 : Int) (vb1_0 : List ItemT) (vb1_1 : Int) (vb1_2 : List ScaleT) (vb1_3 : Int) (vb1_4 : List ToldT) (xvs4 : Int) (xvs18 : Bool) : f10K0 n k' (.exit 2) ⟨[(1, .c (.one (.pt 1 0))), (3, .c (.one (.v (.int .i64 vs3)))), (4, .c (.one (.v (.int .i64 xvs4)))), (18, .c (.one (.v (.bool xvs18))))], [(1, ⟨.world, [.ro .item vb1_0, .v (.int .i64 vb1_1), .ro .scale vb1_2, .v (.int .i64 vb1_3), .ro .told vb1_4]⟩)], []⟩ =
    (cond ((decide ((0 : Int) ≤ vs3)) && (decide (vs3 < (vb1_0.length : Int))))
    (cond (decide ((ItemT.ver (atI (t := .item) vb1_0 (Int.toNat vs3))) ≥ vb1_1))
      (k' .ret ⟨[(2, .c (.one (.v (.bool false))))], [], []⟩)
      (k' .normal ⟨[(1, .c (.one (.pt 1 0))), (3, .c (.one (.v (.int .i64 (IntKind.wrap .i64 (vs3 + (1 : Int)))))))], [(1, ⟨.world, [.ro .item vb1_0, .v (.int .i64 vb1_1), .ro .scale vb1_2, .v (.int .i64 vb1_3), .ro .told vb1_4]⟩)], []⟩))
    none) := by kernel_rfl

noncomputable def f10L1 {R : Type} (n : Nat) (x0 : Option R) (x1 : Int → Bool → Option R) (vb1_0 : List ItemT) (vb1_1 : Int) (vb1_2 : List ScaleT) (vb1_3 : Int) (vb1_4 : List ToldT) : Nat → Int → Option R
  | 0, _ => none
  | m + 1, vs3 =>
    (cond (decide (vs3 < (vb1_0.length : Int)))
      (f10L0 n (x0) (fun (xvs4 : Int) (xvs18 : Bool) =>
        (cond ((decide ((0 : Int) ≤ vs3)) && (decide (vs3 < (vb1_0.length : Int))))
          (cond (decide ((ItemT.ver (atI (t := .item) vb1_0 (Int.toNat vs3))) ≥ vb1_1))
            (x0)
            (f10L1 n x0 x1 vb1_0 vb1_1 vb1_2 vb1_3 vb1_4 m (IntKind.wrap .i64 (vs3 + (1 : Int)))))
          none)) vs3 vb1_0 vb1_1 vb1_2 vb1_3 vb1_4 n (0 : Int))
      (x1 vs3 (decide (vs3 < (vb1_0.length : Int)))))
theorem f10L1_b {R : Type} (n : Nat) (k' : Ex → St → Option R) (vs3 : Int) (vb1_0 : List ItemT) (vb1_1 : Int) (vb1_2 : List ScaleT) (vb1_3 : Int) (vb1_4 : List ToldT) : ev f10e f10k n (cAt [1,1,0,1,0,0] f10c) ⟨[(1, .c (.one (.pt 1 0))), (3, .c (.one (.v (.int .i64 vs3))))], [(1, ⟨.world, [.ro .item vb1_0, .v (.int .i64 vb1_1), .ro .scale vb1_2, .v (.int .i64 vb1_3), .ro .told vb1_4]⟩)], []⟩ k' =
    (cond (decide (vs3 < (vb1_0.length : Int)))
    (f10L0 n (k' .ret ⟨[(2, .c (.one (.v (.bool false))))], [], []⟩) (fun (xvs4 : Int) (xvs18 : Bool) =>
      (cond ((decide ((0 : Int) ≤ vs3)) && (decide (vs3 < (vb1_0.length : Int))))
        (cond (decide ((ItemT.ver (atI (t := .item) vb1_0 (Int.toNat vs3))) ≥ vb1_1))
          (k' .ret ⟨[(2, .c (.one (.v (.bool false))))], [], []⟩)
          (k' .normal ⟨[(1, .c (.one (.pt 1 0))), (3, .c (.one (.v (.int .i64 (IntKind.wrap .i64 (vs3 + (1 : Int)))))))], [(1, ⟨.world, [.ro .item vb1_0, .v (.int .i64 vb1_1), .ro .scale vb1_2, .v (.int .i64 vb1_3), .ro .told vb1_4]⟩)], []⟩))
        none)) vs3 vb1_0 vb1_1 vb1_2 vb1_3 vb1_4 n (0 : Int))
    (k' (.exit 0) ⟨[(1, .c (.one (.pt 1 0))), (3, .c (.one (.v (.int .i64 vs3)))), (13, .c (.one (.v (.bool (decide (vs3 < (vb1_0.length : Int)))))))], [(1, ⟨.world, [.ro .item vb1_0, .v (.int .i64 vb1_1), .ro .scale vb1_2, .v (.int .i64 vb1_3), .ro .told vb1_4]⟩)], []⟩)) := by
  refine Eq.trans (b := (cond (decide (vs3 < (vb1_0.length : Int)))
    (iter (fun st k => ev f10e f10k n (cAt [1,1,0,1,0,0,1,0,0,0,1,0,0] f10c) st k) n ⟨[(1, .c (.one (.pt 1 0))), (3, .c (.one (.v (.int .i64 vs3)))), (4, .c (.one (.v (.int .i64 (0 : Int)))))], [(1, ⟨.world, [.ro .item vb1_0, .v (.int .i64 vb1_1), .ro .scale vb1_2, .v (.int .i64 vb1_3), .ro .told vb1_4]⟩)], []⟩ (f10K0 n k'))
    (k' (.exit 0) ⟨[(1, .c (.one (.pt 1 0))), (3, .c (.one (.v (.int .i64 vs3)))), (13, .c (.one (.v (.bool (decide (vs3 < (vb1_0.length : Int)))))))], [(1, ⟨.world, [.ro .item vb1_0, .v (.int .i64 vb1_1), .ro .scale vb1_2, .v (.int .i64 vb1_3), .ro .told vb1_4]⟩)], []⟩))) (by kernel_rfl) ?_
  simp only [f10L0_eq, f10K0_x0, f10K0_x1]
theorem f10L1_eq {R : Type} (n : Nat) (k' : Ex → St → Option R) (vb1_0 : List ItemT) (vb1_1 : Int) (vb1_2 : List ScaleT) (vb1_3 : Int) (vb1_4 : List ToldT) : ∀ (m : Nat) (vs3 : Int), iter (fun st k => ev f10e f10k n (cAt [1,1,0,1,0,0] f10c) st k) m ⟨[(1, .c (.one (.pt 1 0))), (3, .c (.one (.v (.int .i64 vs3))))], [(1, ⟨.world, [.ro .item vb1_0, .v (.int .i64 vb1_1), .ro .scale vb1_2, .v (.int .i64 vb1_3), .ro .told vb1_4]⟩)], []⟩ k' = f10L1 n (k' .ret ⟨[(2, .c (.one (.v (.bool false))))], [], []⟩) (fun (xvs3 : Int) (xvs13 : Bool) => k' (.exit 0) ⟨[(1, .c (.one (.pt 1 0))), (3, .c (.one (.v (.int .i64 xvs3)))), (13, .c (.one (.v (.bool xvs13))))], [(1, ⟨.world, [.ro .item vb1_0, .v (.int .i64 vb1_1), .ro .scale vb1_2, .v (.int .i64 vb1_3), .ro .told vb1_4]⟩)], []⟩) vb1_0 vb1_1 vb1_2 vb1_3 vb1_4 m vs3 := by
  intro m; induction m with
  | zero => intros; rfl
  | succ m ih =>
    intro vs3
    simp only [iter]
    rw [f10L1_b]
    simp only [ih, f10L1]

noncomputable def f10K1 {R : Type} (n : Nat) (k' : Ex → St → Option R) : Ex → St → Option R := (blockK 0 (seqK f10e f10k n (cAt [1,1,1] f10c) k'))
theorem f10K1_x0 {R : Type} (n : Nat) (k : List Dt → Option R) (a0 : WorldT)  : f10K1 n (exitK f10e [.ro] [false] true [.tmp 2] [4] [.d .world a0] k) .ret ⟨[(2, .c (.one (.v (.bool false))))], [], []⟩ =
    (k [.d .bool false]) := by kernel_rfl
theorem f10K1_x1 {R : Type} (n : Nat) (k : List Dt → Option R) (a0 : WorldT) (vb1_0 : List ItemT) (vb1_1 : Int) (vb1_2 : List ScaleT) (vb1_3 : Int) (vb1_4 : List ToldT) (xvs3 : Int) (xvs13 : Bool) : f10K1 n (exitK f10e [.ro] [false] true [.tmp 2] [4] [.d .world a0] k) (.exit 0) ⟨[(1, .c (.one (.pt 1 0))), (3, .c (.one (.v (.int .i64 xvs3)))), (13, .c (.one (.v (.bool xvs13))))], [(1, ⟨.world, [.ro .item vb1_0, .v (.int .i64 vb1_1), .ro .scale vb1_2, .v (.int .i64 vb1_3), .ro .told vb1_4]⟩)], []⟩ =
    (k [.d .bool (decide ((IntKind.wrap .i64 (vb1_1 - (1 : Int))) ≥ (vb1_0.length : Int)))]) := by kernel_rfl

theorem f10_run {R : Type} (n : Nat) (k : List Dt → Option R) (a0 : WorldT) : evFn f10e f10k n f10c [.ro] [false] true [.tmp 2] [4] [.d .world a0] k =
    (cond (sm_world a0)
    (cond (!(worldOk a0))
      (k [.d .bool false])
      (f10L1 n (k [.d .bool false]) (fun (xvs3 : Int) (xvs13 : Bool) =>
        (k [.d .bool (decide ((IntKind.wrap .i64 ((StoreT.next (WorldT.store a0)) - (1 : Int))) ≥ ((StoreT.items (WorldT.store a0)).length : Int)))])) (StoreT.items (WorldT.store a0)) (StoreT.next (WorldT.store a0)) (WorldT.scales a0) (WorldT.time a0) (WorldT.log a0) n (0 : Int)))
    none) := by
  refine Eq.trans (b := (cond (sm_world a0)
    (cond (!(worldOk a0))
      (k [.d .bool false])
      (iter (fun st k => ev f10e f10k n (cAt [1,1,0,1,0,0] f10c) st k) n ⟨[(1, .c (.one (.pt 1 0))), (3, .c (.one (.v (.int .i64 (0 : Int)))))], [(1, ⟨.world, [.ro .item (StoreT.items (WorldT.store a0)), .v (.int .i64 (StoreT.next (WorldT.store a0))), .ro .scale (WorldT.scales a0), .v (.int .i64 (WorldT.time a0)), .ro .told (WorldT.log a0)]⟩)], []⟩ (f10K1 n (exitK f10e [.ro] [false] true [.tmp 2] [4] [.d .world a0] k))))
    none)) (by kernel_rfl) ?_
  simp only [f10L1_eq, f10K1_x0, f10K1_x1]
theorem f10_spec (a0 : WorldT) (hg : sm_world a0 = true) : ∃ keep rounds, ∀ {R : Type} (k : List Dt → Option R), evFn f10e keep rounds f10c [.ro] [false] true [.tmp 2] [4] [.d .world a0] k = k [.d .bool (judgeV a0)] := by
  have hg0 := hg
  simp only [sm_world, Bool.and_eq_true] at hg
  obtain ⟨hst, hsc, htm, hlog⟩ := hg
  have n1 := smL_len hsc
  have n2 := smL_len hlog
  have n3 : a0.store.items.length ≤ 1048576 := by
    simp only [sm_store, Bool.and_eq_true] at hst; exact smL_len hst.1
  refine ⟨f10k, a0.store.items.length + 1, fun {R} k => ?_⟩
  rw [f10_run, hg0]
  unfold judgeV
  cases hw : worldOk a0
  · rfl
  obtain ⟨hb, hit⟩ := storeOk_items (worldOk_store hw)
  have hb := inR_iff.1 hb
  rw [wrap_id (x := a0.store.next - 1) (by omega) (by omega)]
  simp only [Bool.not_true, cond_false, cond_true, Bool.true_and]
  refine Eq.trans (loop_idx (n := a0.store.items.length) (F := fun m i => f10L1 (a0.store.items.length + 1) _ _ a0.store.items a0.store.next a0.scales a0.time a0.log m i) (p := fun _ => true) (good := _) (bad := k [.d .bool false])
    (fun m j hj => ?_) (fun m => by simp only [f10L1, idxE, cond_false]; rfl) (a0.store.items.length) 0 (a0.store.items.length + 1) (by omega) (by omega)) ?_
  · obtain ⟨h1, h0, hw, ht⟩ := idx hj (by omega)
    obtain ⟨hv1, hv2⟩ := itemC_vers (hit j hj) hj
    have hv : decide ((atI (t := .item) a0.store.items j).ver ≥ a0.store.next) = false := decide_eq_false (by omega)
    have inner : ∀ good : Option R, f10L0 (a0.store.items.length + 1) (k [.d .bool false]) (fun _ _ => good) (j : Int) a0.store.items a0.store.next a0.scales a0.time a0.log (a0.store.items.length + 1) (0 : Int) = good := by
      intro good
      refine Eq.trans (loop_idx (n := j) (F := fun m i => f10L0 (a0.store.items.length + 1) (k [.d .bool false]) (fun _ _ => good) (j : Int) a0.store.items a0.store.next a0.scales a0.time a0.log m i) (p := fun _ => true) (good := good) (bad := k [.d .bool false])
        (fun m q hq => ?_) (fun m => ?_) j 0 (a0.store.items.length + 1) (by omega) (by omega)) ?_
      · obtain ⟨g1, g0, gw, gt⟩ := idx hq (by omega)
        obtain ⟨g2, _, _, _⟩ := idx (show q < a0.store.items.length by omega) (by omega)
        simp only [f10L0, g1, g0, gw, gt, g2, h1, h0, ht, hv2 q hq, Bool.and_self, cond_true, cond_false]
      · have : decide ((j : Int) < (j : Int)) = false := decide_eq_false (by omega)
        simp only [f10L0, this, cond_false]
      · rw [allN_iff.2 fun _ _ _ => rfl]; rfl
    simp only [f10L1, h1, h0, hw, ht, inner, hv, Bool.and_self, cond_true]
    rfl
  rw [allN_iff.2 fun _ _ _ => rfl]
  rfl

noncomputable def q10 : List Dt → Option (Bool × List Dt)
  | [.d .world a0] => some ((sm_world a0), [.d .bool (judgeV a0)])
  | _ => none
noncomputable def s10 : Gm.Spec := Gm.Spec.of [.ro] [false] true q10
theorem good10 : Gm.Good Try.prog (10, s10) := by
  have hl : ∀ x ∈ [(15, s15)], Gm.Good Try.prog x := List.forall_mem_cons.2 ⟨good15, List.forall_mem_nil _⟩
  refine ⟨⟨spec_ok (tab_ok.env hl) (tab.natl hl) Try.func10 (by kernel_rfl : Try.f10.body = some f10c) [4] (by kernel_rfl) ?_, _, Try.func10, by kernel_rfl, of_decide_eq_true (by kernel_rfl)⟩, Gm.Spec.of_natl _ _ _ _⟩
  intro ds outs h
  unfold q10 at h
  split at h
  · simp only [Option.some.injEq, Prod.mk.injEq] at h; obtain ⟨hg, h⟩ := h; cases h; exact f10_spec _ hg
  · cases h
end Go.Proofs.Ytaeepnmdfdmgjaa

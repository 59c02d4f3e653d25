/- What the functions compute, part 3. No conditions. -/
import Derived.Test.YtklmnopgogcbhaaChosenFn2
/- x -/
namespace Go.Proofs.Ytklmnopgogcbhaa
open Go Go.Gm
/-! ### loop.example/g00465/laws.FnExactChosen -/
noncomputable def f7c : Code := (Try.f7.body).getD .skip
def f7k : Nat → Kp := kat [⟨[1, 2], []⟩, ⟨[1, 2, 5], []⟩, ⟨[1, 2, 5], []⟩, ⟨[1, 2, 5, 18], []⟩, ⟨[4], []⟩, ⟨[1, 2, 5], []⟩, ⟨[1, 2, 23], []⟩, ⟨[4], []⟩, ⟨[1, 2, 6], []⟩, ⟨[1, 2, 6, 7], []⟩, ⟨[1, 2, 6, 7, 8], []⟩, ⟨[1, 2, 6, 7, 8, 9], []⟩, ⟨[1, 2, 6, 7, 8, 9, 39], []⟩, ⟨[4], []⟩, ⟨[1, 2, 6, 7, 8, 9, 44], []⟩, ⟨[4], []⟩, ⟨[1, 2, 6, 7, 8, 9, 49], []⟩, ⟨[4], []⟩, ⟨[1, 2, 6, 7, 8, 9, 10], []⟩, ⟨[1, 2, 6, 8, 9, 10], []⟩, ⟨[1, 2, 6, 9, 10], []⟩, ⟨[1, 2, 6, 9, 63], []⟩, ⟨[4], []⟩, ⟨[1, 2, 6, 9, 11], []⟩, ⟨[1, 2, 6, 9, 11], []⟩, ⟨[1, 2, 6, 9, 11, 12], []⟩, ⟨[1, 2, 6, 9, 11, 12], []⟩, ⟨[1, 2, 6, 9, 11, 12, 71], []⟩, ⟨[4], []⟩, ⟨[1, 2, 6, 9, 11, 74], []⟩, ⟨[4], []⟩, ⟨[6, 9, 11, 13], []⟩, ⟨[9, 11, 83], []⟩, ⟨[4], []⟩, ⟨[9, 11, 12], []⟩, ⟨[11, 12], []⟩, ⟨[11, 12, 88], []⟩, ⟨[4], []⟩, ⟨[91], []⟩, ⟨[4], []⟩, ⟨[4], []⟩]
noncomputable def f7e : Env := tab.env [(22, s22), (24, s24), (26, s26), (27, s27), (28, s28), (29, s29), (30, s30), (31, s31), (32, s32), (33, s33), (34, s34), (35, s35), (36, s36)]
theorem f7_run {R : Type} (n : Nat) (k : List Dt → Option R) (a0 : StoreT) (a1 : List PickT) : evFn f7e f7k n f7c [.ro, .ro] [false] true [.tmp 4] [4] [.d .store a0, .d (.sl .pick) a1] k =
    (cond (gz_store a0 (1048576 : Int))
    (cond (decide ((z_store a0 (1048576 : Int)) < (0 : Int)))
      (k [.d .bool true])
      (cond (gzL_pick a1 (z_store a0 (1048576 : Int)))
        (cond (decide ((zL_pick a1 (z_store a0 (1048576 : Int))) < (0 : Int)))
          (k [.d .bool true])
          (cond (sm_store a0)
            (cond (smL sm_pick a1)
              (cond (gChosen a0 a1)
                (cond (sm_store a0)
                  (cond (smL sm_pick a1)
                    (cond (gChosen a0 a1)
                      (cond (sm2 (smL smStr) (chosen a0 a1) (chosen a0 a1))
                        (cond (!(eqD (chosen a0 a1) (chosen a0 a1)))
                          (k [.d .bool false])
                          (cond (sm_store a0)
                            (cond (sm2 sm_store a0 a0)
                              (cond (!(eqD a0 a0))
                                (k [.d .bool false])
                                (cond (smL sm_pick a1)
                                  (cond (sm2 (smL sm_pick) a1 a1)
                                    (cond (!(eqD a1 a1))
                                      (k [.d .bool false])
                                      (cond ((fun (x : StoreT) (k : Int) => gmk k (cts_store x)) a0 (1 : Int))
                                        (cond ((fun (x : List PickT) (k : Int) => gmk k (ctL ct_pick x)) a1 (mks_store (1 : Int) a0).2)
                                          (cond (decide ((mkL mk_pick (mks_store (1 : Int) a0).2 a1).2 < (0 : Int)))
                                            (k [.d .bool false])
                                            (cond (sm2 (smL smStr) (chosen a0 a1) (chosen a0 a1))
                                              (cond (!(eqD (chosen a0 a1) (chosen a0 a1)))
                                                (k [.d .bool false])
                                                (cond ((fun (x : List ByteArray) (k : Int) => gmk k (ctL ct_str x)) (chosen a0 a1) (1 : Int))
                                                  (cond ((fun (x : List ByteArray) (k : Int) => gmk k (ctL ct_str x)) (mkL mk_str (1 : Int) (chosen a0 a1)).1 (1 : Int))
                                                    (cond (decide ((hdL mk_str (1 : Int) (mkL mk_str (1 : Int) (chosen a0 a1)).1) < (0 : Int)))
                                                      (k [.d .bool false])
                                                      (cond ((hdL mk_str (1 : Int) (mkL mk_str (1 : Int) (chosen a0 a1)).1) != (mkL mk_str (1 : Int) (chosen a0 a1)).2)
                                                        (k [.d .bool false])
                                                        (cond (sm_store a0)
                                                          (cond (smL sm_pick a1)
                                                            (cond (gChosen a0 a1)
                                                              (cond (sm2 (smL smStr) (chosen a0 a1) (chosen a0 a1))
                                                                (cond (!(eqD (chosen a0 a1) (chosen a0 a1)))
                                                                  (k [.d .bool false])
                                                                  (cond ((fun (x : List ByteArray) (k : Int) => gmk k (ctL ct_str x)) (mkL mk_str (1 : Int) (chosen a0 a1)).1 (1 : Int))
                                                                    (cond (decide ((hdL mk_str (1 : Int) (mkL mk_str (1 : Int) (chosen a0 a1)).1) < (0 : Int)))
                                                                      (k [.d .bool false])
                                                                      (cond ((hdL mk_str (1 : Int) (mkL mk_str (1 : Int) (chosen a0 a1)).1) != (mkL mk_str (1 : Int) (chosen a0 a1)).2)
                                                                        (k [.d .bool false])
                                                                        (k [.d .bool true])))
                                                                    none))
                                                                none)
                                                              none)
                                                            none)
                                                          none)))
                                                    none)
                                                  none))
                                              none))
                                          none)
                                        none))
                                    none)
                                  none))
                              none)
                            none))
                        none)
                      none)
                    none)
                  none)
                none)
              none)
            none))
        none))
    none) := by kernel_rfl
theorem f7_spec (a0 : StoreT) (a1 : List PickT) (hg : (ok_store a0 && okL ok_pick a1) = true) : ∃ keep rounds, ∀ {R : Type} (k : List Dt → Option R), evFn f7e keep rounds f7c [.ro, .ro] [false] true [.tmp 4] [4] [.d .store a0, .d (.sl .pick) a1] k = k [.d .bool ((fun (_ : StoreT) (_ : List PickT) => true) a0 a1)] := by
  simp only [Bool.and_eq_true] at hg
  obtain ⟨hg0, hg1⟩ := hg
  refine ⟨f7k, 0, fun {R} k => ?_⟩
  rw [f7_run]
  have g0 : gz_store a0 (1048576 : Int) = true := by simp only [gz_store, Bool.and_eq_true, okN_iff]; exact ⟨hg0, by omega, by omega⟩
  have e0 : z_store a0 (1048576 : Int) = szI (szN_store a0) (1048576 : Int) := rfl
  by_cases c0 : szI (szN_store a0) (1048576 : Int) < 0
  · simp only [g0, e0, c0, decide_true, decide_false, cond_true, cond_false]
  have b0 : szI (szN_store a0) (1048576 : Int) = (1048576 : Int) - ((szN_store a0) : Nat) := by
    by_cases h : (1048576 : Int) - ((szN_store a0) : Nat) < 0
    · rw [szI_neg h] at c0; omega
    · exact szI_pos h
  have s0 : sm_store a0 = true := sm_store_of hg0 (by omega)
  have n0 : 0 ≤ (szI (szN_store a0) (1048576 : Int)) ∧ (szI (szN_store a0) (1048576 : Int)) ≤ 1048576 := by omega
  have g1 : gzL_pick a1 (szI (szN_store a0) (1048576 : Int)) = true := by simp only [gzL_pick, Bool.and_eq_true, okN_iff]; exact ⟨hg1, by omega, by omega⟩
  have e1 : zL_pick a1 (szI (szN_store a0) (1048576 : Int)) = szI (szL szN_pick a1) (szI (szN_store a0) (1048576 : Int)) := rfl
  by_cases c1 : szI (szL szN_pick a1) (szI (szN_store a0) (1048576 : Int)) < 0
  · simp only [g0, e0, c0, g1, e1, c1, decide_true, decide_false, cond_true, cond_false]
  have b1 : szI (szL szN_pick a1) (szI (szN_store a0) (1048576 : Int)) = (szI (szN_store a0) (1048576 : Int)) - ((szL szN_pick a1) : Nat) := by
    by_cases h : (szI (szN_store a0) (1048576 : Int)) - ((szL szN_pick a1) : Nat) < 0
    · rw [szI_neg h] at c1; omega
    · exact szI_pos h
  have s1 : smL sm_pick a1 = true := smL_of hg1 (show szL szN_pick a1 ≤ 1048576 by omega) (fun x hx h => sm_pick_of hx h)
  have n1 : 0 ≤ (szI (szL szN_pick a1) (szI (szN_store a0) (1048576 : Int))) ∧ (szI (szL szN_pick a1) (szI (szN_store a0) (1048576 : Int))) ≤ 1048576 := by omega
  have p0 := cts_store_le a0
  have p1 := ctL_le ct_pick_le a1
  have f0 : gChosen a0 a1 = true := by unfold gChosen; rw [s0, s1]; rfl
  have f1 : smL smStr (chosen a0 a1) = true := chosen_sm s0
  have f2 := smL_len f1
  simp (disch := omega) only [g0, e0, c0, g1, e1, c1, s0, s1, sm2, gmk_of, decide_ge0, decide_false, cond_true, cond_false, Bool.and_self, bne_self_eq_false, beq_self_eq_true, sEq_self, eqD_self, Bool.not_true, f0, f1, mks_store_ct, mkL_pick_ct, mkL_str_ct, ctL_str, mkL_len, hdL_marked mk_str_idem]

noncomputable def q7 : List Dt → Option (Bool × List Dt)
  | [.d .store a0, .d (.sl .pick) a1] => some (((fun (x0 : StoreT) (x1 : List PickT) => ok_store x0 && okL ok_pick x1) a0 a1), [.d .bool ((fun (_ : StoreT) (_ : List PickT) => true) a0 a1)])
  | _ => none
noncomputable def s7 : Gm.Spec := Gm.Spec.of [.ro, .ro] [false] true q7
theorem good7 : Gm.Good Try.prog (7, s7) := by
  have hl : ∀ x ∈ [(22, s22), (24, s24), (26, s26), (27, s27), (28, s28), (29, s29), (30, s30), (31, s31), (32, s32), (33, s33), (34, s34), (35, s35), (36, s36)], Gm.Good Try.prog x := List.forall_mem_cons.2 ⟨good22, List.forall_mem_cons.2 ⟨good24, List.forall_mem_cons.2 ⟨good26, List.forall_mem_cons.2 ⟨good27, List.forall_mem_cons.2 ⟨good28, List.forall_mem_cons.2 ⟨good29, List.forall_mem_cons.2 ⟨good30, List.forall_mem_cons.2 ⟨good31, List.forall_mem_cons.2 ⟨good32, List.forall_mem_cons.2 ⟨good33, List.forall_mem_cons.2 ⟨good34, List.forall_mem_cons.2 ⟨good35, List.forall_mem_cons.2 ⟨good36, List.forall_mem_nil _⟩⟩⟩⟩⟩⟩⟩⟩⟩⟩⟩⟩⟩
  refine ⟨⟨spec_ok (tab_ok.env hl) (tab.natl hl) Try.func7 (by kernel_rfl : Try.f7.body = some f7c) [4] (by kernel_rfl) ?_, _, Try.func7, by kernel_rfl, of_decide_eq_true (by kernel_rfl)⟩, Gm.Spec.of_natl _ _ _ _⟩
  intro ds outs h
  unfold q7 at h
  split at h
  · simp only [Option.some.injEq, Prod.mk.injEq] at h; obtain ⟨hg, h⟩ := h; cases h; exact f7_spec _ _ hg
  · cases h
end Go.Proofs.Ytklmnopgogcbhaa

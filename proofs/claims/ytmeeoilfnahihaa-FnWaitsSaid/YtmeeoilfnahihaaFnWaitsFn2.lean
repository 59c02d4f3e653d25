/- What the functions compute, part 2. No conditions. -/
import Derived.Test.YtmeeoilfnahihaaFnWaitsFn1
/- x -/
namespace Go.Proofs.Ytmeeoilfnahihaa
open Go Go.Gm
/-! ### loop.example/g00465/spec.WorkDone -/
noncomputable def f32c : Code := (Try.f32.body).getD .skip
def f32k : Nat → Kp := kat [⟨[1, 2, 3, 6], [], [], []⟩, ⟨[1, 2, 3, 6, 8], [], [], []⟩, ⟨[1, 2, 3, 6, 8, 20], [], [], []⟩, ⟨[6, 7], [], [], []⟩, ⟨[1, 2, 3, 6, 8], [], [], []⟩, ⟨[1, 2, 3, 6, 8], [], [], []⟩, ⟨[1, 2, 3, 6, 8, 39], [], [], []⟩, ⟨[1, 2, 3, 6, 8], [], [], []⟩, ⟨[3, 6, 8], [], [], []⟩, ⟨[3, 6, 8, 54], [], [], []⟩, ⟨[6, 7], [], [], []⟩, ⟨[6, 7], [], [], []⟩]
noncomputable def f32e : Env := tab.env [(24, s24), (56, s56), (59, s59), (70, s70), (71, s71)]
theorem f32_run {R : Type} (n : Nat) (k : List Dt → Option R) (a0 : WorkT) (a1 : ByteArray) (a2 : Bool) : evFn f32e f32k n f32c [.ro, .ro, .ro] [false, false] true [.cell 6 30, .tmp 7] [30, 4] [.d .work a0, .d .str a1, .d .bool a2] k =
    (cond (sm_work a0)
    (cond (sm_work a0)
      (cond (!(workQOk a0))
        (k [.d .work a0, .d .bool false])
        (cond ((fun (x : List ByteArray) (_ : ByteArray) => gLenW x) (WorkT.busy a0) a1)
          (cond (!(isIn (WorkT.busy a0) a1))
            (k [.d .work a0, .d .bool false])
            (cond ((fun (x : List ByteArray) (_ : ByteArray) => smL smStr x) (WorkT.busy a0) a1)
              (cond ((fun (x : List ByteArray) (_ : ByteArray) => smL smStr x) (WorkT.again a0) a1)
                (cond ((fun (x : List ByteArray) (_ : ByteArray) => gLenW x) (WorkT.again a0) a1)
                  (cond (isIn (WorkT.again a0) a1)
                    (cond (Nat.ble ((WorkT.list a0).length + 1) LIM)
                      (cond ((fun (x : List FailT) (_ : ByteArray) (_ : Bool) => smL sm_fail x) (WorkT.fails a0) a1 a2)
                        (cond (sm_work (⟨((WorkT.list a0) ++ ([a1] : List ByteArray)), (butName (WorkT.busy a0) a1), (butName (WorkT.again a0) a1), (failedS (WorkT.fails a0) a1 a2)⟩ : WorkT))
                          (cond (!(workQOk (⟨((WorkT.list a0) ++ ([a1] : List ByteArray)), (butName (WorkT.busy a0) a1), (butName (WorkT.again a0) a1), (failedS (WorkT.fails a0) a1 a2)⟩ : WorkT)))
                            (cond (sm_work a0)
                              (k [.d .work a0, .d .bool false])
                              none)
                            (k [.d .work (⟨((WorkT.list a0) ++ ([a1] : List ByteArray)), (butName (WorkT.busy a0) a1), (butName (WorkT.again a0) a1), (failedS (WorkT.fails a0) a1 a2)⟩ : WorkT), .d .bool true]))
                          none)
                        none)
                      none)
                    (cond (!a2)
                      (cond (Nat.ble ((WorkT.list a0).length + 1) LIM)
                        (cond ((fun (x : List FailT) (_ : ByteArray) (_ : Bool) => smL sm_fail x) (WorkT.fails a0) a1 a2)
                          (cond (sm_work (⟨((WorkT.list a0) ++ ([a1] : List ByteArray)), (butName (WorkT.busy a0) a1), (butName (WorkT.again a0) a1), (failedS (WorkT.fails a0) a1 a2)⟩ : WorkT))
                            (cond (!(workQOk (⟨((WorkT.list a0) ++ ([a1] : List ByteArray)), (butName (WorkT.busy a0) a1), (butName (WorkT.again a0) a1), (failedS (WorkT.fails a0) a1 a2)⟩ : WorkT)))
                              (cond (sm_work a0)
                                (k [.d .work a0, .d .bool false])
                                none)
                              (k [.d .work (⟨((WorkT.list a0) ++ ([a1] : List ByteArray)), (butName (WorkT.busy a0) a1), (butName (WorkT.again a0) a1), (failedS (WorkT.fails a0) a1 a2)⟩ : WorkT), .d .bool true]))
                            none)
                          none)
                        none)
                      (cond ((fun (x : List FailT) (_ : ByteArray) (_ : Bool) => smL sm_fail x) (WorkT.fails a0) a1 a2)
                        (cond (sm_work (⟨(WorkT.list a0), (butName (WorkT.busy a0) a1), (butName (WorkT.again a0) a1), (failedS (WorkT.fails a0) a1 a2)⟩ : WorkT))
                          (cond (!(workQOk (⟨(WorkT.list a0), (butName (WorkT.busy a0) a1), (butName (WorkT.again a0) a1), (failedS (WorkT.fails a0) a1 a2)⟩ : WorkT)))
                            (cond (sm_work a0)
                              (k [.d .work a0, .d .bool false])
                              none)
                            (k [.d .work (⟨(WorkT.list a0), (butName (WorkT.busy a0) a1), (butName (WorkT.again a0) a1), (failedS (WorkT.fails a0) a1 a2)⟩ : WorkT), .d .bool true]))
                          none)
                        none)))
                  none)
                none)
              none))
          none))
      none)
    none) := by kernel_rfl
theorem f32_spec (a0 : WorkT) (a1 : ByteArray) (a2 : Bool) (hg : gDoneW a0 a1 a2 = true) : ∃ keep rounds, ∀ {R : Type} (k : List Dt → Option R), evFn f32e keep rounds f32c [.ro, .ro, .ro] [false, false] true [.cell 6 30, .tmp 7] [30, 4] [.d .work a0, .d .str a1, .d .bool a2] k = k [.d .work ((workDone a0 a1 a2).1), .d .bool ((workDone a0 a1 a2).2)] := by
  simp only [gDoneW, Bool.and_eq_true] at hg
  obtain ⟨hg0, hs⟩ := hg
  have hg := hg0
  simp only [sm_work, Bool.and_eq_true] at hg
  obtain ⟨hl, hb, ha, hf⟩ := hg
  have nl := smL_len hl
  refine ⟨f32k, 0, fun {R} k => ?_⟩
  rw [f32_run]
  show _ = k [.d .work (workDone a0 a1 a2).1, .d .bool (workDone a0 a1 a2).2]
  cases hq : workQOk a0
  · simp only [hg0, hq, workDone, Bool.not_false, cond_true, cond_false]
  have hlb := gLenW_sm hb
  have hla := gLenW_sm ha
  have hll := gLenW_sm hl
  cases hB : isIn a0.busy a1
  · simp only [hg0, hq, hB, hlb, workDone, Bool.not_false, Bool.not_true, cond_true, cond_false]
  have hql := qOk_len hq
  have h1 : Nat.ble (a0.list.length + 1) LIM = true := limLe1 nl
  have hfe := failed_eq (s := a1) (ok := a2) (qOk_allF hq)
  simp only [hg0, hq, hB, hlb, hla, hl, hb, ha, hf, h1, Bool.not_true, cond_true, cond_false, hfe]
  cases hA : isIn a0.again a1
  · cases a2
    · simp only [Bool.not_false, cond_true, cond_false]
      refine done_fin hq hB hg0 hs ?_
      simp [doneW, hA]
    · simp only [Bool.not_true, cond_true, cond_false]
      refine done_fin hq hB hg0 hs ?_
      simp [doneW, hA]
  · simp only [cond_true]
    refine done_fin hq hB hg0 hs ?_
    simp [doneW, hA]

noncomputable def q32 : List Dt → Option (Bool × List Dt)
  | [.d .work a0, .d .str a1, .d .bool a2] => some ((gDoneW a0 a1 a2), [.d .work ((workDone a0 a1 a2).1), .d .bool ((workDone a0 a1 a2).2)])
  | _ => none
noncomputable def s32 : Gm.Spec := Gm.Spec.of [.ro, .ro, .ro] [false, false] true q32
theorem good32 : Gm.Good Try.prog (32, s32) := by
  have hl : ∀ x ∈ [(24, s24), (56, s56), (59, s59), (70, s70), (71, s71)], Gm.Good Try.prog x := List.forall_mem_cons.2 ⟨good24, List.forall_mem_cons.2 ⟨good56, List.forall_mem_cons.2 ⟨good59, List.forall_mem_cons.2 ⟨good70, List.forall_mem_cons.2 ⟨good71, List.forall_mem_nil _⟩⟩⟩⟩⟩
  refine ⟨⟨spec_ok (tab_ok.env hl) (tab.natl hl) Try.func32 (by kernel_rfl : Try.f32.body = some f32c) [30, 4] (by kernel_rfl) ?_, _, Try.func32, by kernel_rfl, of_decide_eq_true (by kernel_rfl)⟩, Gm.Spec.of_natl _ _ _ _⟩
  intro ds outs h
  unfold q32 at h
  split at h
  · simp only [Option.some.injEq, Prod.mk.injEq] at h; obtain ⟨hg, h⟩ := h; cases h; exact f32_spec _ _ _ hg
  · cases h
/-! ### loop.example/g00465/impl.WorkDone -/
noncomputable def f20c : Code := (Try.f20.body).getD .skip
def f20k : Nat → Kp := kat [⟨[1, 2, 3, 6], [], [], []⟩, ⟨[1, 2, 3, 6, 19], [], [], []⟩, ⟨[6, 7], [], [], []⟩, ⟨[1, 2, 3, 6, 8], [], [], []⟩, ⟨[1, 2, 3, 6, 8], [], [], []⟩, ⟨[1, 2, 3, 6, 8, 32], [], [], []⟩, ⟨[1, 2, 3, 6, 8], [], [], []⟩, ⟨[1, 2, 3, 6, 8], [], [], []⟩, ⟨[1, 2, 3, 6, 8, 9], [], [], []⟩, ⟨[1, 2, 3, 6, 8], [], [], []⟩, ⟨[1, 2, 3, 6, 8, 9, 55], [], [], []⟩, ⟨[1, 2, 3, 6, 8], [], [], []⟩, ⟨[1, 2, 3, 6, 8, 9, 68], [], [], []⟩, ⟨[1, 2, 3, 6, 8, 9, 70], [], [], []⟩, ⟨[1, 2, 3, 6, 8], [], [], []⟩, ⟨[1, 3, 6, 8, 94], [], [], []⟩, ⟨[3, 6, 8], [], [], []⟩, ⟨[3, 6, 8, 103], [], [], []⟩, ⟨[6, 7], [], [], []⟩, ⟨[6, 7], [], [], []⟩]
noncomputable def f20e : Env := tab.env [(23, s23), (42, s42), (45, s45), (46, s46), (47, s47), (48, s48)]
noncomputable def f20v0 (a0 : WorkT) (a1 : ByteArray) : List FailT :=
  ((WorkT.fails a0).set (Int.toNat (failAt (WorkT.fails a0) a1)) (⟨(FailT.name (atI (t := .fail) (WorkT.fails a0) (Int.toNat (failAt (WorkT.fails a0) a1)))), (if (20 : Int) < (IntKind.wrap .i64 ((FailT.n (atI (t := .fail) (WorkT.fails a0) (Int.toNat (failAt (WorkT.fails a0) a1)))) + (1 : Int))) then (20 : Int) else (IntKind.wrap .i64 ((FailT.n (atI (t := .fail) (WorkT.fails a0) (Int.toNat (failAt (WorkT.fails a0) a1)))) + (1 : Int))))⟩ : FailT))
theorem f20_run {R : Type} (n : Nat) (k : List Dt → Option R) (a0 : WorkT) (a1 : ByteArray) (a2 : Bool) : evFn f20e f20k n f20c [.ro, .ro, .ro] [false, false] true [.cell 6 30, .tmp 7] [30, 4] [.d .work a0, .d .str a1, .d .bool a2] k =
    (cond (sm_work a0)
    (cond (!(workQOk a0))
      (cond (sm_work a0)
        (k [.d .work a0, .d .bool false])
        none)
      (cond ((fun (x : List ByteArray) (_ : ByteArray) => gLenW x) (WorkT.busy a0) a1)
        (cond (!(isIn (WorkT.busy a0) a1))
          (cond (sm_work a0)
            (k [.d .work a0, .d .bool false])
            none)
          (cond (sm_work a0)
            (cond ((fun (x : List ByteArray) (_ : ByteArray) => smL smStr x) (WorkT.busy a0) a1)
              (cond ((fun (x : List ByteArray) (_ : ByteArray) => gLenW x) (WorkT.again a0) a1)
                (cond (isIn (WorkT.again a0) a1)
                  (cond ((fun (x : List ByteArray) (_ : ByteArray) => smL smStr x) (WorkT.again a0) a1)
                    (cond (Nat.ble ((WorkT.list a0).length + 1) LIM)
                      (cond ((fun (x : List FailT) (_ : ByteArray) => smL sm_fail x) (WorkT.fails a0) a1)
                        (cond a2
                          (cond (decide ((failAt (WorkT.fails a0) a1) ≥ (0 : Int)))
                            (cond (gDel (WorkT.fails a0) (failAt (WorkT.fails a0) a1) (IntKind.wrap .i64 ((failAt (WorkT.fails a0) a1) + (1 : Int))))
                              (cond (!a2)
                                (cond ((fun (x : List ByteArray) (_ : ByteArray) => gLenW x) ((WorkT.list a0) ++ ([a1] : List ByteArray)) a1)
                                  (cond (!(isIn ((WorkT.list a0) ++ ([a1] : List ByteArray)) a1))
                                    (cond (Nat.ble (((WorkT.list a0) ++ ([a1] : List ByteArray)).length + 1) LIM)
                                      (cond (sm_work (⟨(((WorkT.list a0) ++ ([a1] : List ByteArray)) ++ ([a1] : List ByteArray)), (butName (WorkT.busy a0) a1), (butName (WorkT.again a0) a1), (delL (WorkT.fails a0) (failAt (WorkT.fails a0) a1) (IntKind.wrap .i64 ((failAt (WorkT.fails a0) a1) + (1 : Int))))⟩ : WorkT))
                                        (cond (!(workQOk (⟨(((WorkT.list a0) ++ ([a1] : List ByteArray)) ++ ([a1] : List ByteArray)), (butName (WorkT.busy a0) a1), (butName (WorkT.again a0) a1), (delL (WorkT.fails a0) (failAt (WorkT.fails a0) a1) (IntKind.wrap .i64 ((failAt (WorkT.fails a0) a1) + (1 : Int))))⟩ : WorkT)))
                                          (cond (sm_work a0)
                                            (k [.d .work a0, .d .bool false])
                                            none)
                                          (k [.d .work (⟨(((WorkT.list a0) ++ ([a1] : List ByteArray)) ++ ([a1] : List ByteArray)), (butName (WorkT.busy a0) a1), (butName (WorkT.again a0) a1), (delL (WorkT.fails a0) (failAt (WorkT.fails a0) a1) (IntKind.wrap .i64 ((failAt (WorkT.fails a0) a1) + (1 : Int))))⟩ : WorkT), .d .bool true]))
                                        none)
                                      none)
                                    (cond (sm_work (⟨((WorkT.list a0) ++ ([a1] : List ByteArray)), (butName (WorkT.busy a0) a1), (butName (WorkT.again a0) a1), (delL (WorkT.fails a0) (failAt (WorkT.fails a0) a1) (IntKind.wrap .i64 ((failAt (WorkT.fails a0) a1) + (1 : Int))))⟩ : WorkT))
                                      (cond (!(workQOk (⟨((WorkT.list a0) ++ ([a1] : List ByteArray)), (butName (WorkT.busy a0) a1), (butName (WorkT.again a0) a1), (delL (WorkT.fails a0) (failAt (WorkT.fails a0) a1) (IntKind.wrap .i64 ((failAt (WorkT.fails a0) a1) + (1 : Int))))⟩ : WorkT)))
                                        (cond (sm_work a0)
                                          (k [.d .work a0, .d .bool false])
                                          none)
                                        (k [.d .work (⟨((WorkT.list a0) ++ ([a1] : List ByteArray)), (butName (WorkT.busy a0) a1), (butName (WorkT.again a0) a1), (delL (WorkT.fails a0) (failAt (WorkT.fails a0) a1) (IntKind.wrap .i64 ((failAt (WorkT.fails a0) a1) + (1 : Int))))⟩ : WorkT), .d .bool true]))
                                      none))
                                  none)
                                (cond (sm_work (⟨((WorkT.list a0) ++ ([a1] : List ByteArray)), (butName (WorkT.busy a0) a1), (butName (WorkT.again a0) a1), (delL (WorkT.fails a0) (failAt (WorkT.fails a0) a1) (IntKind.wrap .i64 ((failAt (WorkT.fails a0) a1) + (1 : Int))))⟩ : WorkT))
                                  (cond (!(workQOk (⟨((WorkT.list a0) ++ ([a1] : List ByteArray)), (butName (WorkT.busy a0) a1), (butName (WorkT.again a0) a1), (delL (WorkT.fails a0) (failAt (WorkT.fails a0) a1) (IntKind.wrap .i64 ((failAt (WorkT.fails a0) a1) + (1 : Int))))⟩ : WorkT)))
                                    (cond (sm_work a0)
                                      (k [.d .work a0, .d .bool false])
                                      none)
                                    (k [.d .work (⟨((WorkT.list a0) ++ ([a1] : List ByteArray)), (butName (WorkT.busy a0) a1), (butName (WorkT.again a0) a1), (delL (WorkT.fails a0) (failAt (WorkT.fails a0) a1) (IntKind.wrap .i64 ((failAt (WorkT.fails a0) a1) + (1 : Int))))⟩ : WorkT), .d .bool true]))
                                  none))
                              none)
                            (cond a2
                              (cond (!a2)
                                (cond ((fun (x : List ByteArray) (_ : ByteArray) => gLenW x) ((WorkT.list a0) ++ ([a1] : List ByteArray)) a1)
                                  (cond (!(isIn ((WorkT.list a0) ++ ([a1] : List ByteArray)) a1))
                                    (cond (Nat.ble (((WorkT.list a0) ++ ([a1] : List ByteArray)).length + 1) LIM)
                                      (cond (sm_work (⟨(((WorkT.list a0) ++ ([a1] : List ByteArray)) ++ ([a1] : List ByteArray)), (butName (WorkT.busy a0) a1), (butName (WorkT.again a0) a1), (WorkT.fails a0)⟩ : WorkT))
                                        (cond (!(workQOk (⟨(((WorkT.list a0) ++ ([a1] : List ByteArray)) ++ ([a1] : List ByteArray)), (butName (WorkT.busy a0) a1), (butName (WorkT.again a0) a1), (WorkT.fails a0)⟩ : WorkT)))
                                          (cond (sm_work a0)
                                            (k [.d .work a0, .d .bool false])
                                            none)
                                          (k [.d .work (⟨(((WorkT.list a0) ++ ([a1] : List ByteArray)) ++ ([a1] : List ByteArray)), (butName (WorkT.busy a0) a1), (butName (WorkT.again a0) a1), (WorkT.fails a0)⟩ : WorkT), .d .bool true]))
                                        none)
                                      none)
                                    (cond (sm_work (⟨((WorkT.list a0) ++ ([a1] : List ByteArray)), (butName (WorkT.busy a0) a1), (butName (WorkT.again a0) a1), (WorkT.fails a0)⟩ : WorkT))
                                      (cond (!(workQOk (⟨((WorkT.list a0) ++ ([a1] : List ByteArray)), (butName (WorkT.busy a0) a1), (butName (WorkT.again a0) a1), (WorkT.fails a0)⟩ : WorkT)))
                                        (cond (sm_work a0)
                                          (k [.d .work a0, .d .bool false])
                                          none)
                                        (k [.d .work (⟨((WorkT.list a0) ++ ([a1] : List ByteArray)), (butName (WorkT.busy a0) a1), (butName (WorkT.again a0) a1), (WorkT.fails a0)⟩ : WorkT), .d .bool true]))
                                      none))
                                  none)
                                (cond (sm_work (⟨((WorkT.list a0) ++ ([a1] : List ByteArray)), (butName (WorkT.busy a0) a1), (butName (WorkT.again a0) a1), (WorkT.fails a0)⟩ : WorkT))
                                  (cond (!(workQOk (⟨((WorkT.list a0) ++ ([a1] : List ByteArray)), (butName (WorkT.busy a0) a1), (butName (WorkT.again a0) a1), (WorkT.fails a0)⟩ : WorkT)))
                                    (cond (sm_work a0)
                                      (k [.d .work a0, .d .bool false])
                                      none)
                                    (k [.d .work (⟨((WorkT.list a0) ++ ([a1] : List ByteArray)), (butName (WorkT.busy a0) a1), (butName (WorkT.again a0) a1), (WorkT.fails a0)⟩ : WorkT), .d .bool true]))
                                  none))
                              (cond (decide ((failAt (WorkT.fails a0) a1) ≥ (0 : Int)))
                                (cond ((decide ((0 : Int) ≤ (failAt (WorkT.fails a0) a1))) && (decide ((failAt (WorkT.fails a0) a1) < ((WorkT.fails a0).length : Int))))
                                  (cond ((decide ((0 : Int) ≤ (failAt (WorkT.fails a0) a1))) && (decide ((failAt (WorkT.fails a0) a1) < ((WorkT.fails a0).length : Int))))
                                    (cond (!a2)
                                      (cond ((fun (x : List ByteArray) (_ : ByteArray) => gLenW x) ((WorkT.list a0) ++ ([a1] : List ByteArray)) a1)
                                        (cond (!(isIn ((WorkT.list a0) ++ ([a1] : List ByteArray)) a1))
                                          (cond (Nat.ble (((WorkT.list a0) ++ ([a1] : List ByteArray)).length + 1) LIM)
                                            (cond (sm_work (⟨(((WorkT.list a0) ++ ([a1] : List ByteArray)) ++ ([a1] : List ByteArray)), (butName (WorkT.busy a0) a1), (butName (WorkT.again a0) a1), (f20v0 a0 a1)⟩ : WorkT))
                                              (cond (!(workQOk (⟨(((WorkT.list a0) ++ ([a1] : List ByteArray)) ++ ([a1] : List ByteArray)), (butName (WorkT.busy a0) a1), (butName (WorkT.again a0) a1), (f20v0 a0 a1)⟩ : WorkT)))
                                                (cond (sm_work a0)
                                                  (k [.d .work a0, .d .bool false])
                                                  none)
                                                (k [.d .work (⟨(((WorkT.list a0) ++ ([a1] : List ByteArray)) ++ ([a1] : List ByteArray)), (butName (WorkT.busy a0) a1), (butName (WorkT.again a0) a1), (f20v0 a0 a1)⟩ : WorkT), .d .bool true]))
                                              none)
                                            none)
                                          (cond (sm_work (⟨((WorkT.list a0) ++ ([a1] : List ByteArray)), (butName (WorkT.busy a0) a1), (butName (WorkT.again a0) a1), (f20v0 a0 a1)⟩ : WorkT))
                                            (cond (!(workQOk (⟨((WorkT.list a0) ++ ([a1] : List ByteArray)), (butName (WorkT.busy a0) a1), (butName (WorkT.again a0) a1), (f20v0 a0 a1)⟩ : WorkT)))
                                              (cond (sm_work a0)
                                                (k [.d .work a0, .d .bool false])
                                                none)
                                              (k [.d .work (⟨((WorkT.list a0) ++ ([a1] : List ByteArray)), (butName (WorkT.busy a0) a1), (butName (WorkT.again a0) a1), (f20v0 a0 a1)⟩ : WorkT), .d .bool true]))
                                            none))
                                        none)
                                      (cond (sm_work (⟨((WorkT.list a0) ++ ([a1] : List ByteArray)), (butName (WorkT.busy a0) a1), (butName (WorkT.again a0) a1), (f20v0 a0 a1)⟩ : WorkT))
                                        (cond (!(workQOk (⟨((WorkT.list a0) ++ ([a1] : List ByteArray)), (butName (WorkT.busy a0) a1), (butName (WorkT.again a0) a1), (f20v0 a0 a1)⟩ : WorkT)))
                                          (cond (sm_work a0)
                                            (k [.d .work a0, .d .bool false])
                                            none)
                                          (k [.d .work (⟨((WorkT.list a0) ++ ([a1] : List ByteArray)), (butName (WorkT.busy a0) a1), (butName (WorkT.again a0) a1), (f20v0 a0 a1)⟩ : WorkT), .d .bool true]))
                                        none))
                                    none)
                                  none)
                                (cond (Nat.ble ((WorkT.fails a0).length + 1) LIM)
                                  (cond (!a2)
                                    (cond ((fun (x : List ByteArray) (_ : ByteArray) => gLenW x) ((WorkT.list a0) ++ ([a1] : List ByteArray)) a1)
                                      (cond (!(isIn ((WorkT.list a0) ++ ([a1] : List ByteArray)) a1))
                                        (cond (Nat.ble (((WorkT.list a0) ++ ([a1] : List ByteArray)).length + 1) LIM)
                                          (cond (sm_work (⟨(((WorkT.list a0) ++ ([a1] : List ByteArray)) ++ ([a1] : List ByteArray)), (butName (WorkT.busy a0) a1), (butName (WorkT.again a0) a1), ((WorkT.fails a0) ++ ([(⟨a1, (1 : Int)⟩ : FailT)] : List FailT))⟩ : WorkT))
                                            (cond (!(workQOk (⟨(((WorkT.list a0) ++ ([a1] : List ByteArray)) ++ ([a1] : List ByteArray)), (butName (WorkT.busy a0) a1), (butName (WorkT.again a0) a1), ((WorkT.fails a0) ++ ([(⟨a1, (1 : Int)⟩ : FailT)] : List FailT))⟩ : WorkT)))
                                              (cond (sm_work a0)
                                                (k [.d .work a0, .d .bool false])
                                                none)
                                              (k [.d .work (⟨(((WorkT.list a0) ++ ([a1] : List ByteArray)) ++ ([a1] : List ByteArray)), (butName (WorkT.busy a0) a1), (butName (WorkT.again a0) a1), ((WorkT.fails a0) ++ ([(⟨a1, (1 : Int)⟩ : FailT)] : List FailT))⟩ : WorkT), .d .bool true]))
                                            none)
                                          none)
                                        (cond (sm_work (⟨((WorkT.list a0) ++ ([a1] : List ByteArray)), (butName (WorkT.busy a0) a1), (butName (WorkT.again a0) a1), ((WorkT.fails a0) ++ ([(⟨a1, (1 : Int)⟩ : FailT)] : List FailT))⟩ : WorkT))
                                          (cond (!(workQOk (⟨((WorkT.list a0) ++ ([a1] : List ByteArray)), (butName (WorkT.busy a0) a1), (butName (WorkT.again a0) a1), ((WorkT.fails a0) ++ ([(⟨a1, (1 : Int)⟩ : FailT)] : List FailT))⟩ : WorkT)))
                                            (cond (sm_work a0)
                                              (k [.d .work a0, .d .bool false])
                                              none)
                                            (k [.d .work (⟨((WorkT.list a0) ++ ([a1] : List ByteArray)), (butName (WorkT.busy a0) a1), (butName (WorkT.again a0) a1), ((WorkT.fails a0) ++ ([(⟨a1, (1 : Int)⟩ : FailT)] : List FailT))⟩ : WorkT), .d .bool true]))
                                          none))
                                      none)
                                    (cond (sm_work (⟨((WorkT.list a0) ++ ([a1] : List ByteArray)), (butName (WorkT.busy a0) a1), (butName (WorkT.again a0) a1), ((WorkT.fails a0) ++ ([(⟨a1, (1 : Int)⟩ : FailT)] : List FailT))⟩ : WorkT))
                                      (cond (!(workQOk (⟨((WorkT.list a0) ++ ([a1] : List ByteArray)), (butName (WorkT.busy a0) a1), (butName (WorkT.again a0) a1), ((WorkT.fails a0) ++ ([(⟨a1, (1 : Int)⟩ : FailT)] : List FailT))⟩ : WorkT)))
                                        (cond (sm_work a0)
                                          (k [.d .work a0, .d .bool false])
                                          none)
                                        (k [.d .work (⟨((WorkT.list a0) ++ ([a1] : List ByteArray)), (butName (WorkT.busy a0) a1), (butName (WorkT.again a0) a1), ((WorkT.fails a0) ++ ([(⟨a1, (1 : Int)⟩ : FailT)] : List FailT))⟩ : WorkT), .d .bool true]))
                                      none))
                                  none))))
                          (cond a2
                            (cond (!a2)
                              (cond ((fun (x : List ByteArray) (_ : ByteArray) => gLenW x) ((WorkT.list a0) ++ ([a1] : List ByteArray)) a1)
                                (cond (!(isIn ((WorkT.list a0) ++ ([a1] : List ByteArray)) a1))
                                  (cond (Nat.ble (((WorkT.list a0) ++ ([a1] : List ByteArray)).length + 1) LIM)
                                    (cond (sm_work (⟨(((WorkT.list a0) ++ ([a1] : List ByteArray)) ++ ([a1] : List ByteArray)), (butName (WorkT.busy a0) a1), (butName (WorkT.again a0) a1), (WorkT.fails a0)⟩ : WorkT))
                                      (cond (!(workQOk (⟨(((WorkT.list a0) ++ ([a1] : List ByteArray)) ++ ([a1] : List ByteArray)), (butName (WorkT.busy a0) a1), (butName (WorkT.again a0) a1), (WorkT.fails a0)⟩ : WorkT)))
                                        (cond (sm_work a0)
                                          (k [.d .work a0, .d .bool false])
                                          none)
                                        (k [.d .work (⟨(((WorkT.list a0) ++ ([a1] : List ByteArray)) ++ ([a1] : List ByteArray)), (butName (WorkT.busy a0) a1), (butName (WorkT.again a0) a1), (WorkT.fails a0)⟩ : WorkT), .d .bool true]))
                                      none)
                                    none)
                                  (cond (sm_work (⟨((WorkT.list a0) ++ ([a1] : List ByteArray)), (butName (WorkT.busy a0) a1), (butName (WorkT.again a0) a1), (WorkT.fails a0)⟩ : WorkT))
                                    (cond (!(workQOk (⟨((WorkT.list a0) ++ ([a1] : List ByteArray)), (butName (WorkT.busy a0) a1), (butName (WorkT.again a0) a1), (WorkT.fails a0)⟩ : WorkT)))
                                      (cond (sm_work a0)
                                        (k [.d .work a0, .d .bool false])
                                        none)
                                      (k [.d .work (⟨((WorkT.list a0) ++ ([a1] : List ByteArray)), (butName (WorkT.busy a0) a1), (butName (WorkT.again a0) a1), (WorkT.fails a0)⟩ : WorkT), .d .bool true]))
                                    none))
                                none)
                              (cond (sm_work (⟨((WorkT.list a0) ++ ([a1] : List ByteArray)), (butName (WorkT.busy a0) a1), (butName (WorkT.again a0) a1), (WorkT.fails a0)⟩ : WorkT))
                                (cond (!(workQOk (⟨((WorkT.list a0) ++ ([a1] : List ByteArray)), (butName (WorkT.busy a0) a1), (butName (WorkT.again a0) a1), (WorkT.fails a0)⟩ : WorkT)))
                                  (cond (sm_work a0)
                                    (k [.d .work a0, .d .bool false])
                                    none)
                                  (k [.d .work (⟨((WorkT.list a0) ++ ([a1] : List ByteArray)), (butName (WorkT.busy a0) a1), (butName (WorkT.again a0) a1), (WorkT.fails a0)⟩ : WorkT), .d .bool true]))
                                none))
                            (cond (decide ((failAt (WorkT.fails a0) a1) ≥ (0 : Int)))
                              (cond ((decide ((0 : Int) ≤ (failAt (WorkT.fails a0) a1))) && (decide ((failAt (WorkT.fails a0) a1) < ((WorkT.fails a0).length : Int))))
                                (cond ((decide ((0 : Int) ≤ (failAt (WorkT.fails a0) a1))) && (decide ((failAt (WorkT.fails a0) a1) < ((WorkT.fails a0).length : Int))))
                                  (cond (!a2)
                                    (cond ((fun (x : List ByteArray) (_ : ByteArray) => gLenW x) ((WorkT.list a0) ++ ([a1] : List ByteArray)) a1)
                                      (cond (!(isIn ((WorkT.list a0) ++ ([a1] : List ByteArray)) a1))
                                        (cond (Nat.ble (((WorkT.list a0) ++ ([a1] : List ByteArray)).length + 1) LIM)
                                          (cond (sm_work (⟨(((WorkT.list a0) ++ ([a1] : List ByteArray)) ++ ([a1] : List ByteArray)), (butName (WorkT.busy a0) a1), (butName (WorkT.again a0) a1), (f20v0 a0 a1)⟩ : WorkT))
                                            (cond (!(workQOk (⟨(((WorkT.list a0) ++ ([a1] : List ByteArray)) ++ ([a1] : List ByteArray)), (butName (WorkT.busy a0) a1), (butName (WorkT.again a0) a1), (f20v0 a0 a1)⟩ : WorkT)))
                                              (cond (sm_work a0)
                                                (k [.d .work a0, .d .bool false])
                                                none)
                                              (k [.d .work (⟨(((WorkT.list a0) ++ ([a1] : List ByteArray)) ++ ([a1] : List ByteArray)), (butName (WorkT.busy a0) a1), (butName (WorkT.again a0) a1), (f20v0 a0 a1)⟩ : WorkT), .d .bool true]))
                                            none)
                                          none)
                                        (cond (sm_work (⟨((WorkT.list a0) ++ ([a1] : List ByteArray)), (butName (WorkT.busy a0) a1), (butName (WorkT.again a0) a1), (f20v0 a0 a1)⟩ : WorkT))
                                          (cond (!(workQOk (⟨((WorkT.list a0) ++ ([a1] : List ByteArray)), (butName (WorkT.busy a0) a1), (butName (WorkT.again a0) a1), (f20v0 a0 a1)⟩ : WorkT)))
                                            (cond (sm_work a0)
                                              (k [.d .work a0, .d .bool false])
                                              none)
                                            (k [.d .work (⟨((WorkT.list a0) ++ ([a1] : List ByteArray)), (butName (WorkT.busy a0) a1), (butName (WorkT.again a0) a1), (f20v0 a0 a1)⟩ : WorkT), .d .bool true]))
                                          none))
                                      none)
                                    (cond (sm_work (⟨((WorkT.list a0) ++ ([a1] : List ByteArray)), (butName (WorkT.busy a0) a1), (butName (WorkT.again a0) a1), (f20v0 a0 a1)⟩ : WorkT))
                                      (cond (!(workQOk (⟨((WorkT.list a0) ++ ([a1] : List ByteArray)), (butName (WorkT.busy a0) a1), (butName (WorkT.again a0) a1), (f20v0 a0 a1)⟩ : WorkT)))
                                        (cond (sm_work a0)
                                          (k [.d .work a0, .d .bool false])
                                          none)
                                        (k [.d .work (⟨((WorkT.list a0) ++ ([a1] : List ByteArray)), (butName (WorkT.busy a0) a1), (butName (WorkT.again a0) a1), (f20v0 a0 a1)⟩ : WorkT), .d .bool true]))
                                      none))
                                  none)
                                none)
                              (cond (Nat.ble ((WorkT.fails a0).length + 1) LIM)
                                (cond (!a2)
                                  (cond ((fun (x : List ByteArray) (_ : ByteArray) => gLenW x) ((WorkT.list a0) ++ ([a1] : List ByteArray)) a1)
                                    (cond (!(isIn ((WorkT.list a0) ++ ([a1] : List ByteArray)) a1))
                                      (cond (Nat.ble (((WorkT.list a0) ++ ([a1] : List ByteArray)).length + 1) LIM)
                                        (cond (sm_work (⟨(((WorkT.list a0) ++ ([a1] : List ByteArray)) ++ ([a1] : List ByteArray)), (butName (WorkT.busy a0) a1), (butName (WorkT.again a0) a1), ((WorkT.fails a0) ++ ([(⟨a1, (1 : Int)⟩ : FailT)] : List FailT))⟩ : WorkT))
                                          (cond (!(workQOk (⟨(((WorkT.list a0) ++ ([a1] : List ByteArray)) ++ ([a1] : List ByteArray)), (butName (WorkT.busy a0) a1), (butName (WorkT.again a0) a1), ((WorkT.fails a0) ++ ([(⟨a1, (1 : Int)⟩ : FailT)] : List FailT))⟩ : WorkT)))
                                            (cond (sm_work a0)
                                              (k [.d .work a0, .d .bool false])
                                              none)
                                            (k [.d .work (⟨(((WorkT.list a0) ++ ([a1] : List ByteArray)) ++ ([a1] : List ByteArray)), (butName (WorkT.busy a0) a1), (butName (WorkT.again a0) a1), ((WorkT.fails a0) ++ ([(⟨a1, (1 : Int)⟩ : FailT)] : List FailT))⟩ : WorkT), .d .bool true]))
                                          none)
                                        none)
                                      (cond (sm_work (⟨((WorkT.list a0) ++ ([a1] : List ByteArray)), (butName (WorkT.busy a0) a1), (butName (WorkT.again a0) a1), ((WorkT.fails a0) ++ ([(⟨a1, (1 : Int)⟩ : FailT)] : List FailT))⟩ : WorkT))
                                        (cond (!(workQOk (⟨((WorkT.list a0) ++ ([a1] : List ByteArray)), (butName (WorkT.busy a0) a1), (butName (WorkT.again a0) a1), ((WorkT.fails a0) ++ ([(⟨a1, (1 : Int)⟩ : FailT)] : List FailT))⟩ : WorkT)))
                                          (cond (sm_work a0)
                                            (k [.d .work a0, .d .bool false])
                                            none)
                                          (k [.d .work (⟨((WorkT.list a0) ++ ([a1] : List ByteArray)), (butName (WorkT.busy a0) a1), (butName (WorkT.again a0) a1), ((WorkT.fails a0) ++ ([(⟨a1, (1 : Int)⟩ : FailT)] : List FailT))⟩ : WorkT), .d .bool true]))
                                        none))
                                    none)
                                  (cond (sm_work (⟨((WorkT.list a0) ++ ([a1] : List ByteArray)), (butName (WorkT.busy a0) a1), (butName (WorkT.again a0) a1), ((WorkT.fails a0) ++ ([(⟨a1, (1 : Int)⟩ : FailT)] : List FailT))⟩ : WorkT))
                                    (cond (!(workQOk (⟨((WorkT.list a0) ++ ([a1] : List ByteArray)), (butName (WorkT.busy a0) a1), (butName (WorkT.again a0) a1), ((WorkT.fails a0) ++ ([(⟨a1, (1 : Int)⟩ : FailT)] : List FailT))⟩ : WorkT)))
                                      (cond (sm_work a0)
                                        (k [.d .work a0, .d .bool false])
                                        none)
                                      (k [.d .work (⟨((WorkT.list a0) ++ ([a1] : List ByteArray)), (butName (WorkT.busy a0) a1), (butName (WorkT.again a0) a1), ((WorkT.fails a0) ++ ([(⟨a1, (1 : Int)⟩ : FailT)] : List FailT))⟩ : WorkT), .d .bool true]))
                                    none))
                                none))))
                        none)
                      none)
                    none)
                  (cond ((fun (x : List FailT) (_ : ByteArray) => smL sm_fail x) (WorkT.fails a0) a1)
                    (cond a2
                      (cond (decide ((failAt (WorkT.fails a0) a1) ≥ (0 : Int)))
                        (cond (gDel (WorkT.fails a0) (failAt (WorkT.fails a0) a1) (IntKind.wrap .i64 ((failAt (WorkT.fails a0) a1) + (1 : Int))))
                          (cond (!a2)
                            (cond ((fun (x : List ByteArray) (_ : ByteArray) => gLenW x) (WorkT.list a0) a1)
                              (cond (!(isIn (WorkT.list a0) a1))
                                (cond (Nat.ble ((WorkT.list a0).length + 1) LIM)
                                  (cond (sm_work (⟨((WorkT.list a0) ++ ([a1] : List ByteArray)), (butName (WorkT.busy a0) a1), (WorkT.again a0), (delL (WorkT.fails a0) (failAt (WorkT.fails a0) a1) (IntKind.wrap .i64 ((failAt (WorkT.fails a0) a1) + (1 : Int))))⟩ : WorkT))
                                    (cond (!(workQOk (⟨((WorkT.list a0) ++ ([a1] : List ByteArray)), (butName (WorkT.busy a0) a1), (WorkT.again a0), (delL (WorkT.fails a0) (failAt (WorkT.fails a0) a1) (IntKind.wrap .i64 ((failAt (WorkT.fails a0) a1) + (1 : Int))))⟩ : WorkT)))
                                      (cond (sm_work a0)
                                        (k [.d .work a0, .d .bool false])
                                        none)
                                      (k [.d .work (⟨((WorkT.list a0) ++ ([a1] : List ByteArray)), (butName (WorkT.busy a0) a1), (WorkT.again a0), (delL (WorkT.fails a0) (failAt (WorkT.fails a0) a1) (IntKind.wrap .i64 ((failAt (WorkT.fails a0) a1) + (1 : Int))))⟩ : WorkT), .d .bool true]))
                                    none)
                                  none)
                                (cond (sm_work (⟨(WorkT.list a0), (butName (WorkT.busy a0) a1), (WorkT.again a0), (delL (WorkT.fails a0) (failAt (WorkT.fails a0) a1) (IntKind.wrap .i64 ((failAt (WorkT.fails a0) a1) + (1 : Int))))⟩ : WorkT))
                                  (cond (!(workQOk (⟨(WorkT.list a0), (butName (WorkT.busy a0) a1), (WorkT.again a0), (delL (WorkT.fails a0) (failAt (WorkT.fails a0) a1) (IntKind.wrap .i64 ((failAt (WorkT.fails a0) a1) + (1 : Int))))⟩ : WorkT)))
                                    (cond (sm_work a0)
                                      (k [.d .work a0, .d .bool false])
                                      none)
                                    (k [.d .work (⟨(WorkT.list a0), (butName (WorkT.busy a0) a1), (WorkT.again a0), (delL (WorkT.fails a0) (failAt (WorkT.fails a0) a1) (IntKind.wrap .i64 ((failAt (WorkT.fails a0) a1) + (1 : Int))))⟩ : WorkT), .d .bool true]))
                                  none))
                              none)
                            (cond (sm_work (⟨(WorkT.list a0), (butName (WorkT.busy a0) a1), (WorkT.again a0), (delL (WorkT.fails a0) (failAt (WorkT.fails a0) a1) (IntKind.wrap .i64 ((failAt (WorkT.fails a0) a1) + (1 : Int))))⟩ : WorkT))
                              (cond (!(workQOk (⟨(WorkT.list a0), (butName (WorkT.busy a0) a1), (WorkT.again a0), (delL (WorkT.fails a0) (failAt (WorkT.fails a0) a1) (IntKind.wrap .i64 ((failAt (WorkT.fails a0) a1) + (1 : Int))))⟩ : WorkT)))
                                (cond (sm_work a0)
                                  (k [.d .work a0, .d .bool false])
                                  none)
                                (k [.d .work (⟨(WorkT.list a0), (butName (WorkT.busy a0) a1), (WorkT.again a0), (delL (WorkT.fails a0) (failAt (WorkT.fails a0) a1) (IntKind.wrap .i64 ((failAt (WorkT.fails a0) a1) + (1 : Int))))⟩ : WorkT), .d .bool true]))
                              none))
                          none)
                        (cond a2
                          (cond (!a2)
                            (cond ((fun (x : List ByteArray) (_ : ByteArray) => gLenW x) (WorkT.list a0) a1)
                              (cond (!(isIn (WorkT.list a0) a1))
                                (cond (Nat.ble ((WorkT.list a0).length + 1) LIM)
                                  (cond (sm_work (⟨((WorkT.list a0) ++ ([a1] : List ByteArray)), (butName (WorkT.busy a0) a1), (WorkT.again a0), (WorkT.fails a0)⟩ : WorkT))
                                    (cond (!(workQOk (⟨((WorkT.list a0) ++ ([a1] : List ByteArray)), (butName (WorkT.busy a0) a1), (WorkT.again a0), (WorkT.fails a0)⟩ : WorkT)))
                                      (cond (sm_work a0)
                                        (k [.d .work a0, .d .bool false])
                                        none)
                                      (k [.d .work (⟨((WorkT.list a0) ++ ([a1] : List ByteArray)), (butName (WorkT.busy a0) a1), (WorkT.again a0), (WorkT.fails a0)⟩ : WorkT), .d .bool true]))
                                    none)
                                  none)
                                (cond (sm_work (⟨(WorkT.list a0), (butName (WorkT.busy a0) a1), (WorkT.again a0), (WorkT.fails a0)⟩ : WorkT))
                                  (cond (!(workQOk (⟨(WorkT.list a0), (butName (WorkT.busy a0) a1), (WorkT.again a0), (WorkT.fails a0)⟩ : WorkT)))
                                    (cond (sm_work a0)
                                      (k [.d .work a0, .d .bool false])
                                      none)
                                    (k [.d .work (⟨(WorkT.list a0), (butName (WorkT.busy a0) a1), (WorkT.again a0), (WorkT.fails a0)⟩ : WorkT), .d .bool true]))
                                  none))
                              none)
                            (cond (sm_work (⟨(WorkT.list a0), (butName (WorkT.busy a0) a1), (WorkT.again a0), (WorkT.fails a0)⟩ : WorkT))
                              (cond (!(workQOk (⟨(WorkT.list a0), (butName (WorkT.busy a0) a1), (WorkT.again a0), (WorkT.fails a0)⟩ : WorkT)))
                                (cond (sm_work a0)
                                  (k [.d .work a0, .d .bool false])
                                  none)
                                (k [.d .work (⟨(WorkT.list a0), (butName (WorkT.busy a0) a1), (WorkT.again a0), (WorkT.fails a0)⟩ : WorkT), .d .bool true]))
                              none))
                          (cond (decide ((failAt (WorkT.fails a0) a1) ≥ (0 : Int)))
                            (cond ((decide ((0 : Int) ≤ (failAt (WorkT.fails a0) a1))) && (decide ((failAt (WorkT.fails a0) a1) < ((WorkT.fails a0).length : Int))))
                              (cond ((decide ((0 : Int) ≤ (failAt (WorkT.fails a0) a1))) && (decide ((failAt (WorkT.fails a0) a1) < ((WorkT.fails a0).length : Int))))
                                (cond (!a2)
                                  (cond ((fun (x : List ByteArray) (_ : ByteArray) => gLenW x) (WorkT.list a0) a1)
                                    (cond (!(isIn (WorkT.list a0) a1))
                                      (cond (Nat.ble ((WorkT.list a0).length + 1) LIM)
                                        (cond (sm_work (⟨((WorkT.list a0) ++ ([a1] : List ByteArray)), (butName (WorkT.busy a0) a1), (WorkT.again a0), (f20v0 a0 a1)⟩ : WorkT))
                                          (cond (!(workQOk (⟨((WorkT.list a0) ++ ([a1] : List ByteArray)), (butName (WorkT.busy a0) a1), (WorkT.again a0), (f20v0 a0 a1)⟩ : WorkT)))
                                            (cond (sm_work a0)
                                              (k [.d .work a0, .d .bool false])
                                              none)
                                            (k [.d .work (⟨((WorkT.list a0) ++ ([a1] : List ByteArray)), (butName (WorkT.busy a0) a1), (WorkT.again a0), (f20v0 a0 a1)⟩ : WorkT), .d .bool true]))
                                          none)
                                        none)
                                      (cond (sm_work (⟨(WorkT.list a0), (butName (WorkT.busy a0) a1), (WorkT.again a0), (f20v0 a0 a1)⟩ : WorkT))
                                        (cond (!(workQOk (⟨(WorkT.list a0), (butName (WorkT.busy a0) a1), (WorkT.again a0), (f20v0 a0 a1)⟩ : WorkT)))
                                          (cond (sm_work a0)
                                            (k [.d .work a0, .d .bool false])
                                            none)
                                          (k [.d .work (⟨(WorkT.list a0), (butName (WorkT.busy a0) a1), (WorkT.again a0), (f20v0 a0 a1)⟩ : WorkT), .d .bool true]))
                                        none))
                                    none)
                                  (cond (sm_work (⟨(WorkT.list a0), (butName (WorkT.busy a0) a1), (WorkT.again a0), (f20v0 a0 a1)⟩ : WorkT))
                                    (cond (!(workQOk (⟨(WorkT.list a0), (butName (WorkT.busy a0) a1), (WorkT.again a0), (f20v0 a0 a1)⟩ : WorkT)))
                                      (cond (sm_work a0)
                                        (k [.d .work a0, .d .bool false])
                                        none)
                                      (k [.d .work (⟨(WorkT.list a0), (butName (WorkT.busy a0) a1), (WorkT.again a0), (f20v0 a0 a1)⟩ : WorkT), .d .bool true]))
                                    none))
                                none)
                              none)
                            (cond (Nat.ble ((WorkT.fails a0).length + 1) LIM)
                              (cond (!a2)
                                (cond ((fun (x : List ByteArray) (_ : ByteArray) => gLenW x) (WorkT.list a0) a1)
                                  (cond (!(isIn (WorkT.list a0) a1))
                                    (cond (Nat.ble ((WorkT.list a0).length + 1) LIM)
                                      (cond (sm_work (⟨((WorkT.list a0) ++ ([a1] : List ByteArray)), (butName (WorkT.busy a0) a1), (WorkT.again a0), ((WorkT.fails a0) ++ ([(⟨a1, (1 : Int)⟩ : FailT)] : List FailT))⟩ : WorkT))
                                        (cond (!(workQOk (⟨((WorkT.list a0) ++ ([a1] : List ByteArray)), (butName (WorkT.busy a0) a1), (WorkT.again a0), ((WorkT.fails a0) ++ ([(⟨a1, (1 : Int)⟩ : FailT)] : List FailT))⟩ : WorkT)))
                                          (cond (sm_work a0)
                                            (k [.d .work a0, .d .bool false])
                                            none)
                                          (k [.d .work (⟨((WorkT.list a0) ++ ([a1] : List ByteArray)), (butName (WorkT.busy a0) a1), (WorkT.again a0), ((WorkT.fails a0) ++ ([(⟨a1, (1 : Int)⟩ : FailT)] : List FailT))⟩ : WorkT), .d .bool true]))
                                        none)
                                      none)
                                    (cond (sm_work (⟨(WorkT.list a0), (butName (WorkT.busy a0) a1), (WorkT.again a0), ((WorkT.fails a0) ++ ([(⟨a1, (1 : Int)⟩ : FailT)] : List FailT))⟩ : WorkT))
                                      (cond (!(workQOk (⟨(WorkT.list a0), (butName (WorkT.busy a0) a1), (WorkT.again a0), ((WorkT.fails a0) ++ ([(⟨a1, (1 : Int)⟩ : FailT)] : List FailT))⟩ : WorkT)))
                                        (cond (sm_work a0)
                                          (k [.d .work a0, .d .bool false])
                                          none)
                                        (k [.d .work (⟨(WorkT.list a0), (butName (WorkT.busy a0) a1), (WorkT.again a0), ((WorkT.fails a0) ++ ([(⟨a1, (1 : Int)⟩ : FailT)] : List FailT))⟩ : WorkT), .d .bool true]))
                                      none))
                                  none)
                                (cond (sm_work (⟨(WorkT.list a0), (butName (WorkT.busy a0) a1), (WorkT.again a0), ((WorkT.fails a0) ++ ([(⟨a1, (1 : Int)⟩ : FailT)] : List FailT))⟩ : WorkT))
                                  (cond (!(workQOk (⟨(WorkT.list a0), (butName (WorkT.busy a0) a1), (WorkT.again a0), ((WorkT.fails a0) ++ ([(⟨a1, (1 : Int)⟩ : FailT)] : List FailT))⟩ : WorkT)))
                                    (cond (sm_work a0)
                                      (k [.d .work a0, .d .bool false])
                                      none)
                                    (k [.d .work (⟨(WorkT.list a0), (butName (WorkT.busy a0) a1), (WorkT.again a0), ((WorkT.fails a0) ++ ([(⟨a1, (1 : Int)⟩ : FailT)] : List FailT))⟩ : WorkT), .d .bool true]))
                                  none))
                              none))))
                      (cond a2
                        (cond (!a2)
                          (cond ((fun (x : List ByteArray) (_ : ByteArray) => gLenW x) (WorkT.list a0) a1)
                            (cond (!(isIn (WorkT.list a0) a1))
                              (cond (Nat.ble ((WorkT.list a0).length + 1) LIM)
                                (cond (sm_work (⟨((WorkT.list a0) ++ ([a1] : List ByteArray)), (butName (WorkT.busy a0) a1), (WorkT.again a0), (WorkT.fails a0)⟩ : WorkT))
                                  (cond (!(workQOk (⟨((WorkT.list a0) ++ ([a1] : List ByteArray)), (butName (WorkT.busy a0) a1), (WorkT.again a0), (WorkT.fails a0)⟩ : WorkT)))
                                    (cond (sm_work a0)
                                      (k [.d .work a0, .d .bool false])
                                      none)
                                    (k [.d .work (⟨((WorkT.list a0) ++ ([a1] : List ByteArray)), (butName (WorkT.busy a0) a1), (WorkT.again a0), (WorkT.fails a0)⟩ : WorkT), .d .bool true]))
                                  none)
                                none)
                              (cond (sm_work (⟨(WorkT.list a0), (butName (WorkT.busy a0) a1), (WorkT.again a0), (WorkT.fails a0)⟩ : WorkT))
                                (cond (!(workQOk (⟨(WorkT.list a0), (butName (WorkT.busy a0) a1), (WorkT.again a0), (WorkT.fails a0)⟩ : WorkT)))
                                  (cond (sm_work a0)
                                    (k [.d .work a0, .d .bool false])
                                    none)
                                  (k [.d .work (⟨(WorkT.list a0), (butName (WorkT.busy a0) a1), (WorkT.again a0), (WorkT.fails a0)⟩ : WorkT), .d .bool true]))
                                none))
                            none)
                          (cond (sm_work (⟨(WorkT.list a0), (butName (WorkT.busy a0) a1), (WorkT.again a0), (WorkT.fails a0)⟩ : WorkT))
                            (cond (!(workQOk (⟨(WorkT.list a0), (butName (WorkT.busy a0) a1), (WorkT.again a0), (WorkT.fails a0)⟩ : WorkT)))
                              (cond (sm_work a0)
                                (k [.d .work a0, .d .bool false])
                                none)
                              (k [.d .work (⟨(WorkT.list a0), (butName (WorkT.busy a0) a1), (WorkT.again a0), (WorkT.fails a0)⟩ : WorkT), .d .bool true]))
                            none))
                        (cond (decide ((failAt (WorkT.fails a0) a1) ≥ (0 : Int)))
                          (cond ((decide ((0 : Int) ≤ (failAt (WorkT.fails a0) a1))) && (decide ((failAt (WorkT.fails a0) a1) < ((WorkT.fails a0).length : Int))))
                            (cond ((decide ((0 : Int) ≤ (failAt (WorkT.fails a0) a1))) && (decide ((failAt (WorkT.fails a0) a1) < ((WorkT.fails a0).length : Int))))
                              (cond (!a2)
                                (cond ((fun (x : List ByteArray) (_ : ByteArray) => gLenW x) (WorkT.list a0) a1)
                                  (cond (!(isIn (WorkT.list a0) a1))
                                    (cond (Nat.ble ((WorkT.list a0).length + 1) LIM)
                                      (cond (sm_work (⟨((WorkT.list a0) ++ ([a1] : List ByteArray)), (butName (WorkT.busy a0) a1), (WorkT.again a0), (f20v0 a0 a1)⟩ : WorkT))
                                        (cond (!(workQOk (⟨((WorkT.list a0) ++ ([a1] : List ByteArray)), (butName (WorkT.busy a0) a1), (WorkT.again a0), (f20v0 a0 a1)⟩ : WorkT)))
                                          (cond (sm_work a0)
                                            (k [.d .work a0, .d .bool false])
                                            none)
                                          (k [.d .work (⟨((WorkT.list a0) ++ ([a1] : List ByteArray)), (butName (WorkT.busy a0) a1), (WorkT.again a0), (f20v0 a0 a1)⟩ : WorkT), .d .bool true]))
                                        none)
                                      none)
                                    (cond (sm_work (⟨(WorkT.list a0), (butName (WorkT.busy a0) a1), (WorkT.again a0), (f20v0 a0 a1)⟩ : WorkT))
                                      (cond (!(workQOk (⟨(WorkT.list a0), (butName (WorkT.busy a0) a1), (WorkT.again a0), (f20v0 a0 a1)⟩ : WorkT)))
                                        (cond (sm_work a0)
                                          (k [.d .work a0, .d .bool false])
                                          none)
                                        (k [.d .work (⟨(WorkT.list a0), (butName (WorkT.busy a0) a1), (WorkT.again a0), (f20v0 a0 a1)⟩ : WorkT), .d .bool true]))
                                      none))
                                  none)
                                (cond (sm_work (⟨(WorkT.list a0), (butName (WorkT.busy a0) a1), (WorkT.again a0), (f20v0 a0 a1)⟩ : WorkT))
                                  (cond (!(workQOk (⟨(WorkT.list a0), (butName (WorkT.busy a0) a1), (WorkT.again a0), (f20v0 a0 a1)⟩ : WorkT)))
                                    (cond (sm_work a0)
                                      (k [.d .work a0, .d .bool false])
                                      none)
                                    (k [.d .work (⟨(WorkT.list a0), (butName (WorkT.busy a0) a1), (WorkT.again a0), (f20v0 a0 a1)⟩ : WorkT), .d .bool true]))
                                  none))
                              none)
                            none)
                          (cond (Nat.ble ((WorkT.fails a0).length + 1) LIM)
                            (cond (!a2)
                              (cond ((fun (x : List ByteArray) (_ : ByteArray) => gLenW x) (WorkT.list a0) a1)
                                (cond (!(isIn (WorkT.list a0) a1))
                                  (cond (Nat.ble ((WorkT.list a0).length + 1) LIM)
                                    (cond (sm_work (⟨((WorkT.list a0) ++ ([a1] : List ByteArray)), (butName (WorkT.busy a0) a1), (WorkT.again a0), ((WorkT.fails a0) ++ ([(⟨a1, (1 : Int)⟩ : FailT)] : List FailT))⟩ : WorkT))
                                      (cond (!(workQOk (⟨((WorkT.list a0) ++ ([a1] : List ByteArray)), (butName (WorkT.busy a0) a1), (WorkT.again a0), ((WorkT.fails a0) ++ ([(⟨a1, (1 : Int)⟩ : FailT)] : List FailT))⟩ : WorkT)))
                                        (cond (sm_work a0)
                                          (k [.d .work a0, .d .bool false])
                                          none)
                                        (k [.d .work (⟨((WorkT.list a0) ++ ([a1] : List ByteArray)), (butName (WorkT.busy a0) a1), (WorkT.again a0), ((WorkT.fails a0) ++ ([(⟨a1, (1 : Int)⟩ : FailT)] : List FailT))⟩ : WorkT), .d .bool true]))
                                      none)
                                    none)
                                  (cond (sm_work (⟨(WorkT.list a0), (butName (WorkT.busy a0) a1), (WorkT.again a0), ((WorkT.fails a0) ++ ([(⟨a1, (1 : Int)⟩ : FailT)] : List FailT))⟩ : WorkT))
                                    (cond (!(workQOk (⟨(WorkT.list a0), (butName (WorkT.busy a0) a1), (WorkT.again a0), ((WorkT.fails a0) ++ ([(⟨a1, (1 : Int)⟩ : FailT)] : List FailT))⟩ : WorkT)))
                                      (cond (sm_work a0)
                                        (k [.d .work a0, .d .bool false])
                                        none)
                                      (k [.d .work (⟨(WorkT.list a0), (butName (WorkT.busy a0) a1), (WorkT.again a0), ((WorkT.fails a0) ++ ([(⟨a1, (1 : Int)⟩ : FailT)] : List FailT))⟩ : WorkT), .d .bool true]))
                                    none))
                                none)
                              (cond (sm_work (⟨(WorkT.list a0), (butName (WorkT.busy a0) a1), (WorkT.again a0), ((WorkT.fails a0) ++ ([(⟨a1, (1 : Int)⟩ : FailT)] : List FailT))⟩ : WorkT))
                                (cond (!(workQOk (⟨(WorkT.list a0), (butName (WorkT.busy a0) a1), (WorkT.again a0), ((WorkT.fails a0) ++ ([(⟨a1, (1 : Int)⟩ : FailT)] : List FailT))⟩ : WorkT)))
                                  (cond (sm_work a0)
                                    (k [.d .work a0, .d .bool false])
                                    none)
                                  (k [.d .work (⟨(WorkT.list a0), (butName (WorkT.busy a0) a1), (WorkT.again a0), ((WorkT.fails a0) ++ ([(⟨a1, (1 : Int)⟩ : FailT)] : List FailT))⟩ : WorkT), .d .bool true]))
                                none))
                            none))))
                    none))
                none)
              none)
            none))
        none))
    none) := by kernel_rfl
theorem f20_spec (a0 : WorkT) (a1 : ByteArray) (a2 : Bool) (hg : gDoneW a0 a1 a2 = true) : ∃ keep rounds, ∀ {R : Type} (k : List Dt → Option R), evFn f20e keep rounds f20c [.ro, .ro, .ro] [false, false] true [.cell 6 30, .tmp 7] [30, 4] [.d .work a0, .d .str a1, .d .bool a2] k = k [.d .work ((workDone a0 a1 a2).1), .d .bool ((workDone a0 a1 a2).2)] := by
  simp only [gDoneW, Bool.and_eq_true] at hg
  obtain ⟨hg0, hs⟩ := hg
  have hg := hg0
  simp only [sm_work, Bool.and_eq_true] at hg
  obtain ⟨hl, hb, ha, hf⟩ := hg
  have nl := smL_len hl
  refine ⟨f20k, 0, fun {R} k => ?_⟩
  rw [f20_run]
  show _ = k [.d .work (workDone a0 a1 a2).1, .d .bool (workDone a0 a1 a2).2]
  cases hq : workQOk a0
  · simp only [hg0, hq, workDone, Bool.not_false, cond_true, cond_false]
  have hlb := gLenW_sm hb
  have hla := gLenW_sm ha
  have hll := gLenW_sm hl
  cases hB : isIn a0.busy a1
  · simp only [hg0, hq, hB, hlb, workDone, Bool.not_false, Bool.not_true, cond_true, cond_false]
  have hql := qOk_len hq
  have h1 : Nat.ble (a0.list.length + 1) LIM = true := limLe1 nl
  have hno := qOk_apart hq hB
  have h2 : isIn (a0.list ++ [a1]) a1 = true := isIn_snoc _ _
  have h3 : gLenW (a0.list ++ [a1]) = true := gLenW_of (by rw [List.length_append, List.length_cons, List.length_nil]; omega)
  have hff := qOk_fails hq
  have h4 : Nat.ble (a0.fails.length + 1) LIM = true := Nat.ble_eq_true_of_le (by have : (LIM : Nat) = 4294967296 := rfl; omega)
  cases hO : failO a0.fails a1 with
  | none =>
    have hfa : failAt a0.fails a1 = -1 := by unfold failAt; rw [hO]; rfl
    have hd : decide ((-1 : Int) ≥ (0 : Int)) = false := by decide
    simp only [hg0, hq, hB, hlb, hla, hll, hl, hb, ha, hf, h1, h2, h3, h4, hno, hfa, hd, Bool.not_true, Bool.not_false, cond_true, cond_false]
    cases hA : isIn a0.again a1 <;> cases a2 <;> simp only [Bool.not_true, Bool.not_false, cond_true, cond_false] <;> refine done_fin hq hB hg0 hs ?_ <;> simp [doneW, failedI, hO, hA, butName_no]
  | some i =>
    have hfa : failAt a0.fails a1 = (i : Int) := by unfold failAt; rw [hO]; rfl
    have hi := failO_lt hO
    obtain ⟨i1, i0, iw, it⟩ := idx hi (by omega)
    have hd : decide ((i : Int) ≥ (0 : Int)) = true := i0
    have hdel := gDel_one hi
    have hci := (allN_iff.1 (qOk_allF hq)) i (by omega) (by omega)
    simp only [failC, Bool.and_eq_true, inR_iff] at hci
    have hwn : IntKind.wrap .i64 ((atI (t := .fail) a0.fails i).n + (1 : Int)) = (atI (t := .fail) a0.fails i).n + 1 := wrap_id (by omega) (by omega)
    have hmin : (if (20 : Int) < (atI (t := .fail) a0.fails i).n + 1 then (20 : Int) else (atI (t := .fail) a0.fails i).n + 1) = minI ((atI (t := .fail) a0.fails i).n + 1) 20 := by unfold minI; split <;> split <;> omega
    simp only [hg0, hq, hB, hlb, hla, hll, hl, hb, ha, hf, h1, h2, h3, h4, hno, hfa, hd, i1, i0, iw, hdel, Bool.and_self, Bool.not_true, Bool.not_false, cond_true, cond_false, f20v0, it, hwn, hmin]
    cases hA : isIn a0.again a1 <;> cases a2 <;> simp only [Bool.not_true, Bool.not_false, cond_true, cond_false] <;> refine done_fin hq hB hg0 hs ?_ <;> simp [doneW, failedI, hO, hA, butName_no]

noncomputable def q20 : List Dt → Option (Bool × List Dt)
  | [.d .work a0, .d .str a1, .d .bool a2] => some ((gDoneW a0 a1 a2), [.d .work ((workDone a0 a1 a2).1), .d .bool ((workDone a0 a1 a2).2)])
  | _ => none
noncomputable def s20 : Gm.Spec := Gm.Spec.of [.ro, .ro, .ro] [false, false] true q20
theorem good20 : Gm.Good Try.prog (20, s20) := by
  have hl : ∀ x ∈ [(23, s23), (42, s42), (45, s45), (46, s46), (47, s47), (48, s48)], Gm.Good Try.prog x := List.forall_mem_cons.2 ⟨good23, List.forall_mem_cons.2 ⟨good42, List.forall_mem_cons.2 ⟨good45, List.forall_mem_cons.2 ⟨good46, List.forall_mem_cons.2 ⟨good47, List.forall_mem_cons.2 ⟨good48, List.forall_mem_nil _⟩⟩⟩⟩⟩⟩
  refine ⟨⟨spec_ok (tab_ok.env hl) (tab.natl hl) Try.func20 (by kernel_rfl : Try.f20.body = some f20c) [30, 4] (by kernel_rfl) ?_, _, Try.func20, by kernel_rfl, of_decide_eq_true (by kernel_rfl)⟩, Gm.Spec.of_natl _ _ _ _⟩
  intro ds outs h
  unfold q20 at h
  split at h
  · simp only [Option.some.injEq, Prod.mk.injEq] at h; obtain ⟨hg, h⟩ := h; cases h; exact f20_spec _ _ _ hg
  · cases h
end Go.Proofs.Ytmeeoilfnahihaa

/- x -/
namespace Go.Proofs.Ytmeeoilfnahihaa
open Go Go.Gm
/-! ### loop.example/g00465/spec.WorkTake -/
noncomputable def f25c : Code := (Try.f25.body).getD .skip
def f25k : Nat → Kp := kat [⟨[1, 2], [], [], []⟩, ⟨[1, 2, 5], [], [], []⟩, ⟨[1, 2, 5, 16], [], [], []⟩, ⟨[2, 3, 4], [], [], []⟩, ⟨[1, 2, 5], [], [], []⟩, ⟨[1, 2, 5], [], [], []⟩, ⟨[1, 2, 5, 35], [], [], []⟩, ⟨[2, 3, 4], [], [], []⟩, ⟨[2, 3, 4], [], [], []⟩]
noncomputable def f25e : Env := tab.env [(24, s24), (59, s59)]
theorem f25_run {R : Type} (n : Nat) (k : List Dt → Option R) (a0 : WorkT) : evFn f25e f25k n f25c [.ro] [false, false, false] true [.cell 2 30, .tmp 3, .tmp 4] [30, 9, 4] [.d .work a0] k =
    (cond (sm_work a0)
    (cond (sm_work a0)
      (cond (!(workQOk a0))
        (k [.d .work a0, .d .str ByteArray.empty, .d .bool false])
        (cond (((WorkT.list a0).length : Int) == (0 : Int))
          (k [.d .work a0, .d .str ByteArray.empty, .d .bool false])
          (cond ((decide ((1 : Int) ≤ ((WorkT.list a0).length : Int))) && (decide (((WorkT.list a0).length : Int) ≤ ((WorkT.list a0).length : Int))))
            (cond (Nat.ble (0 + (((WorkT.list a0).take (Int.toNat ((WorkT.list a0).length : Int))).drop 1).length) LIM)
              (cond (decide ((0 : Int) < ((WorkT.list a0).length : Int)))
                (cond (Nat.ble ((WorkT.busy a0).length + 1) LIM)
                  (cond (sm_work (⟨(([] : List ByteArray) ++ (((WorkT.list a0).take (Int.toNat ((WorkT.list a0).length : Int))).drop 1)), ((WorkT.busy a0) ++ ([(atI (t := .str) (WorkT.list a0) 0)] : List ByteArray)), (WorkT.again a0), (WorkT.fails a0)⟩ : WorkT))
                    (cond (!(workQOk (⟨(([] : List ByteArray) ++ (((WorkT.list a0).take (Int.toNat ((WorkT.list a0).length : Int))).drop 1)), ((WorkT.busy a0) ++ ([(atI (t := .str) (WorkT.list a0) 0)] : List ByteArray)), (WorkT.again a0), (WorkT.fails a0)⟩ : WorkT)))
                      (cond (sm_work a0)
                        (k [.d .work a0, .d .str ByteArray.empty, .d .bool false])
                        none)
                      (cond (decide ((0 : Int) < ((WorkT.list a0).length : Int)))
                        (k [.d .work (⟨(([] : List ByteArray) ++ (((WorkT.list a0).take (Int.toNat ((WorkT.list a0).length : Int))).drop 1)), ((WorkT.busy a0) ++ ([(atI (t := .str) (WorkT.list a0) 0)] : List ByteArray)), (WorkT.again a0), (WorkT.fails a0)⟩ : WorkT), .d .str (atI (t := .str) (WorkT.list a0) 0), .d .bool true])
                        none))
                    none)
                  none)
                none)
              none)
            none)))
      none)
    none) := by kernel_rfl
theorem f25_spec (a0 : WorkT) (hg : sm_work a0 = true) : ∃ keep rounds, ∀ {R : Type} (k : List Dt → Option R), evFn f25e keep rounds f25c [.ro] [false, false, false] true [.cell 2 30, .tmp 3, .tmp 4] [30, 9, 4] [.d .work a0] k = k [.d .work ((workTake a0).1), .d .str ((workTake a0).2.1), .d .bool ((workTake a0).2.2)] := by
  have hg0 := hg
  simp only [sm_work, Bool.and_eq_true] at hg
  obtain ⟨hl, hb, ha, hf⟩ := hg
  have nl := smL_len hl
  have nb := smL_len hb
  have na := smL_len ha
  have nf := smL_len hf
  refine ⟨f25k, 0, fun {R} k => ?_⟩
  rw [f25_run]
  show _ = k [.d .work (workTake a0).1, .d .str (workTake a0).2.1, .d .bool (workTake a0).2.2]
  unfold workTake
  simp only [hg0, cond_true]
  cases hq : workQOk a0
  · rfl
  cases hlist : a0.list with
  | nil => rfl
  | cons x r =>
    rw [hlist] at hl nl
    have h1 : (((x :: r).length : Int) == (0 : Int)) = false := by rw [beq_eq_false_iff_ne, List.length_cons]; omega
    have h2 : decide ((1 : Int) ≤ ((x :: r).length : Int)) = true := decide_eq_true (by rw [List.length_cons]; omega)
    have h3 : decide (((x :: r).length : Int) ≤ ((x :: r).length : Int)) = true := decide_eq_true (Int.le_refl _)
    have h4 : decide ((0 : Int) < ((x :: r).length : Int)) = true := decide_eq_true (by rw [List.length_cons]; omega)
    have h5 : ((x :: r).take (Int.toNat ((x :: r).length : Int))).drop 1 = r := by rw [Int.toNat_natCast, List.take_length]; rfl
    have h6 : atI (t := .str) (x :: r) 0 = x := rfl
    have hr : smL smStr r = true := smL_tail hl
    have nr := smL_len hr
    have hx : smStr x = true := smL_head hl
    have hs : sm_work (takeN a0 x r) = true := by
      simp only [takeN, sm_work, Bool.and_eq_true]
      exact ⟨hr, smL_snoc hb hx (qOk_len hq).2.1, ha, hf⟩
    simp only [same, h1, h2, h3, h4, h5, h6, Bool.not_true, cond_true, cond_false, Bool.and_self, List.nil_append, Nat.zero_add, limLe nr, limLe1 nb]
    rw [show (⟨r, a0.busy ++ [x], a0.again, a0.fails⟩ : WorkT) = takeN a0 x r from rfl, hs]
    cases workQOk (takeN a0 x r) <;> simp only [cond_true, cond_false, Bool.not_true, Bool.not_false, hlist]

noncomputable def q25 : List Dt → Option (Bool × List Dt)
  | [.d .work a0] => some ((sm_work a0), [.d .work ((workTake a0).1), .d .str ((workTake a0).2.1), .d .bool ((workTake a0).2.2)])
  | _ => none
noncomputable def s25 : Gm.Spec := Gm.Spec.of [.ro] [false, false, false] true q25
theorem good25 : Gm.Good Try.prog (25, s25) := by
  have hl : ∀ x ∈ [(24, s24), (59, s59)], Gm.Good Try.prog x := List.forall_mem_cons.2 ⟨good24, List.forall_mem_cons.2 ⟨good59, List.forall_mem_nil _⟩⟩
  refine ⟨⟨spec_ok (tab_ok.env hl) (tab.natl hl) Try.func25 (by kernel_rfl : Try.f25.body = some f25c) [30, 9, 4] (by kernel_rfl) ?_, _, Try.func25, by kernel_rfl, of_decide_eq_true (by kernel_rfl)⟩, Gm.Spec.of_natl _ _ _ _⟩
  intro ds outs h
  unfold q25 at h
  split at h
  · simp only [Option.some.injEq, Prod.mk.injEq] at h; obtain ⟨hg, h⟩ := h; cases h; exact f25_spec _ hg
  · cases h
/-! ### loop.example/g00465/impl.WorkTake -/
noncomputable def f19c : Code := (Try.f19.body).getD .skip
def f19k : Nat → Kp := kat [⟨[1, 2], [], [], []⟩, ⟨[1, 2, 15], [], [], []⟩, ⟨[2, 3, 4], [], [], []⟩, ⟨[1, 2, 5], [], [], []⟩, ⟨[1, 2, 5, 6], [], [], []⟩, ⟨[1, 2, 5, 6], [], [], []⟩, ⟨[1, 2, 5, 6], [], [], []⟩, ⟨[1, 2, 5, 6, 36], [], [], []⟩, ⟨[2, 3, 4], [], [], []⟩, ⟨[2, 3, 4], [], [], []⟩]
noncomputable def f19e : Env := tab.env [(23, s23), (45, s45)]
theorem f19_run {R : Type} (n : Nat) (k : List Dt → Option R) (a0 : WorkT) : evFn f19e f19k n f19c [.ro] [false, false, false] true [.cell 2 30, .tmp 3, .tmp 4] [30, 9, 4] [.d .work a0] k =
    (cond (sm_work a0)
    (cond (!(workQOk a0))
      (cond (sm_work a0)
        (k [.d .work a0, .d .str ByteArray.empty, .d .bool false])
        none)
      (cond (((WorkT.list a0).length : Int) == (0 : Int))
        (cond (sm_work a0)
          (k [.d .work a0, .d .str ByteArray.empty, .d .bool false])
          none)
        (cond (sm_work a0)
          (cond (decide ((0 : Int) < ((WorkT.list a0).length : Int)))
            (cond ((decide ((1 : Int) ≤ ((WorkT.list a0).length : Int))) && (decide (((WorkT.list a0).length : Int) ≤ ((WorkT.list a0).length : Int))))
              (cond (Nat.ble ((WorkT.busy a0).length + 1) LIM)
                (cond (sm_work (⟨(((WorkT.list a0).take (Int.toNat ((WorkT.list a0).length : Int))).drop 1), ((WorkT.busy a0) ++ ([(atI (t := .str) (WorkT.list a0) 0)] : List ByteArray)), (WorkT.again a0), (WorkT.fails a0)⟩ : WorkT))
                  (cond (!(workQOk (⟨(((WorkT.list a0).take (Int.toNat ((WorkT.list a0).length : Int))).drop 1), ((WorkT.busy a0) ++ ([(atI (t := .str) (WorkT.list a0) 0)] : List ByteArray)), (WorkT.again a0), (WorkT.fails a0)⟩ : WorkT)))
                    (cond (sm_work a0)
                      (k [.d .work a0, .d .str ByteArray.empty, .d .bool false])
                      none)
                    (k [.d .work (⟨(((WorkT.list a0).take (Int.toNat ((WorkT.list a0).length : Int))).drop 1), ((WorkT.busy a0) ++ ([(atI (t := .str) (WorkT.list a0) 0)] : List ByteArray)), (WorkT.again a0), (WorkT.fails a0)⟩ : WorkT), .d .str (atI (t := .str) (WorkT.list a0) 0), .d .bool true]))
                  none)
                none)
              none)
            none)
          none)))
    none) := by kernel_rfl
theorem f19_spec (a0 : WorkT) (hg : sm_work a0 = true) : ∃ keep rounds, ∀ {R : Type} (k : List Dt → Option R), evFn f19e keep rounds f19c [.ro] [false, false, false] true [.cell 2 30, .tmp 3, .tmp 4] [30, 9, 4] [.d .work a0] k = k [.d .work ((workTake a0).1), .d .str ((workTake a0).2.1), .d .bool ((workTake a0).2.2)] := by
  have hg0 := hg
  simp only [sm_work, Bool.and_eq_true] at hg
  obtain ⟨hl, hb, ha, hf⟩ := hg
  have nl := smL_len hl
  have nb := smL_len hb
  have na := smL_len ha
  have nf := smL_len hf
  refine ⟨f19k, 0, fun {R} k => ?_⟩
  rw [f19_run]
  show _ = k [.d .work (workTake a0).1, .d .str (workTake a0).2.1, .d .bool (workTake a0).2.2]
  unfold workTake
  simp only [hg0, cond_true]
  cases hq : workQOk a0
  · rfl
  cases hlist : a0.list with
  | nil => rfl
  | cons x r =>
    rw [hlist] at hl nl
    have h1 : (((x :: r).length : Int) == (0 : Int)) = false := by rw [beq_eq_false_iff_ne, List.length_cons]; omega
    have h2 : decide ((1 : Int) ≤ ((x :: r).length : Int)) = true := decide_eq_true (by rw [List.length_cons]; omega)
    have h3 : decide (((x :: r).length : Int) ≤ ((x :: r).length : Int)) = true := decide_eq_true (Int.le_refl _)
    have h4 : decide ((0 : Int) < ((x :: r).length : Int)) = true := decide_eq_true (by rw [List.length_cons]; omega)
    have h5 : ((x :: r).take (Int.toNat ((x :: r).length : Int))).drop 1 = r := by rw [Int.toNat_natCast, List.take_length]; rfl
    have h6 : atI (t := .str) (x :: r) 0 = x := rfl
    have hr : smL smStr r = true := smL_tail hl
    have nr := smL_len hr
    have hx : smStr x = true := smL_head hl
    have hs : sm_work (takeN a0 x r) = true := by
      simp only [takeN, sm_work, Bool.and_eq_true]
      exact ⟨hr, smL_snoc hb hx (qOk_len hq).2.1, ha, hf⟩
    simp only [same, h1, h2, h3, h4, h5, h6, Bool.not_true, cond_true, cond_false, Bool.and_self, List.nil_append, Nat.zero_add, limLe nr, limLe1 nb]
    rw [show (⟨r, a0.busy ++ [x], a0.again, a0.fails⟩ : WorkT) = takeN a0 x r from rfl, hs]
    cases workQOk (takeN a0 x r) <;> simp only [cond_true, cond_false, Bool.not_true, Bool.not_false, hlist]

noncomputable def q19 : List Dt → Option (Bool × List Dt)
  | [.d .work a0] => some ((sm_work a0), [.d .work ((workTake a0).1), .d .str ((workTake a0).2.1), .d .bool ((workTake a0).2.2)])
  | _ => none
noncomputable def s19 : Gm.Spec := Gm.Spec.of [.ro] [false, false, false] true q19
theorem good19 : Gm.Good Try.prog (19, s19) := by
  have hl : ∀ x ∈ [(23, s23), (45, s45)], Gm.Good Try.prog x := List.forall_mem_cons.2 ⟨good23, List.forall_mem_cons.2 ⟨good45, List.forall_mem_nil _⟩⟩
  refine ⟨⟨spec_ok (tab_ok.env hl) (tab.natl hl) Try.func19 (by kernel_rfl : Try.f19.body = some f19c) [30, 9, 4] (by kernel_rfl) ?_, _, Try.func19, by kernel_rfl, of_decide_eq_true (by kernel_rfl)⟩, Gm.Spec.of_natl _ _ _ _⟩
  intro ds outs h
  unfold q19 at h
  split at h
  · simp only [Option.some.injEq, Prod.mk.injEq] at h; obtain ⟨hg, h⟩ := h; cases h; exact f19_spec _ hg
  · cases h
/-! ### loop.example/g00465/spec.WorkAdd -/
noncomputable def f28c : Code := (Try.f28.body).getD .skip
def f28k : Nat → Kp := kat [⟨[1, 2, 4], [], [], []⟩, ⟨[1, 2, 4, 6], [], [], []⟩, ⟨[1, 2, 4, 6, 11], [], [], []⟩, ⟨[4, 5], [], [], []⟩, ⟨[2, 4, 6], [], [], []⟩, ⟨[1, 2, 4, 6, 19], [], [], []⟩, ⟨[4, 5], [], [], []⟩, ⟨[1, 2, 4, 6, 31], [], [], []⟩, ⟨[2, 4, 6], [], [], []⟩, ⟨[2, 4, 6, 44], [], [], []⟩, ⟨[4, 5], [], [], []⟩, ⟨[4, 5], [], [], []⟩]
noncomputable def f28e : Env := tab.env [(24, s24), (56, s56), (59, s59)]
theorem f28_run {R : Type} (n : Nat) (k : List Dt → Option R) (a0 : WorkT) (a1 : ByteArray) : evFn f28e f28k n f28c [.ro, .ro] [false, false] true [.cell 4 30, .tmp 5] [30, 4] [.d .work a0, .d .str a1] k =
    (cond (sm_work a0)
    (cond (sm_work a0)
      (cond (!(workQOk a0))
        (k [.d .work a0, .d .bool false])
        (cond ((fun (x : List ByteArray) (_ : ByteArray) => gLenW x) (WorkT.list a0) a1)
          (cond (isIn (WorkT.list a0) a1)
            (k [.d .work a0, .d .bool true])
            (cond ((fun (x : List ByteArray) (_ : ByteArray) => gLenW x) (WorkT.again a0) a1)
              (cond (isIn (WorkT.again a0) a1)
                (k [.d .work a0, .d .bool true])
                (cond ((fun (x : List ByteArray) (_ : ByteArray) => gLenW x) (WorkT.busy a0) a1)
                  (cond (isIn (WorkT.busy a0) a1)
                    (cond (Nat.ble ((WorkT.again a0).length + 1) LIM)
                      (cond (sm_work (⟨(WorkT.list a0), (WorkT.busy a0), ((WorkT.again a0) ++ ([a1] : List ByteArray)), (WorkT.fails a0)⟩ : WorkT))
                        (cond (!(workQOk (⟨(WorkT.list a0), (WorkT.busy a0), ((WorkT.again a0) ++ ([a1] : List ByteArray)), (WorkT.fails a0)⟩ : WorkT)))
                          (cond (sm_work a0)
                            (k [.d .work a0, .d .bool false])
                            none)
                          (k [.d .work (⟨(WorkT.list a0), (WorkT.busy a0), ((WorkT.again a0) ++ ([a1] : List ByteArray)), (WorkT.fails a0)⟩ : WorkT), .d .bool true]))
                        none)
                      none)
                    (cond (Nat.ble ((WorkT.list a0).length + 1) LIM)
                      (cond (sm_work (⟨((WorkT.list a0) ++ ([a1] : List ByteArray)), (WorkT.busy a0), (WorkT.again a0), (WorkT.fails a0)⟩ : WorkT))
                        (cond (!(workQOk (⟨((WorkT.list a0) ++ ([a1] : List ByteArray)), (WorkT.busy a0), (WorkT.again a0), (WorkT.fails a0)⟩ : WorkT)))
                          (cond (sm_work a0)
                            (k [.d .work a0, .d .bool false])
                            none)
                          (k [.d .work (⟨((WorkT.list a0) ++ ([a1] : List ByteArray)), (WorkT.busy a0), (WorkT.again a0), (WorkT.fails a0)⟩ : WorkT), .d .bool true]))
                        none)
                      none))
                  none))
              none))
          none))
      none)
    none) := by kernel_rfl
theorem f28_spec (a0 : WorkT) (a1 : ByteArray) (hg : gAddW a0 a1 = true) : ∃ keep rounds, ∀ {R : Type} (k : List Dt → Option R), evFn f28e keep rounds f28c [.ro, .ro] [false, false] true [.cell 4 30, .tmp 5] [30, 4] [.d .work a0, .d .str a1] k = k [.d .work ((workAdd a0 a1).1), .d .bool ((workAdd a0 a1).2)] := by
  simp only [gAddW, Bool.and_eq_true] at hg
  obtain ⟨hg, hs1⟩ := hg
  have hg0 := hg
  simp only [sm_work, Bool.and_eq_true] at hg
  obtain ⟨hl, hb, ha, hf⟩ := hg
  have nl := smL_len hl
  have nb := smL_len hb
  have na := smL_len ha
  have nf := smL_len hf
  have gl : gLenW a0.list = true := gLenW_sm hl
  have gb : gLenW a0.busy = true := gLenW_sm hb
  have ga : gLenW a0.again = true := gLenW_sm ha
  refine ⟨f28k, 0, fun {R} k => ?_⟩
  rw [f28_run]
  show _ = k [.d .work (workAdd a0 a1).1, .d .bool (workAdd a0 a1).2]
  have e1 : (⟨a0.list, a0.busy, a0.again ++ [a1], a0.fails⟩ : WorkT) = addAgain a0 a1 := rfl
  have e2 : (⟨a0.list ++ [a1], a0.busy, a0.again, a0.fails⟩ : WorkT) = addList a0 a1 := rfl
  simp only [hg0, gl, gb, ga, limLe1 nl, limLe1 na, e1, e2, cond_true]
  unfold workAdd
  cases hq : workQOk a0
  · cases isIn a0.list a1 <;> cases isIn a0.again a1 <;> cases isIn a0.busy a1 <;> rfl
  · have s1 : sm_work (addAgain a0 a1) = true := by
      simp only [addAgain, sm_work, Bool.and_eq_true]
      exact ⟨hl, hb, smL_snoc ha hs1 (qOk_len hq).2.2, hf⟩
    have s2 : sm_work (addList a0 a1) = true := by
      simp only [addList, sm_work, Bool.and_eq_true]
      exact ⟨smL_snoc hl hs1 (qOk_len hq).1, hb, ha, hf⟩
    simp only [s1, s2, Bool.not_true, cond_true, cond_false]
    cases isIn a0.list a1 <;> cases isIn a0.again a1 <;> cases isIn a0.busy a1 <;> cases workQOk (addAgain a0 a1) <;> cases workQOk (addList a0 a1) <;> rfl

noncomputable def q28 : List Dt → Option (Bool × List Dt)
  | [.d .work a0, .d .str a1] => some ((gAddW a0 a1), [.d .work ((workAdd a0 a1).1), .d .bool ((workAdd a0 a1).2)])
  | _ => none
noncomputable def s28 : Gm.Spec := Gm.Spec.of [.ro, .ro] [false, false] true q28
theorem good28 : Gm.Good Try.prog (28, s28) := by
  have hl : ∀ x ∈ [(24, s24), (56, s56), (59, s59)], Gm.Good Try.prog x := List.forall_mem_cons.2 ⟨good24, List.forall_mem_cons.2 ⟨good56, List.forall_mem_cons.2 ⟨good59, List.forall_mem_nil _⟩⟩⟩
  refine ⟨⟨spec_ok (tab_ok.env hl) (tab.natl hl) Try.func28 (by kernel_rfl : Try.f28.body = some f28c) [30, 4] (by kernel_rfl) ?_, _, Try.func28, by kernel_rfl, of_decide_eq_true (by kernel_rfl)⟩, Gm.Spec.of_natl _ _ _ _⟩
  intro ds outs h
  unfold q28 at h
  split at h
  · simp only [Option.some.injEq, Prod.mk.injEq] at h; obtain ⟨hg, h⟩ := h; cases h; exact f28_spec _ _ hg
  · cases h
/-! ### loop.example/g00465/impl.WorkAdd -/
noncomputable def f17c : Code := (Try.f17.body).getD .skip
def f17k : Nat → Kp := kat [⟨[1, 2, 4], [], [], []⟩, ⟨[1, 2, 4, 6], [], [], []⟩, ⟨[2, 4, 6], [], [], []⟩, ⟨[1, 2, 4, 6, 15], [], [], []⟩, ⟨[1, 2, 4, 6, 26], [], [], []⟩, ⟨[2, 4, 6], [], [], []⟩, ⟨[2, 4, 6, 44], [], [], []⟩, ⟨[4, 5], [], [], []⟩, ⟨[4, 5], [], [], []⟩]
noncomputable def f17e : Env := tab.env [(23, s23), (45, s45), (46, s46)]
theorem f17_run {R : Type} (n : Nat) (k : List Dt → Option R) (a0 : WorkT) (a1 : ByteArray) : evFn f17e f17k n f17c [.ro, .ro] [false, false] true [.cell 4 30, .tmp 5] [30, 4] [.d .work a0, .d .str a1] k =
    (cond (sm_work a0)
    (cond ((fun (x : List ByteArray) (_ : ByteArray) => gLenW x) (WorkT.list a0) a1)
      (cond (isIn (WorkT.list a0) a1)
        (cond (sm_work a0)
          (cond (!(workQOk a0))
            (cond (sm_work a0)
              (k [.d .work a0, .d .bool false])
              none)
            (cond (sm_work a0)
              (cond (!(workQOk a0))
                (cond (sm_work a0)
                  (k [.d .work a0, .d .bool false])
                  none)
                (k [.d .work a0, .d .bool true]))
              none))
          none)
        (cond ((fun (x : List ByteArray) (_ : ByteArray) => gLenW x) (WorkT.again a0) a1)
          (cond (isIn (WorkT.again a0) a1)
            (cond (sm_work a0)
              (cond (!(workQOk a0))
                (cond (sm_work a0)
                  (k [.d .work a0, .d .bool false])
                  none)
                (cond (sm_work a0)
                  (cond (!(workQOk a0))
                    (cond (sm_work a0)
                      (k [.d .work a0, .d .bool false])
                      none)
                    (k [.d .work a0, .d .bool true]))
                  none))
              none)
            (cond ((fun (x : List ByteArray) (_ : ByteArray) => gLenW x) (WorkT.busy a0) a1)
              (cond (isIn (WorkT.busy a0) a1)
                (cond (Nat.ble ((WorkT.again a0).length + 1) LIM)
                  (cond (sm_work a0)
                    (cond (!(workQOk a0))
                      (cond (sm_work a0)
                        (k [.d .work a0, .d .bool false])
                        none)
                      (cond (sm_work (⟨(WorkT.list a0), (WorkT.busy a0), ((WorkT.again a0) ++ ([a1] : List ByteArray)), (WorkT.fails a0)⟩ : WorkT))
                        (cond (!(workQOk (⟨(WorkT.list a0), (WorkT.busy a0), ((WorkT.again a0) ++ ([a1] : List ByteArray)), (WorkT.fails a0)⟩ : WorkT)))
                          (cond (sm_work a0)
                            (k [.d .work a0, .d .bool false])
                            none)
                          (k [.d .work (⟨(WorkT.list a0), (WorkT.busy a0), ((WorkT.again a0) ++ ([a1] : List ByteArray)), (WorkT.fails a0)⟩ : WorkT), .d .bool true]))
                        none))
                    none)
                  none)
                (cond (Nat.ble ((WorkT.list a0).length + 1) LIM)
                  (cond (sm_work a0)
                    (cond (!(workQOk a0))
                      (cond (sm_work a0)
                        (k [.d .work a0, .d .bool false])
                        none)
                      (cond (sm_work (⟨((WorkT.list a0) ++ ([a1] : List ByteArray)), (WorkT.busy a0), (WorkT.again a0), (WorkT.fails a0)⟩ : WorkT))
                        (cond (!(workQOk (⟨((WorkT.list a0) ++ ([a1] : List ByteArray)), (WorkT.busy a0), (WorkT.again a0), (WorkT.fails a0)⟩ : WorkT)))
                          (cond (sm_work a0)
                            (k [.d .work a0, .d .bool false])
                            none)
                          (k [.d .work (⟨((WorkT.list a0) ++ ([a1] : List ByteArray)), (WorkT.busy a0), (WorkT.again a0), (WorkT.fails a0)⟩ : WorkT), .d .bool true]))
                        none))
                    none)
                  none))
              none))
          none))
      none)
    none) := by kernel_rfl
theorem f17_spec (a0 : WorkT) (a1 : ByteArray) (hg : gAddW a0 a1 = true) : ∃ keep rounds, ∀ {R : Type} (k : List Dt → Option R), evFn f17e keep rounds f17c [.ro, .ro] [false, false] true [.cell 4 30, .tmp 5] [30, 4] [.d .work a0, .d .str a1] k = k [.d .work ((workAdd a0 a1).1), .d .bool ((workAdd a0 a1).2)] := by
  simp only [gAddW, Bool.and_eq_true] at hg
  obtain ⟨hg, hs1⟩ := hg
  have hg0 := hg
  simp only [sm_work, Bool.and_eq_true] at hg
  obtain ⟨hl, hb, ha, hf⟩ := hg
  have nl := smL_len hl
  have nb := smL_len hb
  have na := smL_len ha
  have nf := smL_len hf
  have gl : gLenW a0.list = true := gLenW_sm hl
  have gb : gLenW a0.busy = true := gLenW_sm hb
  have ga : gLenW a0.again = true := gLenW_sm ha
  refine ⟨f17k, 0, fun {R} k => ?_⟩
  rw [f17_run]
  show _ = k [.d .work (workAdd a0 a1).1, .d .bool (workAdd a0 a1).2]
  have e1 : (⟨a0.list, a0.busy, a0.again ++ [a1], a0.fails⟩ : WorkT) = addAgain a0 a1 := rfl
  have e2 : (⟨a0.list ++ [a1], a0.busy, a0.again, a0.fails⟩ : WorkT) = addList a0 a1 := rfl
  simp only [hg0, gl, gb, ga, limLe1 nl, limLe1 na, e1, e2, cond_true]
  unfold workAdd
  cases hq : workQOk a0
  · cases isIn a0.list a1 <;> cases isIn a0.again a1 <;> cases isIn a0.busy a1 <;> rfl
  · have s1 : sm_work (addAgain a0 a1) = true := by
      simp only [addAgain, sm_work, Bool.and_eq_true]
      exact ⟨hl, hb, smL_snoc ha hs1 (qOk_len hq).2.2, hf⟩
    have s2 : sm_work (addList a0 a1) = true := by
      simp only [addList, sm_work, Bool.and_eq_true]
      exact ⟨smL_snoc hl hs1 (qOk_len hq).1, hb, ha, hf⟩
    simp only [s1, s2, Bool.not_true, cond_true, cond_false]
    cases isIn a0.list a1 <;> cases isIn a0.again a1 <;> cases isIn a0.busy a1 <;> cases workQOk (addAgain a0 a1) <;> cases workQOk (addList a0 a1) <;> rfl

noncomputable def q17 : List Dt → Option (Bool × List Dt)
  | [.d .work a0, .d .str a1] => some ((gAddW a0 a1), [.d .work ((workAdd a0 a1).1), .d .bool ((workAdd a0 a1).2)])
  | _ => none
noncomputable def s17 : Gm.Spec := Gm.Spec.of [.ro, .ro] [false, false] true q17
theorem good17 : Gm.Good Try.prog (17, s17) := by
  have hl : ∀ x ∈ [(23, s23), (45, s45), (46, s46)], Gm.Good Try.prog x := List.forall_mem_cons.2 ⟨good23, List.forall_mem_cons.2 ⟨good45, List.forall_mem_cons.2 ⟨good46, List.forall_mem_nil _⟩⟩⟩
  refine ⟨⟨spec_ok (tab_ok.env hl) (tab.natl hl) Try.func17 (by kernel_rfl : Try.f17.body = some f17c) [30, 4] (by kernel_rfl) ?_, _, Try.func17, by kernel_rfl, of_decide_eq_true (by kernel_rfl)⟩, Gm.Spec.of_natl _ _ _ _⟩
  intro ds outs h
  unfold q17 at h
  split at h
  · simp only [Option.some.injEq, Prod.mk.injEq] at h; obtain ⟨hg, h⟩ := h; cases h; exact f17_spec _ _ hg
  · cases h
end Go.Proofs.Ytmeeoilfnahihaa

/- x -/
namespace Go.Proofs.Ytmeeoilfnahihaa
open Go Go.Gm
/-! ### loop.example/g00465/laws.big -/
noncomputable def f16c : Code := (Try.f16.body).getD .skip
def f16k : Nat → Kp := kat [⟨[0], [], [], []⟩, ⟨[2], [], [], []⟩]
noncomputable def f16e : Env := tab.env []
theorem f16_run {R : Type} (n : Nat) (k : List Dt → Option R) (a0 : List Int) : evFn f16e f16k n f16c [.ro] [false] true [.tmp 2] [4] [.d (.sl (.i .u8)) a0] k =
    (k [.d .bool (decide ((a0.length : Int) > (1048576 : Int)))]) := by kernel_rfl
theorem f16_spec (a0 : List Int) : ∃ keep rounds, ∀ {R : Type} (k : List Dt → Option R), evFn f16e keep rounds f16c [.ro] [false] true [.tmp 2] [4] [.d (.sl (.i .u8)) a0] k = k [.d .bool (bigC a0)] := by
  exact ⟨f16k, 0, fun k => f16_run 0 k a0⟩

noncomputable def q16 : List Dt → Option (Bool × List Dt)
  | [.d (.sl (.i .u8)) a0] => some (true, [.d .bool (bigC a0)])
  | _ => none
noncomputable def s16 : Gm.Spec := Gm.Spec.of [.ro] [false] true q16
theorem good16 : Gm.Good Try.prog (16, s16) := by
  have hl : ∀ x ∈ ([] : List (Nat × Gm.Spec)), Gm.Good Try.prog x := fun _ h => by cases h
  refine ⟨⟨spec_ok (tab_ok.env hl) (tab.natl hl) Try.func16 (by kernel_rfl : Try.f16.body = some f16c) [4] (by kernel_rfl) ?_, _, Try.func16, by kernel_rfl, of_decide_eq_true (by kernel_rfl)⟩, Gm.Spec.of_natl _ _ _ _⟩
  intro ds outs h
  unfold q16 at h
  split at h
  · cases h; exact f16_spec _
  · cases h
/-! ### loop.example/g00465/laws.at -/
noncomputable def f18c : Code := (Try.f18.body).getD .skip
def f18k : Nat → Kp := kat [⟨[0, 1], [], [], []⟩, ⟨[0, 1, 8], [], [], []⟩, ⟨[4], [], [], []⟩, ⟨[4], [], [], []⟩]
noncomputable def f18e : Env := tab.env []
theorem f18_run {R : Type} (n : Nat) (k : List Dt → Option R) (a0 : List Int) (a1 : Int) : evFn f18e f18k n f18c [.ro, .ro] [false] true [.tmp 4] [3] [.d (.sl (.i .u8)) a0, .d (.i .i64) a1] k =
    (cond (decide (a1 < (a0.length : Int)))
    (cond ((decide ((0 : Int) ≤ a1)) && (decide (a1 < (a0.length : Int))))
      (k [.d (.i .i64) (IntKind.wrap .i64 (atI (t := (.i .u8)) a0 (Int.toNat a1)))])
      none)
    (k [.d (.i .i64) (Int.tmod (IntKind.wrap .i64 ((IntKind.wrap .i64 (a1 * (7 : Int))) + (a0.length : Int))) (256 : Int))])) := by kernel_rfl
theorem f18_spec (a0 : List Int) (a1 : Int) (hg : decide ((0 : Int) ≤ a1) = true) : ∃ keep rounds, ∀ {R : Type} (k : List Dt → Option R), evFn f18e keep rounds f18c [.ro, .ro] [false] true [.tmp 4] [3] [.d (.sl (.i .u8)) a0, .d (.i .i64) a1] k = k [.d (.i .i64) (atC a0 a1)] := by
  refine ⟨f18k, 0, fun k => ?_⟩
  rw [f18_run, hg]
  unfold atC
  cases decide (a1 < (a0.length : Int)) <;> rfl

noncomputable def q18 : List Dt → Option (Bool × List Dt)
  | [.d (.sl (.i .u8)) a0, .d (.i .i64) a1] => some (((fun (_ : List Int) (i : Int) => decide ((0 : Int) ≤ i)) a0 a1), [.d (.i .i64) (atC a0 a1)])
  | _ => none
noncomputable def s18 : Gm.Spec := Gm.Spec.of [.ro, .ro] [false] true q18
theorem good18 : Gm.Good Try.prog (18, s18) := by
  have hl : ∀ x ∈ ([] : List (Nat × Gm.Spec)), Gm.Good Try.prog x := fun _ h => by cases h
  refine ⟨⟨spec_ok (tab_ok.env hl) (tab.natl hl) Try.func18 (by kernel_rfl : Try.f18.body = some f18c) [3] (by kernel_rfl) ?_, _, Try.func18, by kernel_rfl, of_decide_eq_true (by kernel_rfl)⟩, Gm.Spec.of_natl _ _ _ _⟩
  intro ds outs h
  unfold q18 at h
  split at h
  · simp only [Option.some.injEq, Prod.mk.injEq] at h; obtain ⟨hg, h⟩ := h; cases h; exact f18_spec _ _ hg
  · cases h
/-! ### loop.example/g00465/laws.FnWaits -/
noncomputable def f4c : Code := (Try.f4.body).getD .skip
def f4k : Nat → Kp := kat [⟨[0], [], [], []⟩, ⟨[0, 17], [], [], []⟩, ⟨[2], [], [], []⟩, ⟨[0, 3], [], [], []⟩, ⟨[0, 3, 5], [], [], []⟩, ⟨[0, 3, 5, 6], [], [], []⟩, ⟨[0, 3, 5, 6, 28], [], [], []⟩, ⟨[0, 3, 5, 6], [], [], [(2944, 1280), (2945, 1281), (2946, 1282), (2947, 1283)]⟩, ⟨[0, 3, 5, 6, 7, 8, 9], [], [], []⟩, ⟨[0, 3, 5, 6, 7, 8, 42], [], [], []⟩, ⟨[2], [], [], []⟩, ⟨[0, 3, 5, 6, 8, 9], [], [], []⟩, ⟨[0, 3, 5, 6, 8, 9, 10], [], [], []⟩, ⟨[0, 3, 6, 10, 73], [], [], []⟩, ⟨[2], [], [], []⟩, ⟨[0, 3, 5, 6], [], [], []⟩, ⟨[11, 12, 13], [], [], []⟩, ⟨[12, 13, 14, 15], [], [], []⟩, ⟨[2], [], [], []⟩]
noncomputable def f4e : Env := tab.env [(12, s12), (14, s14), (16, s16), (17, s17), (18, s18), (19, s19), (20, s20)]
noncomputable def f4L0 {R : Type} (n : Nat) (x0 : Option R) (x1 : Int → Int → Bool → (List ByteArray) → (List ByteArray) → (List ByteArray) → (List FailT) → Option R) (vs0 : List Int) : Nat → Int → Int → (List ByteArray) → (List ByteArray) → (List ByteArray) → (List FailT) → Option R
  | 0, _, _, _, _, _, _ => none
  | m + 1, vs5, vs6, vr1280, vr1281, vr1282, vr1283 =>
    (cond ((fun (_ : List Int) (i : Int) => decide ((0 : Int) ≤ i)) vs0 (1 : Int))
      (cond (decide (vs6 < (IntKind.wrap .i64 ((1 : Int) + (Int.tmod (atC vs0 (1 : Int)) (25 : Int))))))
        (cond (sm_work (⟨vr1280, vr1281, vr1282, vr1283⟩ : WorkT))
          (cond (!((workTake (⟨vr1280, vr1281, vr1282, vr1283⟩ : WorkT)).2.2))
            (x0)
            (cond (!(sEq ((workTake (⟨vr1280, vr1281, vr1282, vr1283⟩ : WorkT)).2.1) (bs [119,101,98])))
              (x0)
              (cond (gDoneW ((workTake (⟨vr1280, vr1281, vr1282, vr1283⟩ : WorkT)).1) ((workTake (⟨vr1280, vr1281, vr1282, vr1283⟩ : WorkT)).2.1) false)
                (cond ((fun (x : WorkT) (_ : ByteArray) => sm_work x) ((workDone ((workTake (⟨vr1280, vr1281, vr1282, vr1283⟩ : WorkT)).1) ((workTake (⟨vr1280, vr1281, vr1282, vr1283⟩ : WorkT)).2.1) false).1) ((workTake (⟨vr1280, vr1281, vr1282, vr1283⟩ : WorkT)).2.1))
                  (cond (!((workDone ((workTake (⟨vr1280, vr1281, vr1282, vr1283⟩ : WorkT)).1) ((workTake (⟨vr1280, vr1281, vr1282, vr1283⟩ : WorkT)).2.1) false).2))
                    (x0)
                    (cond (decide ((waitOf ((workDone ((workTake (⟨vr1280, vr1281, vr1282, vr1283⟩ : WorkT)).1) ((workTake (⟨vr1280, vr1281, vr1282, vr1283⟩ : WorkT)).2.1) false).1) ((workTake (⟨vr1280, vr1281, vr1282, vr1283⟩ : WorkT)).2.1)) < vs5))
                      (x0)
                      (cond (decide ((waitOf ((workDone ((workTake (⟨vr1280, vr1281, vr1282, vr1283⟩ : WorkT)).1) ((workTake (⟨vr1280, vr1281, vr1282, vr1283⟩ : WorkT)).2.1) false).1) ((workTake (⟨vr1280, vr1281, vr1282, vr1283⟩ : WorkT)).2.1)) > (300 : Int)))
                        (x0)
                        (cond (decide ((waitOf ((workDone ((workTake (⟨vr1280, vr1281, vr1282, vr1283⟩ : WorkT)).1) ((workTake (⟨vr1280, vr1281, vr1282, vr1283⟩ : WorkT)).2.1) false).1) ((workTake (⟨vr1280, vr1281, vr1282, vr1283⟩ : WorkT)).2.1)) < (1 : Int)))
                          (x0)
                          (cond ((fun (x : WorkT) (_ : ByteArray) => sm_work x) ((workDone ((workTake (⟨vr1280, vr1281, vr1282, vr1283⟩ : WorkT)).1) ((workTake (⟨vr1280, vr1281, vr1282, vr1283⟩ : WorkT)).2.1) false).1) ((workTake (⟨vr1280, vr1281, vr1282, vr1283⟩ : WorkT)).2.1))
                            (cond ((waitOf ((workDone ((workTake (⟨vr1280, vr1281, vr1282, vr1283⟩ : WorkT)).1) ((workTake (⟨vr1280, vr1281, vr1282, vr1283⟩ : WorkT)).2.1) false).1) ((workTake (⟨vr1280, vr1281, vr1282, vr1283⟩ : WorkT)).2.1)) != (waitOf ((workDone ((workTake (⟨vr1280, vr1281, vr1282, vr1283⟩ : WorkT)).1) ((workTake (⟨vr1280, vr1281, vr1282, vr1283⟩ : WorkT)).2.1) false).1) ((workTake (⟨vr1280, vr1281, vr1282, vr1283⟩ : WorkT)).2.1)))
                              (x0)
                              (f4L0 n x0 x1 vs0 m (waitOf ((workDone ((workTake (⟨vr1280, vr1281, vr1282, vr1283⟩ : WorkT)).1) ((workTake (⟨vr1280, vr1281, vr1282, vr1283⟩ : WorkT)).2.1) false).1) ((workTake (⟨vr1280, vr1281, vr1282, vr1283⟩ : WorkT)).2.1)) (IntKind.wrap .i64 (vs6 + (1 : Int))) (WorkT.list ((workDone ((workTake (⟨vr1280, vr1281, vr1282, vr1283⟩ : WorkT)).1) ((workTake (⟨vr1280, vr1281, vr1282, vr1283⟩ : WorkT)).2.1) false).1)) (WorkT.busy ((workDone ((workTake (⟨vr1280, vr1281, vr1282, vr1283⟩ : WorkT)).1) ((workTake (⟨vr1280, vr1281, vr1282, vr1283⟩ : WorkT)).2.1) false).1)) (WorkT.again ((workDone ((workTake (⟨vr1280, vr1281, vr1282, vr1283⟩ : WorkT)).1) ((workTake (⟨vr1280, vr1281, vr1282, vr1283⟩ : WorkT)).2.1) false).1)) (WorkT.fails ((workDone ((workTake (⟨vr1280, vr1281, vr1282, vr1283⟩ : WorkT)).1) ((workTake (⟨vr1280, vr1281, vr1282, vr1283⟩ : WorkT)).2.1) false).1))))
                            none)))))
                  none)
                none)))
          none)
        (x1 vs5 vs6 (decide (vs6 < (IntKind.wrap .i64 ((1 : Int) + (Int.tmod (atC vs0 (1 : Int)) (25 : Int)))))) vr1280 vr1281 vr1282 vr1283))
      none)
theorem f4L0_b {R : Type} (n : Nat) (k' : Ex → St → Option R) (vs0 : List Int) (vs5 : Int) (vs6 : Int) (vr1280 : List ByteArray) (vr1281 : List ByteArray) (vr1282 : List ByteArray) (vr1283 : List FailT) : ev f4e f4k n (cAt [1,1,1,1,0,1,0,0] f4c) ⟨[(0, .c (.one (.ro (.i .u8) vs0))), (3, .c (.one (.pt 3 0))), (5, .c (.one (.v (.int .i64 vs5)))), (6, .c (.one (.v (.int .i64 vs6))))], [(3, ⟨.work, [.h 1280 0 0 [], .h 1281 0 0 [], .h 1282 0 0 [], .h 1283 0 0 []]⟩)], [(1280, .live ⟨.str, .deep, 0, [], vr1280⟩), (1281, .live ⟨.str, .deep, 0, [], vr1281⟩), (1282, .live ⟨.str, .deep, 0, [], vr1282⟩), (1283, .live ⟨.fail, .deep, 0, [], vr1283⟩)]⟩ k' =
    (cond ((fun (_ : List Int) (i : Int) => decide ((0 : Int) ≤ i)) vs0 (1 : Int))
    (cond (decide (vs6 < (IntKind.wrap .i64 ((1 : Int) + (Int.tmod (atC vs0 (1 : Int)) (25 : Int))))))
      (cond (sm_work (⟨vr1280, vr1281, vr1282, vr1283⟩ : WorkT))
        (cond (!((workTake (⟨vr1280, vr1281, vr1282, vr1283⟩ : WorkT)).2.2))
          (k' .ret ⟨[(2, .c (.one (.v (.bool false))))], [], []⟩)
          (cond (!(sEq ((workTake (⟨vr1280, vr1281, vr1282, vr1283⟩ : WorkT)).2.1) (bs [119,101,98])))
            (k' .ret ⟨[(2, .c (.one (.v (.bool false))))], [], []⟩)
            (cond (gDoneW ((workTake (⟨vr1280, vr1281, vr1282, vr1283⟩ : WorkT)).1) ((workTake (⟨vr1280, vr1281, vr1282, vr1283⟩ : WorkT)).2.1) false)
              (cond ((fun (x : WorkT) (_ : ByteArray) => sm_work x) ((workDone ((workTake (⟨vr1280, vr1281, vr1282, vr1283⟩ : WorkT)).1) ((workTake (⟨vr1280, vr1281, vr1282, vr1283⟩ : WorkT)).2.1) false).1) ((workTake (⟨vr1280, vr1281, vr1282, vr1283⟩ : WorkT)).2.1))
                (cond (!((workDone ((workTake (⟨vr1280, vr1281, vr1282, vr1283⟩ : WorkT)).1) ((workTake (⟨vr1280, vr1281, vr1282, vr1283⟩ : WorkT)).2.1) false).2))
                  (k' .ret ⟨[(2, .c (.one (.v (.bool false))))], [], []⟩)
                  (cond (decide ((waitOf ((workDone ((workTake (⟨vr1280, vr1281, vr1282, vr1283⟩ : WorkT)).1) ((workTake (⟨vr1280, vr1281, vr1282, vr1283⟩ : WorkT)).2.1) false).1) ((workTake (⟨vr1280, vr1281, vr1282, vr1283⟩ : WorkT)).2.1)) < vs5))
                    (k' .ret ⟨[(2, .c (.one (.v (.bool false))))], [], []⟩)
                    (cond (decide ((waitOf ((workDone ((workTake (⟨vr1280, vr1281, vr1282, vr1283⟩ : WorkT)).1) ((workTake (⟨vr1280, vr1281, vr1282, vr1283⟩ : WorkT)).2.1) false).1) ((workTake (⟨vr1280, vr1281, vr1282, vr1283⟩ : WorkT)).2.1)) > (300 : Int)))
                      (k' .ret ⟨[(2, .c (.one (.v (.bool false))))], [], []⟩)
                      (cond (decide ((waitOf ((workDone ((workTake (⟨vr1280, vr1281, vr1282, vr1283⟩ : WorkT)).1) ((workTake (⟨vr1280, vr1281, vr1282, vr1283⟩ : WorkT)).2.1) false).1) ((workTake (⟨vr1280, vr1281, vr1282, vr1283⟩ : WorkT)).2.1)) < (1 : Int)))
                        (k' .ret ⟨[(2, .c (.one (.v (.bool false))))], [], []⟩)
                        (cond ((fun (x : WorkT) (_ : ByteArray) => sm_work x) ((workDone ((workTake (⟨vr1280, vr1281, vr1282, vr1283⟩ : WorkT)).1) ((workTake (⟨vr1280, vr1281, vr1282, vr1283⟩ : WorkT)).2.1) false).1) ((workTake (⟨vr1280, vr1281, vr1282, vr1283⟩ : WorkT)).2.1))
                          (cond ((waitOf ((workDone ((workTake (⟨vr1280, vr1281, vr1282, vr1283⟩ : WorkT)).1) ((workTake (⟨vr1280, vr1281, vr1282, vr1283⟩ : WorkT)).2.1) false).1) ((workTake (⟨vr1280, vr1281, vr1282, vr1283⟩ : WorkT)).2.1)) != (waitOf ((workDone ((workTake (⟨vr1280, vr1281, vr1282, vr1283⟩ : WorkT)).1) ((workTake (⟨vr1280, vr1281, vr1282, vr1283⟩ : WorkT)).2.1) false).1) ((workTake (⟨vr1280, vr1281, vr1282, vr1283⟩ : WorkT)).2.1)))
                            (k' .ret ⟨[(2, .c (.one (.v (.bool false))))], [], []⟩)
                            (k' .normal ⟨[(0, .c (.one (.ro (.i .u8) vs0))), (3, .c (.one (.pt 3 0))), (5, .c (.one (.v (.int .i64 (waitOf ((workDone ((workTake (⟨vr1280, vr1281, vr1282, vr1283⟩ : WorkT)).1) ((workTake (⟨vr1280, vr1281, vr1282, vr1283⟩ : WorkT)).2.1) false).1) ((workTake (⟨vr1280, vr1281, vr1282, vr1283⟩ : WorkT)).2.1)))))), (6, .c (.one (.v (.int .i64 (IntKind.wrap .i64 (vs6 + (1 : Int)))))))], [(3, ⟨.work, [.h 1280 0 0 [], .h 1281 0 0 [], .h 1282 0 0 [], .h 1283 0 0 []]⟩)], [(1280, .live ⟨.str, .deep, 0, [], (WorkT.list ((workDone ((workTake (⟨vr1280, vr1281, vr1282, vr1283⟩ : WorkT)).1) ((workTake (⟨vr1280, vr1281, vr1282, vr1283⟩ : WorkT)).2.1) false).1))⟩), (1281, .live ⟨.str, .deep, 0, [], (WorkT.busy ((workDone ((workTake (⟨vr1280, vr1281, vr1282, vr1283⟩ : WorkT)).1) ((workTake (⟨vr1280, vr1281, vr1282, vr1283⟩ : WorkT)).2.1) false).1))⟩), (1282, .live ⟨.str, .deep, 0, [], (WorkT.again ((workDone ((workTake (⟨vr1280, vr1281, vr1282, vr1283⟩ : WorkT)).1) ((workTake (⟨vr1280, vr1281, vr1282, vr1283⟩ : WorkT)).2.1) false).1))⟩), (1283, .live ⟨.fail, .deep, 0, [], (WorkT.fails ((workDone ((workTake (⟨vr1280, vr1281, vr1282, vr1283⟩ : WorkT)).1) ((workTake (⟨vr1280, vr1281, vr1282, vr1283⟩ : WorkT)).2.1) false).1))⟩)]⟩))
                          none)))))
                none)
              none)))
        none)
      (k' (.exit 0) ⟨[(0, .c (.one (.ro (.i .u8) vs0))), (3, .c (.one (.pt 3 0))), (5, .c (.one (.v (.int .i64 vs5)))), (6, .c (.one (.v (.int .i64 vs6)))), (28, .c (.one (.v (.bool (decide (vs6 < (IntKind.wrap .i64 ((1 : Int) + (Int.tmod (atC vs0 (1 : Int)) (25 : Int))))))))))], [(3, ⟨.work, [.h 1280 0 0 [], .h 1281 0 0 [], .h 1282 0 0 [], .h 1283 0 0 []]⟩)], [(1280, .live ⟨.str, .deep, 0, [], vr1280⟩), (1281, .live ⟨.str, .deep, 0, [], vr1281⟩), (1282, .live ⟨.str, .deep, 0, [], vr1282⟩), (1283, .live ⟨.fail, .deep, 0, [], vr1283⟩)]⟩))
    none) := by kernel_rfl
theorem f4L0_eq {R : Type} (n : Nat) (k' : Ex → St → Option R) (vs0 : List Int) : ∀ (m : Nat) (vs5 : Int) (vs6 : Int) (vr1280 : List ByteArray) (vr1281 : List ByteArray) (vr1282 : List ByteArray) (vr1283 : List FailT), iter (fun st k => ev f4e f4k n (cAt [1,1,1,1,0,1,0,0] f4c) st k) m ⟨[(0, .c (.one (.ro (.i .u8) vs0))), (3, .c (.one (.pt 3 0))), (5, .c (.one (.v (.int .i64 vs5)))), (6, .c (.one (.v (.int .i64 vs6))))], [(3, ⟨.work, [.h 1280 0 0 [], .h 1281 0 0 [], .h 1282 0 0 [], .h 1283 0 0 []]⟩)], [(1280, .live ⟨.str, .deep, 0, [], vr1280⟩), (1281, .live ⟨.str, .deep, 0, [], vr1281⟩), (1282, .live ⟨.str, .deep, 0, [], vr1282⟩), (1283, .live ⟨.fail, .deep, 0, [], vr1283⟩)]⟩ k' = f4L0 n (k' .ret ⟨[(2, .c (.one (.v (.bool false))))], [], []⟩) (fun (xvs5 : Int) (xvs6 : Int) (xvs28 : Bool) (xvr1280 : List ByteArray) (xvr1281 : List ByteArray) (xvr1282 : List ByteArray) (xvr1283 : List FailT) => k' (.exit 0) ⟨[(0, .c (.one (.ro (.i .u8) vs0))), (3, .c (.one (.pt 3 0))), (5, .c (.one (.v (.int .i64 xvs5)))), (6, .c (.one (.v (.int .i64 xvs6)))), (28, .c (.one (.v (.bool xvs28))))], [(3, ⟨.work, [.h 1280 0 0 [], .h 1281 0 0 [], .h 1282 0 0 [], .h 1283 0 0 []]⟩)], [(1280, .live ⟨.str, .deep, 0, [], xvr1280⟩), (1281, .live ⟨.str, .deep, 0, [], xvr1281⟩), (1282, .live ⟨.str, .deep, 0, [], xvr1282⟩), (1283, .live ⟨.fail, .deep, 0, [], xvr1283⟩)]⟩) vs0 m vs5 vs6 vr1280 vr1281 vr1282 vr1283 := by
  intro m; induction m with
  | zero => intros; rfl
  | succ m ih =>
    intro vs5 vs6 vr1280 vr1281 vr1282 vr1283
    simp only [iter]
    rw [f4L0_b]
    simp only [ih, f4L0]

noncomputable def f4K0 {R : Type} (n : Nat) (k' : Ex → St → Option R) : Ex → St → Option R := (blockK 0 (seqK f4e f4k n (cAt [1,1,1,1,1] f4c) k'))
theorem f4K0_x0 {R : Type} (n : Nat) (k : List Dt → Option R) (a0 : List Int)  : f4K0 n (exitK f4e [.ro] [false] true [.tmp 2] [4] [.d (.sl (.i .u8)) a0] k) .ret ⟨[(2, .c (.one (.v (.bool false))))], [], []⟩ =
    (k [.d .bool false]) := by kernel_rfl
theorem f4K0_x1 {R : Type} (n : Nat) (k : List Dt → Option R) (a0 : List Int) (vs0 : List Int) (xvs5 : Int) (xvs6 : Int) (xvs28 : Bool) (xvr1280 : List ByteArray) (xvr1281 : List ByteArray) (xvr1282 : List ByteArray) (xvr1283 : List FailT) : f4K0 n (exitK f4e [.ro] [false] true [.tmp 2] [4] [.d (.sl (.i .u8)) a0] k) (.exit 0) ⟨[(0, .c (.one (.ro (.i .u8) vs0))), (3, .c (.one (.pt 3 0))), (5, .c (.one (.v (.int .i64 xvs5)))), (6, .c (.one (.v (.int .i64 xvs6)))), (28, .c (.one (.v (.bool xvs28))))], [(3, ⟨.work, [.h 1280 0 0 [], .h 1281 0 0 [], .h 1282 0 0 [], .h 1283 0 0 []]⟩)], [(1280, .live ⟨.str, .deep, 0, [], xvr1280⟩), (1281, .live ⟨.str, .deep, 0, [], xvr1281⟩), (1282, .live ⟨.str, .deep, 0, [], xvr1282⟩), (1283, .live ⟨.fail, .deep, 0, [], xvr1283⟩)]⟩ =
    (cond (sm_work (⟨xvr1280, xvr1281, xvr1282, xvr1283⟩ : WorkT))
    (cond (gDoneW ((workTake (⟨xvr1280, xvr1281, xvr1282, xvr1283⟩ : WorkT)).1) ((workTake (⟨xvr1280, xvr1281, xvr1282, xvr1283⟩ : WorkT)).2.1) true)
      (cond ((workTake (⟨xvr1280, xvr1281, xvr1282, xvr1283⟩ : WorkT)).2.2)
        (cond ((workDone ((workTake (⟨xvr1280, xvr1281, xvr1282, xvr1283⟩ : WorkT)).1) ((workTake (⟨xvr1280, xvr1281, xvr1282, xvr1283⟩ : WorkT)).2.1) true).2)
          (cond ((fun (x : WorkT) (_ : ByteArray) => sm_work x) ((workDone ((workTake (⟨xvr1280, xvr1281, xvr1282, xvr1283⟩ : WorkT)).1) ((workTake (⟨xvr1280, xvr1281, xvr1282, xvr1283⟩ : WorkT)).2.1) true).1) ((workTake (⟨xvr1280, xvr1281, xvr1282, xvr1283⟩ : WorkT)).2.1))
            (cond ((waitOf ((workDone ((workTake (⟨xvr1280, xvr1281, xvr1282, xvr1283⟩ : WorkT)).1) ((workTake (⟨xvr1280, xvr1281, xvr1282, xvr1283⟩ : WorkT)).2.1) true).1) ((workTake (⟨xvr1280, xvr1281, xvr1282, xvr1283⟩ : WorkT)).2.1)) == (0 : Int))
              (cond (((WorkT.list ((workDone ((workTake (⟨xvr1280, xvr1281, xvr1282, xvr1283⟩ : WorkT)).1) ((workTake (⟨xvr1280, xvr1281, xvr1282, xvr1283⟩ : WorkT)).2.1) true).1)).length : Int) == (0 : Int))
                (k [.d .bool (((WorkT.fails ((workDone ((workTake (⟨xvr1280, xvr1281, xvr1282, xvr1283⟩ : WorkT)).1) ((workTake (⟨xvr1280, xvr1281, xvr1282, xvr1283⟩ : WorkT)).2.1) true).1)).length : Int) == (0 : Int))])
                (k [.d .bool false]))
              (k [.d .bool false]))
            none)
          (k [.d .bool false]))
        (k [.d .bool false]))
      none)
    none) := by kernel_rfl

theorem f4_run {R : Type} (n : Nat) (k : List Dt → Option R) (a0 : List Int) : evFn f4e f4k n f4c [.ro] [false] true [.tmp 2] [4] [.d (.sl (.i .u8)) a0] k =
    (cond (bigC a0)
    (k [.d .bool true])
    (cond (gAddW (⟨([] : List ByteArray), ([] : List ByteArray), ([] : List ByteArray), ([] : List FailT)⟩ : WorkT) (bs [119,101,98]))
      (f4L0 n (k [.d .bool false]) (fun (xvs5 : Int) (xvs6 : Int) (xvs28 : Bool) (xvr1280 : List ByteArray) (xvr1281 : List ByteArray) (xvr1282 : List ByteArray) (xvr1283 : List FailT) =>
        (cond (sm_work (⟨xvr1280, xvr1281, xvr1282, xvr1283⟩ : WorkT))
          (cond (gDoneW ((workTake (⟨xvr1280, xvr1281, xvr1282, xvr1283⟩ : WorkT)).1) ((workTake (⟨xvr1280, xvr1281, xvr1282, xvr1283⟩ : WorkT)).2.1) true)
            (cond ((workTake (⟨xvr1280, xvr1281, xvr1282, xvr1283⟩ : WorkT)).2.2)
              (cond ((workDone ((workTake (⟨xvr1280, xvr1281, xvr1282, xvr1283⟩ : WorkT)).1) ((workTake (⟨xvr1280, xvr1281, xvr1282, xvr1283⟩ : WorkT)).2.1) true).2)
                (cond ((fun (x : WorkT) (_ : ByteArray) => sm_work x) ((workDone ((workTake (⟨xvr1280, xvr1281, xvr1282, xvr1283⟩ : WorkT)).1) ((workTake (⟨xvr1280, xvr1281, xvr1282, xvr1283⟩ : WorkT)).2.1) true).1) ((workTake (⟨xvr1280, xvr1281, xvr1282, xvr1283⟩ : WorkT)).2.1))
                  (cond ((waitOf ((workDone ((workTake (⟨xvr1280, xvr1281, xvr1282, xvr1283⟩ : WorkT)).1) ((workTake (⟨xvr1280, xvr1281, xvr1282, xvr1283⟩ : WorkT)).2.1) true).1) ((workTake (⟨xvr1280, xvr1281, xvr1282, xvr1283⟩ : WorkT)).2.1)) == (0 : Int))
                    (cond (((WorkT.list ((workDone ((workTake (⟨xvr1280, xvr1281, xvr1282, xvr1283⟩ : WorkT)).1) ((workTake (⟨xvr1280, xvr1281, xvr1282, xvr1283⟩ : WorkT)).2.1) true).1)).length : Int) == (0 : Int))
                      (k [.d .bool (((WorkT.fails ((workDone ((workTake (⟨xvr1280, xvr1281, xvr1282, xvr1283⟩ : WorkT)).1) ((workTake (⟨xvr1280, xvr1281, xvr1282, xvr1283⟩ : WorkT)).2.1) true).1)).length : Int) == (0 : Int))])
                      (k [.d .bool false]))
                    (k [.d .bool false]))
                  none)
                (k [.d .bool false]))
              (k [.d .bool false]))
            none)
          none)) a0 n (0 : Int) (0 : Int) (WorkT.list ((workAdd (⟨([] : List ByteArray), ([] : List ByteArray), ([] : List ByteArray), ([] : List FailT)⟩ : WorkT) (bs [119,101,98])).1)) (WorkT.busy ((workAdd (⟨([] : List ByteArray), ([] : List ByteArray), ([] : List ByteArray), ([] : List FailT)⟩ : WorkT) (bs [119,101,98])).1)) (WorkT.again ((workAdd (⟨([] : List ByteArray), ([] : List ByteArray), ([] : List ByteArray), ([] : List FailT)⟩ : WorkT) (bs [119,101,98])).1)) (WorkT.fails ((workAdd (⟨([] : List ByteArray), ([] : List ByteArray), ([] : List ByteArray), ([] : List FailT)⟩ : WorkT) (bs [119,101,98])).1)))
      none)) := by
  refine Eq.trans (b := (cond (bigC a0)
    (k [.d .bool true])
    (cond (gAddW (⟨([] : List ByteArray), ([] : List ByteArray), ([] : List ByteArray), ([] : List FailT)⟩ : WorkT) (bs [119,101,98]))
      (iter (fun st k => ev f4e f4k n (cAt [1,1,1,1,0,1,0,0] f4c) st k) n ⟨[(0, .c (.one (.ro (.i .u8) a0))), (3, .c (.one (.pt 3 0))), (5, .c (.one (.v (.int .i64 (0 : Int))))), (6, .c (.one (.v (.int .i64 (0 : Int)))))], [(3, ⟨.work, [.h 1280 0 0 [], .h 1281 0 0 [], .h 1282 0 0 [], .h 1283 0 0 []]⟩)], [(1280, .live ⟨.str, .deep, 0, [], (WorkT.list ((workAdd (⟨([] : List ByteArray), ([] : List ByteArray), ([] : List ByteArray), ([] : List FailT)⟩ : WorkT) (bs [119,101,98])).1))⟩), (1281, .live ⟨.str, .deep, 0, [], (WorkT.busy ((workAdd (⟨([] : List ByteArray), ([] : List ByteArray), ([] : List ByteArray), ([] : List FailT)⟩ : WorkT) (bs [119,101,98])).1))⟩), (1282, .live ⟨.str, .deep, 0, [], (WorkT.again ((workAdd (⟨([] : List ByteArray), ([] : List ByteArray), ([] : List ByteArray), ([] : List FailT)⟩ : WorkT) (bs [119,101,98])).1))⟩), (1283, .live ⟨.fail, .deep, 0, [], (WorkT.fails ((workAdd (⟨([] : List ByteArray), ([] : List ByteArray), ([] : List ByteArray), ([] : List FailT)⟩ : WorkT) (bs [119,101,98])).1))⟩)]⟩ (f4K0 n (exitK f4e [.ro] [false] true [.tmp 2] [4] [.d (.sl (.i .u8)) a0] k)))
      none))) (by kernel_rfl) ?_
  simp only [f4L0_eq, f4K0_x0, f4K0_x1]
theorem f4_spec (a0 : List Int) : ∃ keep rounds, ∀ {R : Type} (k : List Dt → Option R), evFn f4e keep rounds f4c [.ro] [false] true [.tmp 2] [4] [.d (.sl (.i .u8)) a0] k = k [.d .bool ((fun (_ : List Int) => true) a0)] := by
  refine ⟨f4k, 26, fun {R} k => ?_⟩
  rw [f4_run]
  show _ = k [.d .bool true]
  cases hbig : bigC a0
  rotate_left
  · rfl
  have hs0 : gAddW ⟨([] : List ByteArray), ([] : List ByteArray), ([] : List ByteArray), ([] : List FailT)⟩ (bs [119,101,98]) = true := by decide
  have hB : IntKind.wrap .i64 ((1 : Int) + Int.tmod (atC a0 (1 : Int)) (25 : Int)) ≤ 25 := by
    have h1 : Int.tmod (atC a0 (1 : Int)) (25 : Int) < 25 := Int.tmod_lt_of_pos _ (by decide)
    have h2 : -25 < Int.tmod (atC a0 (1 : Int)) (25 : Int) := by
      generalize atC a0 (1 : Int) = x
      rcases Int.le_total 0 x with h | h
      · have := Int.tmod_nonneg 25 h; omega
      · have h3 := Int.tmod_lt_of_pos (-x) (b := 25) (by decide)
        have e : Int.tmod x 25 = -(Int.tmod (-x) 25) := by rw [Int.neg_tmod]; omega
        omega
    rw [wrap_id (by omega) (by omega)]; omega
  rw [hs0, show bs [119,101,98] = webB from rfl, web_start]
  simp only [cond_true, cond_false]
  generalize hX : (fun (xvs5 : Int) (xvs6 : Int) (xvs28 : Bool) (xvr1280 : List ByteArray) (xvr1281 : List ByteArray) (xvr1282 : List ByteArray) (xvr1283 : List FailT) => _) = X
  have fin : ∀ j : Nat, ∀ (l i : Int) (b : Bool), X l i b [webB] [] [] (failsW (nW j)) = k [.d .bool true] := by
    intro j l i b
    obtain ⟨h0, h20⟩ := nW_bd j
    have s1 : sm_work ⟨[webB], [], [], failsW (nW j)⟩ = true := by simp only [sm_work, failsW_sm h0 h20]; rfl
    have s2 : gDoneW ⟨[], [webB], [], failsW (nW j)⟩ webB true = true := by simp only [gDoneW, sm_work, failsW_sm h0 h20, webB_sm]; rfl
    have s3 : sm_work ⟨[], [], [], []⟩ = true := rfl
    rw [← hX]
    simp only [s1, web_take h0 h20, s2, web_end h0 h20, s3, web_wait0, cond_true]
    rfl
  have key : ∀ d j m, j + d = 25 → d < m → f4L0 26 (k [.d .bool false]) X a0 m (lastW j) (j : Int) [webB] [] [] (failsW (nW j)) = k [.d .bool true] := by
    intro d
    induction d with
    | zero =>
      intro j m hj hm
      obtain ⟨m, rfl⟩ : ∃ m', m = m' + 1 := ⟨m - 1, by omega⟩
      have hd : decide ((j : Int) < IntKind.wrap .i64 ((1 : Int) + Int.tmod (atC a0 (1 : Int)) (25 : Int))) = false := decide_eq_false (by omega)
      simp only [f4L0, show decide ((0 : Int) ≤ (1 : Int)) = true from rfl, hd, cond_true, cond_false]
      exact fin j _ _ _
    | succ d ih =>
      intro j m hj hm
      obtain ⟨m, rfl⟩ : ∃ m', m = m' + 1 := ⟨m - 1, by omega⟩
      cases hd : decide ((j : Int) < IntKind.wrap .i64 ((1 : Int) + Int.tmod (atC a0 (1 : Int)) (25 : Int)))
      · simp only [f4L0, show decide ((0 : Int) ≤ (1 : Int)) = true from rfl, hd, cond_true, cond_false]
        exact fin j _ _ _
      · obtain ⟨h0, h20⟩ := nW_bd j
        have hu := nW_up j
        have hu1 : 1 ≤ nW (j + 1) := by unfold nW; split <;> omega
        obtain ⟨b1, b2, b3⟩ := lastW_bd j
        have s1 : sm_work ⟨[webB], [], [], failsW (nW j)⟩ = true := by simp only [sm_work, failsW_sm h0 h20]; rfl
        have s2 : gDoneW ⟨[], [webB], [], failsW (nW j)⟩ webB false = true := by simp only [gDoneW, sm_work, failsW_sm h0 h20, webB_sm]; rfl
        have s3 : sm_work ⟨[webB], [], [], failsW (nW (j + 1))⟩ = true := by simp only [sm_work, failsW_sm (nW_bd (j + 1)).1 (nW_bd (j + 1)).2]; rfl
        have hw : IntKind.wrap .i64 ((j : Int) + (1 : Int)) = ((j + 1 : Nat) : Int) := by rw [wrap_id (by omega) (by omega)]; rfl
        simp only [f4L0, show decide ((0 : Int) ≤ (1 : Int)) = true from rfl, hd, s1, show bs [119,101,98] = webB from rfl, web_take h0 h20, s2, web_done h0 h20, hu, s3, web_wait hu1, sEq_self, decide_eq_false (show ¬ (waitN (nW (j + 1)) < lastW j) by omega),
          decide_eq_false (show ¬ (waitN (nW (j + 1)) > 300) by omega), decide_eq_false (show ¬ (waitN (nW (j + 1)) < 1) by omega), bne_self_eq_false, hw, Bool.not_true, Bool.not_false, cond_true, cond_false]
        exact ih (j + 1) m (by omega) (by omega)
  exact key 25 0 26 (by omega) (by omega)

noncomputable def q4 : List Dt → Option (Bool × List Dt)
  | [.d (.sl (.i .u8)) a0] => some (true, [.d .bool ((fun (_ : List Int) => true) a0)])
  | _ => none
noncomputable def s4 : Gm.Spec := Gm.Spec.of [.ro] [false] true q4
theorem good4 : Gm.Good Try.prog (4, s4) := by
  have hl : ∀ x ∈ [(12, s12), (14, s14), (16, s16), (17, s17), (18, s18), (19, s19), (20, s20)], Gm.Good Try.prog x := List.forall_mem_cons.2 ⟨good12, List.forall_mem_cons.2 ⟨good14, List.forall_mem_cons.2 ⟨good16, List.forall_mem_cons.2 ⟨good17, List.forall_mem_cons.2 ⟨good18, List.forall_mem_cons.2 ⟨good19, List.forall_mem_cons.2 ⟨good20, List.forall_mem_nil _⟩⟩⟩⟩⟩⟩⟩
  refine ⟨⟨spec_ok (tab_ok.env hl) (tab.natl hl) Try.func4 (by kernel_rfl : Try.f4.body = some f4c) [4] (by kernel_rfl) ?_, _, Try.func4, by kernel_rfl, of_decide_eq_true (by kernel_rfl)⟩, Gm.Spec.of_natl _ _ _ _⟩
  intro ds outs h
  unfold q4 at h
  split at h
  · cases h; exact f4_spec _
  · cases h
end Go.Proofs.Ytmeeoilfnahihaa

/- What the functions compute, part 2. No conditions. -/
import Derived.Test.YtmeeoilfnahihaaWorkDoneFn1
/- x -/
namespace Go.Proofs.Ytmeeoilfnahihaa
open Go Go.Gm
/-! ### loop.example/g00465/spec.WorkDone -/
noncomputable def f32c : Code := (Try.f32.body).getD .skip
def f32k : Nat → Kp := kat [⟨[1, 2, 3, 6], [], [], []⟩, ⟨[1, 2, 3, 6, 8], [], [], []⟩, ⟨[1, 2, 3, 6, 8, 20], [], [], []⟩, ⟨[6, 7], [], [], []⟩, ⟨[1, 2, 3, 6, 8], [], [], []⟩, ⟨[1, 2, 3, 6, 8], [], [], []⟩, ⟨[1, 2, 3, 6, 8, 39], [], [], []⟩, ⟨[1, 2, 3, 6, 8], [], [], []⟩, ⟨[3, 6, 8], [], [], []⟩, ⟨[3, 6, 8, 54], [], [], []⟩, ⟨[6, 7], [], [], []⟩, ⟨[6, 7], [], [], []⟩]
noncomputable def f32e : Env := tab.env [(24, s24), (56, s56), (59, s59), (70, s70), (71, s71)]
theorem f32_run {R : Type} (n : Nat) (k : List Dt → Option R) (a0 : WorkT) (a1 : ByteArray) (a2 : Bool) : evFn f32e f32k n f32c [.ro, .ro, .ro] [false, false] true [.cell 6 30, .tmp 7] [30, 4] [.d .work a0, .d .str a1, .d .bool a2] k =
    (cond (sm_work a0)
    (cond (sm_work a0)
      (cond (!(workQOk a0))
        (k [.d .work a0, .d .bool false])
        (cond ((fun (x : List ByteArray) (_ : ByteArray) => gLenW x) (WorkT.busy a0) a1)
          (cond (!(isIn (WorkT.busy a0) a1))
            (k [.d .work a0, .d .bool false])
            (cond ((fun (x : List ByteArray) (_ : ByteArray) => smL smStr x) (WorkT.busy a0) a1)
              (cond ((fun (x : List ByteArray) (_ : ByteArray) => smL smStr x) (WorkT.again a0) a1)
                (cond ((fun (x : List ByteArray) (_ : ByteArray) => gLenW x) (WorkT.again a0) a1)
                  (cond (isIn (WorkT.again a0) a1)
                    (cond (Nat.ble ((WorkT.list a0).length + 1) LIM)
                      (cond ((fun (x : List FailT) (_ : ByteArray) (_ : Bool) => smL sm_fail x) (WorkT.fails a0) a1 a2)
                        (cond (sm_work (⟨((WorkT.list a0) ++ ([a1] : List ByteArray)), (butName (WorkT.busy a0) a1), (butName (WorkT.again a0) a1), (failedS (WorkT.fails a0) a1 a2)⟩ : WorkT))
                          (cond (!(workQOk (⟨((WorkT.list a0) ++ ([a1] : List ByteArray)), (butName (WorkT.busy a0) a1), (butName (WorkT.again a0) a1), (failedS (WorkT.fails a0) a1 a2)⟩ : WorkT)))
                            (cond (sm_work a0)
                              (k [.d .work a0, .d .bool false])
                              none)
                            (k [.d .work (⟨((WorkT.list a0) ++ ([a1] : List ByteArray)), (butName (WorkT.busy a0) a1), (butName (WorkT.again a0) a1), (failedS (WorkT.fails a0) a1 a2)⟩ : WorkT), .d .bool true]))
                          none)
                        none)
                      none)
                    (cond (!a2)
                      (cond (Nat.ble ((WorkT.list a0).length + 1) LIM)
                        (cond ((fun (x : List FailT) (_ : ByteArray) (_ : Bool) => smL sm_fail x) (WorkT.fails a0) a1 a2)
                          (cond (sm_work (⟨((WorkT.list a0) ++ ([a1] : List ByteArray)), (butName (WorkT.busy a0) a1), (butName (WorkT.again a0) a1), (failedS (WorkT.fails a0) a1 a2)⟩ : WorkT))
                            (cond (!(workQOk (⟨((WorkT.list a0) ++ ([a1] : List ByteArray)), (butName (WorkT.busy a0) a1), (butName (WorkT.again a0) a1), (failedS (WorkT.fails a0) a1 a2)⟩ : WorkT)))
                              (cond (sm_work a0)
                                (k [.d .work a0, .d .bool false])
                                none)
                              (k [.d .work (⟨((WorkT.list a0) ++ ([a1] : List ByteArray)), (butName (WorkT.busy a0) a1), (butName (WorkT.again a0) a1), (failedS (WorkT.fails a0) a1 a2)⟩ : WorkT), .d .bool true]))
                            none)
                          none)
                        none)
                      (cond ((fun (x : List FailT) (_ : ByteArray) (_ : Bool) => smL sm_fail x) (WorkT.fails a0) a1 a2)
                        (cond (sm_work (⟨(WorkT.list a0), (butName (WorkT.busy a0) a1), (butName (WorkT.again a0) a1), (failedS (WorkT.fails a0) a1 a2)⟩ : WorkT))
                          (cond (!(workQOk (⟨(WorkT.list a0), (butName (WorkT.busy a0) a1), (butName (WorkT.again a0) a1), (failedS (WorkT.fails a0) a1 a2)⟩ : WorkT)))
                            (cond (sm_work a0)
                              (k [.d .work a0, .d .bool false])
                              none)
                            (k [.d .work (⟨(WorkT.list a0), (butName (WorkT.busy a0) a1), (butName (WorkT.again a0) a1), (failedS (WorkT.fails a0) a1 a2)⟩ : WorkT), .d .bool true]))
                          none)
                        none)))
                  none)
                none)
              none))
          none))
      none)
    none) := by kernel_rfl
theorem f32_spec (a0 : WorkT) (a1 : ByteArray) (a2 : Bool) (hg : gDoneW a0 a1 a2 = true) : ∃ keep rounds, ∀ {R : Type} (k : List Dt → Option R), evFn f32e keep rounds f32c [.ro, .ro, .ro] [false, false] true [.cell 6 30, .tmp 7] [30, 4] [.d .work a0, .d .str a1, .d .bool a2] k = k [.d .work ((workDone a0 a1 a2).1), .d .bool ((workDone a0 a1 a2).2)] := by
  simp only [gDoneW, Bool.and_eq_true] at hg
  obtain ⟨hg0, hs⟩ := hg
  have hg := hg0
  simp only [sm_work, Bool.and_eq_true] at hg
  obtain ⟨hl, hb, ha, hf⟩ := hg
  have nl := smL_len hl
  refine ⟨f32k, 0, fun {R} k => ?_⟩
  rw [f32_run]
  show _ = k [.d .work (workDone a0 a1 a2).1, .d .bool (workDone a0 a1 a2).2]
  cases hq : workQOk a0
  · simp only [hg0, hq, workDone, Bool.not_false, cond_true, cond_false]
  have hlb := gLenW_sm hb
  have hla := gLenW_sm ha
  have hll := gLenW_sm hl
  cases hB : isIn a0.busy a1
  · simp only [hg0, hq, hB, hlb, workDone, Bool.not_false, Bool.not_true, cond_true, cond_false]
  have hql := qOk_len hq
  have h1 : Nat.ble (a0.list.length + 1) LIM = true := limLe1 nl
  have hfe := failed_eq (s := a1) (ok := a2) (qOk_allF hq)
  simp only [hg0, hq, hB, hlb, hla, hl, hb, ha, hf, h1, Bool.not_true, cond_true, cond_false, hfe]
  cases hA : isIn a0.again a1
  · cases a2
    · simp only [Bool.not_false, cond_true, cond_false]
      refine done_fin hq hB hg0 hs ?_
      simp [doneW, hA]
    · simp only [Bool.not_true, cond_true, cond_false]
      refine done_fin hq hB hg0 hs ?_
      simp [doneW, hA]
  · simp only [cond_true]
    refine done_fin hq hB hg0 hs ?_
    simp [doneW, hA]

noncomputable def q32 : List Dt → Option (Bool × List Dt)
  | [.d .work a0, .d .str a1, .d .bool a2] => some ((gDoneW a0 a1 a2), [.d .work ((workDone a0 a1 a2).1), .d .bool ((workDone a0 a1 a2).2)])
  | _ => none
noncomputable def s32 : Gm.Spec := Gm.Spec.of [.ro, .ro, .ro] [false, false] true q32
theorem good32 : Gm.Good Try.prog (32, s32) := by
  have hl : ∀ x ∈ [(24, s24), (56, s56), (59, s59), (70, s70), (71, s71)], Gm.Good Try.prog x := List.forall_mem_cons.2 ⟨good24, List.forall_mem_cons.2 ⟨good56, List.forall_mem_cons.2 ⟨good59, List.forall_mem_cons.2 ⟨good70, List.forall_mem_cons.2 ⟨good71, List.forall_mem_nil _⟩⟩⟩⟩⟩
  refine ⟨⟨spec_ok (tab_ok.env hl) (tab.natl hl) Try.func32 (by kernel_rfl : Try.f32.body = some f32c) [30, 4] (by kernel_rfl) ?_, _, Try.func32, by kernel_rfl, of_decide_eq_true (by kernel_rfl)⟩, Gm.Spec.of_natl _ _ _ _⟩
  intro ds outs h
  unfold q32 at h
  split at h
  · simp only [Option.some.injEq, Prod.mk.injEq] at h; obtain ⟨hg, h⟩ := h; cases h; exact f32_spec _ _ _ hg
  · cases h
/-! ### loop.example/g00465/impl.WorkDone -/
noncomputable def f20c : Code := (Try.f20.body).getD .skip
def f20k : Nat → Kp := kat [⟨[1, 2, 3, 6], [], [], []⟩, ⟨[1, 2, 3, 6, 19], [], [], []⟩, ⟨[6, 7], [], [], []⟩, ⟨[1, 2, 3, 6, 8], [], [], []⟩, ⟨[1, 2, 3, 6, 8], [], [], []⟩, ⟨[1, 2, 3, 6, 8, 32], [], [], []⟩, ⟨[1, 2, 3, 6, 8], [], [], []⟩, ⟨[1, 2, 3, 6, 8], [], [], []⟩, ⟨[1, 2, 3, 6, 8, 9], [], [], []⟩, ⟨[1, 2, 3, 6, 8], [], [], []⟩, ⟨[1, 2, 3, 6, 8, 9, 55], [], [], []⟩, ⟨[1, 2, 3, 6, 8], [], [], []⟩, ⟨[1, 2, 3, 6, 8, 9, 68], [], [], []⟩, ⟨[1, 2, 3, 6, 8, 9, 70], [], [], []⟩, ⟨[1, 2, 3, 6, 8], [], [], []⟩, ⟨[1, 3, 6, 8, 94], [], [], []⟩, ⟨[3, 6, 8], [], [], []⟩, ⟨[3, 6, 8, 103], [], [], []⟩, ⟨[6, 7], [], [], []⟩, ⟨[6, 7], [], [], []⟩]
noncomputable def f20e : Env := tab.env [(23, s23), (42, s42), (45, s45), (46, s46), (47, s47), (48, s48)]
noncomputable def f20v0 (a0 : WorkT) (a1 : ByteArray) : List FailT :=
  ((WorkT.fails a0).set (Int.toNat (failAt (WorkT.fails a0) a1)) (⟨(FailT.name (atI (t := .fail) (WorkT.fails a0) (Int.toNat (failAt (WorkT.fails a0) a1)))), (if (20 : Int) < (IntKind.wrap .i64 ((FailT.n (atI (t := .fail) (WorkT.fails a0) (Int.toNat (failAt (WorkT.fails a0) a1)))) + (1 : Int))) then (20 : Int) else (IntKind.wrap .i64 ((FailT.n (atI (t := .fail) (WorkT.fails a0) (Int.toNat (failAt (WorkT.fails a0) a1)))) + (1 : Int))))⟩ : FailT))
theorem f20_run {R : Type} (n : Nat) (k : List Dt → Option R) (a0 : WorkT) (a1 : ByteArray) (a2 : Bool) : evFn f20e f20k n f20c [.ro, .ro, .ro] [false, false] true [.cell 6 30, .tmp 7] [30, 4] [.d .work a0, .d .str a1, .d .bool a2] k =
    (cond (sm_work a0)
    (cond (!(workQOk a0))
      (cond (sm_work a0)
        (k [.d .work a0, .d .bool false])
        none)
      (cond ((fun (x : List ByteArray) (_ : ByteArray) => gLenW x) (WorkT.busy a0) a1)
        (cond (!(isIn (WorkT.busy a0) a1))
          (cond (sm_work a0)
            (k [.d .work a0, .d .bool false])
            none)
          (cond (sm_work a0)
            (cond ((fun (x : List ByteArray) (_ : ByteArray) => smL smStr x) (WorkT.busy a0) a1)
              (cond ((fun (x : List ByteArray) (_ : ByteArray) => gLenW x) (WorkT.again a0) a1)
                (cond (isIn (WorkT.again a0) a1)
                  (cond ((fun (x : List ByteArray) (_ : ByteArray) => smL smStr x) (WorkT.again a0) a1)
                    (cond (Nat.ble ((WorkT.list a0).length + 1) LIM)
                      (cond ((fun (x : List FailT) (_ : ByteArray) => smL sm_fail x) (WorkT.fails a0) a1)
                        (cond a2
                          (cond (decide ((failAt (WorkT.fails a0) a1) ≥ (0 : Int)))
                            (cond (gDel (WorkT.fails a0) (failAt (WorkT.fails a0) a1) (IntKind.wrap .i64 ((failAt (WorkT.fails a0) a1) + (1 : Int))))
                              (cond (!a2)
                                (cond ((fun (x : List ByteArray) (_ : ByteArray) => gLenW x) ((WorkT.list a0) ++ ([a1] : List ByteArray)) a1)
                                  (cond (!(isIn ((WorkT.list a0) ++ ([a1] : List ByteArray)) a1))
                                    (cond (Nat.ble (((WorkT.list a0) ++ ([a1] : List ByteArray)).length + 1) LIM)
                                      (cond (sm_work (⟨(((WorkT.list a0) ++ ([a1] : List ByteArray)) ++ ([a1] : List ByteArray)), (butName (WorkT.busy a0) a1), (butName (WorkT.again a0) a1), (delL (WorkT.fails a0) (failAt (WorkT.fails a0) a1) (IntKind.wrap .i64 ((failAt (WorkT.fails a0) a1) + (1 : Int))))⟩ : WorkT))
                                        (cond (!(workQOk (⟨(((WorkT.list a0) ++ ([a1] : List ByteArray)) ++ ([a1] : List ByteArray)), (butName (WorkT.busy a0) a1), (butName (WorkT.again a0) a1), (delL (WorkT.fails a0) (failAt (WorkT.fails a0) a1) (IntKind.wrap .i64 ((failAt (WorkT.fails a0) a1) + (1 : Int))))⟩ : WorkT)))
                                          (cond (sm_work a0)
                                            (k [.d .work a0, .d .bool false])
                                            none)
                                          (k [.d .work (⟨(((WorkT.list a0) ++ ([a1] : List ByteArray)) ++ ([a1] : List ByteArray)), (butName (WorkT.busy a0) a1), (butName (WorkT.again a0) a1), (delL (WorkT.fails a0) (failAt (WorkT.fails a0) a1) (IntKind.wrap .i64 ((failAt (WorkT.fails a0) a1) + (1 : Int))))⟩ : WorkT), .d .bool true]))
                                        none)
                                      none)
                                    (cond (sm_work (⟨((WorkT.list a0) ++ ([a1] : List ByteArray)), (butName (WorkT.busy a0) a1), (butName (WorkT.again a0) a1), (delL (WorkT.fails a0) (failAt (WorkT.fails a0) a1) (IntKind.wrap .i64 ((failAt (WorkT.fails a0) a1) + (1 : Int))))⟩ : WorkT))
                                      (cond (!(workQOk (⟨((WorkT.list a0) ++ ([a1] : List ByteArray)), (butName (WorkT.busy a0) a1), (butName (WorkT.again a0) a1), (delL (WorkT.fails a0) (failAt (WorkT.fails a0) a1) (IntKind.wrap .i64 ((failAt (WorkT.fails a0) a1) + (1 : Int))))⟩ : WorkT)))
                                        (cond (sm_work a0)
                                          (k [.d .work a0, .d .bool false])
                                          none)
                                        (k [.d .work (⟨((WorkT.list a0) ++ ([a1] : List ByteArray)), (butName (WorkT.busy a0) a1), (butName (WorkT.again a0) a1), (delL (WorkT.fails a0) (failAt (WorkT.fails a0) a1) (IntKind.wrap .i64 ((failAt (WorkT.fails a0) a1) + (1 : Int))))⟩ : WorkT), .d .bool true]))
                                      none))
                                  none)
                                (cond (sm_work (⟨((WorkT.list a0) ++ ([a1] : List ByteArray)), (butName (WorkT.busy a0) a1), (butName (WorkT.again a0) a1), (delL (WorkT.fails a0) (failAt (WorkT.fails a0) a1) (IntKind.wrap .i64 ((failAt (WorkT.fails a0) a1) + (1 : Int))))⟩ : WorkT))
                                  (cond (!(workQOk (⟨((WorkT.list a0) ++ ([a1] : List ByteArray)), (butName (WorkT.busy a0) a1), (butName (WorkT.again a0) a1), (delL (WorkT.fails a0) (failAt (WorkT.fails a0) a1) (IntKind.wrap .i64 ((failAt (WorkT.fails a0) a1) + (1 : Int))))⟩ : WorkT)))
                                    (cond (sm_work a0)
                                      (k [.d .work a0, .d .bool false])
                                      none)
                                    (k [.d .work (⟨((WorkT.list a0) ++ ([a1] : List ByteArray)), (butName (WorkT.busy a0) a1), (butName (WorkT.again a0) a1), (delL (WorkT.fails a0) (failAt (WorkT.fails a0) a1) (IntKind.wrap .i64 ((failAt (WorkT.fails a0) a1) + (1 : Int))))⟩ : WorkT), .d .bool true]))
                                  none))
                              none)
                            (cond a2
                              (cond (!a2)
                                (cond ((fun (x : List ByteArray) (_ : ByteArray) => gLenW x) ((WorkT.list a0) ++ ([a1] : List ByteArray)) a1)
                                  (cond (!(isIn ((WorkT.list a0) ++ ([a1] : List ByteArray)) a1))
                                    (cond (Nat.ble (((WorkT.list a0) ++ ([a1] : List ByteArray)).length + 1) LIM)
                                      (cond (sm_work (⟨(((WorkT.list a0) ++ ([a1] : List ByteArray)) ++ ([a1] : List ByteArray)), (butName (WorkT.busy a0) a1), (butName (WorkT.again a0) a1), (WorkT.fails a0)⟩ : WorkT))
                                        (cond (!(workQOk (⟨(((WorkT.list a0) ++ ([a1] : List ByteArray)) ++ ([a1] : List ByteArray)), (butName (WorkT.busy a0) a1), (butName (WorkT.again a0) a1), (WorkT.fails a0)⟩ : WorkT)))
                                          (cond (sm_work a0)
                                            (k [.d .work a0, .d .bool false])
                                            none)
                                          (k [.d .work (⟨(((WorkT.list a0) ++ ([a1] : List ByteArray)) ++ ([a1] : List ByteArray)), (butName (WorkT.busy a0) a1), (butName (WorkT.again a0) a1), (WorkT.fails a0)⟩ : WorkT), .d .bool true]))
                                        none)
                                      none)
                                    (cond (sm_work (⟨((WorkT.list a0) ++ ([a1] : List ByteArray)), (butName (WorkT.busy a0) a1), (butName (WorkT.again a0) a1), (WorkT.fails a0)⟩ : WorkT))
                                      (cond (!(workQOk (⟨((WorkT.list a0) ++ ([a1] : List ByteArray)), (butName (WorkT.busy a0) a1), (butName (WorkT.again a0) a1), (WorkT.fails a0)⟩ : WorkT)))
                                        (cond (sm_work a0)
                                          (k [.d .work a0, .d .bool false])
                                          none)
                                        (k [.d .work (⟨((WorkT.list a0) ++ ([a1] : List ByteArray)), (butName (WorkT.busy a0) a1), (butName (WorkT.again a0) a1), (WorkT.fails a0)⟩ : WorkT), .d .bool true]))
                                      none))
                                  none)
                                (cond (sm_work (⟨((WorkT.list a0) ++ ([a1] : List ByteArray)), (butName (WorkT.busy a0) a1), (butName (WorkT.again a0) a1), (WorkT.fails a0)⟩ : WorkT))
                                  (cond (!(workQOk (⟨((WorkT.list a0) ++ ([a1] : List ByteArray)), (butName (WorkT.busy a0) a1), (butName (WorkT.again a0) a1), (WorkT.fails a0)⟩ : WorkT)))
                                    (cond (sm_work a0)
                                      (k [.d .work a0, .d .bool false])
                                      none)
                                    (k [.d .work (⟨((WorkT.list a0) ++ ([a1] : List ByteArray)), (butName (WorkT.busy a0) a1), (butName (WorkT.again a0) a1), (WorkT.fails a0)⟩ : WorkT), .d .bool true]))
                                  none))
                              (cond (decide ((failAt (WorkT.fails a0) a1) ≥ (0 : Int)))
                                (cond ((decide ((0 : Int) ≤ (failAt (WorkT.fails a0) a1))) && (decide ((failAt (WorkT.fails a0) a1) < ((WorkT.fails a0).length : Int))))
                                  (cond ((decide ((0 : Int) ≤ (failAt (WorkT.fails a0) a1))) && (decide ((failAt (WorkT.fails a0) a1) < ((WorkT.fails a0).length : Int))))
                                    (cond (!a2)
                                      (cond ((fun (x : List ByteArray) (_ : ByteArray) => gLenW x) ((WorkT.list a0) ++ ([a1] : List ByteArray)) a1)
                                        (cond (!(isIn ((WorkT.list a0) ++ ([a1] : List ByteArray)) a1))
                                          (cond (Nat.ble (((WorkT.list a0) ++ ([a1] : List ByteArray)).length + 1) LIM)
                                            (cond (sm_work (⟨(((WorkT.list a0) ++ ([a1] : List ByteArray)) ++ ([a1] : List ByteArray)), (butName (WorkT.busy a0) a1), (butName (WorkT.again a0) a1), (f20v0 a0 a1)⟩ : WorkT))
                                              (cond (!(workQOk (⟨(((WorkT.list a0) ++ ([a1] : List ByteArray)) ++ ([a1] : List ByteArray)), (butName (WorkT.busy a0) a1), (butName (WorkT.again a0) a1), (f20v0 a0 a1)⟩ : WorkT)))
                                                (cond (sm_work a0)
                                                  (k [.d .work a0, .d .bool false])
                                                  none)
                                                (k [.d .work (⟨(((WorkT.list a0) ++ ([a1] : List ByteArray)) ++ ([a1] : List ByteArray)), (butName (WorkT.busy a0) a1), (butName (WorkT.again a0) a1), (f20v0 a0 a1)⟩ : WorkT), .d .bool true]))
                                              none)
                                            none)
                                          (cond (sm_work (⟨((WorkT.list a0) ++ ([a1] : List ByteArray)), (butName (WorkT.busy a0) a1), (butName (WorkT.again a0) a1), (f20v0 a0 a1)⟩ : WorkT))
                                            (cond (!(workQOk (⟨((WorkT.list a0) ++ ([a1] : List ByteArray)), (butName (WorkT.busy a0) a1), (butName (WorkT.again a0) a1), (f20v0 a0 a1)⟩ : WorkT)))
                                              (cond (sm_work a0)
                                                (k [.d .work a0, .d .bool false])
                                                none)
                                              (k [.d .work (⟨((WorkT.list a0) ++ ([a1] : List ByteArray)), (butName (WorkT.busy a0) a1), (butName (WorkT.again a0) a1), (f20v0 a0 a1)⟩ : WorkT), .d .bool true]))
                                            none))
                                        none)
                                      (cond (sm_work (⟨((WorkT.list a0) ++ ([a1] : List ByteArray)), (butName (WorkT.busy a0) a1), (butName (WorkT.again a0) a1), (f20v0 a0 a1)⟩ : WorkT))
                                        (cond (!(workQOk (⟨((WorkT.list a0) ++ ([a1] : List ByteArray)), (butName (WorkT.busy a0) a1), (butName (WorkT.again a0) a1), (f20v0 a0 a1)⟩ : WorkT)))
                                          (cond (sm_work a0)
                                            (k [.d .work a0, .d .bool false])
                                            none)
                                          (k [.d .work (⟨((WorkT.list a0) ++ ([a1] : List ByteArray)), (butName (WorkT.busy a0) a1), (butName (WorkT.again a0) a1), (f20v0 a0 a1)⟩ : WorkT), .d .bool true]))
                                        none))
                                    none)
                                  none)
                                (cond (Nat.ble ((WorkT.fails a0).length + 1) LIM)
                                  (cond (!a2)
                                    (cond ((fun (x : List ByteArray) (_ : ByteArray) => gLenW x) ((WorkT.list a0) ++ ([a1] : List ByteArray)) a1)
                                      (cond (!(isIn ((WorkT.list a0) ++ ([a1] : List ByteArray)) a1))
                                        (cond (Nat.ble (((WorkT.list a0) ++ ([a1] : List ByteArray)).length + 1) LIM)
                                          (cond (sm_work (⟨(((WorkT.list a0) ++ ([a1] : List ByteArray)) ++ ([a1] : List ByteArray)), (butName (WorkT.busy a0) a1), (butName (WorkT.again a0) a1), ((WorkT.fails a0) ++ ([(⟨a1, (1 : Int)⟩ : FailT)] : List FailT))⟩ : WorkT))
                                            (cond (!(workQOk (⟨(((WorkT.list a0) ++ ([a1] : List ByteArray)) ++ ([a1] : List ByteArray)), (butName (WorkT.busy a0) a1), (butName (WorkT.again a0) a1), ((WorkT.fails a0) ++ ([(⟨a1, (1 : Int)⟩ : FailT)] : List FailT))⟩ : WorkT)))
                                              (cond (sm_work a0)
                                                (k [.d .work a0, .d .bool false])
                                                none)
                                              (k [.d .work (⟨(((WorkT.list a0) ++ ([a1] : List ByteArray)) ++ ([a1] : List ByteArray)), (butName (WorkT.busy a0) a1), (butName (WorkT.again a0) a1), ((WorkT.fails a0) ++ ([(⟨a1, (1 : Int)⟩ : FailT)] : List FailT))⟩ : WorkT), .d .bool true]))
                                            none)
                                          none)
                                        (cond (sm_work (⟨((WorkT.list a0) ++ ([a1] : List ByteArray)), (butName (WorkT.busy a0) a1), (butName (WorkT.again a0) a1), ((WorkT.fails a0) ++ ([(⟨a1, (1 : Int)⟩ : FailT)] : List FailT))⟩ : WorkT))
                                          (cond (!(workQOk (⟨((WorkT.list a0) ++ ([a1] : List ByteArray)), (butName (WorkT.busy a0) a1), (butName (WorkT.again a0) a1), ((WorkT.fails a0) ++ ([(⟨a1, (1 : Int)⟩ : FailT)] : List FailT))⟩ : WorkT)))
                                            (cond (sm_work a0)
                                              (k [.d .work a0, .d .bool false])
                                              none)
                                            (k [.d .work (⟨((WorkT.list a0) ++ ([a1] : List ByteArray)), (butName (WorkT.busy a0) a1), (butName (WorkT.again a0) a1), ((WorkT.fails a0) ++ ([(⟨a1, (1 : Int)⟩ : FailT)] : List FailT))⟩ : WorkT), .d .bool true]))
                                          none))
                                      none)
                                    (cond (sm_work (⟨((WorkT.list a0) ++ ([a1] : List ByteArray)), (butName (WorkT.busy a0) a1), (butName (WorkT.again a0) a1), ((WorkT.fails a0) ++ ([(⟨a1, (1 : Int)⟩ : FailT)] : List FailT))⟩ : WorkT))
                                      (cond (!(workQOk (⟨((WorkT.list a0) ++ ([a1] : List ByteArray)), (butName (WorkT.busy a0) a1), (butName (WorkT.again a0) a1), ((WorkT.fails a0) ++ ([(⟨a1, (1 : Int)⟩ : FailT)] : List FailT))⟩ : WorkT)))
                                        (cond (sm_work a0)
                                          (k [.d .work a0, .d .bool false])
                                          none)
                                        (k [.d .work (⟨((WorkT.list a0) ++ ([a1] : List ByteArray)), (butName (WorkT.busy a0) a1), (butName (WorkT.again a0) a1), ((WorkT.fails a0) ++ ([(⟨a1, (1 : Int)⟩ : FailT)] : List FailT))⟩ : WorkT), .d .bool true]))
                                      none))
                                  none))))
                          (cond a2
                            (cond (!a2)
                              (cond ((fun (x : List ByteArray) (_ : ByteArray) => gLenW x) ((WorkT.list a0) ++ ([a1] : List ByteArray)) a1)
                                (cond (!(isIn ((WorkT.list a0) ++ ([a1] : List ByteArray)) a1))
                                  (cond (Nat.ble (((WorkT.list a0) ++ ([a1] : List ByteArray)).length + 1) LIM)
                                    (cond (sm_work (⟨(((WorkT.list a0) ++ ([a1] : List ByteArray)) ++ ([a1] : List ByteArray)), (butName (WorkT.busy a0) a1), (butName (WorkT.again a0) a1), (WorkT.fails a0)⟩ : WorkT))
                                      (cond (!(workQOk (⟨(((WorkT.list a0) ++ ([a1] : List ByteArray)) ++ ([a1] : List ByteArray)), (butName (WorkT.busy a0) a1), (butName (WorkT.again a0) a1), (WorkT.fails a0)⟩ : WorkT)))
                                        (cond (sm_work a0)
                                          (k [.d .work a0, .d .bool false])
                                          none)
                                        (k [.d .work (⟨(((WorkT.list a0) ++ ([a1] : List ByteArray)) ++ ([a1] : List ByteArray)), (butName (WorkT.busy a0) a1), (butName (WorkT.again a0) a1), (WorkT.fails a0)⟩ : WorkT), .d .bool true]))
                                      none)
                                    none)
                                  (cond (sm_work (⟨((WorkT.list a0) ++ ([a1] : List ByteArray)), (butName (WorkT.busy a0) a1), (butName (WorkT.again a0) a1), (WorkT.fails a0)⟩ : WorkT))
                                    (cond (!(workQOk (⟨((WorkT.list a0) ++ ([a1] : List ByteArray)), (butName (WorkT.busy a0) a1), (butName (WorkT.again a0) a1), (WorkT.fails a0)⟩ : WorkT)))
                                      (cond (sm_work a0)
                                        (k [.d .work a0, .d .bool false])
                                        none)
                                      (k [.d .work (⟨((WorkT.list a0) ++ ([a1] : List ByteArray)), (butName (WorkT.busy a0) a1), (butName (WorkT.again a0) a1), (WorkT.fails a0)⟩ : WorkT), .d .bool true]))
                                    none))
                                none)
                              (cond (sm_work (⟨((WorkT.list a0) ++ ([a1] : List ByteArray)), (butName (WorkT.busy a0) a1), (butName (WorkT.again a0) a1), (WorkT.fails a0)⟩ : WorkT))
                                (cond (!(workQOk (⟨((WorkT.list a0) ++ ([a1] : List ByteArray)), (butName (WorkT.busy a0) a1), (butName (WorkT.again a0) a1), (WorkT.fails a0)⟩ : WorkT)))
                                  (cond (sm_work a0)
                                    (k [.d .work a0, .d .bool false])
                                    none)
                                  (k [.d .work (⟨((WorkT.list a0) ++ ([a1] : List ByteArray)), (butName (WorkT.busy a0) a1), (butName (WorkT.again a0) a1), (WorkT.fails a0)⟩ : WorkT), .d .bool true]))
                                none))
                            (cond (decide ((failAt (WorkT.fails a0) a1) ≥ (0 : Int)))
                              (cond ((decide ((0 : Int) ≤ (failAt (WorkT.fails a0) a1))) && (decide ((failAt (WorkT.fails a0) a1) < ((WorkT.fails a0).length : Int))))
                                (cond ((decide ((0 : Int) ≤ (failAt (WorkT.fails a0) a1))) && (decide ((failAt (WorkT.fails a0) a1) < ((WorkT.fails a0).length : Int))))
                                  (cond (!a2)
                                    (cond ((fun (x : List ByteArray) (_ : ByteArray) => gLenW x) ((WorkT.list a0) ++ ([a1] : List ByteArray)) a1)
                                      (cond (!(isIn ((WorkT.list a0) ++ ([a1] : List ByteArray)) a1))
                                        (cond (Nat.ble (((WorkT.list a0) ++ ([a1] : List ByteArray)).length + 1) LIM)
                                          (cond (sm_work (⟨(((WorkT.list a0) ++ ([a1] : List ByteArray)) ++ ([a1] : List ByteArray)), (butName (WorkT.busy a0) a1), (butName (WorkT.again a0) a1), (f20v0 a0 a1)⟩ : WorkT))
                                            (cond (!(workQOk (⟨(((WorkT.list a0) ++ ([a1] : List ByteArray)) ++ ([a1] : List ByteArray)), (butName (WorkT.busy a0) a1), (butName (WorkT.again a0) a1), (f20v0 a0 a1)⟩ : WorkT)))
                                              (cond (sm_work a0)
                                                (k [.d .work a0, .d .bool false])
                                                none)
                                              (k [.d .work (⟨(((WorkT.list a0) ++ ([a1] : List ByteArray)) ++ ([a1] : List ByteArray)), (butName (WorkT.busy a0) a1), (butName (WorkT.again a0) a1), (f20v0 a0 a1)⟩ : WorkT), .d .bool true]))
                                            none)
                                          none)
                                        (cond (sm_work (⟨((WorkT.list a0) ++ ([a1] : List ByteArray)), (butName (WorkT.busy a0) a1), (butName (WorkT.again a0) a1), (f20v0 a0 a1)⟩ : WorkT))
                                          (cond (!(workQOk (⟨((WorkT.list a0) ++ ([a1] : List ByteArray)), (butName (WorkT.busy a0) a1), (butName (WorkT.again a0) a1), (f20v0 a0 a1)⟩ : WorkT)))
                                            (cond (sm_work a0)
                                              (k [.d .work a0, .d .bool false])
                                              none)
                                            (k [.d .work (⟨((WorkT.list a0) ++ ([a1] : List ByteArray)), (butName (WorkT.busy a0) a1), (butName (WorkT.again a0) a1), (f20v0 a0 a1)⟩ : WorkT), .d .bool true]))
                                          none))
                                      none)
                                    (cond (sm_work (⟨((WorkT.list a0) ++ ([a1] : List ByteArray)), (butName (WorkT.busy a0) a1), (butName (WorkT.again a0) a1), (f20v0 a0 a1)⟩ : WorkT))
                                      (cond (!(workQOk (⟨((WorkT.list a0) ++ ([a1] : List ByteArray)), (butName (WorkT.busy a0) a1), (butName (WorkT.again a0) a1), (f20v0 a0 a1)⟩ : WorkT)))
                                        (cond (sm_work a0)
                                          (k [.d .work a0, .d .bool false])
                                          none)
                                        (k [.d .work (⟨((WorkT.list a0) ++ ([a1] : List ByteArray)), (butName (WorkT.busy a0) a1), (butName (WorkT.again a0) a1), (f20v0 a0 a1)⟩ : WorkT), .d .bool true]))
                                      none))
                                  none)
                                none)
                              (cond (Nat.ble ((WorkT.fails a0).length + 1) LIM)
                                (cond (!a2)
                                  (cond ((fun (x : List ByteArray) (_ : ByteArray) => gLenW x) ((WorkT.list a0) ++ ([a1] : List ByteArray)) a1)
                                    (cond (!(isIn ((WorkT.list a0) ++ ([a1] : List ByteArray)) a1))
                                      (cond (Nat.ble (((WorkT.list a0) ++ ([a1] : List ByteArray)).length + 1) LIM)
                                        (cond (sm_work (⟨(((WorkT.list a0) ++ ([a1] : List ByteArray)) ++ ([a1] : List ByteArray)), (butName (WorkT.busy a0) a1), (butName (WorkT.again a0) a1), ((WorkT.fails a0) ++ ([(⟨a1, (1 : Int)⟩ : FailT)] : List FailT))⟩ : WorkT))
                                          (cond (!(workQOk (⟨(((WorkT.list a0) ++ ([a1] : List ByteArray)) ++ ([a1] : List ByteArray)), (butName (WorkT.busy a0) a1), (butName (WorkT.again a0) a1), ((WorkT.fails a0) ++ ([(⟨a1, (1 : Int)⟩ : FailT)] : List FailT))⟩ : WorkT)))
                                            (cond (sm_work a0)
                                              (k [.d .work a0, .d .bool false])
                                              none)
                                            (k [.d .work (⟨(((WorkT.list a0) ++ ([a1] : List ByteArray)) ++ ([a1] : List ByteArray)), (butName (WorkT.busy a0) a1), (butName (WorkT.again a0) a1), ((WorkT.fails a0) ++ ([(⟨a1, (1 : Int)⟩ : FailT)] : List FailT))⟩ : WorkT), .d .bool true]))
                                          none)
                                        none)
                                      (cond (sm_work (⟨((WorkT.list a0) ++ ([a1] : List ByteArray)), (butName (WorkT.busy a0) a1), (butName (WorkT.again a0) a1), ((WorkT.fails a0) ++ ([(⟨a1, (1 : Int)⟩ : FailT)] : List FailT))⟩ : WorkT))
                                        (cond (!(workQOk (⟨((WorkT.list a0) ++ ([a1] : List ByteArray)), (butName (WorkT.busy a0) a1), (butName (WorkT.again a0) a1), ((WorkT.fails a0) ++ ([(⟨a1, (1 : Int)⟩ : FailT)] : List FailT))⟩ : WorkT)))
                                          (cond (sm_work a0)
                                            (k [.d .work a0, .d .bool false])
                                            none)
                                          (k [.d .work (⟨((WorkT.list a0) ++ ([a1] : List ByteArray)), (butName (WorkT.busy a0) a1), (butName (WorkT.again a0) a1), ((WorkT.fails a0) ++ ([(⟨a1, (1 : Int)⟩ : FailT)] : List FailT))⟩ : WorkT), .d .bool true]))
                                        none))
                                    none)
                                  (cond (sm_work (⟨((WorkT.list a0) ++ ([a1] : List ByteArray)), (butName (WorkT.busy a0) a1), (butName (WorkT.again a0) a1), ((WorkT.fails a0) ++ ([(⟨a1, (1 : Int)⟩ : FailT)] : List FailT))⟩ : WorkT))
                                    (cond (!(workQOk (⟨((WorkT.list a0) ++ ([a1] : List ByteArray)), (butName (WorkT.busy a0) a1), (butName (WorkT.again a0) a1), ((WorkT.fails a0) ++ ([(⟨a1, (1 : Int)⟩ : FailT)] : List FailT))⟩ : WorkT)))
                                      (cond (sm_work a0)
                                        (k [.d .work a0, .d .bool false])
                                        none)
                                      (k [.d .work (⟨((WorkT.list a0) ++ ([a1] : List ByteArray)), (butName (WorkT.busy a0) a1), (butName (WorkT.again a0) a1), ((WorkT.fails a0) ++ ([(⟨a1, (1 : Int)⟩ : FailT)] : List FailT))⟩ : WorkT), .d .bool true]))
                                    none))
                                none))))
                        none)
                      none)
                    none)
                  (cond ((fun (x : List FailT) (_ : ByteArray) => smL sm_fail x) (WorkT.fails a0) a1)
                    (cond a2
                      (cond (decide ((failAt (WorkT.fails a0) a1) ≥ (0 : Int)))
                        (cond (gDel (WorkT.fails a0) (failAt (WorkT.fails a0) a1) (IntKind.wrap .i64 ((failAt (WorkT.fails a0) a1) + (1 : Int))))
                          (cond (!a2)
                            (cond ((fun (x : List ByteArray) (_ : ByteArray) => gLenW x) (WorkT.list a0) a1)
                              (cond (!(isIn (WorkT.list a0) a1))
                                (cond (Nat.ble ((WorkT.list a0).length + 1) LIM)
                                  (cond (sm_work (⟨((WorkT.list a0) ++ ([a1] : List ByteArray)), (butName (WorkT.busy a0) a1), (WorkT.again a0), (delL (WorkT.fails a0) (failAt (WorkT.fails a0) a1) (IntKind.wrap .i64 ((failAt (WorkT.fails a0) a1) + (1 : Int))))⟩ : WorkT))
                                    (cond (!(workQOk (⟨((WorkT.list a0) ++ ([a1] : List ByteArray)), (butName (WorkT.busy a0) a1), (WorkT.again a0), (delL (WorkT.fails a0) (failAt (WorkT.fails a0) a1) (IntKind.wrap .i64 ((failAt (WorkT.fails a0) a1) + (1 : Int))))⟩ : WorkT)))
                                      (cond (sm_work a0)
                                        (k [.d .work a0, .d .bool false])
                                        none)
                                      (k [.d .work (⟨((WorkT.list a0) ++ ([a1] : List ByteArray)), (butName (WorkT.busy a0) a1), (WorkT.again a0), (delL (WorkT.fails a0) (failAt (WorkT.fails a0) a1) (IntKind.wrap .i64 ((failAt (WorkT.fails a0) a1) + (1 : Int))))⟩ : WorkT), .d .bool true]))
                                    none)
                                  none)
                                (cond (sm_work (⟨(WorkT.list a0), (butName (WorkT.busy a0) a1), (WorkT.again a0), (delL (WorkT.fails a0) (failAt (WorkT.fails a0) a1) (IntKind.wrap .i64 ((failAt (WorkT.fails a0) a1) + (1 : Int))))⟩ : WorkT))
                                  (cond (!(workQOk (⟨(WorkT.list a0), (butName (WorkT.busy a0) a1), (WorkT.again a0), (delL (WorkT.fails a0) (failAt (WorkT.fails a0) a1) (IntKind.wrap .i64 ((failAt (WorkT.fails a0) a1) + (1 : Int))))⟩ : WorkT)))
                                    (cond (sm_work a0)
                                      (k [.d .work a0, .d .bool false])
                                      none)
                                    (k [.d .work (⟨(WorkT.list a0), (butName (WorkT.busy a0) a1), (WorkT.again a0), (delL (WorkT.fails a0) (failAt (WorkT.fails a0) a1) (IntKind.wrap .i64 ((failAt (WorkT.fails a0) a1) + (1 : Int))))⟩ : WorkT), .d .bool true]))
                                  none))
                              none)
                            (cond (sm_work (⟨(WorkT.list a0), (butName (WorkT.busy a0) a1), (WorkT.again a0), (delL (WorkT.fails a0) (failAt (WorkT.fails a0) a1) (IntKind.wrap .i64 ((failAt (WorkT.fails a0) a1) + (1 : Int))))⟩ : WorkT))
                              (cond (!(workQOk (⟨(WorkT.list a0), (butName (WorkT.busy a0) a1), (WorkT.again a0), (delL (WorkT.fails a0) (failAt (WorkT.fails a0) a1) (IntKind.wrap .i64 ((failAt (WorkT.fails a0) a1) + (1 : Int))))⟩ : WorkT)))
                                (cond (sm_work a0)
                                  (k [.d .work a0, .d .bool false])
                                  none)
                                (k [.d .work (⟨(WorkT.list a0), (butName (WorkT.busy a0) a1), (WorkT.again a0), (delL (WorkT.fails a0) (failAt (WorkT.fails a0) a1) (IntKind.wrap .i64 ((failAt (WorkT.fails a0) a1) + (1 : Int))))⟩ : WorkT), .d .bool true]))
                              none))
                          none)
                        (cond a2
                          (cond (!a2)
                            (cond ((fun (x : List ByteArray) (_ : ByteArray) => gLenW x) (WorkT.list a0) a1)
                              (cond (!(isIn (WorkT.list a0) a1))
                                (cond (Nat.ble ((WorkT.list a0).length + 1) LIM)
                                  (cond (sm_work (⟨((WorkT.list a0) ++ ([a1] : List ByteArray)), (butName (WorkT.busy a0) a1), (WorkT.again a0), (WorkT.fails a0)⟩ : WorkT))
                                    (cond (!(workQOk (⟨((WorkT.list a0) ++ ([a1] : List ByteArray)), (butName (WorkT.busy a0) a1), (WorkT.again a0), (WorkT.fails a0)⟩ : WorkT)))
                                      (cond (sm_work a0)
                                        (k [.d .work a0, .d .bool false])
                                        none)
                                      (k [.d .work (⟨((WorkT.list a0) ++ ([a1] : List ByteArray)), (butName (WorkT.busy a0) a1), (WorkT.again a0), (WorkT.fails a0)⟩ : WorkT), .d .bool true]))
                                    none)
                                  none)
                                (cond (sm_work (⟨(WorkT.list a0), (butName (WorkT.busy a0) a1), (WorkT.again a0), (WorkT.fails a0)⟩ : WorkT))
                                  (cond (!(workQOk (⟨(WorkT.list a0), (butName (WorkT.busy a0) a1), (WorkT.again a0), (WorkT.fails a0)⟩ : WorkT)))
                                    (cond (sm_work a0)
                                      (k [.d .work a0, .d .bool false])
                                      none)
                                    (k [.d .work (⟨(WorkT.list a0), (butName (WorkT.busy a0) a1), (WorkT.again a0), (WorkT.fails a0)⟩ : WorkT), .d .bool true]))
                                  none))
                              none)
                            (cond (sm_work (⟨(WorkT.list a0), (butName (WorkT.busy a0) a1), (WorkT.again a0), (WorkT.fails a0)⟩ : WorkT))
                              (cond (!(workQOk (⟨(WorkT.list a0), (butName (WorkT.busy a0) a1), (WorkT.again a0), (WorkT.fails a0)⟩ : WorkT)))
                                (cond (sm_work a0)
                                  (k [.d .work a0, .d .bool false])
                                  none)
                                (k [.d .work (⟨(WorkT.list a0), (butName (WorkT.busy a0) a1), (WorkT.again a0), (WorkT.fails a0)⟩ : WorkT), .d .bool true]))
                              none))
                          (cond (decide ((failAt (WorkT.fails a0) a1) ≥ (0 : Int)))
                            (cond ((decide ((0 : Int) ≤ (failAt (WorkT.fails a0) a1))) && (decide ((failAt (WorkT.fails a0) a1) < ((WorkT.fails a0).length : Int))))
                              (cond ((decide ((0 : Int) ≤ (failAt (WorkT.fails a0) a1))) && (decide ((failAt (WorkT.fails a0) a1) < ((WorkT.fails a0).length : Int))))
                                (cond (!a2)
                                  (cond ((fun (x : List ByteArray) (_ : ByteArray) => gLenW x) (WorkT.list a0) a1)
                                    (cond (!(isIn (WorkT.list a0) a1))
                                      (cond (Nat.ble ((WorkT.list a0).length + 1) LIM)
                                        (cond (sm_work (⟨((WorkT.list a0) ++ ([a1] : List ByteArray)), (butName (WorkT.busy a0) a1), (WorkT.again a0), (f20v0 a0 a1)⟩ : WorkT))
                                          (cond (!(workQOk (⟨((WorkT.list a0) ++ ([a1] : List ByteArray)), (butName (WorkT.busy a0) a1), (WorkT.again a0), (f20v0 a0 a1)⟩ : WorkT)))
                                            (cond (sm_work a0)
                                              (k [.d .work a0, .d .bool false])
                                              none)
                                            (k [.d .work (⟨((WorkT.list a0) ++ ([a1] : List ByteArray)), (butName (WorkT.busy a0) a1), (WorkT.again a0), (f20v0 a0 a1)⟩ : WorkT), .d .bool true]))
                                          none)
                                        none)
                                      (cond (sm_work (⟨(WorkT.list a0), (butName (WorkT.busy a0) a1), (WorkT.again a0), (f20v0 a0 a1)⟩ : WorkT))
                                        (cond (!(workQOk (⟨(WorkT.list a0), (butName (WorkT.busy a0) a1), (WorkT.again a0), (f20v0 a0 a1)⟩ : WorkT)))
                                          (cond (sm_work a0)
                                            (k [.d .work a0, .d .bool false])
                                            none)
                                          (k [.d .work (⟨(WorkT.list a0), (butName (WorkT.busy a0) a1), (WorkT.again a0), (f20v0 a0 a1)⟩ : WorkT), .d .bool true]))
                                        none))
                                    none)
                                  (cond (sm_work (⟨(WorkT.list a0), (butName (WorkT.busy a0) a1), (WorkT.again a0), (f20v0 a0 a1)⟩ : WorkT))
                                    (cond (!(workQOk (⟨(WorkT.list a0), (butName (WorkT.busy a0) a1), (WorkT.again a0), (f20v0 a0 a1)⟩ : WorkT)))
                                      (cond (sm_work a0)
                                        (k [.d .work a0, .d .bool false])
                                        none)
                                      (k [.d .work (⟨(WorkT.list a0), (butName (WorkT.busy a0) a1), (WorkT.again a0), (f20v0 a0 a1)⟩ : WorkT), .d .bool true]))
                                    none))
                                none)
                              none)
                            (cond (Nat.ble ((WorkT.fails a0).length + 1) LIM)
                              (cond (!a2)
                                (cond ((fun (x : List ByteArray) (_ : ByteArray) => gLenW x) (WorkT.list a0) a1)
                                  (cond (!(isIn (WorkT.list a0) a1))
                                    (cond (Nat.ble ((WorkT.list a0).length + 1) LIM)
                                      (cond (sm_work (⟨((WorkT.list a0) ++ ([a1] : List ByteArray)), (butName (WorkT.busy a0) a1), (WorkT.again a0), ((WorkT.fails a0) ++ ([(⟨a1, (1 : Int)⟩ : FailT)] : List FailT))⟩ : WorkT))
                                        (cond (!(workQOk (⟨((WorkT.list a0) ++ ([a1] : List ByteArray)), (butName (WorkT.busy a0) a1), (WorkT.again a0), ((WorkT.fails a0) ++ ([(⟨a1, (1 : Int)⟩ : FailT)] : List FailT))⟩ : WorkT)))
                                          (cond (sm_work a0)
                                            (k [.d .work a0, .d .bool false])
                                            none)
                                          (k [.d .work (⟨((WorkT.list a0) ++ ([a1] : List ByteArray)), (butName (WorkT.busy a0) a1), (WorkT.again a0), ((WorkT.fails a0) ++ ([(⟨a1, (1 : Int)⟩ : FailT)] : List FailT))⟩ : WorkT), .d .bool true]))
                                        none)
                                      none)
                                    (cond (sm_work (⟨(WorkT.list a0), (butName (WorkT.busy a0) a1), (WorkT.again a0), ((WorkT.fails a0) ++ ([(⟨a1, (1 : Int)⟩ : FailT)] : List FailT))⟩ : WorkT))
                                      (cond (!(workQOk (⟨(WorkT.list a0), (butName (WorkT.busy a0) a1), (WorkT.again a0), ((WorkT.fails a0) ++ ([(⟨a1, (1 : Int)⟩ : FailT)] : List FailT))⟩ : WorkT)))
                                        (cond (sm_work a0)
                                          (k [.d .work a0, .d .bool false])
                                          none)
                                        (k [.d .work (⟨(WorkT.list a0), (butName (WorkT.busy a0) a1), (WorkT.again a0), ((WorkT.fails a0) ++ ([(⟨a1, (1 : Int)⟩ : FailT)] : List FailT))⟩ : WorkT), .d .bool true]))
                                      none))
                                  none)
                                (cond (sm_work (⟨(WorkT.list a0), (butName (WorkT.busy a0) a1), (WorkT.again a0), ((WorkT.fails a0) ++ ([(⟨a1, (1 : Int)⟩ : FailT)] : List FailT))⟩ : WorkT))
                                  (cond (!(workQOk (⟨(WorkT.list a0), (butName (WorkT.busy a0) a1), (WorkT.again a0), ((WorkT.fails a0) ++ ([(⟨a1, (1 : Int)⟩ : FailT)] : List FailT))⟩ : WorkT)))
                                    (cond (sm_work a0)
                                      (k [.d .work a0, .d .bool false])
                                      none)
                                    (k [.d .work (⟨(WorkT.list a0), (butName (WorkT.busy a0) a1), (WorkT.again a0), ((WorkT.fails a0) ++ ([(⟨a1, (1 : Int)⟩ : FailT)] : List FailT))⟩ : WorkT), .d .bool true]))
                                  none))
                              none))))
                      (cond a2
                        (cond (!a2)
                          (cond ((fun (x : List ByteArray) (_ : ByteArray) => gLenW x) (WorkT.list a0) a1)
                            (cond (!(isIn (WorkT.list a0) a1))
                              (cond (Nat.ble ((WorkT.list a0).length + 1) LIM)
                                (cond (sm_work (⟨((WorkT.list a0) ++ ([a1] : List ByteArray)), (butName (WorkT.busy a0) a1), (WorkT.again a0), (WorkT.fails a0)⟩ : WorkT))
                                  (cond (!(workQOk (⟨((WorkT.list a0) ++ ([a1] : List ByteArray)), (butName (WorkT.busy a0) a1), (WorkT.again a0), (WorkT.fails a0)⟩ : WorkT)))
                                    (cond (sm_work a0)
                                      (k [.d .work a0, .d .bool false])
                                      none)
                                    (k [.d .work (⟨((WorkT.list a0) ++ ([a1] : List ByteArray)), (butName (WorkT.busy a0) a1), (WorkT.again a0), (WorkT.fails a0)⟩ : WorkT), .d .bool true]))
                                  none)
                                none)
                              (cond (sm_work (⟨(WorkT.list a0), (butName (WorkT.busy a0) a1), (WorkT.again a0), (WorkT.fails a0)⟩ : WorkT))
                                (cond (!(workQOk (⟨(WorkT.list a0), (butName (WorkT.busy a0) a1), (WorkT.again a0), (WorkT.fails a0)⟩ : WorkT)))
                                  (cond (sm_work a0)
                                    (k [.d .work a0, .d .bool false])
                                    none)
                                  (k [.d .work (⟨(WorkT.list a0), (butName (WorkT.busy a0) a1), (WorkT.again a0), (WorkT.fails a0)⟩ : WorkT), .d .bool true]))
                                none))
                            none)
                          (cond (sm_work (⟨(WorkT.list a0), (butName (WorkT.busy a0) a1), (WorkT.again a0), (WorkT.fails a0)⟩ : WorkT))
                            (cond (!(workQOk (⟨(WorkT.list a0), (butName (WorkT.busy a0) a1), (WorkT.again a0), (WorkT.fails a0)⟩ : WorkT)))
                              (cond (sm_work a0)
                                (k [.d .work a0, .d .bool false])
                                none)
                              (k [.d .work (⟨(WorkT.list a0), (butName (WorkT.busy a0) a1), (WorkT.again a0), (WorkT.fails a0)⟩ : WorkT), .d .bool true]))
                            none))
                        (cond (decide ((failAt (WorkT.fails a0) a1) ≥ (0 : Int)))
                          (cond ((decide ((0 : Int) ≤ (failAt (WorkT.fails a0) a1))) && (decide ((failAt (WorkT.fails a0) a1) < ((WorkT.fails a0).length : Int))))
                            (cond ((decide ((0 : Int) ≤ (failAt (WorkT.fails a0) a1))) && (decide ((failAt (WorkT.fails a0) a1) < ((WorkT.fails a0).length : Int))))
                              (cond (!a2)
                                (cond ((fun (x : List ByteArray) (_ : ByteArray) => gLenW x) (WorkT.list a0) a1)
                                  (cond (!(isIn (WorkT.list a0) a1))
                                    (cond (Nat.ble ((WorkT.list a0).length + 1) LIM)
                                      (cond (sm_work (⟨((WorkT.list a0) ++ ([a1] : List ByteArray)), (butName (WorkT.busy a0) a1), (WorkT.again a0), (f20v0 a0 a1)⟩ : WorkT))
                                        (cond (!(workQOk (⟨((WorkT.list a0) ++ ([a1] : List ByteArray)), (butName (WorkT.busy a0) a1), (WorkT.again a0), (f20v0 a0 a1)⟩ : WorkT)))
                                          (cond (sm_work a0)
                                            (k [.d .work a0, .d .bool false])
                                            none)
                                          (k [.d .work (⟨((WorkT.list a0) ++ ([a1] : List ByteArray)), (butName (WorkT.busy a0) a1), (WorkT.again a0), (f20v0 a0 a1)⟩ : WorkT), .d .bool true]))
                                        none)
                                      none)
                                    (cond (sm_work (⟨(WorkT.list a0), (butName (WorkT.busy a0) a1), (WorkT.again a0), (f20v0 a0 a1)⟩ : WorkT))
                                      (cond (!(workQOk (⟨(WorkT.list a0), (butName (WorkT.busy a0) a1), (WorkT.again a0), (f20v0 a0 a1)⟩ : WorkT)))
                                        (cond (sm_work a0)
                                          (k [.d .work a0, .d .bool false])
                                          none)
                                        (k [.d .work (⟨(WorkT.list a0), (butName (WorkT.busy a0) a1), (WorkT.again a0), (f20v0 a0 a1)⟩ : WorkT), .d .bool true]))
                                      none))
                                  none)
                                (cond (sm_work (⟨(WorkT.list a0), (butName (WorkT.busy a0) a1), (WorkT.again a0), (f20v0 a0 a1)⟩ : WorkT))
                                  (cond (!(workQOk (⟨(WorkT.list a0), (butName (WorkT.busy a0) a1), (WorkT.again a0), (f20v0 a0 a1)⟩ : WorkT)))
                                    (cond (sm_work a0)
                                      (k [.d .work a0, .d .bool false])
                                      none)
                                    (k [.d .work (⟨(WorkT.list a0), (butName (WorkT.busy a0) a1), (WorkT.again a0), (f20v0 a0 a1)⟩ : WorkT), .d .bool true]))
                                  none))
                              none)
                            none)
                          (cond (Nat.ble ((WorkT.fails a0).length + 1) LIM)
                            (cond (!a2)
                              (cond ((fun (x : List ByteArray) (_ : ByteArray) => gLenW x) (WorkT.list a0) a1)
                                (cond (!(isIn (WorkT.list a0) a1))
                                  (cond (Nat.ble ((WorkT.list a0).length + 1) LIM)
                                    (cond (sm_work (⟨((WorkT.list a0) ++ ([a1] : List ByteArray)), (butName (WorkT.busy a0) a1), (WorkT.again a0), ((WorkT.fails a0) ++ ([(⟨a1, (1 : Int)⟩ : FailT)] : List FailT))⟩ : WorkT))
                                      (cond (!(workQOk (⟨((WorkT.list a0) ++ ([a1] : List ByteArray)), (butName (WorkT.busy a0) a1), (WorkT.again a0), ((WorkT.fails a0) ++ ([(⟨a1, (1 : Int)⟩ : FailT)] : List FailT))⟩ : WorkT)))
                                        (cond (sm_work a0)
                                          (k [.d .work a0, .d .bool false])
                                          none)
                                        (k [.d .work (⟨((WorkT.list a0) ++ ([a1] : List ByteArray)), (butName (WorkT.busy a0) a1), (WorkT.again a0), ((WorkT.fails a0) ++ ([(⟨a1, (1 : Int)⟩ : FailT)] : List FailT))⟩ : WorkT), .d .bool true]))
                                      none)
                                    none)
                                  (cond (sm_work (⟨(WorkT.list a0), (butName (WorkT.busy a0) a1), (WorkT.again a0), ((WorkT.fails a0) ++ ([(⟨a1, (1 : Int)⟩ : FailT)] : List FailT))⟩ : WorkT))
                                    (cond (!(workQOk (⟨(WorkT.list a0), (butName (WorkT.busy a0) a1), (WorkT.again a0), ((WorkT.fails a0) ++ ([(⟨a1, (1 : Int)⟩ : FailT)] : List FailT))⟩ : WorkT)))
                                      (cond (sm_work a0)
                                        (k [.d .work a0, .d .bool false])
                                        none)
                                      (k [.d .work (⟨(WorkT.list a0), (butName (WorkT.busy a0) a1), (WorkT.again a0), ((WorkT.fails a0) ++ ([(⟨a1, (1 : Int)⟩ : FailT)] : List FailT))⟩ : WorkT), .d .bool true]))
                                    none))
                                none)
                              (cond (sm_work (⟨(WorkT.list a0), (butName (WorkT.busy a0) a1), (WorkT.again a0), ((WorkT.fails a0) ++ ([(⟨a1, (1 : Int)⟩ : FailT)] : List FailT))⟩ : WorkT))
                                (cond (!(workQOk (⟨(WorkT.list a0), (butName (WorkT.busy a0) a1), (WorkT.again a0), ((WorkT.fails a0) ++ ([(⟨a1, (1 : Int)⟩ : FailT)] : List FailT))⟩ : WorkT)))
                                  (cond (sm_work a0)
                                    (k [.d .work a0, .d .bool false])
                                    none)
                                  (k [.d .work (⟨(WorkT.list a0), (butName (WorkT.busy a0) a1), (WorkT.again a0), ((WorkT.fails a0) ++ ([(⟨a1, (1 : Int)⟩ : FailT)] : List FailT))⟩ : WorkT), .d .bool true]))
                                none))
                            none))))
                    none))
                none)
              none)
            none))
        none))
    none) := by kernel_rfl
theorem f20_spec (a0 : WorkT) (a1 : ByteArray) (a2 : Bool) (hg : gDoneW a0 a1 a2 = true) : ∃ keep rounds, ∀ {R : Type} (k : List Dt → Option R), evFn f20e keep rounds f20c [.ro, .ro, .ro] [false, false] true [.cell 6 30, .tmp 7] [30, 4] [.d .work a0, .d .str a1, .d .bool a2] k = k [.d .work ((workDone a0 a1 a2).1), .d .bool ((workDone a0 a1 a2).2)] := by
  simp only [gDoneW, Bool.and_eq_true] at hg
  obtain ⟨hg0, hs⟩ := hg
  have hg := hg0
  simp only [sm_work, Bool.and_eq_true] at hg
  obtain ⟨hl, hb, ha, hf⟩ := hg
  have nl := smL_len hl
  refine ⟨f20k, 0, fun {R} k => ?_⟩
  rw [f20_run]
  show _ = k [.d .work (workDone a0 a1 a2).1, .d .bool (workDone a0 a1 a2).2]
  cases hq : workQOk a0
  · simp only [hg0, hq, workDone, Bool.not_false, cond_true, cond_false]
  have hlb := gLenW_sm hb
  have hla := gLenW_sm ha
  have hll := gLenW_sm hl
  cases hB : isIn a0.busy a1
  · simp only [hg0, hq, hB, hlb, workDone, Bool.not_false, Bool.not_true, cond_true, cond_false]
  have hql := qOk_len hq
  have h1 : Nat.ble (a0.list.length + 1) LIM = true := limLe1 nl
  have hno := qOk_apart hq hB
  have h2 : isIn (a0.list ++ [a1]) a1 = true := isIn_snoc _ _
  have h3 : gLenW (a0.list ++ [a1]) = true := gLenW_of (by rw [List.length_append, List.length_cons, List.length_nil]; omega)
  have hff := qOk_fails hq
  have h4 : Nat.ble (a0.fails.length + 1) LIM = true := Nat.ble_eq_true_of_le (by have : (LIM : Nat) = 4294967296 := rfl; omega)
  cases hO : failO a0.fails a1 with
  | none =>
    have hfa : failAt a0.fails a1 = -1 := by unfold failAt; rw [hO]; rfl
    have hd : decide ((-1 : Int) ≥ (0 : Int)) = false := by decide
    simp only [hg0, hq, hB, hlb, hla, hll, hl, hb, ha, hf, h1, h2, h3, h4, hno, hfa, hd, Bool.not_true, Bool.not_false, cond_true, cond_false]
    cases hA : isIn a0.again a1 <;> cases a2 <;> simp only [Bool.not_true, Bool.not_false, cond_true, cond_false] <;> refine done_fin hq hB hg0 hs ?_ <;> simp [doneW, failedI, hO, hA, butName_no]
  | some i =>
    have hfa : failAt a0.fails a1 = (i : Int) := by unfold failAt; rw [hO]; rfl
    have hi := failO_lt hO
    obtain ⟨i1, i0, iw, it⟩ := idx hi (by omega)
    have hd : decide ((i : Int) ≥ (0 : Int)) = true := i0
    have hdel := gDel_one hi
    have hci := (allN_iff.1 (qOk_allF hq)) i (by omega) (by omega)
    simp only [failC, Bool.and_eq_true, inR_iff] at hci
    have hwn : IntKind.wrap .i64 ((atI (t := .fail) a0.fails i).n + (1 : Int)) = (atI (t := .fail) a0.fails i).n + 1 := wrap_id (by omega) (by omega)
    have hmin : (if (20 : Int) < (atI (t := .fail) a0.fails i).n + 1 then (20 : Int) else (atI (t := .fail) a0.fails i).n + 1) = minI ((atI (t := .fail) a0.fails i).n + 1) 20 := by unfold minI; split <;> split <;> omega
    simp only [hg0, hq, hB, hlb, hla, hll, hl, hb, ha, hf, h1, h2, h3, h4, hno, hfa, hd, i1, i0, iw, hdel, Bool.and_self, Bool.not_true, Bool.not_false, cond_true, cond_false, f20v0, it, hwn, hmin]
    cases hA : isIn a0.again a1 <;> cases a2 <;> simp only [Bool.not_true, Bool.not_false, cond_true, cond_false] <;> refine done_fin hq hB hg0 hs ?_ <;> simp [doneW, failedI, hO, hA, butName_no]

noncomputable def q20 : List Dt → Option (Bool × List Dt)
  | [.d .work a0, .d .str a1, .d .bool a2] => some ((gDoneW a0 a1 a2), [.d .work ((workDone a0 a1 a2).1), .d .bool ((workDone a0 a1 a2).2)])
  | _ => none
noncomputable def s20 : Gm.Spec := Gm.Spec.of [.ro, .ro, .ro] [false, false] true q20
theorem good20 : Gm.Good Try.prog (20, s20) := by
  have hl : ∀ x ∈ [(23, s23), (42, s42), (45, s45), (46, s46), (47, s47), (48, s48)], Gm.Good Try.prog x := List.forall_mem_cons.2 ⟨good23, List.forall_mem_cons.2 ⟨good42, List.forall_mem_cons.2 ⟨good45, List.forall_mem_cons.2 ⟨good46, List.forall_mem_cons.2 ⟨good47, List.forall_mem_cons.2 ⟨good48, List.forall_mem_nil _⟩⟩⟩⟩⟩⟩
  refine ⟨⟨spec_ok (tab_ok.env hl) (tab.natl hl) Try.func20 (by kernel_rfl : Try.f20.body = some f20c) [30, 4] (by kernel_rfl) ?_, _, Try.func20, by kernel_rfl, of_decide_eq_true (by kernel_rfl)⟩, Gm.Spec.of_natl _ _ _ _⟩
  intro ds outs h
  unfold q20 at h
  split at h
  · simp only [Option.some.injEq, Prod.mk.injEq] at h; obtain ⟨hg, h⟩ := h; cases h; exact f20_spec _ _ _ hg
  · cases h
end Go.Proofs.Ytmeeoilfnahihaa

/- x -/
namespace Go.Proofs.Ytmeeoilfnahihaa
open Go Go.Gm
/-! ### loop.example/g00465/laws.szStringS -/
noncomputable def f36c : Code := (Try.f36.body).getD .skip
def f36k : Nat → Kp := kat [⟨[0, 1], [], [], []⟩, ⟨[0, 1], [], [], []⟩, ⟨[0, 1, 11], [], [], []⟩, ⟨[4], [], [], []⟩, ⟨[0, 1, 5], [], [], []⟩, ⟨[0, 1, 5, 15], [], [], []⟩, ⟨[0, 1, 5], [], [], []⟩, ⟨[0, 1, 5], [], [], []⟩, ⟨[0, 1, 5, 26], [], [], []⟩, ⟨[4], [], [], []⟩, ⟨[4], [], [], []⟩]
noncomputable def f36e : Env := tab.env []
noncomputable def f36L0 {R : Type} (n : Nat) (x0 : Option R) (x1 : Int → Int → Bool → Option R) (vs0 : List ByteArray) : Nat → Int → Int → Option R
  | 0, _, _ => none
  | m + 1, vs1, vs5 =>
    (cond (decide (vs5 < (vs0.length : Int)))
      (cond ((decide ((0 : Int) ≤ vs5)) && (decide (vs5 < (vs0.length : Int))))
        (cond (decide ((IntKind.wrap .i64 (vs1 - (ByteArray.size (atI (t := .str) vs0 (Int.toNat vs5)) : Int))) < (0 : Int)))
          (x0)
          (f36L0 n x0 x1 vs0 m (IntKind.wrap .i64 (vs1 - (ByteArray.size (atI (t := .str) vs0 (Int.toNat vs5)) : Int))) (IntKind.wrap .i64 (vs5 + (1 : Int)))))
        none)
      (x1 vs1 vs5 (decide (vs5 < (vs0.length : Int)))))
theorem f36L0_b {R : Type} (n : Nat) (k' : Ex → St → Option R) (vs0 : List ByteArray) (vs1 : Int) (vs5 : Int) : ev f36e f36k n (cAt [1,1,1,0,1,0,0] f36c) ⟨[(0, .c (.one (.ro .str vs0))), (1, .c (.one (.v (.int .i64 vs1)))), (5, .c (.one (.v (.int .i64 vs5))))], [], []⟩ k' =
    (cond (decide (vs5 < (vs0.length : Int)))
    (cond ((decide ((0 : Int) ≤ vs5)) && (decide (vs5 < (vs0.length : Int))))
      (cond (decide ((IntKind.wrap .i64 (vs1 - (ByteArray.size (atI (t := .str) vs0 (Int.toNat vs5)) : Int))) < (0 : Int)))
        (k' .ret ⟨[(4, .c (.one (.v (.int .i64 (-1 : Int)))))], [], []⟩)
        (k' .normal ⟨[(0, .c (.one (.ro .str vs0))), (1, .c (.one (.v (.int .i64 (IntKind.wrap .i64 (vs1 - (ByteArray.size (atI (t := .str) vs0 (Int.toNat vs5)) : Int))))))), (5, .c (.one (.v (.int .i64 (IntKind.wrap .i64 (vs5 + (1 : Int)))))))], [], []⟩))
      none)
    (k' (.exit 0) ⟨[(0, .c (.one (.ro .str vs0))), (1, .c (.one (.v (.int .i64 vs1)))), (5, .c (.one (.v (.int .i64 vs5)))), (15, .c (.one (.v (.bool (decide (vs5 < (vs0.length : Int)))))))], [], []⟩)) := by kernel_rfl
theorem f36L0_eq {R : Type} (n : Nat) (k' : Ex → St → Option R) (vs0 : List ByteArray) : ∀ (m : Nat) (vs1 : Int) (vs5 : Int), iter (fun st k => ev f36e f36k n (cAt [1,1,1,0,1,0,0] f36c) st k) m ⟨[(0, .c (.one (.ro .str vs0))), (1, .c (.one (.v (.int .i64 vs1)))), (5, .c (.one (.v (.int .i64 vs5))))], [], []⟩ k' = f36L0 n (k' .ret ⟨[(4, .c (.one (.v (.int .i64 (-1 : Int)))))], [], []⟩) (fun (xvs1 : Int) (xvs5 : Int) (xvs15 : Bool) => k' (.exit 0) ⟨[(0, .c (.one (.ro .str vs0))), (1, .c (.one (.v (.int .i64 xvs1)))), (5, .c (.one (.v (.int .i64 xvs5)))), (15, .c (.one (.v (.bool xvs15))))], [], []⟩) vs0 m vs1 vs5 := by
  intro m; induction m with
  | zero => intros; rfl
  | succ m ih =>
    intro vs1 vs5
    simp only [iter]
    rw [f36L0_b]
    simp only [ih, f36L0]

noncomputable def f36K0 {R : Type} (n : Nat) (k' : Ex → St → Option R) : Ex → St → Option R := (blockK 0 (seqK f36e f36k n (cAt [1,1,1,1] f36c) k'))
theorem f36K0_x0 {R : Type} (n : Nat) (k : List Dt → Option R) (a0 : List ByteArray) (a1 : Int)  : f36K0 n (exitK f36e [.ro, .ro] [false] true [.tmp 4] [3] [.d (.sl .str) a0, .d (.i .i64) a1] k) .ret ⟨[(4, .c (.one (.v (.int .i64 (-1 : Int)))))], [], []⟩ =
    (k [.d (.i .i64) (-1 : Int)]) := by kernel_rfl
theorem f36K0_x1 {R : Type} (n : Nat) (k : List Dt → Option R) (a0 : List ByteArray) (a1 : Int) (vs0 : List ByteArray) (xvs1 : Int) (xvs5 : Int) (xvs15 : Bool) : f36K0 n (exitK f36e [.ro, .ro] [false] true [.tmp 4] [3] [.d (.sl .str) a0, .d (.i .i64) a1] k) (.exit 0) ⟨[(0, .c (.one (.ro .str vs0))), (1, .c (.one (.v (.int .i64 xvs1)))), (5, .c (.one (.v (.int .i64 xvs5)))), (15, .c (.one (.v (.bool xvs15))))], [], []⟩ =
    (k [.d (.i .i64) xvs1]) := by kernel_rfl

theorem f36_run {R : Type} (n : Nat) (k : List Dt → Option R) (a0 : List ByteArray) (a1 : Int) : evFn f36e f36k n f36c [.ro, .ro] [false] true [.tmp 4] [3] [.d (.sl .str) a0, .d (.i .i64) a1] k =
    (cond (decide ((IntKind.wrap .i64 (a1 - (a0.length : Int))) < (0 : Int)))
    (k [.d (.i .i64) (-1 : Int)])
    (f36L0 n (k [.d (.i .i64) (-1 : Int)]) (fun (xvs1 : Int) (xvs5 : Int) (xvs15 : Bool) =>
      (k [.d (.i .i64) xvs1])) a0 n (IntKind.wrap .i64 (a1 - (a0.length : Int))) (0 : Int))) := by
  refine Eq.trans (b := (cond (decide ((IntKind.wrap .i64 (a1 - (a0.length : Int))) < (0 : Int)))
    (k [.d (.i .i64) (-1 : Int)])
    (iter (fun st k => ev f36e f36k n (cAt [1,1,1,0,1,0,0] f36c) st k) n ⟨[(0, .c (.one (.ro .str a0))), (1, .c (.one (.v (.int .i64 (IntKind.wrap .i64 (a1 - (a0.length : Int))))))), (5, .c (.one (.v (.int .i64 (0 : Int)))))], [], []⟩ (f36K0 n (exitK f36e [.ro, .ro] [false] true [.tmp 4] [3] [.d (.sl .str) a0, .d (.i .i64) a1] k))))) (by kernel_rfl) ?_
  simp only [f36L0_eq, f36K0_x0, f36K0_x1]
theorem f36_spec (a0 : List ByteArray) (a1 : Int) (hg : gzL_str a0 a1 = true) : ∃ keep rounds, ∀ {R : Type} (k : List Dt → Option R), evFn f36e keep rounds f36c [.ro, .ro] [false] true [.tmp 4] [3] [.d (.sl .str) a0, .d (.i .i64) a1] k = k [.d (.i .i64) (zL_str a0 a1)] := by
  simp only [gzL_str, okL, Bool.and_eq_true, okN_iff] at hg
  obtain ⟨⟨hl, hs⟩, hn⟩ := hg
  have hl : a0.length ≤ 9223372036854775807 := bleN hl
  refine ⟨f36k, a0.length + 1, fun k => ?_⟩
  rw [f36_run, wrap_id (x := a1 - (a0.length : Int)) (by omega) (by omega)]
  show _ = k [.d (.i .i64) (zL_str a0 a1)]
  unfold zL_str
  have eL : szL ByteArray.size a0 = a0.length + (a0.map ByteArray.size).sum := rfl
  by_cases hc : a1 - (a0.length : Int) < 0
  · simp only [hc, decide_true, cond_true]
    rw [szI_neg (by omega)]
  · simp only [hc, decide_false, cond_false]
    refine Eq.trans (loop_fold (xs := a0) (F := fun m j left => f36L0 (a0.length + 1) _ _ a0 m left (j : Int)) (step := szStep ByteArray.size)
      (out := fun _ => k [.d (.i .i64) (-1 : Int)]) (good := fun left => k [.d (.i .i64) left]) (fun n => 0 ≤ n ∧ n ≤ 1048576)
      (fun x n n' hx hn h => by
        unfold szStep at h
        split at h
        · cases h
        · cases h; omega)
      (fun m j n x hx hn => ?_)
      (fun m n hn => by simp only [f36L0, idxE, cond_false]) a0.length 0 (a0.length + 1) (a1 - (a0.length : Int)) (by omega) (by omega) (by omega)) ?_
    · obtain ⟨h1, h0, hw, ht⟩ := idx (lt_of_get hx) (by omega)
      have hx2 := List.all_eq_true.1 hs x (List.mem_of_getElem? hx)
      have hx2 : x.size ≤ 9223372036854775807 := bleN hx2
      simp only [f36L0, h1, h0, hw, ht, atI_of (t := .str) hx, Bool.and_self, cond_true]
      rw [wrap_id (x := n - (x.size : Int)) (by omega) (by omega)]
      unfold szStep
      by_cases h : n - (x.size : Int) < 0
      · simp only [h, decide_true, cond_true, if_true, Sum.elim_inl]
      · simp only [h, decide_false, cond_false, if_false, Sum.elim_inr]
    · rw [List.drop_zero, sz_fold _ _ _ (by omega)]
      by_cases h2 : a1 - (a0.length : Int) - ((a0.map ByteArray.size).sum : Nat) < 0
      · rw [if_pos h2, szI_neg (by omega)]; rfl
      · rw [if_neg h2, szI_pos (by omega)]
        simp only [Sum.elim_inr]
        rw [show a1 - (a0.length : Int) - ((a0.map ByteArray.size).sum : Nat) = a1 - (szL ByteArray.size a0 : Nat) by omega]

noncomputable def q36 : List Dt → Option (Bool × List Dt)
  | [.d (.sl .str) a0, .d (.i .i64) a1] => some ((gzL_str a0 a1), [.d (.i .i64) (zL_str a0 a1)])
  | _ => none
noncomputable def s36 : Gm.Spec := Gm.Spec.of [.ro, .ro] [false] true q36
theorem good36 : Gm.Good Try.prog (36, s36) := by
  have hl : ∀ x ∈ ([] : List (Nat × Gm.Spec)), Gm.Good Try.prog x := fun _ h => by cases h
  refine ⟨⟨spec_ok (tab_ok.env hl) (tab.natl hl) Try.func36 (by kernel_rfl : Try.f36.body = some f36c) [3] (by kernel_rfl) ?_, _, Try.func36, by kernel_rfl, of_decide_eq_true (by kernel_rfl)⟩, Gm.Spec.of_natl _ _ _ _⟩
  intro ds outs h
  unfold q36 at h
  split at h
  · simp only [Option.some.injEq, Prod.mk.injEq] at h; obtain ⟨hg, h⟩ := h; cases h; exact f36_spec _ _ hg
  · cases h
/-! ### loop.example/g00465/laws.szFail -/
noncomputable def f73c : Code := (Try.f73.body).getD .skip
def f73k : Nat → Kp := kat [⟨[1, 2], [], [], []⟩, ⟨[1], [], [], []⟩, ⟨[1, 11], [], [], []⟩, ⟨[4], [], [], []⟩, ⟨[4], [], [], []⟩]
noncomputable def f73e : Env := tab.env []
theorem f73_run {R : Type} (n : Nat) (k : List Dt → Option R) (a0 : FailT) (a1 : Int) : evFn f73e f73k n f73c [.ro, .ro] [false] true [.tmp 4] [3] [.d .fail a0, .d (.i .i64) a1] k =
    (cond (decide ((IntKind.wrap .i64 (a1 - (ByteArray.size (FailT.name a0) : Int))) < (0 : Int)))
    (k [.d (.i .i64) (-1 : Int)])
    (k [.d (.i .i64) (IntKind.wrap .i64 (a1 - (ByteArray.size (FailT.name a0) : Int)))])) := by kernel_rfl
theorem f73_spec (a0 : FailT) (a1 : Int) (hg : gz_fail a0 a1 = true) : ∃ keep rounds, ∀ {R : Type} (k : List Dt → Option R), evFn f73e keep rounds f73c [.ro, .ro] [false] true [.tmp 4] [3] [.d .fail a0, .d (.i .i64) a1] k = k [.d (.i .i64) (z_fail a0 a1)] := by
  simp only [gz_fail, ok_fail, Bool.and_eq_true, okN_iff] at hg
  obtain ⟨⟨hf_name, hf_n⟩, hn1, hn2⟩ := hg
  have hf_nameb : a0.name.size ≤ 9223372036854775807 := bleN hf_name
  have eN : szN_fail a0 = a0.name.size := rfl
  refine ⟨f73k, 0, fun k => ?_⟩
  rw [f73_run]
  show _ = k [.d (.i .i64) (z_fail a0 a1)]
  unfold z_fail
  rw [wrap_id (x := a1 - ((a0.name.size : Nat) : Int)) (by omega) (by omega)]
  by_cases h1 : a1 - ((a0.name.size : Nat) : Int) < 0
  · simp only [h1, decide_true, cond_true]; rw [szI_neg (by omega)]
  simp only [h1, decide_false, cond_false]
  rw [szI_pos (by omega)]
  first
    | rfl
    | rw [show (a1 - ((a0.name.size : Nat) : Int)) = a1 - ((szN_fail a0 : Nat) : Int) by omega]

noncomputable def q73 : List Dt → Option (Bool × List Dt)
  | [.d .fail a0, .d (.i .i64) a1] => some ((gz_fail a0 a1), [.d (.i .i64) (z_fail a0 a1)])
  | _ => none
noncomputable def s73 : Gm.Spec := Gm.Spec.of [.ro, .ro] [false] true q73
theorem good73 : Gm.Good Try.prog (73, s73) := by
  have hl : ∀ x ∈ ([] : List (Nat × Gm.Spec)), Gm.Good Try.prog x := fun _ h => by cases h
  refine ⟨⟨spec_ok (tab_ok.env hl) (tab.natl hl) Try.func73 (by kernel_rfl : Try.f73.body = some f73c) [3] (by kernel_rfl) ?_, _, Try.func73, by kernel_rfl, of_decide_eq_true (by kernel_rfl)⟩, Gm.Spec.of_natl _ _ _ _⟩
  intro ds outs h
  unfold q73 at h
  split at h
  · simp only [Option.some.injEq, Prod.mk.injEq] at h; obtain ⟨hg, h⟩ := h; cases h; exact f73_spec _ _ hg
  · cases h
/-! ### loop.example/g00465/laws.szFailS -/
noncomputable def f37c : Code := (Try.f37.body).getD .skip
def f37k : Nat → Kp := kat [⟨[0, 1], [], [], []⟩, ⟨[0, 1], [], [], []⟩, ⟨[0, 1, 11], [], [], []⟩, ⟨[4], [], [], []⟩, ⟨[0, 1, 5], [], [], []⟩, ⟨[0, 1, 5, 15], [], [], []⟩, ⟨[0, 1, 5], [], [], []⟩, ⟨[0, 1, 5], [], [], []⟩, ⟨[0, 1, 5, 25], [], [], []⟩, ⟨[4], [], [], []⟩, ⟨[4], [], [], []⟩]
noncomputable def f37e : Env := tab.env [(73, s73)]
noncomputable def f37L0 {R : Type} (n : Nat) (x0 : Option R) (x1 : Int → Int → Bool → Option R) (vs0 : List FailT) : Nat → Int → Int → Option R
  | 0, _, _ => none
  | m + 1, vs1, vs5 =>
    (cond (decide (vs5 < (vs0.length : Int)))
      (cond ((decide ((0 : Int) ≤ vs5)) && (decide (vs5 < (vs0.length : Int))))
        (cond (gz_fail (atI (t := .fail) vs0 (Int.toNat vs5)) vs1)
          (cond (decide ((z_fail (atI (t := .fail) vs0 (Int.toNat vs5)) vs1) < (0 : Int)))
            (x0)
            (f37L0 n x0 x1 vs0 m (z_fail (atI (t := .fail) vs0 (Int.toNat vs5)) vs1) (IntKind.wrap .i64 (vs5 + (1 : Int)))))
          none)
        none)
      (x1 vs1 vs5 (decide (vs5 < (vs0.length : Int)))))
theorem f37L0_b {R : Type} (n : Nat) (k' : Ex → St → Option R) (vs0 : List FailT) (vs1 : Int) (vs5 : Int) : ev f37e f37k n (cAt [1,1,1,0,1,0,0] f37c) ⟨[(0, .c (.one (.ro .fail vs0))), (1, .c (.one (.v (.int .i64 vs1)))), (5, .c (.one (.v (.int .i64 vs5))))], [], []⟩ k' =
    (cond (decide (vs5 < (vs0.length : Int)))
    (cond ((decide ((0 : Int) ≤ vs5)) && (decide (vs5 < (vs0.length : Int))))
      (cond (gz_fail (atI (t := .fail) vs0 (Int.toNat vs5)) vs1)
        (cond (decide ((z_fail (atI (t := .fail) vs0 (Int.toNat vs5)) vs1) < (0 : Int)))
          (k' .ret ⟨[(4, .c (.one (.v (.int .i64 (-1 : Int)))))], [], []⟩)
          (k' .normal ⟨[(0, .c (.one (.ro .fail vs0))), (1, .c (.one (.v (.int .i64 (z_fail (atI (t := .fail) vs0 (Int.toNat vs5)) vs1))))), (5, .c (.one (.v (.int .i64 (IntKind.wrap .i64 (vs5 + (1 : Int)))))))], [], []⟩))
        none)
      none)
    (k' (.exit 0) ⟨[(0, .c (.one (.ro .fail vs0))), (1, .c (.one (.v (.int .i64 vs1)))), (5, .c (.one (.v (.int .i64 vs5)))), (15, .c (.one (.v (.bool (decide (vs5 < (vs0.length : Int)))))))], [], []⟩)) := by kernel_rfl
theorem f37L0_eq {R : Type} (n : Nat) (k' : Ex → St → Option R) (vs0 : List FailT) : ∀ (m : Nat) (vs1 : Int) (vs5 : Int), iter (fun st k => ev f37e f37k n (cAt [1,1,1,0,1,0,0] f37c) st k) m ⟨[(0, .c (.one (.ro .fail vs0))), (1, .c (.one (.v (.int .i64 vs1)))), (5, .c (.one (.v (.int .i64 vs5))))], [], []⟩ k' = f37L0 n (k' .ret ⟨[(4, .c (.one (.v (.int .i64 (-1 : Int)))))], [], []⟩) (fun (xvs1 : Int) (xvs5 : Int) (xvs15 : Bool) => k' (.exit 0) ⟨[(0, .c (.one (.ro .fail vs0))), (1, .c (.one (.v (.int .i64 xvs1)))), (5, .c (.one (.v (.int .i64 xvs5)))), (15, .c (.one (.v (.bool xvs15))))], [], []⟩) vs0 m vs1 vs5 := by
  intro m; induction m with
  | zero => intros; rfl
  | succ m ih =>
    intro vs1 vs5
    simp only [iter]
    rw [f37L0_b]
    simp only [ih, f37L0]

noncomputable def f37K0 {R : Type} (n : Nat) (k' : Ex → St → Option R) : Ex → St → Option R := (blockK 0 (seqK f37e f37k n (cAt [1,1,1,1] f37c) k'))
theorem f37K0_x0 {R : Type} (n : Nat) (k : List Dt → Option R) (a0 : List FailT) (a1 : Int)  : f37K0 n (exitK f37e [.ro, .ro] [false] true [.tmp 4] [3] [.d (.sl .fail) a0, .d (.i .i64) a1] k) .ret ⟨[(4, .c (.one (.v (.int .i64 (-1 : Int)))))], [], []⟩ =
    (k [.d (.i .i64) (-1 : Int)]) := by kernel_rfl
theorem f37K0_x1 {R : Type} (n : Nat) (k : List Dt → Option R) (a0 : List FailT) (a1 : Int) (vs0 : List FailT) (xvs1 : Int) (xvs5 : Int) (xvs15 : Bool) : f37K0 n (exitK f37e [.ro, .ro] [false] true [.tmp 4] [3] [.d (.sl .fail) a0, .d (.i .i64) a1] k) (.exit 0) ⟨[(0, .c (.one (.ro .fail vs0))), (1, .c (.one (.v (.int .i64 xvs1)))), (5, .c (.one (.v (.int .i64 xvs5)))), (15, .c (.one (.v (.bool xvs15))))], [], []⟩ =
    (k [.d (.i .i64) xvs1]) := by kernel_rfl

theorem f37_run {R : Type} (n : Nat) (k : List Dt → Option R) (a0 : List FailT) (a1 : Int) : evFn f37e f37k n f37c [.ro, .ro] [false] true [.tmp 4] [3] [.d (.sl .fail) a0, .d (.i .i64) a1] k =
    (cond (decide ((IntKind.wrap .i64 (a1 - (a0.length : Int))) < (0 : Int)))
    (k [.d (.i .i64) (-1 : Int)])
    (f37L0 n (k [.d (.i .i64) (-1 : Int)]) (fun (xvs1 : Int) (xvs5 : Int) (xvs15 : Bool) =>
      (k [.d (.i .i64) xvs1])) a0 n (IntKind.wrap .i64 (a1 - (a0.length : Int))) (0 : Int))) := by
  refine Eq.trans (b := (cond (decide ((IntKind.wrap .i64 (a1 - (a0.length : Int))) < (0 : Int)))
    (k [.d (.i .i64) (-1 : Int)])
    (iter (fun st k => ev f37e f37k n (cAt [1,1,1,0,1,0,0] f37c) st k) n ⟨[(0, .c (.one (.ro .fail a0))), (1, .c (.one (.v (.int .i64 (IntKind.wrap .i64 (a1 - (a0.length : Int))))))), (5, .c (.one (.v (.int .i64 (0 : Int)))))], [], []⟩ (f37K0 n (exitK f37e [.ro, .ro] [false] true [.tmp 4] [3] [.d (.sl .fail) a0, .d (.i .i64) a1] k))))) (by kernel_rfl) ?_
  simp only [f37L0_eq, f37K0_x0, f37K0_x1]
theorem f37_spec (a0 : List FailT) (a1 : Int) (hg : gzL_fail a0 a1 = true) : ∃ keep rounds, ∀ {R : Type} (k : List Dt → Option R), evFn f37e keep rounds f37c [.ro, .ro] [false] true [.tmp 4] [3] [.d (.sl .fail) a0, .d (.i .i64) a1] k = k [.d (.i .i64) (zL_fail a0 a1)] := by
  simp only [gzL_fail, okL, Bool.and_eq_true, okN_iff] at hg
  obtain ⟨⟨hl, hs⟩, hn⟩ := hg
  have hl : a0.length ≤ 9223372036854775807 := bleN hl
  refine ⟨f37k, a0.length + 1, fun k => ?_⟩
  rw [f37_run, wrap_id (x := a1 - (a0.length : Int)) (by omega) (by omega)]
  show _ = k [.d (.i .i64) (zL_fail a0 a1)]
  unfold zL_fail
  have eL : szL szN_fail a0 = a0.length + (a0.map szN_fail).sum := rfl
  by_cases hc : a1 - (a0.length : Int) < 0
  · simp only [hc, decide_true, cond_true]
    rw [szI_neg (by omega)]
  · simp only [hc, decide_false, cond_false]
    refine Eq.trans (loop_fold (xs := a0) (F := fun m j left => f37L0 (a0.length + 1) _ _ a0 m left (j : Int)) (step := szStep szN_fail)
      (out := fun _ => k [.d (.i .i64) (-1 : Int)]) (good := fun left => k [.d (.i .i64) left]) (fun n => 0 ≤ n ∧ n ≤ 1048576)
      (fun x n n' hx hn h => by
        unfold szStep at h
        split at h
        · cases h
        · cases h; omega)
      (fun m j n x hx hn => ?_)
      (fun m n hn => by simp only [f37L0, idxE, cond_false]) a0.length 0 (a0.length + 1) (a1 - (a0.length : Int)) (by omega) (by omega) (by omega)) ?_
    · obtain ⟨h1, h0, hw, ht⟩ := idx (lt_of_get hx) (by omega)
      have hx2 := List.all_eq_true.1 hs x (List.mem_of_getElem? hx)
      have hg2 : gz_fail x n = true := by simp only [gz_fail, Bool.and_eq_true, okN_iff]; exact ⟨hx2, by omega, by omega⟩
      have hz : z_fail x n = szI (szN_fail x) n := rfl
      simp only [f37L0, h1, h0, hw, ht, atI_of (t := .fail) hx, Bool.and_self, cond_true, hg2, hz]
      unfold szStep
      by_cases h : n - (szN_fail x : Int) < 0
      · rw [szI_neg h]; simp only [h, if_true, Sum.elim_inl]; rfl
      · rw [szI_pos h]; simp only [h, decide_false, cond_false, if_false, Sum.elim_inr]
    · rw [List.drop_zero, sz_fold _ _ _ (by omega)]
      by_cases h2 : a1 - (a0.length : Int) - ((a0.map szN_fail).sum : Nat) < 0
      · rw [if_pos h2, szI_neg (by omega)]; rfl
      · rw [if_neg h2, szI_pos (by omega)]
        simp only [Sum.elim_inr]
        rw [show a1 - (a0.length : Int) - ((a0.map szN_fail).sum : Nat) = a1 - (szL szN_fail a0 : Nat) by omega]

noncomputable def q37 : List Dt → Option (Bool × List Dt)
  | [.d (.sl .fail) a0, .d (.i .i64) a1] => some ((gzL_fail a0 a1), [.d (.i .i64) (zL_fail a0 a1)])
  | _ => none
noncomputable def s37 : Gm.Spec := Gm.Spec.of [.ro, .ro] [false] true q37
theorem good37 : Gm.Good Try.prog (37, s37) := by
  have hl : ∀ x ∈ [(73, s73)], Gm.Good Try.prog x := List.forall_mem_cons.2 ⟨good73, List.forall_mem_nil _⟩
  refine ⟨⟨spec_ok (tab_ok.env hl) (tab.natl hl) Try.func37 (by kernel_rfl : Try.f37.body = some f37c) [3] (by kernel_rfl) ?_, _, Try.func37, by kernel_rfl, of_decide_eq_true (by kernel_rfl)⟩, Gm.Spec.of_natl _ _ _ _⟩
  intro ds outs h
  unfold q37 at h
  split at h
  · simp only [Option.some.injEq, Prod.mk.injEq] at h; obtain ⟨hg, h⟩ := h; cases h; exact f37_spec _ _ hg
  · cases h
/-! ### loop.example/g00465/laws.szWork -/
noncomputable def f11c : Code := (Try.f11.body).getD .skip
def f11k : Nat → Kp := kat [⟨[1, 2], [], [], []⟩, ⟨[1, 2], [], [], []⟩, ⟨[1, 2, 10], [], [], []⟩, ⟨[4], [], [], []⟩, ⟨[1, 2], [], [], []⟩, ⟨[1, 2, 16], [], [], []⟩, ⟨[4], [], [], []⟩, ⟨[1, 2], [], [], []⟩, ⟨[1, 2, 22], [], [], []⟩, ⟨[4], [], [], []⟩, ⟨[1], [], [], []⟩, ⟨[1, 28], [], [], []⟩, ⟨[4], [], [], []⟩, ⟨[4], [], [], []⟩]
noncomputable def f11e : Env := tab.env [(36, s36), (37, s37)]
theorem f11_run {R : Type} (n : Nat) (k : List Dt → Option R) (a0 : WorkT) (a1 : Int) : evFn f11e f11k n f11c [.ro, .ro] [false] true [.tmp 4] [3] [.d .work a0, .d (.i .i64) a1] k =
    (cond (gzL_str (WorkT.list a0) a1)
    (cond (decide ((zL_str (WorkT.list a0) a1) < (0 : Int)))
      (k [.d (.i .i64) (-1 : Int)])
      (cond (gzL_str (WorkT.busy a0) (zL_str (WorkT.list a0) a1))
        (cond (decide ((zL_str (WorkT.busy a0) (zL_str (WorkT.list a0) a1)) < (0 : Int)))
          (k [.d (.i .i64) (-1 : Int)])
          (cond (gzL_str (WorkT.again a0) (zL_str (WorkT.busy a0) (zL_str (WorkT.list a0) a1)))
            (cond (decide ((zL_str (WorkT.again a0) (zL_str (WorkT.busy a0) (zL_str (WorkT.list a0) a1))) < (0 : Int)))
              (k [.d (.i .i64) (-1 : Int)])
              (cond (gzL_fail (WorkT.fails a0) (zL_str (WorkT.again a0) (zL_str (WorkT.busy a0) (zL_str (WorkT.list a0) a1))))
                (cond (decide ((zL_fail (WorkT.fails a0) (zL_str (WorkT.again a0) (zL_str (WorkT.busy a0) (zL_str (WorkT.list a0) a1)))) < (0 : Int)))
                  (k [.d (.i .i64) (-1 : Int)])
                  (k [.d (.i .i64) (zL_fail (WorkT.fails a0) (zL_str (WorkT.again a0) (zL_str (WorkT.busy a0) (zL_str (WorkT.list a0) a1))))]))
                none))
            none))
        none))
    none) := by kernel_rfl
theorem f11_spec (a0 : WorkT) (a1 : Int) (hg : gz_work a0 a1 = true) : ∃ keep rounds, ∀ {R : Type} (k : List Dt → Option R), evFn f11e keep rounds f11c [.ro, .ro] [false] true [.tmp 4] [3] [.d .work a0, .d (.i .i64) a1] k = k [.d (.i .i64) (z_work a0 a1)] := by
  simp only [gz_work, ok_work, Bool.and_eq_true, okN_iff] at hg
  obtain ⟨⟨hf_list, hf_busy, hf_again, hf_fails⟩, hn1, hn2⟩ := hg
  have eN : szN_work a0 = szL ByteArray.size a0.list + szL ByteArray.size a0.busy + szL ByteArray.size a0.again + szL szN_fail a0.fails := rfl
  refine ⟨f11k, 0, fun k => ?_⟩
  rw [f11_run]
  show _ = k [.d (.i .i64) (z_work a0 a1)]
  unfold z_work
  have g1 : gzL_str a0.list a1 = true := by simp only [gzL_str, Bool.and_eq_true, okN_iff]; exact ⟨hf_list, by omega, by omega⟩
  have z2 : zL_str a0.list a1 = szI (szL ByteArray.size a0.list) a1 := rfl
  rw [g1, z2]
  by_cases h2 : a1 - ((szL ByteArray.size a0.list : Nat) : Int) < 0
  · rw [szI_neg h2, szI_neg (by omega)]; rfl
  rw [szI_pos h2]
  simp only [cond_true, h2, decide_false, cond_false]
  have g3 : gzL_str a0.busy (a1 - ((szL ByteArray.size a0.list : Nat) : Int)) = true := by simp only [gzL_str, Bool.and_eq_true, okN_iff]; exact ⟨hf_busy, by omega, by omega⟩
  have z4 : zL_str a0.busy (a1 - ((szL ByteArray.size a0.list : Nat) : Int)) = szI (szL ByteArray.size a0.busy) (a1 - ((szL ByteArray.size a0.list : Nat) : Int)) := rfl
  rw [g3, z4]
  by_cases h4 : (a1 - ((szL ByteArray.size a0.list : Nat) : Int)) - ((szL ByteArray.size a0.busy : Nat) : Int) < 0
  · rw [szI_neg h4, szI_neg (by omega)]; rfl
  rw [szI_pos h4]
  simp only [cond_true, h4, decide_false, cond_false]
  have g5 : gzL_str a0.again ((a1 - ((szL ByteArray.size a0.list : Nat) : Int)) - ((szL ByteArray.size a0.busy : Nat) : Int)) = true := by simp only [gzL_str, Bool.and_eq_true, okN_iff]; exact ⟨hf_again, by omega, by omega⟩
  have z6 : zL_str a0.again ((a1 - ((szL ByteArray.size a0.list : Nat) : Int)) - ((szL ByteArray.size a0.busy : Nat) : Int)) = szI (szL ByteArray.size a0.again) ((a1 - ((szL ByteArray.size a0.list : Nat) : Int)) - ((szL ByteArray.size a0.busy : Nat) : Int)) := rfl
  rw [g5, z6]
  by_cases h6 : ((a1 - ((szL ByteArray.size a0.list : Nat) : Int)) - ((szL ByteArray.size a0.busy : Nat) : Int)) - ((szL ByteArray.size a0.again : Nat) : Int) < 0
  · rw [szI_neg h6, szI_neg (by omega)]; rfl
  rw [szI_pos h6]
  simp only [cond_true, h6, decide_false, cond_false]
  have g7 : gzL_fail a0.fails (((a1 - ((szL ByteArray.size a0.list : Nat) : Int)) - ((szL ByteArray.size a0.busy : Nat) : Int)) - ((szL ByteArray.size a0.again : Nat) : Int)) = true := by simp only [gzL_fail, Bool.and_eq_true, okN_iff]; exact ⟨hf_fails, by omega, by omega⟩
  have z8 : zL_fail a0.fails (((a1 - ((szL ByteArray.size a0.list : Nat) : Int)) - ((szL ByteArray.size a0.busy : Nat) : Int)) - ((szL ByteArray.size a0.again : Nat) : Int)) = szI (szL szN_fail a0.fails) (((a1 - ((szL ByteArray.size a0.list : Nat) : Int)) - ((szL ByteArray.size a0.busy : Nat) : Int)) - ((szL ByteArray.size a0.again : Nat) : Int)) := rfl
  rw [g7, z8]
  by_cases h8 : (((a1 - ((szL ByteArray.size a0.list : Nat) : Int)) - ((szL ByteArray.size a0.busy : Nat) : Int)) - ((szL ByteArray.size a0.again : Nat) : Int)) - ((szL szN_fail a0.fails : Nat) : Int) < 0
  · rw [szI_neg h8, szI_neg (by omega)]; rfl
  rw [szI_pos h8]
  simp only [cond_true, h8, decide_false, cond_false]
  rw [szI_pos (by omega)]
  first
    | rfl
    | rw [show ((((a1 - ((szL ByteArray.size a0.list : Nat) : Int)) - ((szL ByteArray.size a0.busy : Nat) : Int)) - ((szL ByteArray.size a0.again : Nat) : Int)) - ((szL szN_fail a0.fails : Nat) : Int)) = a1 - ((szN_work a0 : Nat) : Int) by omega]

noncomputable def q11 : List Dt → Option (Bool × List Dt)
  | [.d .work a0, .d (.i .i64) a1] => some ((gz_work a0 a1), [.d (.i .i64) (z_work a0 a1)])
  | _ => none
noncomputable def s11 : Gm.Spec := Gm.Spec.of [.ro, .ro] [false] true q11
theorem good11 : Gm.Good Try.prog (11, s11) := by
  have hl : ∀ x ∈ [(36, s36), (37, s37)], Gm.Good Try.prog x := List.forall_mem_cons.2 ⟨good36, List.forall_mem_cons.2 ⟨good37, List.forall_mem_nil _⟩⟩
  refine ⟨⟨spec_ok (tab_ok.env hl) (tab.natl hl) Try.func11 (by kernel_rfl : Try.f11.body = some f11c) [3] (by kernel_rfl) ?_, _, Try.func11, by kernel_rfl, of_decide_eq_true (by kernel_rfl)⟩, Gm.Spec.of_natl _ _ _ _⟩
  intro ds outs h
  unfold q11 at h
  split at h
  · simp only [Option.some.injEq, Prod.mk.injEq] at h; obtain ⟨hg, h⟩ := h; cases h; exact f11_spec _ _ hg
  · cases h
/-! ### loop.example/g00465/laws.toStringS -/
noncomputable def f40c : Code := (Try.f40.body).getD .skip
def f40k : Nat → Kp := kat [⟨[0], [], [], []⟩, ⟨[0, 3], [], [], []⟩, ⟨[0, 3, 4], [], [], []⟩, ⟨[0, 3, 4, 11], [], [], []⟩, ⟨[0, 3, 4], [], [], []⟩, ⟨[0, 3, 4], [], [], []⟩, ⟨[2], [], [], []⟩]
noncomputable def f40e : Env := tab.env []
noncomputable def f40L0 {R : Type} (n : Nat) (x0 : Int → Bool → (List ByteArray) → Option R) (vs0 : List ByteArray) : Nat → Int → (List ByteArray) → Option R
  | 0, _, _ => none
  | m + 1, vs4, vr448 =>
    (cond (decide (vs4 < (vs0.length : Int)))
      (cond ((decide ((0 : Int) ≤ vs4)) && (decide (vs4 < (vs0.length : Int))))
        (cond ((decide ((0 : Int) ≤ vs4)) && (decide (vs4 < (vr448.length : Int))))
          (f40L0 n x0 vs0 m (IntKind.wrap .i64 (vs4 + (1 : Int))) (vr448.set (Int.toNat vs4) (atI (t := .str) vs0 (Int.toNat vs4))))
          none)
        none)
      (x0 vs4 (decide (vs4 < (vs0.length : Int))) vr448))
theorem f40L0_b {R : Type} (n : Nat) (k' : Ex → St → Option R) (vs0 : List ByteArray) (vs4 : Int) (vr448 : List ByteArray) : ev f40e f40k n (cAt [1,1,0,1,0,0] f40c) ⟨[(0, .c (.one (.ro .str vs0))), (3, .c (.one (.h 448 0 0 []))), (4, .c (.one (.v (.int .i64 vs4))))], [], [(448, .live ⟨.str, .deep, 0, [], vr448⟩)]⟩ k' =
    (cond (decide (vs4 < (vs0.length : Int)))
    (cond ((decide ((0 : Int) ≤ vs4)) && (decide (vs4 < (vs0.length : Int))))
      (cond ((decide ((0 : Int) ≤ vs4)) && (decide (vs4 < (vr448.length : Int))))
        (k' .normal ⟨[(0, .c (.one (.ro .str vs0))), (3, .c (.one (.h 448 0 0 []))), (4, .c (.one (.v (.int .i64 (IntKind.wrap .i64 (vs4 + (1 : Int)))))))], [], [(448, .live ⟨.str, .deep, 0, [], (vr448.set (Int.toNat vs4) (atI (t := .str) vs0 (Int.toNat vs4)))⟩)]⟩)
        none)
      none)
    (k' (.exit 0) ⟨[(0, .c (.one (.ro .str vs0))), (3, .c (.one (.h 448 0 0 []))), (4, .c (.one (.v (.int .i64 vs4)))), (11, .c (.one (.v (.bool (decide (vs4 < (vs0.length : Int)))))))], [], [(448, .live ⟨.str, .deep, 0, [], vr448⟩)]⟩)) := by kernel_rfl
theorem f40L0_eq {R : Type} (n : Nat) (k' : Ex → St → Option R) (vs0 : List ByteArray) : ∀ (m : Nat) (vs4 : Int) (vr448 : List ByteArray), iter (fun st k => ev f40e f40k n (cAt [1,1,0,1,0,0] f40c) st k) m ⟨[(0, .c (.one (.ro .str vs0))), (3, .c (.one (.h 448 0 0 []))), (4, .c (.one (.v (.int .i64 vs4))))], [], [(448, .live ⟨.str, .deep, 0, [], vr448⟩)]⟩ k' = f40L0 n (fun (xvs4 : Int) (xvs11 : Bool) (xvr448 : List ByteArray) => k' (.exit 0) ⟨[(0, .c (.one (.ro .str vs0))), (3, .c (.one (.h 448 0 0 []))), (4, .c (.one (.v (.int .i64 xvs4)))), (11, .c (.one (.v (.bool xvs11))))], [], [(448, .live ⟨.str, .deep, 0, [], xvr448⟩)]⟩) vs0 m vs4 vr448 := by
  intro m; induction m with
  | zero => intros; rfl
  | succ m ih =>
    intro vs4 vr448
    simp only [iter]
    rw [f40L0_b]
    simp only [ih, f40L0]

noncomputable def f40K0 {R : Type} (n : Nat) (k' : Ex → St → Option R) : Ex → St → Option R := (blockK 0 (seqK f40e f40k n (cAt [1,1,1] f40c) k'))
theorem f40K0_x0 {R : Type} (n : Nat) (k : List Dt → Option R) (a0 : List ByteArray) (vs0 : List ByteArray) (xvs4 : Int) (xvs11 : Bool) (xvr448 : List ByteArray) : f40K0 n (exitK f40e [.ro] [false] true [.tmp 2] [22] [.d (.sl .str) a0] k) (.exit 0) ⟨[(0, .c (.one (.ro .str vs0))), (3, .c (.one (.h 448 0 0 []))), (4, .c (.one (.v (.int .i64 xvs4)))), (11, .c (.one (.v (.bool xvs11))))], [], [(448, .live ⟨.str, .deep, 0, [], xvr448⟩)]⟩ =
    (k [.d (.sl .str) xvr448]) := by kernel_rfl

theorem f40_run {R : Type} (n : Nat) (k : List Dt → Option R) (a0 : List ByteArray) : evFn f40e f40k n f40c [.ro] [false] true [.tmp 2] [22] [.d (.sl .str) a0] k =
    (cond ((decide ((a0.length : Int) = (a0.length : Int))) && ((decide ((0 : Int) ≤ (a0.length : Int))) && (decide ((a0.length : Int) ≤ (LIM : Int)))))
    (f40L0 n (fun (xvs4 : Int) (xvs11 : Bool) (xvr448 : List ByteArray) =>
      (k [.d (.sl .str) xvr448])) a0 n (0 : Int) (List.replicate (Int.toNat (a0.length : Int)) ByteArray.empty))
    none) := by
  refine Eq.trans (b := (cond ((decide ((a0.length : Int) = (a0.length : Int))) && ((decide ((0 : Int) ≤ (a0.length : Int))) && (decide ((a0.length : Int) ≤ (LIM : Int)))))
    (iter (fun st k => ev f40e f40k n (cAt [1,1,0,1,0,0] f40c) st k) n ⟨[(0, .c (.one (.ro .str a0))), (3, .c (.one (.h 448 0 0 []))), (4, .c (.one (.v (.int .i64 (0 : Int)))))], [], [(448, .live ⟨.str, .deep, 0, [], (List.replicate (Int.toNat (a0.length : Int)) ByteArray.empty)⟩)]⟩ (f40K0 n (exitK f40e [.ro] [false] true [.tmp 2] [22] [.d (.sl .str) a0] k)))
    none)) (by kernel_rfl) ?_
  simp only [f40L0_eq, f40K0_x0]
theorem f40_spec (a0 : List ByteArray) (hg : smL smStr a0 = true) : ∃ keep rounds, ∀ {R : Type} (k : List Dt → Option R), evFn f40e keep rounds f40c [.ro] [false] true [.tmp 2] [22] [.d (.sl .str) a0] k = k [.d (.sl .str) a0] := by
  have hl : a0.length ≤ 1048576 := smL_len hg
  have hs := smL_all hg
  refine ⟨f40k, a0.length + 1, fun k => ?_⟩
  rw [f40_run, mkOk hl]
  simp only [cond_true]
  have := loop_copy (xs := a0) (f := fun x => x) (F := fun m j out => f40L0 (a0.length + 1) (fun (xvs4 : Int) (xvs11 : Bool) (xvr448 : List ByteArray) => (k [.d (.sl .str) xvr448])) a0 m (j : Int) out) (good := fun out => k [.d (.sl .str) out]) ByteArray.empty
    (fun m j out x hx hl' => by
      obtain ⟨h1, h0, hw, ht⟩ := idx (lt_of_get hx) (by omega)
      obtain ⟨h2, _, _, _⟩ := idx (show j < out.length by rw [hl']; exact lt_of_get hx) (by omega)
      have hx2 := List.all_eq_true.1 hs x (List.mem_of_getElem? hx)
      simp only [f40L0, h1, h0, h2, hw, ht, atI_of (t := .str) hx, Bool.and_self, cond_true])
    (fun m out => by simp only [f40L0, idxE, cond_false]) a0.length 0 (a0.length + 1) (by omega) (by omega)
  simpa using this

noncomputable def q40 : List Dt → Option (Bool × List Dt)
  | [.d (.sl .str) a0] => some ((smL smStr a0), [.d (.sl .str) a0])
  | _ => none
noncomputable def s40 : Gm.Spec := Gm.Spec.of [.ro] [false] true q40
theorem good40 : Gm.Good Try.prog (40, s40) := by
  have hl : ∀ x ∈ ([] : List (Nat × Gm.Spec)), Gm.Good Try.prog x := fun _ h => by cases h
  refine ⟨⟨spec_ok (tab_ok.env hl) (tab.natl hl) Try.func40 (by kernel_rfl : Try.f40.body = some f40c) [22] (by kernel_rfl) ?_, _, Try.func40, by kernel_rfl, of_decide_eq_true (by kernel_rfl)⟩, Gm.Spec.of_natl _ _ _ _⟩
  intro ds outs h
  unfold q40 at h
  split at h
  · simp only [Option.some.injEq, Prod.mk.injEq] at h; obtain ⟨hg, h⟩ := h; cases h; exact f40_spec _ hg
  · cases h
/-! ### loop.example/g00465/laws.toFail -/
noncomputable def f74c : Code := (Try.f74.body).getD .skip
def f74k : Nat → Kp := kat [⟨[1, 2], [], [], []⟩, ⟨[1, 2, 3], [], [], []⟩, ⟨[1, 2, 3], [], [], []⟩, ⟨[2, 3], [], [], []⟩, ⟨[2], [], [], []⟩]
noncomputable def f74e : Env := tab.env []
theorem f74_run {R : Type} (n : Nat) (k : List Dt → Option R) (a0 : FailT) : evFn f74e f74k n f74c [.ro] [false] true [.cell 2 57] [57] [.d .fail a0] k =
    (k [.d .fail a0]) := by kernel_rfl
theorem f74_spec (a0 : FailT) (hg : sm_fail a0 = true) : ∃ keep rounds, ∀ {R : Type} (k : List Dt → Option R), evFn f74e keep rounds f74c [.ro] [false] true [.cell 2 57] [57] [.d .fail a0] k = k [.d .fail a0] := by
  exact ⟨f74k, 0, fun k => f74_run 0 k a0⟩

noncomputable def q74 : List Dt → Option (Bool × List Dt)
  | [.d .fail a0] => some ((sm_fail a0), [.d .fail a0])
  | _ => none
noncomputable def s74 : Gm.Spec := Gm.Spec.of [.ro] [false] true q74
theorem good74 : Gm.Good Try.prog (74, s74) := by
  have hl : ∀ x ∈ ([] : List (Nat × Gm.Spec)), Gm.Good Try.prog x := fun _ h => by cases h
  refine ⟨⟨spec_ok (tab_ok.env hl) (tab.natl hl) Try.func74 (by kernel_rfl : Try.f74.body = some f74c) [57] (by kernel_rfl) ?_, _, Try.func74, by kernel_rfl, of_decide_eq_true (by kernel_rfl)⟩, Gm.Spec.of_natl _ _ _ _⟩
  intro ds outs h
  unfold q74 at h
  split at h
  · simp only [Option.some.injEq, Prod.mk.injEq] at h; obtain ⟨hg, h⟩ := h; cases h; exact f74_spec _ hg
  · cases h
/-! ### loop.example/g00465/laws.toFailS -/
noncomputable def f41c : Code := (Try.f41.body).getD .skip
def f41k : Nat → Kp := kat [⟨[0], [], [], []⟩, ⟨[0, 3], [], [], []⟩, ⟨[0, 3, 4], [], [], []⟩, ⟨[0, 3, 4, 11], [], [], []⟩, ⟨[0, 3, 4], [], [], []⟩, ⟨[0, 3, 4], [], [], []⟩, ⟨[2], [], [], []⟩]
noncomputable def f41e : Env := tab.env [(74, s74)]
noncomputable def f41L0 {R : Type} (n : Nat) (x0 : Int → Bool → (List FailT) → Option R) (vs0 : List FailT) : Nat → Int → (List FailT) → Option R
  | 0, _, _ => none
  | m + 1, vs4, vr448 =>
    (cond (decide (vs4 < (vs0.length : Int)))
      (cond ((decide ((0 : Int) ≤ vs4)) && (decide (vs4 < (vs0.length : Int))))
        (cond (sm_fail (atI (t := .fail) vs0 (Int.toNat vs4)))
          (cond ((decide ((0 : Int) ≤ vs4)) && (decide (vs4 < (vr448.length : Int))))
            (f41L0 n x0 vs0 m (IntKind.wrap .i64 (vs4 + (1 : Int))) (vr448.set (Int.toNat vs4) (atI (t := .fail) vs0 (Int.toNat vs4))))
            none)
          none)
        none)
      (x0 vs4 (decide (vs4 < (vs0.length : Int))) vr448))
theorem f41L0_b {R : Type} (n : Nat) (k' : Ex → St → Option R) (vs0 : List FailT) (vs4 : Int) (vr448 : List FailT) : ev f41e f41k n (cAt [1,1,0,1,0,0] f41c) ⟨[(0, .c (.one (.ro .fail vs0))), (3, .c (.one (.h 448 0 0 []))), (4, .c (.one (.v (.int .i64 vs4))))], [], [(448, .live ⟨.fail, .deep, 0, [], vr448⟩)]⟩ k' =
    (cond (decide (vs4 < (vs0.length : Int)))
    (cond ((decide ((0 : Int) ≤ vs4)) && (decide (vs4 < (vs0.length : Int))))
      (cond (sm_fail (atI (t := .fail) vs0 (Int.toNat vs4)))
        (cond ((decide ((0 : Int) ≤ vs4)) && (decide (vs4 < (vr448.length : Int))))
          (k' .normal ⟨[(0, .c (.one (.ro .fail vs0))), (3, .c (.one (.h 448 0 0 []))), (4, .c (.one (.v (.int .i64 (IntKind.wrap .i64 (vs4 + (1 : Int)))))))], [], [(448, .live ⟨.fail, .deep, 0, [], (vr448.set (Int.toNat vs4) (atI (t := .fail) vs0 (Int.toNat vs4)))⟩)]⟩)
          none)
        none)
      none)
    (k' (.exit 0) ⟨[(0, .c (.one (.ro .fail vs0))), (3, .c (.one (.h 448 0 0 []))), (4, .c (.one (.v (.int .i64 vs4)))), (11, .c (.one (.v (.bool (decide (vs4 < (vs0.length : Int)))))))], [], [(448, .live ⟨.fail, .deep, 0, [], vr448⟩)]⟩)) := by kernel_rfl
theorem f41L0_eq {R : Type} (n : Nat) (k' : Ex → St → Option R) (vs0 : List FailT) : ∀ (m : Nat) (vs4 : Int) (vr448 : List FailT), iter (fun st k => ev f41e f41k n (cAt [1,1,0,1,0,0] f41c) st k) m ⟨[(0, .c (.one (.ro .fail vs0))), (3, .c (.one (.h 448 0 0 []))), (4, .c (.one (.v (.int .i64 vs4))))], [], [(448, .live ⟨.fail, .deep, 0, [], vr448⟩)]⟩ k' = f41L0 n (fun (xvs4 : Int) (xvs11 : Bool) (xvr448 : List FailT) => k' (.exit 0) ⟨[(0, .c (.one (.ro .fail vs0))), (3, .c (.one (.h 448 0 0 []))), (4, .c (.one (.v (.int .i64 xvs4)))), (11, .c (.one (.v (.bool xvs11))))], [], [(448, .live ⟨.fail, .deep, 0, [], xvr448⟩)]⟩) vs0 m vs4 vr448 := by
  intro m; induction m with
  | zero => intros; rfl
  | succ m ih =>
    intro vs4 vr448
    simp only [iter]
    rw [f41L0_b]
    simp only [ih, f41L0]

noncomputable def f41K0 {R : Type} (n : Nat) (k' : Ex → St → Option R) : Ex → St → Option R := (blockK 0 (seqK f41e f41k n (cAt [1,1,1] f41c) k'))
theorem f41K0_x0 {R : Type} (n : Nat) (k : List Dt → Option R) (a0 : List FailT) (vs0 : List FailT) (xvs4 : Int) (xvs11 : Bool) (xvr448 : List FailT) : f41K0 n (exitK f41e [.ro] [false] true [.tmp 2] [28] [.d (.sl .fail) a0] k) (.exit 0) ⟨[(0, .c (.one (.ro .fail vs0))), (3, .c (.one (.h 448 0 0 []))), (4, .c (.one (.v (.int .i64 xvs4)))), (11, .c (.one (.v (.bool xvs11))))], [], [(448, .live ⟨.fail, .deep, 0, [], xvr448⟩)]⟩ =
    (k [.d (.sl .fail) xvr448]) := by kernel_rfl

theorem f41_run {R : Type} (n : Nat) (k : List Dt → Option R) (a0 : List FailT) : evFn f41e f41k n f41c [.ro] [false] true [.tmp 2] [28] [.d (.sl .fail) a0] k =
    (cond ((decide ((a0.length : Int) = (a0.length : Int))) && ((decide ((0 : Int) ≤ (a0.length : Int))) && (decide ((a0.length : Int) ≤ (LIM : Int)))))
    (f41L0 n (fun (xvs4 : Int) (xvs11 : Bool) (xvr448 : List FailT) =>
      (k [.d (.sl .fail) xvr448])) a0 n (0 : Int) (List.replicate (Int.toNat (a0.length : Int)) (⟨ByteArray.empty, (0 : Int)⟩ : FailT)))
    none) := by
  refine Eq.trans (b := (cond ((decide ((a0.length : Int) = (a0.length : Int))) && ((decide ((0 : Int) ≤ (a0.length : Int))) && (decide ((a0.length : Int) ≤ (LIM : Int)))))
    (iter (fun st k => ev f41e f41k n (cAt [1,1,0,1,0,0] f41c) st k) n ⟨[(0, .c (.one (.ro .fail a0))), (3, .c (.one (.h 448 0 0 []))), (4, .c (.one (.v (.int .i64 (0 : Int)))))], [], [(448, .live ⟨.fail, .deep, 0, [], (List.replicate (Int.toNat (a0.length : Int)) (⟨ByteArray.empty, (0 : Int)⟩ : FailT))⟩)]⟩ (f41K0 n (exitK f41e [.ro] [false] true [.tmp 2] [28] [.d (.sl .fail) a0] k)))
    none)) (by kernel_rfl) ?_
  simp only [f41L0_eq, f41K0_x0]
theorem f41_spec (a0 : List FailT) (hg : smL sm_fail a0 = true) : ∃ keep rounds, ∀ {R : Type} (k : List Dt → Option R), evFn f41e keep rounds f41c [.ro] [false] true [.tmp 2] [28] [.d (.sl .fail) a0] k = k [.d (.sl .fail) a0] := by
  have hl : a0.length ≤ 1048576 := smL_len hg
  have hs := smL_all hg
  refine ⟨f41k, a0.length + 1, fun k => ?_⟩
  rw [f41_run, mkOk hl]
  simp only [cond_true]
  have := loop_copy (xs := a0) (f := fun x => x) (F := fun m j out => f41L0 (a0.length + 1) (fun (xvs4 : Int) (xvs11 : Bool) (xvr448 : List FailT) => (k [.d (.sl .fail) xvr448])) a0 m (j : Int) out) (good := fun out => k [.d (.sl .fail) out]) (⟨ByteArray.empty, (0 : Int)⟩ : FailT)
    (fun m j out x hx hl' => by
      obtain ⟨h1, h0, hw, ht⟩ := idx (lt_of_get hx) (by omega)
      obtain ⟨h2, _, _, _⟩ := idx (show j < out.length by rw [hl']; exact lt_of_get hx) (by omega)
      have hx2 := List.all_eq_true.1 hs x (List.mem_of_getElem? hx)
      simp only [f41L0, h1, h0, h2, hw, ht, atI_of (t := .fail) hx, Bool.and_self, cond_true, hx2])
    (fun m out => by simp only [f41L0, idxE, cond_false]) a0.length 0 (a0.length + 1) (by omega) (by omega)
  simpa using this

noncomputable def q41 : List Dt → Option (Bool × List Dt)
  | [.d (.sl .fail) a0] => some ((smL sm_fail a0), [.d (.sl .fail) a0])
  | _ => none
noncomputable def s41 : Gm.Spec := Gm.Spec.of [.ro] [false] true q41
theorem good41 : Gm.Good Try.prog (41, s41) := by
  have hl : ∀ x ∈ [(74, s74)], Gm.Good Try.prog x := List.forall_mem_cons.2 ⟨good74, List.forall_mem_nil _⟩
  refine ⟨⟨spec_ok (tab_ok.env hl) (tab.natl hl) Try.func41 (by kernel_rfl : Try.f41.body = some f41c) [28] (by kernel_rfl) ?_, _, Try.func41, by kernel_rfl, of_decide_eq_true (by kernel_rfl)⟩, Gm.Spec.of_natl _ _ _ _⟩
  intro ds outs h
  unfold q41 at h
  split at h
  · simp only [Option.some.injEq, Prod.mk.injEq] at h; obtain ⟨hg, h⟩ := h; cases h; exact f41_spec _ hg
  · cases h
/-! ### loop.example/g00465/laws.toWork -/
noncomputable def f13c : Code := (Try.f13.body).getD .skip
def f13k : Nat → Kp := kat [⟨[1, 2], [], [], []⟩, ⟨[1, 2, 3], [], [], []⟩, ⟨[1, 2, 3], [], [], []⟩, ⟨[1, 2, 3], [], [], []⟩, ⟨[1, 2, 3], [], [], []⟩, ⟨[2, 3], [], [], []⟩, ⟨[2], [], [], []⟩]
noncomputable def f13e : Env := tab.env [(40, s40), (41, s41)]
theorem f13_run {R : Type} (n : Nat) (k : List Dt → Option R) (a0 : WorkT) : evFn f13e f13k n f13c [.ro] [false] true [.cell 2 30] [30] [.d .work a0] k =
    (cond (smL smStr (WorkT.list a0))
    (cond (smL smStr (WorkT.busy a0))
      (cond (smL smStr (WorkT.again a0))
        (cond (smL sm_fail (WorkT.fails a0))
          (k [.d .work a0])
          none)
        none)
      none)
    none) := by kernel_rfl
theorem f13_spec (a0 : WorkT) (hg : sm_work a0 = true) : ∃ keep rounds, ∀ {R : Type} (k : List Dt → Option R), evFn f13e keep rounds f13c [.ro] [false] true [.cell 2 30] [30] [.d .work a0] k = k [.d .work a0] := by
  simp only [sm_work, Bool.and_eq_true] at hg
  refine ⟨f13k, 0, fun k => ?_⟩
  rw [f13_run]
  simp only [hg, cond_true]

noncomputable def q13 : List Dt → Option (Bool × List Dt)
  | [.d .work a0] => some ((sm_work a0), [.d .work a0])
  | _ => none
noncomputable def s13 : Gm.Spec := Gm.Spec.of [.ro] [false] true q13
theorem good13 : Gm.Good Try.prog (13, s13) := by
  have hl : ∀ x ∈ [(40, s40), (41, s41)], Gm.Good Try.prog x := List.forall_mem_cons.2 ⟨good40, List.forall_mem_cons.2 ⟨good41, List.forall_mem_nil _⟩⟩
  refine ⟨⟨spec_ok (tab_ok.env hl) (tab.natl hl) Try.func13 (by kernel_rfl : Try.f13.body = some f13c) [30] (by kernel_rfl) ?_, _, Try.func13, by kernel_rfl, of_decide_eq_true (by kernel_rfl)⟩, Gm.Spec.of_natl _ _ _ _⟩
  intro ds outs h
  unfold q13 at h
  split at h
  · simp only [Option.some.injEq, Prod.mk.injEq] at h; obtain ⟨hg, h⟩ := h; cases h; exact f13_spec _ hg
  · cases h
/-! ### loop.example/g00465/laws.eqStringS -/
noncomputable def f43c : Code := (Try.f43.body).getD .skip
def f43k : Nat → Kp := kat [⟨[0, 1], [], [], []⟩, ⟨[0, 1, 10], [], [], []⟩, ⟨[4], [], [], []⟩, ⟨[0, 1, 5], [], [], []⟩, ⟨[0, 1, 5, 14], [], [], []⟩, ⟨[0, 1, 5], [], [], []⟩, ⟨[0, 1, 5, 25], [], [], []⟩, ⟨[4], [], [], []⟩, ⟨[4], [], [], []⟩]
noncomputable def f43e : Env := tab.env []
noncomputable def f43L0 {R : Type} (n : Nat) (x0 : Option R) (x1 : Int → Bool → Option R) (vs0 : List ByteArray) (vs1 : List ByteArray) : Nat → Int → Option R
  | 0, _ => none
  | m + 1, vs5 =>
    (cond (decide (vs5 < (vs0.length : Int)))
      (cond ((decide ((0 : Int) ≤ vs5)) && (decide (vs5 < (vs0.length : Int))))
        (cond ((decide ((0 : Int) ≤ vs5)) && (decide (vs5 < (vs1.length : Int))))
          (cond (!(sEq (atI (t := .str) vs0 (Int.toNat vs5)) (atI (t := .str) vs1 (Int.toNat vs5))))
            (x0)
            (f43L0 n x0 x1 vs0 vs1 m (IntKind.wrap .i64 (vs5 + (1 : Int)))))
          none)
        none)
      (x1 vs5 (decide (vs5 < (vs0.length : Int)))))
theorem f43L0_b {R : Type} (n : Nat) (k' : Ex → St → Option R) (vs0 : List ByteArray) (vs1 : List ByteArray) (vs5 : Int) : ev f43e f43k n (cAt [1,1,0,1,0,0] f43c) ⟨[(0, .c (.one (.ro .str vs0))), (1, .c (.one (.ro .str vs1))), (5, .c (.one (.v (.int .i64 vs5))))], [], []⟩ k' =
    (cond (decide (vs5 < (vs0.length : Int)))
    (cond ((decide ((0 : Int) ≤ vs5)) && (decide (vs5 < (vs0.length : Int))))
      (cond ((decide ((0 : Int) ≤ vs5)) && (decide (vs5 < (vs1.length : Int))))
        (cond (!(sEq (atI (t := .str) vs0 (Int.toNat vs5)) (atI (t := .str) vs1 (Int.toNat vs5))))
          (k' .ret ⟨[(4, .c (.one (.v (.bool false))))], [], []⟩)
          (k' .normal ⟨[(0, .c (.one (.ro .str vs0))), (1, .c (.one (.ro .str vs1))), (5, .c (.one (.v (.int .i64 (IntKind.wrap .i64 (vs5 + (1 : Int)))))))], [], []⟩))
        none)
      none)
    (k' (.exit 0) ⟨[(0, .c (.one (.ro .str vs0))), (1, .c (.one (.ro .str vs1))), (5, .c (.one (.v (.int .i64 vs5)))), (14, .c (.one (.v (.bool (decide (vs5 < (vs0.length : Int)))))))], [], []⟩)) := by kernel_rfl
theorem f43L0_eq {R : Type} (n : Nat) (k' : Ex → St → Option R) (vs0 : List ByteArray) (vs1 : List ByteArray) : ∀ (m : Nat) (vs5 : Int), iter (fun st k => ev f43e f43k n (cAt [1,1,0,1,0,0] f43c) st k) m ⟨[(0, .c (.one (.ro .str vs0))), (1, .c (.one (.ro .str vs1))), (5, .c (.one (.v (.int .i64 vs5))))], [], []⟩ k' = f43L0 n (k' .ret ⟨[(4, .c (.one (.v (.bool false))))], [], []⟩) (fun (xvs5 : Int) (xvs14 : Bool) => k' (.exit 0) ⟨[(0, .c (.one (.ro .str vs0))), (1, .c (.one (.ro .str vs1))), (5, .c (.one (.v (.int .i64 xvs5)))), (14, .c (.one (.v (.bool xvs14))))], [], []⟩) vs0 vs1 m vs5 := by
  intro m; induction m with
  | zero => intros; rfl
  | succ m ih =>
    intro vs5
    simp only [iter]
    rw [f43L0_b]
    simp only [ih, f43L0]

noncomputable def f43K0 {R : Type} (n : Nat) (k' : Ex → St → Option R) : Ex → St → Option R := (blockK 0 (seqK f43e f43k n (cAt [1,1,1] f43c) k'))
theorem f43K0_x0 {R : Type} (n : Nat) (k : List Dt → Option R) (a0 : List ByteArray) (a1 : List ByteArray)  : f43K0 n (exitK f43e [.ro, .ro] [false] true [.tmp 4] [4] [.d (.sl .str) a0, .d (.sl .str) a1] k) .ret ⟨[(4, .c (.one (.v (.bool false))))], [], []⟩ =
    (k [.d .bool false]) := by kernel_rfl
theorem f43K0_x1 {R : Type} (n : Nat) (k : List Dt → Option R) (a0 : List ByteArray) (a1 : List ByteArray) (vs0 : List ByteArray) (vs1 : List ByteArray) (xvs5 : Int) (xvs14 : Bool) : f43K0 n (exitK f43e [.ro, .ro] [false] true [.tmp 4] [4] [.d (.sl .str) a0, .d (.sl .str) a1] k) (.exit 0) ⟨[(0, .c (.one (.ro .str vs0))), (1, .c (.one (.ro .str vs1))), (5, .c (.one (.v (.int .i64 xvs5)))), (14, .c (.one (.v (.bool xvs14))))], [], []⟩ =
    (k [.d .bool true]) := by kernel_rfl

theorem f43_run {R : Type} (n : Nat) (k : List Dt → Option R) (a0 : List ByteArray) (a1 : List ByteArray) : evFn f43e f43k n f43c [.ro, .ro] [false] true [.tmp 4] [4] [.d (.sl .str) a0, .d (.sl .str) a1] k =
    (cond ((a0.length : Int) != (a1.length : Int))
    (k [.d .bool false])
    (f43L0 n (k [.d .bool false]) (fun (xvs5 : Int) (xvs14 : Bool) =>
      (k [.d .bool true])) a0 a1 n (0 : Int))) := by
  refine Eq.trans (b := (cond ((a0.length : Int) != (a1.length : Int))
    (k [.d .bool false])
    (iter (fun st k => ev f43e f43k n (cAt [1,1,0,1,0,0] f43c) st k) n ⟨[(0, .c (.one (.ro .str a0))), (1, .c (.one (.ro .str a1))), (5, .c (.one (.v (.int .i64 (0 : Int)))))], [], []⟩ (f43K0 n (exitK f43e [.ro, .ro] [false] true [.tmp 4] [4] [.d (.sl .str) a0, .d (.sl .str) a1] k))))) (by kernel_rfl) ?_
  simp only [f43L0_eq, f43K0_x0, f43K0_x1]
theorem f43_spec (a0 : List ByteArray) (a1 : List ByteArray) (hg : sm2 (smL smStr) a0 a1 = true) : ∃ keep rounds, ∀ {R : Type} (k : List Dt → Option R), evFn f43e keep rounds f43c [.ro, .ro] [false] true [.tmp 4] [4] [.d (.sl .str) a0, .d (.sl .str) a1] k = k [.d .bool (eqD a0 a1)] := by
  simp only [sm2, Bool.and_eq_true] at hg
  obtain ⟨hg0, hg1⟩ := hg
  have hl : a0.length ≤ 1048576 := smL_len hg0
  refine ⟨f43k, a0.length + 1, fun k => ?_⟩
  rw [f43_run]
  by_cases hc : a0.length = a1.length
  · have hc' : ((a0.length : Int) != (a1.length : Int)) = false := by simp [hc]
    simp only [hc', cond_false]
    refine Eq.trans (loop_idx (n := a0.length) (F := fun m i => f43L0 (a0.length + 1) _ _ a0 a1 m i) (p := fun j => sEq (atI (t := .str) a0 j) (atI (t := .str) a1 j)) (good := k [.d .bool true]) (bad := k [.d .bool false])
      (fun m j hj => ?_) (fun m => by simp only [f43L0, idxE, cond_false]) a0.length 0 (a0.length + 1) (by omega) (by omega)) ?_
    · obtain ⟨h1, h0, hw, ht⟩ := idx hj (by omega)
      obtain ⟨h2, _, _, _⟩ := idx (show j < a1.length by omega) (by omega)
      simp only [f43L0, h1, h0, h2, hw, ht, Bool.and_self, cond_true]
      cases sEq (atI (t := .str) a0 j) (atI (t := .str) a1 j) <;> rfl
    · rw [allN_eq hc (fun j x y hx hy => by rw [atI_of (t := .str) hx, atI_of (t := .str) hy, ← eqD_str])]
      cases eqD a0 a1 <;> rfl
  · simp only [bneLen hc, cond_true]
    rw [eqD_ne (fun e => hc (by rw [e]))]

noncomputable def q43 : List Dt → Option (Bool × List Dt)
  | [.d (.sl .str) a0, .d (.sl .str) a1] => some ((sm2 (smL smStr) a0 a1), [.d .bool (eqD a0 a1)])
  | _ => none
noncomputable def s43 : Gm.Spec := Gm.Spec.of [.ro, .ro] [false] true q43
theorem good43 : Gm.Good Try.prog (43, s43) := by
  have hl : ∀ x ∈ ([] : List (Nat × Gm.Spec)), Gm.Good Try.prog x := fun _ h => by cases h
  refine ⟨⟨spec_ok (tab_ok.env hl) (tab.natl hl) Try.func43 (by kernel_rfl : Try.f43.body = some f43c) [4] (by kernel_rfl) ?_, _, Try.func43, by kernel_rfl, of_decide_eq_true (by kernel_rfl)⟩, Gm.Spec.of_natl _ _ _ _⟩
  intro ds outs h
  unfold q43 at h
  split at h
  · simp only [Option.some.injEq, Prod.mk.injEq] at h; obtain ⟨hg, h⟩ := h; cases h; exact f43_spec _ _ hg
  · cases h
/-! ### loop.example/g00465/laws.eqFail -/
noncomputable def f77c : Code := (Try.f77.body).getD .skip
def f77k : Nat → Kp := kat [⟨[2, 3], [], [], []⟩, ⟨[2, 3, 9], [], [], []⟩, ⟨[4], [], [], []⟩, ⟨[14], [], [], []⟩, ⟨[4], [], [], []⟩, ⟨[4], [], [], []⟩]
noncomputable def f77e : Env := tab.env []
theorem f77_run {R : Type} (n : Nat) (k : List Dt → Option R) (a0 : FailT) (a1 : FailT) : evFn f77e f77k n f77c [.ro, .ro] [false] true [.tmp 4] [4] [.d .fail a0, .d .fail a1] k =
    (cond (!(sEq (FailT.name a0) (FailT.name a1)))
    (k [.d .bool false])
    (cond ((FailT.n a0) != (FailT.n a1))
      (k [.d .bool false])
      (k [.d .bool true]))) := by kernel_rfl
theorem f77_spec (a0 : FailT) (a1 : FailT) (hg : sm2 sm_fail a0 a1 = true) : ∃ keep rounds, ∀ {R : Type} (k : List Dt → Option R), evFn f77e keep rounds f77c [.ro, .ro] [false] true [.tmp 4] [4] [.d .fail a0, .d .fail a1] k = k [.d .bool (eqD a0 a1)] := by
  simp only [sm2, sm_fail, Bool.and_eq_true] at hg
  refine ⟨f77k, 0, fun k => ?_⟩
  rw [f77_run, eqD_fail]
  try simp only [bne]
  cases sEq a0.name a1.name <;> cases (a0.n == a1.n) <;> rfl

noncomputable def q77 : List Dt → Option (Bool × List Dt)
  | [.d .fail a0, .d .fail a1] => some ((sm2 sm_fail a0 a1), [.d .bool (eqD a0 a1)])
  | _ => none
noncomputable def s77 : Gm.Spec := Gm.Spec.of [.ro, .ro] [false] true q77
theorem good77 : Gm.Good Try.prog (77, s77) := by
  have hl : ∀ x ∈ ([] : List (Nat × Gm.Spec)), Gm.Good Try.prog x := fun _ h => by cases h
  refine ⟨⟨spec_ok (tab_ok.env hl) (tab.natl hl) Try.func77 (by kernel_rfl : Try.f77.body = some f77c) [4] (by kernel_rfl) ?_, _, Try.func77, by kernel_rfl, of_decide_eq_true (by kernel_rfl)⟩, Gm.Spec.of_natl _ _ _ _⟩
  intro ds outs h
  unfold q77 at h
  split at h
  · simp only [Option.some.injEq, Prod.mk.injEq] at h; obtain ⟨hg, h⟩ := h; cases h; exact f77_spec _ _ hg
  · cases h
/-! ### loop.example/g00465/laws.eqFailS -/
noncomputable def f44c : Code := (Try.f44.body).getD .skip
def f44k : Nat → Kp := kat [⟨[0, 1], [], [], []⟩, ⟨[0, 1, 10], [], [], []⟩, ⟨[4], [], [], []⟩, ⟨[0, 1, 5], [], [], []⟩, ⟨[0, 1, 5, 14], [], [], []⟩, ⟨[0, 1, 5], [], [], []⟩, ⟨[0, 1, 5, 26], [], [], []⟩, ⟨[4], [], [], []⟩, ⟨[4], [], [], []⟩]
noncomputable def f44e : Env := tab.env [(77, s77)]
noncomputable def f44L0 {R : Type} (n : Nat) (x0 : Option R) (x1 : Int → Bool → Option R) (vs0 : List FailT) (vs1 : List FailT) : Nat → Int → Option R
  | 0, _ => none
  | m + 1, vs5 =>
    (cond (decide (vs5 < (vs0.length : Int)))
      (cond ((decide ((0 : Int) ≤ vs5)) && (decide (vs5 < (vs0.length : Int))))
        (cond ((decide ((0 : Int) ≤ vs5)) && (decide (vs5 < (vs1.length : Int))))
          (cond (sm2 sm_fail (atI (t := .fail) vs0 (Int.toNat vs5)) (atI (t := .fail) vs1 (Int.toNat vs5)))
            (cond (!(eqD (atI (t := .fail) vs0 (Int.toNat vs5)) (atI (t := .fail) vs1 (Int.toNat vs5))))
              (x0)
              (f44L0 n x0 x1 vs0 vs1 m (IntKind.wrap .i64 (vs5 + (1 : Int)))))
            none)
          none)
        none)
      (x1 vs5 (decide (vs5 < (vs0.length : Int)))))
theorem f44L0_b {R : Type} (n : Nat) (k' : Ex → St → Option R) (vs0 : List FailT) (vs1 : List FailT) (vs5 : Int) : ev f44e f44k n (cAt [1,1,0,1,0,0] f44c) ⟨[(0, .c (.one (.ro .fail vs0))), (1, .c (.one (.ro .fail vs1))), (5, .c (.one (.v (.int .i64 vs5))))], [], []⟩ k' =
    (cond (decide (vs5 < (vs0.length : Int)))
    (cond ((decide ((0 : Int) ≤ vs5)) && (decide (vs5 < (vs0.length : Int))))
      (cond ((decide ((0 : Int) ≤ vs5)) && (decide (vs5 < (vs1.length : Int))))
        (cond (sm2 sm_fail (atI (t := .fail) vs0 (Int.toNat vs5)) (atI (t := .fail) vs1 (Int.toNat vs5)))
          (cond (!(eqD (atI (t := .fail) vs0 (Int.toNat vs5)) (atI (t := .fail) vs1 (Int.toNat vs5))))
            (k' .ret ⟨[(4, .c (.one (.v (.bool false))))], [], []⟩)
            (k' .normal ⟨[(0, .c (.one (.ro .fail vs0))), (1, .c (.one (.ro .fail vs1))), (5, .c (.one (.v (.int .i64 (IntKind.wrap .i64 (vs5 + (1 : Int)))))))], [], []⟩))
          none)
        none)
      none)
    (k' (.exit 0) ⟨[(0, .c (.one (.ro .fail vs0))), (1, .c (.one (.ro .fail vs1))), (5, .c (.one (.v (.int .i64 vs5)))), (14, .c (.one (.v (.bool (decide (vs5 < (vs0.length : Int)))))))], [], []⟩)) := by kernel_rfl
theorem f44L0_eq {R : Type} (n : Nat) (k' : Ex → St → Option R) (vs0 : List FailT) (vs1 : List FailT) : ∀ (m : Nat) (vs5 : Int), iter (fun st k => ev f44e f44k n (cAt [1,1,0,1,0,0] f44c) st k) m ⟨[(0, .c (.one (.ro .fail vs0))), (1, .c (.one (.ro .fail vs1))), (5, .c (.one (.v (.int .i64 vs5))))], [], []⟩ k' = f44L0 n (k' .ret ⟨[(4, .c (.one (.v (.bool false))))], [], []⟩) (fun (xvs5 : Int) (xvs14 : Bool) => k' (.exit 0) ⟨[(0, .c (.one (.ro .fail vs0))), (1, .c (.one (.ro .fail vs1))), (5, .c (.one (.v (.int .i64 xvs5)))), (14, .c (.one (.v (.bool xvs14))))], [], []⟩) vs0 vs1 m vs5 := by
  intro m; induction m with
  | zero => intros; rfl
  | succ m ih =>
    intro vs5
    simp only [iter]
    rw [f44L0_b]
    simp only [ih, f44L0]

noncomputable def f44K0 {R : Type} (n : Nat) (k' : Ex → St → Option R) : Ex → St → Option R := (blockK 0 (seqK f44e f44k n (cAt [1,1,1] f44c) k'))
theorem f44K0_x0 {R : Type} (n : Nat) (k : List Dt → Option R) (a0 : List FailT) (a1 : List FailT)  : f44K0 n (exitK f44e [.ro, .ro] [false] true [.tmp 4] [4] [.d (.sl .fail) a0, .d (.sl .fail) a1] k) .ret ⟨[(4, .c (.one (.v (.bool false))))], [], []⟩ =
    (k [.d .bool false]) := by kernel_rfl
theorem f44K0_x1 {R : Type} (n : Nat) (k : List Dt → Option R) (a0 : List FailT) (a1 : List FailT) (vs0 : List FailT) (vs1 : List FailT) (xvs5 : Int) (xvs14 : Bool) : f44K0 n (exitK f44e [.ro, .ro] [false] true [.tmp 4] [4] [.d (.sl .fail) a0, .d (.sl .fail) a1] k) (.exit 0) ⟨[(0, .c (.one (.ro .fail vs0))), (1, .c (.one (.ro .fail vs1))), (5, .c (.one (.v (.int .i64 xvs5)))), (14, .c (.one (.v (.bool xvs14))))], [], []⟩ =
    (k [.d .bool true]) := by kernel_rfl

theorem f44_run {R : Type} (n : Nat) (k : List Dt → Option R) (a0 : List FailT) (a1 : List FailT) : evFn f44e f44k n f44c [.ro, .ro] [false] true [.tmp 4] [4] [.d (.sl .fail) a0, .d (.sl .fail) a1] k =
    (cond ((a0.length : Int) != (a1.length : Int))
    (k [.d .bool false])
    (f44L0 n (k [.d .bool false]) (fun (xvs5 : Int) (xvs14 : Bool) =>
      (k [.d .bool true])) a0 a1 n (0 : Int))) := by
  refine Eq.trans (b := (cond ((a0.length : Int) != (a1.length : Int))
    (k [.d .bool false])
    (iter (fun st k => ev f44e f44k n (cAt [1,1,0,1,0,0] f44c) st k) n ⟨[(0, .c (.one (.ro .fail a0))), (1, .c (.one (.ro .fail a1))), (5, .c (.one (.v (.int .i64 (0 : Int)))))], [], []⟩ (f44K0 n (exitK f44e [.ro, .ro] [false] true [.tmp 4] [4] [.d (.sl .fail) a0, .d (.sl .fail) a1] k))))) (by kernel_rfl) ?_
  simp only [f44L0_eq, f44K0_x0, f44K0_x1]
theorem f44_spec (a0 : List FailT) (a1 : List FailT) (hg : sm2 (smL sm_fail) a0 a1 = true) : ∃ keep rounds, ∀ {R : Type} (k : List Dt → Option R), evFn f44e keep rounds f44c [.ro, .ro] [false] true [.tmp 4] [4] [.d (.sl .fail) a0, .d (.sl .fail) a1] k = k [.d .bool (eqD a0 a1)] := by
  simp only [sm2, Bool.and_eq_true] at hg
  obtain ⟨hg0, hg1⟩ := hg
  have hl : a0.length ≤ 1048576 := smL_len hg0
  refine ⟨f44k, a0.length + 1, fun k => ?_⟩
  rw [f44_run]
  by_cases hc : a0.length = a1.length
  · have hc' : ((a0.length : Int) != (a1.length : Int)) = false := by simp [hc]
    simp only [hc', cond_false]
    refine Eq.trans (loop_idx (n := a0.length) (F := fun m i => f44L0 (a0.length + 1) _ _ a0 a1 m i) (p := fun j => eqD (atI (t := .fail) a0 j) (atI (t := .fail) a1 j)) (good := k [.d .bool true]) (bad := k [.d .bool false])
      (fun m j hj => ?_) (fun m => by simp only [f44L0, idxE, cond_false]) a0.length 0 (a0.length + 1) (by omega) (by omega)) ?_
    · obtain ⟨h1, h0, hw, ht⟩ := idx hj (by omega)
      obtain ⟨h2, _, _, _⟩ := idx (show j < a1.length by omega) (by omega)
      have ha := smL_at (t := .fail) hg0 hj
      have hb := smL_at (t := .fail) hg1 (show j < a1.length by omega)
      simp only [f44L0, h1, h0, h2, hw, ht, Bool.and_self, cond_true, sm2, ha, hb]
      cases eqD (atI (t := .fail) a0 j) (atI (t := .fail) a1 j) <;> rfl
    · rw [allN_eq hc (fun j x y hx hy => by rw [atI_of (t := .fail) hx, atI_of (t := .fail) hy])]
      cases eqD a0 a1 <;> rfl
  · simp only [bneLen hc, cond_true]
    rw [eqD_ne (fun e => hc (by rw [e]))]

noncomputable def q44 : List Dt → Option (Bool × List Dt)
  | [.d (.sl .fail) a0, .d (.sl .fail) a1] => some ((sm2 (smL sm_fail) a0 a1), [.d .bool (eqD a0 a1)])
  | _ => none
noncomputable def s44 : Gm.Spec := Gm.Spec.of [.ro, .ro] [false] true q44
theorem good44 : Gm.Good Try.prog (44, s44) := by
  have hl : ∀ x ∈ [(77, s77)], Gm.Good Try.prog x := List.forall_mem_cons.2 ⟨good77, List.forall_mem_nil _⟩
  refine ⟨⟨spec_ok (tab_ok.env hl) (tab.natl hl) Try.func44 (by kernel_rfl : Try.f44.body = some f44c) [4] (by kernel_rfl) ?_, _, Try.func44, by kernel_rfl, of_decide_eq_true (by kernel_rfl)⟩, Gm.Spec.of_natl _ _ _ _⟩
  intro ds outs h
  unfold q44 at h
  split at h
  · simp only [Option.some.injEq, Prod.mk.injEq] at h; obtain ⟨hg, h⟩ := h; cases h; exact f44_spec _ _ hg
  · cases h
/-! ### loop.example/g00465/laws.eqWork -/
noncomputable def f15c : Code := (Try.f15.body).getD .skip
def f15k : Nat → Kp := kat [⟨[2, 3], [], [], []⟩, ⟨[2, 3, 10], [], [], []⟩, ⟨[4], [], [], []⟩, ⟨[2, 3, 16], [], [], []⟩, ⟨[4], [], [], []⟩, ⟨[2, 3, 22], [], [], []⟩, ⟨[4], [], [], []⟩, ⟨[28], [], [], []⟩, ⟨[4], [], [], []⟩, ⟨[4], [], [], []⟩]
noncomputable def f15e : Env := tab.env [(43, s43), (44, s44)]
theorem f15_run {R : Type} (n : Nat) (k : List Dt → Option R) (a0 : WorkT) (a1 : WorkT) : evFn f15e f15k n f15c [.ro, .ro] [false] true [.tmp 4] [4] [.d .work a0, .d .work a1] k =
    (cond (sm2 (smL smStr) (WorkT.list a0) (WorkT.list a1))
    (cond (!(eqD (WorkT.list a0) (WorkT.list a1)))
      (k [.d .bool false])
      (cond (sm2 (smL smStr) (WorkT.busy a0) (WorkT.busy a1))
        (cond (!(eqD (WorkT.busy a0) (WorkT.busy a1)))
          (k [.d .bool false])
          (cond (sm2 (smL smStr) (WorkT.again a0) (WorkT.again a1))
            (cond (!(eqD (WorkT.again a0) (WorkT.again a1)))
              (k [.d .bool false])
              (cond (sm2 (smL sm_fail) (WorkT.fails a0) (WorkT.fails a1))
                (cond (!(eqD (WorkT.fails a0) (WorkT.fails a1)))
                  (k [.d .bool false])
                  (k [.d .bool true]))
                none))
            none))
        none))
    none) := by kernel_rfl
theorem f15_spec (a0 : WorkT) (a1 : WorkT) (hg : sm2 sm_work a0 a1 = true) : ∃ keep rounds, ∀ {R : Type} (k : List Dt → Option R), evFn f15e keep rounds f15c [.ro, .ro] [false] true [.tmp 4] [4] [.d .work a0, .d .work a1] k = k [.d .bool (eqD a0 a1)] := by
  simp only [sm2, sm_work, Bool.and_eq_true] at hg
  refine ⟨f15k, 0, fun k => ?_⟩
  rw [f15_run, eqD_work]
  simp only [bne, sm2, hg, Bool.and_self, Bool.true_and, cond_true]
  cases eqD a0.list a1.list <;> cases eqD a0.busy a1.busy <;> cases eqD a0.again a1.again <;> cases eqD a0.fails a1.fails <;> rfl

noncomputable def q15 : List Dt → Option (Bool × List Dt)
  | [.d .work a0, .d .work a1] => some ((sm2 sm_work a0 a1), [.d .bool (eqD a0 a1)])
  | _ => none
noncomputable def s15 : Gm.Spec := Gm.Spec.of [.ro, .ro] [false] true q15
theorem good15 : Gm.Good Try.prog (15, s15) := by
  have hl : ∀ x ∈ [(43, s43), (44, s44)], Gm.Good Try.prog x := List.forall_mem_cons.2 ⟨good43, List.forall_mem_cons.2 ⟨good44, List.forall_mem_nil _⟩⟩
  refine ⟨⟨spec_ok (tab_ok.env hl) (tab.natl hl) Try.func15 (by kernel_rfl : Try.f15.body = some f15c) [4] (by kernel_rfl) ?_, _, Try.func15, by kernel_rfl, of_decide_eq_true (by kernel_rfl)⟩, Gm.Spec.of_natl _ _ _ _⟩
  intro ds outs h
  unfold q15 at h
  split at h
  · simp only [Option.some.injEq, Prod.mk.injEq] at h; obtain ⟨hg, h⟩ := h; cases h; exact f15_spec _ _ hg
  · cases h
end Go.Proofs.Ytmeeoilfnahihaa

/- x -/
namespace Go.Proofs.Ytmeeoilfnahihaa
open Go Go.Gm
/-! ### loop.example/g00465/laws.markText -/
noncomputable def f85c : Code := (Try.f85.body).getD .skip
def f85k : Nat → Kp := kat [⟨[0], [], [], []⟩, ⟨[0, 5], [], [], []⟩, ⟨[2], [], [], []⟩, ⟨[0, 3], [], [], []⟩, ⟨[0, 3, 7], [], [], []⟩, ⟨[0, 3], [], [], []⟩, ⟨[0, 3], [], [], []⟩, ⟨[2], [], [], []⟩]
noncomputable def f85e : Env := tab.env []
noncomputable def f85L0 {R : Type} (n : Nat) (x0 : Int → ByteArray → Bool → Option R)  : Nat → Int → ByteArray → Option R
  | 0, _, _ => none
  | m + 1, vs0, vs3 =>
    (cond (decide (vs0 > (0 : Int)))
      (cond (decide (ByteArray.size (bytesOf ([(IntKind.wrap .u8 (IntKind.wrap .i64 ((48 : Int) + (Int.tmod vs0 (10 : Int)))))] : List Int)) + ByteArray.size vs3 ≤ 9223372036854775807))
        (f85L0 n x0 m (IntKind.wrap .i64 (Int.tdiv vs0 (10 : Int))) ((bytesOf ([(IntKind.wrap .u8 (IntKind.wrap .i64 ((48 : Int) + (Int.tmod vs0 (10 : Int)))))] : List Int)) ++ vs3))
        none)
      (x0 vs0 vs3 (decide (vs0 > (0 : Int)))))
theorem f85L0_b {R : Type} (n : Nat) (k' : Ex → St → Option R) (vs0 : Int) (vs3 : ByteArray) : ev f85e f85k n (cAt [1,1,1,0,0,0] f85c) ⟨[(0, .c (.one (.v (.int .i64 vs0)))), (3, .c (.one (.v (.string vs3))))], [], []⟩ k' =
    (cond (decide (vs0 > (0 : Int)))
    (cond (decide (ByteArray.size (bytesOf ([(IntKind.wrap .u8 (IntKind.wrap .i64 ((48 : Int) + (Int.tmod vs0 (10 : Int)))))] : List Int)) + ByteArray.size vs3 ≤ 9223372036854775807))
      (k' .normal ⟨[(0, .c (.one (.v (.int .i64 (IntKind.wrap .i64 (Int.tdiv vs0 (10 : Int))))))), (3, .c (.one (.v (.string ((bytesOf ([(IntKind.wrap .u8 (IntKind.wrap .i64 ((48 : Int) + (Int.tmod vs0 (10 : Int)))))] : List Int)) ++ vs3)))))], [], []⟩)
      none)
    (k' (.exit 0) ⟨[(0, .c (.one (.v (.int .i64 vs0)))), (3, .c (.one (.v (.string vs3)))), (7, .c (.one (.v (.bool (decide (vs0 > (0 : Int)))))))], [], []⟩)) := by kernel_rfl
theorem f85L0_eq {R : Type} (n : Nat) (k' : Ex → St → Option R)  : ∀ (m : Nat) (vs0 : Int) (vs3 : ByteArray), iter (fun st k => ev f85e f85k n (cAt [1,1,1,0,0,0] f85c) st k) m ⟨[(0, .c (.one (.v (.int .i64 vs0)))), (3, .c (.one (.v (.string vs3))))], [], []⟩ k' = f85L0 n (fun (xvs0 : Int) (xvs3 : ByteArray) (xvs7 : Bool) => k' (.exit 0) ⟨[(0, .c (.one (.v (.int .i64 xvs0)))), (3, .c (.one (.v (.string xvs3)))), (7, .c (.one (.v (.bool xvs7))))], [], []⟩) m vs0 vs3 := by
  intro m; induction m with
  | zero => intros; rfl
  | succ m ih =>
    intro vs0 vs3
    simp only [iter]
    rw [f85L0_b]
    simp only [ih, f85L0]

noncomputable def f85K0 {R : Type} (n : Nat) (k' : Ex → St → Option R) : Ex → St → Option R := (blockK 0 (seqK f85e f85k n (cAt [1,1,1,1] f85c) k'))
theorem f85K0_x0 {R : Type} (n : Nat) (k : List Dt → Option R) (a0 : Int) (xvs0 : Int) (xvs3 : ByteArray) (xvs7 : Bool) : f85K0 n (exitK f85e [.ro] [false] true [.tmp 2] [9] [.d (.i .i64) a0] k) (.exit 0) ⟨[(0, .c (.one (.v (.int .i64 xvs0)))), (3, .c (.one (.v (.string xvs3)))), (7, .c (.one (.v (.bool xvs7))))], [], []⟩ =
    (cond (decide (ByteArray.size (bs [109]) + ByteArray.size xvs3 ≤ 9223372036854775807))
    (k [.d .str ((bs [109]) ++ xvs3)])
    none) := by kernel_rfl

theorem f85_run {R : Type} (n : Nat) (k : List Dt → Option R) (a0 : Int) : evFn f85e f85k n f85c [.ro] [false] true [.tmp 2] [9] [.d (.i .i64) a0] k =
    (cond (decide (a0 ≤ (0 : Int)))
    (k [.d .str (bs [109,48])])
    (f85L0 n (fun (xvs0 : Int) (xvs3 : ByteArray) (xvs7 : Bool) =>
      (cond (decide (ByteArray.size (bs [109]) + ByteArray.size xvs3 ≤ 9223372036854775807))
        (k [.d .str ((bs [109]) ++ xvs3)])
        none)) n a0 ByteArray.empty)) := by
  refine Eq.trans (b := (cond (decide (a0 ≤ (0 : Int)))
    (k [.d .str (bs [109,48])])
    (iter (fun st k => ev f85e f85k n (cAt [1,1,1,0,0,0] f85c) st k) n ⟨[(0, .c (.one (.v (.int .i64 a0)))), (3, .c (.one (.v (.string ByteArray.empty))))], [], []⟩ (f85K0 n (exitK f85e [.ro] [false] true [.tmp 2] [9] [.d (.i .i64) a0] k))))) (by kernel_rfl) ?_
  simp only [f85L0_eq, f85K0_x0]
theorem f85_spec (a0 : Int) (hg : okI a0 = true) : ∃ keep rounds, ∀ {R : Type} (k : List Dt → Option R), evFn f85e keep rounds f85c [.ro] [false] true [.tmp 2] [9] [.d (.i .i64) a0] k = k [.d .str (mkT a0)] := by
  rw [okI_iff] at hg
  refine ⟨f85k, 25, fun {R} k => ?_⟩
  rw [f85_run]
  show _ = k [.d .str (mkT a0)]
  unfold mkT
  by_cases hz : a0 ≤ 0
  · simp only [hz, decide_true, cond_true]
  simp only [hz, decide_false, cond_false]
  have key : ∀ (d m : Nat) (n : Int) (out : ByteArray), 0 ≤ n → n.natAbs < 10 ^ d → d ≤ 20 → d < m → n ≤ 9223372036854775807 → out.size + d ≤ 100 → ∀ X : Int → ByteArray → Bool → Option R, f85L0 25 X m n out = X 0 (digR n.natAbs out) false := by
    intro d
    induction d with
    | zero =>
      intro m n out h0 hn hd hm hw hs X
      obtain ⟨m, rfl⟩ : ∃ m', m = m' + 1 := ⟨m - 1, by omega⟩
      have : n = 0 := by omega
      subst this
      simp only [f85L0]
      rfl
    | succ d ih =>
      intro m n out h0 hn hd hm hw hs X
      obtain ⟨m, rfl⟩ : ∃ m', m = m' + 1 := ⟨m - 1, by omega⟩
      by_cases hn0 : n = 0
      · subst hn0
        simp only [f85L0]
        rfl
      have h0' : decide (n > (0 : Int)) = true := decide_eq_true (by omega)
      have hn2 : n.natAbs / 10 < 10 ^ d := by rw [Nat.pow_succ] at hn; omega
      have hb := byte_dig (n.natAbs % 10) (by omega)
      have hsz : ByteArray.size ⟨#[UInt8.ofNat (48 + n.natAbs % 10)]⟩ = 1 := rfl
      simp only [f85L0, h0', cond_true]
      have t1 : IntKind.wrap .i64 (Int.tdiv n 10) = ((n.natAbs / 10 : Nat) : Int) := by rw [tdiv_pos (by omega)]; exact wrap_id (by omega) (by omega)
      have t2 : Int.tmod n 10 = ((n.natAbs % 10 : Nat) : Int) := tmod_pos (by omega)
      rw [t1, t2, hb]
      have fin := ih m (((n.natAbs / 10 : Nat) : Int)) (⟨#[UInt8.ofNat (48 + n.natAbs % 10)]⟩ ++ out) (by omega) (by omega) (by omega) (by omega) (by omega) (by rw [ByteArray.size_append]; omega) X
      rw [show (((n.natAbs / 10 : Nat) : Int)).natAbs = n.natAbs / 10 by omega, digR_step (by omega)] at fin
      rw [← fin]
      have hle := app_le (a := ⟨#[UInt8.ofNat (48 + n.natAbs % 10)]⟩) (b := out) (by omega)
      simp only [cond_true, hle]
  refine Eq.trans (key 20 25 a0 ByteArray.empty (by omega) (by have : (10 : Nat) ^ 20 = 100000000000000000000 := rfl; omega) (by omega) (by omega) (by omega) (by show 0 + 20 ≤ 100; omega) _) ?_
  have e : digR a0.natAbs ByteArray.empty = ⟨(natDig a0.natAbs).toArray⟩ := by
    unfold digR; rw [if_neg (by omega)]; apply ba_ext; simp
  have hs := digS_size (n := a0) (okI_iff.2 hg)
  have ed : digS a0 = ⟨(natDig a0.natAbs).toArray⟩ := by
    unfold digS; rw [if_neg (by omega)]; simp
  rw [e, ← ed, app_le (by rw [bs_size, List.length_cons, List.length_nil]; omega)]
  rfl

noncomputable def q85 : List Dt → Option (Bool × List Dt)
  | [.d (.i .i64) a0] => some ((okI a0), [.d .str (mkT a0)])
  | _ => none
noncomputable def s85 : Gm.Spec := Gm.Spec.of [.ro] [false] true q85
theorem good85 : Gm.Good Try.prog (85, s85) := by
  have hl : ∀ x ∈ ([] : List (Nat × Gm.Spec)), Gm.Good Try.prog x := fun _ h => by cases h
  refine ⟨⟨spec_ok (tab_ok.env hl) (tab.natl hl) Try.func85 (by kernel_rfl : Try.f85.body = some f85c) [9] (by kernel_rfl) ?_, _, Try.func85, by kernel_rfl, of_decide_eq_true (by kernel_rfl)⟩, Gm.Spec.of_natl _ _ _ _⟩
  intro ds outs h
  unfold q85 at h
  split at h
  · simp only [Option.some.injEq, Prod.mk.injEq] at h; obtain ⟨hg, h⟩ := h; cases h; exact f85_spec _ hg
  · cases h
/-! ### loop.example/g00465/laws.markStringS -/
noncomputable def f60c : Code := (Try.f60.body).getD .skip
def f60k : Nat → Kp := kat [⟨[0, 1], [], [], []⟩, ⟨[0, 1, 5], [], [], []⟩, ⟨[0, 1, 5, 9], [], [], []⟩, ⟨[0, 1, 5], [], [], []⟩, ⟨[0, 1, 5], [], [], []⟩, ⟨[0, 1, 5], [], [], []⟩, ⟨[0, 4], [], [], []⟩]
noncomputable def f60e : Env := tab.env [(85, s85)]
noncomputable def f60L0 {R : Type} (n : Nat) (x0 : Int → Int → Bool → (List ByteArray) → Option R)  : Nat → Int → Int → (List ByteArray) → Option R
  | 0, _, _, _ => none
  | m + 1, vs1, vs5, vr0 =>
    (cond (decide (vs5 < (vr0.length : Int)))
      (cond (okI vs1)
        (cond ((decide ((0 : Int) ≤ vs5)) && (decide (vs5 < (vr0.length : Int))))
          (f60L0 n x0 m (IntKind.wrap .i64 (vs1 + (1 : Int))) (IntKind.wrap .i64 (vs5 + (1 : Int))) (vr0.set (Int.toNat vs5) (mkT vs1)))
          none)
        none)
      (x0 vs1 vs5 (decide (vs5 < (vr0.length : Int))) vr0))
theorem f60L0_b {R : Type} (n : Nat) (k' : Ex → St → Option R) (vs1 : Int) (vs5 : Int) (vr0 : List ByteArray) : ev f60e f60k n (cAt [1,0,1,0,0] f60c) ⟨[(0, .c (.one (.h 0 0 0 []))), (1, .c (.one (.v (.int .i64 vs1)))), (5, .c (.one (.v (.int .i64 vs5))))], [], [(0, .live ⟨.str, .deep, 0, [], vr0⟩)]⟩ k' =
    (cond (decide (vs5 < (vr0.length : Int)))
    (cond (okI vs1)
      (cond ((decide ((0 : Int) ≤ vs5)) && (decide (vs5 < (vr0.length : Int))))
        (k' .normal ⟨[(0, .c (.one (.h 0 0 0 []))), (1, .c (.one (.v (.int .i64 (IntKind.wrap .i64 (vs1 + (1 : Int))))))), (5, .c (.one (.v (.int .i64 (IntKind.wrap .i64 (vs5 + (1 : Int)))))))], [], [(0, .live ⟨.str, .deep, 0, [], (vr0.set (Int.toNat vs5) (mkT vs1))⟩)]⟩)
        none)
      none)
    (k' (.exit 0) ⟨[(0, .c (.one (.h 0 0 0 []))), (1, .c (.one (.v (.int .i64 vs1)))), (5, .c (.one (.v (.int .i64 vs5)))), (9, .c (.one (.v (.bool (decide (vs5 < (vr0.length : Int)))))))], [], [(0, .live ⟨.str, .deep, 0, [], vr0⟩)]⟩)) := by kernel_rfl
theorem f60L0_eq {R : Type} (n : Nat) (k' : Ex → St → Option R)  : ∀ (m : Nat) (vs1 : Int) (vs5 : Int) (vr0 : List ByteArray), iter (fun st k => ev f60e f60k n (cAt [1,0,1,0,0] f60c) st k) m ⟨[(0, .c (.one (.h 0 0 0 []))), (1, .c (.one (.v (.int .i64 vs1)))), (5, .c (.one (.v (.int .i64 vs5))))], [], [(0, .live ⟨.str, .deep, 0, [], vr0⟩)]⟩ k' = f60L0 n (fun (xvs1 : Int) (xvs5 : Int) (xvs9 : Bool) (xvr0 : List ByteArray) => k' (.exit 0) ⟨[(0, .c (.one (.h 0 0 0 []))), (1, .c (.one (.v (.int .i64 xvs1)))), (5, .c (.one (.v (.int .i64 xvs5)))), (9, .c (.one (.v (.bool xvs9))))], [], [(0, .live ⟨.str, .deep, 0, [], xvr0⟩)]⟩) m vs1 vs5 vr0 := by
  intro m; induction m with
  | zero => intros; rfl
  | succ m ih =>
    intro vs1 vs5 vr0
    simp only [iter]
    rw [f60L0_b]
    simp only [ih, f60L0]

noncomputable def f60K0 {R : Type} (n : Nat) (k' : Ex → St → Option R) : Ex → St → Option R := (blockK 0 (seqK f60e f60k n (cAt [1,1] f60c) k'))
theorem f60K0_x0 {R : Type} (n : Nat) (k : List Dt → Option R) (a0 : List ByteArray) (a1 : Int) (xvs1 : Int) (xvs5 : Int) (xvs9 : Bool) (xvr0 : List ByteArray) : f60K0 n (exitK f60e [.«mut», .ro] [false] true [.tmp 4] [3] [.d (.sl .str) a0, .d (.i .i64) a1] k) (.exit 0) ⟨[(0, .c (.one (.h 0 0 0 []))), (1, .c (.one (.v (.int .i64 xvs1)))), (5, .c (.one (.v (.int .i64 xvs5)))), (9, .c (.one (.v (.bool xvs9))))], [], [(0, .live ⟨.str, .deep, 0, [], xvr0⟩)]⟩ =
    (k [.d (.i .i64) xvs1, .d (.sl .str) xvr0]) := by kernel_rfl

theorem f60_run {R : Type} (n : Nat) (k : List Dt → Option R) (a0 : List ByteArray) (a1 : Int) : evFn f60e f60k n f60c [.«mut», .ro] [false] true [.tmp 4] [3] [.d (.sl .str) a0, .d (.i .i64) a1] k =
    (f60L0 n (fun (xvs1 : Int) (xvs5 : Int) (xvs9 : Bool) (xvr0 : List ByteArray) =>
    (k [.d (.i .i64) xvs1, .d (.sl .str) xvr0])) n a1 (0 : Int) a0) := by
  refine Eq.trans (b := (iter (fun st k => ev f60e f60k n (cAt [1,0,1,0,0] f60c) st k) n ⟨[(0, .c (.one (.h 0 0 0 []))), (1, .c (.one (.v (.int .i64 a1)))), (5, .c (.one (.v (.int .i64 (0 : Int)))))], [], [(0, .live ⟨.str, .deep, 0, [], a0⟩)]⟩ (f60K0 n (exitK f60e [.«mut», .ro] [false] true [.tmp 4] [3] [.d (.sl .str) a0, .d (.i .i64) a1] k)))) (by kernel_rfl) ?_
  simp only [f60L0_eq, f60K0_x0]
theorem f60_spec (a0 : List ByteArray) (a1 : Int) (hg : gmk a1 (ctL ct_str a0) = true) : ∃ keep rounds, ∀ {R : Type} (k : List Dt → Option R), evFn f60e keep rounds f60c [.«mut», .ro] [false] true [.tmp 4] [3] [.d (.sl .str) a0, .d (.i .i64) a1] k = k [.d (.i .i64) (mkL mk_str a1 a0).2, .d (.sl .str) (mkL mk_str a1 a0).1] := by
  rw [gmk_iff] at hg
  have hl := ctL_len ct_str_pos a0
  refine ⟨f60k, a0.length + 1, fun {R} k => ?_⟩
  rw [f60_run]
  refine Eq.trans (loop_mark (F := fun m kk i l => f60L0 (a0.length + 1) _ m kk i l) (f := mk_str) (c := ct_str) (good := fun kk l => k [.d (.i .i64) kk, .d (.sl .str) l]) (n := a0.length) mk_str_ct
    (fun m kk j l x hx hln h0 hB => ?_) (fun m kk l hln => by simp only [f60L0, hln, idxE, cond_false]) a0 (a0.length + 1) a1 [] (by simp) (by omega) hg.1 hg.2) rfl
  obtain ⟨h1, h2, _, ht⟩ := idx (lt_of_get hx) (by omega)
  have hA : ∀ a, atI (t := .str) (l.set j a) j = a := fun a => atI_set (t := .str) (lt_of_get hx) a
  have hj := lt_of_get hx
  simp only [ct_str] at hB
  simp (disch := omega) only [f60L0, h1, h2, ht, hA, atI_of (t := .str) hx, List.set_set, List.length_set, wrap_id, gmk_of, okI_of, mk_str, Bool.and_self, cond_true]

noncomputable def q60 : List Dt → Option (Bool × List Dt)
  | [.d (.sl .str) a0, .d (.i .i64) a1] => some (((fun (x : List ByteArray) (k : Int) => gmk k (ctL ct_str x)) a0 a1), [.d (.i .i64) (mkL mk_str a1 a0).2, .d (.sl .str) (mkL mk_str a1 a0).1])
  | _ => none
noncomputable def s60 : Gm.Spec := Gm.Spec.of [.«mut», .ro] [false] true q60
theorem good60 : Gm.Good Try.prog (60, s60) := by
  have hl : ∀ x ∈ [(85, s85)], Gm.Good Try.prog x := List.forall_mem_cons.2 ⟨good85, List.forall_mem_nil _⟩
  refine ⟨⟨spec_ok (tab_ok.env hl) (tab.natl hl) Try.func60 (by kernel_rfl : Try.f60.body = some f60c) [3] (by kernel_rfl) ?_, _, Try.func60, by kernel_rfl, of_decide_eq_true (by kernel_rfl)⟩, Gm.Spec.of_natl _ _ _ _⟩
  intro ds outs h
  unfold q60 at h
  split at h
  · simp only [Option.some.injEq, Prod.mk.injEq] at h; obtain ⟨hg, h⟩ := h; cases h; exact f60_spec _ _ hg
  · cases h
/-! ### loop.example/g00465/laws.markFailS -/
noncomputable def f61c : Code := (Try.f61.body).getD .skip
def f61k : Nat → Kp := kat [⟨[0, 1], [], [], []⟩, ⟨[0, 1, 5], [], [], []⟩, ⟨[0, 1, 5, 9], [], [], []⟩, ⟨[0, 1, 5], [], [], []⟩, ⟨[0, 1, 5], [], [], []⟩, ⟨[0, 1, 5], [], [], []⟩, ⟨[0, 1, 5], [], [], []⟩, ⟨[0, 1, 5], [], [], []⟩, ⟨[0, 4], [], [], []⟩]
noncomputable def f61e : Env := tab.env [(85, s85)]
noncomputable def f61v0 (vr0 : List FailT) (vs5 : Int) (vs1 : Int) : List FailT :=
  ((vr0.set (Int.toNat vs5) (⟨(mkT vs1), (FailT.n (atI (t := .fail) vr0 (Int.toNat vs5)))⟩ : FailT)).set (Int.toNat vs5) (⟨(FailT.name (atI (t := .fail) (vr0.set (Int.toNat vs5) (⟨(mkT vs1), (FailT.n (atI (t := .fail) vr0 (Int.toNat vs5)))⟩ : FailT)) (Int.toNat vs5))), (IntKind.wrap .i64 (vs1 + (1 : Int)))⟩ : FailT))
noncomputable def f61L0 {R : Type} (n : Nat) (x0 : Int → Int → Bool → (List FailT) → Option R)  : Nat → Int → Int → (List FailT) → Option R
  | 0, _, _, _ => none
  | m + 1, vs1, vs5, vr0 =>
    (cond (decide (vs5 < (vr0.length : Int)))
      (cond (okI vs1)
        (cond ((decide ((0 : Int) ≤ vs5)) && (decide (vs5 < (vr0.length : Int))))
          (cond ((decide ((0 : Int) ≤ vs5)) && (decide (vs5 < ((vr0.set (Int.toNat vs5) (⟨(mkT vs1), (FailT.n (atI (t := .fail) vr0 (Int.toNat vs5)))⟩ : FailT)).length : Int))))
            (f61L0 n x0 m (IntKind.wrap .i64 ((IntKind.wrap .i64 (vs1 + (1 : Int))) + (1 : Int))) (IntKind.wrap .i64 (vs5 + (1 : Int))) (f61v0 vr0 vs5 vs1))
            none)
          none)
        none)
      (x0 vs1 vs5 (decide (vs5 < (vr0.length : Int))) vr0))
theorem f61L0_b {R : Type} (n : Nat) (k' : Ex → St → Option R) (vs1 : Int) (vs5 : Int) (vr0 : List FailT) : ev f61e f61k n (cAt [1,0,1,0,0] f61c) ⟨[(0, .c (.one (.h 0 0 0 []))), (1, .c (.one (.v (.int .i64 vs1)))), (5, .c (.one (.v (.int .i64 vs5))))], [], [(0, .live ⟨.fail, .deep, 0, [], vr0⟩)]⟩ k' =
    (cond (decide (vs5 < (vr0.length : Int)))
    (cond (okI vs1)
      (cond ((decide ((0 : Int) ≤ vs5)) && (decide (vs5 < (vr0.length : Int))))
        (cond ((decide ((0 : Int) ≤ vs5)) && (decide (vs5 < ((vr0.set (Int.toNat vs5) (⟨(mkT vs1), (FailT.n (atI (t := .fail) vr0 (Int.toNat vs5)))⟩ : FailT)).length : Int))))
          (k' .normal ⟨[(0, .c (.one (.h 0 0 0 []))), (1, .c (.one (.v (.int .i64 (IntKind.wrap .i64 ((IntKind.wrap .i64 (vs1 + (1 : Int))) + (1 : Int))))))), (5, .c (.one (.v (.int .i64 (IntKind.wrap .i64 (vs5 + (1 : Int)))))))], [], [(0, .live ⟨.fail, .deep, 0, [], (f61v0 vr0 vs5 vs1)⟩)]⟩)
          none)
        none)
      none)
    (k' (.exit 0) ⟨[(0, .c (.one (.h 0 0 0 []))), (1, .c (.one (.v (.int .i64 vs1)))), (5, .c (.one (.v (.int .i64 vs5)))), (9, .c (.one (.v (.bool (decide (vs5 < (vr0.length : Int)))))))], [], [(0, .live ⟨.fail, .deep, 0, [], vr0⟩)]⟩)) := by kernel_rfl
theorem f61L0_eq {R : Type} (n : Nat) (k' : Ex → St → Option R)  : ∀ (m : Nat) (vs1 : Int) (vs5 : Int) (vr0 : List FailT), iter (fun st k => ev f61e f61k n (cAt [1,0,1,0,0] f61c) st k) m ⟨[(0, .c (.one (.h 0 0 0 []))), (1, .c (.one (.v (.int .i64 vs1)))), (5, .c (.one (.v (.int .i64 vs5))))], [], [(0, .live ⟨.fail, .deep, 0, [], vr0⟩)]⟩ k' = f61L0 n (fun (xvs1 : Int) (xvs5 : Int) (xvs9 : Bool) (xvr0 : List FailT) => k' (.exit 0) ⟨[(0, .c (.one (.h 0 0 0 []))), (1, .c (.one (.v (.int .i64 xvs1)))), (5, .c (.one (.v (.int .i64 xvs5)))), (9, .c (.one (.v (.bool xvs9))))], [], [(0, .live ⟨.fail, .deep, 0, [], xvr0⟩)]⟩) m vs1 vs5 vr0 := by
  intro m; induction m with
  | zero => intros; rfl
  | succ m ih =>
    intro vs1 vs5 vr0
    simp only [iter]
    rw [f61L0_b]
    simp only [ih, f61L0]

noncomputable def f61K0 {R : Type} (n : Nat) (k' : Ex → St → Option R) : Ex → St → Option R := (blockK 0 (seqK f61e f61k n (cAt [1,1] f61c) k'))
theorem f61K0_x0 {R : Type} (n : Nat) (k : List Dt → Option R) (a0 : List FailT) (a1 : Int) (xvs1 : Int) (xvs5 : Int) (xvs9 : Bool) (xvr0 : List FailT) : f61K0 n (exitK f61e [.«mut», .ro] [false] true [.tmp 4] [3] [.d (.sl .fail) a0, .d (.i .i64) a1] k) (.exit 0) ⟨[(0, .c (.one (.h 0 0 0 []))), (1, .c (.one (.v (.int .i64 xvs1)))), (5, .c (.one (.v (.int .i64 xvs5)))), (9, .c (.one (.v (.bool xvs9))))], [], [(0, .live ⟨.fail, .deep, 0, [], xvr0⟩)]⟩ =
    (k [.d (.i .i64) xvs1, .d (.sl .fail) xvr0]) := by kernel_rfl

theorem f61_run {R : Type} (n : Nat) (k : List Dt → Option R) (a0 : List FailT) (a1 : Int) : evFn f61e f61k n f61c [.«mut», .ro] [false] true [.tmp 4] [3] [.d (.sl .fail) a0, .d (.i .i64) a1] k =
    (f61L0 n (fun (xvs1 : Int) (xvs5 : Int) (xvs9 : Bool) (xvr0 : List FailT) =>
    (k [.d (.i .i64) xvs1, .d (.sl .fail) xvr0])) n a1 (0 : Int) a0) := by
  refine Eq.trans (b := (iter (fun st k => ev f61e f61k n (cAt [1,0,1,0,0] f61c) st k) n ⟨[(0, .c (.one (.h 0 0 0 []))), (1, .c (.one (.v (.int .i64 a1)))), (5, .c (.one (.v (.int .i64 (0 : Int)))))], [], [(0, .live ⟨.fail, .deep, 0, [], a0⟩)]⟩ (f61K0 n (exitK f61e [.«mut», .ro] [false] true [.tmp 4] [3] [.d (.sl .fail) a0, .d (.i .i64) a1] k)))) (by kernel_rfl) ?_
  simp only [f61L0_eq, f61K0_x0]
theorem f61_spec (a0 : List FailT) (a1 : Int) (hg : gmk a1 (ctL ct_fail a0) = true) : ∃ keep rounds, ∀ {R : Type} (k : List Dt → Option R), evFn f61e keep rounds f61c [.«mut», .ro] [false] true [.tmp 4] [3] [.d (.sl .fail) a0, .d (.i .i64) a1] k = k [.d (.i .i64) (mkL mk_fail a1 a0).2, .d (.sl .fail) (mkL mk_fail a1 a0).1] := by
  rw [gmk_iff] at hg
  have hl := ctL_len ct_fail_pos a0
  refine ⟨f61k, a0.length + 1, fun {R} k => ?_⟩
  rw [f61_run]
  refine Eq.trans (loop_mark (F := fun m kk i l => f61L0 (a0.length + 1) _ m kk i l) (f := mk_fail) (c := ct_fail) (good := fun kk l => k [.d (.i .i64) kk, .d (.sl .fail) l]) (n := a0.length) mk_fail_ct
    (fun m kk j l x hx hln h0 hB => ?_) (fun m kk l hln => by simp only [f61L0, hln, idxE, cond_false]) a0 (a0.length + 1) a1 [] (by simp) (by omega) hg.1 hg.2) rfl
  obtain ⟨h1, h2, _, ht⟩ := idx (lt_of_get hx) (by omega)
  have hA : ∀ a, atI (t := .fail) (l.set j a) j = a := fun a => atI_set (t := .fail) (lt_of_get hx) a
  have hj := lt_of_get hx
  simp only [ct_fail] at hB
  simp (disch := omega) only [f61L0, f61v0, h1, h2, ht, hA, atI_of (t := .fail) hx, List.set_set, List.length_set, wrap_id, gmk_of, okI_of, mk_fail, Bool.and_self, cond_true]

noncomputable def q61 : List Dt → Option (Bool × List Dt)
  | [.d (.sl .fail) a0, .d (.i .i64) a1] => some (((fun (x : List FailT) (k : Int) => gmk k (ctL ct_fail x)) a0 a1), [.d (.i .i64) (mkL mk_fail a1 a0).2, .d (.sl .fail) (mkL mk_fail a1 a0).1])
  | _ => none
noncomputable def s61 : Gm.Spec := Gm.Spec.of [.«mut», .ro] [false] true q61
theorem good61 : Gm.Good Try.prog (61, s61) := by
  have hl : ∀ x ∈ [(85, s85)], Gm.Good Try.prog x := List.forall_mem_cons.2 ⟨good85, List.forall_mem_nil _⟩
  refine ⟨⟨spec_ok (tab_ok.env hl) (tab.natl hl) Try.func61 (by kernel_rfl : Try.f61.body = some f61c) [3] (by kernel_rfl) ?_, _, Try.func61, by kernel_rfl, of_decide_eq_true (by kernel_rfl)⟩, Gm.Spec.of_natl _ _ _ _⟩
  intro ds outs h
  unfold q61 at h
  split at h
  · simp only [Option.some.injEq, Prod.mk.injEq] at h; obtain ⟨hg, h⟩ := h; cases h; exact f61_spec _ _ hg
  · cases h
/-! ### loop.example/g00465/laws.markWork -/
noncomputable def f26c : Code := (Try.f26.body).getD .skip
def f26k : Nat → Kp := kat [⟨[0, 1, 2], [], [], []⟩, ⟨[0, 1, 2], [], [], []⟩, ⟨[0, 1, 2], [], [], []⟩, ⟨[0, 1, 2], [], [], []⟩, ⟨[0, 1], [], [], []⟩, ⟨[0, 4], [], [], []⟩]
noncomputable def f26e : Env := tab.env [(60, s60), (61, s61)]
theorem f26_run {R : Type} (n : Nat) (k : List Dt → Option R) (a0 : List ByteArray) (a1 : List ByteArray) (a2 : List ByteArray) (a3 : List FailT) (a4 : Int) : evFnS f26e f26k n f26c [.«mut», .«mut», .«mut», .«mut»] [.ro] [false] [.tmp 4] [3] [.d (.sl .str) a0, .d (.sl .str) a1, .d (.sl .str) a2, .d (.sl .fail) a3] [.d (.i .i64) a4] k =
    (cond ((fun (x : List ByteArray) (k : Int) => gmk k (ctL ct_str x)) a0 a4)
    (cond ((fun (x : List ByteArray) (k : Int) => gmk k (ctL ct_str x)) a1 (mkL mk_str a4 a0).2)
      (cond ((fun (x : List ByteArray) (k : Int) => gmk k (ctL ct_str x)) a2 (mkL mk_str (mkL mk_str a4 a0).2 a1).2)
        (cond ((fun (x : List FailT) (k : Int) => gmk k (ctL ct_fail x)) a3 (mkL mk_str (mkL mk_str (mkL mk_str a4 a0).2 a1).2 a2).2)
          (k [.d (.i .i64) (mkL mk_fail (mkL mk_str (mkL mk_str (mkL mk_str a4 a0).2 a1).2 a2).2 a3).2, .d (.sl .str) (mkL mk_str a4 a0).1, .d (.sl .str) (mkL mk_str (mkL mk_str a4 a0).2 a1).1, .d (.sl .str) (mkL mk_str (mkL mk_str (mkL mk_str a4 a0).2 a1).2 a2).1, .d (.sl .fail) (mkL mk_fail (mkL mk_str (mkL mk_str (mkL mk_str a4 a0).2 a1).2 a2).2 a3).1])
          none)
        none)
      none)
    none) := by kernel_rfl
theorem f26_spec (a0 : List ByteArray) (a1 : List ByteArray) (a2 : List ByteArray) (a3 : List FailT) (a4 : Int) (hg : gmk a4 (ctL ct_str a0 + ctL ct_str a1 + ctL ct_str a2 + ctL ct_fail a3) = true) : ∃ keep rounds, ∀ {R : Type} (k : List Dt → Option R), evFnS f26e keep rounds f26c [.«mut», .«mut», .«mut», .«mut»] [.ro] [false] [.tmp 4] [3] [.d (.sl .str) a0, .d (.sl .str) a1, .d (.sl .str) a2, .d (.sl .fail) a3] [.d (.i .i64) a4] k = k [.d (.i .i64) (mkL mk_fail ((mkL mk_str ((mkL mk_str ((mkL mk_str a4 a0).2) a1).2) a2).2) a3).2, .d (.sl .str) (mkL mk_str a4 a0).1, .d (.sl .str) (mkL mk_str ((mkL mk_str a4 a0).2) a1).1, .d (.sl .str) (mkL mk_str ((mkL mk_str ((mkL mk_str a4 a0).2) a1).2) a2).1, .d (.sl .fail) (mkL mk_fail ((mkL mk_str ((mkL mk_str ((mkL mk_str a4 a0).2) a1).2) a2).2) a3).1] := by
  rw [gmk_iff] at hg
  refine ⟨f26k, 0, fun {R} k => ?_⟩
  rw [f26_run]
  simp (disch := omega) only [gmk_of, mkL_fail_ct, mkL_str_ct, cond_true]

noncomputable def q26 : List Dt → Option (Bool × List Dt)
  | [.d (.sl .str) a0, .d (.sl .str) a1, .d (.sl .str) a2, .d (.sl .fail) a3, .d (.i .i64) a4] => some (((fun (a0 : List ByteArray) (a1 : List ByteArray) (a2 : List ByteArray) (a3 : List FailT) (a4 : Int) => gmk a4 (ctL ct_str a0 + ctL ct_str a1 + ctL ct_str a2 + ctL ct_fail a3)) a0 a1 a2 a3 a4), [.d (.i .i64) (mkL mk_fail ((mkL mk_str ((mkL mk_str ((mkL mk_str a4 a0).2) a1).2) a2).2) a3).2, .d (.sl .str) (mkL mk_str a4 a0).1, .d (.sl .str) (mkL mk_str ((mkL mk_str a4 a0).2) a1).1, .d (.sl .str) (mkL mk_str ((mkL mk_str ((mkL mk_str a4 a0).2) a1).2) a2).1, .d (.sl .fail) (mkL mk_fail ((mkL mk_str ((mkL mk_str ((mkL mk_str a4 a0).2) a1).2) a2).2) a3).1])
  | _ => none
noncomputable def s26 : Gm.Spec := Gm.Spec.ofS [.«mut», .«mut», .«mut», .«mut»] [.ro] [false] q26
theorem good26 : Gm.Good Try.prog (26, s26) := by
  have hl : ∀ x ∈ [(60, s60), (61, s61)], Gm.Good Try.prog x := List.forall_mem_cons.2 ⟨good60, List.forall_mem_cons.2 ⟨good61, List.forall_mem_nil _⟩⟩
  refine ⟨⟨spec_okS (tab_ok.env hl) (tab.natl hl) Try.func26 (by kernel_rfl : Try.f26.body = some f26c) [3] (by kernel_rfl) ?_, _, Try.func26, by kernel_rfl, of_decide_eq_true (by kernel_rfl)⟩, Gm.Spec.ofS_natl _ _ _ _⟩
  intro ds outs h _
  unfold q26 at h
  split at h
  · simp only [Option.some.injEq, Prod.mk.injEq] at h; obtain ⟨hg, h⟩ := h; cases h; exact f26_spec _ _ _ _ _ hg
  · cases h
/-! ### loop.example/g00465/laws.heldStringS -/
noncomputable def f62c : Code := (Try.f62.body).getD .skip
def f62k : Nat → Kp := kat [⟨[0, 1], [], [], []⟩, ⟨[0, 1, 5], [], [], []⟩, ⟨[0, 1, 5, 9], [], [], []⟩, ⟨[0, 1, 5], [], [], []⟩, ⟨[0, 1, 5, 18], [], [], []⟩, ⟨[4], [], [], []⟩, ⟨[0, 1, 5], [], [], []⟩, ⟨[4], [], [], []⟩]
noncomputable def f62e : Env := tab.env [(85, s85)]
noncomputable def f62L0 {R : Type} (n : Nat) (x0 : Option R) (x1 : Int → Int → Bool → Option R) (vs0 : List ByteArray) : Nat → Int → Int → Option R
  | 0, _, _ => none
  | m + 1, vs1, vs5 =>
    (cond (decide (vs5 < (vs0.length : Int)))
      (cond ((decide ((0 : Int) ≤ vs5)) && (decide (vs5 < (vs0.length : Int))))
        (cond (okI vs1)
          (cond (!(sEq (atI (t := .str) vs0 (Int.toNat vs5)) (mkT vs1)))
            (x0)
            (f62L0 n x0 x1 vs0 m (IntKind.wrap .i64 (vs1 + (1 : Int))) (IntKind.wrap .i64 (vs5 + (1 : Int)))))
          none)
        none)
      (x1 vs1 vs5 (decide (vs5 < (vs0.length : Int)))))
theorem f62L0_b {R : Type} (n : Nat) (k' : Ex → St → Option R) (vs0 : List ByteArray) (vs1 : Int) (vs5 : Int) : ev f62e f62k n (cAt [1,0,1,0,0] f62c) ⟨[(0, .c (.one (.ro .str vs0))), (1, .c (.one (.v (.int .i64 vs1)))), (5, .c (.one (.v (.int .i64 vs5))))], [], []⟩ k' =
    (cond (decide (vs5 < (vs0.length : Int)))
    (cond ((decide ((0 : Int) ≤ vs5)) && (decide (vs5 < (vs0.length : Int))))
      (cond (okI vs1)
        (cond (!(sEq (atI (t := .str) vs0 (Int.toNat vs5)) (mkT vs1)))
          (k' .ret ⟨[(4, .c (.one (.v (.int .i64 (-1 : Int)))))], [], []⟩)
          (k' .normal ⟨[(0, .c (.one (.ro .str vs0))), (1, .c (.one (.v (.int .i64 (IntKind.wrap .i64 (vs1 + (1 : Int))))))), (5, .c (.one (.v (.int .i64 (IntKind.wrap .i64 (vs5 + (1 : Int)))))))], [], []⟩))
        none)
      none)
    (k' (.exit 0) ⟨[(0, .c (.one (.ro .str vs0))), (1, .c (.one (.v (.int .i64 vs1)))), (5, .c (.one (.v (.int .i64 vs5)))), (9, .c (.one (.v (.bool (decide (vs5 < (vs0.length : Int)))))))], [], []⟩)) := by kernel_rfl
theorem f62L0_eq {R : Type} (n : Nat) (k' : Ex → St → Option R) (vs0 : List ByteArray) : ∀ (m : Nat) (vs1 : Int) (vs5 : Int), iter (fun st k => ev f62e f62k n (cAt [1,0,1,0,0] f62c) st k) m ⟨[(0, .c (.one (.ro .str vs0))), (1, .c (.one (.v (.int .i64 vs1)))), (5, .c (.one (.v (.int .i64 vs5))))], [], []⟩ k' = f62L0 n (k' .ret ⟨[(4, .c (.one (.v (.int .i64 (-1 : Int)))))], [], []⟩) (fun (xvs1 : Int) (xvs5 : Int) (xvs9 : Bool) => k' (.exit 0) ⟨[(0, .c (.one (.ro .str vs0))), (1, .c (.one (.v (.int .i64 xvs1)))), (5, .c (.one (.v (.int .i64 xvs5)))), (9, .c (.one (.v (.bool xvs9))))], [], []⟩) vs0 m vs1 vs5 := by
  intro m; induction m with
  | zero => intros; rfl
  | succ m ih =>
    intro vs1 vs5
    simp only [iter]
    rw [f62L0_b]
    simp only [ih, f62L0]

noncomputable def f62K0 {R : Type} (n : Nat) (k' : Ex → St → Option R) : Ex → St → Option R := (blockK 0 (seqK f62e f62k n (cAt [1,1] f62c) k'))
theorem f62K0_x0 {R : Type} (n : Nat) (k : List Dt → Option R) (a0 : List ByteArray) (a1 : Int)  : f62K0 n (exitK f62e [.ro, .ro] [false] true [.tmp 4] [3] [.d (.sl .str) a0, .d (.i .i64) a1] k) .ret ⟨[(4, .c (.one (.v (.int .i64 (-1 : Int)))))], [], []⟩ =
    (k [.d (.i .i64) (-1 : Int)]) := by kernel_rfl
theorem f62K0_x1 {R : Type} (n : Nat) (k : List Dt → Option R) (a0 : List ByteArray) (a1 : Int) (vs0 : List ByteArray) (xvs1 : Int) (xvs5 : Int) (xvs9 : Bool) : f62K0 n (exitK f62e [.ro, .ro] [false] true [.tmp 4] [3] [.d (.sl .str) a0, .d (.i .i64) a1] k) (.exit 0) ⟨[(0, .c (.one (.ro .str vs0))), (1, .c (.one (.v (.int .i64 xvs1)))), (5, .c (.one (.v (.int .i64 xvs5)))), (9, .c (.one (.v (.bool xvs9))))], [], []⟩ =
    (k [.d (.i .i64) xvs1]) := by kernel_rfl

theorem f62_run {R : Type} (n : Nat) (k : List Dt → Option R) (a0 : List ByteArray) (a1 : Int) : evFn f62e f62k n f62c [.ro, .ro] [false] true [.tmp 4] [3] [.d (.sl .str) a0, .d (.i .i64) a1] k =
    (f62L0 n (k [.d (.i .i64) (-1 : Int)]) (fun (xvs1 : Int) (xvs5 : Int) (xvs9 : Bool) =>
    (k [.d (.i .i64) xvs1])) a0 n a1 (0 : Int)) := by
  refine Eq.trans (b := (iter (fun st k => ev f62e f62k n (cAt [1,0,1,0,0] f62c) st k) n ⟨[(0, .c (.one (.ro .str a0))), (1, .c (.one (.v (.int .i64 a1)))), (5, .c (.one (.v (.int .i64 (0 : Int)))))], [], []⟩ (f62K0 n (exitK f62e [.ro, .ro] [false] true [.tmp 4] [3] [.d (.sl .str) a0, .d (.i .i64) a1] k)))) (by kernel_rfl) ?_
  simp only [f62L0_eq, f62K0_x0, f62K0_x1]
theorem f62_spec (a0 : List ByteArray) (a1 : Int) (hg : gmk a1 (ctL ct_str a0) = true) : ∃ keep rounds, ∀ {R : Type} (k : List Dt → Option R), evFn f62e keep rounds f62c [.ro, .ro] [false] true [.tmp 4] [3] [.d (.sl .str) a0, .d (.i .i64) a1] k = k [.d (.i .i64) (hdL mk_str a1 a0)] := by
  rw [gmk_iff] at hg
  have hl := ctL_len ct_str_pos a0
  refine ⟨f62k, a0.length + 1, fun {R} k => ?_⟩
  rw [f62_run]
  refine Eq.trans (loop_held (xs := a0) (F := fun m kk i => f62L0 (a0.length + 1) _ _ a0 m kk i) (f := mk_str) (c := ct_str) (good := fun kk => k [.d (.i .i64) kk]) (bad := k [.d (.i .i64) (-1 : Int)]) mk_str_ct
    (fun m kk j x hx h0 hB => ?_) (fun m kk => by simp only [f62L0, idxE, cond_false]) a0.length 0 (a0.length + 1) a1 (by omega) (by omega) hg.1 (by rw [List.drop_zero]; exact hg.2)) ?_
  · obtain ⟨h1, h2, _, ht⟩ := idx (lt_of_get hx) (by omega)
    have hj := lt_of_get hx
    simp only [ct_str] at hB
    simp (disch := omega) only [f62L0, h1, h2, ht, atI_of (t := .str) hx, wrap_id, gmk_of, okI_of, mk_str, eqD_str, Bool.cond_not, cond_and, bne, decide_ge0, decide_m1, cond_true, cond_false, Bool.cond_self, Bool.and_self]
  · rw [List.drop_zero]
    show _ = k [.d (.i .i64) (hdL mk_str a1 a0)]
    unfold hdL
    cases eqD a0 (mkL mk_str a1 a0).1 <;> rfl

noncomputable def q62 : List Dt → Option (Bool × List Dt)
  | [.d (.sl .str) a0, .d (.i .i64) a1] => some (((fun (x : List ByteArray) (k : Int) => gmk k (ctL ct_str x)) a0 a1), [.d (.i .i64) (hdL mk_str a1 a0)])
  | _ => none
noncomputable def s62 : Gm.Spec := Gm.Spec.of [.ro, .ro] [false] true q62
theorem good62 : Gm.Good Try.prog (62, s62) := by
  have hl : ∀ x ∈ [(85, s85)], Gm.Good Try.prog x := List.forall_mem_cons.2 ⟨good85, List.forall_mem_nil _⟩
  refine ⟨⟨spec_ok (tab_ok.env hl) (tab.natl hl) Try.func62 (by kernel_rfl : Try.f62.body = some f62c) [3] (by kernel_rfl) ?_, _, Try.func62, by kernel_rfl, of_decide_eq_true (by kernel_rfl)⟩, Gm.Spec.of_natl _ _ _ _⟩
  intro ds outs h
  unfold q62 at h
  split at h
  · simp only [Option.some.injEq, Prod.mk.injEq] at h; obtain ⟨hg, h⟩ := h; cases h; exact f62_spec _ _ hg
  · cases h
/-! ### loop.example/g00465/laws.heldFailS -/
noncomputable def f63c : Code := (Try.f63.body).getD .skip
def f63k : Nat → Kp := kat [⟨[0, 1], [], [], []⟩, ⟨[0, 1, 5], [], [], []⟩, ⟨[0, 1, 5, 9], [], [], []⟩, ⟨[0, 1, 5], [], [], []⟩, ⟨[0, 1, 5, 19], [], [], []⟩, ⟨[4], [], [], []⟩, ⟨[0, 1, 5], [], [], []⟩, ⟨[0, 1, 5, 28], [], [], []⟩, ⟨[4], [], [], []⟩, ⟨[0, 1, 5], [], [], []⟩, ⟨[4], [], [], []⟩]
noncomputable def f63e : Env := tab.env [(85, s85)]
noncomputable def f63L0 {R : Type} (n : Nat) (x0 : Option R) (x1 : Int → Int → Bool → Option R) (vs0 : List FailT) : Nat → Int → Int → Option R
  | 0, _, _ => none
  | m + 1, vs1, vs5 =>
    (cond (decide (vs5 < (vs0.length : Int)))
      (cond ((decide ((0 : Int) ≤ vs5)) && (decide (vs5 < (vs0.length : Int))))
        (cond (okI vs1)
          (cond (!(sEq (FailT.name (atI (t := .fail) vs0 (Int.toNat vs5))) (mkT vs1)))
            (x0)
            (cond ((decide ((0 : Int) ≤ vs5)) && (decide (vs5 < (vs0.length : Int))))
              (cond ((FailT.n (atI (t := .fail) vs0 (Int.toNat vs5))) != (IntKind.wrap .i64 (vs1 + (1 : Int))))
                (x0)
                (f63L0 n x0 x1 vs0 m (IntKind.wrap .i64 ((IntKind.wrap .i64 (vs1 + (1 : Int))) + (1 : Int))) (IntKind.wrap .i64 (vs5 + (1 : Int)))))
              none))
          none)
        none)
      (x1 vs1 vs5 (decide (vs5 < (vs0.length : Int)))))
theorem f63L0_b {R : Type} (n : Nat) (k' : Ex → St → Option R) (vs0 : List FailT) (vs1 : Int) (vs5 : Int) : ev f63e f63k n (cAt [1,0,1,0,0] f63c) ⟨[(0, .c (.one (.ro .fail vs0))), (1, .c (.one (.v (.int .i64 vs1)))), (5, .c (.one (.v (.int .i64 vs5))))], [], []⟩ k' =
    (cond (decide (vs5 < (vs0.length : Int)))
    (cond ((decide ((0 : Int) ≤ vs5)) && (decide (vs5 < (vs0.length : Int))))
      (cond (okI vs1)
        (cond (!(sEq (FailT.name (atI (t := .fail) vs0 (Int.toNat vs5))) (mkT vs1)))
          (k' .ret ⟨[(4, .c (.one (.v (.int .i64 (-1 : Int)))))], [], []⟩)
          (cond ((decide ((0 : Int) ≤ vs5)) && (decide (vs5 < (vs0.length : Int))))
            (cond ((FailT.n (atI (t := .fail) vs0 (Int.toNat vs5))) != (IntKind.wrap .i64 (vs1 + (1 : Int))))
              (k' .ret ⟨[(4, .c (.one (.v (.int .i64 (-1 : Int)))))], [], []⟩)
              (k' .normal ⟨[(0, .c (.one (.ro .fail vs0))), (1, .c (.one (.v (.int .i64 (IntKind.wrap .i64 ((IntKind.wrap .i64 (vs1 + (1 : Int))) + (1 : Int))))))), (5, .c (.one (.v (.int .i64 (IntKind.wrap .i64 (vs5 + (1 : Int)))))))], [], []⟩))
            none))
        none)
      none)
    (k' (.exit 0) ⟨[(0, .c (.one (.ro .fail vs0))), (1, .c (.one (.v (.int .i64 vs1)))), (5, .c (.one (.v (.int .i64 vs5)))), (9, .c (.one (.v (.bool (decide (vs5 < (vs0.length : Int)))))))], [], []⟩)) := by kernel_rfl
theorem f63L0_eq {R : Type} (n : Nat) (k' : Ex → St → Option R) (vs0 : List FailT) : ∀ (m : Nat) (vs1 : Int) (vs5 : Int), iter (fun st k => ev f63e f63k n (cAt [1,0,1,0,0] f63c) st k) m ⟨[(0, .c (.one (.ro .fail vs0))), (1, .c (.one (.v (.int .i64 vs1)))), (5, .c (.one (.v (.int .i64 vs5))))], [], []⟩ k' = f63L0 n (k' .ret ⟨[(4, .c (.one (.v (.int .i64 (-1 : Int)))))], [], []⟩) (fun (xvs1 : Int) (xvs5 : Int) (xvs9 : Bool) => k' (.exit 0) ⟨[(0, .c (.one (.ro .fail vs0))), (1, .c (.one (.v (.int .i64 xvs1)))), (5, .c (.one (.v (.int .i64 xvs5)))), (9, .c (.one (.v (.bool xvs9))))], [], []⟩) vs0 m vs1 vs5 := by
  intro m; induction m with
  | zero => intros; rfl
  | succ m ih =>
    intro vs1 vs5
    simp only [iter]
    rw [f63L0_b]
    simp only [ih, f63L0]

noncomputable def f63K0 {R : Type} (n : Nat) (k' : Ex → St → Option R) : Ex → St → Option R := (blockK 0 (seqK f63e f63k n (cAt [1,1] f63c) k'))
theorem f63K0_x0 {R : Type} (n : Nat) (k : List Dt → Option R) (a0 : List FailT) (a1 : Int)  : f63K0 n (exitK f63e [.ro, .ro] [false] true [.tmp 4] [3] [.d (.sl .fail) a0, .d (.i .i64) a1] k) .ret ⟨[(4, .c (.one (.v (.int .i64 (-1 : Int)))))], [], []⟩ =
    (k [.d (.i .i64) (-1 : Int)]) := by kernel_rfl
theorem f63K0_x1 {R : Type} (n : Nat) (k : List Dt → Option R) (a0 : List FailT) (a1 : Int) (vs0 : List FailT) (xvs1 : Int) (xvs5 : Int) (xvs9 : Bool) : f63K0 n (exitK f63e [.ro, .ro] [false] true [.tmp 4] [3] [.d (.sl .fail) a0, .d (.i .i64) a1] k) (.exit 0) ⟨[(0, .c (.one (.ro .fail vs0))), (1, .c (.one (.v (.int .i64 xvs1)))), (5, .c (.one (.v (.int .i64 xvs5)))), (9, .c (.one (.v (.bool xvs9))))], [], []⟩ =
    (k [.d (.i .i64) xvs1]) := by kernel_rfl

theorem f63_run {R : Type} (n : Nat) (k : List Dt → Option R) (a0 : List FailT) (a1 : Int) : evFn f63e f63k n f63c [.ro, .ro] [false] true [.tmp 4] [3] [.d (.sl .fail) a0, .d (.i .i64) a1] k =
    (f63L0 n (k [.d (.i .i64) (-1 : Int)]) (fun (xvs1 : Int) (xvs5 : Int) (xvs9 : Bool) =>
    (k [.d (.i .i64) xvs1])) a0 n a1 (0 : Int)) := by
  refine Eq.trans (b := (iter (fun st k => ev f63e f63k n (cAt [1,0,1,0,0] f63c) st k) n ⟨[(0, .c (.one (.ro .fail a0))), (1, .c (.one (.v (.int .i64 a1)))), (5, .c (.one (.v (.int .i64 (0 : Int)))))], [], []⟩ (f63K0 n (exitK f63e [.ro, .ro] [false] true [.tmp 4] [3] [.d (.sl .fail) a0, .d (.i .i64) a1] k)))) (by kernel_rfl) ?_
  simp only [f63L0_eq, f63K0_x0, f63K0_x1]
theorem f63_spec (a0 : List FailT) (a1 : Int) (hg : gmk a1 (ctL ct_fail a0) = true) : ∃ keep rounds, ∀ {R : Type} (k : List Dt → Option R), evFn f63e keep rounds f63c [.ro, .ro] [false] true [.tmp 4] [3] [.d (.sl .fail) a0, .d (.i .i64) a1] k = k [.d (.i .i64) (hdL mk_fail a1 a0)] := by
  rw [gmk_iff] at hg
  have hl := ctL_len ct_fail_pos a0
  refine ⟨f63k, a0.length + 1, fun {R} k => ?_⟩
  rw [f63_run]
  refine Eq.trans (loop_held (xs := a0) (F := fun m kk i => f63L0 (a0.length + 1) _ _ a0 m kk i) (f := mk_fail) (c := ct_fail) (good := fun kk => k [.d (.i .i64) kk]) (bad := k [.d (.i .i64) (-1 : Int)]) mk_fail_ct
    (fun m kk j x hx h0 hB => ?_) (fun m kk => by simp only [f63L0, idxE, cond_false]) a0.length 0 (a0.length + 1) a1 (by omega) (by omega) hg.1 (by rw [List.drop_zero]; exact hg.2)) ?_
  · obtain ⟨h1, h2, _, ht⟩ := idx (lt_of_get hx) (by omega)
    have hj := lt_of_get hx
    simp only [ct_fail] at hB
    simp (disch := omega) only [f63L0, h1, h2, ht, atI_of (t := .fail) hx, wrap_id, gmk_of, okI_of, mk_fail, eqD_fail, Bool.cond_not, cond_and, bne, decide_ge0, decide_m1, cond_true, cond_false, Bool.cond_self, Bool.and_self]
  · rw [List.drop_zero]
    show _ = k [.d (.i .i64) (hdL mk_fail a1 a0)]
    unfold hdL
    cases eqD a0 (mkL mk_fail a1 a0).1 <;> rfl

noncomputable def q63 : List Dt → Option (Bool × List Dt)
  | [.d (.sl .fail) a0, .d (.i .i64) a1] => some (((fun (x : List FailT) (k : Int) => gmk k (ctL ct_fail x)) a0 a1), [.d (.i .i64) (hdL mk_fail a1 a0)])
  | _ => none
noncomputable def s63 : Gm.Spec := Gm.Spec.of [.ro, .ro] [false] true q63
theorem good63 : Gm.Good Try.prog (63, s63) := by
  have hl : ∀ x ∈ [(85, s85)], Gm.Good Try.prog x := List.forall_mem_cons.2 ⟨good85, List.forall_mem_nil _⟩
  refine ⟨⟨spec_ok (tab_ok.env hl) (tab.natl hl) Try.func63 (by kernel_rfl : Try.f63.body = some f63c) [3] (by kernel_rfl) ?_, _, Try.func63, by kernel_rfl, of_decide_eq_true (by kernel_rfl)⟩, Gm.Spec.of_natl _ _ _ _⟩
  intro ds outs h
  unfold q63 at h
  split at h
  · simp only [Option.some.injEq, Prod.mk.injEq] at h; obtain ⟨hg, h⟩ := h; cases h; exact f63_spec _ _ hg
  · cases h
/-! ### loop.example/g00465/laws.heldWork -/
noncomputable def f27c : Code := (Try.f27.body).getD .skip
def f27k : Nat → Kp := kat [⟨[1, 2], [], [], []⟩, ⟨[1, 2], [], [], []⟩, ⟨[1, 2, 10], [], [], []⟩, ⟨[4], [], [], []⟩, ⟨[1, 2], [], [], []⟩, ⟨[1, 2, 16], [], [], []⟩, ⟨[4], [], [], []⟩, ⟨[1, 2], [], [], []⟩, ⟨[1, 2, 22], [], [], []⟩, ⟨[4], [], [], []⟩, ⟨[1], [], [], []⟩, ⟨[1, 28], [], [], []⟩, ⟨[4], [], [], []⟩, ⟨[4], [], [], []⟩]
noncomputable def f27e : Env := tab.env [(62, s62), (63, s63)]
theorem f27_run {R : Type} (n : Nat) (k : List Dt → Option R) (a0 : WorkT) (a1 : Int) : evFn f27e f27k n f27c [.ro, .ro] [false] true [.tmp 4] [3] [.d .work a0, .d (.i .i64) a1] k =
    (cond ((fun (x : List ByteArray) (k : Int) => gmk k (ctL ct_str x)) (WorkT.list a0) a1)
    (cond (decide ((hdL mk_str a1 (WorkT.list a0)) < (0 : Int)))
      (k [.d (.i .i64) (-1 : Int)])
      (cond ((fun (x : List ByteArray) (k : Int) => gmk k (ctL ct_str x)) (WorkT.busy a0) (hdL mk_str a1 (WorkT.list a0)))
        (cond (decide ((hdL mk_str (hdL mk_str a1 (WorkT.list a0)) (WorkT.busy a0)) < (0 : Int)))
          (k [.d (.i .i64) (-1 : Int)])
          (cond ((fun (x : List ByteArray) (k : Int) => gmk k (ctL ct_str x)) (WorkT.again a0) (hdL mk_str (hdL mk_str a1 (WorkT.list a0)) (WorkT.busy a0)))
            (cond (decide ((hdL mk_str (hdL mk_str (hdL mk_str a1 (WorkT.list a0)) (WorkT.busy a0)) (WorkT.again a0)) < (0 : Int)))
              (k [.d (.i .i64) (-1 : Int)])
              (cond ((fun (x : List FailT) (k : Int) => gmk k (ctL ct_fail x)) (WorkT.fails a0) (hdL mk_str (hdL mk_str (hdL mk_str a1 (WorkT.list a0)) (WorkT.busy a0)) (WorkT.again a0)))
                (cond (decide ((hdL mk_fail (hdL mk_str (hdL mk_str (hdL mk_str a1 (WorkT.list a0)) (WorkT.busy a0)) (WorkT.again a0)) (WorkT.fails a0)) < (0 : Int)))
                  (k [.d (.i .i64) (-1 : Int)])
                  (k [.d (.i .i64) (hdL mk_fail (hdL mk_str (hdL mk_str (hdL mk_str a1 (WorkT.list a0)) (WorkT.busy a0)) (WorkT.again a0)) (WorkT.fails a0))]))
                none))
            none))
        none))
    none) := by kernel_rfl
theorem f27_spec (a0 : WorkT) (a1 : Int) (hg : gmk a1 (cts_work a0) = true) : ∃ keep rounds, ∀ {R : Type} (k : List Dt → Option R), evFn f27e keep rounds f27c [.ro, .ro] [false] true [.tmp 4] [3] [.d .work a0, .d (.i .i64) a1] k = k [.d (.i .i64) (hds_work a1 a0)] := by
  rw [gmk_iff] at hg
  simp only [cts_work] at hg
  refine ⟨f27k, 0, fun {R} k => ?_⟩
  rw [f27_run]
  show _ = k [.d (.i .i64) (hds_work a1 a0)]
  unfold hds_work
  rcases hdL_cases mk_str (a1) a0.list with ⟨q0, v0⟩ | ⟨q0, v0⟩ <;>
  rcases hdL_cases mk_str ((mkL mk_str (a1) a0.list).2) a0.busy with ⟨q1, v1⟩ | ⟨q1, v1⟩ <;>
  rcases hdL_cases mk_str ((mkL mk_str ((mkL mk_str (a1) a0.list).2) a0.busy).2) a0.again with ⟨q2, v2⟩ | ⟨q2, v2⟩ <;>
  rcases hdL_cases mk_fail ((mkL mk_str ((mkL mk_str ((mkL mk_str (a1) a0.list).2) a0.busy).2) a0.again).2) a0.fails with ⟨q3, v3⟩ | ⟨q3, v3⟩ <;>
  (try simp (disch := omega) only [mkL_fail_ct, mkL_str_ct] at q0 v0 q1 v1 q2 v2 q3 v3) <;>
  simp (disch := omega) only [gmk_of, mks_work, mkL_fail_ct, mkL_str_ct, eqD_work, Bool.cond_not, cond_and, bne, decide_ge0, decide_m1, cond_true, cond_false, Bool.cond_self, q0, v0, q1, v1, q2, v2, q3, v3, beq_self_eq_true, sEq_self, eqD_self, Bool.and_self, Bool.true_and, Bool.and_true, Bool.and_false, Bool.false_and]

noncomputable def q27 : List Dt → Option (Bool × List Dt)
  | [.d .work a0, .d (.i .i64) a1] => some (((fun (x : WorkT) (k : Int) => gmk k (cts_work x)) a0 a1), [.d (.i .i64) (hds_work a1 a0)])
  | _ => none
noncomputable def s27 : Gm.Spec := Gm.Spec.of [.ro, .ro] [false] true q27
theorem good27 : Gm.Good Try.prog (27, s27) := by
  have hl : ∀ x ∈ [(62, s62), (63, s63)], Gm.Good Try.prog x := List.forall_mem_cons.2 ⟨good62, List.forall_mem_cons.2 ⟨good63, List.forall_mem_nil _⟩⟩
  refine ⟨⟨spec_ok (tab_ok.env hl) (tab.natl hl) Try.func27 (by kernel_rfl : Try.f27.body = some f27c) [3] (by kernel_rfl) ?_, _, Try.func27, by kernel_rfl, of_decide_eq_true (by kernel_rfl)⟩, Gm.Spec.of_natl _ _ _ _⟩
  intro ds outs h
  unfold q27 at h
  split at h
  · simp only [Option.some.injEq, Prod.mk.injEq] at h; obtain ⟨hg, h⟩ := h; cases h; exact f27_spec _ _ hg
  · cases h
end Go.Proofs.Ytmeeoilfnahihaa

/- x -/
namespace Go.Proofs.Ytmeeoilfnahihaa
open Go Go.Gm
/-! ### loop.example/g00465/laws.FnExactWorkDone -/
noncomputable def f10c : Code := (Try.f10.body).getD .skip
def f10k : Nat → Kp := kat [⟨[1, 2, 3], [], [], []⟩, ⟨[1, 2, 3, 20], [], [], []⟩, ⟨[6], [], [], []⟩, ⟨[1, 2, 3, 7], [], [], []⟩, ⟨[1, 2, 3, 7], [], [], []⟩, ⟨[1, 2, 3, 25], [], [], []⟩, ⟨[6], [], [], []⟩, ⟨[1, 2, 3, 8, 9], [], [], []⟩, ⟨[1, 2, 3, 8, 9, 10], [], [], []⟩, ⟨[1, 2, 3, 8, 9, 10, 11, 12], [], [], []⟩, ⟨[1, 2, 3, 8, 9, 10, 11, 12, 51], [], [], []⟩, ⟨[6], [], [], []⟩, ⟨[1, 2, 3, 8, 9, 10, 11, 12, 56], [], [], []⟩, ⟨[6], [], [], []⟩, ⟨[1, 2, 3, 8, 9, 10, 11, 12, 13], [], [], []⟩, ⟨[1, 2, 3, 8, 9, 11, 12, 13], [], [], []⟩, ⟨[1, 2, 3, 8, 9, 11, 72], [], [], []⟩, ⟨[6], [], [], []⟩, ⟨[1, 2, 3, 8, 9, 11, 14], [], [], []⟩, ⟨[1, 2, 3, 8, 9, 11, 14], [], [], []⟩, ⟨[1, 2, 3, 8, 9, 11, 14, 15], [], [], []⟩, ⟨[1, 2, 3, 8, 9, 11, 14, 15], [], [], []⟩, ⟨[1, 2, 3, 8, 9, 11, 14, 15, 80], [], [], []⟩, ⟨[6], [], [], []⟩, ⟨[1, 2, 3, 8, 9, 11, 14, 83], [], [], []⟩, ⟨[6], [], [], []⟩, ⟨[8, 9, 11, 14, 16, 17], [], [], []⟩, ⟨[11, 14, 100], [], [], []⟩, ⟨[6], [], [], []⟩, ⟨[11, 14, 15], [], [], []⟩, ⟨[14, 15], [], [], []⟩, ⟨[14, 15, 105], [], [], []⟩, ⟨[6], [], [], []⟩, ⟨[108], [], [], []⟩, ⟨[6], [], [], []⟩, ⟨[6], [], [], []⟩]
noncomputable def f10e : Env := tab.env [(11, s11), (13, s13), (15, s15), (20, s20), (26, s26), (27, s27), (32, s32)]
noncomputable def f10v0 (a0 : WorkT) : List FailT :=
  (mkL mk_fail ((mkL mk_str ((mkL mk_str ((mkL mk_str (1 : Int) (WorkT.list a0)).2) (WorkT.busy a0)).2) (WorkT.again a0)).2) (WorkT.fails a0)).1
noncomputable def f10v1 (a0 : WorkT) (a1 : ByteArray) (a2 : Bool) : List ByteArray :=
  (mkL mk_str ((mkL mk_str ((mkL mk_str (1 : Int) (WorkT.list ((workDone a0 a1 a2).1))).2) (WorkT.busy ((workDone a0 a1 a2).1))).2) (WorkT.again ((workDone a0 a1 a2).1))).1
noncomputable def f10v2 (a0 : WorkT) (a1 : ByteArray) (a2 : Bool) : List FailT :=
  (mkL mk_fail ((mkL mk_str ((mkL mk_str ((mkL mk_str (1 : Int) (WorkT.list ((workDone a0 a1 a2).1))).2) (WorkT.busy ((workDone a0 a1 a2).1))).2) (WorkT.again ((workDone a0 a1 a2).1))).2) (WorkT.fails ((workDone a0 a1 a2).1))).1
theorem f10_run {R : Type} (n : Nat) (k : List Dt → Option R) (a0 : WorkT) (a1 : ByteArray) (a2 : Bool) : evFn f10e f10k n f10c [.ro, .ro, .ro] [false] true [.tmp 6] [4] [.d .work a0, .d .str a1, .d .bool a2] k =
    (cond (decide ((ByteArray.size a1 : Int) > (1048576 : Int)))
    (k [.d .bool true])
    (cond (gz_work a0 (1048576 : Int))
      (cond (decide ((z_work a0 (1048576 : Int)) < (0 : Int)))
        (k [.d .bool true])
        (cond (sm_work a0)
          (cond (gDoneW a0 a1 a2)
            (cond (sm_work a0)
              (cond (gDoneW a0 a1 a2)
                (cond (sm2 sm_work ((workDone a0 a1 a2).1) ((workDone a0 a1 a2).1))
                  (cond (!(eqD ((workDone a0 a1 a2).1) ((workDone a0 a1 a2).1)))
                    (k [.d .bool false])
                    (cond (!(((workDone a0 a1 a2).2) == ((workDone a0 a1 a2).2)))
                      (k [.d .bool false])
                      (cond (sm_work a0)
                        (cond (sm2 sm_work a0 a0)
                          (cond (!(eqD a0 a0))
                            (k [.d .bool false])
                            (cond ((fun (a0 : List ByteArray) (a1 : List ByteArray) (a2 : List ByteArray) (a3 : List FailT) (a4 : Int) => gmk a4 (ctL ct_str a0 + ctL ct_str a1 + ctL ct_str a2 + ctL ct_fail a3)) (WorkT.list a0) (WorkT.busy a0) (WorkT.again a0) (WorkT.fails a0) (1 : Int))
                              (cond (decide ((mkL mk_fail ((mkL mk_str ((mkL mk_str ((mkL mk_str (1 : Int) (WorkT.list a0)).2) (WorkT.busy a0)).2) (WorkT.again a0)).2) (WorkT.fails a0)).2 < (0 : Int)))
                                (k [.d .bool false])
                                (cond (sm2 sm_work ((workDone a0 a1 a2).1) ((workDone a0 a1 a2).1))
                                  (cond (!(eqD ((workDone a0 a1 a2).1) ((workDone a0 a1 a2).1)))
                                    (k [.d .bool false])
                                    (cond (!(((workDone a0 a1 a2).2) == ((workDone a0 a1 a2).2)))
                                      (k [.d .bool false])
                                      (cond ((fun (a0 : List ByteArray) (a1 : List ByteArray) (a2 : List ByteArray) (a3 : List FailT) (a4 : Int) => gmk a4 (ctL ct_str a0 + ctL ct_str a1 + ctL ct_str a2 + ctL ct_fail a3)) (WorkT.list ((workDone a0 a1 a2).1)) (WorkT.busy ((workDone a0 a1 a2).1)) (WorkT.again ((workDone a0 a1 a2).1)) (WorkT.fails ((workDone a0 a1 a2).1)) (1 : Int))
                                        (cond ((fun (x : WorkT) (k : Int) => gmk k (cts_work x)) (⟨(mkL mk_str (1 : Int) (WorkT.list ((workDone a0 a1 a2).1))).1, (mkL mk_str ((mkL mk_str (1 : Int) (WorkT.list ((workDone a0 a1 a2).1))).2) (WorkT.busy ((workDone a0 a1 a2).1))).1, (f10v1 a0 a1 a2), (f10v2 a0 a1 a2)⟩ : WorkT) (1 : Int))
                                          (cond (decide ((hds_work (1 : Int) (⟨(mkL mk_str (1 : Int) (WorkT.list ((workDone a0 a1 a2).1))).1, (mkL mk_str ((mkL mk_str (1 : Int) (WorkT.list ((workDone a0 a1 a2).1))).2) (WorkT.busy ((workDone a0 a1 a2).1))).1, (f10v1 a0 a1 a2), (f10v2 a0 a1 a2)⟩ : WorkT)) < (0 : Int)))
                                            (k [.d .bool false])
                                            (cond ((hds_work (1 : Int) (⟨(mkL mk_str (1 : Int) (WorkT.list ((workDone a0 a1 a2).1))).1, (mkL mk_str ((mkL mk_str (1 : Int) (WorkT.list ((workDone a0 a1 a2).1))).2) (WorkT.busy ((workDone a0 a1 a2).1))).1, (f10v1 a0 a1 a2), (f10v2 a0 a1 a2)⟩ : WorkT)) != (mkL mk_fail ((mkL mk_str ((mkL mk_str ((mkL mk_str (1 : Int) (WorkT.list ((workDone a0 a1 a2).1))).2) (WorkT.busy ((workDone a0 a1 a2).1))).2) (WorkT.again ((workDone a0 a1 a2).1))).2) (WorkT.fails ((workDone a0 a1 a2).1))).2)
                                              (k [.d .bool false])
                                              (cond (sm_work a0)
                                                (cond (gDoneW a0 a1 a2)
                                                  (cond (sm2 sm_work ((workDone a0 a1 a2).1) ((workDone a0 a1 a2).1))
                                                    (cond (!(eqD ((workDone a0 a1 a2).1) ((workDone a0 a1 a2).1)))
                                                      (k [.d .bool false])
                                                      (cond (!(((workDone a0 a1 a2).2) == ((workDone a0 a1 a2).2)))
                                                        (k [.d .bool false])
                                                        (cond ((fun (x : WorkT) (k : Int) => gmk k (cts_work x)) (⟨(mkL mk_str (1 : Int) (WorkT.list ((workDone a0 a1 a2).1))).1, (mkL mk_str ((mkL mk_str (1 : Int) (WorkT.list ((workDone a0 a1 a2).1))).2) (WorkT.busy ((workDone a0 a1 a2).1))).1, (f10v1 a0 a1 a2), (f10v2 a0 a1 a2)⟩ : WorkT) (1 : Int))
                                                          (cond (decide ((hds_work (1 : Int) (⟨(mkL mk_str (1 : Int) (WorkT.list ((workDone a0 a1 a2).1))).1, (mkL mk_str ((mkL mk_str (1 : Int) (WorkT.list ((workDone a0 a1 a2).1))).2) (WorkT.busy ((workDone a0 a1 a2).1))).1, (f10v1 a0 a1 a2), (f10v2 a0 a1 a2)⟩ : WorkT)) < (0 : Int)))
                                                            (k [.d .bool false])
                                                            (cond ((hds_work (1 : Int) (⟨(mkL mk_str (1 : Int) (WorkT.list ((workDone a0 a1 a2).1))).1, (mkL mk_str ((mkL mk_str (1 : Int) (WorkT.list ((workDone a0 a1 a2).1))).2) (WorkT.busy ((workDone a0 a1 a2).1))).1, (f10v1 a0 a1 a2), (f10v2 a0 a1 a2)⟩ : WorkT)) != (mkL mk_fail ((mkL mk_str ((mkL mk_str ((mkL mk_str (1 : Int) (WorkT.list ((workDone a0 a1 a2).1))).2) (WorkT.busy ((workDone a0 a1 a2).1))).2) (WorkT.again ((workDone a0 a1 a2).1))).2) (WorkT.fails ((workDone a0 a1 a2).1))).2)
                                                              (k [.d .bool false])
                                                              (k [.d .bool true])))
                                                          none)))
                                                    none)
                                                  none)
                                                none)))
                                          none)
                                        none)))
                                  none))
                              none))
                          none)
                        none)))
                  none)
                none)
              none)
            none)
          none))
      none)) := by kernel_rfl
theorem f10_spec (a0 : WorkT) (a1 : ByteArray) (a2 : Bool) (hg : (ok_work a0 && okStr a1) = true) : ∃ keep rounds, ∀ {R : Type} (k : List Dt → Option R), evFn f10e keep rounds f10c [.ro, .ro, .ro] [false] true [.tmp 6] [4] [.d .work a0, .d .str a1, .d .bool a2] k = k [.d .bool ((fun (_ : WorkT) (_ : ByteArray) (_ : Bool) => true) a0 a1 a2)] := by
  simp only [Bool.and_eq_true] at hg
  obtain ⟨hg0, hg1⟩ := hg
  refine ⟨f10k, 0, fun {R} k => ?_⟩
  rw [f10_run]
  by_cases c1 : ((a1.size : Nat) : Int) > 1048576
  · simp only [c1, decide_true, decide_false, cond_true, cond_false]
  have s1 : smStr a1 = true := smStr_of (by omega)
  have g0 : gz_work a0 (1048576 : Int) = true := by simp only [gz_work, Bool.and_eq_true, okN_iff]; exact ⟨hg0, by omega, by omega⟩
  have e0 : z_work a0 (1048576 : Int) = szI (szN_work a0) (1048576 : Int) := rfl
  by_cases c0 : szI (szN_work a0) (1048576 : Int) < 0
  · simp only [c1, g0, e0, c0, decide_true, decide_false, cond_true, cond_false]
  have b0 : szI (szN_work a0) (1048576 : Int) = (1048576 : Int) - ((szN_work a0) : Nat) := by
    by_cases h : (1048576 : Int) - ((szN_work a0) : Nat) < 0
    · rw [szI_neg h] at c0; omega
    · exact szI_pos h
  have s0 : sm_work a0 = true := sm_work_of hg0 (by omega)
  have n0 : 0 ≤ (szI (szN_work a0) (1048576 : Int)) ∧ (szI (szN_work a0) (1048576 : Int)) ≤ 1048576 := by omega
  have p0 := cts_work_sm s0
  simp only [cts_work] at p0
  have sA0 : sm_work ((workDone a0 a1 a2).1) = true := workDone_sm s0 s1
  have pA0 := cts_work_sm sA0
  simp only [cts_work] at pA0
  simp only [f10v0, f10v1, f10v2, cts_work_mk, hds_work_mk]
  simp (disch := omega) only [c1, g0, e0, c0, s0, s1, sA0, sm2, gmk_of, decide_ge0, decide_false, cond_true, cond_false, Bool.and_self, bne_self_eq_false, beq_self_eq_true, sEq_self, eqD_self, Bool.not_true, mkL_fail_ct, mkL_str_ct, cts_work, gDoneW]

noncomputable def q10 : List Dt → Option (Bool × List Dt)
  | [.d .work a0, .d .str a1, .d .bool a2] => some (((fun (x0 : WorkT) (x1 : ByteArray) (x2 : Bool) => ok_work x0 && okStr x1) a0 a1 a2), [.d .bool ((fun (_ : WorkT) (_ : ByteArray) (_ : Bool) => true) a0 a1 a2)])
  | _ => none
noncomputable def s10 : Gm.Spec := Gm.Spec.of [.ro, .ro, .ro] [false] true q10
theorem good10 : Gm.Good Try.prog (10, s10) := by
  have hl : ∀ x ∈ [(11, s11), (13, s13), (15, s15), (20, s20), (26, s26), (27, s27), (32, s32)], Gm.Good Try.prog x := List.forall_mem_cons.2 ⟨good11, List.forall_mem_cons.2 ⟨good13, List.forall_mem_cons.2 ⟨good15, List.forall_mem_cons.2 ⟨good20, List.forall_mem_cons.2 ⟨good26, List.forall_mem_cons.2 ⟨good27, List.forall_mem_cons.2 ⟨good32, List.forall_mem_nil _⟩⟩⟩⟩⟩⟩⟩
  refine ⟨⟨spec_ok (tab_ok.env hl) (tab.natl hl) Try.func10 (by kernel_rfl : Try.f10.body = some f10c) [4] (by kernel_rfl) ?_, _, Try.func10, by kernel_rfl, of_decide_eq_true (by kernel_rfl)⟩, Gm.Spec.of_natl _ _ _ _⟩
  intro ds outs h
  unfold q10 at h
  split at h
  · simp only [Option.some.injEq, Prod.mk.injEq] at h; obtain ⟨hg, h⟩ := h; cases h; exact f10_spec _ _ _ hg
  · cases h
end Go.Proofs.Ytmeeoilfnahihaa

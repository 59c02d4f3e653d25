/- What the functions compute, part 2. No conditions. -/
import Derived.Test.YtnbehmbjoanfoaaFnHistsFn1
namespace Go.Proofs.Ytnbehmbjoanfoaa
open Go Go.Gm
noncomputable def f139c : Code := (Try.f139.body).getD .skip
def f139k : Nat → Kp := kat [⟨[0], [], [], []⟩, ⟨[0], [], [], []⟩]
noncomputable def f139e : Env := tab.env []
theorem f139_run {R : Type} (n : Nat) (k : List Dt → Option R)  : evFn f139e f139k n f139c [] [false] true [.cell 0 37] [37] [] k =
    (k [.d .store (⟨([] : List ItemT), (1 : Int)⟩ : StoreT)]) := by kernel_rfl
theorem f139_spec  : ∃ keep rounds, ∀ {R : Type} (k : List Dt → Option R), evFn f139e keep rounds f139c [] [false] true [.cell 0 37] [37] [] k = k [.d .store storeNew] := by
  exact ⟨f139k, 0, fun k => f139_run 0 k⟩
noncomputable def q139 : List Dt → Option (Bool × List Dt)
  | [] => some (true, [.d .store storeNew])
  | _ => none
noncomputable def s139 : Gm.Spec := Gm.Spec.of [] [false] true q139
theorem good139 : Gm.Good Try.prog (139, s139) := by
  have hl : ∀ x ∈ ([] : List (Nat × Gm.Spec)), Gm.Good Try.prog x := fun _ h => by cases h
  refine ⟨⟨spec_ok (tab_ok.env hl) (tab.natl hl) Try.func139 (by kernel_rfl : Try.f139.body = some f139c) [37] (by kernel_rfl) ?_, _, Try.func139, by kernel_rfl, of_decide_eq_true (by kernel_rfl)⟩, Gm.Spec.of_natl _ _ _ _⟩
  intro ds outs h
  unfold q139 at h
  split at h
  · cases h; exact f139_spec 
  · cases h
noncomputable def f154S0 (y0 : Int) (y1 : List ItemT) (y2 : Int) (y4 : Int) (y5 : List ItemT) : St := ⟨[(1, .c (.one (.pt 1 0))), (2, .c (.one (.pt 2 0))), (3, .c (.one (.pt 3 0))), (4, .c (.one (.v (.int .i64 y0))))], [(1, ⟨.store, [.ro .item y1, .v (.int .i64 y2)]⟩), (2, ⟨.store, [.nl, .v (.int .i64 (0 : Int))]⟩), (3, ⟨.store, [.h 192 0 0 [], .v (.int .i64 y4)]⟩)], [(192, .live ⟨.item, .deep, 0, [], y5⟩)]⟩
noncomputable def f154S1 (y0 : Int) (y1 : Bool) (y2 : List ItemT) (y3 : Int) (y5 : Int) (y6 : List ItemT) : St := ⟨[(1, .c (.one (.pt 1 0))), (2, .c (.one (.pt 2 0))), (3, .c (.one (.pt 3 0))), (4, .c (.one (.v (.int .i64 y0)))), (12, .c (.one (.v (.bool y1))))], [(1, ⟨.store, [.ro .item y2, .v (.int .i64 y3)]⟩), (2, ⟨.store, [.nl, .v (.int .i64 (0 : Int))]⟩), (3, ⟨.store, [.h 192 0 0 [], .v (.int .i64 y5)]⟩)], [(192, .live ⟨.item, .deep, 0, [], y6⟩)]⟩
noncomputable def f154c : Code := (Try.f154.body).getD .skip
def f154k : Nat → Kp := kat [⟨[1, 2], [], [], []⟩, ⟨[1, 2, 3], [], [], []⟩, ⟨[1, 2, 3, 4], [⟨true, false, 3, 0, .item⟩], [], []⟩, ⟨[1, 2, 3, 4, 12], [], [], []⟩, ⟨[1, 2, 3, 4], [], [], []⟩, ⟨[1, 2, 3, 4], [], [], []⟩, ⟨[2], [], [], []⟩]
noncomputable def f154e : Env := tab.env [(111, s111)]
noncomputable def f154L0 {R : Type} (n : Nat) (x0 : Int → Bool → (List ItemT) → Option R) (vb1_0 : List ItemT) (vb1_1 : Int) (vb3_1 : Int) : Nat → Int → (List ItemT) → Option R
  | 0, _, _ => none
  | m + 1, vs4, vr192 =>
    (cond (decide (vs4 < (vb1_0.length : Int)))
   (cond ((decide ((0 : Int) ≤ vs4)) && (decide (vs4 < (vb1_0.length : Int))))
    (cond (sm_order (ItemT.order (atI (t := .item) vb1_0 (Int.toNat vs4))))
     (cond ((decide ((0 : Int) ≤ vs4)) && (decide (vs4 < (vb1_0.length : Int))))
      (cond (Nat.ble (vr192.length + 1) LIM)
       (f154L0 n x0 vb1_0 vb1_1 vb3_1 m (IntKind.wrap .i64 (vs4 + (1 : Int))) (vr192 ++ ([(atI (t := .item) vb1_0 (Int.toNat vs4))] : List ItemT)))
       none)
      none)
     none)
    none)
   (x0 vs4 (decide (vs4 < (vb1_0.length : Int))) vr192))
theorem f154L0_b {R : Type} (n : Nat) (k' : Ex → St → Option R) (vs4 : Int) (vb1_0 : List ItemT) (vb1_1 : Int) (vb3_1 : Int) (vr192 : List ItemT) : ev f154e f154k n (cAt [1,1,0,1,0,0] f154c) (f154S0 vs4 vb1_0 vb1_1 vb3_1 vr192) k' =
    (cond (decide (vs4 < (vb1_0.length : Int)))
  (cond ((decide ((0 : Int) ≤ vs4)) && (decide (vs4 < (vb1_0.length : Int))))
   (cond (sm_order (ItemT.order (atI (t := .item) vb1_0 (Int.toNat vs4))))
    (cond ((decide ((0 : Int) ≤ vs4)) && (decide (vs4 < (vb1_0.length : Int))))
     (cond (Nat.ble (vr192.length + 1) LIM)
      (k' .normal (f154S0 (IntKind.wrap .i64 (vs4 + (1 : Int))) vb1_0 vb1_1 vb3_1 (vr192 ++ ([(atI (t := .item) vb1_0 (Int.toNat vs4))] : List ItemT))))
      none)
     none)
    none)
   none)
  (k' (.exit 0) (f154S1 vs4 (decide (vs4 < (vb1_0.length : Int))) vb1_0 vb1_1 vb3_1 vr192))) := by kernel_rfl
theorem f154L0_eq {R : Type} (n : Nat) (k' : Ex → St → Option R) (vb1_0 : List ItemT) (vb1_1 : Int) (vb3_1 : Int) : ∀ (m : Nat) (vs4 : Int) (vr192 : List ItemT), iter (fun st k => ev f154e f154k n (cAt [1,1,0,1,0,0] f154c) st k) m (f154S0 vs4 vb1_0 vb1_1 vb3_1 vr192) k' = f154L0 n (fun (xvs4 : Int) (xvs12 : Bool) (xvr192 : List ItemT) => k' (.exit 0) (f154S1 xvs4 xvs12 vb1_0 vb1_1 vb3_1 xvr192)) vb1_0 vb1_1 vb3_1 m vs4 vr192 := by
  intro m; induction m with
  | zero => intros; rfl
  | succ m ih =>
    intro vs4 vr192
    simp only [iter]
    rw [f154L0_b]
    simp only [ih, f154L0]
noncomputable def f154K0 {R : Type} (n : Nat) (k' : Ex → St → Option R) : Ex → St → Option R := (blockK 0 (seqK f154e f154k n (cAt [1,1,1] f154c) k'))
theorem f154K0_x0 {R : Type} (n : Nat) (k : List Dt → Option R) (a0 : StoreT) (vb1_0 : List ItemT) (vb1_1 : Int) (vb3_1 : Int) (xvs4 : Int) (xvs12 : Bool) (xvr192 : List ItemT) : f154K0 n (exitK f154e [.ro] [false] true [.cell 2 37] [37] [.d .store a0] k) (.exit 0) (f154S1 xvs4 xvs12 vb1_0 vb1_1 vb3_1 xvr192) =
    (k [.d .store (⟨xvr192, vb3_1⟩ : StoreT)]) := by kernel_rfl
theorem f154_run {R : Type} (n : Nat) (k : List Dt → Option R) (a0 : StoreT) : evFn f154e f154k n f154c [.ro] [false] true [.cell 2 37] [37] [.d .store a0] k =
    (f154L0 n (fun (xvs4 : Int) (xvs12 : Bool) (xvr192 : List ItemT) =>
  (k [.d .store (⟨xvr192, (StoreT.next a0)⟩ : StoreT)])) (StoreT.items a0) (StoreT.next a0) (StoreT.next a0) n (0 : Int) ([] : List ItemT)) := by
  refine Eq.trans (b := (iter (fun st k => ev f154e f154k n (cAt [1,1,0,1,0,0] f154c) st k) n (f154S0 (0 : Int) (StoreT.items a0) (StoreT.next a0) (StoreT.next a0) ([] : List ItemT)) (f154K0 n (exitK f154e [.ro] [false] true [.cell 2 37] [37] [.d .store a0] k)))) (by kernel_rfl) ?_
  simp only [f154L0_eq, f154K0_x0]
theorem f154_spec (a0 : StoreT) (hg : sm_store a0 = true) : ∃ keep rounds, ∀ {R : Type} (k : List Dt → Option R), evFn f154e keep rounds f154c [.ro] [false] true [.cell 2 37] [37] [.d .store a0] k = k [.d .store a0] := by
  simp only [sm_store, Bool.and_eq_true] at hg
  obtain ⟨hg, _⟩ := hg
  have hl := smL_len hg
  refine ⟨f154k, a0.items.length + 1, fun {R} k => ?_⟩
  rw [f154_run]
  refine Eq.trans (loop_acc (xs := a0.items) (F := fun m j out => f154L0 (a0.items.length + 1) _ a0.items a0.next a0.next m (j : Int) out) (f := fun out x => out ++ [x]) (good := fun out => k [.d .store ⟨out, a0.next⟩]) (fun j out => out.length ≤ j)
    (fun j out x hx hi => by simp only [List.length_append, List.length_cons, List.length_nil]; omega) (fun m j out x hx hi => ?_) (fun m out hi => by simp only [f154L0, idxE, cond_false]) a0.items.length 0 (a0.items.length + 1) [] (by omega) (by omega) (by simp)) ?_
  · obtain ⟨h1, h0, hw, ht⟩ := idx (lt_of_get hx) (by omega)
    have hj := lt_of_get hx
    have hs := List.all_eq_true.1 (smL_all hg) x (List.mem_of_getElem? hx)
    simp only [sm_item, Bool.and_eq_true] at hs
    have hlim : Nat.ble (out.length + 1) LIM = true := Nat.ble_eq_true_of_le (by have : (LIM : Nat) = 4294967296 := rfl; omega)
    simp only [f154L0, h1, h0, hw, ht, atI_of (t := .item) hx, Bool.and_self, cond_true, hlim, hs.1]
  · rw [List.drop_zero, foldl_snoc, List.nil_append]
noncomputable def q154 : List Dt → Option (Bool × List Dt)
  | [.d .store a0] => some ((sm_store a0), [.d .store a0])
  | _ => none
noncomputable def s154 : Gm.Spec := Gm.Spec.of [.ro] [false] true q154
theorem good154 : Gm.Good Try.prog (154, s154) := by
  have hl : ∀ x ∈ [(111, s111)], Gm.Good Try.prog x := List.forall_mem_cons.2 ⟨good111, List.forall_mem_nil _⟩
  refine ⟨⟨spec_ok (tab_ok.env hl) (tab.natl hl) Try.func154 (by kernel_rfl : Try.f154.body = some f154c) [37] (by kernel_rfl) ?_, _, Try.func154, by kernel_rfl, of_decide_eq_true (by kernel_rfl)⟩, Gm.Spec.of_natl _ _ _ _⟩
  intro ds outs h
  unfold q154 at h
  split at h
  · simp only [Option.some.injEq, Prod.mk.injEq] at h; obtain ⟨hg, h⟩ := h; cases h; exact f154_spec _ hg
  · cases h
noncomputable def f155S0 (y0 : ByteArray) (y1 : Int) (y2 : List ItemT) (y3 : Int) : St := ⟨[(1, .c (.one (.v (.string y0)))), (2, .c (.one (.pt 2 0))), (5, .c (.one (.v (.int .i64 y1))))], [(2, ⟨.store, [.ro .item y2, .v (.int .i64 y3)]⟩)], []⟩
noncomputable def f155S1 (y0 : Int) : St := ⟨[(4, .c (.one (.v (.int .i64 y0))))], [], []⟩
noncomputable def f155S2 (y0 : ByteArray) (y1 : Int) (y2 : Bool) (y3 : List ItemT) (y4 : Int) : St := ⟨[(1, .c (.one (.v (.string y0)))), (2, .c (.one (.pt 2 0))), (5, .c (.one (.v (.int .i64 y1)))), (10, .c (.one (.v (.bool y2))))], [(2, ⟨.store, [.ro .item y3, .v (.int .i64 y4)]⟩)], []⟩
noncomputable def f155c : Code := (Try.f155.body).getD .skip
def f155k : Nat → Kp := kat [⟨[1, 2], [], [], []⟩, ⟨[1, 2, 5], [], [], []⟩, ⟨[1, 2, 5, 10], [], [], []⟩, ⟨[1, 2, 5], [], [], []⟩, ⟨[1, 2, 5, 21], [], [], []⟩, ⟨[4], [], [], []⟩, ⟨[4], [], [], []⟩]
noncomputable def f155e : Env := tab.env []
noncomputable def f155L0 {R : Type} (n : Nat) (x0 : Int → Option R) (x1 : Int → Bool → Option R) (vs1 : ByteArray) (vb2_0 : List ItemT) (vb2_1 : Int) : Nat → Int → Option R
  | 0, _ => none
  | m + 1, vs5 =>
    (cond (decide (vs5 < (vb2_0.length : Int)))
   (cond ((decide ((0 : Int) ≤ vs5)) && (decide (vs5 < (vb2_0.length : Int))))
    (cond (sEq (OrderT.name (ItemT.order (atI (t := .item) vb2_0 (Int.toNat vs5)))) vs1)
     (x0 vs5)
     (f155L0 n x0 x1 vs1 vb2_0 vb2_1 m (IntKind.wrap .i64 (vs5 + (1 : Int)))))
    none)
   (x1 vs5 (decide (vs5 < (vb2_0.length : Int)))))
theorem f155L0_b {R : Type} (n : Nat) (k' : Ex → St → Option R) (vs1 : ByteArray) (vs5 : Int) (vb2_0 : List ItemT) (vb2_1 : Int) : ev f155e f155k n (cAt [1,0,1,0,0] f155c) (f155S0 vs1 vs5 vb2_0 vb2_1) k' =
    (cond (decide (vs5 < (vb2_0.length : Int)))
  (cond ((decide ((0 : Int) ≤ vs5)) && (decide (vs5 < (vb2_0.length : Int))))
   (cond (sEq (OrderT.name (ItemT.order (atI (t := .item) vb2_0 (Int.toNat vs5)))) vs1)
    (k' .ret (f155S1 vs5))
    (k' .normal (f155S0 vs1 (IntKind.wrap .i64 (vs5 + (1 : Int))) vb2_0 vb2_1)))
   none)
  (k' (.exit 0) (f155S2 vs1 vs5 (decide (vs5 < (vb2_0.length : Int))) vb2_0 vb2_1))) := by kernel_rfl
theorem f155L0_eq {R : Type} (n : Nat) (k' : Ex → St → Option R) (vs1 : ByteArray) (vb2_0 : List ItemT) (vb2_1 : Int) : ∀ (m : Nat) (vs5 : Int), iter (fun st k => ev f155e f155k n (cAt [1,0,1,0,0] f155c) st k) m (f155S0 vs1 vs5 vb2_0 vb2_1) k' = f155L0 n (fun (xvs4 : Int) => k' .ret (f155S1 xvs4)) (fun (xvs5 : Int) (xvs10 : Bool) => k' (.exit 0) (f155S2 vs1 xvs5 xvs10 vb2_0 vb2_1)) vs1 vb2_0 vb2_1 m vs5 := by
  intro m; induction m with
  | zero => intros; rfl
  | succ m ih =>
    intro vs5
    simp only [iter]
    rw [f155L0_b]
    simp only [ih, f155L0]
noncomputable def f155K0 {R : Type} (n : Nat) (k' : Ex → St → Option R) : Ex → St → Option R := (blockK 0 (seqK f155e f155k n (cAt [1,1] f155c) k'))
theorem f155K0_x0 {R : Type} (n : Nat) (k : List Dt → Option R) (a0 : StoreT) (a1 : ByteArray) (xvs4 : Int) : f155K0 n (exitK f155e [.ro, .ro] [false] true [.tmp 4] [3] [.d .store a0, .d .str a1] k) .ret (f155S1 xvs4) =
    (k [.d (.i .i64) xvs4]) := by kernel_rfl
theorem f155K0_x1 {R : Type} (n : Nat) (k : List Dt → Option R) (a0 : StoreT) (a1 : ByteArray) (vs1 : ByteArray) (vb2_0 : List ItemT) (vb2_1 : Int) (xvs5 : Int) (xvs10 : Bool) : f155K0 n (exitK f155e [.ro, .ro] [false] true [.tmp 4] [3] [.d .store a0, .d .str a1] k) (.exit 0) (f155S2 vs1 xvs5 xvs10 vb2_0 vb2_1) =
    (k [.d (.i .i64) (-1 : Int)]) := by kernel_rfl
theorem f155_run {R : Type} (n : Nat) (k : List Dt → Option R) (a0 : StoreT) (a1 : ByteArray) : evFn f155e f155k n f155c [.ro, .ro] [false] true [.tmp 4] [3] [.d .store a0, .d .str a1] k =
    (f155L0 n (fun (xvs4 : Int) =>
  (k [.d (.i .i64) xvs4])) (fun (xvs5 : Int) (xvs10 : Bool) =>
  (k [.d (.i .i64) (-1 : Int)])) a1 (StoreT.items a0) (StoreT.next a0) n (0 : Int)) := by
  refine Eq.trans (b := (iter (fun st k => ev f155e f155k n (cAt [1,0,1,0,0] f155c) st k) n (f155S0 a1 (0 : Int) (StoreT.items a0) (StoreT.next a0)) (f155K0 n (exitK f155e [.ro, .ro] [false] true [.tmp 4] [3] [.d .store a0, .d .str a1] k)))) (by kernel_rfl) ?_
  simp only [f155L0_eq, f155K0_x0, f155K0_x1]
theorem f155_spec (a0 : StoreT) (a1 : ByteArray) (hg : gLenW a0.items = true) : ∃ keep rounds, ∀ {R : Type} (k : List Dt → Option R), evFn f155e keep rounds f155c [.ro, .ro] [false] true [.tmp 4] [3] [.d .store a0, .d .str a1] k = k [.d (.i .i64) (itemAt a0 a1)] := by
  have hl := gLenW_le hg
  refine ⟨f155k, a0.items.length + 1, fun k => ?_⟩
  rw [f155_run]
  refine Eq.trans (loop_find (n := a0.items.length) (F := fun m i => f155L0 (a0.items.length + 1) _ _ a1 a0.items a0.next m i) (p := fun j => sEq (atI (t := .item) a0.items j).order.name a1) (hit := fun i => k [.d (.i .i64) i]) (miss := k [.d (.i .i64) (-1 : Int)])
    (fun m j hj => ?_) (fun m => by simp only [f155L0, idxE, cond_false]) a0.items.length 0 (a0.items.length + 1) (by omega) (by omega)) ?_
  · obtain ⟨h1, h0, hw, ht⟩ := idx hj (by omega)
    simp only [f155L0, h1, h0, hw, ht, Bool.and_self, cond_true]
  · show _ = k [.d (.i .i64) (plc _)]
    cases firstN (fun j => sEq (atI (t := .item) a0.items j).order.name a1) 0 a0.items.length <;> rfl
noncomputable def q155 : List Dt → Option (Bool × List Dt)
  | [.d .store a0, .d .str a1] => some (((fun (s : StoreT) (_ : ByteArray) => gLenW s.items) a0 a1), [.d (.i .i64) (itemAt a0 a1)])
  | _ => none
noncomputable def s155 : Gm.Spec := Gm.Spec.of [.ro, .ro] [false] true q155
theorem good155 : Gm.Good Try.prog (155, s155) := by
  have hl : ∀ x ∈ ([] : List (Nat × Gm.Spec)), Gm.Good Try.prog x := fun _ h => by cases h
  refine ⟨⟨spec_ok (tab_ok.env hl) (tab.natl hl) Try.func155 (by kernel_rfl : Try.f155.body = some f155c) [3] (by kernel_rfl) ?_, _, Try.func155, by kernel_rfl, of_decide_eq_true (by kernel_rfl)⟩, Gm.Spec.of_natl _ _ _ _⟩
  intro ds outs h
  unfold q155 at h
  split at h
  · simp only [Option.some.injEq, Prod.mk.injEq] at h; obtain ⟨hg, h⟩ := h; cases h; exact f155_spec _ _ hg
  · cases h
noncomputable def f141S0 (y0 : Int) (y1 : ByteArray) (y2 : ByteArray) (y3 : Int) (y4 : Int) (y5 : List MetricT) (y6 : Int) (y7 : Int) (y8 : Int) (y9 : Int) (y10 : List NoteT) (y12 : Int) (y13 : Int) (y14 : ByteArray) (y15 : ByteArray) (y16 : Int) (y17 : Int) (y18 : Int) (y19 : Int) (y20 : Int) (y21 : Int) (y22 : Int) (y23 : List ItemT) (y24 : List ItemT) (y25 : List MetricT) (y26 : List NoteT) : St := ⟨[(3, .c (.one (.pt 3 0))), (4, .c (.one (.pt 4 0))), (6, .c (.one (.pt 6 0))), (7, .c (.one (.pt 7 0))), (8, .c (.one (.pt 8 0))), (9, .c (.one (.v (.int .i64 y0))))], [(3, ⟨.order, [.v (.string y1), .v (.string y2), .v (.int .i64 y3), .v (.int .i64 y4), .ro .metric y5, .v (.int .i64 y6), .v (.int .i64 y7), .v (.int .i64 y8), .v (.int .i64 y9), .ro .note y10]⟩), (4, ⟨.store, [.nl, .v (.int .i64 (0 : Int))]⟩), (6, ⟨.store, [.h 768 0 0 [], .v (.int .i64 y12)]⟩), (7, ⟨.store, [.h 1152 0 0 [], .v (.int .i64 y13)]⟩), (8, ⟨.item, [.v (.string y14), .v (.string y15), .v (.int .i64 y16), .v (.int .i64 y17), .h 1280 0 0 [], .v (.int .i64 y18), .v (.int .i64 y19), .v (.int .i64 y20), .v (.int .i64 y21), .h 1281 0 0 [], .v (.int .i64 y22)]⟩)], [(768, .live ⟨.item, .deep, 0, [], y23⟩), (1152, .live ⟨.item, .deep, 0, [], y24⟩), (1280, .live ⟨.metric, .deep, 0, [], y25⟩), (1281, .live ⟨.note, .deep, 0, [], y26⟩)]⟩
noncomputable def f141S1 (y0 : Int) (y1 : Bool) (y2 : ByteArray) (y3 : ByteArray) (y4 : Int) (y5 : Int) (y6 : List MetricT) (y7 : Int) (y8 : Int) (y9 : Int) (y10 : Int) (y11 : List NoteT) (y13 : Int) (y14 : Int) (y15 : ByteArray) (y16 : ByteArray) (y17 : Int) (y18 : Int) (y19 : Int) (y20 : Int) (y21 : Int) (y22 : Int) (y23 : Int) (y24 : List ItemT) (y25 : List ItemT) (y26 : List MetricT) (y27 : List NoteT) : St := ⟨[(3, .c (.one (.pt 3 0))), (4, .c (.one (.pt 4 0))), (6, .c (.one (.pt 6 0))), (7, .c (.one (.pt 7 0))), (8, .c (.one (.pt 8 0))), (9, .c (.one (.v (.int .i64 y0)))), (55, .c (.one (.v (.bool y1))))], [(3, ⟨.order, [.v (.string y2), .v (.string y3), .v (.int .i64 y4), .v (.int .i64 y5), .ro .metric y6, .v (.int .i64 y7), .v (.int .i64 y8), .v (.int .i64 y9), .v (.int .i64 y10), .ro .note y11]⟩), (4, ⟨.store, [.nl, .v (.int .i64 (0 : Int))]⟩), (6, ⟨.store, [.h 768 0 0 [], .v (.int .i64 y13)]⟩), (7, ⟨.store, [.h 1152 0 0 [], .v (.int .i64 y14)]⟩), (8, ⟨.item, [.v (.string y15), .v (.string y16), .v (.int .i64 y17), .v (.int .i64 y18), .h 1280 0 0 [], .v (.int .i64 y19), .v (.int .i64 y20), .v (.int .i64 y21), .v (.int .i64 y22), .h 1281 0 0 [], .v (.int .i64 y23)]⟩)], [(768, .live ⟨.item, .deep, 0, [], y24⟩), (1152, .live ⟨.item, .deep, 0, [], y25⟩), (1280, .live ⟨.metric, .deep, 0, [], y26⟩), (1281, .live ⟨.note, .deep, 0, [], y27⟩)]⟩
noncomputable def f141c : Code := (Try.f141.body).getD .skip
def f141k : Nat → Kp := kat [⟨[2, 3, 4], [], [], []⟩, ⟨[2, 3, 4, 6], [], [], []⟩, ⟨[2, 3, 4, 6, 15], [], [], []⟩, ⟨[4, 5], [], [], []⟩, ⟨[2, 3, 4, 6, 7], [], [], []⟩, ⟨[2, 3, 4, 6, 7, 8], [], [], []⟩, ⟨[2, 3, 4, 6, 7, 8], [], [], []⟩, ⟨[3, 4, 6, 7, 8, 9], [], [], []⟩, ⟨[3, 4, 6, 7, 8, 9, 33], [], [], []⟩, ⟨[4, 6, 7], [], [], []⟩, ⟨[3, 4, 6, 7, 8, 9], [], [], []⟩, ⟨[3, 4, 6, 7, 8, 9, 55], [], [], []⟩, ⟨[3, 4, 6, 7, 8, 9], [], [], []⟩, ⟨[4, 6, 7, 8, 9, 10], [], [], []⟩, ⟨[4, 6, 7, 9, 10], [], [], []⟩, ⟨[4, 6, 7], [], [], []⟩, ⟨[4, 6, 7, 77], [], [], []⟩, ⟨[4, 5], [], [], []⟩, ⟨[4, 5], [], [], []⟩]
noncomputable def f141e : Env := tab.env [(111, s111), (154, s154), (155, s155), (156, s156)]
noncomputable def f141L0 {R : Type} (n : Nat) (x0 : Int → Bool → Option R) (x1 : Int → Option R) (vb3_0 : ByteArray) (vb3_1 : ByteArray) (vb3_2 : Int) (vb3_3 : Int) (vb3_4 : List MetricT) (vb3_5 : Int) (vb3_6 : Int) (vb3_7 : Int) (vb3_8 : Int) (vb3_9 : List NoteT) (vb6_1 : Int) (vb7_1 : Int) (vb8_0 : ByteArray) (vb8_1 : ByteArray) (vb8_2 : Int) (vb8_3 : Int) (vb8_5 : Int) (vb8_6 : Int) (vb8_7 : Int) (vb8_8 : Int) (vb8_10 : Int) (vr768 : List ItemT) (vr1152 : List ItemT) (vr1280 : List MetricT) (vr1281 : List NoteT) : Nat → Int → Option R
  | 0, _ => none
  | m + 1, vs9 =>
    (cond (decide (vs9 < (vr1152.length : Int)))
   (cond ((decide ((0 : Int) ≤ vs9)) && (decide (vs9 < (vr1152.length : Int))))
    (cond (sLt (OrderT.name (ItemT.order (atI (t := .item) vr1152 (Int.toNat vs9)))) vb3_0)
     (f141L0 n x0 x1 vb3_0 vb3_1 vb3_2 vb3_3 vb3_4 vb3_5 vb3_6 vb3_7 vb3_8 vb3_9 vb6_1 vb7_1 vb8_0 vb8_1 vb8_2 vb8_3 vb8_5 vb8_6 vb8_7 vb8_8 vb8_10 vr768 vr1152 vr1280 vr1281 m (IntKind.wrap .i64 (vs9 + (1 : Int))))
     (x0 vs9 (sLt (OrderT.name (ItemT.order (atI (t := .item) vr1152 (Int.toNat vs9)))) vb3_0)))
    none)
   (x1 vs9))
theorem f141L0_b {R : Type} (n : Nat) (k' : Ex → St → Option R) (vs9 : Int) (vb3_0 : ByteArray) (vb3_1 : ByteArray) (vb3_2 : Int) (vb3_3 : Int) (vb3_4 : List MetricT) (vb3_5 : Int) (vb3_6 : Int) (vb3_7 : Int) (vb3_8 : Int) (vb3_9 : List NoteT) (vb6_1 : Int) (vb7_1 : Int) (vb8_0 : ByteArray) (vb8_1 : ByteArray) (vb8_2 : Int) (vb8_3 : Int) (vb8_5 : Int) (vb8_6 : Int) (vb8_7 : Int) (vb8_8 : Int) (vb8_10 : Int) (vr768 : List ItemT) (vr1152 : List ItemT) (vr1280 : List MetricT) (vr1281 : List NoteT) : ev f141e f141k n (cAt [1,1,1,1,1,1,1,0,1,1,1,0,0,0] f141c) (f141S0 vs9 vb3_0 vb3_1 vb3_2 vb3_3 vb3_4 vb3_5 vb3_6 vb3_7 vb3_8 vb3_9 vb6_1 vb7_1 vb8_0 vb8_1 vb8_2 vb8_3 vb8_5 vb8_6 vb8_7 vb8_8 vb8_10 vr768 vr1152 vr1280 vr1281) k' =
    (cond (decide (vs9 < (vr1152.length : Int)))
  (cond ((decide ((0 : Int) ≤ vs9)) && (decide (vs9 < (vr1152.length : Int))))
   (cond (sLt (OrderT.name (ItemT.order (atI (t := .item) vr1152 (Int.toNat vs9)))) vb3_0)
    (k' .normal (f141S0 (IntKind.wrap .i64 (vs9 + (1 : Int))) vb3_0 vb3_1 vb3_2 vb3_3 vb3_4 vb3_5 vb3_6 vb3_7 vb3_8 vb3_9 vb6_1 vb7_1 vb8_0 vb8_1 vb8_2 vb8_3 vb8_5 vb8_6 vb8_7 vb8_8 vb8_10 vr768 vr1152 vr1280 vr1281))
    (k' (.exit 0) (f141S1 vs9 (sLt (OrderT.name (ItemT.order (atI (t := .item) vr1152 (Int.toNat vs9)))) vb3_0) vb3_0 vb3_1 vb3_2 vb3_3 vb3_4 vb3_5 vb3_6 vb3_7 vb3_8 vb3_9 vb6_1 vb7_1 vb8_0 vb8_1 vb8_2 vb8_3 vb8_5 vb8_6 vb8_7 vb8_8 vb8_10 vr768 vr1152 vr1280 vr1281)))
   none)
  (k' (.exit 0) (f141S1 vs9 false vb3_0 vb3_1 vb3_2 vb3_3 vb3_4 vb3_5 vb3_6 vb3_7 vb3_8 vb3_9 vb6_1 vb7_1 vb8_0 vb8_1 vb8_2 vb8_3 vb8_5 vb8_6 vb8_7 vb8_8 vb8_10 vr768 vr1152 vr1280 vr1281))) := by kernel_rfl
theorem f141L0_eq {R : Type} (n : Nat) (k' : Ex → St → Option R) (vb3_0 : ByteArray) (vb3_1 : ByteArray) (vb3_2 : Int) (vb3_3 : Int) (vb3_4 : List MetricT) (vb3_5 : Int) (vb3_6 : Int) (vb3_7 : Int) (vb3_8 : Int) (vb3_9 : List NoteT) (vb6_1 : Int) (vb7_1 : Int) (vb8_0 : ByteArray) (vb8_1 : ByteArray) (vb8_2 : Int) (vb8_3 : Int) (vb8_5 : Int) (vb8_6 : Int) (vb8_7 : Int) (vb8_8 : Int) (vb8_10 : Int) (vr768 : List ItemT) (vr1152 : List ItemT) (vr1280 : List MetricT) (vr1281 : List NoteT) : ∀ (m : Nat) (vs9 : Int), iter (fun st k => ev f141e f141k n (cAt [1,1,1,1,1,1,1,0,1,1,1,0,0,0] f141c) st k) m (f141S0 vs9 vb3_0 vb3_1 vb3_2 vb3_3 vb3_4 vb3_5 vb3_6 vb3_7 vb3_8 vb3_9 vb6_1 vb7_1 vb8_0 vb8_1 vb8_2 vb8_3 vb8_5 vb8_6 vb8_7 vb8_8 vb8_10 vr768 vr1152 vr1280 vr1281) k' = f141L0 n (fun (xvs9 : Int) (xvs55 : Bool) => k' (.exit 0) (f141S1 xvs9 xvs55 vb3_0 vb3_1 vb3_2 vb3_3 vb3_4 vb3_5 vb3_6 vb3_7 vb3_8 vb3_9 vb6_1 vb7_1 vb8_0 vb8_1 vb8_2 vb8_3 vb8_5 vb8_6 vb8_7 vb8_8 vb8_10 vr768 vr1152 vr1280 vr1281)) (fun (xvs9 : Int) => k' (.exit 0) (f141S1 xvs9 false vb3_0 vb3_1 vb3_2 vb3_3 vb3_4 vb3_5 vb3_6 vb3_7 vb3_8 vb3_9 vb6_1 vb7_1 vb8_0 vb8_1 vb8_2 vb8_3 vb8_5 vb8_6 vb8_7 vb8_8 vb8_10 vr768 vr1152 vr1280 vr1281)) vb3_0 vb3_1 vb3_2 vb3_3 vb3_4 vb3_5 vb3_6 vb3_7 vb3_8 vb3_9 vb6_1 vb7_1 vb8_0 vb8_1 vb8_2 vb8_3 vb8_5 vb8_6 vb8_7 vb8_8 vb8_10 vr768 vr1152 vr1280 vr1281 m vs9 := by
  intro m; induction m with
  | zero => intros; rfl
  | succ m ih =>
    intro vs9
    simp only [iter]
    rw [f141L0_b]
    simp only [ih, f141L0]
noncomputable def f141K0 {R : Type} (n : Nat) (k' : Ex → St → Option R) : Ex → St → Option R := (blockK 0 (seqK f141e f141k n (cAt [1,1,1,1,1,1,1,0,1,1,1,1] f141c) (seqK f141e f141k n (cAt [1,1,1,1,1,1,1,1] f141c) k')))
theorem f141K0_x0 {R : Type} (n : Nat) (k : List Dt → Option R) (a0 : StoreT) (a1 : OrderT) (vb3_0 : ByteArray) (vb3_1 : ByteArray) (vb3_2 : Int) (vb3_3 : Int) (vb3_4 : List MetricT) (vb3_5 : Int) (vb3_6 : Int) (vb3_7 : Int) (vb3_8 : Int) (vb3_9 : List NoteT) (vb6_1 : Int) (vb7_1 : Int) (vb8_0 : ByteArray) (vb8_1 : ByteArray) (vb8_2 : Int) (vb8_3 : Int) (vb8_5 : Int) (vb8_6 : Int) (vb8_7 : Int) (vb8_8 : Int) (vb8_10 : Int) (vr768 : List ItemT) (vr1152 : List ItemT) (vr1280 : List MetricT) (vr1281 : List NoteT) (xvs9 : Int) (xvs55 : Bool) : f141K0 n (exitK f141e [.ro, .ro] [false, false] true [.cell 4 37, .tmp 5] [37, 4] [.d .store a0, .d .order a1] k) (.exit 0) (f141S1 xvs9 xvs55 vb3_0 vb3_1 vb3_2 vb3_3 vb3_4 vb3_5 vb3_6 vb3_7 vb3_8 vb3_9 vb6_1 vb7_1 vb8_0 vb8_1 vb8_2 vb8_3 vb8_5 vb8_6 vb8_7 vb8_8 vb8_10 vr768 vr1152 vr1280 vr1281) =
    (cond ((decide ((0 : Int) ≤ xvs9)) && (decide (xvs9 ≤ (vr1152.length : Int))))
  (cond (Nat.ble (0 + ((vr1152.take (Int.toNat xvs9)).drop 0).length) LIM)
   (cond (Nat.ble ((([] : List ItemT) ++ ((vr1152.take (Int.toNat xvs9)).drop 0)).length + 1) LIM)
    (cond ((decide ((0 : Int) ≤ xvs9)) && ((decide (xvs9 ≤ (vr1152.length : Int))) && (decide ((vr1152.length : Int) ≤ (vr1152.length : Int)))))
     (cond (leC (Int.toNat xvs9) 0 (Int.toNat xvs9) 0)
      (cond (Nat.ble (((([] : List ItemT) ++ ((vr1152.take (Int.toNat xvs9)).drop 0)) ++ ([(⟨(⟨vb8_0, vb8_1, vb8_2, vb8_3, vr1280, (⟨vb8_5, vb8_6, vb8_7, vb8_8⟩ : PaceT), vr1281⟩ : OrderT), vb8_10⟩ : ItemT)] : List ItemT)).length + ((vr1152.take (Int.toNat (vr1152.length : Int))).drop (Int.toNat xvs9)).length) LIM)
       (cond (sm_store (⟨(((([] : List ItemT) ++ ((vr1152.take (Int.toNat xvs9)).drop 0)) ++ ([(⟨(⟨vb8_0, vb8_1, vb8_2, vb8_3, vr1280, (⟨vb8_5, vb8_6, vb8_7, vb8_8⟩ : PaceT), vr1281⟩ : OrderT), vb8_10⟩ : ItemT)] : List ItemT)) ++ ((vr1152.take (Int.toNat (vr1152.length : Int))).drop (Int.toNat xvs9))), vb7_1⟩ : StoreT))
        (cond (!(storeOk (⟨(((([] : List ItemT) ++ ((vr1152.take (Int.toNat xvs9)).drop 0)) ++ ([(⟨(⟨vb8_0, vb8_1, vb8_2, vb8_3, vr1280, (⟨vb8_5, vb8_6, vb8_7, vb8_8⟩ : PaceT), vr1281⟩ : OrderT), vb8_10⟩ : ItemT)] : List ItemT)) ++ ((vr1152.take (Int.toNat (vr1152.length : Int))).drop (Int.toNat xvs9))), vb7_1⟩ : StoreT)))
         (k [.d .store (⟨vr768, vb6_1⟩ : StoreT), .d .bool false])
         (k [.d .store (⟨(((([] : List ItemT) ++ ((vr1152.take (Int.toNat xvs9)).drop 0)) ++ ([(⟨(⟨vb8_0, vb8_1, vb8_2, vb8_3, vr1280, (⟨vb8_5, vb8_6, vb8_7, vb8_8⟩ : PaceT), vr1281⟩ : OrderT), vb8_10⟩ : ItemT)] : List ItemT)) ++ ((vr1152.take (Int.toNat (vr1152.length : Int))).drop (Int.toNat xvs9))), vb7_1⟩ : StoreT), .d .bool true]))
        none)
       none)
      none)
     none)
    none)
   none)
  none) := by kernel_rfl
theorem f141K0_x1 {R : Type} (n : Nat) (k : List Dt → Option R) (a0 : StoreT) (a1 : OrderT) (vb3_0 : ByteArray) (vb3_1 : ByteArray) (vb3_2 : Int) (vb3_3 : Int) (vb3_4 : List MetricT) (vb3_5 : Int) (vb3_6 : Int) (vb3_7 : Int) (vb3_8 : Int) (vb3_9 : List NoteT) (vb6_1 : Int) (vb7_1 : Int) (vb8_0 : ByteArray) (vb8_1 : ByteArray) (vb8_2 : Int) (vb8_3 : Int) (vb8_5 : Int) (vb8_6 : Int) (vb8_7 : Int) (vb8_8 : Int) (vb8_10 : Int) (vr768 : List ItemT) (vr1152 : List ItemT) (vr1280 : List MetricT) (vr1281 : List NoteT) (xvs9 : Int) : f141K0 n (exitK f141e [.ro, .ro] [false, false] true [.cell 4 37, .tmp 5] [37, 4] [.d .store a0, .d .order a1] k) (.exit 0) (f141S1 xvs9 false vb3_0 vb3_1 vb3_2 vb3_3 vb3_4 vb3_5 vb3_6 vb3_7 vb3_8 vb3_9 vb6_1 vb7_1 vb8_0 vb8_1 vb8_2 vb8_3 vb8_5 vb8_6 vb8_7 vb8_8 vb8_10 vr768 vr1152 vr1280 vr1281) =
    (cond ((decide ((0 : Int) ≤ xvs9)) && (decide (xvs9 ≤ (vr1152.length : Int))))
  (cond (Nat.ble (0 + ((vr1152.take (Int.toNat xvs9)).drop 0).length) LIM)
   (cond (Nat.ble ((([] : List ItemT) ++ ((vr1152.take (Int.toNat xvs9)).drop 0)).length + 1) LIM)
    (cond ((decide ((0 : Int) ≤ xvs9)) && ((decide (xvs9 ≤ (vr1152.length : Int))) && (decide ((vr1152.length : Int) ≤ (vr1152.length : Int)))))
     (cond (leC (Int.toNat xvs9) 0 (Int.toNat xvs9) 0)
      (cond (Nat.ble (((([] : List ItemT) ++ ((vr1152.take (Int.toNat xvs9)).drop 0)) ++ ([(⟨(⟨vb8_0, vb8_1, vb8_2, vb8_3, vr1280, (⟨vb8_5, vb8_6, vb8_7, vb8_8⟩ : PaceT), vr1281⟩ : OrderT), vb8_10⟩ : ItemT)] : List ItemT)).length + ((vr1152.take (Int.toNat (vr1152.length : Int))).drop (Int.toNat xvs9)).length) LIM)
       (cond (sm_store (⟨(((([] : List ItemT) ++ ((vr1152.take (Int.toNat xvs9)).drop 0)) ++ ([(⟨(⟨vb8_0, vb8_1, vb8_2, vb8_3, vr1280, (⟨vb8_5, vb8_6, vb8_7, vb8_8⟩ : PaceT), vr1281⟩ : OrderT), vb8_10⟩ : ItemT)] : List ItemT)) ++ ((vr1152.take (Int.toNat (vr1152.length : Int))).drop (Int.toNat xvs9))), vb7_1⟩ : StoreT))
        (cond (!(storeOk (⟨(((([] : List ItemT) ++ ((vr1152.take (Int.toNat xvs9)).drop 0)) ++ ([(⟨(⟨vb8_0, vb8_1, vb8_2, vb8_3, vr1280, (⟨vb8_5, vb8_6, vb8_7, vb8_8⟩ : PaceT), vr1281⟩ : OrderT), vb8_10⟩ : ItemT)] : List ItemT)) ++ ((vr1152.take (Int.toNat (vr1152.length : Int))).drop (Int.toNat xvs9))), vb7_1⟩ : StoreT)))
         (k [.d .store (⟨vr768, vb6_1⟩ : StoreT), .d .bool false])
         (k [.d .store (⟨(((([] : List ItemT) ++ ((vr1152.take (Int.toNat xvs9)).drop 0)) ++ ([(⟨(⟨vb8_0, vb8_1, vb8_2, vb8_3, vr1280, (⟨vb8_5, vb8_6, vb8_7, vb8_8⟩ : PaceT), vr1281⟩ : OrderT), vb8_10⟩ : ItemT)] : List ItemT)) ++ ((vr1152.take (Int.toNat (vr1152.length : Int))).drop (Int.toNat xvs9))), vb7_1⟩ : StoreT), .d .bool true]))
        none)
       none)
      none)
     none)
    none)
   none)
  none) := by kernel_rfl
theorem f141_run {R : Type} (n : Nat) (k : List Dt → Option R) (a0 : StoreT) (a1 : OrderT) : evFn f141e f141k n f141c [.ro, .ro] [false, false] true [.cell 4 37, .tmp 5] [37, 4] [.d .store a0, .d .order a1] k =
    (cond (sm_store a0)
  (cond (sm_store a0)
   (cond (!(storeOk a0))
    (k [.d .store a0, .d .bool false])
    (cond (sm_store a0)
     (cond (sm_order a1)
      (cond ((fun (s : StoreT) (_ : ByteArray) => gLenW s.items) a0 (OrderT.name a1))
       (cond (decide ((itemAt a0 (OrderT.name a1)) ≥ (0 : Int)))
        (cond ((decide ((0 : Int) ≤ (itemAt a0 (OrderT.name a1)))) && (decide ((itemAt a0 (OrderT.name a1)) < ((StoreT.items a0).length : Int))))
         (cond (sm_store (⟨((StoreT.items a0).set (Int.toNat (itemAt a0 (OrderT.name a1))) (⟨a1, (StoreT.next a0)⟩ : ItemT)), (IntKind.wrap .i64 ((StoreT.next a0) + (1 : Int)))⟩ : StoreT))
          (cond (!(storeOk (⟨((StoreT.items a0).set (Int.toNat (itemAt a0 (OrderT.name a1))) (⟨a1, (StoreT.next a0)⟩ : ItemT)), (IntKind.wrap .i64 ((StoreT.next a0) + (1 : Int)))⟩ : StoreT)))
           (k [.d .store a0, .d .bool false])
           (k [.d .store (⟨((StoreT.items a0).set (Int.toNat (itemAt a0 (OrderT.name a1))) (⟨a1, (StoreT.next a0)⟩ : ItemT)), (IntKind.wrap .i64 ((StoreT.next a0) + (1 : Int)))⟩ : StoreT), .d .bool true]))
          none)
         none)
        (f141L0 n (fun (xvs9 : Int) (xvs55 : Bool) =>
         (cond ((decide ((0 : Int) ≤ xvs9)) && (decide (xvs9 ≤ ((StoreT.items a0).length : Int))))
          (cond (Nat.ble (0 + (((StoreT.items a0).take (Int.toNat xvs9)).drop 0).length) LIM)
           (cond (Nat.ble ((([] : List ItemT) ++ (((StoreT.items a0).take (Int.toNat xvs9)).drop 0)).length + 1) LIM)
            (cond ((decide ((0 : Int) ≤ xvs9)) && ((decide (xvs9 ≤ ((StoreT.items a0).length : Int))) && (decide (((StoreT.items a0).length : Int) ≤ ((StoreT.items a0).length : Int)))))
             (cond (leC (Int.toNat xvs9) 0 (Int.toNat xvs9) 0)
              (cond (Nat.ble (((([] : List ItemT) ++ (((StoreT.items a0).take (Int.toNat xvs9)).drop 0)) ++ ([(⟨(⟨(OrderT.name a1), (OrderT.target a1), (OrderT.low a1), (OrderT.high a1), (OrderT.metrics a1), (⟨(PaceT.up (OrderT.pace a1)), (PaceT.down (OrderT.pace a1)), (PaceT.upSpan (OrderT.pace a1)), (PaceT.downSpan (OrderT.pace a1))⟩ : PaceT), (OrderT.notes a1)⟩ : OrderT), (StoreT.next a0)⟩ : ItemT)] : List ItemT)).length + (((StoreT.items a0).take (Int.toNat ((StoreT.items a0).length : Int))).drop (Int.toNat xvs9)).length) LIM)
               (cond (sm_store (⟨(((([] : List ItemT) ++ (((StoreT.items a0).take (Int.toNat xvs9)).drop 0)) ++ ([(⟨(⟨(OrderT.name a1), (OrderT.target a1), (OrderT.low a1), (OrderT.high a1), (OrderT.metrics a1), (⟨(PaceT.up (OrderT.pace a1)), (PaceT.down (OrderT.pace a1)), (PaceT.upSpan (OrderT.pace a1)), (PaceT.downSpan (OrderT.pace a1))⟩ : PaceT), (OrderT.notes a1)⟩ : OrderT), (StoreT.next a0)⟩ : ItemT)] : List ItemT)) ++ (((StoreT.items a0).take (Int.toNat ((StoreT.items a0).length : Int))).drop (Int.toNat xvs9))), (IntKind.wrap .i64 ((StoreT.next a0) + (1 : Int)))⟩ : StoreT))
                (cond (!(storeOk (⟨(((([] : List ItemT) ++ (((StoreT.items a0).take (Int.toNat xvs9)).drop 0)) ++ ([(⟨(⟨(OrderT.name a1), (OrderT.target a1), (OrderT.low a1), (OrderT.high a1), (OrderT.metrics a1), (⟨(PaceT.up (OrderT.pace a1)), (PaceT.down (OrderT.pace a1)), (PaceT.upSpan (OrderT.pace a1)), (PaceT.downSpan (OrderT.pace a1))⟩ : PaceT), (OrderT.notes a1)⟩ : OrderT), (StoreT.next a0)⟩ : ItemT)] : List ItemT)) ++ (((StoreT.items a0).take (Int.toNat ((StoreT.items a0).length : Int))).drop (Int.toNat xvs9))), (IntKind.wrap .i64 ((StoreT.next a0) + (1 : Int)))⟩ : StoreT)))
                 (k [.d .store (⟨(StoreT.items a0), (StoreT.next a0)⟩ : StoreT), .d .bool false])
                 (k [.d .store (⟨(((([] : List ItemT) ++ (((StoreT.items a0).take (Int.toNat xvs9)).drop 0)) ++ ([(⟨(⟨(OrderT.name a1), (OrderT.target a1), (OrderT.low a1), (OrderT.high a1), (OrderT.metrics a1), (⟨(PaceT.up (OrderT.pace a1)), (PaceT.down (OrderT.pace a1)), (PaceT.upSpan (OrderT.pace a1)), (PaceT.downSpan (OrderT.pace a1))⟩ : PaceT), (OrderT.notes a1)⟩ : OrderT), (StoreT.next a0)⟩ : ItemT)] : List ItemT)) ++ (((StoreT.items a0).take (Int.toNat ((StoreT.items a0).length : Int))).drop (Int.toNat xvs9))), (IntKind.wrap .i64 ((StoreT.next a0) + (1 : Int)))⟩ : StoreT), .d .bool true]))
                none)
               none)
              none)
             none)
            none)
           none)
          none)) (fun (xvs9 : Int) =>
         (cond ((decide ((0 : Int) ≤ xvs9)) && (decide (xvs9 ≤ ((StoreT.items a0).length : Int))))
          (cond (Nat.ble (0 + (((StoreT.items a0).take (Int.toNat xvs9)).drop 0).length) LIM)
           (cond (Nat.ble ((([] : List ItemT) ++ (((StoreT.items a0).take (Int.toNat xvs9)).drop 0)).length + 1) LIM)
            (cond ((decide ((0 : Int) ≤ xvs9)) && ((decide (xvs9 ≤ ((StoreT.items a0).length : Int))) && (decide (((StoreT.items a0).length : Int) ≤ ((StoreT.items a0).length : Int)))))
             (cond (leC (Int.toNat xvs9) 0 (Int.toNat xvs9) 0)
              (cond (Nat.ble (((([] : List ItemT) ++ (((StoreT.items a0).take (Int.toNat xvs9)).drop 0)) ++ ([(⟨(⟨(OrderT.name a1), (OrderT.target a1), (OrderT.low a1), (OrderT.high a1), (OrderT.metrics a1), (⟨(PaceT.up (OrderT.pace a1)), (PaceT.down (OrderT.pace a1)), (PaceT.upSpan (OrderT.pace a1)), (PaceT.downSpan (OrderT.pace a1))⟩ : PaceT), (OrderT.notes a1)⟩ : OrderT), (StoreT.next a0)⟩ : ItemT)] : List ItemT)).length + (((StoreT.items a0).take (Int.toNat ((StoreT.items a0).length : Int))).drop (Int.toNat xvs9)).length) LIM)
               (cond (sm_store (⟨(((([] : List ItemT) ++ (((StoreT.items a0).take (Int.toNat xvs9)).drop 0)) ++ ([(⟨(⟨(OrderT.name a1), (OrderT.target a1), (OrderT.low a1), (OrderT.high a1), (OrderT.metrics a1), (⟨(PaceT.up (OrderT.pace a1)), (PaceT.down (OrderT.pace a1)), (PaceT.upSpan (OrderT.pace a1)), (PaceT.downSpan (OrderT.pace a1))⟩ : PaceT), (OrderT.notes a1)⟩ : OrderT), (StoreT.next a0)⟩ : ItemT)] : List ItemT)) ++ (((StoreT.items a0).take (Int.toNat ((StoreT.items a0).length : Int))).drop (Int.toNat xvs9))), (IntKind.wrap .i64 ((StoreT.next a0) + (1 : Int)))⟩ : StoreT))
                (cond (!(storeOk (⟨(((([] : List ItemT) ++ (((StoreT.items a0).take (Int.toNat xvs9)).drop 0)) ++ ([(⟨(⟨(OrderT.name a1), (OrderT.target a1), (OrderT.low a1), (OrderT.high a1), (OrderT.metrics a1), (⟨(PaceT.up (OrderT.pace a1)), (PaceT.down (OrderT.pace a1)), (PaceT.upSpan (OrderT.pace a1)), (PaceT.downSpan (OrderT.pace a1))⟩ : PaceT), (OrderT.notes a1)⟩ : OrderT), (StoreT.next a0)⟩ : ItemT)] : List ItemT)) ++ (((StoreT.items a0).take (Int.toNat ((StoreT.items a0).length : Int))).drop (Int.toNat xvs9))), (IntKind.wrap .i64 ((StoreT.next a0) + (1 : Int)))⟩ : StoreT)))
                 (k [.d .store (⟨(StoreT.items a0), (StoreT.next a0)⟩ : StoreT), .d .bool false])
                 (k [.d .store (⟨(((([] : List ItemT) ++ (((StoreT.items a0).take (Int.toNat xvs9)).drop 0)) ++ ([(⟨(⟨(OrderT.name a1), (OrderT.target a1), (OrderT.low a1), (OrderT.high a1), (OrderT.metrics a1), (⟨(PaceT.up (OrderT.pace a1)), (PaceT.down (OrderT.pace a1)), (PaceT.upSpan (OrderT.pace a1)), (PaceT.downSpan (OrderT.pace a1))⟩ : PaceT), (OrderT.notes a1)⟩ : OrderT), (StoreT.next a0)⟩ : ItemT)] : List ItemT)) ++ (((StoreT.items a0).take (Int.toNat ((StoreT.items a0).length : Int))).drop (Int.toNat xvs9))), (IntKind.wrap .i64 ((StoreT.next a0) + (1 : Int)))⟩ : StoreT), .d .bool true]))
                none)
               none)
              none)
             none)
            none)
           none)
          none)) (OrderT.name a1) (OrderT.target a1) (OrderT.low a1) (OrderT.high a1) (OrderT.metrics a1) (PaceT.up (OrderT.pace a1)) (PaceT.down (OrderT.pace a1)) (PaceT.upSpan (OrderT.pace a1)) (PaceT.downSpan (OrderT.pace a1)) (OrderT.notes a1) (StoreT.next a0) (IntKind.wrap .i64 ((StoreT.next a0) + (1 : Int))) (OrderT.name a1) (OrderT.target a1) (OrderT.low a1) (OrderT.high a1) (PaceT.up (OrderT.pace a1)) (PaceT.down (OrderT.pace a1)) (PaceT.upSpan (OrderT.pace a1)) (PaceT.downSpan (OrderT.pace a1)) (StoreT.next a0) (StoreT.items a0) (StoreT.items a0) (OrderT.metrics a1) (OrderT.notes a1) n (0 : Int)))
       none)
      none)
     none))
   none)
  none) := by
  refine Eq.trans (b := (cond (sm_store a0)
  (cond (sm_store a0)
   (cond (!(storeOk a0))
    (k [.d .store a0, .d .bool false])
    (cond (sm_store a0)
     (cond (sm_order a1)
      (cond ((fun (s : StoreT) (_ : ByteArray) => gLenW s.items) a0 (OrderT.name a1))
       (cond (decide ((itemAt a0 (OrderT.name a1)) ≥ (0 : Int)))
        (cond ((decide ((0 : Int) ≤ (itemAt a0 (OrderT.name a1)))) && (decide ((itemAt a0 (OrderT.name a1)) < ((StoreT.items a0).length : Int))))
         (cond (sm_store (⟨((StoreT.items a0).set (Int.toNat (itemAt a0 (OrderT.name a1))) (⟨a1, (StoreT.next a0)⟩ : ItemT)), (IntKind.wrap .i64 ((StoreT.next a0) + (1 : Int)))⟩ : StoreT))
          (cond (!(storeOk (⟨((StoreT.items a0).set (Int.toNat (itemAt a0 (OrderT.name a1))) (⟨a1, (StoreT.next a0)⟩ : ItemT)), (IntKind.wrap .i64 ((StoreT.next a0) + (1 : Int)))⟩ : StoreT)))
           (k [.d .store a0, .d .bool false])
           (k [.d .store (⟨((StoreT.items a0).set (Int.toNat (itemAt a0 (OrderT.name a1))) (⟨a1, (StoreT.next a0)⟩ : ItemT)), (IntKind.wrap .i64 ((StoreT.next a0) + (1 : Int)))⟩ : StoreT), .d .bool true]))
          none)
         none)
        (iter (fun st k => ev f141e f141k n (cAt [1,1,1,1,1,1,1,0,1,1,1,0,0,0] f141c) st k) n (f141S0 (0 : Int) (OrderT.name a1) (OrderT.target a1) (OrderT.low a1) (OrderT.high a1) (OrderT.metrics a1) (PaceT.up (OrderT.pace a1)) (PaceT.down (OrderT.pace a1)) (PaceT.upSpan (OrderT.pace a1)) (PaceT.downSpan (OrderT.pace a1)) (OrderT.notes a1) (StoreT.next a0) (IntKind.wrap .i64 ((StoreT.next a0) + (1 : Int))) (OrderT.name a1) (OrderT.target a1) (OrderT.low a1) (OrderT.high a1) (PaceT.up (OrderT.pace a1)) (PaceT.down (OrderT.pace a1)) (PaceT.upSpan (OrderT.pace a1)) (PaceT.downSpan (OrderT.pace a1)) (StoreT.next a0) (StoreT.items a0) (StoreT.items a0) (OrderT.metrics a1) (OrderT.notes a1)) (f141K0 n (exitK f141e [.ro, .ro] [false, false] true [.cell 4 37, .tmp 5] [37, 4] [.d .store a0, .d .order a1] k))))
       none)
      none)
     none))
   none)
  none)) (by kernel_rfl) ?_
  simp only [f141L0_eq, f141K0_x0, f141K0_x1]
def f141_P (a0 : StoreT) (a1 : OrderT) (o : StoreT × Bool) : Prop := (fun s _ r => sm_store r.1 = true ∧ r.1.items.length ≤ s.items.length + 1) a0 a1 o ∧ ∃ n : Nat, ∀ {R : Type} (k : List Dt → Option R), evFn f141e f141k n f141c [.ro, .ro] [false, false] true [.cell 4 37, .tmp 5] [37, 4] [.d .store a0, .d .order a1] k = k [.d .store o.1, .d .bool o.2]
theorem f141_ex (a0 : StoreT) (a1 : OrderT) (hg : gSP a0 a1 = true) : ∃ o : StoreT × Bool, (fun s _ r => sm_store r.1 = true ∧ r.1.items.length ≤ s.items.length + 1) a0 a1 o ∧ ∃ n : Nat, ∀ {R : Type} (k : List Dt → Option R), evFn f141e f141k n f141c [.ro, .ro] [false, false] true [.cell 4 37, .tmp 5] [37, 4] [.d .store a0, .d .order a1] k = k [.d .store o.1, .d .bool o.2] := by
  have key : ∀ (nm b1 : ByteArray) (i2 i3 : Int) (ms : List MetricT) (i5 i6 i7 i8 : Int) (ns : List NoteT) (j1 j2 : Int) (c0 c1 : ByteArray) (e0 e1 e2 e3 e4 e5 e6 : Int) (ys xs : List ItemT) (ms2 : List MetricT) (ns2 : List NoteT), xs.length ≤ 1000 → ∀ (d m j : Nat), j + d = xs.length → d < m →
      ∃ q : Nat, q ≤ xs.length ∧ ∀ {R : Type} (X : Int → Bool → Option R) (Y Z : Int → Option R), (∀ i b, X i b = Z i) → (∀ i, Y i = Z i) → f141L0 1001 X Y nm b1 i2 i3 ms i5 i6 i7 i8 ns j1 j2 c0 c1 e0 e1 e2 e3 e4 e5 e6 ys xs ms2 ns2 m (j : Int) = Z (q : Int) := by
    intro nm b1 i2 i3 ms i5 i6 i7 i8 ns j1 j2 c0 c1 e0 e1 e2 e3 e4 e5 e6 ys xs ms2 ns2 hxs d
    induction d with
    | zero =>
      intro m j hj hm
      obtain ⟨m, rfl⟩ : ∃ m', m = m' + 1 := ⟨m - 1, by omega⟩
      refine ⟨j, by omega, fun {R} X Y Z hX hY => ?_⟩
      simp only [f141L0, decide_eq_false (show ¬ ((j : Int) < (xs.length : Int)) by omega), cond_false, hY]
    | succ d ih =>
      intro m j hj hm
      obtain ⟨m, rfl⟩ : ∃ m', m = m' + 1 := ⟨m - 1, by omega⟩
      obtain ⟨h1, h0, hw, ht⟩ := idx (show j < xs.length by omega) (by omega)
      cases hlt : sLt (atI (t := .item) xs j).order.name nm
      · refine ⟨j, by omega, fun {R} X Y Z hX hY => ?_⟩
        simp only [f141L0, h1, h0, ht, hlt, Bool.and_self, cond_true, cond_false, hX]
      · obtain ⟨q, hq, hh⟩ := ih m (j + 1) (by omega) (by omega)
        refine ⟨q, hq, fun {R} X Y Z hX hY => ?_⟩
        simp only [f141L0, h1, h0, hw, ht, hlt, Bool.and_self, cond_true, cond_false]
        exact hh X Y Z hX hY
  simp only [gSP, Bool.and_eq_true] at hg
  obtain ⟨hs, ho, hn⟩ := hg
  have hn := bleN hn
  obtain ⟨hi0, hnx⟩ := store_parts hs
  have gl : gLenW a0.items = true := gLenW_of (by omega)
  have hx := item_mk ho hnx
  cases hst : storeOk a0
  · refine ⟨(?az0, ?bz0), ?gz0, 0, ?rz0⟩
    case rz0 =>
      intro R k
      rw [f141_run]
      simp only [hs, hst, Bool.not_true, Bool.not_false, cond_true, cond_false]
      exact rfl
    case gz0 => exact ⟨hs, Nat.le_succ _⟩
  rcases itemAt_bd a0 a1.name with hneg | ⟨i, e, hi⟩
  · obtain ⟨q, hq, hh⟩ := key a1.name a1.target a1.low a1.high a1.metrics a1.pace.up a1.pace.down a1.pace.upSpan a1.pace.downSpan a1.notes a0.next (IntKind.wrap .i64 (a0.next + (1 : Int))) a1.name a1.target a1.low a1.high a1.pace.up a1.pace.down a1.pace.upSpan a1.pace.downSpan a0.next a0.items a0.items a1.metrics a1.notes hn a0.items.length 1001 0 (by omega) (by omega)
    have hge : decide (itemAt a0 a1.name ≥ (0 : Int)) = false := decide_eq_false (by omega)
    have d1 : decide ((0 : Int) ≤ (q : Int)) = true := decide_eq_true (by omega)
    have d2 : decide ((q : Int) ≤ (a0.items.length : Int)) = true := decide_eq_true (by omega)
    have d3 : decide ((a0.items.length : Int) ≤ (a0.items.length : Int)) = true := decide_eq_true (Int.le_refl _)
    have l1 : Nat.ble (0 + (a0.items.take q).length) LIM = true := lim_le (by rw [List.length_take]; omega)
    have l2 : Nat.ble ((a0.items.take q).length + 1) LIM = true := lim_le (by rw [List.length_take]; omega)
    have l3 : Nat.ble ((a0.items.take q ++ [(⟨a1, a0.next⟩ : ItemT)]).length + (a0.items.drop q).length) LIM = true := lim_le (by simp only [List.length_append, List.length_take, List.length_drop, List.length_cons, List.length_nil]; omega)
    have q1 : leC q 0 q 0 = true := leC_self _ _
    have so : sm_store (⟨a0.items.take q ++ [⟨a1, a0.next⟩] ++ a0.items.drop q, (IntKind.wrap .i64 (a0.next + (1 : Int)))⟩ : StoreT) = true := store_mk (items_put hi0 hx hn q) (okI_wrap _)
    cases hso : storeOk (⟨a0.items.take q ++ [⟨a1, a0.next⟩] ++ a0.items.drop q, (IntKind.wrap .i64 (a0.next + (1 : Int)))⟩ : StoreT)
    · refine ⟨(?az1, ?bz1), ?gz1, 1001, ?rz1⟩
      case rz1 =>
        intro R k
        rw [f141_run]
        simp only [hs, ho, gl, hst, hge, Bool.not_true, Bool.not_false, cond_true, cond_false]
        refine Eq.trans (hh _ _ _ (fun _ _ => rfl) (fun _ => rfl)) ?_
        simp only [List.nil_append, List.drop_zero, Int.toNat_natCast, List.take_length, eta_order2, eta_order, d1, d2, d3, l1, l2, l3, q1, so, hso, Bool.and_self, Bool.not_false, cond_true]
        exact rfl
      case gz1 => exact ⟨hs, Nat.le_succ _⟩
    · refine ⟨(?az2, ?bz2), ?gz2, 1001, ?rz2⟩
      case rz2 =>
        intro R k
        rw [f141_run]
        simp only [hs, ho, gl, hst, hge, Bool.not_true, Bool.not_false, cond_true, cond_false]
        refine Eq.trans (hh _ _ _ (fun _ _ => rfl) (fun _ => rfl)) ?_
        simp only [List.nil_append, List.drop_zero, Int.toNat_natCast, List.take_length, eta_order2, eta_order, d1, d2, d3, l1, l2, l3, q1, so, hso, Bool.and_self, Bool.not_true, cond_true, cond_false]
        exact rfl
      case gz2 => exact ⟨so, by simp only [List.length_append, List.length_take, List.length_drop, List.length_cons, List.length_nil]; omega⟩
  · have hge : decide ((i : Int) ≥ (0 : Int)) = true := decide_eq_true (by omega)
    have hix : decide ((i : Int) < (a0.items.length : Int)) = true := decide_eq_true (by omega)
    have so : sm_store (⟨a0.items.set i ⟨a1, a0.next⟩, (IntKind.wrap .i64 (a0.next + (1 : Int)))⟩ : StoreT) = true := store_mk (items_set hi0 hx i) (okI_wrap _)
    cases hso : storeOk (⟨a0.items.set i ⟨a1, a0.next⟩, (IntKind.wrap .i64 (a0.next + (1 : Int)))⟩ : StoreT)
    · refine ⟨(?az3, ?bz3), ?gz3, 0, ?rz3⟩
      case rz3 =>
        intro R k
        rw [f141_run]
        simp only [hs, ho, gl, hst, e, hge, hix, so, hso, Int.toNat_natCast, Bool.and_self, Bool.not_true, Bool.not_false, cond_true, cond_false]
        exact rfl
      case gz3 => exact ⟨hs, Nat.le_succ _⟩
    · refine ⟨(?az4, ?bz4), ?gz4, 0, ?rz4⟩
      case rz4 =>
        intro R k
        rw [f141_run]
        simp only [hs, ho, gl, hst, e, hge, hix, so, hso, Int.toNat_natCast, Bool.and_self, Bool.not_true, Bool.not_false, cond_true, cond_false]
        exact rfl
      case gz4 => exact ⟨so, by simp only [List.length_set]; omega⟩
theorem f141_ne (a0 : StoreT) (a1 : OrderT) : Nonempty {o : StoreT × Bool // gSP a0 a1 = true → f141_P a0 a1 o} := by
  by_cases hg : gSP a0 a1 = true
  · obtain ⟨o, ho⟩ := f141_ex a0 a1 hg
    exact ⟨⟨o, fun _ => ho⟩⟩
  · exact ⟨⟨((zero .store), (zero .bool)), fun h => absurd h hg⟩⟩
noncomputable def sPut (a0 : StoreT) (a1 : OrderT) : StoreT × Bool := (Classical.choice (f141_ne a0 a1)).val
theorem f141_sp (a0 : StoreT) (a1 : OrderT) (hg : gSP a0 a1 = true) : f141_P a0 a1 (sPut a0 a1) := (Classical.choice (f141_ne a0 a1)).property hg
theorem sPut_ok (a0 : StoreT) (a1 : OrderT) (hg : gSP a0 a1 = true) : (fun s _ r => sm_store r.1 = true ∧ r.1.items.length ≤ s.items.length + 1) a0 a1 (sPut a0 a1) := (f141_sp a0 a1 hg).1
theorem f141_spec (a0 : StoreT) (a1 : OrderT) (hg : gSP a0 a1 = true) : ∃ keep rounds, ∀ {R : Type} (k : List Dt → Option R), evFn f141e keep rounds f141c [.ro, .ro] [false, false] true [.cell 4 37, .tmp 5] [37, 4] [.d .store a0, .d .order a1] k = k [.d .store ((sPut a0 a1).1), .d .bool ((sPut a0 a1).2)] := by
  obtain ⟨n, hn⟩ := (f141_sp a0 a1 hg).2
  exact ⟨f141k, n, hn⟩
noncomputable def q141 : List Dt → Option (Bool × List Dt)
  | [.d .store a0, .d .order a1] => some ((gSP a0 a1), [.d .store ((sPut a0 a1).1), .d .bool ((sPut a0 a1).2)])
  | _ => none
noncomputable def s141 : Gm.Spec := Gm.Spec.of [.ro, .ro] [false, false] true q141
theorem good141 : Gm.Good Try.prog (141, s141) := by
  have hl : ∀ x ∈ [(111, s111), (154, s154), (155, s155), (156, s156)], Gm.Good Try.prog x := List.forall_mem_cons.2 ⟨good111, List.forall_mem_cons.2 ⟨good154, List.forall_mem_cons.2 ⟨good155, List.forall_mem_cons.2 ⟨good156, List.forall_mem_nil _⟩⟩⟩⟩
  refine ⟨⟨spec_ok (tab_ok.env hl) (tab.natl hl) Try.func141 (by kernel_rfl : Try.f141.body = some f141c) [37, 4] (by kernel_rfl) ?_, _, Try.func141, by kernel_rfl, of_decide_eq_true (by kernel_rfl)⟩, Gm.Spec.of_natl _ _ _ _⟩
  intro ds outs h
  unfold q141 at h
  split at h
  · simp only [Option.some.injEq, Prod.mk.injEq] at h; obtain ⟨hg, h⟩ := h; cases h; exact f141_spec _ _ hg
  · cases h
noncomputable def f140c : Code := (Try.f140.body).getD .skip
def f140k : Nat → Kp := kat [⟨[1, 2, 4], [], [], []⟩, ⟨[1, 2, 4, 6], [], [], []⟩, ⟨[2, 4, 6, 7], [], [], []⟩, ⟨[4, 6, 7, 19], [], [], []⟩, ⟨[4, 5], [], [], []⟩, ⟨[4, 6], [], [], []⟩, ⟨[4, 5], [], [], []⟩]
noncomputable def f140e : Env := tab.env [(154, s154), (155, s155), (156, s156)]
theorem f140_run {R : Type} (n : Nat) (k : List Dt → Option R) (a0 : StoreT) (a1 : ByteArray) : evFn f140e f140k n f140c [.ro, .ro] [false, false] true [.cell 4 37, .tmp 5] [37, 4] [.d .store a0, .d .str a1] k =
    (cond (sm_store a0)
  (cond ((fun (s : StoreT) (_ : ByteArray) => gLenW s.items) a0 a1)
   (cond (sm_store a0)
    (cond (!(storeOk a0))
     (k [.d .store a0, .d .bool false])
     (cond (decide ((itemAt a0 a1) < (0 : Int)))
      (k [.d .store a0, .d .bool false])
      (cond ((decide ((0 : Int) ≤ (itemAt a0 a1))) && (decide ((itemAt a0 a1) ≤ ((StoreT.items a0).length : Int))))
       (cond (Nat.ble (0 + (((StoreT.items a0).take (Int.toNat (itemAt a0 a1))).drop 0).length) LIM)
        (cond ((decide ((0 : Int) ≤ (IntKind.wrap .i64 ((itemAt a0 a1) + (1 : Int))))) && ((decide ((IntKind.wrap .i64 ((itemAt a0 a1) + (1 : Int))) ≤ ((StoreT.items a0).length : Int))) && (decide (((StoreT.items a0).length : Int) ≤ ((StoreT.items a0).length : Int)))))
         (cond (leC (Int.toNat (itemAt a0 a1)) 0 (Int.toNat (IntKind.wrap .i64 ((itemAt a0 a1) + (1 : Int)))) 0)
          (cond (Nat.ble ((([] : List ItemT) ++ (((StoreT.items a0).take (Int.toNat (itemAt a0 a1))).drop 0)).length + (((StoreT.items a0).take (Int.toNat ((StoreT.items a0).length : Int))).drop (Int.toNat (IntKind.wrap .i64 ((itemAt a0 a1) + (1 : Int))))).length) LIM)
           (k [.d .store (⟨((([] : List ItemT) ++ (((StoreT.items a0).take (Int.toNat (itemAt a0 a1))).drop 0)) ++ (((StoreT.items a0).take (Int.toNat ((StoreT.items a0).length : Int))).drop (Int.toNat (IntKind.wrap .i64 ((itemAt a0 a1) + (1 : Int)))))), (StoreT.next a0)⟩ : StoreT), .d .bool true])
           none)
          none)
         none)
        none)
       none)))
    none)
   none)
  none) := by kernel_rfl
def f140_P (a0 : StoreT) (a1 : ByteArray) (o : StoreT × Bool) : Prop := (fun s _ r => sm_store r.1 = true ∧ r.1.items.length ≤ s.items.length) a0 a1 o ∧ ∃ n : Nat, ∀ {R : Type} (k : List Dt → Option R), evFn f140e f140k n f140c [.ro, .ro] [false, false] true [.cell 4 37, .tmp 5] [37, 4] [.d .store a0, .d .str a1] k = k [.d .store o.1, .d .bool o.2]
theorem f140_ex (a0 : StoreT) (a1 : ByteArray) (hg : gSD a0 a1 = true) : ∃ o : StoreT × Bool, (fun s _ r => sm_store r.1 = true ∧ r.1.items.length ≤ s.items.length) a0 a1 o ∧ ∃ n : Nat, ∀ {R : Type} (k : List Dt → Option R), evFn f140e f140k n f140c [.ro, .ro] [false, false] true [.cell 4 37, .tmp 5] [37, 4] [.d .store a0, .d .str a1] k = k [.d .store o.1, .d .bool o.2] := by
  simp only [gSD, Bool.and_eq_true] at hg
  obtain ⟨hs, hn⟩ := hg
  have hn := bleN hn
  obtain ⟨hi0, hnx⟩ := store_parts hs
  have gl : gLenW a0.items = true := gLenW_of (by omega)
  cases hst : storeOk a0
  · refine ⟨(?az0, ?bz0), ?gz0, 0, ?rz0⟩
    case rz0 =>
      intro R k
      rw [f140_run]
      simp only [hs, gl, hst, Bool.not_true, Bool.not_false, cond_true, cond_false]
      exact rfl
    case gz0 => exact ⟨hs, Nat.le_refl _⟩
  rcases itemAt_bd a0 a1 with hneg | ⟨i, e, hi⟩
  · have hlt : decide (itemAt a0 a1 < (0 : Int)) = true := decide_eq_true hneg
    refine ⟨(?az1, ?bz1), ?gz1, 0, ?rz1⟩
    case rz1 =>
      intro R k
      rw [f140_run]
      simp only [hs, gl, hst, hlt, Bool.not_true, Bool.not_false, cond_true, cond_false]
      exact rfl
    case gz1 => exact ⟨hs, Nat.le_refl _⟩
  · have hlt : decide ((i : Int) < (0 : Int)) = false := decide_eq_false (by omega)
    have hw : IntKind.wrap .i64 ((i : Int) + (1 : Int)) = ((i + 1 : Nat) : Int) := by rw [wrap_id (by omega) (by omega)]; omega
    have d1 : decide ((0 : Int) ≤ (i : Int)) = true := decide_eq_true (by omega)
    have d2 : decide ((i : Int) ≤ (a0.items.length : Int)) = true := decide_eq_true (by omega)
    have d3 : decide ((a0.items.length : Int) ≤ (a0.items.length : Int)) = true := decide_eq_true (Int.le_refl _)
    have d4 : decide ((0 : Int) ≤ ((i + 1 : Nat) : Int)) = true := decide_eq_true (by omega)
    have d5 : decide (((i + 1 : Nat) : Int) ≤ (a0.items.length : Int)) = true := decide_eq_true (by omega)
    have l1 : Nat.ble (0 + (a0.items.take i).length) LIM = true := lim_le (by rw [List.length_take]; omega)
    have l2 : Nat.ble ((a0.items.take i).length + (a0.items.drop (i + 1)).length) LIM = true := lim_le (by simp only [List.length_take, List.length_drop]; omega)
    have q1 : leC i 0 (i + 1) 0 = true := leC_lt (Nat.lt_succ_self i)
    have so : sm_store (⟨a0.items.take i ++ a0.items.drop (i + 1), a0.next⟩ : StoreT) = true := store_mk (items_cut hi0 i (i + 1) (Nat.le_succ i)) hnx
    refine ⟨(?az2, ?bz2), ?gz2, 0, ?rz2⟩
    case rz2 =>
      intro R k
      rw [f140_run]
      simp only [hs, gl, hst, e, hlt, hw, d1, d2, d3, d4, d5, Bool.and_self, List.nil_append, List.drop_zero, Int.toNat_natCast, List.take_length, eta_order2, eta_order, l1, l2, q1, Bool.not_true, Bool.not_false, cond_true, cond_false]
      exact rfl
    case gz2 => exact ⟨so, by simp only [List.length_append, List.length_take, List.length_drop]; omega⟩
theorem f140_ne (a0 : StoreT) (a1 : ByteArray) : Nonempty {o : StoreT × Bool // gSD a0 a1 = true → f140_P a0 a1 o} := by
  by_cases hg : gSD a0 a1 = true
  · obtain ⟨o, ho⟩ := f140_ex a0 a1 hg
    exact ⟨⟨o, fun _ => ho⟩⟩
  · exact ⟨⟨((zero .store), (zero .bool)), fun h => absurd h hg⟩⟩
noncomputable def sDrop (a0 : StoreT) (a1 : ByteArray) : StoreT × Bool := (Classical.choice (f140_ne a0 a1)).val
theorem f140_sp (a0 : StoreT) (a1 : ByteArray) (hg : gSD a0 a1 = true) : f140_P a0 a1 (sDrop a0 a1) := (Classical.choice (f140_ne a0 a1)).property hg
theorem sDrop_ok (a0 : StoreT) (a1 : ByteArray) (hg : gSD a0 a1 = true) : (fun s _ r => sm_store r.1 = true ∧ r.1.items.length ≤ s.items.length) a0 a1 (sDrop a0 a1) := (f140_sp a0 a1 hg).1
theorem f140_spec (a0 : StoreT) (a1 : ByteArray) (hg : gSD a0 a1 = true) : ∃ keep rounds, ∀ {R : Type} (k : List Dt → Option R), evFn f140e keep rounds f140c [.ro, .ro] [false, false] true [.cell 4 37, .tmp 5] [37, 4] [.d .store a0, .d .str a1] k = k [.d .store ((sDrop a0 a1).1), .d .bool ((sDrop a0 a1).2)] := by
  obtain ⟨n, hn⟩ := (f140_sp a0 a1 hg).2
  exact ⟨f140k, n, hn⟩
noncomputable def q140 : List Dt → Option (Bool × List Dt)
  | [.d .store a0, .d .str a1] => some ((gSD a0 a1), [.d .store ((sDrop a0 a1).1), .d .bool ((sDrop a0 a1).2)])
  | _ => none
noncomputable def s140 : Gm.Spec := Gm.Spec.of [.ro, .ro] [false, false] true q140
theorem good140 : Gm.Good Try.prog (140, s140) := by
  have hl : ∀ x ∈ [(154, s154), (155, s155), (156, s156)], Gm.Good Try.prog x := List.forall_mem_cons.2 ⟨good154, List.forall_mem_cons.2 ⟨good155, List.forall_mem_cons.2 ⟨good156, List.forall_mem_nil _⟩⟩⟩
  refine ⟨⟨spec_ok (tab_ok.env hl) (tab.natl hl) Try.func140 (by kernel_rfl : Try.f140.body = some f140c) [37, 4] (by kernel_rfl) ?_, _, Try.func140, by kernel_rfl, of_decide_eq_true (by kernel_rfl)⟩, Gm.Spec.of_natl _ _ _ _⟩
  intro ds outs h
  unfold q140 at h
  split at h
  · simp only [Option.some.injEq, Prod.mk.injEq] at h; obtain ⟨hg, h⟩ := h; cases h; exact f140_spec _ _ hg
  · cases h
end Go.Proofs.Ytnbehmbjoanfoaa

namespace Go.Proofs.Ytnbehmbjoanfoaa
open Go Go.Gm
noncomputable def f59S0 (y0 : List Int) (y1 : Int) (y2 : Int) : St := ⟨[(0, .c (.one (.rk (.i .u8) y0))), (3, .c (.one (.v (.int .i64 y1)))), (4, .c (.one (.v (.int .i64 y2))))], [], []⟩
noncomputable def f59S1 (y0 : List Int) (y1 : Int) (y2 : Int) (y3 : Bool) : St := ⟨[(0, .c (.one (.rk (.i .u8) y0))), (3, .c (.one (.v (.int .i64 y1)))), (4, .c (.one (.v (.int .i64 y2)))), (15, .c (.one (.v (.bool y3))))], [], []⟩
noncomputable def f59c : Code := (Try.f59.body).getD .skip
def f59k : Nat → Kp := kat [⟨[0], [], [], []⟩, ⟨[0, 3], [], [], []⟩, ⟨[0, 3, 4], [], [], []⟩, ⟨[0, 3, 4, 15], [], [], []⟩, ⟨[0, 3, 4], [], [], []⟩, ⟨[0, 3, 4], [], [], []⟩, ⟨[2], [], [], []⟩]
noncomputable def f59e : Env := tab.env []
noncomputable def f59L0 {R : Type} (n : Nat) (x0 : Int → Int → Bool → Option R) (x1 : Int → Int → Option R) (vs0 : List Int) : Nat → Int → Int → Option R
  | 0, _, _ => none
  | m + 1, vs3, vs4 =>
    (cond (decide (vs4 < (vs0.length : Int)))
   (cond (decide (vs4 < (4000 : Int)))
    (cond ((decide ((0 : Int) ≤ vs4)) && (decide (vs4 < (vs0.length : Int))))
     (f59L0 n x0 x1 vs0 m (IntKind.wrap .i64 ((BitVec.toNat (BitVec.ofInt (IntKind.bits .i64) (IntKind.wrap .i64 ((IntKind.wrap .i64 ((IntKind.wrap .i64 (vs3 * (131 : Int))) + (IntKind.wrap .i64 (atI (t := (.i .u8)) vs0 (Int.toNat vs4))))) + (7 : Int))) &&& BitVec.ofInt (IntKind.bits .i64) (1073741823 : Int)) : Nat) : Int)) (IntKind.wrap .i64 (vs4 + (1 : Int))))
     none)
    (x0 vs3 vs4 (decide (vs4 < (4000 : Int)))))
   (x1 vs3 vs4))
theorem f59L0_b {R : Type} (n : Nat) (k' : Ex → St → Option R) (vs0 : List Int) (vs3 : Int) (vs4 : Int) : ev f59e f59k n (cAt [1,1,0,1,0,0] f59c) (f59S0 vs0 vs3 vs4) k' =
    (cond (decide (vs4 < (vs0.length : Int)))
  (cond (decide (vs4 < (4000 : Int)))
   (cond ((decide ((0 : Int) ≤ vs4)) && (decide (vs4 < (vs0.length : Int))))
    (k' .normal (f59S0 vs0 (IntKind.wrap .i64 ((BitVec.toNat (BitVec.ofInt (IntKind.bits .i64) (IntKind.wrap .i64 ((IntKind.wrap .i64 ((IntKind.wrap .i64 (vs3 * (131 : Int))) + (IntKind.wrap .i64 (atI (t := (.i .u8)) vs0 (Int.toNat vs4))))) + (7 : Int))) &&& BitVec.ofInt (IntKind.bits .i64) (1073741823 : Int)) : Nat) : Int)) (IntKind.wrap .i64 (vs4 + (1 : Int)))))
    none)
   (k' (.exit 0) (f59S1 vs0 vs3 vs4 (decide (vs4 < (4000 : Int))))))
  (k' (.exit 0) (f59S1 vs0 vs3 vs4 false))) := by kernel_rfl
theorem f59L0_eq {R : Type} (n : Nat) (k' : Ex → St → Option R) (vs0 : List Int) : ∀ (m : Nat) (vs3 : Int) (vs4 : Int), iter (fun st k => ev f59e f59k n (cAt [1,1,0,1,0,0] f59c) st k) m (f59S0 vs0 vs3 vs4) k' = f59L0 n (fun (xvs3 : Int) (xvs4 : Int) (xvs15 : Bool) => k' (.exit 0) (f59S1 vs0 xvs3 xvs4 xvs15)) (fun (xvs3 : Int) (xvs4 : Int) => k' (.exit 0) (f59S1 vs0 xvs3 xvs4 false)) vs0 m vs3 vs4 := by
  intro m; induction m with
  | zero => intros; rfl
  | succ m ih =>
    intro vs3 vs4
    simp only [iter]
    rw [f59L0_b]
    simp only [ih, f59L0]
noncomputable def f59K0 {R : Type} (n : Nat) (k' : Ex → St → Option R) : Ex → St → Option R := (blockK 0 (seqK f59e f59k n (cAt [1,1,1] f59c) k'))
theorem f59K0_x0 {R : Type} (n : Nat) (k : List Dt → Option R) (a0 : List Int) (vs0 : List Int) (xvs3 : Int) (xvs4 : Int) (xvs15 : Bool) : f59K0 n (exitK f59e [.kp] [true] true [.tmp 2] [97] [.d (.sl (.i .u8)) a0] k) (.exit 0) (f59S1 vs0 xvs3 xvs4 xvs15) =
    (k [.d .cur (⟨vs0, (0 : Int), xvs3⟩ : CurT)]) := by kernel_rfl
theorem f59K0_x1 {R : Type} (n : Nat) (k : List Dt → Option R) (a0 : List Int) (vs0 : List Int) (xvs3 : Int) (xvs4 : Int) : f59K0 n (exitK f59e [.kp] [true] true [.tmp 2] [97] [.d (.sl (.i .u8)) a0] k) (.exit 0) (f59S1 vs0 xvs3 xvs4 false) =
    (k [.d .cur (⟨vs0, (0 : Int), xvs3⟩ : CurT)]) := by kernel_rfl
theorem f59_run {R : Type} (n : Nat) (k : List Dt → Option R) (a0 : List Int) : evFn f59e f59k n f59c [.kp] [true] true [.tmp 2] [97] [.d (.sl (.i .u8)) a0] k =
    (f59L0 n (fun (xvs3 : Int) (xvs4 : Int) (xvs15 : Bool) =>
  (k [.d .cur (⟨a0, (0 : Int), xvs3⟩ : CurT)])) (fun (xvs3 : Int) (xvs4 : Int) =>
  (k [.d .cur (⟨a0, (0 : Int), xvs3⟩ : CurT)])) a0 n (IntKind.wrap .i64 ((27212 : Int) + (a0.length : Int))) (0 : Int)) := by
  refine Eq.trans (b := (iter (fun st k => ev f59e f59k n (cAt [1,1,0,1,0,0] f59c) st k) n (f59S0 a0 (IntKind.wrap .i64 ((27212 : Int) + (a0.length : Int))) (0 : Int)) (f59K0 n (exitK f59e [.kp] [true] true [.tmp 2] [97] [.d (.sl (.i .u8)) a0] k)))) (by kernel_rfl) ?_
  simp only [f59L0_eq, f59K0_x0, f59K0_x1]
def f59_P (a0 : List Int) (o : CurT) : Prop := (fun _ o => gCur o = true) a0 o ∧ ∃ n : Nat, ∀ {R : Type} (k : List Dt → Option R), evFn f59e f59k n f59c [.kp] [true] true [.tmp 2] [97] [.d (.sl (.i .u8)) a0] k = k [.d .cur o]
theorem f59_ex (a0 : List Int) (hg : gCode a0 = true) : ∃ o : CurT, (fun _ o => gCur o = true) a0 o ∧ ∃ n : Nat, ∀ {R : Type} (k : List Dt → Option R), evFn f59e f59k n f59c [.kp] [true] true [.tmp 2] [97] [.d (.sl (.i .u8)) a0] k = k [.d .cur o] := by
  have hl : a0.length ≤ 1048576 := bleN hg
  have key : ∀ (d : Nat) (m : Nat) (h : Int) (i : Nat), i + d = 4000 → d < m → ∃ h' : Int, ∀ {R : Type} (X : Int → Int → Bool → Option R) (Y : Int → Int → Option R) (Z : Int → Option R), (∀ x y z, X x y z = Z x) → (∀ x y, Y x y = Z x) → f59L0 4001 X Y a0 m h (i : Int) = Z h' := by
    intro d
    induction d with
    | zero =>
      intro m h i hi hm
      obtain ⟨m, rfl⟩ : ∃ m', m = m' + 1 := ⟨m - 1, by omega⟩
      refine ⟨h, fun {R} X Y Z hX hY => ?_⟩
      simp only [f59L0, decide_eq_false (show ¬ ((i : Int) < 4000) by omega), cond_false]
      cases decide ((i : Int) < (a0.length : Int)) <;> simp only [cond_true, cond_false, hX, hY]
    | succ d ih =>
      intro m h i hi hm
      obtain ⟨m, rfl⟩ : ∃ m', m = m' + 1 := ⟨m - 1, by omega⟩
      cases hd : decide ((i : Int) < (a0.length : Int))
      · refine ⟨h, fun {R} X Y Z hX hY => ?_⟩
        simp only [f59L0, hd, cond_false, hY]
      · obtain ⟨h', hh⟩ := ih m _ (i + 1) (by omega) (by omega)
        refine ⟨h', fun {R} X Y Z hX hY => ?_⟩
        simp only [f59L0, hd, decide_eq_true (show (i : Int) < 4000 by omega), decide_eq_true (show (0 : Int) ≤ (i : Int) by omega), Bool.and_self, cond_true, wrap_id (x := (i : Int) + 1) (by omega) (by omega)]
        exact hh X Y Z hX hY
  obtain ⟨h', hh⟩ := key 4000 4001 (IntKind.wrap .i64 ((27212 : Int) + (a0.length : Int))) 0 rfl (by omega)
  refine ⟨⟨a0, 0, h'⟩, gCur_iff.2 ⟨Int.le_refl _, hl⟩, 4001, fun {R} k => ?_⟩
  rw [f59_run]
  exact hh _ _ (fun x => k [.d .cur ⟨a0, 0, x⟩]) (fun _ _ _ => rfl) (fun _ _ => rfl)
theorem f59_ne (a0 : List Int) : Nonempty {o : CurT // gCode a0 = true → f59_P a0 o} := by
  by_cases hg : gCode a0 = true
  · obtain ⟨o, ho⟩ := f59_ex a0 hg
    exact ⟨⟨o, fun _ => ho⟩⟩
  · exact ⟨⟨((zero .cur)), fun h => absurd h hg⟩⟩
noncomputable def curNew (a0 : List Int) : CurT := (Classical.choice (f59_ne a0)).val
theorem f59_sp (a0 : List Int) (hg : gCode a0 = true) : f59_P a0 (curNew a0) := (Classical.choice (f59_ne a0)).property hg
theorem curNew_ok (a0 : List Int) (hg : gCode a0 = true) : (fun _ o => gCur o = true) a0 (curNew a0) := (f59_sp a0 hg).1
theorem curNew_g (a0 : List Int) (hg : gCode a0 = true) : gCur (curNew a0) = true := by
  have h := curNew_ok a0 hg
  first | exact h | exact h.2 | exact h.2.2 | exact h.2.2.2
theorem f59_spec (a0 : List Int) (hg : gCode a0 = true) : ∃ keep rounds, ∀ {R : Type} (k : List Dt → Option R), evFn f59e keep rounds f59c [.kp] [true] true [.tmp 2] [97] [.d (.sl (.i .u8)) a0] k = k [.d .cur (curNew a0)] := by
  obtain ⟨n, hn⟩ := (f59_sp a0 hg).2
  exact ⟨f59k, n, hn⟩
noncomputable def q59 : List Dt → Option (Bool × List Dt)
  | [.d (.sl (.i .u8)) a0] => some ((gCode a0), [.d .cur (curNew a0)])
  | _ => none
noncomputable def s59 : Gm.Spec := Gm.Spec.of [.kp] [true] true q59
theorem good59 : Gm.Good Try.prog (59, s59) := by
  have hl : ∀ x ∈ ([] : List (Nat × Gm.Spec)), Gm.Good Try.prog x := fun _ h => by cases h
  refine ⟨⟨spec_ok (tab_ok.env hl) (tab.natl hl) Try.func59 (by kernel_rfl : Try.f59.body = some f59c) [97] (by kernel_rfl) ?_, _, Try.func59, by kernel_rfl, of_decide_eq_true (by kernel_rfl)⟩, Gm.Spec.of_natl _ _ _ _⟩
  intro ds outs h
  unfold q59 at h
  split at h
  · simp only [Option.some.injEq, Prod.mk.injEq] at h; obtain ⟨hg, h⟩ := h; cases h; exact f59_spec _ hg
  · cases h
noncomputable def f113c : Code := (Try.f113.body).getD .skip
def f113k : Nat → Kp := kat [⟨[0], [], [], []⟩, ⟨[0], [], [], []⟩, ⟨[0, 3], [], [], []⟩, ⟨[0, 3, 34], [], [], []⟩, ⟨[0, 3], [], [], []⟩, ⟨[0, 3], [], [], []⟩, ⟨[0, 2], [], [], []⟩]
noncomputable def f113e : Env := tab.env []
theorem f113_run {R : Type} (n : Nat) (k : List Dt → Option R) (a0 : CurT) : evFn f113e f113k n f113c [.pmut] [false] true [.tmp 2] [3] [.d .cur a0] k =
    (cond (decide ((CurT.i a0) < ((CurT.b a0).length : Int)))
  (cond ((decide ((0 : Int) ≤ (CurT.i a0))) && (decide ((CurT.i a0) < ((CurT.b a0).length : Int))))
   (k [.d (.i .i64) (IntKind.wrap .i64 ((BitVec.toNat (BitVec.ofInt (IntKind.bits .i64) (IntKind.wrap .i64 ((IntKind.wrap .i64 ((BitVec.toNat (BitVec.ofInt (IntKind.bits .i64) (IntKind.wrap .i64 ((BitVec.toNat (BitVec.ofInt (IntKind.bits .i64) (Int.fdiv (IntKind.wrap .i64 ((IntKind.wrap .i64 ((CurT.h a0) * (6364136223846793005 : Int))) + (1442695040888963407 : Int))) (2 ^ (min (Int.toNat (33 : Int)) (IntKind.bits .i64)))) ^^^ BitVec.ofInt (IntKind.bits .i64) (Int.fdiv (IntKind.wrap .i64 ((IntKind.wrap .i64 ((CurT.h a0) * (6364136223846793005 : Int))) + (1442695040888963407 : Int))) (2 ^ (min (Int.toNat (45 : Int)) (IntKind.bits .i64))))) : Nat) : Int)) &&& BitVec.ofInt (IntKind.bits .i64) (255 : Int)) : Nat) : Int)) + (IntKind.wrap .i64 (atI (t := (.i .u8)) (CurT.b a0) (Int.toNat (CurT.i a0)))))) &&& BitVec.ofInt (IntKind.bits .i64) (255 : Int)) : Nat) : Int)), .d .cur (⟨(CurT.b a0), (IntKind.wrap .i64 ((CurT.i a0) + (1 : Int))), (IntKind.wrap .i64 ((IntKind.wrap .i64 ((CurT.h a0) * (6364136223846793005 : Int))) + (1442695040888963407 : Int)))⟩ : CurT)])
   none)
  (k [.d (.i .i64) (IntKind.wrap .i64 ((BitVec.toNat (BitVec.ofInt (IntKind.bits .i64) (IntKind.wrap .i64 ((BitVec.toNat (BitVec.ofInt (IntKind.bits .i64) (Int.fdiv (IntKind.wrap .i64 ((IntKind.wrap .i64 ((CurT.h a0) * (6364136223846793005 : Int))) + (1442695040888963407 : Int))) (2 ^ (min (Int.toNat (33 : Int)) (IntKind.bits .i64)))) ^^^ BitVec.ofInt (IntKind.bits .i64) (Int.fdiv (IntKind.wrap .i64 ((IntKind.wrap .i64 ((CurT.h a0) * (6364136223846793005 : Int))) + (1442695040888963407 : Int))) (2 ^ (min (Int.toNat (45 : Int)) (IntKind.bits .i64))))) : Nat) : Int)) &&& BitVec.ofInt (IntKind.bits .i64) (255 : Int)) : Nat) : Int)), .d .cur (⟨(CurT.b a0), (CurT.i a0), (IntKind.wrap .i64 ((IntKind.wrap .i64 ((CurT.h a0) * (6364136223846793005 : Int))) + (1442695040888963407 : Int)))⟩ : CurT)])) := by kernel_rfl
def f113_P (a0 : CurT) (o : Int × CurT) : Prop := (fun _ o => (0 ≤ o.1 ∧ o.1 ≤ 255) ∧ gCur o.2 = true) a0 o ∧ ∃ n : Nat, ∀ {R : Type} (k : List Dt → Option R), evFn f113e f113k n f113c [.pmut] [false] true [.tmp 2] [3] [.d .cur a0] k = k [.d (.i .i64) o.1, .d .cur o.2]
theorem f113_ex (a0 : CurT) (hg : gCur a0 = true) : ∃ o : Int × CurT, (fun _ o => (0 ≤ o.1 ∧ o.1 ≤ 255) ∧ gCur o.2 = true) a0 o ∧ ∃ n : Nat, ∀ {R : Type} (k : List Dt → Option R), evFn f113e f113k n f113c [.pmut] [false] true [.tmp 2] [3] [.d .cur a0] k = k [.d (.i .i64) o.1, .d .cur o.2] := by
  obtain ⟨h0, hl⟩ := gCur_iff.1 hg
  cases hd : decide (CurT.i a0 < ((CurT.b a0).length : Int))
  · refine ⟨(?az0, ?bz0), ?gz0, 0, ?rz0⟩
    case rz0 =>
      intro R k
      rw [f113_run]
      simp only [hd, Bool.and_self, cond_true, cond_false]
      exact rfl
    case gz0 => exact ⟨and255w _, gCur_iff.2 ⟨h0, hl⟩⟩
  · have hlt := of_decide_eq_true hd
    refine ⟨(?az1, ?bz1), ?gz1, 0, ?rz1⟩
    case rz1 =>
      intro R k
      rw [f113_run]
      simp only [hd, decide_eq_true h0, Bool.and_self, cond_true, cond_false]
      exact rfl
    case gz1 =>
      refine ⟨and255w _, gCur_iff.2 ⟨?_, hl⟩⟩
      show 0 ≤ IntKind.wrap .i64 (CurT.i a0 + 1)
      rw [wrap_id (by omega) (by omega)]; omega
theorem f113_ne (a0 : CurT) : Nonempty {o : Int × CurT // gCur a0 = true → f113_P a0 o} := by
  by_cases hg : gCur a0 = true
  · obtain ⟨o, ho⟩ := f113_ex a0 hg
    exact ⟨⟨o, fun _ => ho⟩⟩
  · exact ⟨⟨((zero (.i .i64)), (zero .cur)), fun h => absurd h hg⟩⟩
noncomputable def curByte (a0 : CurT) : Int × CurT := (Classical.choice (f113_ne a0)).val
theorem f113_sp (a0 : CurT) (hg : gCur a0 = true) : f113_P a0 (curByte a0) := (Classical.choice (f113_ne a0)).property hg
theorem curByte_ok (a0 : CurT) (hg : gCur a0 = true) : (fun _ o => (0 ≤ o.1 ∧ o.1 ≤ 255) ∧ gCur o.2 = true) a0 (curByte a0) := (f113_sp a0 hg).1
theorem curByte_g (a0 : CurT) (hg : gCur a0 = true) : gCur (curByte a0).2 = true := by
  have h := curByte_ok a0 hg
  first | exact h | exact h.2 | exact h.2.2 | exact h.2.2.2
theorem f113_spec (a0 : CurT) (hg : gCur a0 = true) : ∃ keep rounds, ∀ {R : Type} (k : List Dt → Option R), evFn f113e keep rounds f113c [.pmut] [false] true [.tmp 2] [3] [.d .cur a0] k = k [.d (.i .i64) ((curByte a0).1), .d .cur ((curByte a0).2)] := by
  obtain ⟨n, hn⟩ := (f113_sp a0 hg).2
  exact ⟨f113k, n, hn⟩
noncomputable def q113 : List Dt → Option (Bool × List Dt)
  | [.d .cur a0] => some ((gCur a0), [.d (.i .i64) ((curByte a0).1), .d .cur ((curByte a0).2)])
  | _ => none
noncomputable def s113 : Gm.Spec := Gm.Spec.of [.pmut] [false] true q113
theorem good113 : Gm.Good Try.prog (113, s113) := by
  have hl : ∀ x ∈ ([] : List (Nat × Gm.Spec)), Gm.Good Try.prog x := fun _ h => by cases h
  refine ⟨⟨spec_ok (tab_ok.env hl) (tab.natl hl) Try.func113 (by kernel_rfl : Try.f113.body = some f113c) [3] (by kernel_rfl) ?_, _, Try.func113, by kernel_rfl, of_decide_eq_true (by kernel_rfl)⟩, Gm.Spec.of_natl _ _ _ _⟩
  intro ds outs h
  unfold q113 at h
  split at h
  · simp only [Option.some.injEq, Prod.mk.injEq] at h; obtain ⟨hg, h⟩ := h; cases h; exact f113_spec _ hg
  · cases h
noncomputable def f80c : Code := (Try.f80.body).getD .skip
def f80k : Nat → Kp := kat [⟨[0, 1], [], [], []⟩, ⟨[0, 1, 10], [], [], []⟩, ⟨[0, 4], [], [], []⟩, ⟨[0, 1, 12], [], [], []⟩, ⟨[0, 4], [], [], []⟩, ⟨[0, 1, 5], [], [], []⟩, ⟨[0, 1, 5, 6], [], [], []⟩, ⟨[0, 1, 5, 6, 7], [], [], []⟩, ⟨[0, 1, 5, 6, 7, 8], [], [], []⟩, ⟨[0, 4], [], [], []⟩]
noncomputable def f80e : Env := tab.env [(113, s113)]
theorem f80_run {R : Type} (n : Nat) (k : List Dt → Option R) (a0 : CurT) (a1 : Int) : evFn f80e f80k n f80c [.pmut, .ro] [false] true [.tmp 4] [3] [.d .cur a0, .d (.i .i64) a1] k =
    (cond (decide (a1 ≤ (0 : Int)))
  (k [.d (.i .i64) (0 : Int), .d .cur a0])
  (cond (decide (a1 ≤ (256 : Int)))
   (cond (gCur a0)
    (cond (decide (a1 = 0))
     none
     (k [.d (.i .i64) (Int.tmod ((curByte a0).1) a1), .d .cur ((curByte a0).2)]))
    none)
   (cond (gCur a0)
    (cond (gCur ((curByte a0).2))
     (cond (gCur ((curByte ((curByte a0).2)).2))
      (cond (gCur ((curByte ((curByte ((curByte a0).2)).2)).2))
       (cond (decide (a1 = 0))
        none
        (k [.d (.i .i64) (Int.tmod (IntKind.wrap .i64 ((IntKind.wrap .i64 ((IntKind.wrap .i64 ((IntKind.wrap .i64 (((curByte a0).1) * (16777216 : Int))) + (IntKind.wrap .i64 (((curByte ((curByte a0).2)).1) * (65536 : Int))))) + (IntKind.wrap .i64 (((curByte ((curByte ((curByte a0).2)).2)).1) * (256 : Int))))) + ((curByte ((curByte ((curByte ((curByte a0).2)).2)).2)).1))) a1), .d .cur ((curByte ((curByte ((curByte ((curByte a0).2)).2)).2)).2)]))
       none)
      none)
     none)
    none))) := by kernel_rfl
def f80_P (a0 : CurT) (a1 : Int) (o : Int × CurT) : Prop := (fun _ n o => 0 ≤ o.1 ∧ (0 < n → o.1 < n) ∧ gCur o.2 = true) a0 a1 o ∧ ∃ n : Nat, ∀ {R : Type} (k : List Dt → Option R), evFn f80e f80k n f80c [.pmut, .ro] [false] true [.tmp 4] [3] [.d .cur a0, .d (.i .i64) a1] k = k [.d (.i .i64) o.1, .d .cur o.2]
theorem f80_ex (a0 : CurT) (a1 : Int) (hg : (fun c _ => gCur c) a0 a1 = true) : ∃ o : Int × CurT, (fun _ n o => 0 ≤ o.1 ∧ (0 < n → o.1 < n) ∧ gCur o.2 = true) a0 a1 o ∧ ∃ n : Nat, ∀ {R : Type} (k : List Dt → Option R), evFn f80e f80k n f80c [.pmut, .ro] [false] true [.tmp 4] [3] [.d .cur a0, .d (.i .i64) a1] k = k [.d (.i .i64) o.1, .d .cur o.2] := by
  have hg : gCur a0 = true := hg
  cases h1 : decide (a1 ≤ (0 : Int))
  · have hn := of_decide_eq_false h1
    have hz : decide (a1 = 0) = false := decide_eq_false (by omega)
    obtain ⟨b1, g1⟩ := curByte_ok a0 hg
    cases h2 : decide (a1 ≤ (256 : Int))
    · obtain ⟨b2, g2⟩ := curByte_ok _ g1
      obtain ⟨b3, g3⟩ := curByte_ok _ g2
      obtain ⟨b4, g4⟩ := curByte_ok _ g3
      refine ⟨(?az0, ?bz0), ?gz0, 0, ?rz0⟩
      case rz0 =>
        intro R k
        rw [f80_run]
        simp only [h1, h2, hz, hg, g1, g2, g3, Bool.and_self, cond_true, cond_false]
        exact rfl
      case gz0 =>
        have := tmod_bd (below4 b1 b2 b3 b4) (show 0 < a1 by omega)
        exact ⟨this.1, fun _ => this.2, g4⟩
    · refine ⟨(?az1, ?bz1), ?gz1, 0, ?rz1⟩
      case rz1 =>
        intro R k
        rw [f80_run]
        simp only [h1, h2, hz, hg, Bool.and_self, cond_true, cond_false]
        exact rfl
      case gz1 =>
        have := tmod_bd b1.1 (show 0 < a1 by omega)
        exact ⟨this.1, fun _ => this.2, g1⟩
  · have hn := of_decide_eq_true h1
    refine ⟨(?az2, ?bz2), ?gz2, 0, ?rz2⟩
    case rz2 =>
      intro R k
      rw [f80_run]
      simp only [h1, Bool.and_self, cond_true, cond_false]
      exact rfl
    case gz2 => exact ⟨Int.le_refl _, fun h => by omega, hg⟩
theorem f80_ne (a0 : CurT) (a1 : Int) : Nonempty {o : Int × CurT // (fun c _ => gCur c) a0 a1 = true → f80_P a0 a1 o} := by
  by_cases hg : (fun c _ => gCur c) a0 a1 = true
  · obtain ⟨o, ho⟩ := f80_ex a0 a1 hg
    exact ⟨⟨o, fun _ => ho⟩⟩
  · exact ⟨⟨((zero (.i .i64)), (zero .cur)), fun h => absurd h hg⟩⟩
noncomputable def curBelow (a0 : CurT) (a1 : Int) : Int × CurT := (Classical.choice (f80_ne a0 a1)).val
theorem f80_sp (a0 : CurT) (a1 : Int) (hg : (fun c _ => gCur c) a0 a1 = true) : f80_P a0 a1 (curBelow a0 a1) := (Classical.choice (f80_ne a0 a1)).property hg
theorem curBelow_ok (a0 : CurT) (a1 : Int) (hg : (fun c _ => gCur c) a0 a1 = true) : (fun _ n o => 0 ≤ o.1 ∧ (0 < n → o.1 < n) ∧ gCur o.2 = true) a0 a1 (curBelow a0 a1) := (f80_sp a0 a1 hg).1
theorem curBelow_g (a0 : CurT) (a1 : Int) (hg : gCur a0 = true) : gCur (curBelow a0 a1).2 = true := by
  have h := curBelow_ok a0 a1 hg
  first | exact h | exact h.2 | exact h.2.2 | exact h.2.2.2
theorem f80_spec (a0 : CurT) (a1 : Int) (hg : (fun c _ => gCur c) a0 a1 = true) : ∃ keep rounds, ∀ {R : Type} (k : List Dt → Option R), evFn f80e keep rounds f80c [.pmut, .ro] [false] true [.tmp 4] [3] [.d .cur a0, .d (.i .i64) a1] k = k [.d (.i .i64) ((curBelow a0 a1).1), .d .cur ((curBelow a0 a1).2)] := by
  obtain ⟨n, hn⟩ := (f80_sp a0 a1 hg).2
  exact ⟨f80k, n, hn⟩
noncomputable def q80 : List Dt → Option (Bool × List Dt)
  | [.d .cur a0, .d (.i .i64) a1] => some (((fun c _ => gCur c) a0 a1), [.d (.i .i64) ((curBelow a0 a1).1), .d .cur ((curBelow a0 a1).2)])
  | _ => none
noncomputable def s80 : Gm.Spec := Gm.Spec.of [.pmut, .ro] [false] true q80
theorem good80 : Gm.Good Try.prog (80, s80) := by
  have hl : ∀ x ∈ [(113, s113)], Gm.Good Try.prog x := List.forall_mem_cons.2 ⟨good113, List.forall_mem_nil _⟩
  refine ⟨⟨spec_ok (tab_ok.env hl) (tab.natl hl) Try.func80 (by kernel_rfl : Try.f80.body = some f80c) [3] (by kernel_rfl) ?_, _, Try.func80, by kernel_rfl, of_decide_eq_true (by kernel_rfl)⟩, Gm.Spec.of_natl _ _ _ _⟩
  intro ds outs h
  unfold q80 at h
  split at h
  · simp only [Option.some.injEq, Prod.mk.injEq] at h; obtain ⟨hg, h⟩ := h; cases h; exact f80_spec _ _ hg
  · cases h
noncomputable def f82c : Code := (Try.f82.body).getD .skip
def f82k : Nat → Kp := kat [⟨[0, 1], [], [], []⟩, ⟨[0, 4], [], [], []⟩]
noncomputable def f82e : Env := tab.env [(80, s80)]
theorem f82_run {R : Type} (n : Nat) (k : List Dt → Option R) (a0 : CurT) (a1 : Int) : evFn f82e f82k n f82c [.pmut, .ro] [false] true [.tmp 4] [4] [.d .cur a0, .d (.i .i64) a1] k =
    (cond ((fun c _ => gCur c) a0 a1)
  (k [.d .bool (((curBelow a0 a1).1) == (0 : Int)), .d .cur ((curBelow a0 a1).2)])
  none) := by kernel_rfl
def f82_P (a0 : CurT) (a1 : Int) (o : Bool × CurT) : Prop := (fun _ _ o => gCur o.2 = true) a0 a1 o ∧ ∃ n : Nat, ∀ {R : Type} (k : List Dt → Option R), evFn f82e f82k n f82c [.pmut, .ro] [false] true [.tmp 4] [4] [.d .cur a0, .d (.i .i64) a1] k = k [.d .bool o.1, .d .cur o.2]
theorem f82_ex (a0 : CurT) (a1 : Int) (hg : (fun c _ => gCur c) a0 a1 = true) : ∃ o : Bool × CurT, (fun _ _ o => gCur o.2 = true) a0 a1 o ∧ ∃ n : Nat, ∀ {R : Type} (k : List Dt → Option R), evFn f82e f82k n f82c [.pmut, .ro] [false] true [.tmp 4] [4] [.d .cur a0, .d (.i .i64) a1] k = k [.d .bool o.1, .d .cur o.2] := by
  have hg : gCur a0 = true := hg
  obtain ⟨_, _, g1⟩ := curBelow_ok a0 a1 hg
  refine ⟨(?az0, ?bz0), ?gz0, 0, ?rz0⟩
  case rz0 =>
    intro R k
    rw [f82_run]
    simp only [hg, cond_true]
    exact rfl
  case gz0 => exact g1
theorem f82_ne (a0 : CurT) (a1 : Int) : Nonempty {o : Bool × CurT // (fun c _ => gCur c) a0 a1 = true → f82_P a0 a1 o} := by
  by_cases hg : (fun c _ => gCur c) a0 a1 = true
  · obtain ⟨o, ho⟩ := f82_ex a0 a1 hg
    exact ⟨⟨o, fun _ => ho⟩⟩
  · exact ⟨⟨((zero .bool), (zero .cur)), fun h => absurd h hg⟩⟩
noncomputable def curOnce (a0 : CurT) (a1 : Int) : Bool × CurT := (Classical.choice (f82_ne a0 a1)).val
theorem f82_sp (a0 : CurT) (a1 : Int) (hg : (fun c _ => gCur c) a0 a1 = true) : f82_P a0 a1 (curOnce a0 a1) := (Classical.choice (f82_ne a0 a1)).property hg
theorem curOnce_ok (a0 : CurT) (a1 : Int) (hg : (fun c _ => gCur c) a0 a1 = true) : (fun _ _ o => gCur o.2 = true) a0 a1 (curOnce a0 a1) := (f82_sp a0 a1 hg).1
theorem curOnce_g (a0 : CurT) (a1 : Int) (hg : gCur a0 = true) : gCur (curOnce a0 a1).2 = true := by
  have h := curOnce_ok a0 a1 hg
  first | exact h | exact h.2 | exact h.2.2 | exact h.2.2.2
theorem f82_spec (a0 : CurT) (a1 : Int) (hg : (fun c _ => gCur c) a0 a1 = true) : ∃ keep rounds, ∀ {R : Type} (k : List Dt → Option R), evFn f82e keep rounds f82c [.pmut, .ro] [false] true [.tmp 4] [4] [.d .cur a0, .d (.i .i64) a1] k = k [.d .bool ((curOnce a0 a1).1), .d .cur ((curOnce a0 a1).2)] := by
  obtain ⟨n, hn⟩ := (f82_sp a0 a1 hg).2
  exact ⟨f82k, n, hn⟩
noncomputable def q82 : List Dt → Option (Bool × List Dt)
  | [.d .cur a0, .d (.i .i64) a1] => some (((fun c _ => gCur c) a0 a1), [.d .bool ((curOnce a0 a1).1), .d .cur ((curOnce a0 a1).2)])
  | _ => none
noncomputable def s82 : Gm.Spec := Gm.Spec.of [.pmut, .ro] [false] true q82
theorem good82 : Gm.Good Try.prog (82, s82) := by
  have hl : ∀ x ∈ [(80, s80)], Gm.Good Try.prog x := List.forall_mem_cons.2 ⟨good80, List.forall_mem_nil _⟩
  refine ⟨⟨spec_ok (tab_ok.env hl) (tab.natl hl) Try.func82 (by kernel_rfl : Try.f82.body = some f82c) [4] (by kernel_rfl) ?_, _, Try.func82, by kernel_rfl, of_decide_eq_true (by kernel_rfl)⟩, Gm.Spec.of_natl _ _ _ _⟩
  intro ds outs h
  unfold q82 at h
  split at h
  · simp only [Option.some.injEq, Prod.mk.injEq] at h; obtain ⟨hg, h⟩ := h; cases h; exact f82_spec _ _ hg
  · cases h
noncomputable def f100c : Code := (Try.f100.body).getD .skip
def f100k : Nat → Kp := kat [⟨[0, 1], [], [], []⟩, ⟨[0, 4], [], [], []⟩]
noncomputable def f100e : Env := tab.env [(80, s80)]
theorem f100_run {R : Type} (n : Nat) (k : List Dt → Option R) (a0 : CurT) (a1 : List ByteArray) : evFn f100e f100k n f100c [.pmut, .ro] [false] true [.tmp 4] [9] [.d .cur a0, .d (.sl .str) a1] k =
    (cond ((fun c _ => gCur c) a0 (a1.length : Int))
  (cond ((decide ((0 : Int) ≤ ((curBelow a0 (a1.length : Int)).1))) && (decide (((curBelow a0 (a1.length : Int)).1) < (a1.length : Int))))
   (k [.d .str (atI (t := .str) a1 (Int.toNat ((curBelow a0 (a1.length : Int)).1))), .d .cur ((curBelow a0 (a1.length : Int)).2)])
   none)
  none) := by kernel_rfl
def f100_P (a0 : CurT) (a1 : List ByteArray) (o : ByteArray × CurT) : Prop := (fun _ l o => o.1 ∈ l ∧ gCur o.2 = true) a0 a1 o ∧ ∃ n : Nat, ∀ {R : Type} (k : List Dt → Option R), evFn f100e f100k n f100c [.pmut, .ro] [false] true [.tmp 4] [9] [.d .cur a0, .d (.sl .str) a1] k = k [.d .str o.1, .d .cur o.2]
theorem f100_ex (a0 : CurT) (a1 : List ByteArray) (hg : gPickS a0 a1 = true) : ∃ o : ByteArray × CurT, (fun _ l o => o.1 ∈ l ∧ gCur o.2 = true) a0 a1 o ∧ ∃ n : Nat, ∀ {R : Type} (k : List Dt → Option R), evFn f100e f100k n f100c [.pmut, .ro] [false] true [.tmp 4] [9] [.d .cur a0, .d (.sl .str) a1] k = k [.d .str o.1, .d .cur o.2] := by
  obtain ⟨hg, hne⟩ := Bool.and_eq_true_iff.1 hg
  obtain ⟨hne, hl⟩ := Bool.and_eq_true_iff.1 hne
  obtain ⟨h0, h1, g1⟩ := curBelow_ok a0 (a1.length : Int) hg
  have h1 := h1 (lenPos hne)
  refine ⟨(?az0, ?bz0), ?gz0, 0, ?rz0⟩
  case rz0 =>
    intro R k
    rw [f100_run]
    simp only [hg, idxOk h0 h1, cond_true]
    exact rfl
  case gz0 => exact ⟨mem_atI (t := .str) h0 h1, g1⟩
theorem f100_ne (a0 : CurT) (a1 : List ByteArray) : Nonempty {o : ByteArray × CurT // gPickS a0 a1 = true → f100_P a0 a1 o} := by
  by_cases hg : gPickS a0 a1 = true
  · obtain ⟨o, ho⟩ := f100_ex a0 a1 hg
    exact ⟨⟨o, fun _ => ho⟩⟩
  · exact ⟨⟨((zero .str), (zero .cur)), fun h => absurd h hg⟩⟩
noncomputable def curPick (a0 : CurT) (a1 : List ByteArray) : ByteArray × CurT := (Classical.choice (f100_ne a0 a1)).val
theorem f100_sp (a0 : CurT) (a1 : List ByteArray) (hg : gPickS a0 a1 = true) : f100_P a0 a1 (curPick a0 a1) := (Classical.choice (f100_ne a0 a1)).property hg
theorem curPick_ok (a0 : CurT) (a1 : List ByteArray) (hg : gPickS a0 a1 = true) : (fun _ l o => o.1 ∈ l ∧ gCur o.2 = true) a0 a1 (curPick a0 a1) := (f100_sp a0 a1 hg).1
theorem curPick_g (a0 : CurT) (a1 : List ByteArray) (hg : gPickS a0 a1 = true) : gCur (curPick a0 a1).2 = true := by
  have h := curPick_ok a0 a1 hg
  first | exact h | exact h.2 | exact h.2.2 | exact h.2.2.2
theorem f100_spec (a0 : CurT) (a1 : List ByteArray) (hg : gPickS a0 a1 = true) : ∃ keep rounds, ∀ {R : Type} (k : List Dt → Option R), evFn f100e keep rounds f100c [.pmut, .ro] [false] true [.tmp 4] [9] [.d .cur a0, .d (.sl .str) a1] k = k [.d .str ((curPick a0 a1).1), .d .cur ((curPick a0 a1).2)] := by
  obtain ⟨n, hn⟩ := (f100_sp a0 a1 hg).2
  exact ⟨f100k, n, hn⟩
noncomputable def q100 : List Dt → Option (Bool × List Dt)
  | [.d .cur a0, .d (.sl .str) a1] => some ((gPickS a0 a1), [.d .str ((curPick a0 a1).1), .d .cur ((curPick a0 a1).2)])
  | _ => none
noncomputable def s100 : Gm.Spec := Gm.Spec.of [.pmut, .ro] [false] true q100
theorem good100 : Gm.Good Try.prog (100, s100) := by
  have hl : ∀ x ∈ [(80, s80)], Gm.Good Try.prog x := List.forall_mem_cons.2 ⟨good80, List.forall_mem_nil _⟩
  refine ⟨⟨spec_ok (tab_ok.env hl) (tab.natl hl) Try.func100 (by kernel_rfl : Try.f100.body = some f100c) [9] (by kernel_rfl) ?_, _, Try.func100, by kernel_rfl, of_decide_eq_true (by kernel_rfl)⟩, Gm.Spec.of_natl _ _ _ _⟩
  intro ds outs h
  unfold q100 at h
  split at h
  · simp only [Option.some.injEq, Prod.mk.injEq] at h; obtain ⟨hg, h⟩ := h; cases h; exact f100_spec _ _ hg
  · cases h
noncomputable def f83c : Code := (Try.f83.body).getD .skip
def f83k : Nat → Kp := kat [⟨[0, 1], [], [], []⟩, ⟨[0, 4], [], [], []⟩]
noncomputable def f83e : Env := tab.env [(80, s80)]
theorem f83_run {R : Type} (n : Nat) (k : List Dt → Option R) (a0 : CurT) (a1 : List Int) : evFn f83e f83k n f83c [.pmut, .ro] [false] true [.tmp 4] [3] [.d .cur a0, .d (.sl (.i .i64)) a1] k =
    (cond ((fun c _ => gCur c) a0 (a1.length : Int))
  (cond ((decide ((0 : Int) ≤ ((curBelow a0 (a1.length : Int)).1))) && (decide (((curBelow a0 (a1.length : Int)).1) < (a1.length : Int))))
   (k [.d (.i .i64) (atI (t := (.i .i64)) a1 (Int.toNat ((curBelow a0 (a1.length : Int)).1))), .d .cur ((curBelow a0 (a1.length : Int)).2)])
   none)
  none) := by kernel_rfl
def f83_P (a0 : CurT) (a1 : List Int) (o : Int × CurT) : Prop := (fun _ l o => o.1 ∈ l ∧ gCur o.2 = true) a0 a1 o ∧ ∃ n : Nat, ∀ {R : Type} (k : List Dt → Option R), evFn f83e f83k n f83c [.pmut, .ro] [false] true [.tmp 4] [3] [.d .cur a0, .d (.sl (.i .i64)) a1] k = k [.d (.i .i64) o.1, .d .cur o.2]
theorem f83_ex (a0 : CurT) (a1 : List Int) (hg : gPickI a0 a1 = true) : ∃ o : Int × CurT, (fun _ l o => o.1 ∈ l ∧ gCur o.2 = true) a0 a1 o ∧ ∃ n : Nat, ∀ {R : Type} (k : List Dt → Option R), evFn f83e f83k n f83c [.pmut, .ro] [false] true [.tmp 4] [3] [.d .cur a0, .d (.sl (.i .i64)) a1] k = k [.d (.i .i64) o.1, .d .cur o.2] := by
  obtain ⟨hg, hne⟩ := Bool.and_eq_true_iff.1 hg
  obtain ⟨hne, hl⟩ := Bool.and_eq_true_iff.1 hne
  obtain ⟨h0, h1, g1⟩ := curBelow_ok a0 (a1.length : Int) hg
  have h1 := h1 (lenPos hne)
  refine ⟨(?az0, ?bz0), ?gz0, 0, ?rz0⟩
  case rz0 =>
    intro R k
    rw [f83_run]
    simp only [hg, idxOk h0 h1, cond_true]
    exact rfl
  case gz0 => exact ⟨mem_atI (t := (.i .i64)) h0 h1, g1⟩
theorem f83_ne (a0 : CurT) (a1 : List Int) : Nonempty {o : Int × CurT // gPickI a0 a1 = true → f83_P a0 a1 o} := by
  by_cases hg : gPickI a0 a1 = true
  · obtain ⟨o, ho⟩ := f83_ex a0 a1 hg
    exact ⟨⟨o, fun _ => ho⟩⟩
  · exact ⟨⟨((zero (.i .i64)), (zero .cur)), fun h => absurd h hg⟩⟩
noncomputable def curPickI (a0 : CurT) (a1 : List Int) : Int × CurT := (Classical.choice (f83_ne a0 a1)).val
theorem f83_sp (a0 : CurT) (a1 : List Int) (hg : gPickI a0 a1 = true) : f83_P a0 a1 (curPickI a0 a1) := (Classical.choice (f83_ne a0 a1)).property hg
theorem curPickI_ok (a0 : CurT) (a1 : List Int) (hg : gPickI a0 a1 = true) : (fun _ l o => o.1 ∈ l ∧ gCur o.2 = true) a0 a1 (curPickI a0 a1) := (f83_sp a0 a1 hg).1
theorem curPickI_g (a0 : CurT) (a1 : List Int) (hg : gPickI a0 a1 = true) : gCur (curPickI a0 a1).2 = true := by
  have h := curPickI_ok a0 a1 hg
  first | exact h | exact h.2 | exact h.2.2 | exact h.2.2.2
theorem f83_spec (a0 : CurT) (a1 : List Int) (hg : gPickI a0 a1 = true) : ∃ keep rounds, ∀ {R : Type} (k : List Dt → Option R), evFn f83e keep rounds f83c [.pmut, .ro] [false] true [.tmp 4] [3] [.d .cur a0, .d (.sl (.i .i64)) a1] k = k [.d (.i .i64) ((curPickI a0 a1).1), .d .cur ((curPickI a0 a1).2)] := by
  obtain ⟨n, hn⟩ := (f83_sp a0 a1 hg).2
  exact ⟨f83k, n, hn⟩
theorem smStr_pick {c : CurT} {l : List ByteArray} (hg : gCur c = true) (hn : (!l.isEmpty && Nat.ble l.length 1048576) = true) (h : (l.all smStr) = true) : smStr (curPick c l).1 = true :=
  smStr_in (curPick_ok c l (gPickS_of hg hn)).1 h
theorem okI_pickI {c : CurT} {l : List Int} (hg : gCur c = true) (hn : (!l.isEmpty && Nat.ble l.length 1048576) = true) (h : (l.all okI) = true) : okI (curPickI c l).1 = true :=
  List.all_eq_true.1 h _ (curPickI_ok c l (gPickI_of hg hn)).1
theorem okI_below {c : CurT} {n : Int} (hg : gCur c = true) (h : 0 < n) (h2 : n ≤ 9223372036854775807) : okI (curBelow c n).1 = true := by
  obtain ⟨h0, h1, _⟩ := curBelow_ok c n hg
  have := h1 h
  exact okI_of (by omega) (by omega)
noncomputable def q83 : List Dt → Option (Bool × List Dt)
  | [.d .cur a0, .d (.sl (.i .i64)) a1] => some ((gPickI a0 a1), [.d (.i .i64) ((curPickI a0 a1).1), .d .cur ((curPickI a0 a1).2)])
  | _ => none
noncomputable def s83 : Gm.Spec := Gm.Spec.of [.pmut, .ro] [false] true q83
theorem good83 : Gm.Good Try.prog (83, s83) := by
  have hl : ∀ x ∈ [(80, s80)], Gm.Good Try.prog x := List.forall_mem_cons.2 ⟨good80, List.forall_mem_nil _⟩
  refine ⟨⟨spec_ok (tab_ok.env hl) (tab.natl hl) Try.func83 (by kernel_rfl : Try.f83.body = some f83c) [3] (by kernel_rfl) ?_, _, Try.func83, by kernel_rfl, of_decide_eq_true (by kernel_rfl)⟩, Gm.Spec.of_natl _ _ _ _⟩
  intro ds outs h
  unfold q83 at h
  split at h
  · simp only [Option.some.injEq, Prod.mk.injEq] at h; obtain ⟨hg, h⟩ := h; cases h; exact f83_spec _ _ hg
  · cases h
end Go.Proofs.Ytnbehmbjoanfoaa

namespace Go.Proofs.Ytnbehmbjoanfoaa
open Go Go.Gm
noncomputable def f152c : Code := (Try.f152.body).getD .skip
def f152k : Nat → Kp := kat [⟨[0], [], [], []⟩, ⟨[0], [], [], []⟩]
noncomputable def f152e : Env := tab.env []
theorem f152_run {R : Type} (n : Nat) (k : List Dt → Option R)  : evFn f152e f152k n f152c [] [false] true [.cell 0 42] [42] [] k =
    (k [.d .pace (⟨(0 : Int), (0 : Int), (0 : Int), (300 : Int)⟩ : PaceT)]) := by kernel_rfl
theorem f152_spec  : ∃ keep rounds, ∀ {R : Type} (k : List Dt → Option R), evFn f152e keep rounds f152c [] [false] true [.cell 0 42] [42] [] k = k [.d .pace paceNew] := by
  exact ⟨f152k, 0, fun k => f152_run 0 k⟩
noncomputable def q152 : List Dt → Option (Bool × List Dt)
  | [] => some (true, [.d .pace paceNew])
  | _ => none
noncomputable def s152 : Gm.Spec := Gm.Spec.of [] [false] true q152
theorem good152 : Gm.Good Try.prog (152, s152) := by
  have hl : ∀ x ∈ ([] : List (Nat × Gm.Spec)), Gm.Good Try.prog x := fun _ h => by cases h
  refine ⟨⟨spec_ok (tab_ok.env hl) (tab.natl hl) Try.func152 (by kernel_rfl : Try.f152.body = some f152c) [42] (by kernel_rfl) ?_, _, Try.func152, by kernel_rfl, of_decide_eq_true (by kernel_rfl)⟩, Gm.Spec.of_natl _ _ _ _⟩
  intro ds outs h
  unfold q152 at h
  split at h
  · cases h; exact f152_spec 
  · cases h
noncomputable def f134c : Code := (Try.f134.body).getD .skip
def f134k : Nat → Kp := kat [⟨[0], [], [], []⟩, ⟨[0, 2], [], [], []⟩]
noncomputable def f134e : Env := tab.env [(100, s100)]
theorem f134_run {R : Type} (n : Nat) (k : List Dt → Option R) (a0 : CurT) : evFn f134e f134k n f134c [.pmut] [false] true [.tmp 2] [9] [.d .cur a0] k =
    (cond (gPickS a0 ([ByteArray.empty, (bs [97]), (bs [119,101,98]), (bs [116,114,117,101]), (bs [49,50]), (bs [115,97,121,32,34,110,111,34]), (bs [98,97,99,107,92]), (bs [97,58,32,98]), (bs [45,32,120]), (bs [35]), (bs [53,109]), (bs [110,117,108,108]), (bs [32,120])] : List ByteArray))
  (k [.d .str ((curPick a0 ([ByteArray.empty, (bs [97]), (bs [119,101,98]), (bs [116,114,117,101]), (bs [49,50]), (bs [115,97,121,32,34,110,111,34]), (bs [98,97,99,107,92]), (bs [97,58,32,98]), (bs [45,32,120]), (bs [35]), (bs [53,109]), (bs [110,117,108,108]), (bs [32,120])] : List ByteArray)).1), .d .cur ((curPick a0 ([ByteArray.empty, (bs [97]), (bs [119,101,98]), (bs [116,114,117,101]), (bs [49,50]), (bs [115,97,121,32,34,110,111,34]), (bs [98,97,99,107,92]), (bs [97,58,32,98]), (bs [45,32,120]), (bs [35]), (bs [53,109]), (bs [110,117,108,108]), (bs [32,120])] : List ByteArray)).2)])
  none) := by kernel_rfl
def f134_P (a0 : CurT) (o : ByteArray × CurT) : Prop := (fun _ o => smStr o.1 = true ∧ gCur o.2 = true) a0 o ∧ ∃ n : Nat, ∀ {R : Type} (k : List Dt → Option R), evFn f134e f134k n f134c [.pmut] [false] true [.tmp 2] [9] [.d .cur a0] k = k [.d .str o.1, .d .cur o.2]
theorem f134_ex (a0 : CurT) (hg : gCur a0 = true) : ∃ o : ByteArray × CurT, (fun _ o => smStr o.1 = true ∧ gCur o.2 = true) a0 o ∧ ∃ n : Nat, ∀ {R : Type} (k : List Dt → Option R), evFn f134e f134k n f134c [.pmut] [false] true [.tmp 2] [9] [.d .cur a0] k = k [.d .str o.1, .d .cur o.2] := by
  refine ⟨(?a0x0, ?a1x0), ?gx0, 0, ?rx0⟩
  case rx0 =>
    intro R k
    rw [f134_run]
    simp (decide := true) (maxDischargeDepth := 60) only [hg, curNew_g, curByte_g, curBelow_g, curOnce_g, curPick_g, curPickI_g, gPickS_of, gPickI_of, cond_true, cond_false, Bool.not_true, Bool.not_false]
    exact rfl
  case gx0 =>
    simp (decide := true) (maxDischargeDepth := 60) only [hg, curNew_g, curByte_g, curBelow_g, curOnce_g, curPick_g, curPickI_g, smStr_pick, okI_pickI, okI_wrap, okI_below, sm_metric, sm_pace, sm_note, Bool.and_eq_true, and_self, true_and, and_true, gPickS_of, gPickI_of]
theorem f134_ne (a0 : CurT) : Nonempty {o : ByteArray × CurT // gCur a0 = true → f134_P a0 o} := by
  by_cases hg : gCur a0 = true
  · obtain ⟨o, ho⟩ := f134_ex a0 hg
    exact ⟨⟨o, fun _ => ho⟩⟩
  · exact ⟨⟨((zero .str), (zero .cur)), fun h => absurd h hg⟩⟩
noncomputable def tText (a0 : CurT) : ByteArray × CurT := (Classical.choice (f134_ne a0)).val
theorem f134_sp (a0 : CurT) (hg : gCur a0 = true) : f134_P a0 (tText a0) := (Classical.choice (f134_ne a0)).property hg
theorem tText_ok (a0 : CurT) (hg : gCur a0 = true) : (fun _ o => smStr o.1 = true ∧ gCur o.2 = true) a0 (tText a0) := (f134_sp a0 hg).1
theorem tText_g (a0 : CurT) (hg : gCur a0 = true) : gCur (tText a0).2 = true := by
  have h := tText_ok a0 hg
  first | exact h | exact h.2 | exact h.2.2 | exact h.2.2.2
theorem f134_spec (a0 : CurT) (hg : gCur a0 = true) : ∃ keep rounds, ∀ {R : Type} (k : List Dt → Option R), evFn f134e keep rounds f134c [.pmut] [false] true [.tmp 2] [9] [.d .cur a0] k = k [.d .str ((tText a0).1), .d .cur ((tText a0).2)] := by
  obtain ⟨n, hn⟩ := (f134_sp a0 hg).2
  exact ⟨f134k, n, hn⟩
noncomputable def q134 : List Dt → Option (Bool × List Dt)
  | [.d .cur a0] => some ((gCur a0), [.d .str ((tText a0).1), .d .cur ((tText a0).2)])
  | _ => none
noncomputable def s134 : Gm.Spec := Gm.Spec.of [.pmut] [false] true q134
theorem good134 : Gm.Good Try.prog (134, s134) := by
  have hl : ∀ x ∈ [(100, s100)], Gm.Good Try.prog x := List.forall_mem_cons.2 ⟨good100, List.forall_mem_nil _⟩
  refine ⟨⟨spec_ok (tab_ok.env hl) (tab.natl hl) Try.func134 (by kernel_rfl : Try.f134.body = some f134c) [9] (by kernel_rfl) ?_, _, Try.func134, by kernel_rfl, of_decide_eq_true (by kernel_rfl)⟩, Gm.Spec.of_natl _ _ _ _⟩
  intro ds outs h
  unfold q134 at h
  split at h
  · simp only [Option.some.injEq, Prod.mk.injEq] at h; obtain ⟨hg, h⟩ := h; cases h; exact f134_spec _ hg
  · cases h
noncomputable def f101c : Code := (Try.f101.body).getD .skip
def f101k : Nat → Kp := kat [⟨[0, 2], [], [], []⟩, ⟨[0, 2, 3], [], [], []⟩, ⟨[0, 2, 3, 4], [], [], []⟩, ⟨[0, 2], [], [], []⟩]
noncomputable def f101e : Env := tab.env [(80, s80), (83, s83), (100, s100)]
theorem f101_run {R : Type} (n : Nat) (k : List Dt → Option R) (a0 : CurT) : evFn f101e f101k n f101c [.pmut] [false] true [.cell 2 132] [132] [.d .cur a0] k =
    (cond (gPickS a0 ([(bs [99,112,117]), (bs [109,101,109]), (bs [113,117,101,117,101]), (bs [104,105,116,115])] : List ByteArray))
  (cond ((fun c _ => gCur c) ((curPick a0 ([(bs [99,112,117]), (bs [109,101,109]), (bs [113,117,101,117,101]), (bs [104,105,116,115])] : List ByteArray)).2) (3 : Int))
   (cond (gPickI ((curBelow ((curPick a0 ([(bs [99,112,117]), (bs [109,101,109]), (bs [113,117,101,117,101]), (bs [104,105,116,115])] : List ByteArray)).2) (3 : Int)).2) ([(1 : Int), (500 : Int), (700 : Int), (800 : Int), (805 : Int), (1000 : Int), (50000 : Int), (1000000 : Int)] : List Int))
    (k [.d .metric (⟨((curPick a0 ([(bs [99,112,117]), (bs [109,101,109]), (bs [113,117,101,117,101]), (bs [104,105,116,115])] : List ByteArray)).1), (IntKind.wrap .i64 ((1 : Int) + ((curBelow ((curPick a0 ([(bs [99,112,117]), (bs [109,101,109]), (bs [113,117,101,117,101]), (bs [104,105,116,115])] : List ByteArray)).2) (3 : Int)).1))), ((curPickI ((curBelow ((curPick a0 ([(bs [99,112,117]), (bs [109,101,109]), (bs [113,117,101,117,101]), (bs [104,105,116,115])] : List ByteArray)).2) (3 : Int)).2) ([(1 : Int), (500 : Int), (700 : Int), (800 : Int), (805 : Int), (1000 : Int), (50000 : Int), (1000000 : Int)] : List Int)).1)⟩ : MetricT), .d .cur ((curPickI ((curBelow ((curPick a0 ([(bs [99,112,117]), (bs [109,101,109]), (bs [113,117,101,117,101]), (bs [104,105,116,115])] : List ByteArray)).2) (3 : Int)).2) ([(1 : Int), (500 : Int), (700 : Int), (800 : Int), (805 : Int), (1000 : Int), (50000 : Int), (1000000 : Int)] : List Int)).2)])
    none)
   none)
  none) := by kernel_rfl
def f101_P (a0 : CurT) (o : MetricT × CurT) : Prop := (fun _ o => sm_metric o.1 = true ∧ gCur o.2 = true) a0 o ∧ ∃ n : Nat, ∀ {R : Type} (k : List Dt → Option R), evFn f101e f101k n f101c [.pmut] [false] true [.cell 2 132] [132] [.d .cur a0] k = k [.d .metric o.1, .d .cur o.2]
theorem f101_ex (a0 : CurT) (hg : gCur a0 = true) : ∃ o : MetricT × CurT, (fun _ o => sm_metric o.1 = true ∧ gCur o.2 = true) a0 o ∧ ∃ n : Nat, ∀ {R : Type} (k : List Dt → Option R), evFn f101e f101k n f101c [.pmut] [false] true [.cell 2 132] [132] [.d .cur a0] k = k [.d .metric o.1, .d .cur o.2] := by
  refine ⟨(?a0x0, ?a1x0), ?gx0, 0, ?rx0⟩
  case rx0 =>
    intro R k
    rw [f101_run]
    simp (decide := true) (maxDischargeDepth := 60) only [hg, curNew_g, curByte_g, curBelow_g, curOnce_g, curPick_g, curPickI_g, tText_g, gPickS_of, gPickI_of, cond_true, cond_false, Bool.not_true, Bool.not_false]
    exact rfl
  case gx0 =>
    simp (decide := true) (maxDischargeDepth := 60) only [hg, curNew_g, curByte_g, curBelow_g, curOnce_g, curPick_g, curPickI_g, tText_g, smStr_pick, okI_pickI, okI_wrap, okI_below, sm_metric, sm_pace, sm_note, Bool.and_eq_true, and_self, true_and, and_true, gPickS_of, gPickI_of]
theorem f101_ne (a0 : CurT) : Nonempty {o : MetricT × CurT // gCur a0 = true → f101_P a0 o} := by
  by_cases hg : gCur a0 = true
  · obtain ⟨o, ho⟩ := f101_ex a0 hg
    exact ⟨⟨o, fun _ => ho⟩⟩
  · exact ⟨⟨((zero .metric), (zero .cur)), fun h => absurd h hg⟩⟩
noncomputable def oMet (a0 : CurT) : MetricT × CurT := (Classical.choice (f101_ne a0)).val
theorem f101_sp (a0 : CurT) (hg : gCur a0 = true) : f101_P a0 (oMet a0) := (Classical.choice (f101_ne a0)).property hg
theorem oMet_ok (a0 : CurT) (hg : gCur a0 = true) : (fun _ o => sm_metric o.1 = true ∧ gCur o.2 = true) a0 (oMet a0) := (f101_sp a0 hg).1
theorem oMet_g (a0 : CurT) (hg : gCur a0 = true) : gCur (oMet a0).2 = true := by
  have h := oMet_ok a0 hg
  first | exact h | exact h.2 | exact h.2.2 | exact h.2.2.2
theorem f101_spec (a0 : CurT) (hg : gCur a0 = true) : ∃ keep rounds, ∀ {R : Type} (k : List Dt → Option R), evFn f101e keep rounds f101c [.pmut] [false] true [.cell 2 132] [132] [.d .cur a0] k = k [.d .metric ((oMet a0).1), .d .cur ((oMet a0).2)] := by
  obtain ⟨n, hn⟩ := (f101_sp a0 hg).2
  exact ⟨f101k, n, hn⟩
noncomputable def q101 : List Dt → Option (Bool × List Dt)
  | [.d .cur a0] => some ((gCur a0), [.d .metric ((oMet a0).1), .d .cur ((oMet a0).2)])
  | _ => none
noncomputable def s101 : Gm.Spec := Gm.Spec.of [.pmut] [false] true q101
theorem good101 : Gm.Good Try.prog (101, s101) := by
  have hl : ∀ x ∈ [(80, s80), (83, s83), (100, s100)], Gm.Good Try.prog x := List.forall_mem_cons.2 ⟨good80, List.forall_mem_cons.2 ⟨good83, List.forall_mem_cons.2 ⟨good100, List.forall_mem_nil _⟩⟩⟩
  refine ⟨⟨spec_ok (tab_ok.env hl) (tab.natl hl) Try.func101 (by kernel_rfl : Try.f101.body = some f101c) [132] (by kernel_rfl) ?_, _, Try.func101, by kernel_rfl, of_decide_eq_true (by kernel_rfl)⟩, Gm.Spec.of_natl _ _ _ _⟩
  intro ds outs h
  unfold q101 at h
  split at h
  · simp only [Option.some.injEq, Prod.mk.injEq] at h; obtain ⟨hg, h⟩ := h; cases h; exact f101_spec _ hg
  · cases h
noncomputable def f133c : Code := (Try.f133.body).getD .skip
def f133k : Nat → Kp := kat [⟨[0, 2], [], [], []⟩, ⟨[0, 2, 7], [], [], []⟩, ⟨[0, 2], [], [], []⟩, ⟨[0, 2, 3], [], [], []⟩, ⟨[0, 2, 3, 4], [], [], []⟩, ⟨[0, 2, 3, 4, 5], [], [], []⟩, ⟨[0, 2], [], [], []⟩]
noncomputable def f133e : Env := tab.env [(82, s82), (83, s83), (152, s152)]
theorem f133_run {R : Type} (n : Nat) (k : List Dt → Option R) (a0 : CurT) : evFn f133e f133k n f133c [.pmut] [false] true [.cell 2 42] [42] [.d .cur a0] k =
    (cond ((fun c _ => gCur c) a0 (3 : Int))
  (cond ((curOnce a0 (3 : Int)).1)
   (k [.d .pace paceNew, .d .cur ((curOnce a0 (3 : Int)).2)])
   (cond (gPickI ((curOnce a0 (3 : Int)).2) ([(0 : Int), (1 : Int), (4 : Int)] : List Int))
    (cond (gPickI ((curPickI ((curOnce a0 (3 : Int)).2) ([(0 : Int), (1 : Int), (4 : Int)] : List Int)).2) ([(0 : Int), (1 : Int), (2 : Int)] : List Int))
     (cond (gPickI ((curPickI ((curPickI ((curOnce a0 (3 : Int)).2) ([(0 : Int), (1 : Int), (4 : Int)] : List Int)).2) ([(0 : Int), (1 : Int), (2 : Int)] : List Int)).2) ([(0 : Int), (30 : Int), (60 : Int)] : List Int))
      (cond (gPickI ((curPickI ((curPickI ((curPickI ((curOnce a0 (3 : Int)).2) ([(0 : Int), (1 : Int), (4 : Int)] : List Int)).2) ([(0 : Int), (1 : Int), (2 : Int)] : List Int)).2) ([(0 : Int), (30 : Int), (60 : Int)] : List Int)).2) ([(0 : Int), (60 : Int), (300 : Int), (3600 : Int)] : List Int))
       (k [.d .pace (⟨((curPickI ((curOnce a0 (3 : Int)).2) ([(0 : Int), (1 : Int), (4 : Int)] : List Int)).1), ((curPickI ((curPickI ((curOnce a0 (3 : Int)).2) ([(0 : Int), (1 : Int), (4 : Int)] : List Int)).2) ([(0 : Int), (1 : Int), (2 : Int)] : List Int)).1), ((curPickI ((curPickI ((curPickI ((curOnce a0 (3 : Int)).2) ([(0 : Int), (1 : Int), (4 : Int)] : List Int)).2) ([(0 : Int), (1 : Int), (2 : Int)] : List Int)).2) ([(0 : Int), (30 : Int), (60 : Int)] : List Int)).1), ((curPickI ((curPickI ((curPickI ((curPickI ((curOnce a0 (3 : Int)).2) ([(0 : Int), (1 : Int), (4 : Int)] : List Int)).2) ([(0 : Int), (1 : Int), (2 : Int)] : List Int)).2) ([(0 : Int), (30 : Int), (60 : Int)] : List Int)).2) ([(0 : Int), (60 : Int), (300 : Int), (3600 : Int)] : List Int)).1)⟩ : PaceT), .d .cur ((curPickI ((curPickI ((curPickI ((curPickI ((curOnce a0 (3 : Int)).2) ([(0 : Int), (1 : Int), (4 : Int)] : List Int)).2) ([(0 : Int), (1 : Int), (2 : Int)] : List Int)).2) ([(0 : Int), (30 : Int), (60 : Int)] : List Int)).2) ([(0 : Int), (60 : Int), (300 : Int), (3600 : Int)] : List Int)).2)])
       none)
      none)
     none)
    none))
  none) := by kernel_rfl
def f133_P (a0 : CurT) (o : PaceT × CurT) : Prop := (fun _ o => sm_pace o.1 = true ∧ gCur o.2 = true) a0 o ∧ ∃ n : Nat, ∀ {R : Type} (k : List Dt → Option R), evFn f133e f133k n f133c [.pmut] [false] true [.cell 2 42] [42] [.d .cur a0] k = k [.d .pace o.1, .d .cur o.2]
theorem f133_ex (a0 : CurT) (hg : gCur a0 = true) : ∃ o : PaceT × CurT, (fun _ o => sm_pace o.1 = true ∧ gCur o.2 = true) a0 o ∧ ∃ n : Nat, ∀ {R : Type} (k : List Dt → Option R), evFn f133e f133k n f133c [.pmut] [false] true [.cell 2 42] [42] [.d .cur a0] k = k [.d .pace o.1, .d .cur o.2] := by
  cases e0 : ((curOnce a0 (3 : Int)).1)
  · skip
    refine ⟨(?a0x1, ?a1x1), ?gx1, 0, ?rx1⟩
    case rx1 =>
      intro R k
      rw [f133_run]
      simp (decide := true) (maxDischargeDepth := 60) only [hg, curNew_g, curByte_g, curBelow_g, curOnce_g, curPick_g, curPickI_g, tText_g, oMet_g, gPickS_of, gPickI_of, cond_true, cond_false, Bool.not_true, Bool.not_false, e0]
      exact rfl
    case gx1 =>
      simp (decide := true) (maxDischargeDepth := 60) only [hg, curNew_g, curByte_g, curBelow_g, curOnce_g, curPick_g, curPickI_g, tText_g, oMet_g, smStr_pick, okI_pickI, okI_wrap, okI_below, sm_metric, sm_pace, sm_note, Bool.and_eq_true, and_self, true_and, and_true, gPickS_of, gPickI_of, e0]
  refine ⟨(?a0x2, ?a1x2), ?gx2, 0, ?rx2⟩
  case rx2 =>
    intro R k
    rw [f133_run]
    simp (decide := true) (maxDischargeDepth := 60) only [hg, curNew_g, curByte_g, curBelow_g, curOnce_g, curPick_g, curPickI_g, tText_g, oMet_g, gPickS_of, gPickI_of, cond_true, cond_false, Bool.not_true, Bool.not_false, e0]
    exact rfl
  case gx2 =>
    simp (decide := true) (maxDischargeDepth := 60) only [hg, curNew_g, curByte_g, curBelow_g, curOnce_g, curPick_g, curPickI_g, tText_g, oMet_g, smStr_pick, okI_pickI, okI_wrap, okI_below, sm_metric, sm_pace, sm_note, Bool.and_eq_true, and_self, true_and, and_true, gPickS_of, gPickI_of, e0]
theorem f133_ne (a0 : CurT) : Nonempty {o : PaceT × CurT // gCur a0 = true → f133_P a0 o} := by
  by_cases hg : gCur a0 = true
  · obtain ⟨o, ho⟩ := f133_ex a0 hg
    exact ⟨⟨o, fun _ => ho⟩⟩
  · exact ⟨⟨((zero .pace), (zero .cur)), fun h => absurd h hg⟩⟩
noncomputable def oPace (a0 : CurT) : PaceT × CurT := (Classical.choice (f133_ne a0)).val
theorem f133_sp (a0 : CurT) (hg : gCur a0 = true) : f133_P a0 (oPace a0) := (Classical.choice (f133_ne a0)).property hg
theorem oPace_ok (a0 : CurT) (hg : gCur a0 = true) : (fun _ o => sm_pace o.1 = true ∧ gCur o.2 = true) a0 (oPace a0) := (f133_sp a0 hg).1
theorem oPace_g (a0 : CurT) (hg : gCur a0 = true) : gCur (oPace a0).2 = true := by
  have h := oPace_ok a0 hg
  first | exact h | exact h.2 | exact h.2.2 | exact h.2.2.2
theorem f133_spec (a0 : CurT) (hg : gCur a0 = true) : ∃ keep rounds, ∀ {R : Type} (k : List Dt → Option R), evFn f133e keep rounds f133c [.pmut] [false] true [.cell 2 42] [42] [.d .cur a0] k = k [.d .pace ((oPace a0).1), .d .cur ((oPace a0).2)] := by
  obtain ⟨n, hn⟩ := (f133_sp a0 hg).2
  exact ⟨f133k, n, hn⟩
noncomputable def q133 : List Dt → Option (Bool × List Dt)
  | [.d .cur a0] => some ((gCur a0), [.d .pace ((oPace a0).1), .d .cur ((oPace a0).2)])
  | _ => none
noncomputable def s133 : Gm.Spec := Gm.Spec.of [.pmut] [false] true q133
theorem good133 : Gm.Good Try.prog (133, s133) := by
  have hl : ∀ x ∈ [(82, s82), (83, s83), (152, s152)], Gm.Good Try.prog x := List.forall_mem_cons.2 ⟨good82, List.forall_mem_cons.2 ⟨good83, List.forall_mem_cons.2 ⟨good152, List.forall_mem_nil _⟩⟩⟩
  refine ⟨⟨spec_ok (tab_ok.env hl) (tab.natl hl) Try.func133 (by kernel_rfl : Try.f133.body = some f133c) [42] (by kernel_rfl) ?_, _, Try.func133, by kernel_rfl, of_decide_eq_true (by kernel_rfl)⟩, Gm.Spec.of_natl _ _ _ _⟩
  intro ds outs h
  unfold q133 at h
  split at h
  · simp only [Option.some.injEq, Prod.mk.injEq] at h; obtain ⟨hg, h⟩ := h; cases h; exact f133_spec _ hg
  · cases h
end Go.Proofs.Ytnbehmbjoanfoaa

namespace Go.Proofs.Ytnbehmbjoanfoaa
open Go Go.Gm
noncomputable def f99S0 (y0 : Int) (y1 : List Int) (y2 : Int) (y3 : Int) (y12 : ByteArray) (y13 : ByteArray) (y14 : Int) (y15 : Int) (y16 : Int) (y17 : Int) (y18 : Int) (y19 : Int) (y20 : List MetricT) (y21 : List ByteArray) : St := ⟨[(0, .c (.one (.pt 0 0))), (2, .c (.one (.pt 2 0))), (4, .c (.one (.pt 4 0))), (5, .c (.one (.h 1792 0 0 []))), (6, .c (.one (.v (.int .i64 y0))))], [(0, ⟨.cur, [.rk (.i .u8) y1, .v (.int .i64 y2), .v (.int .i64 y3)]⟩), (2, ⟨.order, [.v (.string ByteArray.empty), .v (.string ByteArray.empty), .v (.int .i64 (0 : Int)), .v (.int .i64 (0 : Int)), .nl, .v (.int .i64 (0 : Int)), .v (.int .i64 (0 : Int)), .v (.int .i64 (0 : Int)), .v (.int .i64 (0 : Int)), .nl]⟩), (4, ⟨.order, [.v (.string y12), .v (.string y13), .v (.int .i64 y14), .v (.int .i64 y15), .h 260 0 0 [], .v (.int .i64 y16), .v (.int .i64 y17), .v (.int .i64 y18), .v (.int .i64 y19), .nl]⟩)], [(260, .live ⟨.metric, .deep, 0, [], y20⟩), (1792, .live ⟨.str, .deep, 0, [], y21⟩)]⟩
noncomputable def f99S1 (y0 : Int) (y1 : Bool) (y2 : List Int) (y3 : Int) (y4 : Int) (y13 : ByteArray) (y14 : ByteArray) (y15 : Int) (y16 : Int) (y17 : Int) (y18 : Int) (y19 : Int) (y20 : Int) (y21 : List MetricT) (y22 : List ByteArray) : St := ⟨[(0, .c (.one (.pt 0 0))), (2, .c (.one (.pt 2 0))), (4, .c (.one (.pt 4 0))), (5, .c (.one (.h 1792 0 0 []))), (6, .c (.one (.v (.int .i64 y0)))), (32, .c (.one (.v (.bool y1))))], [(0, ⟨.cur, [.rk (.i .u8) y2, .v (.int .i64 y3), .v (.int .i64 y4)]⟩), (2, ⟨.order, [.v (.string ByteArray.empty), .v (.string ByteArray.empty), .v (.int .i64 (0 : Int)), .v (.int .i64 (0 : Int)), .nl, .v (.int .i64 (0 : Int)), .v (.int .i64 (0 : Int)), .v (.int .i64 (0 : Int)), .v (.int .i64 (0 : Int)), .nl]⟩), (4, ⟨.order, [.v (.string y13), .v (.string y14), .v (.int .i64 y15), .v (.int .i64 y16), .h 260 0 0 [], .v (.int .i64 y17), .v (.int .i64 y18), .v (.int .i64 y19), .v (.int .i64 y20), .nl]⟩)], [(260, .live ⟨.metric, .deep, 0, [], y21⟩), (1792, .live ⟨.str, .deep, 0, [], y22⟩)]⟩
noncomputable def f99S2 (y0 : Int) (y1 : List Int) (y2 : Int) (y3 : Int) (y12 : ByteArray) (y13 : ByteArray) (y14 : Int) (y15 : Int) (y16 : Int) (y17 : Int) (y18 : Int) (y19 : Int) (y20 : List MetricT) (y21 : List NoteT) (y22 : List ByteArray) : St := ⟨[(0, .c (.one (.pt 0 0))), (2, .c (.one (.pt 2 0))), (4, .c (.one (.pt 4 0))), (8, .c (.one (.h 3200 0 0 []))), (9, .c (.one (.v (.int .i64 y0))))], [(0, ⟨.cur, [.rk (.i .u8) y1, .v (.int .i64 y2), .v (.int .i64 y3)]⟩), (2, ⟨.order, [.v (.string ByteArray.empty), .v (.string ByteArray.empty), .v (.int .i64 (0 : Int)), .v (.int .i64 (0 : Int)), .nl, .v (.int .i64 (0 : Int)), .v (.int .i64 (0 : Int)), .v (.int .i64 (0 : Int)), .v (.int .i64 (0 : Int)), .nl]⟩), (4, ⟨.order, [.v (.string y12), .v (.string y13), .v (.int .i64 y14), .v (.int .i64 y15), .h 260 0 0 [], .v (.int .i64 y16), .v (.int .i64 y17), .v (.int .i64 y18), .v (.int .i64 y19), .h 265 0 0 []]⟩)], [(260, .live ⟨.metric, .deep, 0, [], y20⟩), (265, .live ⟨.note, .deep, 0, [], y21⟩), (3200, .live ⟨.str, .deep, 0, [], y22⟩)]⟩
noncomputable def f99S3 (y0 : Int) (y1 : Bool) (y2 : List Int) (y3 : Int) (y4 : Int) (y13 : ByteArray) (y14 : ByteArray) (y15 : Int) (y16 : Int) (y17 : Int) (y18 : Int) (y19 : Int) (y20 : Int) (y21 : List MetricT) (y22 : List NoteT) (y23 : List ByteArray) : St := ⟨[(0, .c (.one (.pt 0 0))), (2, .c (.one (.pt 2 0))), (4, .c (.one (.pt 4 0))), (8, .c (.one (.h 3200 0 0 []))), (9, .c (.one (.v (.int .i64 y0)))), (54, .c (.one (.v (.bool y1))))], [(0, ⟨.cur, [.rk (.i .u8) y2, .v (.int .i64 y3), .v (.int .i64 y4)]⟩), (2, ⟨.order, [.v (.string ByteArray.empty), .v (.string ByteArray.empty), .v (.int .i64 (0 : Int)), .v (.int .i64 (0 : Int)), .nl, .v (.int .i64 (0 : Int)), .v (.int .i64 (0 : Int)), .v (.int .i64 (0 : Int)), .v (.int .i64 (0 : Int)), .nl]⟩), (4, ⟨.order, [.v (.string y13), .v (.string y14), .v (.int .i64 y15), .v (.int .i64 y16), .h 260 0 0 [], .v (.int .i64 y17), .v (.int .i64 y18), .v (.int .i64 y19), .v (.int .i64 y20), .h 265 0 0 []]⟩)], [(260, .live ⟨.metric, .deep, 0, [], y21⟩), (265, .live ⟨.note, .deep, 0, [], y22⟩), (3200, .live ⟨.str, .deep, 0, [], y23⟩)]⟩
noncomputable def f99c : Code := (Try.f99.body).getD .skip
def f99k : Nat → Kp := kat [⟨[0, 2], [], [], []⟩, ⟨[0, 2, 3], [], [], []⟩, ⟨[0, 2, 4], [], [], []⟩, ⟨[0, 2, 4, 5], [], [], []⟩, ⟨[0, 2, 4, 5, 6], [⟨true, false, 4, 4, .metric⟩], [], []⟩, ⟨[0, 2, 4, 5, 6, 32], [], [], []⟩, ⟨[0, 2, 4, 5, 6], [], [], []⟩, ⟨[0, 2, 4, 5, 6, 36], [], [], []⟩, ⟨[0, 2, 4, 5, 6, 7], [], [], []⟩, ⟨[0, 2, 4, 5, 6, 7], [], [], []⟩, ⟨[0, 2, 4, 5, 6], [], [], []⟩, ⟨[0, 2, 4, 8], [], [], []⟩, ⟨[0, 2, 4, 8, 9], [⟨true, false, 4, 9, .note⟩], [], []⟩, ⟨[0, 2, 4, 8, 9, 54], [], [], []⟩, ⟨[0, 2, 4, 8, 9], [], [], []⟩, ⟨[0, 2, 4, 8, 9, 58], [], [], []⟩, ⟨[0, 2, 4, 8, 9], [], [], []⟩, ⟨[0, 2], [], [], []⟩]
noncomputable def f99e : Env := tab.env [(80, s80), (82, s82), (83, s83), (100, s100), (101, s101), (133, s133), (134, s134)]
noncomputable def f99L0 {R : Type} (n : Nat) (x0 : Int → Bool → (List Int) → Int → Int → (List MetricT) → Option R) (vb4_0 : ByteArray) (vb4_1 : ByteArray) (vb4_2 : Int) (vb4_3 : Int) (vb4_5 : Int) (vb4_6 : Int) (vb4_7 : Int) (vb4_8 : Int) (vr1792 : List ByteArray) : Nat → Int → (List Int) → Int → Int → (List MetricT) → Option R
  | 0, _, _, _, _, _ => none
  | m + 1, vs6, vb0_0, vb0_1, vb0_2, vr260 =>
    (cond (decide (vs6 < (vr1792.length : Int)))
   (cond ((fun c _ => gCur c) (⟨vb0_0, vb0_1, vb0_2⟩ : CurT) (2 : Int))
    (cond ((curOnce (⟨vb0_0, vb0_1, vb0_2⟩ : CurT) (2 : Int)).1)
     (cond (gCur ((curOnce (⟨vb0_0, vb0_1, vb0_2⟩ : CurT) (2 : Int)).2))
      (cond ((decide ((0 : Int) ≤ vs6)) && (decide (vs6 < (vr1792.length : Int))))
       (cond (Nat.ble (vr260.length + 1) LIM)
        (f99L0 n x0 vb4_0 vb4_1 vb4_2 vb4_3 vb4_5 vb4_6 vb4_7 vb4_8 vr1792 m (IntKind.wrap .i64 (vs6 + (1 : Int))) (CurT.b ((oMet ((curOnce (⟨vb0_0, vb0_1, vb0_2⟩ : CurT) (2 : Int)).2)).2)) (CurT.i ((oMet ((curOnce (⟨vb0_0, vb0_1, vb0_2⟩ : CurT) (2 : Int)).2)).2)) (CurT.h ((oMet ((curOnce (⟨vb0_0, vb0_1, vb0_2⟩ : CurT) (2 : Int)).2)).2)) (vr260 ++ ([(⟨(atI (t := .str) vr1792 (Int.toNat vs6)), (MetricT.kind ((oMet ((curOnce (⟨vb0_0, vb0_1, vb0_2⟩ : CurT) (2 : Int)).2)).1)), (MetricT.goal ((oMet ((curOnce (⟨vb0_0, vb0_1, vb0_2⟩ : CurT) (2 : Int)).2)).1))⟩ : MetricT)] : List MetricT)))
        none)
       none)
      none)
     (f99L0 n x0 vb4_0 vb4_1 vb4_2 vb4_3 vb4_5 vb4_6 vb4_7 vb4_8 vr1792 m (IntKind.wrap .i64 (vs6 + (1 : Int))) (CurT.b ((curOnce (⟨vb0_0, vb0_1, vb0_2⟩ : CurT) (2 : Int)).2)) (CurT.i ((curOnce (⟨vb0_0, vb0_1, vb0_2⟩ : CurT) (2 : Int)).2)) (CurT.h ((curOnce (⟨vb0_0, vb0_1, vb0_2⟩ : CurT) (2 : Int)).2)) vr260))
    none)
   (x0 vs6 (decide (vs6 < (vr1792.length : Int))) vb0_0 vb0_1 vb0_2 vr260))
theorem f99L0_b {R : Type} (n : Nat) (k' : Ex → St → Option R) (vs6 : Int) (vb0_0 : List Int) (vb0_1 : Int) (vb0_2 : Int) (vb4_0 : ByteArray) (vb4_1 : ByteArray) (vb4_2 : Int) (vb4_3 : Int) (vb4_5 : Int) (vb4_6 : Int) (vb4_7 : Int) (vb4_8 : Int) (vr260 : List MetricT) (vr1792 : List ByteArray) : ev f99e f99k n (cAt [1,1,1,1,0,1,0,0] f99c) (f99S0 vs6 vb0_0 vb0_1 vb0_2 vb4_0 vb4_1 vb4_2 vb4_3 vb4_5 vb4_6 vb4_7 vb4_8 vr260 vr1792) k' =
    (cond (decide (vs6 < (vr1792.length : Int)))
  (cond ((fun c _ => gCur c) (⟨vb0_0, vb0_1, vb0_2⟩ : CurT) (2 : Int))
   (cond ((curOnce (⟨vb0_0, vb0_1, vb0_2⟩ : CurT) (2 : Int)).1)
    (cond (gCur ((curOnce (⟨vb0_0, vb0_1, vb0_2⟩ : CurT) (2 : Int)).2))
     (cond ((decide ((0 : Int) ≤ vs6)) && (decide (vs6 < (vr1792.length : Int))))
      (cond (Nat.ble (vr260.length + 1) LIM)
       (k' .normal (f99S0 (IntKind.wrap .i64 (vs6 + (1 : Int))) (CurT.b ((oMet ((curOnce (⟨vb0_0, vb0_1, vb0_2⟩ : CurT) (2 : Int)).2)).2)) (CurT.i ((oMet ((curOnce (⟨vb0_0, vb0_1, vb0_2⟩ : CurT) (2 : Int)).2)).2)) (CurT.h ((oMet ((curOnce (⟨vb0_0, vb0_1, vb0_2⟩ : CurT) (2 : Int)).2)).2)) vb4_0 vb4_1 vb4_2 vb4_3 vb4_5 vb4_6 vb4_7 vb4_8 (vr260 ++ ([(⟨(atI (t := .str) vr1792 (Int.toNat vs6)), (MetricT.kind ((oMet ((curOnce (⟨vb0_0, vb0_1, vb0_2⟩ : CurT) (2 : Int)).2)).1)), (MetricT.goal ((oMet ((curOnce (⟨vb0_0, vb0_1, vb0_2⟩ : CurT) (2 : Int)).2)).1))⟩ : MetricT)] : List MetricT)) vr1792))
       none)
      none)
     none)
    (k' .normal (f99S0 (IntKind.wrap .i64 (vs6 + (1 : Int))) (CurT.b ((curOnce (⟨vb0_0, vb0_1, vb0_2⟩ : CurT) (2 : Int)).2)) (CurT.i ((curOnce (⟨vb0_0, vb0_1, vb0_2⟩ : CurT) (2 : Int)).2)) (CurT.h ((curOnce (⟨vb0_0, vb0_1, vb0_2⟩ : CurT) (2 : Int)).2)) vb4_0 vb4_1 vb4_2 vb4_3 vb4_5 vb4_6 vb4_7 vb4_8 vr260 vr1792)))
   none)
  (k' (.exit 0) (f99S1 vs6 (decide (vs6 < (vr1792.length : Int))) vb0_0 vb0_1 vb0_2 vb4_0 vb4_1 vb4_2 vb4_3 vb4_5 vb4_6 vb4_7 vb4_8 vr260 vr1792))) := by kernel_rfl
theorem f99L0_eq {R : Type} (n : Nat) (k' : Ex → St → Option R) (vb4_0 : ByteArray) (vb4_1 : ByteArray) (vb4_2 : Int) (vb4_3 : Int) (vb4_5 : Int) (vb4_6 : Int) (vb4_7 : Int) (vb4_8 : Int) (vr1792 : List ByteArray) : ∀ (m : Nat) (vs6 : Int) (vb0_0 : List Int) (vb0_1 : Int) (vb0_2 : Int) (vr260 : List MetricT), iter (fun st k => ev f99e f99k n (cAt [1,1,1,1,0,1,0,0] f99c) st k) m (f99S0 vs6 vb0_0 vb0_1 vb0_2 vb4_0 vb4_1 vb4_2 vb4_3 vb4_5 vb4_6 vb4_7 vb4_8 vr260 vr1792) k' = f99L0 n (fun (xvs6 : Int) (xvs32 : Bool) (xvb0_0 : List Int) (xvb0_1 : Int) (xvb0_2 : Int) (xvr260 : List MetricT) => k' (.exit 0) (f99S1 xvs6 xvs32 xvb0_0 xvb0_1 xvb0_2 vb4_0 vb4_1 vb4_2 vb4_3 vb4_5 vb4_6 vb4_7 vb4_8 xvr260 vr1792)) vb4_0 vb4_1 vb4_2 vb4_3 vb4_5 vb4_6 vb4_7 vb4_8 vr1792 m vs6 vb0_0 vb0_1 vb0_2 vr260 := by
  intro m; induction m with
  | zero => intros; rfl
  | succ m ih =>
    intro vs6 vb0_0 vb0_1 vb0_2 vr260
    simp only [iter]
    rw [f99L0_b]
    simp only [ih, f99L0]
noncomputable def f99L1 {R : Type} (n : Nat) (x0 : Int → Bool → (List Int) → Int → Int → (List NoteT) → Option R) (vb4_0 : ByteArray) (vb4_1 : ByteArray) (vb4_2 : Int) (vb4_3 : Int) (vb4_5 : Int) (vb4_6 : Int) (vb4_7 : Int) (vb4_8 : Int) (vr260 : List MetricT) (vr3200 : List ByteArray) : Nat → Int → (List Int) → Int → Int → (List NoteT) → Option R
  | 0, _, _, _, _, _ => none
  | m + 1, vs9, vb0_0, vb0_1, vb0_2, vr265 =>
    (cond (decide (vs9 < (vr3200.length : Int)))
   (cond ((fun c _ => gCur c) (⟨vb0_0, vb0_1, vb0_2⟩ : CurT) (3 : Int))
    (cond ((curOnce (⟨vb0_0, vb0_1, vb0_2⟩ : CurT) (3 : Int)).1)
     (cond ((decide ((0 : Int) ≤ vs9)) && (decide (vs9 < (vr3200.length : Int))))
      (cond (gCur ((curOnce (⟨vb0_0, vb0_1, vb0_2⟩ : CurT) (3 : Int)).2))
       (cond (Nat.ble (vr265.length + 1) LIM)
        (f99L1 n x0 vb4_0 vb4_1 vb4_2 vb4_3 vb4_5 vb4_6 vb4_7 vb4_8 vr260 vr3200 m (IntKind.wrap .i64 (vs9 + (1 : Int))) (CurT.b ((tText ((curOnce (⟨vb0_0, vb0_1, vb0_2⟩ : CurT) (3 : Int)).2)).2)) (CurT.i ((tText ((curOnce (⟨vb0_0, vb0_1, vb0_2⟩ : CurT) (3 : Int)).2)).2)) (CurT.h ((tText ((curOnce (⟨vb0_0, vb0_1, vb0_2⟩ : CurT) (3 : Int)).2)).2)) (vr265 ++ ([(⟨(atI (t := .str) vr3200 (Int.toNat vs9)), ((tText ((curOnce (⟨vb0_0, vb0_1, vb0_2⟩ : CurT) (3 : Int)).2)).1)⟩ : NoteT)] : List NoteT)))
        none)
       none)
      none)
     (f99L1 n x0 vb4_0 vb4_1 vb4_2 vb4_3 vb4_5 vb4_6 vb4_7 vb4_8 vr260 vr3200 m (IntKind.wrap .i64 (vs9 + (1 : Int))) (CurT.b ((curOnce (⟨vb0_0, vb0_1, vb0_2⟩ : CurT) (3 : Int)).2)) (CurT.i ((curOnce (⟨vb0_0, vb0_1, vb0_2⟩ : CurT) (3 : Int)).2)) (CurT.h ((curOnce (⟨vb0_0, vb0_1, vb0_2⟩ : CurT) (3 : Int)).2)) vr265))
    none)
   (x0 vs9 (decide (vs9 < (vr3200.length : Int))) vb0_0 vb0_1 vb0_2 vr265))
theorem f99L1_b {R : Type} (n : Nat) (k' : Ex → St → Option R) (vs9 : Int) (vb0_0 : List Int) (vb0_1 : Int) (vb0_2 : Int) (vb4_0 : ByteArray) (vb4_1 : ByteArray) (vb4_2 : Int) (vb4_3 : Int) (vb4_5 : Int) (vb4_6 : Int) (vb4_7 : Int) (vb4_8 : Int) (vr260 : List MetricT) (vr265 : List NoteT) (vr3200 : List ByteArray) : ev f99e f99k n (cAt [1,1,1,1,1,1,0,1,0,0] f99c) (f99S2 vs9 vb0_0 vb0_1 vb0_2 vb4_0 vb4_1 vb4_2 vb4_3 vb4_5 vb4_6 vb4_7 vb4_8 vr260 vr265 vr3200) k' =
    (cond (decide (vs9 < (vr3200.length : Int)))
  (cond ((fun c _ => gCur c) (⟨vb0_0, vb0_1, vb0_2⟩ : CurT) (3 : Int))
   (cond ((curOnce (⟨vb0_0, vb0_1, vb0_2⟩ : CurT) (3 : Int)).1)
    (cond ((decide ((0 : Int) ≤ vs9)) && (decide (vs9 < (vr3200.length : Int))))
     (cond (gCur ((curOnce (⟨vb0_0, vb0_1, vb0_2⟩ : CurT) (3 : Int)).2))
      (cond (Nat.ble (vr265.length + 1) LIM)
       (k' .normal (f99S2 (IntKind.wrap .i64 (vs9 + (1 : Int))) (CurT.b ((tText ((curOnce (⟨vb0_0, vb0_1, vb0_2⟩ : CurT) (3 : Int)).2)).2)) (CurT.i ((tText ((curOnce (⟨vb0_0, vb0_1, vb0_2⟩ : CurT) (3 : Int)).2)).2)) (CurT.h ((tText ((curOnce (⟨vb0_0, vb0_1, vb0_2⟩ : CurT) (3 : Int)).2)).2)) vb4_0 vb4_1 vb4_2 vb4_3 vb4_5 vb4_6 vb4_7 vb4_8 vr260 (vr265 ++ ([(⟨(atI (t := .str) vr3200 (Int.toNat vs9)), ((tText ((curOnce (⟨vb0_0, vb0_1, vb0_2⟩ : CurT) (3 : Int)).2)).1)⟩ : NoteT)] : List NoteT)) vr3200))
       none)
      none)
     none)
    (k' .normal (f99S2 (IntKind.wrap .i64 (vs9 + (1 : Int))) (CurT.b ((curOnce (⟨vb0_0, vb0_1, vb0_2⟩ : CurT) (3 : Int)).2)) (CurT.i ((curOnce (⟨vb0_0, vb0_1, vb0_2⟩ : CurT) (3 : Int)).2)) (CurT.h ((curOnce (⟨vb0_0, vb0_1, vb0_2⟩ : CurT) (3 : Int)).2)) vb4_0 vb4_1 vb4_2 vb4_3 vb4_5 vb4_6 vb4_7 vb4_8 vr260 vr265 vr3200)))
   none)
  (k' (.exit 2) (f99S3 vs9 (decide (vs9 < (vr3200.length : Int))) vb0_0 vb0_1 vb0_2 vb4_0 vb4_1 vb4_2 vb4_3 vb4_5 vb4_6 vb4_7 vb4_8 vr260 vr265 vr3200))) := by kernel_rfl
theorem f99L1_eq {R : Type} (n : Nat) (k' : Ex → St → Option R) (vb4_0 : ByteArray) (vb4_1 : ByteArray) (vb4_2 : Int) (vb4_3 : Int) (vb4_5 : Int) (vb4_6 : Int) (vb4_7 : Int) (vb4_8 : Int) (vr260 : List MetricT) (vr3200 : List ByteArray) : ∀ (m : Nat) (vs9 : Int) (vb0_0 : List Int) (vb0_1 : Int) (vb0_2 : Int) (vr265 : List NoteT), iter (fun st k => ev f99e f99k n (cAt [1,1,1,1,1,1,0,1,0,0] f99c) st k) m (f99S2 vs9 vb0_0 vb0_1 vb0_2 vb4_0 vb4_1 vb4_2 vb4_3 vb4_5 vb4_6 vb4_7 vb4_8 vr260 vr265 vr3200) k' = f99L1 n (fun (xvs9 : Int) (xvs54 : Bool) (xvb0_0 : List Int) (xvb0_1 : Int) (xvb0_2 : Int) (xvr265 : List NoteT) => k' (.exit 2) (f99S3 xvs9 xvs54 xvb0_0 xvb0_1 xvb0_2 vb4_0 vb4_1 vb4_2 vb4_3 vb4_5 vb4_6 vb4_7 vb4_8 vr260 xvr265 vr3200)) vb4_0 vb4_1 vb4_2 vb4_3 vb4_5 vb4_6 vb4_7 vb4_8 vr260 vr3200 m vs9 vb0_0 vb0_1 vb0_2 vr265 := by
  intro m; induction m with
  | zero => intros; rfl
  | succ m ih =>
    intro vs9 vb0_0 vb0_1 vb0_2 vr265
    simp only [iter]
    rw [f99L1_b]
    simp only [ih, f99L1]
noncomputable def f99K1 {R : Type} (n : Nat) (k' : Ex → St → Option R) : Ex → St → Option R := (blockK 2 (seqK f99e f99k n (cAt [1,1,1,1,1,1,1] f99c) k'))
theorem f99K1_x0 {R : Type} (n : Nat) (k : List Dt → Option R) (a0 : CurT) (vb4_0 : ByteArray) (vb4_1 : ByteArray) (vb4_2 : Int) (vb4_3 : Int) (vb4_5 : Int) (vb4_6 : Int) (vb4_7 : Int) (vb4_8 : Int) (vr260 : List MetricT) (vr3200 : List ByteArray) (xvs9 : Int) (xvs54 : Bool) (xvb0_0 : List Int) (xvb0_1 : Int) (xvb0_2 : Int) (xvr265 : List NoteT) : f99K1 n (exitK f99e [.pmut] [false] true [.cell 2 45] [45] [.d .cur a0] k) (.exit 2) (f99S3 xvs9 xvs54 xvb0_0 xvb0_1 xvb0_2 vb4_0 vb4_1 vb4_2 vb4_3 vb4_5 vb4_6 vb4_7 vb4_8 vr260 xvr265 vr3200) =
    (k [.d .order (⟨vb4_0, vb4_1, vb4_2, vb4_3, vr260, (⟨vb4_5, vb4_6, vb4_7, vb4_8⟩ : PaceT), xvr265⟩ : OrderT), .d .cur (⟨xvb0_0, xvb0_1, xvb0_2⟩ : CurT)]) := by kernel_rfl
noncomputable def f99K0 {R : Type} (n : Nat) (k' : Ex → St → Option R) : Ex → St → Option R := (blockK 0 (seqK f99e f99k n (cAt [1,1,1,1,1] f99c) k'))
theorem f99K0_x0 {R : Type} (n : Nat) (k : List Dt → Option R) (a0 : CurT) (vb4_0 : ByteArray) (vb4_1 : ByteArray) (vb4_2 : Int) (vb4_3 : Int) (vb4_5 : Int) (vb4_6 : Int) (vb4_7 : Int) (vb4_8 : Int) (vr1792 : List ByteArray) (xvs6 : Int) (xvs32 : Bool) (xvb0_0 : List Int) (xvb0_1 : Int) (xvb0_2 : Int) (xvr260 : List MetricT) : f99K0 n (exitK f99e [.pmut] [false] true [.cell 2 45] [45] [.d .cur a0] k) (.exit 0) (f99S1 xvs6 xvs32 xvb0_0 xvb0_1 xvb0_2 vb4_0 vb4_1 vb4_2 vb4_3 vb4_5 vb4_6 vb4_7 vb4_8 xvr260 vr1792) =
    (f99L1 n (fun (xvs9 : Int) (xvs54 : Bool) (xvb0_0 : List Int) (xvb0_1 : Int) (xvb0_2 : Int) (xvr265 : List NoteT) =>
  (k [.d .order (⟨vb4_0, vb4_1, vb4_2, vb4_3, xvr260, (⟨vb4_5, vb4_6, vb4_7, vb4_8⟩ : PaceT), xvr265⟩ : OrderT), .d .cur (⟨xvb0_0, xvb0_1, xvb0_2⟩ : CurT)])) vb4_0 vb4_1 vb4_2 vb4_3 vb4_5 vb4_6 vb4_7 vb4_8 xvr260 [(bs [97]), (bs [111,119,110,101,114]), (bs [120,47,121])] n (0 : Int) xvb0_0 xvb0_1 xvb0_2 ([] : List NoteT)) := by
  refine Eq.trans (b := (iter (fun st k => ev f99e f99k n (cAt [1,1,1,1,1,1,0,1,0,0] f99c) st k) n (f99S2 (0 : Int) xvb0_0 xvb0_1 xvb0_2 vb4_0 vb4_1 vb4_2 vb4_3 vb4_5 vb4_6 vb4_7 vb4_8 xvr260 ([] : List NoteT) ([(bs [97]), (bs [111,119,110,101,114]), (bs [120,47,121])] : List ByteArray)) (f99K1 n (exitK f99e [.pmut] [false] true [.cell 2 45] [45] [.d .cur a0] k)))) (by kernel_rfl) ?_
  simp only [f99L1_eq, f99K1_x0]
theorem f99_run {R : Type} (n : Nat) (k : List Dt → Option R) (a0 : CurT) : evFn f99e f99k n f99c [.pmut] [false] true [.cell 2 45] [45] [.d .cur a0] k =
    (cond ((fun c _ => gCur c) a0 (4 : Int))
  (cond (gPickS ((curBelow a0 (4 : Int)).2) ([(bs [119,101,98]), (bs [97,112,105]), (bs [106,111,98,45,49])] : List ByteArray))
   (cond (gPickS ((curPick ((curBelow a0 (4 : Int)).2) ([(bs [119,101,98]), (bs [97,112,105]), (bs [106,111,98,45,49])] : List ByteArray)).2) ([(bs [119,101,98]), (bs [112,111,111,108])] : List ByteArray))
    (cond (gPickI ((curPick ((curPick ((curBelow a0 (4 : Int)).2) ([(bs [119,101,98]), (bs [97,112,105]), (bs [106,111,98,45,49])] : List ByteArray)).2) ([(bs [119,101,98]), (bs [112,111,111,108])] : List ByteArray)).2) ([(0 : Int), (3 : Int), (10 : Int), (900 : Int)] : List Int))
     (cond (gCur ((curPickI ((curPick ((curPick ((curBelow a0 (4 : Int)).2) ([(bs [119,101,98]), (bs [97,112,105]), (bs [106,111,98,45,49])] : List ByteArray)).2) ([(bs [119,101,98]), (bs [112,111,111,108])] : List ByteArray)).2) ([(0 : Int), (3 : Int), (10 : Int), (900 : Int)] : List Int)).2))
      (f99L0 n (fun (xvs6 : Int) (xvs32 : Bool) (xvb0_0 : List Int) (xvb0_1 : Int) (xvb0_2 : Int) (xvr260 : List MetricT) =>
       (f99L1 n (fun (xvs9 : Int) (xvs54 : Bool) (xvb0_0 : List Int) (xvb0_1 : Int) (xvb0_2 : Int) (xvr265 : List NoteT) =>
        (k [.d .order (⟨((curPick ((curBelow a0 (4 : Int)).2) ([(bs [119,101,98]), (bs [97,112,105]), (bs [106,111,98,45,49])] : List ByteArray)).1), ((curPick ((curPick ((curBelow a0 (4 : Int)).2) ([(bs [119,101,98]), (bs [97,112,105]), (bs [106,111,98,45,49])] : List ByteArray)).2) ([(bs [119,101,98]), (bs [112,111,111,108])] : List ByteArray)).1), (IntKind.wrap .i64 ((1 : Int) + ((curBelow a0 (4 : Int)).1))), (IntKind.wrap .i64 ((IntKind.wrap .i64 ((1 : Int) + ((curBelow a0 (4 : Int)).1))) + ((curPickI ((curPick ((curPick ((curBelow a0 (4 : Int)).2) ([(bs [119,101,98]), (bs [97,112,105]), (bs [106,111,98,45,49])] : List ByteArray)).2) ([(bs [119,101,98]), (bs [112,111,111,108])] : List ByteArray)).2) ([(0 : Int), (3 : Int), (10 : Int), (900 : Int)] : List Int)).1))), xvr260, (⟨(PaceT.up ((oPace ((curPickI ((curPick ((curPick ((curBelow a0 (4 : Int)).2) ([(bs [119,101,98]), (bs [97,112,105]), (bs [106,111,98,45,49])] : List ByteArray)).2) ([(bs [119,101,98]), (bs [112,111,111,108])] : List ByteArray)).2) ([(0 : Int), (3 : Int), (10 : Int), (900 : Int)] : List Int)).2)).1)), (PaceT.down ((oPace ((curPickI ((curPick ((curPick ((curBelow a0 (4 : Int)).2) ([(bs [119,101,98]), (bs [97,112,105]), (bs [106,111,98,45,49])] : List ByteArray)).2) ([(bs [119,101,98]), (bs [112,111,111,108])] : List ByteArray)).2) ([(0 : Int), (3 : Int), (10 : Int), (900 : Int)] : List Int)).2)).1)), (PaceT.upSpan ((oPace ((curPickI ((curPick ((curPick ((curBelow a0 (4 : Int)).2) ([(bs [119,101,98]), (bs [97,112,105]), (bs [106,111,98,45,49])] : List ByteArray)).2) ([(bs [119,101,98]), (bs [112,111,111,108])] : List ByteArray)).2) ([(0 : Int), (3 : Int), (10 : Int), (900 : Int)] : List Int)).2)).1)), (PaceT.downSpan ((oPace ((curPickI ((curPick ((curPick ((curBelow a0 (4 : Int)).2) ([(bs [119,101,98]), (bs [97,112,105]), (bs [106,111,98,45,49])] : List ByteArray)).2) ([(bs [119,101,98]), (bs [112,111,111,108])] : List ByteArray)).2) ([(0 : Int), (3 : Int), (10 : Int), (900 : Int)] : List Int)).2)).1))⟩ : PaceT), xvr265⟩ : OrderT), .d .cur (⟨xvb0_0, xvb0_1, xvb0_2⟩ : CurT)])) ((curPick ((curBelow a0 (4 : Int)).2) ([(bs [119,101,98]), (bs [97,112,105]), (bs [106,111,98,45,49])] : List ByteArray)).1) ((curPick ((curPick ((curBelow a0 (4 : Int)).2) ([(bs [119,101,98]), (bs [97,112,105]), (bs [106,111,98,45,49])] : List ByteArray)).2) ([(bs [119,101,98]), (bs [112,111,111,108])] : List ByteArray)).1) (IntKind.wrap .i64 ((1 : Int) + ((curBelow a0 (4 : Int)).1))) (IntKind.wrap .i64 ((IntKind.wrap .i64 ((1 : Int) + ((curBelow a0 (4 : Int)).1))) + ((curPickI ((curPick ((curPick ((curBelow a0 (4 : Int)).2) ([(bs [119,101,98]), (bs [97,112,105]), (bs [106,111,98,45,49])] : List ByteArray)).2) ([(bs [119,101,98]), (bs [112,111,111,108])] : List ByteArray)).2) ([(0 : Int), (3 : Int), (10 : Int), (900 : Int)] : List Int)).1))) (PaceT.up ((oPace ((curPickI ((curPick ((curPick ((curBelow a0 (4 : Int)).2) ([(bs [119,101,98]), (bs [97,112,105]), (bs [106,111,98,45,49])] : List ByteArray)).2) ([(bs [119,101,98]), (bs [112,111,111,108])] : List ByteArray)).2) ([(0 : Int), (3 : Int), (10 : Int), (900 : Int)] : List Int)).2)).1)) (PaceT.down ((oPace ((curPickI ((curPick ((curPick ((curBelow a0 (4 : Int)).2) ([(bs [119,101,98]), (bs [97,112,105]), (bs [106,111,98,45,49])] : List ByteArray)).2) ([(bs [119,101,98]), (bs [112,111,111,108])] : List ByteArray)).2) ([(0 : Int), (3 : Int), (10 : Int), (900 : Int)] : List Int)).2)).1)) (PaceT.upSpan ((oPace ((curPickI ((curPick ((curPick ((curBelow a0 (4 : Int)).2) ([(bs [119,101,98]), (bs [97,112,105]), (bs [106,111,98,45,49])] : List ByteArray)).2) ([(bs [119,101,98]), (bs [112,111,111,108])] : List ByteArray)).2) ([(0 : Int), (3 : Int), (10 : Int), (900 : Int)] : List Int)).2)).1)) (PaceT.downSpan ((oPace ((curPickI ((curPick ((curPick ((curBelow a0 (4 : Int)).2) ([(bs [119,101,98]), (bs [97,112,105]), (bs [106,111,98,45,49])] : List ByteArray)).2) ([(bs [119,101,98]), (bs [112,111,111,108])] : List ByteArray)).2) ([(0 : Int), (3 : Int), (10 : Int), (900 : Int)] : List Int)).2)).1)) xvr260 [(bs [97]), (bs [111,119,110,101,114]), (bs [120,47,121])] n (0 : Int) xvb0_0 xvb0_1 xvb0_2 ([] : List NoteT))) ((curPick ((curBelow a0 (4 : Int)).2) ([(bs [119,101,98]), (bs [97,112,105]), (bs [106,111,98,45,49])] : List ByteArray)).1) ((curPick ((curPick ((curBelow a0 (4 : Int)).2) ([(bs [119,101,98]), (bs [97,112,105]), (bs [106,111,98,45,49])] : List ByteArray)).2) ([(bs [119,101,98]), (bs [112,111,111,108])] : List ByteArray)).1) (IntKind.wrap .i64 ((1 : Int) + ((curBelow a0 (4 : Int)).1))) (IntKind.wrap .i64 ((IntKind.wrap .i64 ((1 : Int) + ((curBelow a0 (4 : Int)).1))) + ((curPickI ((curPick ((curPick ((curBelow a0 (4 : Int)).2) ([(bs [119,101,98]), (bs [97,112,105]), (bs [106,111,98,45,49])] : List ByteArray)).2) ([(bs [119,101,98]), (bs [112,111,111,108])] : List ByteArray)).2) ([(0 : Int), (3 : Int), (10 : Int), (900 : Int)] : List Int)).1))) (PaceT.up ((oPace ((curPickI ((curPick ((curPick ((curBelow a0 (4 : Int)).2) ([(bs [119,101,98]), (bs [97,112,105]), (bs [106,111,98,45,49])] : List ByteArray)).2) ([(bs [119,101,98]), (bs [112,111,111,108])] : List ByteArray)).2) ([(0 : Int), (3 : Int), (10 : Int), (900 : Int)] : List Int)).2)).1)) (PaceT.down ((oPace ((curPickI ((curPick ((curPick ((curBelow a0 (4 : Int)).2) ([(bs [119,101,98]), (bs [97,112,105]), (bs [106,111,98,45,49])] : List ByteArray)).2) ([(bs [119,101,98]), (bs [112,111,111,108])] : List ByteArray)).2) ([(0 : Int), (3 : Int), (10 : Int), (900 : Int)] : List Int)).2)).1)) (PaceT.upSpan ((oPace ((curPickI ((curPick ((curPick ((curBelow a0 (4 : Int)).2) ([(bs [119,101,98]), (bs [97,112,105]), (bs [106,111,98,45,49])] : List ByteArray)).2) ([(bs [119,101,98]), (bs [112,111,111,108])] : List ByteArray)).2) ([(0 : Int), (3 : Int), (10 : Int), (900 : Int)] : List Int)).2)).1)) (PaceT.downSpan ((oPace ((curPickI ((curPick ((curPick ((curBelow a0 (4 : Int)).2) ([(bs [119,101,98]), (bs [97,112,105]), (bs [106,111,98,45,49])] : List ByteArray)).2) ([(bs [119,101,98]), (bs [112,111,111,108])] : List ByteArray)).2) ([(0 : Int), (3 : Int), (10 : Int), (900 : Int)] : List Int)).2)).1)) [(bs [99,112,117]), (bs [104,105,116,115]), (bs [109,101,109]), (bs [113,117,101,117,101])] n (0 : Int) (CurT.b ((oPace ((curPickI ((curPick ((curPick ((curBelow a0 (4 : Int)).2) ([(bs [119,101,98]), (bs [97,112,105]), (bs [106,111,98,45,49])] : List ByteArray)).2) ([(bs [119,101,98]), (bs [112,111,111,108])] : List ByteArray)).2) ([(0 : Int), (3 : Int), (10 : Int), (900 : Int)] : List Int)).2)).2)) (CurT.i ((oPace ((curPickI ((curPick ((curPick ((curBelow a0 (4 : Int)).2) ([(bs [119,101,98]), (bs [97,112,105]), (bs [106,111,98,45,49])] : List ByteArray)).2) ([(bs [119,101,98]), (bs [112,111,111,108])] : List ByteArray)).2) ([(0 : Int), (3 : Int), (10 : Int), (900 : Int)] : List Int)).2)).2)) (CurT.h ((oPace ((curPickI ((curPick ((curPick ((curBelow a0 (4 : Int)).2) ([(bs [119,101,98]), (bs [97,112,105]), (bs [106,111,98,45,49])] : List ByteArray)).2) ([(bs [119,101,98]), (bs [112,111,111,108])] : List ByteArray)).2) ([(0 : Int), (3 : Int), (10 : Int), (900 : Int)] : List Int)).2)).2)) ([] : List MetricT))
      none)
     none)
    none)
   none)
  none) := by
  refine Eq.trans (b := (cond ((fun c _ => gCur c) a0 (4 : Int))
  (cond (gPickS ((curBelow a0 (4 : Int)).2) ([(bs [119,101,98]), (bs [97,112,105]), (bs [106,111,98,45,49])] : List ByteArray))
   (cond (gPickS ((curPick ((curBelow a0 (4 : Int)).2) ([(bs [119,101,98]), (bs [97,112,105]), (bs [106,111,98,45,49])] : List ByteArray)).2) ([(bs [119,101,98]), (bs [112,111,111,108])] : List ByteArray))
    (cond (gPickI ((curPick ((curPick ((curBelow a0 (4 : Int)).2) ([(bs [119,101,98]), (bs [97,112,105]), (bs [106,111,98,45,49])] : List ByteArray)).2) ([(bs [119,101,98]), (bs [112,111,111,108])] : List ByteArray)).2) ([(0 : Int), (3 : Int), (10 : Int), (900 : Int)] : List Int))
     (cond (gCur ((curPickI ((curPick ((curPick ((curBelow a0 (4 : Int)).2) ([(bs [119,101,98]), (bs [97,112,105]), (bs [106,111,98,45,49])] : List ByteArray)).2) ([(bs [119,101,98]), (bs [112,111,111,108])] : List ByteArray)).2) ([(0 : Int), (3 : Int), (10 : Int), (900 : Int)] : List Int)).2))
      (iter (fun st k => ev f99e f99k n (cAt [1,1,1,1,0,1,0,0] f99c) st k) n (f99S0 (0 : Int) (CurT.b ((oPace ((curPickI ((curPick ((curPick ((curBelow a0 (4 : Int)).2) ([(bs [119,101,98]), (bs [97,112,105]), (bs [106,111,98,45,49])] : List ByteArray)).2) ([(bs [119,101,98]), (bs [112,111,111,108])] : List ByteArray)).2) ([(0 : Int), (3 : Int), (10 : Int), (900 : Int)] : List Int)).2)).2)) (CurT.i ((oPace ((curPickI ((curPick ((curPick ((curBelow a0 (4 : Int)).2) ([(bs [119,101,98]), (bs [97,112,105]), (bs [106,111,98,45,49])] : List ByteArray)).2) ([(bs [119,101,98]), (bs [112,111,111,108])] : List ByteArray)).2) ([(0 : Int), (3 : Int), (10 : Int), (900 : Int)] : List Int)).2)).2)) (CurT.h ((oPace ((curPickI ((curPick ((curPick ((curBelow a0 (4 : Int)).2) ([(bs [119,101,98]), (bs [97,112,105]), (bs [106,111,98,45,49])] : List ByteArray)).2) ([(bs [119,101,98]), (bs [112,111,111,108])] : List ByteArray)).2) ([(0 : Int), (3 : Int), (10 : Int), (900 : Int)] : List Int)).2)).2)) ((curPick ((curBelow a0 (4 : Int)).2) ([(bs [119,101,98]), (bs [97,112,105]), (bs [106,111,98,45,49])] : List ByteArray)).1) ((curPick ((curPick ((curBelow a0 (4 : Int)).2) ([(bs [119,101,98]), (bs [97,112,105]), (bs [106,111,98,45,49])] : List ByteArray)).2) ([(bs [119,101,98]), (bs [112,111,111,108])] : List ByteArray)).1) (IntKind.wrap .i64 ((1 : Int) + ((curBelow a0 (4 : Int)).1))) (IntKind.wrap .i64 ((IntKind.wrap .i64 ((1 : Int) + ((curBelow a0 (4 : Int)).1))) + ((curPickI ((curPick ((curPick ((curBelow a0 (4 : Int)).2) ([(bs [119,101,98]), (bs [97,112,105]), (bs [106,111,98,45,49])] : List ByteArray)).2) ([(bs [119,101,98]), (bs [112,111,111,108])] : List ByteArray)).2) ([(0 : Int), (3 : Int), (10 : Int), (900 : Int)] : List Int)).1))) (PaceT.up ((oPace ((curPickI ((curPick ((curPick ((curBelow a0 (4 : Int)).2) ([(bs [119,101,98]), (bs [97,112,105]), (bs [106,111,98,45,49])] : List ByteArray)).2) ([(bs [119,101,98]), (bs [112,111,111,108])] : List ByteArray)).2) ([(0 : Int), (3 : Int), (10 : Int), (900 : Int)] : List Int)).2)).1)) (PaceT.down ((oPace ((curPickI ((curPick ((curPick ((curBelow a0 (4 : Int)).2) ([(bs [119,101,98]), (bs [97,112,105]), (bs [106,111,98,45,49])] : List ByteArray)).2) ([(bs [119,101,98]), (bs [112,111,111,108])] : List ByteArray)).2) ([(0 : Int), (3 : Int), (10 : Int), (900 : Int)] : List Int)).2)).1)) (PaceT.upSpan ((oPace ((curPickI ((curPick ((curPick ((curBelow a0 (4 : Int)).2) ([(bs [119,101,98]), (bs [97,112,105]), (bs [106,111,98,45,49])] : List ByteArray)).2) ([(bs [119,101,98]), (bs [112,111,111,108])] : List ByteArray)).2) ([(0 : Int), (3 : Int), (10 : Int), (900 : Int)] : List Int)).2)).1)) (PaceT.downSpan ((oPace ((curPickI ((curPick ((curPick ((curBelow a0 (4 : Int)).2) ([(bs [119,101,98]), (bs [97,112,105]), (bs [106,111,98,45,49])] : List ByteArray)).2) ([(bs [119,101,98]), (bs [112,111,111,108])] : List ByteArray)).2) ([(0 : Int), (3 : Int), (10 : Int), (900 : Int)] : List Int)).2)).1)) ([] : List MetricT) ([(bs [99,112,117]), (bs [104,105,116,115]), (bs [109,101,109]), (bs [113,117,101,117,101])] : List ByteArray)) (f99K0 n (exitK f99e [.pmut] [false] true [.cell 2 45] [45] [.d .cur a0] k)))
      none)
     none)
    none)
   none)
  none)) (by kernel_rfl) ?_
  simp only [f99L0_eq, f99K0_x0, f99L1_eq, f99K1_x0]
def f99_P (a0 : CurT) (o : OrderT × CurT) : Prop := (fun _ o => sm_order o.1 = true ∧ o.1.metrics.length ≤ 4 ∧ o.1.notes.length ≤ 3 ∧ gCur o.2 = true) a0 o ∧ ∃ n : Nat, ∀ {R : Type} (k : List Dt → Option R), evFn f99e f99k n f99c [.pmut] [false] true [.cell 2 45] [45] [.d .cur a0] k = k [.d .order o.1, .d .cur o.2]
theorem f99_ex (a0 : CurT) (hg : gCur a0 = true) : ∃ o : OrderT × CurT, (fun _ o => sm_order o.1 = true ∧ o.1.metrics.length ≤ 4 ∧ o.1.notes.length ≤ 3 ∧ gCur o.2 = true) a0 o ∧ ∃ n : Nat, ∀ {R : Type} (k : List Dt → Option R), evFn f99e f99k n f99c [.pmut] [false] true [.cell 2 45] [45] [.d .cur a0] k = k [.d .order o.1, .d .cur o.2] := by
  have key0 : ∀ (b0 b1 : ByteArray) (b2 b3 b5 b6 b7 b8 : Int) (nm : List ByteArray), nm.all smStr = true → nm.length ≤ 100 → ∀ (d m i : Nat) (ms : List MetricT) (c : CurT), i + d = nm.length → d < m → smL sm_metric ms = true → ms.length ≤ i → gCur c = true →
      ∃ o : List MetricT × CurT, (smL sm_metric o.1 = true ∧ o.1.length ≤ nm.length ∧ gCur o.2 = true) ∧ ∀ {R : Type} (X : Int → Bool → (List Int) → Int → Int → (List MetricT) → Option R),
        (∀ i b c1 c2 c3 ms, X i b c1 c2 c3 ms = X 0 false c1 c2 c3 ms) → f99L0 5 X b0 b1 b2 b3 b5 b6 b7 b8 nm m (i : Int) c.b c.i c.h ms = X 0 false o.2.b o.2.i o.2.h o.1 := by
    intro b0 b1 b2 b3 b5 b6 b7 b8 nm hnm hlen d
    induction d with
    | zero =>
      intro m i ms c hi hm hs hl hc
      obtain ⟨m, rfl⟩ : ∃ m', m = m' + 1 := ⟨m - 1, by omega⟩
      refine ⟨(ms, c), ⟨hs, Nat.le_trans hl (by omega), hc⟩, fun {R} X hX => ?_⟩
      simp only [f99L0, decide_eq_false (show ¬ ((i : Int) < (nm.length : Int)) by omega), cond_false]
      exact hX _ _ _ _ _ _
    | succ d ih =>
      intro m i ms c hi hm hs hl hc
      obtain ⟨m, rfl⟩ : ∃ m', m = m' + 1 := ⟨m - 1, by omega⟩
      obtain ⟨h1, h0, hw, ht⟩ := idx (show i < nm.length by omega) (by omega)
      have g1 := curOnce_g c 2 hc
      have hn : smStr (atI (t := .str) nm i) = true := List.all_eq_true.1 hnm _ (List.mem_of_getElem? (atI_lt (t := .str) (by omega)))
      have hb : Nat.ble (ms.length + 1) LIM = true := ble_lim (by omega)
      cases e : (curOnce c 2).1
      · obtain ⟨o, ho, hh⟩ := ih m (i + 1) ms (curOnce c 2).2 (by omega) (by omega) hs (by omega) g1
        exact ⟨o, ho, fun {R} X hX => by
          simp only [f99L0, eta_cur, h1, hc, e, hw, cond_true, cond_false]
          exact hh X hX⟩
      · obtain ⟨f1, g2⟩ := oMet_ok _ g1
        have hx : sm_metric ((⟨atI (t := .str) nm i, (oMet (curOnce c 2).2).1.kind, (oMet (curOnce c 2).2).1.goal⟩ : MetricT)) = true := by
          simp only [sm_metric, Bool.and_eq_true] at f1 ⊢
          exact ⟨hn, f1.2⟩
        obtain ⟨o, ho, hh⟩ := ih m (i + 1) (ms ++ [(⟨atI (t := .str) nm i, (oMet (curOnce c 2).2).1.kind, (oMet (curOnce c 2).2).1.goal⟩ : MetricT)]) (oMet (curOnce c 2).2).2 (by omega) (by omega) (smL_snoc hs hx (by omega)) (by simp only [List.length_append, List.length_cons, List.length_nil]; omega) g2
        exact ⟨o, ho, fun {R} X hX => by
          simp only [f99L0, eta_cur, h1, h0, ht, hc, g1, e, hw, hb, Bool.and_self, cond_true, cond_false]
          exact hh X hX⟩
  have key1 : ∀ (b0 b1 : ByteArray) (b2 b3 b5 b6 b7 b8 : Int) (mt : List MetricT) (nm : List ByteArray), nm.all smStr = true → nm.length ≤ 100 → ∀ (d m i : Nat) (ms : List NoteT) (c : CurT), i + d = nm.length → d < m → smL sm_note ms = true → ms.length ≤ i → gCur c = true →
      ∃ o : List NoteT × CurT, (smL sm_note o.1 = true ∧ o.1.length ≤ nm.length ∧ gCur o.2 = true) ∧ ∀ {R : Type} (X : Int → Bool → (List Int) → Int → Int → (List NoteT) → Option R),
        (∀ i b c1 c2 c3 ms, X i b c1 c2 c3 ms = X 0 false c1 c2 c3 ms) → f99L1 5 X b0 b1 b2 b3 b5 b6 b7 b8 mt nm m (i : Int) c.b c.i c.h ms = X 0 false o.2.b o.2.i o.2.h o.1 := by
    intro b0 b1 b2 b3 b5 b6 b7 b8 mt nm hnm hlen d
    induction d with
    | zero =>
      intro m i ms c hi hm hs hl hc
      obtain ⟨m, rfl⟩ : ∃ m', m = m' + 1 := ⟨m - 1, by omega⟩
      refine ⟨(ms, c), ⟨hs, Nat.le_trans hl (by omega), hc⟩, fun {R} X hX => ?_⟩
      simp only [f99L1, decide_eq_false (show ¬ ((i : Int) < (nm.length : Int)) by omega), cond_false]
      exact hX _ _ _ _ _ _
    | succ d ih =>
      intro m i ms c hi hm hs hl hc
      obtain ⟨m, rfl⟩ : ∃ m', m = m' + 1 := ⟨m - 1, by omega⟩
      obtain ⟨h1, h0, hw, ht⟩ := idx (show i < nm.length by omega) (by omega)
      have g1 := curOnce_g c 3 hc
      have hn : smStr (atI (t := .str) nm i) = true := List.all_eq_true.1 hnm _ (List.mem_of_getElem? (atI_lt (t := .str) (by omega)))
      have hb : Nat.ble (ms.length + 1) LIM = true := ble_lim (by omega)
      cases e : (curOnce c 3).1
      · obtain ⟨o, ho, hh⟩ := ih m (i + 1) ms (curOnce c 3).2 (by omega) (by omega) hs (by omega) g1
        exact ⟨o, ho, fun {R} X hX => by
          simp only [f99L1, eta_cur, h1, hc, e, hw, cond_true, cond_false]
          exact hh X hX⟩
      · obtain ⟨f1, g2⟩ := tText_ok _ g1
        have hx : sm_note ((⟨atI (t := .str) nm i, (tText (curOnce c 3).2).1⟩ : NoteT)) = true := by
          simp only [sm_note, Bool.and_eq_true] at f1 ⊢
          exact ⟨hn, f1⟩
        obtain ⟨o, ho, hh⟩ := ih m (i + 1) (ms ++ [(⟨atI (t := .str) nm i, (tText (curOnce c 3).2).1⟩ : NoteT)]) (tText (curOnce c 3).2).2 (by omega) (by omega) (smL_snoc hs hx (by omega)) (by simp only [List.length_append, List.length_cons, List.length_nil]; omega) g2
        exact ⟨o, ho, fun {R} X hX => by
          simp only [f99L1, eta_cur, h1, h0, ht, hc, g1, e, hw, hb, Bool.and_self, cond_true, cond_false]
          exact hh X hX⟩
  obtain ⟨x0, x1, g1⟩ := curBelow_ok a0 4 hg
  have p1 := gPickS_of (l := ([(bs [119,101,98]), (bs [97,112,105]), (bs [106,111,98,45,49])] : List ByteArray)) g1 rfl
  obtain ⟨m1, g2⟩ := curPick_ok _ _ p1
  have p2 := gPickS_of (l := ([(bs [119,101,98]), (bs [112,111,111,108])] : List ByteArray)) g2 rfl
  obtain ⟨m2, g3⟩ := curPick_ok _ _ p2
  have p3 := gPickI_of (l := ([(0 : Int), (3 : Int), (10 : Int), (900 : Int)] : List Int)) g3 rfl
  obtain ⟨m3, g4⟩ := curPickI_ok _ _ p3
  obtain ⟨hp, g5⟩ := oPace_ok _ g4
  obtain ⟨o1, ⟨s1, l1, c1⟩, h1⟩ := key0 _ _ _ _ _ _ _ _ ([(bs [99,112,117]), (bs [104,105,116,115]), (bs [109,101,109]), (bs [113,117,101,117,101])] : List ByteArray) (by decide) (by decide) 4 5 0 [] _ rfl (by omega) rfl (Nat.le_refl _) g5
  obtain ⟨o2, ⟨s2, l2, c2⟩, h2⟩ := key1 _ _ _ _ _ _ _ _ o1.1 ([(bs [97]), (bs [111,119,110,101,114]), (bs [120,47,121])] : List ByteArray) (by decide) (by decide) 3 5 0 [] o1.2 rfl (by omega) rfl (Nat.le_refl _) c1
  refine ⟨(?az0, ?bz0), ?gz0, 5, ?rz0⟩
  case rz0 =>
    intro R k
    rw [f99_run]
    simp only [hg, g1, p1, p2, p3, g4, cond_true]
    refine Eq.trans (h1 _ (fun _ _ _ _ _ _ => rfl)) ?_
    refine Eq.trans (h2 _ (fun _ _ _ _ _ _ => rfl)) ?_
    exact rfl
  case gz0 =>
    refine ⟨?_, l1, l2, c2⟩
    simp only [sm_order, Bool.and_eq_true]
    exact ⟨smStr_in m1 (by decide), smStr_in m2 (by decide), okI_wrap _, okI_wrap _, s1, hp, s2⟩
theorem f99_ne (a0 : CurT) : Nonempty {o : OrderT × CurT // gCur a0 = true → f99_P a0 o} := by
  by_cases hg : gCur a0 = true
  · obtain ⟨o, ho⟩ := f99_ex a0 hg
    exact ⟨⟨o, fun _ => ho⟩⟩
  · exact ⟨⟨((zero .order), (zero .cur)), fun h => absurd h hg⟩⟩
noncomputable def oRight (a0 : CurT) : OrderT × CurT := (Classical.choice (f99_ne a0)).val
theorem f99_sp (a0 : CurT) (hg : gCur a0 = true) : f99_P a0 (oRight a0) := (Classical.choice (f99_ne a0)).property hg
theorem oRight_ok (a0 : CurT) (hg : gCur a0 = true) : (fun _ o => sm_order o.1 = true ∧ o.1.metrics.length ≤ 4 ∧ o.1.notes.length ≤ 3 ∧ gCur o.2 = true) a0 (oRight a0) := (f99_sp a0 hg).1
theorem oRight_g (a0 : CurT) (hg : gCur a0 = true) : gCur (oRight a0).2 = true := by
  have h := oRight_ok a0 hg
  first | exact h | exact h.2 | exact h.2.2 | exact h.2.2.2
theorem f99_spec (a0 : CurT) (hg : gCur a0 = true) : ∃ keep rounds, ∀ {R : Type} (k : List Dt → Option R), evFn f99e keep rounds f99c [.pmut] [false] true [.cell 2 45] [45] [.d .cur a0] k = k [.d .order ((oRight a0).1), .d .cur ((oRight a0).2)] := by
  obtain ⟨n, hn⟩ := (f99_sp a0 hg).2
  exact ⟨f99k, n, hn⟩
noncomputable def q99 : List Dt → Option (Bool × List Dt)
  | [.d .cur a0] => some ((gCur a0), [.d .order ((oRight a0).1), .d .cur ((oRight a0).2)])
  | _ => none
noncomputable def s99 : Gm.Spec := Gm.Spec.of [.pmut] [false] true q99
theorem good99 : Gm.Good Try.prog (99, s99) := by
  have hl : ∀ x ∈ [(80, s80), (82, s82), (83, s83), (100, s100), (101, s101), (133, s133), (134, s134)], Gm.Good Try.prog x := List.forall_mem_cons.2 ⟨good80, List.forall_mem_cons.2 ⟨good82, List.forall_mem_cons.2 ⟨good83, List.forall_mem_cons.2 ⟨good100, List.forall_mem_cons.2 ⟨good101, List.forall_mem_cons.2 ⟨good133, List.forall_mem_cons.2 ⟨good134, List.forall_mem_nil _⟩⟩⟩⟩⟩⟩⟩
  refine ⟨⟨spec_ok (tab_ok.env hl) (tab.natl hl) Try.func99 (by kernel_rfl : Try.f99.body = some f99c) [45] (by kernel_rfl) ?_, _, Try.func99, by kernel_rfl, of_decide_eq_true (by kernel_rfl)⟩, Gm.Spec.of_natl _ _ _ _⟩
  intro ds outs h
  unfold q99 at h
  split at h
  · simp only [Option.some.injEq, Prod.mk.injEq] at h; obtain ⟨hg, h⟩ := h; cases h; exact f99_spec _ hg
  · cases h
noncomputable def f58c : Code := (Try.f58.body).getD .skip
def f58k : Nat → Kp := kat [⟨[0, 2], [], [], []⟩, ⟨[0, 2, 3], [], [], []⟩, ⟨[0, 2, 3, 7], [], [], []⟩, ⟨[0, 2, 3, 7, 8], [], [], []⟩, ⟨[0, 2, 3], [], [], []⟩, ⟨[0, 2, 3, 7, 14], [], [], []⟩, ⟨[0, 2, 3], [], [], []⟩, ⟨[0, 2, 3, 7, 20], [], [], []⟩, ⟨[0, 2, 3], [], [], []⟩, ⟨[0, 2, 3, 7, 26], [], [], []⟩, ⟨[0, 2, 3], [], [], []⟩, ⟨[0, 2, 3, 7, 35], [], [], []⟩, ⟨[0, 2, 3], [], [], []⟩, ⟨[0, 2, 3, 7, 42], [], [], []⟩, ⟨[0, 2, 3], [], [], []⟩, ⟨[0, 2, 3, 7, 53], [], [], []⟩, ⟨[0, 2, 3], [], [], []⟩, ⟨[0, 2, 3, 60], [], [], []⟩, ⟨[0, 2, 3, 65], [], [], []⟩, ⟨[0, 2, 3], [], [], []⟩, ⟨[0, 2], [], [], []⟩]
noncomputable def f58e : Env := tab.env [(80, s80), (83, s83), (99, s99), (100, s100), (101, s101)]
noncomputable def f58v0 (a0 : CurT) : List MetricT :=
  ((OrderT.metrics ((oRight a0).1)).set 0 (⟨(MetricT.name (atI (t := .metric) (OrderT.metrics ((oRight a0).1)) 0)), (MetricT.kind (atI (t := .metric) (OrderT.metrics ((oRight a0).1)) 0)), ((curPickI ((curBelow ((oRight a0).2) (16 : Int)).2) ([(0 : Int), (-1 : Int), (1000000 : Int), (1000001 : Int)] : List Int)).1)⟩ : MetricT))
theorem f58_run {R : Type} (n : Nat) (k : List Dt → Option R) (a0 : CurT) : evFn f58e f58k n f58c [.pmut] [false] true [.cell 2 45] [45] [.d .cur a0] k =
    (cond (gCur a0)
  (cond ((fun c _ => gCur c) ((oRight a0).2) (16 : Int))
   (cond (((curBelow ((oRight a0).2) (16 : Int)).1) == (0 : Int))
    (cond (gPickS ((curBelow ((oRight a0).2) (16 : Int)).2) ([ByteArray.empty, (bs [49,97]), (bs [65]), (bs [97,98,99,100,101,102,103,104,105,106,107,108,109,110,111,112,113,114,115,116,117])] : List ByteArray))
     (k [.d .order (⟨((curPick ((curBelow ((oRight a0).2) (16 : Int)).2) ([ByteArray.empty, (bs [49,97]), (bs [65]), (bs [97,98,99,100,101,102,103,104,105,106,107,108,109,110,111,112,113,114,115,116,117])] : List ByteArray)).1), (OrderT.target ((oRight a0).1)), (OrderT.low ((oRight a0).1)), (OrderT.high ((oRight a0).1)), (OrderT.metrics ((oRight a0).1)), (OrderT.pace ((oRight a0).1)), (OrderT.notes ((oRight a0).1))⟩ : OrderT), .d .cur ((curPick ((curBelow ((oRight a0).2) (16 : Int)).2) ([ByteArray.empty, (bs [49,97]), (bs [65]), (bs [97,98,99,100,101,102,103,104,105,106,107,108,109,110,111,112,113,114,115,116,117])] : List ByteArray)).2)])
     none)
    (cond (((curBelow ((oRight a0).2) (16 : Int)).1) == (1 : Int))
     (cond (gPickI ((curBelow ((oRight a0).2) (16 : Int)).2) ([(0 : Int), (-1 : Int), (1001 : Int)] : List Int))
      (k [.d .order (⟨(OrderT.name ((oRight a0).1)), (OrderT.target ((oRight a0).1)), ((curPickI ((curBelow ((oRight a0).2) (16 : Int)).2) ([(0 : Int), (-1 : Int), (1001 : Int)] : List Int)).1), (OrderT.high ((oRight a0).1)), (OrderT.metrics ((oRight a0).1)), (OrderT.pace ((oRight a0).1)), (OrderT.notes ((oRight a0).1))⟩ : OrderT), .d .cur ((curPickI ((curBelow ((oRight a0).2) (16 : Int)).2) ([(0 : Int), (-1 : Int), (1001 : Int)] : List Int)).2)])
      none)
     (cond (((curBelow ((oRight a0).2) (16 : Int)).1) == (2 : Int))
      (cond (gPickI ((curBelow ((oRight a0).2) (16 : Int)).2) ([(0 : Int), (1000 : Int), (1001 : Int)] : List Int))
       (k [.d .order (⟨(OrderT.name ((oRight a0).1)), (OrderT.target ((oRight a0).1)), (OrderT.low ((oRight a0).1)), ((curPickI ((curBelow ((oRight a0).2) (16 : Int)).2) ([(0 : Int), (1000 : Int), (1001 : Int)] : List Int)).1), (OrderT.metrics ((oRight a0).1)), (OrderT.pace ((oRight a0).1)), (OrderT.notes ((oRight a0).1))⟩ : OrderT), .d .cur ((curPickI ((curBelow ((oRight a0).2) (16 : Int)).2) ([(0 : Int), (1000 : Int), (1001 : Int)] : List Int)).2)])
       none)
      (cond (((curBelow ((oRight a0).2) (16 : Int)).1) == (3 : Int))
       (cond (gCur ((curBelow ((oRight a0).2) (16 : Int)).2))
        (cond (Nat.ble ((OrderT.metrics ((oRight a0).1)).length + 1) LIM)
         (k [.d .order (⟨(OrderT.name ((oRight a0).1)), (OrderT.target ((oRight a0).1)), (OrderT.low ((oRight a0).1)), (OrderT.high ((oRight a0).1)), ((OrderT.metrics ((oRight a0).1)) ++ ([((oMet ((curBelow ((oRight a0).2) (16 : Int)).2)).1)] : List MetricT)), (OrderT.pace ((oRight a0).1)), (OrderT.notes ((oRight a0).1))⟩ : OrderT), .d .cur ((oMet ((curBelow ((oRight a0).2) (16 : Int)).2)).2)])
         none)
        none)
       (cond (((curBelow ((oRight a0).2) (16 : Int)).1) == (4 : Int))
        (cond (gPickI ((curBelow ((oRight a0).2) (16 : Int)).2) ([(-1 : Int), (1000 : Int), (1001 : Int)] : List Int))
         (k [.d .order (⟨(OrderT.name ((oRight a0).1)), (OrderT.target ((oRight a0).1)), (OrderT.low ((oRight a0).1)), (OrderT.high ((oRight a0).1)), (OrderT.metrics ((oRight a0).1)), (⟨((curPickI ((curBelow ((oRight a0).2) (16 : Int)).2) ([(-1 : Int), (1000 : Int), (1001 : Int)] : List Int)).1), (PaceT.down (OrderT.pace ((oRight a0).1))), (PaceT.upSpan (OrderT.pace ((oRight a0).1))), (PaceT.downSpan (OrderT.pace ((oRight a0).1)))⟩ : PaceT), (OrderT.notes ((oRight a0).1))⟩ : OrderT), .d .cur ((curPickI ((curBelow ((oRight a0).2) (16 : Int)).2) ([(-1 : Int), (1000 : Int), (1001 : Int)] : List Int)).2)])
         none)
        (cond (((curBelow ((oRight a0).2) (16 : Int)).1) == (5 : Int))
         (cond (gPickS ((curBelow ((oRight a0).2) (16 : Int)).2) ([(bs [122]), (bs [113,117,97,121,47,112,97,99,101]), (bs [49]), ByteArray.empty] : List ByteArray))
          (cond (Nat.ble ((OrderT.notes ((oRight a0).1)).length + 1) LIM)
           (k [.d .order (⟨(OrderT.name ((oRight a0).1)), (OrderT.target ((oRight a0).1)), (OrderT.low ((oRight a0).1)), (OrderT.high ((oRight a0).1)), (OrderT.metrics ((oRight a0).1)), (OrderT.pace ((oRight a0).1)), ((OrderT.notes ((oRight a0).1)) ++ ([(⟨((curPick ((curBelow ((oRight a0).2) (16 : Int)).2) ([(bs [122]), (bs [113,117,97,121,47,112,97,99,101]), (bs [49]), ByteArray.empty] : List ByteArray)).1), (bs [120])⟩ : NoteT)] : List NoteT))⟩ : OrderT), .d .cur ((curPick ((curBelow ((oRight a0).2) (16 : Int)).2) ([(bs [122]), (bs [113,117,97,121,47,112,97,99,101]), (bs [49]), ByteArray.empty] : List ByteArray)).2)])
           none)
          none)
         (cond (((curBelow ((oRight a0).2) (16 : Int)).1) == (6 : Int))
          (cond (gPickI ((curBelow ((oRight a0).2) (16 : Int)).2) ([(-1 : Int), (3600 : Int), (3601 : Int)] : List Int))
           (k [.d .order (⟨(OrderT.name ((oRight a0).1)), (OrderT.target ((oRight a0).1)), (OrderT.low ((oRight a0).1)), (OrderT.high ((oRight a0).1)), (OrderT.metrics ((oRight a0).1)), (⟨(PaceT.up (OrderT.pace ((oRight a0).1))), (PaceT.down (OrderT.pace ((oRight a0).1))), (PaceT.upSpan (OrderT.pace ((oRight a0).1))), ((curPickI ((curBelow ((oRight a0).2) (16 : Int)).2) ([(-1 : Int), (3600 : Int), (3601 : Int)] : List Int)).1)⟩ : PaceT), (OrderT.notes ((oRight a0).1))⟩ : OrderT), .d .cur ((curPickI ((curBelow ((oRight a0).2) (16 : Int)).2) ([(-1 : Int), (3600 : Int), (3601 : Int)] : List Int)).2)])
           none)
          (cond (((curBelow ((oRight a0).2) (16 : Int)).1) == (7 : Int))
           (cond (decide (((OrderT.metrics ((oRight a0).1)).length : Int) > (0 : Int)))
            (cond (gPickI ((curBelow ((oRight a0).2) (16 : Int)).2) ([(0 : Int), (-1 : Int), (1000000 : Int), (1000001 : Int)] : List Int))
             (cond (decide ((0 : Int) < ((OrderT.metrics ((oRight a0).1)).length : Int)))
              (k [.d .order (⟨(OrderT.name ((oRight a0).1)), (OrderT.target ((oRight a0).1)), (OrderT.low ((oRight a0).1)), (OrderT.high ((oRight a0).1)), (f58v0 a0), (OrderT.pace ((oRight a0).1)), (OrderT.notes ((oRight a0).1))⟩ : OrderT), .d .cur ((curPickI ((curBelow ((oRight a0).2) (16 : Int)).2) ([(0 : Int), (-1 : Int), (1000000 : Int), (1000001 : Int)] : List Int)).2)])
              none)
             none)
            (k [.d .order ((oRight a0).1), .d .cur ((curBelow ((oRight a0).2) (16 : Int)).2)]))
           (k [.d .order ((oRight a0).1), .d .cur ((curBelow ((oRight a0).2) (16 : Int)).2)])))))))))
   none)
  none) := by kernel_rfl
def f58_P (a0 : CurT) (o : OrderT × CurT) : Prop := (fun _ o => sm_order o.1 = true ∧ gCur o.2 = true) a0 o ∧ ∃ n : Nat, ∀ {R : Type} (k : List Dt → Option R), evFn f58e f58k n f58c [.pmut] [false] true [.cell 2 45] [45] [.d .cur a0] k = k [.d .order o.1, .d .cur o.2]
theorem f58_ex (a0 : CurT) (hg : gCur a0 = true) : ∃ o : OrderT × CurT, (fun _ o => sm_order o.1 = true ∧ gCur o.2 = true) a0 o ∧ ∃ n : Nat, ∀ {R : Type} (k : List Dt → Option R), evFn f58e f58k n f58c [.pmut] [false] true [.cell 2 45] [45] [.d .cur a0] k = k [.d .order o.1, .d .cur o.2] := by
  obtain ⟨hs, l1, l2, g1⟩ := oRight_ok a0 hg
  simp only [sm_order, Bool.and_eq_true] at hs
  obtain ⟨q1, q2, q3, q4, q5, q6, q7⟩ := hs
  have q6' := q6
  simp only [sm_pace, Bool.and_eq_true] at q6'
  obtain ⟨q61, q62, q63, q64⟩ := q6'
  have b1 := ble_lim (n := (oRight a0).1.metrics.length) (by omega)
  have b2 := ble_lim (n := (oRight a0).1.notes.length) (by omega)
  replace l1 := blt_of (n := (oRight a0).1.metrics.length) (m := 1048576) (by omega)
  replace l2 := blt_of (n := (oRight a0).1.notes.length) (m := 1048576) (by omega)
  have tm : sm_metric (oMet (curBelow (oRight a0).2 16).2).1 = true := (oMet_ok _ (curBelow_g _ 16 g1)).1
  simp only [sm_metric, Bool.and_eq_true] at tm
  obtain ⟨t1, t2, t3⟩ := tm
  cases e0 : (((curBelow ((oRight a0).2) (16 : Int)).1) == (0 : Int))
  · skip
    cases e1 : (((curBelow ((oRight a0).2) (16 : Int)).1) == (1 : Int))
    · skip
      cases e2 : (((curBelow ((oRight a0).2) (16 : Int)).1) == (2 : Int))
      · skip
        cases e3 : (((curBelow ((oRight a0).2) (16 : Int)).1) == (3 : Int))
        · skip
          cases e4 : (((curBelow ((oRight a0).2) (16 : Int)).1) == (4 : Int))
          · skip
            cases e5 : (((curBelow ((oRight a0).2) (16 : Int)).1) == (5 : Int))
            · skip
              cases e6 : (((curBelow ((oRight a0).2) (16 : Int)).1) == (6 : Int))
              · skip
                cases e7 : (((curBelow ((oRight a0).2) (16 : Int)).1) == (7 : Int))
                · skip
                  refine ⟨(?a0x8, ?a1x8), ?gx8, 0, ?rx8⟩
                  case rx8 =>
                    intro R k
                    rw [f58_run]
                    simp (decide := true) (maxDischargeDepth := 60) only [hg, curNew_g, curByte_g, curBelow_g, curOnce_g, curPick_g, curPickI_g, tText_g, oMet_g, oPace_g, oRight_g, gPickS_of, gPickI_of, cond_true, cond_false, Bool.not_true, Bool.not_false, e0, e1, e2, e3, e4, e5, e6, e7, sm_order, smL_app, smL_set, met_at_name, met_at_kind, q1, q2, q3, q4, q5, q6, q61, q62, q63, q64, q7, l1, l2, b1, b2, g1, t1, t2, t3, f58v0]
                    exact rfl
                  case gx8 =>
                    simp (decide := true) (maxDischargeDepth := 60) only [hg, curNew_g, curByte_g, curBelow_g, curOnce_g, curPick_g, curPickI_g, tText_g, oMet_g, oPace_g, oRight_g, smStr_pick, okI_pickI, okI_wrap, okI_below, sm_metric, sm_pace, sm_note, Bool.and_eq_true, and_self, true_and, and_true, gPickS_of, gPickI_of, e0, e1, e2, e3, e4, e5, e6, e7, sm_order, smL_app, smL_set, met_at_name, met_at_kind, q1, q2, q3, q4, q5, q6, q61, q62, q63, q64, q7, l1, l2, b1, b2, g1, t1, t2, t3, f58v0]
                cases e9 : (decide (((OrderT.metrics ((oRight a0).1)).length : Int) > (0 : Int)))
                · skip
                  refine ⟨(?a0x10, ?a1x10), ?gx10, 0, ?rx10⟩
                  case rx10 =>
                    intro R k
                    rw [f58_run]
                    simp (decide := true) (maxDischargeDepth := 60) only [hg, curNew_g, curByte_g, curBelow_g, curOnce_g, curPick_g, curPickI_g, tText_g, oMet_g, oPace_g, oRight_g, gPickS_of, gPickI_of, cond_true, cond_false, Bool.not_true, Bool.not_false, e0, e1, e2, e3, e4, e5, e6, e7, e9, sm_order, smL_app, smL_set, met_at_name, met_at_kind, q1, q2, q3, q4, q5, q6, q61, q62, q63, q64, q7, l1, l2, b1, b2, g1, t1, t2, t3, f58v0]
                    exact rfl
                  case gx10 =>
                    simp (decide := true) (maxDischargeDepth := 60) only [hg, curNew_g, curByte_g, curBelow_g, curOnce_g, curPick_g, curPickI_g, tText_g, oMet_g, oPace_g, oRight_g, smStr_pick, okI_pickI, okI_wrap, okI_below, sm_metric, sm_pace, sm_note, Bool.and_eq_true, and_self, true_and, and_true, gPickS_of, gPickI_of, e0, e1, e2, e3, e4, e5, e6, e7, e9, sm_order, smL_app, smL_set, met_at_name, met_at_kind, q1, q2, q3, q4, q5, q6, q61, q62, q63, q64, q7, l1, l2, b1, b2, g1, t1, t2, t3, f58v0]
                refine ⟨(?a0x11, ?a1x11), ?gx11, 0, ?rx11⟩
                case rx11 =>
                  intro R k
                  rw [f58_run]
                  simp (decide := true) (maxDischargeDepth := 60) only [hg, curNew_g, curByte_g, curBelow_g, curOnce_g, curPick_g, curPickI_g, tText_g, oMet_g, oPace_g, oRight_g, gPickS_of, gPickI_of, cond_true, cond_false, Bool.not_true, Bool.not_false, e0, e1, e2, e3, e4, e5, e6, e7, e9, sm_order, smL_app, smL_set, met_at_name, met_at_kind, q1, q2, q3, q4, q5, q6, q61, q62, q63, q64, q7, l1, l2, b1, b2, g1, t1, t2, t3, f58v0]
                  exact rfl
                case gx11 =>
                  simp (decide := true) (maxDischargeDepth := 60) only [hg, curNew_g, curByte_g, curBelow_g, curOnce_g, curPick_g, curPickI_g, tText_g, oMet_g, oPace_g, oRight_g, smStr_pick, okI_pickI, okI_wrap, okI_below, sm_metric, sm_pace, sm_note, Bool.and_eq_true, and_self, true_and, and_true, gPickS_of, gPickI_of, e0, e1, e2, e3, e4, e5, e6, e7, e9, sm_order, smL_app, smL_set, met_at_name, met_at_kind, q1, q2, q3, q4, q5, q6, q61, q62, q63, q64, q7, l1, l2, b1, b2, g1, t1, t2, t3, f58v0]
              refine ⟨(?a0x12, ?a1x12), ?gx12, 0, ?rx12⟩
              case rx12 =>
                intro R k
                rw [f58_run]
                simp (decide := true) (maxDischargeDepth := 60) only [hg, curNew_g, curByte_g, curBelow_g, curOnce_g, curPick_g, curPickI_g, tText_g, oMet_g, oPace_g, oRight_g, gPickS_of, gPickI_of, cond_true, cond_false, Bool.not_true, Bool.not_false, e0, e1, e2, e3, e4, e5, e6, sm_order, smL_app, smL_set, met_at_name, met_at_kind, q1, q2, q3, q4, q5, q6, q61, q62, q63, q64, q7, l1, l2, b1, b2, g1, t1, t2, t3, f58v0]
                exact rfl
              case gx12 =>
                simp (decide := true) (maxDischargeDepth := 60) only [hg, curNew_g, curByte_g, curBelow_g, curOnce_g, curPick_g, curPickI_g, tText_g, oMet_g, oPace_g, oRight_g, smStr_pick, okI_pickI, okI_wrap, okI_below, sm_metric, sm_pace, sm_note, Bool.and_eq_true, and_self, true_and, and_true, gPickS_of, gPickI_of, e0, e1, e2, e3, e4, e5, e6, sm_order, smL_app, smL_set, met_at_name, met_at_kind, q1, q2, q3, q4, q5, q6, q61, q62, q63, q64, q7, l1, l2, b1, b2, g1, t1, t2, t3, f58v0]
            refine ⟨(?a0x13, ?a1x13), ?gx13, 0, ?rx13⟩
            case rx13 =>
              intro R k
              rw [f58_run]
              simp (decide := true) (maxDischargeDepth := 60) only [hg, curNew_g, curByte_g, curBelow_g, curOnce_g, curPick_g, curPickI_g, tText_g, oMet_g, oPace_g, oRight_g, gPickS_of, gPickI_of, cond_true, cond_false, Bool.not_true, Bool.not_false, e0, e1, e2, e3, e4, e5, sm_order, smL_app, smL_set, met_at_name, met_at_kind, q1, q2, q3, q4, q5, q6, q61, q62, q63, q64, q7, l1, l2, b1, b2, g1, t1, t2, t3, f58v0]
              exact rfl
            case gx13 =>
              simp (decide := true) (maxDischargeDepth := 60) only [hg, curNew_g, curByte_g, curBelow_g, curOnce_g, curPick_g, curPickI_g, tText_g, oMet_g, oPace_g, oRight_g, smStr_pick, okI_pickI, okI_wrap, okI_below, sm_metric, sm_pace, sm_note, Bool.and_eq_true, and_self, true_and, and_true, gPickS_of, gPickI_of, e0, e1, e2, e3, e4, e5, sm_order, smL_app, smL_set, met_at_name, met_at_kind, q1, q2, q3, q4, q5, q6, q61, q62, q63, q64, q7, l1, l2, b1, b2, g1, t1, t2, t3, f58v0]
          refine ⟨(?a0x14, ?a1x14), ?gx14, 0, ?rx14⟩
          case rx14 =>
            intro R k
            rw [f58_run]
            simp (decide := true) (maxDischargeDepth := 60) only [hg, curNew_g, curByte_g, curBelow_g, curOnce_g, curPick_g, curPickI_g, tText_g, oMet_g, oPace_g, oRight_g, gPickS_of, gPickI_of, cond_true, cond_false, Bool.not_true, Bool.not_false, e0, e1, e2, e3, e4, sm_order, smL_app, smL_set, met_at_name, met_at_kind, q1, q2, q3, q4, q5, q6, q61, q62, q63, q64, q7, l1, l2, b1, b2, g1, t1, t2, t3, f58v0]
            exact rfl
          case gx14 =>
            simp (decide := true) (maxDischargeDepth := 60) only [hg, curNew_g, curByte_g, curBelow_g, curOnce_g, curPick_g, curPickI_g, tText_g, oMet_g, oPace_g, oRight_g, smStr_pick, okI_pickI, okI_wrap, okI_below, sm_metric, sm_pace, sm_note, Bool.and_eq_true, and_self, true_and, and_true, gPickS_of, gPickI_of, e0, e1, e2, e3, e4, sm_order, smL_app, smL_set, met_at_name, met_at_kind, q1, q2, q3, q4, q5, q6, q61, q62, q63, q64, q7, l1, l2, b1, b2, g1, t1, t2, t3, f58v0]
        refine ⟨(?a0x15, ?a1x15), ?gx15, 0, ?rx15⟩
        case rx15 =>
          intro R k
          rw [f58_run]
          simp (decide := true) (maxDischargeDepth := 60) only [hg, curNew_g, curByte_g, curBelow_g, curOnce_g, curPick_g, curPickI_g, tText_g, oMet_g, oPace_g, oRight_g, gPickS_of, gPickI_of, cond_true, cond_false, Bool.not_true, Bool.not_false, e0, e1, e2, e3, sm_order, smL_app, smL_set, met_at_name, met_at_kind, q1, q2, q3, q4, q5, q6, q61, q62, q63, q64, q7, l1, l2, b1, b2, g1, t1, t2, t3, f58v0]
          exact rfl
        case gx15 =>
          simp (decide := true) (maxDischargeDepth := 60) only [hg, curNew_g, curByte_g, curBelow_g, curOnce_g, curPick_g, curPickI_g, tText_g, oMet_g, oPace_g, oRight_g, smStr_pick, okI_pickI, okI_wrap, okI_below, sm_metric, sm_pace, sm_note, Bool.and_eq_true, and_self, true_and, and_true, gPickS_of, gPickI_of, e0, e1, e2, e3, sm_order, smL_app, smL_set, met_at_name, met_at_kind, q1, q2, q3, q4, q5, q6, q61, q62, q63, q64, q7, l1, l2, b1, b2, g1, t1, t2, t3, f58v0]
      refine ⟨(?a0x16, ?a1x16), ?gx16, 0, ?rx16⟩
      case rx16 =>
        intro R k
        rw [f58_run]
        simp (decide := true) (maxDischargeDepth := 60) only [hg, curNew_g, curByte_g, curBelow_g, curOnce_g, curPick_g, curPickI_g, tText_g, oMet_g, oPace_g, oRight_g, gPickS_of, gPickI_of, cond_true, cond_false, Bool.not_true, Bool.not_false, e0, e1, e2, sm_order, smL_app, smL_set, met_at_name, met_at_kind, q1, q2, q3, q4, q5, q6, q61, q62, q63, q64, q7, l1, l2, b1, b2, g1, t1, t2, t3, f58v0]
        exact rfl
      case gx16 =>
        simp (decide := true) (maxDischargeDepth := 60) only [hg, curNew_g, curByte_g, curBelow_g, curOnce_g, curPick_g, curPickI_g, tText_g, oMet_g, oPace_g, oRight_g, smStr_pick, okI_pickI, okI_wrap, okI_below, sm_metric, sm_pace, sm_note, Bool.and_eq_true, and_self, true_and, and_true, gPickS_of, gPickI_of, e0, e1, e2, sm_order, smL_app, smL_set, met_at_name, met_at_kind, q1, q2, q3, q4, q5, q6, q61, q62, q63, q64, q7, l1, l2, b1, b2, g1, t1, t2, t3, f58v0]
    refine ⟨(?a0x17, ?a1x17), ?gx17, 0, ?rx17⟩
    case rx17 =>
      intro R k
      rw [f58_run]
      simp (decide := true) (maxDischargeDepth := 60) only [hg, curNew_g, curByte_g, curBelow_g, curOnce_g, curPick_g, curPickI_g, tText_g, oMet_g, oPace_g, oRight_g, gPickS_of, gPickI_of, cond_true, cond_false, Bool.not_true, Bool.not_false, e0, e1, sm_order, smL_app, smL_set, met_at_name, met_at_kind, q1, q2, q3, q4, q5, q6, q61, q62, q63, q64, q7, l1, l2, b1, b2, g1, t1, t2, t3, f58v0]
      exact rfl
    case gx17 =>
      simp (decide := true) (maxDischargeDepth := 60) only [hg, curNew_g, curByte_g, curBelow_g, curOnce_g, curPick_g, curPickI_g, tText_g, oMet_g, oPace_g, oRight_g, smStr_pick, okI_pickI, okI_wrap, okI_below, sm_metric, sm_pace, sm_note, Bool.and_eq_true, and_self, true_and, and_true, gPickS_of, gPickI_of, e0, e1, sm_order, smL_app, smL_set, met_at_name, met_at_kind, q1, q2, q3, q4, q5, q6, q61, q62, q63, q64, q7, l1, l2, b1, b2, g1, t1, t2, t3, f58v0]
  refine ⟨(?a0x18, ?a1x18), ?gx18, 0, ?rx18⟩
  case rx18 =>
    intro R k
    rw [f58_run]
    simp (decide := true) (maxDischargeDepth := 60) only [hg, curNew_g, curByte_g, curBelow_g, curOnce_g, curPick_g, curPickI_g, tText_g, oMet_g, oPace_g, oRight_g, gPickS_of, gPickI_of, cond_true, cond_false, Bool.not_true, Bool.not_false, e0, sm_order, smL_app, smL_set, met_at_name, met_at_kind, q1, q2, q3, q4, q5, q6, q61, q62, q63, q64, q7, l1, l2, b1, b2, g1, t1, t2, t3, f58v0]
    exact rfl
  case gx18 =>
    simp (decide := true) (maxDischargeDepth := 60) only [hg, curNew_g, curByte_g, curBelow_g, curOnce_g, curPick_g, curPickI_g, tText_g, oMet_g, oPace_g, oRight_g, smStr_pick, okI_pickI, okI_wrap, okI_below, sm_metric, sm_pace, sm_note, Bool.and_eq_true, and_self, true_and, and_true, gPickS_of, gPickI_of, e0, sm_order, smL_app, smL_set, met_at_name, met_at_kind, q1, q2, q3, q4, q5, q6, q61, q62, q63, q64, q7, l1, l2, b1, b2, g1, t1, t2, t3, f58v0]
theorem f58_ne (a0 : CurT) : Nonempty {o : OrderT × CurT // gCur a0 = true → f58_P a0 o} := by
  by_cases hg : gCur a0 = true
  · obtain ⟨o, ho⟩ := f58_ex a0 hg
    exact ⟨⟨o, fun _ => ho⟩⟩
  · exact ⟨⟨((zero .order), (zero .cur)), fun h => absurd h hg⟩⟩
noncomputable def oDraw (a0 : CurT) : OrderT × CurT := (Classical.choice (f58_ne a0)).val
theorem f58_sp (a0 : CurT) (hg : gCur a0 = true) : f58_P a0 (oDraw a0) := (Classical.choice (f58_ne a0)).property hg
theorem oDraw_ok (a0 : CurT) (hg : gCur a0 = true) : (fun _ o => sm_order o.1 = true ∧ gCur o.2 = true) a0 (oDraw a0) := (f58_sp a0 hg).1
theorem oDraw_g (a0 : CurT) (hg : gCur a0 = true) : gCur (oDraw a0).2 = true := by
  have h := oDraw_ok a0 hg
  first | exact h | exact h.2 | exact h.2.2 | exact h.2.2.2
theorem f58_spec (a0 : CurT) (hg : gCur a0 = true) : ∃ keep rounds, ∀ {R : Type} (k : List Dt → Option R), evFn f58e keep rounds f58c [.pmut] [false] true [.cell 2 45] [45] [.d .cur a0] k = k [.d .order ((oDraw a0).1), .d .cur ((oDraw a0).2)] := by
  obtain ⟨n, hn⟩ := (f58_sp a0 hg).2
  exact ⟨f58k, n, hn⟩
noncomputable def q58 : List Dt → Option (Bool × List Dt)
  | [.d .cur a0] => some ((gCur a0), [.d .order ((oDraw a0).1), .d .cur ((oDraw a0).2)])
  | _ => none
noncomputable def s58 : Gm.Spec := Gm.Spec.of [.pmut] [false] true q58
theorem good58 : Gm.Good Try.prog (58, s58) := by
  have hl : ∀ x ∈ [(80, s80), (83, s83), (99, s99), (100, s100), (101, s101)], Gm.Good Try.prog x := List.forall_mem_cons.2 ⟨good80, List.forall_mem_cons.2 ⟨good83, List.forall_mem_cons.2 ⟨good99, List.forall_mem_cons.2 ⟨good100, List.forall_mem_cons.2 ⟨good101, List.forall_mem_nil _⟩⟩⟩⟩⟩
  refine ⟨⟨spec_ok (tab_ok.env hl) (tab.natl hl) Try.func58 (by kernel_rfl : Try.f58.body = some f58c) [45] (by kernel_rfl) ?_, _, Try.func58, by kernel_rfl, of_decide_eq_true (by kernel_rfl)⟩, Gm.Spec.of_natl _ _ _ _⟩
  intro ds outs h
  unfold q58 at h
  split at h
  · simp only [Option.some.injEq, Prod.mk.injEq] at h; obtain ⟨hg, h⟩ := h; cases h; exact f58_spec _ hg
  · cases h
noncomputable def f114c : Code := (Try.f114.body).getD .skip
def f114k : Nat → Kp := kat [⟨[0], [], [], []⟩, ⟨[0, 2], [], [], []⟩]
noncomputable def f114e : Env := tab.env [(100, s100)]
theorem f114_run {R : Type} (n : Nat) (k : List Dt → Option R) (a0 : CurT) : evFn f114e f114k n f114c [.pmut] [false] true [.tmp 2] [9] [.d .cur a0] k =
    (cond (gPickS a0 ([(bs [119,101,98]), (bs [97,112,105]), (bs [106,111,98,45,49]), (bs [110,111,110,101])] : List ByteArray))
  (k [.d .str ((curPick a0 ([(bs [119,101,98]), (bs [97,112,105]), (bs [106,111,98,45,49]), (bs [110,111,110,101])] : List ByteArray)).1), .d .cur ((curPick a0 ([(bs [119,101,98]), (bs [97,112,105]), (bs [106,111,98,45,49]), (bs [110,111,110,101])] : List ByteArray)).2)])
  none) := by kernel_rfl
def f114_P (a0 : CurT) (o : ByteArray × CurT) : Prop := (fun _ o => smStr o.1 = true ∧ gCur o.2 = true) a0 o ∧ ∃ n : Nat, ∀ {R : Type} (k : List Dt → Option R), evFn f114e f114k n f114c [.pmut] [false] true [.tmp 2] [9] [.d .cur a0] k = k [.d .str o.1, .d .cur o.2]
theorem f114_ex (a0 : CurT) (hg : gCur a0 = true) : ∃ o : ByteArray × CurT, (fun _ o => smStr o.1 = true ∧ gCur o.2 = true) a0 o ∧ ∃ n : Nat, ∀ {R : Type} (k : List Dt → Option R), evFn f114e f114k n f114c [.pmut] [false] true [.tmp 2] [9] [.d .cur a0] k = k [.d .str o.1, .d .cur o.2] := by
  refine ⟨(?a0x0, ?a1x0), ?gx0, 0, ?rx0⟩
  case rx0 =>
    intro R k
    rw [f114_run]
    simp (decide := true) (maxDischargeDepth := 60) only [hg, curNew_g, curByte_g, curBelow_g, curOnce_g, curPick_g, curPickI_g, tText_g, oMet_g, oPace_g, oRight_g, oDraw_g, gPickS_of, gPickI_of, cond_true, cond_false, Bool.not_true, Bool.not_false]
    exact rfl
  case gx0 =>
    simp (decide := true) (maxDischargeDepth := 60) only [hg, curNew_g, curByte_g, curBelow_g, curOnce_g, curPick_g, curPickI_g, tText_g, oMet_g, oPace_g, oRight_g, oDraw_g, smStr_pick, okI_pickI, okI_wrap, okI_below, sm_metric, sm_pace, sm_note, Bool.and_eq_true, and_self, true_and, and_true, gPickS_of, gPickI_of]
theorem f114_ne (a0 : CurT) : Nonempty {o : ByteArray × CurT // gCur a0 = true → f114_P a0 o} := by
  by_cases hg : gCur a0 = true
  · obtain ⟨o, ho⟩ := f114_ex a0 hg
    exact ⟨⟨o, fun _ => ho⟩⟩
  · exact ⟨⟨((zero .str), (zero .cur)), fun h => absurd h hg⟩⟩
noncomputable def sName (a0 : CurT) : ByteArray × CurT := (Classical.choice (f114_ne a0)).val
theorem f114_sp (a0 : CurT) (hg : gCur a0 = true) : f114_P a0 (sName a0) := (Classical.choice (f114_ne a0)).property hg
theorem sName_ok (a0 : CurT) (hg : gCur a0 = true) : (fun _ o => smStr o.1 = true ∧ gCur o.2 = true) a0 (sName a0) := (f114_sp a0 hg).1
theorem f114_spec (a0 : CurT) (hg : gCur a0 = true) : ∃ keep rounds, ∀ {R : Type} (k : List Dt → Option R), evFn f114e keep rounds f114c [.pmut] [false] true [.tmp 2] [9] [.d .cur a0] k = k [.d .str ((sName a0).1), .d .cur ((sName a0).2)] := by
  obtain ⟨n, hn⟩ := (f114_sp a0 hg).2
  exact ⟨f114k, n, hn⟩
noncomputable def q114 : List Dt → Option (Bool × List Dt)
  | [.d .cur a0] => some ((gCur a0), [.d .str ((sName a0).1), .d .cur ((sName a0).2)])
  | _ => none
noncomputable def s114 : Gm.Spec := Gm.Spec.of [.pmut] [false] true q114
theorem good114 : Gm.Good Try.prog (114, s114) := by
  have hl : ∀ x ∈ [(100, s100)], Gm.Good Try.prog x := List.forall_mem_cons.2 ⟨good100, List.forall_mem_nil _⟩
  refine ⟨⟨spec_ok (tab_ok.env hl) (tab.natl hl) Try.func114 (by kernel_rfl : Try.f114.body = some f114c) [9] (by kernel_rfl) ?_, _, Try.func114, by kernel_rfl, of_decide_eq_true (by kernel_rfl)⟩, Gm.Spec.of_natl _ _ _ _⟩
  intro ds outs h
  unfold q114 at h
  split at h
  · simp only [Option.some.injEq, Prod.mk.injEq] at h; obtain ⟨hg, h⟩ := h; cases h; exact f114_spec _ hg
  · cases h
end Go.Proofs.Ytnbehmbjoanfoaa

namespace Go.Proofs.Ytnbehmbjoanfoaa
open Go Go.Gm
noncomputable def f115S0 (y0 : Int) (y1 : List Int) (y2 : Int) (y3 : Int) (y5 : Int) (y6 : List ItemT) : St := ⟨[(0, .c (.one (.pt 0 0))), (2, .c (.one (.pt 2 0))), (3, .c (.one (.pt 3 0))), (4, .c (.one (.v (.int .i64 y0))))], [(0, ⟨.cur, [.rk (.i .u8) y1, .v (.int .i64 y2), .v (.int .i64 y3)]⟩), (2, ⟨.store, [.nl, .v (.int .i64 (0 : Int))]⟩), (3, ⟨.store, [.h 320 0 0 [], .v (.int .i64 y5)]⟩)], [(320, .live ⟨.item, .deep, 0, [], y6⟩)]⟩
noncomputable def f115S1 (y0 : Int) (y1 : Bool) (y2 : List Int) (y3 : Int) (y4 : Int) (y6 : Int) (y7 : List ItemT) : St := ⟨[(0, .c (.one (.pt 0 0))), (2, .c (.one (.pt 2 0))), (3, .c (.one (.pt 3 0))), (4, .c (.one (.v (.int .i64 y0)))), (9, .c (.one (.v (.bool y1))))], [(0, ⟨.cur, [.rk (.i .u8) y2, .v (.int .i64 y3), .v (.int .i64 y4)]⟩), (2, ⟨.store, [.nl, .v (.int .i64 (0 : Int))]⟩), (3, ⟨.store, [.h 320 0 0 [], .v (.int .i64 y6)]⟩)], [(320, .live ⟨.item, .deep, 0, [], y7⟩)]⟩
noncomputable def f115c : Code := (Try.f115.body).getD .skip
def f115k : Nat → Kp := kat [⟨[0, 2], [], [], []⟩, ⟨[0, 2, 3], [], [], []⟩, ⟨[0, 2, 3, 4], [], [], []⟩, ⟨[0, 2, 3, 4, 9], [], [], []⟩, ⟨[0, 2, 3, 4], [], [], [(1216, 320), (1664, 320)]⟩, ⟨[0, 2, 3, 4, 13], [], [], []⟩, ⟨[0, 2, 3, 4], [], [], []⟩, ⟨[0, 2, 3, 4], [], [], []⟩, ⟨[0, 2], [], [], []⟩]
noncomputable def f115e : Env := tab.env [(80, s80), (82, s82), (99, s99), (100, s100), (139, s139), (140, s140), (141, s141)]
noncomputable def f115L0 {R : Type} (n : Nat) (x0 : Int → Bool → (List Int) → Int → Int → Int → (List ItemT) → Option R)  : Nat → Int → (List Int) → Int → Int → Int → (List ItemT) → Option R
  | 0, _, _, _, _, _, _ => none
  | m + 1, vs4, vb0_0, vb0_1, vb0_2, vb3_1, vr320 =>
    (cond ((fun c _ => gCur c) (⟨vb0_0, vb0_1, vb0_2⟩ : CurT) (6 : Int))
   (cond (decide (vs4 < ((curBelow (⟨vb0_0, vb0_1, vb0_2⟩ : CurT) (6 : Int)).1)))
    (cond ((fun c _ => gCur c) ((curBelow (⟨vb0_0, vb0_1, vb0_2⟩ : CurT) (6 : Int)).2) (6 : Int))
     (cond ((curOnce ((curBelow (⟨vb0_0, vb0_1, vb0_2⟩ : CurT) (6 : Int)).2) (6 : Int)).1)
      (cond (gPickS ((curOnce ((curBelow (⟨vb0_0, vb0_1, vb0_2⟩ : CurT) (6 : Int)).2) (6 : Int)).2) ([(bs [119,101,98]), (bs [97,112,105])] : List ByteArray))
       (cond (gSD (⟨vr320, vb3_1⟩ : StoreT) ((curPick ((curOnce ((curBelow (⟨vb0_0, vb0_1, vb0_2⟩ : CurT) (6 : Int)).2) (6 : Int)).2) ([(bs [119,101,98]), (bs [97,112,105])] : List ByteArray)).1))
        (f115L0 n x0 m (IntKind.wrap .i64 (vs4 + (1 : Int))) (CurT.b ((curPick ((curOnce ((curBelow (⟨vb0_0, vb0_1, vb0_2⟩ : CurT) (6 : Int)).2) (6 : Int)).2) ([(bs [119,101,98]), (bs [97,112,105])] : List ByteArray)).2)) (CurT.i ((curPick ((curOnce ((curBelow (⟨vb0_0, vb0_1, vb0_2⟩ : CurT) (6 : Int)).2) (6 : Int)).2) ([(bs [119,101,98]), (bs [97,112,105])] : List ByteArray)).2)) (CurT.h ((curPick ((curOnce ((curBelow (⟨vb0_0, vb0_1, vb0_2⟩ : CurT) (6 : Int)).2) (6 : Int)).2) ([(bs [119,101,98]), (bs [97,112,105])] : List ByteArray)).2)) (StoreT.next ((sDrop (⟨vr320, vb3_1⟩ : StoreT) ((curPick ((curOnce ((curBelow (⟨vb0_0, vb0_1, vb0_2⟩ : CurT) (6 : Int)).2) (6 : Int)).2) ([(bs [119,101,98]), (bs [97,112,105])] : List ByteArray)).1)).1)) (StoreT.items ((sDrop (⟨vr320, vb3_1⟩ : StoreT) ((curPick ((curOnce ((curBelow (⟨vb0_0, vb0_1, vb0_2⟩ : CurT) (6 : Int)).2) (6 : Int)).2) ([(bs [119,101,98]), (bs [97,112,105])] : List ByteArray)).1)).1)))
        none)
       none)
      (cond (gCur ((curOnce ((curBelow (⟨vb0_0, vb0_1, vb0_2⟩ : CurT) (6 : Int)).2) (6 : Int)).2))
       (cond (gSP (⟨vr320, vb3_1⟩ : StoreT) ((oRight ((curOnce ((curBelow (⟨vb0_0, vb0_1, vb0_2⟩ : CurT) (6 : Int)).2) (6 : Int)).2)).1))
        (f115L0 n x0 m (IntKind.wrap .i64 (vs4 + (1 : Int))) (CurT.b ((oRight ((curOnce ((curBelow (⟨vb0_0, vb0_1, vb0_2⟩ : CurT) (6 : Int)).2) (6 : Int)).2)).2)) (CurT.i ((oRight ((curOnce ((curBelow (⟨vb0_0, vb0_1, vb0_2⟩ : CurT) (6 : Int)).2) (6 : Int)).2)).2)) (CurT.h ((oRight ((curOnce ((curBelow (⟨vb0_0, vb0_1, vb0_2⟩ : CurT) (6 : Int)).2) (6 : Int)).2)).2)) (StoreT.next ((sPut (⟨vr320, vb3_1⟩ : StoreT) ((oRight ((curOnce ((curBelow (⟨vb0_0, vb0_1, vb0_2⟩ : CurT) (6 : Int)).2) (6 : Int)).2)).1)).1)) (StoreT.items ((sPut (⟨vr320, vb3_1⟩ : StoreT) ((oRight ((curOnce ((curBelow (⟨vb0_0, vb0_1, vb0_2⟩ : CurT) (6 : Int)).2) (6 : Int)).2)).1)).1)))
        none)
       none))
     none)
    (x0 vs4 (decide (vs4 < ((curBelow (⟨vb0_0, vb0_1, vb0_2⟩ : CurT) (6 : Int)).1))) (CurT.b ((curBelow (⟨vb0_0, vb0_1, vb0_2⟩ : CurT) (6 : Int)).2)) (CurT.i ((curBelow (⟨vb0_0, vb0_1, vb0_2⟩ : CurT) (6 : Int)).2)) (CurT.h ((curBelow (⟨vb0_0, vb0_1, vb0_2⟩ : CurT) (6 : Int)).2)) vb3_1 vr320))
   none)
theorem f115L0_b {R : Type} (n : Nat) (k' : Ex → St → Option R) (vs4 : Int) (vb0_0 : List Int) (vb0_1 : Int) (vb0_2 : Int) (vb3_1 : Int) (vr320 : List ItemT) : ev f115e f115k n (cAt [1,1,0,1,0,0] f115c) (f115S0 vs4 vb0_0 vb0_1 vb0_2 vb3_1 vr320) k' =
    (cond ((fun c _ => gCur c) (⟨vb0_0, vb0_1, vb0_2⟩ : CurT) (6 : Int))
  (cond (decide (vs4 < ((curBelow (⟨vb0_0, vb0_1, vb0_2⟩ : CurT) (6 : Int)).1)))
   (cond ((fun c _ => gCur c) ((curBelow (⟨vb0_0, vb0_1, vb0_2⟩ : CurT) (6 : Int)).2) (6 : Int))
    (cond ((curOnce ((curBelow (⟨vb0_0, vb0_1, vb0_2⟩ : CurT) (6 : Int)).2) (6 : Int)).1)
     (cond (gPickS ((curOnce ((curBelow (⟨vb0_0, vb0_1, vb0_2⟩ : CurT) (6 : Int)).2) (6 : Int)).2) ([(bs [119,101,98]), (bs [97,112,105])] : List ByteArray))
      (cond (gSD (⟨vr320, vb3_1⟩ : StoreT) ((curPick ((curOnce ((curBelow (⟨vb0_0, vb0_1, vb0_2⟩ : CurT) (6 : Int)).2) (6 : Int)).2) ([(bs [119,101,98]), (bs [97,112,105])] : List ByteArray)).1))
       (k' .normal (f115S0 (IntKind.wrap .i64 (vs4 + (1 : Int))) (CurT.b ((curPick ((curOnce ((curBelow (⟨vb0_0, vb0_1, vb0_2⟩ : CurT) (6 : Int)).2) (6 : Int)).2) ([(bs [119,101,98]), (bs [97,112,105])] : List ByteArray)).2)) (CurT.i ((curPick ((curOnce ((curBelow (⟨vb0_0, vb0_1, vb0_2⟩ : CurT) (6 : Int)).2) (6 : Int)).2) ([(bs [119,101,98]), (bs [97,112,105])] : List ByteArray)).2)) (CurT.h ((curPick ((curOnce ((curBelow (⟨vb0_0, vb0_1, vb0_2⟩ : CurT) (6 : Int)).2) (6 : Int)).2) ([(bs [119,101,98]), (bs [97,112,105])] : List ByteArray)).2)) (StoreT.next ((sDrop (⟨vr320, vb3_1⟩ : StoreT) ((curPick ((curOnce ((curBelow (⟨vb0_0, vb0_1, vb0_2⟩ : CurT) (6 : Int)).2) (6 : Int)).2) ([(bs [119,101,98]), (bs [97,112,105])] : List ByteArray)).1)).1)) (StoreT.items ((sDrop (⟨vr320, vb3_1⟩ : StoreT) ((curPick ((curOnce ((curBelow (⟨vb0_0, vb0_1, vb0_2⟩ : CurT) (6 : Int)).2) (6 : Int)).2) ([(bs [119,101,98]), (bs [97,112,105])] : List ByteArray)).1)).1))))
       none)
      none)
     (cond (gCur ((curOnce ((curBelow (⟨vb0_0, vb0_1, vb0_2⟩ : CurT) (6 : Int)).2) (6 : Int)).2))
      (cond (gSP (⟨vr320, vb3_1⟩ : StoreT) ((oRight ((curOnce ((curBelow (⟨vb0_0, vb0_1, vb0_2⟩ : CurT) (6 : Int)).2) (6 : Int)).2)).1))
       (k' .normal (f115S0 (IntKind.wrap .i64 (vs4 + (1 : Int))) (CurT.b ((oRight ((curOnce ((curBelow (⟨vb0_0, vb0_1, vb0_2⟩ : CurT) (6 : Int)).2) (6 : Int)).2)).2)) (CurT.i ((oRight ((curOnce ((curBelow (⟨vb0_0, vb0_1, vb0_2⟩ : CurT) (6 : Int)).2) (6 : Int)).2)).2)) (CurT.h ((oRight ((curOnce ((curBelow (⟨vb0_0, vb0_1, vb0_2⟩ : CurT) (6 : Int)).2) (6 : Int)).2)).2)) (StoreT.next ((sPut (⟨vr320, vb3_1⟩ : StoreT) ((oRight ((curOnce ((curBelow (⟨vb0_0, vb0_1, vb0_2⟩ : CurT) (6 : Int)).2) (6 : Int)).2)).1)).1)) (StoreT.items ((sPut (⟨vr320, vb3_1⟩ : StoreT) ((oRight ((curOnce ((curBelow (⟨vb0_0, vb0_1, vb0_2⟩ : CurT) (6 : Int)).2) (6 : Int)).2)).1)).1))))
       none)
      none))
    none)
   (k' (.exit 0) (f115S1 vs4 (decide (vs4 < ((curBelow (⟨vb0_0, vb0_1, vb0_2⟩ : CurT) (6 : Int)).1))) (CurT.b ((curBelow (⟨vb0_0, vb0_1, vb0_2⟩ : CurT) (6 : Int)).2)) (CurT.i ((curBelow (⟨vb0_0, vb0_1, vb0_2⟩ : CurT) (6 : Int)).2)) (CurT.h ((curBelow (⟨vb0_0, vb0_1, vb0_2⟩ : CurT) (6 : Int)).2)) vb3_1 vr320)))
  none) := by kernel_rfl
theorem f115L0_eq {R : Type} (n : Nat) (k' : Ex → St → Option R)  : ∀ (m : Nat) (vs4 : Int) (vb0_0 : List Int) (vb0_1 : Int) (vb0_2 : Int) (vb3_1 : Int) (vr320 : List ItemT), iter (fun st k => ev f115e f115k n (cAt [1,1,0,1,0,0] f115c) st k) m (f115S0 vs4 vb0_0 vb0_1 vb0_2 vb3_1 vr320) k' = f115L0 n (fun (xvs4 : Int) (xvs9 : Bool) (xvb0_0 : List Int) (xvb0_1 : Int) (xvb0_2 : Int) (xvb3_1 : Int) (xvr320 : List ItemT) => k' (.exit 0) (f115S1 xvs4 xvs9 xvb0_0 xvb0_1 xvb0_2 xvb3_1 xvr320)) m vs4 vb0_0 vb0_1 vb0_2 vb3_1 vr320 := by
  intro m; induction m with
  | zero => intros; rfl
  | succ m ih =>
    intro vs4 vb0_0 vb0_1 vb0_2 vb3_1 vr320
    simp only [iter]
    rw [f115L0_b]
    simp only [ih, f115L0]
noncomputable def f115K0 {R : Type} (n : Nat) (k' : Ex → St → Option R) : Ex → St → Option R := (blockK 0 (seqK f115e f115k n (cAt [1,1,1] f115c) k'))
theorem f115K0_x0 {R : Type} (n : Nat) (k : List Dt → Option R) (a0 : CurT) (xvs4 : Int) (xvs9 : Bool) (xvb0_0 : List Int) (xvb0_1 : Int) (xvb0_2 : Int) (xvb3_1 : Int) (xvr320 : List ItemT) : f115K0 n (exitK f115e [.pmut] [false] true [.cell 2 37] [37] [.d .cur a0] k) (.exit 0) (f115S1 xvs4 xvs9 xvb0_0 xvb0_1 xvb0_2 xvb3_1 xvr320) =
    (k [.d .store (⟨xvr320, xvb3_1⟩ : StoreT), .d .cur (⟨xvb0_0, xvb0_1, xvb0_2⟩ : CurT)]) := by kernel_rfl
theorem f115_run {R : Type} (n : Nat) (k : List Dt → Option R) (a0 : CurT) : evFn f115e f115k n f115c [.pmut] [false] true [.cell 2 37] [37] [.d .cur a0] k =
    (f115L0 n (fun (xvs4 : Int) (xvs9 : Bool) (xvb0_0 : List Int) (xvb0_1 : Int) (xvb0_2 : Int) (xvb3_1 : Int) (xvr320 : List ItemT) =>
  (k [.d .store (⟨xvr320, xvb3_1⟩ : StoreT), .d .cur (⟨xvb0_0, xvb0_1, xvb0_2⟩ : CurT)])) n (0 : Int) (CurT.b a0) (CurT.i a0) (CurT.h a0) (StoreT.next storeNew) (StoreT.items storeNew)) := by
  refine Eq.trans (b := (iter (fun st k => ev f115e f115k n (cAt [1,1,0,1,0,0] f115c) st k) n (f115S0 (0 : Int) (CurT.b a0) (CurT.i a0) (CurT.h a0) (StoreT.next storeNew) (StoreT.items storeNew)) (f115K0 n (exitK f115e [.pmut] [false] true [.cell 2 37] [37] [.d .cur a0] k)))) (by kernel_rfl) ?_
  simp only [f115L0_eq, f115K0_x0]
def f115_P (a0 : CurT) (o : StoreT × CurT) : Prop := (fun _ o => sm_store o.1 = true ∧ o.1.items.length ≤ 6 ∧ gCur o.2 = true) a0 o ∧ ∃ n : Nat, ∀ {R : Type} (k : List Dt → Option R), evFn f115e f115k n f115c [.pmut] [false] true [.cell 2 37] [37] [.d .cur a0] k = k [.d .store o.1, .d .cur o.2]
theorem f115_ex (a0 : CurT) (hg : gCur a0 = true) : ∃ o : StoreT × CurT, (fun _ o => sm_store o.1 = true ∧ o.1.items.length ≤ 6 ∧ gCur o.2 = true) a0 o ∧ ∃ n : Nat, ∀ {R : Type} (k : List Dt → Option R), evFn f115e f115k n f115c [.pmut] [false] true [.cell 2 37] [37] [.d .cur a0] k = k [.d .store o.1, .d .cur o.2] := by
  have key : ∀ (d m : Nat) (i : Int) (s : StoreT) (c : CurT), 0 ≤ i → 6 ≤ i + d → i ≤ 6 → d < m → sm_store s = true → (s.items.length : Int) ≤ i → gCur c = true →
      ∃ o : StoreT × CurT, (sm_store o.1 = true ∧ o.1.items.length ≤ 6 ∧ gCur o.2 = true) ∧ ∀ {R : Type} (X : Int → Bool → (List Int) → Int → Int → Int → (List ItemT) → Option R) (Z : StoreT → CurT → Option R), (∀ i b c1 c2 c3 n l, X i b c1 c2 c3 n l = Z ⟨l, n⟩ ⟨c1, c2, c3⟩) → f115L0 7 X m i c.b c.i c.h s.next s.items = Z o.1 o.2 := by
    intro d
    induction d with
    | zero =>
      intro m i s c h0 hi hi2 hm hs hl hc
      obtain ⟨m, rfl⟩ : ∃ m', m = m' + 1 := ⟨m - 1, by omega⟩
      obtain ⟨b0, b1, g1⟩ := curBelow_ok c 6 hc
      have b1 := b1 (by omega)
      refine ⟨(s, (curBelow c 6).2), ⟨hs, by show s.items.length ≤ 6; omega, g1⟩, fun {R} X Z hX => ?_⟩
      simp only [f115L0, eta_cur, hc, decide_eq_false (show ¬ i < (curBelow c 6).1 by omega), cond_true, cond_false, hX]
    | succ d ih =>
      intro m i s c h0 hi hi2 hm hs hl hc
      obtain ⟨m, rfl⟩ : ∃ m', m = m' + 1 := ⟨m - 1, by omega⟩
      obtain ⟨b0, b1, g1⟩ := curBelow_ok c 6 hc
      have b1 := b1 (by omega)
      cases hd : decide (i < (curBelow c 6).1)
      · refine ⟨(s, (curBelow c 6).2), ⟨hs, by show s.items.length ≤ 6; omega, g1⟩, fun {R} X Z hX => ?_⟩
        simp only [f115L0, eta_cur, hc, hd, cond_true, cond_false, hX]
      have hlt := of_decide_eq_true hd
      have hw : IntKind.wrap .i64 (i + 1) = i + 1 := wrap_id (by omega) (by omega)
      have g2 := curOnce_ok (curBelow c 6).2 6 g1
      have hes : (⟨s.items, s.next⟩ : StoreT) = s := rfl
      cases ho : (curOnce (curBelow c 6).2 6).1
      · obtain ⟨r1, r2, r3, g3⟩ := oRight_ok _ g2
        have hgs : gSP s (oRight (curOnce (curBelow c 6).2 6).2).1 = true := by
          simp only [gSP, hs, r1, Bool.true_and]; exact Nat.ble_eq_true_of_le (by omega)
        obtain ⟨p1, p2⟩ := sPut_ok _ _ hgs
        obtain ⟨o1, ho1, hh1⟩ := ih m (i + 1) (sPut s (oRight (curOnce (curBelow c 6).2 6).2).1).1 (oRight (curOnce (curBelow c 6).2 6).2).2 (by omega) (by omega) (by omega) (by omega) p1 (by omega) g3
        exact ⟨o1, ho1, fun {R} X Z hX => by
          simp only [f115L0, eta_cur, hc, hd, g1, ho, g2, hgs, hw, cond_true, cond_false]
          exact hh1 X Z hX⟩
      · have hp := gPickS_of (l := ([(bs [119,101,98]), (bs [97,112,105])] : List ByteArray)) g2 rfl
        obtain ⟨hmem, g3⟩ := curPick_ok _ _ hp
        have hgs : gSD s (curPick (curOnce (curBelow c 6).2 6).2 ([(bs [119,101,98]), (bs [97,112,105])] : List ByteArray)).1 = true := by
          simp only [gSD, hs, Bool.true_and]; exact Nat.ble_eq_true_of_le (by omega)
        obtain ⟨p1, p2⟩ := sDrop_ok _ _ hgs
        obtain ⟨o1, ho1, hh1⟩ := ih m (i + 1) (sDrop s (curPick (curOnce (curBelow c 6).2 6).2 ([(bs [119,101,98]), (bs [97,112,105])] : List ByteArray)).1).1 (curPick (curOnce (curBelow c 6).2 6).2 ([(bs [119,101,98]), (bs [97,112,105])] : List ByteArray)).2 (by omega) (by omega) (by omega) (by omega) p1 (by omega) g3
        exact ⟨o1, ho1, fun {R} X Z hX => by
          simp only [f115L0, eta_cur, hc, hd, g1, ho, hp, hgs, hw, cond_true, cond_false]
          exact hh1 X Z hX⟩
  obtain ⟨o, ho, hh⟩ := key 6 7 0 storeNew a0 (by omega) (by omega) (by omega) (by omega) rfl (by decide) hg
  refine ⟨o, ho, 7, fun {R} k => ?_⟩
  rw [f115_run]
  exact hh _ (fun s c => k [.d .store s, .d .cur c]) (fun _ _ _ _ _ _ _ => rfl)
theorem f115_ne (a0 : CurT) : Nonempty {o : StoreT × CurT // gCur a0 = true → f115_P a0 o} := by
  by_cases hg : gCur a0 = true
  · obtain ⟨o, ho⟩ := f115_ex a0 hg
    exact ⟨⟨o, fun _ => ho⟩⟩
  · exact ⟨⟨((zero .store), (zero .cur)), fun h => absurd h hg⟩⟩
noncomputable def sRight (a0 : CurT) : StoreT × CurT := (Classical.choice (f115_ne a0)).val
theorem f115_sp (a0 : CurT) (hg : gCur a0 = true) : f115_P a0 (sRight a0) := (Classical.choice (f115_ne a0)).property hg
theorem sRight_ok (a0 : CurT) (hg : gCur a0 = true) : (fun _ o => sm_store o.1 = true ∧ o.1.items.length ≤ 6 ∧ gCur o.2 = true) a0 (sRight a0) := (f115_sp a0 hg).1
theorem f115_spec (a0 : CurT) (hg : gCur a0 = true) : ∃ keep rounds, ∀ {R : Type} (k : List Dt → Option R), evFn f115e keep rounds f115c [.pmut] [false] true [.cell 2 37] [37] [.d .cur a0] k = k [.d .store ((sRight a0).1), .d .cur ((sRight a0).2)] := by
  obtain ⟨n, hn⟩ := (f115_sp a0 hg).2
  exact ⟨f115k, n, hn⟩
noncomputable def q115 : List Dt → Option (Bool × List Dt)
  | [.d .cur a0] => some ((gCur a0), [.d .store ((sRight a0).1), .d .cur ((sRight a0).2)])
  | _ => none
noncomputable def s115 : Gm.Spec := Gm.Spec.of [.pmut] [false] true q115
theorem good115 : Gm.Good Try.prog (115, s115) := by
  have hl : ∀ x ∈ [(80, s80), (82, s82), (99, s99), (100, s100), (139, s139), (140, s140), (141, s141)], Gm.Good Try.prog x := List.forall_mem_cons.2 ⟨good80, List.forall_mem_cons.2 ⟨good82, List.forall_mem_cons.2 ⟨good99, List.forall_mem_cons.2 ⟨good100, List.forall_mem_cons.2 ⟨good139, List.forall_mem_cons.2 ⟨good140, List.forall_mem_cons.2 ⟨good141, List.forall_mem_nil _⟩⟩⟩⟩⟩⟩⟩
  refine ⟨⟨spec_ok (tab_ok.env hl) (tab.natl hl) Try.func115 (by kernel_rfl : Try.f115.body = some f115c) [37] (by kernel_rfl) ?_, _, Try.func115, by kernel_rfl, of_decide_eq_true (by kernel_rfl)⟩, Gm.Spec.of_natl _ _ _ _⟩
  intro ds outs h
  unfold q115 at h
  split at h
  · simp only [Option.some.injEq, Prod.mk.injEq] at h; obtain ⟨hg, h⟩ := h; cases h; exact f115_spec _ hg
  · cases h
noncomputable def f85c : Code := (Try.f85.body).getD .skip
def f85k : Nat → Kp := kat [⟨[0, 2], [], [], []⟩, ⟨[0, 2, 3], [], [], []⟩, ⟨[0, 2, 3, 7], [], [], []⟩, ⟨[0, 2, 3, 7, 8], [], [], []⟩, ⟨[0, 2, 3], [], [], []⟩, ⟨[0, 2, 3, 7, 14], [], [], []⟩, ⟨[0, 2, 3], [], [], []⟩, ⟨[0, 2, 3, 26], [], [], []⟩, ⟨[0, 2, 3, 31], [], [], []⟩, ⟨[0, 2, 3], [], [], []⟩, ⟨[0, 2], [], [], []⟩]
noncomputable def f85e : Env := tab.env [(58, s58), (80, s80), (83, s83), (115, s115)]
noncomputable def f85v0 (a0 : CurT) : List ItemT :=
  ((StoreT.items ((sRight a0).1)).set 0 (⟨(ItemT.order (atI (t := .item) (StoreT.items ((sRight a0).1)) 0)), ((curPickI ((curBelow ((sRight a0).2) (12 : Int)).2) ([(0 : Int), (1 : Int), (2 : Int), (9 : Int)] : List Int)).1)⟩ : ItemT))
theorem f85_run {R : Type} (n : Nat) (k : List Dt → Option R) (a0 : CurT) : evFn f85e f85k n f85c [.pmut] [false] true [.cell 2 37] [37] [.d .cur a0] k =
    (cond (gCur a0)
  (cond ((fun c _ => gCur c) ((sRight a0).2) (12 : Int))
   (cond (((curBelow ((sRight a0).2) (12 : Int)).1) == (0 : Int))
    (cond (gPickI ((curBelow ((sRight a0).2) (12 : Int)).2) ([(0 : Int), (1 : Int), (100000 : Int), (100001 : Int)] : List Int))
     (k [.d .store (⟨(StoreT.items ((sRight a0).1)), ((curPickI ((curBelow ((sRight a0).2) (12 : Int)).2) ([(0 : Int), (1 : Int), (100000 : Int), (100001 : Int)] : List Int)).1)⟩ : StoreT), .d .cur ((curPickI ((curBelow ((sRight a0).2) (12 : Int)).2) ([(0 : Int), (1 : Int), (100000 : Int), (100001 : Int)] : List Int)).2)])
     none)
    (cond (((curBelow ((sRight a0).2) (12 : Int)).1) == (1 : Int))
     (cond (gCur ((curBelow ((sRight a0).2) (12 : Int)).2))
      (cond ((fun c _ => gCur c) ((oDraw ((curBelow ((sRight a0).2) (12 : Int)).2)).2) (4 : Int))
       (cond (Nat.ble ((StoreT.items ((sRight a0).1)).length + 1) LIM)
        (k [.d .store (⟨((StoreT.items ((sRight a0).1)) ++ ([(⟨((oDraw ((curBelow ((sRight a0).2) (12 : Int)).2)).1), ((curBelow ((oDraw ((curBelow ((sRight a0).2) (12 : Int)).2)).2) (4 : Int)).1)⟩ : ItemT)] : List ItemT)), (StoreT.next ((sRight a0).1))⟩ : StoreT), .d .cur ((curBelow ((oDraw ((curBelow ((sRight a0).2) (12 : Int)).2)).2) (4 : Int)).2)])
        none)
       none)
      none)
     (cond (((curBelow ((sRight a0).2) (12 : Int)).1) == (2 : Int))
      (cond (decide (((StoreT.items ((sRight a0).1)).length : Int) > (0 : Int)))
       (cond (gPickI ((curBelow ((sRight a0).2) (12 : Int)).2) ([(0 : Int), (1 : Int), (2 : Int), (9 : Int)] : List Int))
        (cond (decide ((0 : Int) < ((StoreT.items ((sRight a0).1)).length : Int)))
         (k [.d .store (⟨(f85v0 a0), (StoreT.next ((sRight a0).1))⟩ : StoreT), .d .cur ((curPickI ((curBelow ((sRight a0).2) (12 : Int)).2) ([(0 : Int), (1 : Int), (2 : Int), (9 : Int)] : List Int)).2)])
         none)
        none)
       (k [.d .store ((sRight a0).1), .d .cur ((curBelow ((sRight a0).2) (12 : Int)).2)]))
      (k [.d .store ((sRight a0).1), .d .cur ((curBelow ((sRight a0).2) (12 : Int)).2)]))))
   none)
  none) := by kernel_rfl
def f85_P (a0 : CurT) (o : StoreT × CurT) : Prop := (fun _ o => sm_store o.1 = true ∧ o.1.items.length ≤ 7 ∧ gCur o.2 = true) a0 o ∧ ∃ n : Nat, ∀ {R : Type} (k : List Dt → Option R), evFn f85e f85k n f85c [.pmut] [false] true [.cell 2 37] [37] [.d .cur a0] k = k [.d .store o.1, .d .cur o.2]
theorem f85_ex (a0 : CurT) (hg : gCur a0 = true) : ∃ o : StoreT × CurT, (fun _ o => sm_store o.1 = true ∧ o.1.items.length ≤ 7 ∧ gCur o.2 = true) a0 o ∧ ∃ n : Nat, ∀ {R : Type} (k : List Dt → Option R), evFn f85e f85k n f85c [.pmut] [false] true [.cell 2 37] [37] [.d .cur a0] k = k [.d .store o.1, .d .cur o.2] := by
  obtain ⟨hs, hl, g1⟩ := sRight_ok a0 hg
  obtain ⟨hi0, hnx⟩ := store_parts hs
  obtain ⟨b0, b1, g2⟩ := curBelow_ok (sRight a0).2 12 g1
  cases e0 : ((curBelow (sRight a0).2 12).1 == (0 : Int))
  rotate_left
  · have hp := gPickI_of (l := ([(0 : Int), (1 : Int), (100000 : Int), (100001 : Int)] : List Int)) g2 rfl
    obtain ⟨hm, g3⟩ := curPickI_ok _ _ hp
    refine ⟨(?az0, ?bz0), ?gz0, 0, ?rz0⟩
    case rz0 =>
      intro R k
      rw [f85_run]
      simp only [hg, g1, e0, hp, Bool.not_true, Bool.not_false, cond_true, cond_false]
      exact rfl
    case gz0 => exact ⟨store_mk hi0 (List.all_eq_true.1 (show (([(0 : Int), (1 : Int), (100000 : Int), (100001 : Int)] : List Int).all okI) = true from rfl) _ hm), by show (sRight a0).1.items.length ≤ 7; omega, g3⟩
  cases e1 : ((curBelow (sRight a0).2 12).1 == (1 : Int))
  rotate_left
  · obtain ⟨ho, g3⟩ := oDraw_ok _ g2
    obtain ⟨c0, c1, g4⟩ := curBelow_ok (oDraw (curBelow (sRight a0).2 12).2).2 4 g3
    have c1 := c1 (by omega)
    have hb : Nat.ble ((sRight a0).1.items.length + 1) LIM = true := lim_le (by omega)
    refine ⟨(?az1, ?bz1), ?gz1, 0, ?rz1⟩
    case rz1 =>
      intro R k
      rw [f85_run]
      simp only [hg, g1, e0, e1, g2, g3, hb, Bool.not_true, Bool.not_false, cond_true, cond_false]
      exact rfl
    case gz1 => exact ⟨store_mk (smL_snoc hi0 (item_mk ho (okI_of (by omega) (by omega))) (by omega)) hnx, by simp only [List.length_append, List.length_cons, List.length_nil]; omega, g4⟩
  cases e2 : ((curBelow (sRight a0).2 12).1 == (2 : Int))
  · refine ⟨(?az2, ?bz2), ?gz2, 0, ?rz2⟩
    case rz2 =>
      intro R k
      rw [f85_run]
      simp only [hg, g1, e0, e1, e2, Bool.not_true, Bool.not_false, cond_true, cond_false]
      exact rfl
    case gz2 => exact ⟨hs, by show (sRight a0).1.items.length ≤ 7; omega, g2⟩
  cases e3 : decide (((sRight a0).1.items.length : Int) > (0 : Int))
  · refine ⟨(?az3, ?bz3), ?gz3, 0, ?rz3⟩
    case rz3 =>
      intro R k
      rw [f85_run]
      simp only [hg, g1, e0, e1, e2, e3, Bool.not_true, Bool.not_false, cond_true, cond_false]
      exact rfl
    case gz3 => exact ⟨hs, by show (sRight a0).1.items.length ≤ 7; omega, g2⟩
  have hp := gPickI_of (l := ([(0 : Int), (1 : Int), (2 : Int), (9 : Int)] : List Int)) g2 rfl
  obtain ⟨hm, g3⟩ := curPickI_ok _ _ hp
  have h0 := item_at hi0 0
  simp only [sm_item, Bool.and_eq_true] at h0
  have e4 : decide ((0 : Int) < ((sRight a0).1.items.length : Int)) = true := e3
  refine ⟨(?az4, ?bz4), ?gz4, 0, ?rz4⟩
  case rz4 =>
    intro R k
    rw [f85_run]
    simp only [hg, g1, e0, e1, e2, e3, e4, hp, Bool.not_true, Bool.not_false, cond_true, cond_false]
    exact rfl
  case gz4 => exact ⟨store_mk (items_set hi0 (item_mk h0.1 (List.all_eq_true.1 (show (([(0 : Int), (1 : Int), (2 : Int), (9 : Int)] : List Int).all okI) = true from rfl) _ hm)) 0) hnx, by simp only [f85v0, List.length_set]; omega, g3⟩
theorem f85_ne (a0 : CurT) : Nonempty {o : StoreT × CurT // gCur a0 = true → f85_P a0 o} := by
  by_cases hg : gCur a0 = true
  · obtain ⟨o, ho⟩ := f85_ex a0 hg
    exact ⟨⟨o, fun _ => ho⟩⟩
  · exact ⟨⟨((zero .store), (zero .cur)), fun h => absurd h hg⟩⟩
noncomputable def sDraw (a0 : CurT) : StoreT × CurT := (Classical.choice (f85_ne a0)).val
theorem f85_sp (a0 : CurT) (hg : gCur a0 = true) : f85_P a0 (sDraw a0) := (Classical.choice (f85_ne a0)).property hg
theorem sDraw_ok (a0 : CurT) (hg : gCur a0 = true) : (fun _ o => sm_store o.1 = true ∧ o.1.items.length ≤ 7 ∧ gCur o.2 = true) a0 (sDraw a0) := (f85_sp a0 hg).1
theorem f85_spec (a0 : CurT) (hg : gCur a0 = true) : ∃ keep rounds, ∀ {R : Type} (k : List Dt → Option R), evFn f85e keep rounds f85c [.pmut] [false] true [.cell 2 37] [37] [.d .cur a0] k = k [.d .store ((sDraw a0).1), .d .cur ((sDraw a0).2)] := by
  obtain ⟨n, hn⟩ := (f85_sp a0 hg).2
  exact ⟨f85k, n, hn⟩
noncomputable def q85 : List Dt → Option (Bool × List Dt)
  | [.d .cur a0] => some ((gCur a0), [.d .store ((sDraw a0).1), .d .cur ((sDraw a0).2)])
  | _ => none
noncomputable def s85 : Gm.Spec := Gm.Spec.of [.pmut] [false] true q85
theorem good85 : Gm.Good Try.prog (85, s85) := by
  have hl : ∀ x ∈ [(58, s58), (80, s80), (83, s83), (115, s115)], Gm.Good Try.prog x := List.forall_mem_cons.2 ⟨good58, List.forall_mem_cons.2 ⟨good80, List.forall_mem_cons.2 ⟨good83, List.forall_mem_cons.2 ⟨good115, List.forall_mem_nil _⟩⟩⟩⟩
  refine ⟨⟨spec_ok (tab_ok.env hl) (tab.natl hl) Try.func85 (by kernel_rfl : Try.f85.body = some f85c) [37] (by kernel_rfl) ?_, _, Try.func85, by kernel_rfl, of_decide_eq_true (by kernel_rfl)⟩, Gm.Spec.of_natl _ _ _ _⟩
  intro ds outs h
  unfold q85 at h
  split at h
  · simp only [Option.some.injEq, Prod.mk.injEq] at h; obtain ⟨hg, h⟩ := h; cases h; exact f85_spec _ hg
  · cases h
end Go.Proofs.Ytnbehmbjoanfoaa

namespace Go.Proofs.Ytnbehmbjoanfoaa
open Go Go.Gm
noncomputable def f11S0 (y0 : Int) (y1 : Int) (y2 : List EventT) : St := ⟨[(1, .c (.one (.pt 1 0))), (3, .c (.one (.v (.int .i64 y0))))], [(1, ⟨.hist, [.v (.int .i64 y1), .ro .event y2]⟩)], []⟩
noncomputable def f11S1 : St := ⟨[(2, .c (.one (.v (.bool false))))], [], []⟩
noncomputable def f11S2 (y0 : Int) (y1 : Bool) (y2 : Int) (y3 : List EventT) : St := ⟨[(1, .c (.one (.pt 1 0))), (3, .c (.one (.v (.int .i64 y0)))), (19, .c (.one (.v (.bool y1))))], [(1, ⟨.hist, [.v (.int .i64 y2), .ro .event y3]⟩)], []⟩
noncomputable def f11c : Code := (Try.f11.body).getD .skip
def f11k : Nat → Kp := kat [⟨[1], [], [], []⟩, ⟨[1, 14], [], [], []⟩, ⟨[2], [], [], []⟩, ⟨[1, 3], [], [], []⟩, ⟨[1, 3, 19], [], [], []⟩, ⟨[1, 3], [], [], []⟩, ⟨[1, 3, 4], [], [], []⟩, ⟨[1, 3, 54], [], [], []⟩, ⟨[2], [], [], []⟩, ⟨[2], [], [], []⟩]
noncomputable def f11e : Env := tab.env [(54, s54), (55, s55)]
noncomputable def f11L0 {R : Type} (n : Nat) (x0 : Option R) (x1 : Int → Bool → Option R) (vb1_0 : Int) (vb1_1 : List EventT) : Nat → Int → Option R
  | 0, _ => none
  | m + 1, vs3 =>
    (cond (decide (vs3 < (vb1_1.length : Int)))
   (cond ((decide ((0 : Int) ≤ vs3)) && (decide (vs3 < (vb1_1.length : Int))))
    (cond ((EventT.seq (atI (t := .event) vb1_1 (Int.toNat vs3))) != (IntKind.wrap .i64 ((IntKind.wrap .i64 (vb1_0 + (1 : Int))) + vs3)))
     (x0)
     (cond (!(inR (EventT.kind (atI (t := .event) vb1_1 (Int.toNat vs3))) (1 : Int) (2 : Int)))
      (x0)
      (cond (sm_order (ItemT.order (EventT.item (atI (t := .event) vb1_1 (Int.toNat vs3)))))
       (cond (!(orderOk (ItemT.order (EventT.item (atI (t := .event) vb1_1 (Int.toNat vs3))))))
        (x0)
        (cond (!(inR (ItemT.ver (EventT.item (atI (t := .event) vb1_1 (Int.toNat vs3)))) (1 : Int) (100000 : Int)))
         (x0)
         (f11L0 n x0 x1 vb1_0 vb1_1 m (IntKind.wrap .i64 (vs3 + (1 : Int))))))
       none)))
    none)
   (x1 vs3 (decide (vs3 < (vb1_1.length : Int)))))
theorem f11L0_b {R : Type} (n : Nat) (k' : Ex → St → Option R) (vs3 : Int) (vb1_0 : Int) (vb1_1 : List EventT) : ev f11e f11k n (cAt [1,1,0,1,0,0] f11c) (f11S0 vs3 vb1_0 vb1_1) k' =
    (cond (decide (vs3 < (vb1_1.length : Int)))
  (cond ((decide ((0 : Int) ≤ vs3)) && (decide (vs3 < (vb1_1.length : Int))))
   (cond ((EventT.seq (atI (t := .event) vb1_1 (Int.toNat vs3))) != (IntKind.wrap .i64 ((IntKind.wrap .i64 (vb1_0 + (1 : Int))) + vs3)))
    (k' .ret f11S1)
    (cond (!(inR (EventT.kind (atI (t := .event) vb1_1 (Int.toNat vs3))) (1 : Int) (2 : Int)))
     (k' .ret f11S1)
     (cond (sm_order (ItemT.order (EventT.item (atI (t := .event) vb1_1 (Int.toNat vs3)))))
      (cond (!(orderOk (ItemT.order (EventT.item (atI (t := .event) vb1_1 (Int.toNat vs3))))))
       (k' .ret f11S1)
       (cond (!(inR (ItemT.ver (EventT.item (atI (t := .event) vb1_1 (Int.toNat vs3)))) (1 : Int) (100000 : Int)))
        (k' .ret f11S1)
        (k' .normal (f11S0 (IntKind.wrap .i64 (vs3 + (1 : Int))) vb1_0 vb1_1))))
      none)))
   none)
  (k' (.exit 0) (f11S2 vs3 (decide (vs3 < (vb1_1.length : Int))) vb1_0 vb1_1))) := by kernel_rfl
theorem f11L0_eq {R : Type} (n : Nat) (k' : Ex → St → Option R) (vb1_0 : Int) (vb1_1 : List EventT) : ∀ (m : Nat) (vs3 : Int), iter (fun st k => ev f11e f11k n (cAt [1,1,0,1,0,0] f11c) st k) m (f11S0 vs3 vb1_0 vb1_1) k' = f11L0 n (k' .ret f11S1) (fun (xvs3 : Int) (xvs19 : Bool) => k' (.exit 0) (f11S2 xvs3 xvs19 vb1_0 vb1_1)) vb1_0 vb1_1 m vs3 := by
  intro m; induction m with
  | zero => intros; rfl
  | succ m ih =>
    intro vs3
    simp only [iter]
    rw [f11L0_b]
    simp only [ih, f11L0]
noncomputable def f11K0 {R : Type} (n : Nat) (k' : Ex → St → Option R) : Ex → St → Option R := (blockK 0 (seqK f11e f11k n (cAt [1,1,1] f11c) k'))
theorem f11K0_x0 {R : Type} (n : Nat) (k : List Dt → Option R) (a0 : HistT)  : f11K0 n (exitK f11e [.ro] [false] true [.tmp 2] [4] [.d .hist a0] k) .ret f11S1 =
    (k [.d .bool false]) := by kernel_rfl
theorem f11K0_x1 {R : Type} (n : Nat) (k : List Dt → Option R) (a0 : HistT) (vb1_0 : Int) (vb1_1 : List EventT) (xvs3 : Int) (xvs19 : Bool) : f11K0 n (exitK f11e [.ro] [false] true [.tmp 2] [4] [.d .hist a0] k) (.exit 0) (f11S2 xvs3 xvs19 vb1_0 vb1_1) =
    (k [.d .bool true]) := by kernel_rfl
theorem f11_run {R : Type} (n : Nat) (k : List Dt → Option R) (a0 : HistT) : evFn f11e f11k n f11c [.ro] [false] true [.tmp 2] [4] [.d .hist a0] k =
    (cond (!(inR (HistT.base a0) (0 : Int) (100000 : Int)))
  (k [.d .bool false])
  (cond (decide (((HistT.list a0).length : Int) > (60 : Int)))
   (k [.d .bool false])
   (f11L0 n (k [.d .bool false]) (fun (xvs3 : Int) (xvs19 : Bool) =>
    (k [.d .bool true])) (HistT.base a0) (HistT.list a0) n (0 : Int)))) := by
  refine Eq.trans (b := (cond (!(inR (HistT.base a0) (0 : Int) (100000 : Int)))
  (k [.d .bool false])
  (cond (decide (((HistT.list a0).length : Int) > (60 : Int)))
   (k [.d .bool false])
   (iter (fun st k => ev f11e f11k n (cAt [1,1,0,1,0,0] f11c) st k) n (f11S0 (0 : Int) (HistT.base a0) (HistT.list a0)) (f11K0 n (exitK f11e [.ro] [false] true [.tmp 2] [4] [.d .hist a0] k)))))) (by kernel_rfl) ?_
  simp only [f11L0_eq, f11K0_x0, f11K0_x1]
theorem f11_spec (a0 : HistT) (hg : sm_hist a0 = true) : ∃ keep rounds, ∀ {R : Type} (k : List Dt → Option R), evFn f11e keep rounds f11c [.ro] [false] true [.tmp 2] [4] [.d .hist a0] k = k [.d .bool (histOk a0)] := by
  simp only [sm_hist, Bool.and_eq_true] at hg
  have hl := smL_len hg.2
  refine ⟨f11k, a0.list.length + 1, fun {R} k => ?_⟩
  rw [f11_run]
  unfold histOk
  cases hb : inR a0.base 0 100000
  · rfl
  rw [inR_iff] at hb
  by_cases h60 : (a0.list.length : Int) > 60
  · simp only [h60, decide_true, Bool.not_true, cond_true, cond_false, Bool.and_false, Bool.false_and]
  simp only [h60, decide_false, Bool.not_true, Bool.not_false, cond_true, cond_false, Bool.true_and]
  refine Eq.trans (loop_idx (n := a0.list.length) (F := fun m i => f11L0 (a0.list.length + 1) _ _ a0.base a0.list m i) (p := eventC a0) (good := k [.d .bool true]) (bad := k [.d .bool false])
    (fun m j hj => ?_) (fun m => by simp only [f11L0, idxE, cond_false]) (a0.list.length) 0 (a0.list.length + 1) (by omega) (by omega)) ?_
  · obtain ⟨h1, h0, hw, ht⟩ := idx hj (by omega)
    have hx := smL_at (t := .event) hg.2 hj
    simp only [sm_event, sm_item, Bool.and_eq_true] at hx
    replace hx := hx.2.2.1
    simp only [f11L0, h1, h0, hw, ht, hx, wrap_id (x := a0.base + 1) (by omega) (by omega), wrap_id (x := a0.base + 1 + (j : Int)) (by omega) (by omega), eta_order, eta_order2, Bool.and_self, cond_true]
    unfold eventC
    simp only [bne]
    cases ((atI (t := .event) a0.list j).seq == a0.base + 1 + (j : Int)) <;> cases orderOk (atI (t := .event) a0.list j).item.order <;> cases inR (atI (t := .event) a0.list j).item.ver 1 100000 <;> cases inR (atI (t := .event) a0.list j).kind 1 2 <;> rfl
  · cases allN (eventC a0) 0 a0.list.length <;> rfl
noncomputable def q11 : List Dt → Option (Bool × List Dt)
  | [.d .hist a0] => some ((sm_hist a0), [.d .bool (histOk a0)])
  | _ => none
noncomputable def s11 : Gm.Spec := Gm.Spec.of [.ro] [false] true q11
theorem good11 : Gm.Good Try.prog (11, s11) := by
  have hl : ∀ x ∈ [(54, s54), (55, s55)], Gm.Good Try.prog x := List.forall_mem_cons.2 ⟨good54, List.forall_mem_cons.2 ⟨good55, List.forall_mem_nil _⟩⟩
  refine ⟨⟨spec_ok (tab_ok.env hl) (tab.natl hl) Try.func11 (by kernel_rfl : Try.f11.body = some f11c) [4] (by kernel_rfl) ?_, _, Try.func11, by kernel_rfl, of_decide_eq_true (by kernel_rfl)⟩, Gm.Spec.of_natl _ _ _ _⟩
  intro ds outs h
  unfold q11 at h
  split at h
  · simp only [Option.some.injEq, Prod.mk.injEq] at h; obtain ⟨hg, h⟩ := h; cases h; exact f11_spec _ hg
  · cases h
noncomputable def f13S0 (y0 : List EventT) (y1 : Int) (y2 : Int) (y3 : Int) (y4 : List EventT) : St := ⟨[(1, .c (.one (.pt 1 0))), (16, .c (.one (.ro .event y0))), (17, .c (.one (.v (.int .i64 y1)))), (18, .c (.one (.v (.int .i64 y2))))], [(1, ⟨.hist, [.v (.int .i64 y3), .ro .event y4]⟩)], []⟩
noncomputable def f13S1 : St := ⟨[(2, .c (.one (.v (.bool false))))], [], []⟩
noncomputable def f13S2 (y0 : List EventT) (y1 : Int) (y2 : Int) (y3 : Bool) (y4 : Int) (y5 : List EventT) : St := ⟨[(1, .c (.one (.pt 1 0))), (16, .c (.one (.ro .event y0))), (17, .c (.one (.v (.int .i64 y1)))), (18, .c (.one (.v (.int .i64 y2)))), (19, .c (.one (.v (.bool y3))))], [(1, ⟨.hist, [.v (.int .i64 y4), .ro .event y5]⟩)], []⟩
noncomputable def f13c : Code := (Try.f13.body).getD .skip
def f13k : Nat → Kp := kat [⟨[1], [], [], []⟩, ⟨[1, 14], [], [], []⟩, ⟨[2], [], [], []⟩, ⟨[1, 16, 17, 18], [], [], []⟩, ⟨[1, 16, 17, 18, 19], [], [], []⟩, ⟨[1, 3, 4, 16, 17, 18], [], [], []⟩, ⟨[1, 16, 17, 18, 54], [], [], []⟩, ⟨[2], [], [], []⟩, ⟨[1, 16, 17, 18], [], [], []⟩, ⟨[2], [], [], []⟩]
noncomputable def f13e : Env := tab.env [(56, s56), (57, s57)]
noncomputable def f13L0 {R : Type} (n : Nat) (x0 : Option R) (x1 : Int → Bool → Option R) (vs16 : List EventT) (vs17 : Int) (vb1_0 : Int) (vb1_1 : List EventT) : Nat → Int → Option R
  | 0, _ => none
  | m + 1, vs18 =>
    (cond (decide (vs18 < vs17))
   (cond ((decide ((0 : Int) ≤ vs18)) && (decide (vs18 < (vs16.length : Int))))
    (cond ((EventT.seq (atI (t := .event) vs16 (Int.toNat vs18))) != (IntKind.wrap .i64 ((IntKind.wrap .i64 (vb1_0 + (1 : Int))) + vs18)))
     (x0)
     (cond ((EventT.kind (atI (t := .event) vs16 (Int.toNat vs18))) != (1 : Int))
      (cond ((EventT.kind (atI (t := .event) vs16 (Int.toNat vs18))) != (2 : Int))
       (x0)
       (cond (sm_order (ItemT.order (EventT.item (atI (t := .event) vs16 (Int.toNat vs18)))))
        (cond (!(orderOk (ItemT.order (EventT.item (atI (t := .event) vs16 (Int.toNat vs18))))))
         (x0)
         (cond (!(inR (ItemT.ver (EventT.item (atI (t := .event) vs16 (Int.toNat vs18)))) (1 : Int) (100000 : Int)))
          (x0)
          (f13L0 n x0 x1 vs16 vs17 vb1_0 vb1_1 m (IntKind.wrap .i64 (vs18 + (1 : Int))))))
        none))
      (cond (sm_order (ItemT.order (EventT.item (atI (t := .event) vs16 (Int.toNat vs18)))))
       (cond (!(orderOk (ItemT.order (EventT.item (atI (t := .event) vs16 (Int.toNat vs18))))))
        (x0)
        (cond (!(inR (ItemT.ver (EventT.item (atI (t := .event) vs16 (Int.toNat vs18)))) (1 : Int) (100000 : Int)))
         (x0)
         (f13L0 n x0 x1 vs16 vs17 vb1_0 vb1_1 m (IntKind.wrap .i64 (vs18 + (1 : Int))))))
       none)))
    none)
   (x1 vs18 (decide (vs18 < vs17))))
theorem f13L0_b {R : Type} (n : Nat) (k' : Ex → St → Option R) (vs16 : List EventT) (vs17 : Int) (vs18 : Int) (vb1_0 : Int) (vb1_1 : List EventT) : ev f13e f13k n (cAt [1,1,0,1,0,0] f13c) (f13S0 vs16 vs17 vs18 vb1_0 vb1_1) k' =
    (cond (decide (vs18 < vs17))
  (cond ((decide ((0 : Int) ≤ vs18)) && (decide (vs18 < (vs16.length : Int))))
   (cond ((EventT.seq (atI (t := .event) vs16 (Int.toNat vs18))) != (IntKind.wrap .i64 ((IntKind.wrap .i64 (vb1_0 + (1 : Int))) + vs18)))
    (k' .ret f13S1)
    (cond ((EventT.kind (atI (t := .event) vs16 (Int.toNat vs18))) != (1 : Int))
     (cond ((EventT.kind (atI (t := .event) vs16 (Int.toNat vs18))) != (2 : Int))
      (k' .ret f13S1)
      (cond (sm_order (ItemT.order (EventT.item (atI (t := .event) vs16 (Int.toNat vs18)))))
       (cond (!(orderOk (ItemT.order (EventT.item (atI (t := .event) vs16 (Int.toNat vs18))))))
        (k' .ret f13S1)
        (cond (!(inR (ItemT.ver (EventT.item (atI (t := .event) vs16 (Int.toNat vs18)))) (1 : Int) (100000 : Int)))
         (k' .ret f13S1)
         (k' .normal (f13S0 vs16 vs17 (IntKind.wrap .i64 (vs18 + (1 : Int))) vb1_0 vb1_1))))
       none))
     (cond (sm_order (ItemT.order (EventT.item (atI (t := .event) vs16 (Int.toNat vs18)))))
      (cond (!(orderOk (ItemT.order (EventT.item (atI (t := .event) vs16 (Int.toNat vs18))))))
       (k' .ret f13S1)
       (cond (!(inR (ItemT.ver (EventT.item (atI (t := .event) vs16 (Int.toNat vs18)))) (1 : Int) (100000 : Int)))
        (k' .ret f13S1)
        (k' .normal (f13S0 vs16 vs17 (IntKind.wrap .i64 (vs18 + (1 : Int))) vb1_0 vb1_1))))
      none)))
   none)
  (k' (.exit 0) (f13S2 vs16 vs17 vs18 (decide (vs18 < vs17)) vb1_0 vb1_1))) := by kernel_rfl
theorem f13L0_eq {R : Type} (n : Nat) (k' : Ex → St → Option R) (vs16 : List EventT) (vs17 : Int) (vb1_0 : Int) (vb1_1 : List EventT) : ∀ (m : Nat) (vs18 : Int), iter (fun st k => ev f13e f13k n (cAt [1,1,0,1,0,0] f13c) st k) m (f13S0 vs16 vs17 vs18 vb1_0 vb1_1) k' = f13L0 n (k' .ret f13S1) (fun (xvs18 : Int) (xvs19 : Bool) => k' (.exit 0) (f13S2 vs16 vs17 xvs18 xvs19 vb1_0 vb1_1)) vs16 vs17 vb1_0 vb1_1 m vs18 := by
  intro m; induction m with
  | zero => intros; rfl
  | succ m ih =>
    intro vs18
    simp only [iter]
    rw [f13L0_b]
    simp only [ih, f13L0]
noncomputable def f13K0 {R : Type} (n : Nat) (k' : Ex → St → Option R) : Ex → St → Option R := (blockK 0 (seqK f13e f13k n (cAt [1,1,1] f13c) k'))
theorem f13K0_x0 {R : Type} (n : Nat) (k : List Dt → Option R) (a0 : HistT)  : f13K0 n (exitK f13e [.ro] [false] true [.tmp 2] [4] [.d .hist a0] k) .ret f13S1 =
    (k [.d .bool false]) := by kernel_rfl
theorem f13K0_x1 {R : Type} (n : Nat) (k : List Dt → Option R) (a0 : HistT) (vs16 : List EventT) (vs17 : Int) (vb1_0 : Int) (vb1_1 : List EventT) (xvs18 : Int) (xvs19 : Bool) : f13K0 n (exitK f13e [.ro] [false] true [.tmp 2] [4] [.d .hist a0] k) (.exit 0) (f13S2 vs16 vs17 xvs18 xvs19 vb1_0 vb1_1) =
    (k [.d .bool true]) := by kernel_rfl
theorem f13_run {R : Type} (n : Nat) (k : List Dt → Option R) (a0 : HistT) : evFn f13e f13k n f13c [.ro] [false] true [.tmp 2] [4] [.d .hist a0] k =
    (cond (!(inR (HistT.base a0) (0 : Int) (100000 : Int)))
  (k [.d .bool false])
  (cond (decide (((HistT.list a0).length : Int) > (60 : Int)))
   (k [.d .bool false])
   (f13L0 n (k [.d .bool false]) (fun (xvs18 : Int) (xvs19 : Bool) =>
    (k [.d .bool true])) (HistT.list a0) ((HistT.list a0).length : Int) (HistT.base a0) (HistT.list a0) n (0 : Int)))) := by
  refine Eq.trans (b := (cond (!(inR (HistT.base a0) (0 : Int) (100000 : Int)))
  (k [.d .bool false])
  (cond (decide (((HistT.list a0).length : Int) > (60 : Int)))
   (k [.d .bool false])
   (iter (fun st k => ev f13e f13k n (cAt [1,1,0,1,0,0] f13c) st k) n (f13S0 (HistT.list a0) ((HistT.list a0).length : Int) (0 : Int) (HistT.base a0) (HistT.list a0)) (f13K0 n (exitK f13e [.ro] [false] true [.tmp 2] [4] [.d .hist a0] k)))))) (by kernel_rfl) ?_
  simp only [f13L0_eq, f13K0_x0, f13K0_x1]
theorem f13_spec (a0 : HistT) (hg : sm_hist a0 = true) : ∃ keep rounds, ∀ {R : Type} (k : List Dt → Option R), evFn f13e keep rounds f13c [.ro] [false] true [.tmp 2] [4] [.d .hist a0] k = k [.d .bool (histOk a0)] := by
  simp only [sm_hist, Bool.and_eq_true] at hg
  have hl := smL_len hg.2
  refine ⟨f13k, a0.list.length + 1, fun {R} k => ?_⟩
  rw [f13_run]
  unfold histOk
  cases hb : inR a0.base 0 100000
  · rfl
  rw [inR_iff] at hb
  by_cases h60 : (a0.list.length : Int) > 60
  · simp only [h60, decide_true, Bool.not_true, cond_true, cond_false, Bool.and_false, Bool.false_and]
  simp only [h60, decide_false, Bool.not_true, Bool.not_false, cond_true, cond_false, Bool.true_and]
  refine Eq.trans (loop_idx (n := a0.list.length) (F := fun m i => f13L0 (a0.list.length + 1) _ _ a0.list (a0.list.length : Int) a0.base a0.list m i) (p := eventC a0) (good := k [.d .bool true]) (bad := k [.d .bool false])
    (fun m j hj => ?_) (fun m => by simp only [f13L0, idxE, cond_false]) (a0.list.length) 0 (a0.list.length + 1) (by omega) (by omega)) ?_
  · obtain ⟨h1, h0, hw, ht⟩ := idx hj (by omega)
    have hx := smL_at (t := .event) hg.2 hj
    simp only [sm_event, sm_item, Bool.and_eq_true] at hx
    replace hx := hx.2.2.1
    simp only [f13L0, h1, h0, hw, ht, hx, wrap_id (x := a0.base + 1) (by omega) (by omega), wrap_id (x := a0.base + 1 + (j : Int)) (by omega) (by omega), eta_order, eta_order2, Bool.and_self, cond_true]
    unfold eventC
    simp only [bne]
    rw [in12]
    cases ((atI (t := .event) a0.list j).seq == a0.base + 1 + (j : Int)) <;> cases orderOk (atI (t := .event) a0.list j).item.order <;> cases inR (atI (t := .event) a0.list j).item.ver 1 100000 <;> cases ((atI (t := .event) a0.list j).kind == (1 : Int)) <;> cases ((atI (t := .event) a0.list j).kind == (2 : Int)) <;> rfl
  · cases allN (eventC a0) 0 a0.list.length <;> rfl
noncomputable def q13 : List Dt → Option (Bool × List Dt)
  | [.d .hist a0] => some ((sm_hist a0), [.d .bool (histOk a0)])
  | _ => none
noncomputable def s13 : Gm.Spec := Gm.Spec.of [.ro] [false] true q13
theorem good13 : Gm.Good Try.prog (13, s13) := by
  have hl : ∀ x ∈ [(56, s56), (57, s57)], Gm.Good Try.prog x := List.forall_mem_cons.2 ⟨good56, List.forall_mem_cons.2 ⟨good57, List.forall_mem_nil _⟩⟩
  refine ⟨⟨spec_ok (tab_ok.env hl) (tab.natl hl) Try.func13 (by kernel_rfl : Try.f13.body = some f13c) [4] (by kernel_rfl) ?_, _, Try.func13, by kernel_rfl, of_decide_eq_true (by kernel_rfl)⟩, Gm.Spec.of_natl _ _ _ _⟩
  intro ds outs h
  unfold q13 at h
  split at h
  · simp only [Option.some.injEq, Prod.mk.injEq] at h; obtain ⟨hg, h⟩ := h; cases h; exact f13_spec _ hg
  · cases h
end Go.Proofs.Ytnbehmbjoanfoaa

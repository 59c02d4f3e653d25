/- What the functions compute, part 2. No conditions. -/
import Derived.Test.YtmeeoilfnahihaaFnOneAtATimeFn1
/- x -/
namespace Go.Proofs.Ytmeeoilfnahihaa
open Go Go.Gm
/-! ### loop.example/g00465/laws.big -/
noncomputable def f16c : Code := (Try.f16.body).getD .skip
def f16k : Nat → Kp := kat [⟨[0], [], [], []⟩, ⟨[2], [], [], []⟩]
noncomputable def f16e : Env := tab.env []
theorem f16_run {R : Type} (n : Nat) (k : List Dt → Option R) (a0 : List Int) : evFn f16e f16k n f16c [.ro] [false] true [.tmp 2] [4] [.d (.sl (.i .u8)) a0] k =
    (k [.d .bool (decide ((a0.length : Int) > (1048576 : Int)))]) := by kernel_rfl
theorem f16_spec (a0 : List Int) : ∃ keep rounds, ∀ {R : Type} (k : List Dt → Option R), evFn f16e keep rounds f16c [.ro] [false] true [.tmp 2] [4] [.d (.sl (.i .u8)) a0] k = k [.d .bool (bigC a0)] := by
  exact ⟨f16k, 0, fun k => f16_run 0 k a0⟩

noncomputable def q16 : List Dt → Option (Bool × List Dt)
  | [.d (.sl (.i .u8)) a0] => some (true, [.d .bool (bigC a0)])
  | _ => none
noncomputable def s16 : Gm.Spec := Gm.Spec.of [.ro] [false] true q16
theorem good16 : Gm.Good Try.prog (16, s16) := by
  have hl : ∀ x ∈ ([] : List (Nat × Gm.Spec)), Gm.Good Try.prog x := fun _ h => by cases h
  refine ⟨⟨spec_ok (tab_ok.env hl) (tab.natl hl) Try.func16 (by kernel_rfl : Try.f16.body = some f16c) [4] (by kernel_rfl) ?_, _, Try.func16, by kernel_rfl, of_decide_eq_true (by kernel_rfl)⟩, Gm.Spec.of_natl _ _ _ _⟩
  intro ds outs h
  unfold q16 at h
  split at h
  · cases h; exact f16_spec _
  · cases h
/-! ### loop.example/g00465/laws.at -/
noncomputable def f18c : Code := (Try.f18.body).getD .skip
def f18k : Nat → Kp := kat [⟨[0, 1], [], [], []⟩, ⟨[0, 1, 8], [], [], []⟩, ⟨[4], [], [], []⟩, ⟨[4], [], [], []⟩]
noncomputable def f18e : Env := tab.env []
theorem f18_run {R : Type} (n : Nat) (k : List Dt → Option R) (a0 : List Int) (a1 : Int) : evFn f18e f18k n f18c [.ro, .ro] [false] true [.tmp 4] [3] [.d (.sl (.i .u8)) a0, .d (.i .i64) a1] k =
    (cond (decide (a1 < (a0.length : Int)))
    (cond ((decide ((0 : Int) ≤ a1)) && (decide (a1 < (a0.length : Int))))
      (k [.d (.i .i64) (IntKind.wrap .i64 (atI (t := (.i .u8)) a0 (Int.toNat a1)))])
      none)
    (k [.d (.i .i64) (Int.tmod (IntKind.wrap .i64 ((IntKind.wrap .i64 (a1 * (7 : Int))) + (a0.length : Int))) (256 : Int))])) := by kernel_rfl
theorem f18_spec (a0 : List Int) (a1 : Int) (hg : decide ((0 : Int) ≤ a1) = true) : ∃ keep rounds, ∀ {R : Type} (k : List Dt → Option R), evFn f18e keep rounds f18c [.ro, .ro] [false] true [.tmp 4] [3] [.d (.sl (.i .u8)) a0, .d (.i .i64) a1] k = k [.d (.i .i64) (atC a0 a1)] := by
  refine ⟨f18k, 0, fun k => ?_⟩
  rw [f18_run, hg]
  unfold atC
  cases decide (a1 < (a0.length : Int)) <;> rfl

noncomputable def q18 : List Dt → Option (Bool × List Dt)
  | [.d (.sl (.i .u8)) a0, .d (.i .i64) a1] => some (((fun (_ : List Int) (i : Int) => decide ((0 : Int) ≤ i)) a0 a1), [.d (.i .i64) (atC a0 a1)])
  | _ => none
noncomputable def s18 : Gm.Spec := Gm.Spec.of [.ro, .ro] [false] true q18
theorem good18 : Gm.Good Try.prog (18, s18) := by
  have hl : ∀ x ∈ ([] : List (Nat × Gm.Spec)), Gm.Good Try.prog x := fun _ h => by cases h
  refine ⟨⟨spec_ok (tab_ok.env hl) (tab.natl hl) Try.func18 (by kernel_rfl : Try.f18.body = some f18c) [3] (by kernel_rfl) ?_, _, Try.func18, by kernel_rfl, of_decide_eq_true (by kernel_rfl)⟩, Gm.Spec.of_natl _ _ _ _⟩
  intro ds outs h
  unfold q18 at h
  split at h
  · simp only [Option.some.injEq, Prod.mk.injEq] at h; obtain ⟨hg, h⟩ := h; cases h; exact f18_spec _ _ hg
  · cases h
/-! ### loop.example/g00465/laws.withinTexts -/
noncomputable def f21c : Code := (Try.f21.body).getD .skip
def f21k : Nat → Kp := kat [⟨[0, 1], [], [], []⟩, ⟨[0, 1, 5], [], [], []⟩, ⟨[0, 1, 5, 9], [], [], []⟩, ⟨[0, 1, 5], [], [], []⟩, ⟨[0, 1, 5, 17], [], [], []⟩, ⟨[4], [], [], []⟩, ⟨[4], [], [], []⟩]
noncomputable def f21e : Env := tab.env []
noncomputable def f21L0 {R : Type} (n : Nat) (x0 : Option R) (x1 : Int → Bool → Option R) (vs0 : List ByteArray) (vs1 : ByteArray) : Nat → Int → Option R
  | 0, _ => none
  | m + 1, vs5 =>
    (cond (decide (vs5 < (vs0.length : Int)))
      (cond ((decide ((0 : Int) ≤ vs5)) && (decide (vs5 < (vs0.length : Int))))
        (cond (sEq (atI (t := .str) vs0 (Int.toNat vs5)) vs1)
          (x0)
          (f21L0 n x0 x1 vs0 vs1 m (IntKind.wrap .i64 (vs5 + (1 : Int)))))
        none)
      (x1 vs5 (decide (vs5 < (vs0.length : Int)))))
theorem f21L0_b {R : Type} (n : Nat) (k' : Ex → St → Option R) (vs0 : List ByteArray) (vs1 : ByteArray) (vs5 : Int) : ev f21e f21k n (cAt [1,0,1,0,0] f21c) ⟨[(0, .c (.one (.ro .str vs0))), (1, .c (.one (.v (.string vs1)))), (5, .c (.one (.v (.int .i64 vs5))))], [], []⟩ k' =
    (cond (decide (vs5 < (vs0.length : Int)))
    (cond ((decide ((0 : Int) ≤ vs5)) && (decide (vs5 < (vs0.length : Int))))
      (cond (sEq (atI (t := .str) vs0 (Int.toNat vs5)) vs1)
        (k' .ret ⟨[(4, .c (.one (.v (.bool true))))], [], []⟩)
        (k' .normal ⟨[(0, .c (.one (.ro .str vs0))), (1, .c (.one (.v (.string vs1)))), (5, .c (.one (.v (.int .i64 (IntKind.wrap .i64 (vs5 + (1 : Int)))))))], [], []⟩))
      none)
    (k' (.exit 0) ⟨[(0, .c (.one (.ro .str vs0))), (1, .c (.one (.v (.string vs1)))), (5, .c (.one (.v (.int .i64 vs5)))), (9, .c (.one (.v (.bool (decide (vs5 < (vs0.length : Int)))))))], [], []⟩)) := by kernel_rfl
theorem f21L0_eq {R : Type} (n : Nat) (k' : Ex → St → Option R) (vs0 : List ByteArray) (vs1 : ByteArray) : ∀ (m : Nat) (vs5 : Int), iter (fun st k => ev f21e f21k n (cAt [1,0,1,0,0] f21c) st k) m ⟨[(0, .c (.one (.ro .str vs0))), (1, .c (.one (.v (.string vs1)))), (5, .c (.one (.v (.int .i64 vs5))))], [], []⟩ k' = f21L0 n (k' .ret ⟨[(4, .c (.one (.v (.bool true))))], [], []⟩) (fun (xvs5 : Int) (xvs9 : Bool) => k' (.exit 0) ⟨[(0, .c (.one (.ro .str vs0))), (1, .c (.one (.v (.string vs1)))), (5, .c (.one (.v (.int .i64 xvs5)))), (9, .c (.one (.v (.bool xvs9))))], [], []⟩) vs0 vs1 m vs5 := by
  intro m; induction m with
  | zero => intros; rfl
  | succ m ih =>
    intro vs5
    simp only [iter]
    rw [f21L0_b]
    simp only [ih, f21L0]

noncomputable def f21K0 {R : Type} (n : Nat) (k' : Ex → St → Option R) : Ex → St → Option R := (blockK 0 (seqK f21e f21k n (cAt [1,1] f21c) k'))
theorem f21K0_x0 {R : Type} (n : Nat) (k : List Dt → Option R) (a0 : List ByteArray) (a1 : ByteArray)  : f21K0 n (exitK f21e [.ro, .ro] [false] true [.tmp 4] [4] [.d (.sl .str) a0, .d .str a1] k) .ret ⟨[(4, .c (.one (.v (.bool true))))], [], []⟩ =
    (k [.d .bool true]) := by kernel_rfl
theorem f21K0_x1 {R : Type} (n : Nat) (k : List Dt → Option R) (a0 : List ByteArray) (a1 : ByteArray) (vs0 : List ByteArray) (vs1 : ByteArray) (xvs5 : Int) (xvs9 : Bool) : f21K0 n (exitK f21e [.ro, .ro] [false] true [.tmp 4] [4] [.d (.sl .str) a0, .d .str a1] k) (.exit 0) ⟨[(0, .c (.one (.ro .str vs0))), (1, .c (.one (.v (.string vs1)))), (5, .c (.one (.v (.int .i64 xvs5)))), (9, .c (.one (.v (.bool xvs9))))], [], []⟩ =
    (k [.d .bool false]) := by kernel_rfl

theorem f21_run {R : Type} (n : Nat) (k : List Dt → Option R) (a0 : List ByteArray) (a1 : ByteArray) : evFn f21e f21k n f21c [.ro, .ro] [false] true [.tmp 4] [4] [.d (.sl .str) a0, .d .str a1] k =
    (f21L0 n (k [.d .bool true]) (fun (xvs5 : Int) (xvs9 : Bool) =>
    (k [.d .bool false])) a0 a1 n (0 : Int)) := by
  refine Eq.trans (b := (iter (fun st k => ev f21e f21k n (cAt [1,0,1,0,0] f21c) st k) n ⟨[(0, .c (.one (.ro .str a0))), (1, .c (.one (.v (.string a1)))), (5, .c (.one (.v (.int .i64 (0 : Int)))))], [], []⟩ (f21K0 n (exitK f21e [.ro, .ro] [false] true [.tmp 4] [4] [.d (.sl .str) a0, .d .str a1] k)))) (by kernel_rfl) ?_
  simp only [f21L0_eq, f21K0_x0, f21K0_x1]
theorem f21_spec (a0 : List ByteArray) (a1 : ByteArray) (hg : gLenW a0 = true) : ∃ keep rounds, ∀ {R : Type} (k : List Dt → Option R), evFn f21e keep rounds f21c [.ro, .ro] [false] true [.tmp 4] [4] [.d (.sl .str) a0, .d .str a1] k = k [.d .bool (isIn a0 a1)] := by
  have hl := gLenW_le hg
  refine ⟨f21k, a0.length + 1, fun k => ?_⟩
  rw [f21_run]
  refine Eq.trans (loop_find (n := a0.length) (F := fun m i => f21L0 (a0.length + 1) _ _ a0 a1 m i) (p := fun j => sEq (atI (t := .str) a0 j) a1) (hit := fun i => k [.d .bool true]) (miss := k [.d .bool false])
    (fun m j hj => ?_) (fun m => by simp only [f21L0, idxE, cond_false]) a0.length 0 (a0.length + 1) (by omega) (by omega)) ?_
  · obtain ⟨h1, h0, hw, ht⟩ := idx hj (by omega)
    simp only [f21L0, h1, h0, hw, ht, Bool.and_self, cond_true]
  · show _ = k [.d .bool (isIn a0 a1)]
    unfold isIn
    rw [← firstN_any (t := .str)]
    cases firstN (fun j => sEq (atI (t := .str) a0 j) a1) 0 a0.length <;> rfl

noncomputable def q21 : List Dt → Option (Bool × List Dt)
  | [.d (.sl .str) a0, .d .str a1] => some (((fun (x : List ByteArray) (_ : ByteArray) => gLenW x) a0 a1), [.d .bool (isIn a0 a1)])
  | _ => none
noncomputable def s21 : Gm.Spec := Gm.Spec.of [.ro, .ro] [false] true q21
theorem good21 : Gm.Good Try.prog (21, s21) := by
  have hl : ∀ x ∈ ([] : List (Nat × Gm.Spec)), Gm.Good Try.prog x := fun _ h => by cases h
  refine ⟨⟨spec_ok (tab_ok.env hl) (tab.natl hl) Try.func21 (by kernel_rfl : Try.f21.body = some f21c) [4] (by kernel_rfl) ?_, _, Try.func21, by kernel_rfl, of_decide_eq_true (by kernel_rfl)⟩, Gm.Spec.of_natl _ _ _ _⟩
  intro ds outs h
  unfold q21 at h
  split at h
  · simp only [Option.some.injEq, Prod.mk.injEq] at h; obtain ⟨hg, h⟩ := h; cases h; exact f21_spec _ _ hg
  · cases h
/-! ### loop.example/g00465/laws.without -/
noncomputable def f22c : Code := (Try.f22.body).getD .skip
def f22k : Nat → Kp := kat [⟨[0, 1], [], [], []⟩, ⟨[0, 1, 5], [], [], []⟩, ⟨[0, 1, 5, 6], [], [], []⟩, ⟨[0, 1, 5, 6, 11], [], [], []⟩, ⟨[0, 1, 5, 6], [], [], []⟩, ⟨[0, 1, 5, 6, 19], [], [], []⟩, ⟨[0, 1, 5, 6], [], [], []⟩, ⟨[4], [], [], []⟩]
noncomputable def f22e : Env := tab.env []
noncomputable def f22L0 {R : Type} (n : Nat) (x0 : Int → Bool → (List ByteArray) → Option R) (vs0 : List ByteArray) (vs1 : ByteArray) : Nat → Int → (List ByteArray) → Option R
  | 0, _, _ => none
  | m + 1, vs6, vr448 =>
    (cond (decide (vs6 < (vs0.length : Int)))
      (cond ((decide ((0 : Int) ≤ vs6)) && (decide (vs6 < (vs0.length : Int))))
        (cond (!(sEq (atI (t := .str) vs0 (Int.toNat vs6)) vs1))
          (cond ((decide ((0 : Int) ≤ vs6)) && (decide (vs6 < (vs0.length : Int))))
            (cond (Nat.ble (vr448.length + 1) LIM)
              (f22L0 n x0 vs0 vs1 m (IntKind.wrap .i64 (vs6 + (1 : Int))) (vr448 ++ ([(atI (t := .str) vs0 (Int.toNat vs6))] : List ByteArray)))
              none)
            none)
          (f22L0 n x0 vs0 vs1 m (IntKind.wrap .i64 (vs6 + (1 : Int))) vr448))
        none)
      (x0 vs6 (decide (vs6 < (vs0.length : Int))) vr448))
theorem f22L0_b {R : Type} (n : Nat) (k' : Ex → St → Option R) (vs0 : List ByteArray) (vs1 : ByteArray) (vs6 : Int) (vr448 : List ByteArray) : ev f22e f22k n (cAt [1,1,0,1,0,0] f22c) ⟨[(0, .c (.one (.ro .str vs0))), (1, .c (.one (.v (.string vs1)))), (5, .c (.one (.h 448 0 0 []))), (6, .c (.one (.v (.int .i64 vs6))))], [], [(448, .live ⟨.str, .deep, 0, [], vr448⟩)]⟩ k' =
    (cond (decide (vs6 < (vs0.length : Int)))
    (cond ((decide ((0 : Int) ≤ vs6)) && (decide (vs6 < (vs0.length : Int))))
      (cond (!(sEq (atI (t := .str) vs0 (Int.toNat vs6)) vs1))
        (cond ((decide ((0 : Int) ≤ vs6)) && (decide (vs6 < (vs0.length : Int))))
          (cond (Nat.ble (vr448.length + 1) LIM)
            (k' .normal ⟨[(0, .c (.one (.ro .str vs0))), (1, .c (.one (.v (.string vs1)))), (5, .c (.one (.h 448 0 0 []))), (6, .c (.one (.v (.int .i64 (IntKind.wrap .i64 (vs6 + (1 : Int)))))))], [], [(448, .live ⟨.str, .deep, 0, [], (vr448 ++ ([(atI (t := .str) vs0 (Int.toNat vs6))] : List ByteArray))⟩)]⟩)
            none)
          none)
        (k' .normal ⟨[(0, .c (.one (.ro .str vs0))), (1, .c (.one (.v (.string vs1)))), (5, .c (.one (.h 448 0 0 []))), (6, .c (.one (.v (.int .i64 (IntKind.wrap .i64 (vs6 + (1 : Int)))))))], [], [(448, .live ⟨.str, .deep, 0, [], vr448⟩)]⟩))
      none)
    (k' (.exit 0) ⟨[(0, .c (.one (.ro .str vs0))), (1, .c (.one (.v (.string vs1)))), (5, .c (.one (.h 448 0 0 []))), (6, .c (.one (.v (.int .i64 vs6)))), (11, .c (.one (.v (.bool (decide (vs6 < (vs0.length : Int)))))))], [], [(448, .live ⟨.str, .deep, 0, [], vr448⟩)]⟩)) := by kernel_rfl
theorem f22L0_eq {R : Type} (n : Nat) (k' : Ex → St → Option R) (vs0 : List ByteArray) (vs1 : ByteArray) : ∀ (m : Nat) (vs6 : Int) (vr448 : List ByteArray), iter (fun st k => ev f22e f22k n (cAt [1,1,0,1,0,0] f22c) st k) m ⟨[(0, .c (.one (.ro .str vs0))), (1, .c (.one (.v (.string vs1)))), (5, .c (.one (.h 448 0 0 []))), (6, .c (.one (.v (.int .i64 vs6))))], [], [(448, .live ⟨.str, .deep, 0, [], vr448⟩)]⟩ k' = f22L0 n (fun (xvs6 : Int) (xvs11 : Bool) (xvr448 : List ByteArray) => k' (.exit 0) ⟨[(0, .c (.one (.ro .str vs0))), (1, .c (.one (.v (.string vs1)))), (5, .c (.one (.h 448 0 0 []))), (6, .c (.one (.v (.int .i64 xvs6)))), (11, .c (.one (.v (.bool xvs11))))], [], [(448, .live ⟨.str, .deep, 0, [], xvr448⟩)]⟩) vs0 vs1 m vs6 vr448 := by
  intro m; induction m with
  | zero => intros; rfl
  | succ m ih =>
    intro vs6 vr448
    simp only [iter]
    rw [f22L0_b]
    simp only [ih, f22L0]

noncomputable def f22K0 {R : Type} (n : Nat) (k' : Ex → St → Option R) : Ex → St → Option R := (blockK 0 (seqK f22e f22k n (cAt [1,1,1] f22c) k'))
theorem f22K0_x0 {R : Type} (n : Nat) (k : List Dt → Option R) (a0 : List ByteArray) (a1 : ByteArray) (vs0 : List ByteArray) (vs1 : ByteArray) (xvs6 : Int) (xvs11 : Bool) (xvr448 : List ByteArray) : f22K0 n (exitK f22e [.ro, .ro] [false] true [.tmp 4] [22] [.d (.sl .str) a0, .d .str a1] k) (.exit 0) ⟨[(0, .c (.one (.ro .str vs0))), (1, .c (.one (.v (.string vs1)))), (5, .c (.one (.h 448 0 0 []))), (6, .c (.one (.v (.int .i64 xvs6)))), (11, .c (.one (.v (.bool xvs11))))], [], [(448, .live ⟨.str, .deep, 0, [], xvr448⟩)]⟩ =
    (k [.d (.sl .str) xvr448]) := by kernel_rfl

theorem f22_run {R : Type} (n : Nat) (k : List Dt → Option R) (a0 : List ByteArray) (a1 : ByteArray) : evFn f22e f22k n f22c [.ro, .ro] [false] true [.tmp 4] [22] [.d (.sl .str) a0, .d .str a1] k =
    (f22L0 n (fun (xvs6 : Int) (xvs11 : Bool) (xvr448 : List ByteArray) =>
    (k [.d (.sl .str) xvr448])) a0 a1 n (0 : Int) ([] : List ByteArray)) := by
  refine Eq.trans (b := (iter (fun st k => ev f22e f22k n (cAt [1,1,0,1,0,0] f22c) st k) n ⟨[(0, .c (.one (.ro .str a0))), (1, .c (.one (.v (.string a1)))), (5, .c (.one (.h 448 0 0 []))), (6, .c (.one (.v (.int .i64 (0 : Int)))))], [], [(448, .live ⟨.str, .deep, 0, [], ([] : List ByteArray)⟩)]⟩ (f22K0 n (exitK f22e [.ro, .ro] [false] true [.tmp 4] [22] [.d (.sl .str) a0, .d .str a1] k)))) (by kernel_rfl) ?_
  simp only [f22L0_eq, f22K0_x0]
theorem f22_spec (a0 : List ByteArray) (a1 : ByteArray) (hg : smL smStr a0 = true) : ∃ keep rounds, ∀ {R : Type} (k : List Dt → Option R), evFn f22e keep rounds f22c [.ro, .ro] [false] true [.tmp 4] [22] [.d (.sl .str) a0, .d .str a1] k = k [.d (.sl .str) (butName a0 a1)] := by
  have hl := smL_len hg
  refine ⟨f22k, a0.length + 1, fun {R} k => ?_⟩
  rw [f22_run]
  refine Eq.trans (loop_acc (xs := a0) (F := fun m j out => f22L0 (a0.length + 1) _ a0 a1 m (j : Int) out) (f := fun out x => cond (!(strIs x a1)) (out ++ [x]) out) (good := fun out => k [.d (.sl .str) out]) (fun j out => out.length ≤ j)
    (fun j out x hx hi => by cases strIs x a1 <;> simp <;> omega) (fun m j out x hx hi => ?_) (fun m out hi => by simp only [f22L0, idxE, cond_false]) a0.length 0 (a0.length + 1) [] (by omega) (by omega) (by simp)) ?_
  · obtain ⟨h1, h0, hw, ht⟩ := idx (lt_of_get hx) (by omega)
    have hj := lt_of_get hx
    have hlim : Nat.ble (out.length + 1) LIM = true := Nat.ble_eq_true_of_le (by have : (LIM : Nat) = 4294967296 := rfl; omega)
    simp only [f22L0, h1, h0, hw, ht, atI_of (t := .str) hx, Bool.and_self, cond_true, hlim]
    show cond (!(sEq x a1)) _ _ = _
    unfold strIs
    cases sEq x a1 <;> rfl
  · rw [List.drop_zero, foldl_filter, List.nil_append]; rfl

noncomputable def q22 : List Dt → Option (Bool × List Dt)
  | [.d (.sl .str) a0, .d .str a1] => some (((fun (x : List ByteArray) (_ : ByteArray) => smL smStr x) a0 a1), [.d (.sl .str) (butName a0 a1)])
  | _ => none
noncomputable def s22 : Gm.Spec := Gm.Spec.of [.ro, .ro] [false] true q22
theorem good22 : Gm.Good Try.prog (22, s22) := by
  have hl : ∀ x ∈ ([] : List (Nat × Gm.Spec)), Gm.Good Try.prog x := fun _ h => by cases h
  refine ⟨⟨spec_ok (tab_ok.env hl) (tab.natl hl) Try.func22 (by kernel_rfl : Try.f22.body = some f22c) [22] (by kernel_rfl) ?_, _, Try.func22, by kernel_rfl, of_decide_eq_true (by kernel_rfl)⟩, Gm.Spec.of_natl _ _ _ _⟩
  intro ds outs h
  unfold q22 at h
  split at h
  · simp only [Option.some.injEq, Prod.mk.injEq] at h; obtain ⟨hg, h⟩ := h; cases h; exact f22_spec _ _ hg
  · cases h
end Go.Proofs.Ytmeeoilfnahihaa

/- x -/
namespace Go.Proofs.Ytmeeoilfnahihaa
open Go Go.Gm
/-! ### loop.example/g00465/laws.FnOneAtATime -/
noncomputable def f5c : Code := (Try.f5.body).getD .skip
def f5k : Nat → Kp := kat [⟨[0], [], [], []⟩, ⟨[0, 22], [], [], []⟩, ⟨[2], [], [], []⟩, ⟨[0, 3], [], [], []⟩, ⟨[0, 3, 4], [], [], []⟩, ⟨[0, 3, 4, 5], [], [], []⟩, ⟨[0, 3, 4, 5, 6], [], [], []⟩, ⟨[0, 3, 4, 5, 6, 7], [⟨true, false, 3, 0, .str⟩, ⟨true, false, 3, 1, .str⟩, ⟨true, false, 3, 2, .str⟩, ⟨true, false, 3, 3, .fail⟩], [], []⟩, ⟨[0, 3, 4, 5, 6, 7, 28], [], [], []⟩, ⟨[0, 3, 4, 5, 6, 7], [], [], [(4160, 192), (4161, 193), (4162, 194), (4163, 195), (6400, 1536), (5312, 192), (5313, 193), (5314, 194), (5315, 195), (3648, 1600), (2944, 192), (2945, 193), (2946, 194), (2947, 195)]⟩, ⟨[0, 3, 4, 5, 6, 7, 8], [], [], []⟩, ⟨[0, 3, 4, 5, 6, 7, 8, 42], [], [], []⟩, ⟨[0, 3, 4, 5, 6, 7, 8, 14, 15], [], [], []⟩, ⟨[0, 3, 4, 5, 6, 7, 8, 14, 15, 53], [], [], []⟩, ⟨[2], [], [], []⟩, ⟨[0, 3, 4, 5, 6, 7, 8, 14, 54], [], [], []⟩, ⟨[0, 3, 4, 5, 6, 7, 14], [], [], []⟩, ⟨[0, 3, 4, 5, 6, 7], [], [], []⟩, ⟨[0, 3, 4, 5, 6, 7, 8, 42, 59], [], [], []⟩, ⟨[0, 3, 4, 5, 6, 7, 8, 42, 59], [], [], []⟩, ⟨[0, 3, 4, 5, 6, 7, 8, 9, 10], [], [], []⟩, ⟨[0, 3, 4, 5, 6, 7, 8, 9, 69], [], [], []⟩, ⟨[2], [], [], []⟩, ⟨[0, 3, 4, 5, 6, 7, 8], [], [], []⟩, ⟨[0, 3, 4, 5, 6, 7, 8, 74], [], [], []⟩, ⟨[0, 3, 4, 5, 6, 7], [], [], []⟩, ⟨[0, 3, 4, 5, 6, 7, 8, 79], [], [], []⟩, ⟨[0, 3, 4, 5, 6, 7, 11, 12, 13], [], [], []⟩, ⟨[0, 3, 4, 5, 6, 7, 11, 12, 13, 92], [], [], []⟩, ⟨[2], [], [], []⟩, ⟨[0, 3, 4, 5, 6, 7, 11, 12, 93], [], [], []⟩, ⟨[0, 3, 4, 5, 6, 7, 11, 12], [], [], []⟩, ⟨[0, 3, 4, 5, 6, 7, 11], [], [], []⟩, ⟨[0, 3, 4, 5, 6, 7], [], [], []⟩, ⟨[3, 4, 6, 16], [], [], []⟩, ⟨[3, 4, 6, 16, 103], [], [], []⟩, ⟨[3, 4, 6, 16], [], [], [(8192, 1536), (7744, 192), (7745, 193), (7746, 194), (7747, 195)]⟩, ⟨[3, 4, 6, 16, 17], [], [], []⟩, ⟨[3, 4, 6, 16, 17, 107], [], [], []⟩, ⟨[3, 4, 6, 16, 17], [], [], [(7424, 192), (7425, 193), (7426, 194), (7427, 195)]⟩, ⟨[3, 4, 6, 16, 17], [], [], []⟩, ⟨[3, 4, 6, 16, 18, 19, 20], [], [], []⟩, ⟨[3, 4, 6, 16, 18, 19, 125], [], [], []⟩, ⟨[3, 4, 6, 16, 18], [], [], []⟩, ⟨[3, 4, 6, 16], [], [], []⟩, ⟨[2], [], [], []⟩]
noncomputable def f5e : Env := tab.env [(16, s16), (17, s17), (18, s18), (19, s19), (20, s20), (21, s21), (22, s22), (23, s23), (24, s24)]
noncomputable def f5L0 {R : Type} (n : Nat) (x0 : Option R) (x1 : Int → Bool → (List ByteArray) → (List ByteArray) → (List ByteArray) → (List FailT) → (List ByteArray) → (List ByteArray) → Option R) (vs0 : List Int) (vr1664 : List ByteArray) : Nat → Int → (List ByteArray) → (List ByteArray) → (List ByteArray) → (List FailT) → (List ByteArray) → (List ByteArray) → Option R
  | 0, _, _, _, _, _, _, _ => none
  | m + 1, vs7, vr192, vr193, vr194, vr195, vr1536, vr1600 =>
    (cond (decide (vs7 < (60 : Int)))
      (cond ((fun (_ : List Int) (i : Int) => decide ((0 : Int) ≤ i)) vs0 vs7)
        (cond ((decide ((0 : Int) ≤ (Int.tmod (IntKind.wrap .i64 (Int.tdiv (atC vs0 vs7) (4 : Int))) (4 : Int)))) && (decide ((Int.tmod (IntKind.wrap .i64 (Int.tdiv (atC vs0 vs7) (4 : Int))) (4 : Int)) < (vr1664.length : Int))))
          (cond ((fun (_ : List Int) (i : Int) => decide ((0 : Int) ≤ i)) vs0 vs7)
            (cond ((Int.tmod (atC vs0 vs7) (4 : Int)) == (0 : Int))
              (cond ((Int.tmod (atC vs0 vs7) (4 : Int)) == (0 : Int))
                (cond (gAddW (⟨vr192, vr193, vr194, vr195⟩ : WorkT) (atI (t := .str) vr1664 (Int.toNat (Int.tmod (IntKind.wrap .i64 (Int.tdiv (atC vs0 vs7) (4 : Int))) (4 : Int)))))
                  (cond (!((workAdd (⟨vr192, vr193, vr194, vr195⟩ : WorkT) (atI (t := .str) vr1664 (Int.toNat (Int.tmod (IntKind.wrap .i64 (Int.tdiv (atC vs0 vs7) (4 : Int))) (4 : Int))))).2))
                    (x0)
                    (cond ((fun (x : List ByteArray) (_ : ByteArray) => gLenW x) vr1536 (atI (t := .str) vr1664 (Int.toNat (Int.tmod (IntKind.wrap .i64 (Int.tdiv (atC vs0 vs7) (4 : Int))) (4 : Int)))))
                      (cond (!(isIn vr1536 (atI (t := .str) vr1664 (Int.toNat (Int.tmod (IntKind.wrap .i64 (Int.tdiv (atC vs0 vs7) (4 : Int))) (4 : Int))))))
                        (cond (Nat.ble (vr1536.length + 1) LIM)
                          (f5L0 n x0 x1 vs0 vr1664 m (IntKind.wrap .i64 (vs7 + (1 : Int))) (WorkT.list ((workAdd (⟨vr192, vr193, vr194, vr195⟩ : WorkT) (atI (t := .str) vr1664 (Int.toNat (Int.tmod (IntKind.wrap .i64 (Int.tdiv (atC vs0 vs7) (4 : Int))) (4 : Int))))).1)) (WorkT.busy ((workAdd (⟨vr192, vr193, vr194, vr195⟩ : WorkT) (atI (t := .str) vr1664 (Int.toNat (Int.tmod (IntKind.wrap .i64 (Int.tdiv (atC vs0 vs7) (4 : Int))) (4 : Int))))).1)) (WorkT.again ((workAdd (⟨vr192, vr193, vr194, vr195⟩ : WorkT) (atI (t := .str) vr1664 (Int.toNat (Int.tmod (IntKind.wrap .i64 (Int.tdiv (atC vs0 vs7) (4 : Int))) (4 : Int))))).1)) (WorkT.fails ((workAdd (⟨vr192, vr193, vr194, vr195⟩ : WorkT) (atI (t := .str) vr1664 (Int.toNat (Int.tmod (IntKind.wrap .i64 (Int.tdiv (atC vs0 vs7) (4 : Int))) (4 : Int))))).1)) (vr1536 ++ ([(atI (t := .str) vr1664 (Int.toNat (Int.tmod (IntKind.wrap .i64 (Int.tdiv (atC vs0 vs7) (4 : Int))) (4 : Int))))] : List ByteArray)) vr1600)
                          none)
                        (f5L0 n x0 x1 vs0 vr1664 m (IntKind.wrap .i64 (vs7 + (1 : Int))) (WorkT.list ((workAdd (⟨vr192, vr193, vr194, vr195⟩ : WorkT) (atI (t := .str) vr1664 (Int.toNat (Int.tmod (IntKind.wrap .i64 (Int.tdiv (atC vs0 vs7) (4 : Int))) (4 : Int))))).1)) (WorkT.busy ((workAdd (⟨vr192, vr193, vr194, vr195⟩ : WorkT) (atI (t := .str) vr1664 (Int.toNat (Int.tmod (IntKind.wrap .i64 (Int.tdiv (atC vs0 vs7) (4 : Int))) (4 : Int))))).1)) (WorkT.again ((workAdd (⟨vr192, vr193, vr194, vr195⟩ : WorkT) (atI (t := .str) vr1664 (Int.toNat (Int.tmod (IntKind.wrap .i64 (Int.tdiv (atC vs0 vs7) (4 : Int))) (4 : Int))))).1)) (WorkT.fails ((workAdd (⟨vr192, vr193, vr194, vr195⟩ : WorkT) (atI (t := .str) vr1664 (Int.toNat (Int.tmod (IntKind.wrap .i64 (Int.tdiv (atC vs0 vs7) (4 : Int))) (4 : Int))))).1)) vr1536 vr1600))
                      none))
                  none)
                (cond ((Int.tmod (atC vs0 vs7) (4 : Int)) == (2 : Int))
                  (cond (sm_work (⟨vr192, vr193, vr194, vr195⟩ : WorkT))
                    (cond ((workTake (⟨vr192, vr193, vr194, vr195⟩ : WorkT)).2.2)
                      (cond ((fun (x : List ByteArray) (_ : ByteArray) => gLenW x) vr1600 ((workTake (⟨vr192, vr193, vr194, vr195⟩ : WorkT)).2.1))
                        (cond (isIn vr1600 ((workTake (⟨vr192, vr193, vr194, vr195⟩ : WorkT)).2.1))
                          (x0)
                          (cond ((workTake (⟨vr192, vr193, vr194, vr195⟩ : WorkT)).2.2)
                            (cond (Nat.ble (vr1600.length + 1) LIM)
                              (cond ((fun (x : List ByteArray) (_ : ByteArray) => smL smStr x) vr1536 ((workTake (⟨vr192, vr193, vr194, vr195⟩ : WorkT)).2.1))
                                (f5L0 n x0 x1 vs0 vr1664 m (IntKind.wrap .i64 (vs7 + (1 : Int))) (WorkT.list ((workTake (⟨vr192, vr193, vr194, vr195⟩ : WorkT)).1)) (WorkT.busy ((workTake (⟨vr192, vr193, vr194, vr195⟩ : WorkT)).1)) (WorkT.again ((workTake (⟨vr192, vr193, vr194, vr195⟩ : WorkT)).1)) (WorkT.fails ((workTake (⟨vr192, vr193, vr194, vr195⟩ : WorkT)).1)) (butName vr1536 ((workTake (⟨vr192, vr193, vr194, vr195⟩ : WorkT)).2.1)) (vr1600 ++ ([((workTake (⟨vr192, vr193, vr194, vr195⟩ : WorkT)).2.1)] : List ByteArray)))
                                none)
                              none)
                            (f5L0 n x0 x1 vs0 vr1664 m (IntKind.wrap .i64 (vs7 + (1 : Int))) (WorkT.list ((workTake (⟨vr192, vr193, vr194, vr195⟩ : WorkT)).1)) (WorkT.busy ((workTake (⟨vr192, vr193, vr194, vr195⟩ : WorkT)).1)) (WorkT.again ((workTake (⟨vr192, vr193, vr194, vr195⟩ : WorkT)).1)) (WorkT.fails ((workTake (⟨vr192, vr193, vr194, vr195⟩ : WorkT)).1)) vr1536 vr1600)))
                        none)
                      (cond ((workTake (⟨vr192, vr193, vr194, vr195⟩ : WorkT)).2.2)
                        (cond (Nat.ble (vr1600.length + 1) LIM)
                          (cond ((fun (x : List ByteArray) (_ : ByteArray) => smL smStr x) vr1536 ((workTake (⟨vr192, vr193, vr194, vr195⟩ : WorkT)).2.1))
                            (f5L0 n x0 x1 vs0 vr1664 m (IntKind.wrap .i64 (vs7 + (1 : Int))) (WorkT.list ((workTake (⟨vr192, vr193, vr194, vr195⟩ : WorkT)).1)) (WorkT.busy ((workTake (⟨vr192, vr193, vr194, vr195⟩ : WorkT)).1)) (WorkT.again ((workTake (⟨vr192, vr193, vr194, vr195⟩ : WorkT)).1)) (WorkT.fails ((workTake (⟨vr192, vr193, vr194, vr195⟩ : WorkT)).1)) (butName vr1536 ((workTake (⟨vr192, vr193, vr194, vr195⟩ : WorkT)).2.1)) (vr1600 ++ ([((workTake (⟨vr192, vr193, vr194, vr195⟩ : WorkT)).2.1)] : List ByteArray)))
                            none)
                          none)
                        (f5L0 n x0 x1 vs0 vr1664 m (IntKind.wrap .i64 (vs7 + (1 : Int))) (WorkT.list ((workTake (⟨vr192, vr193, vr194, vr195⟩ : WorkT)).1)) (WorkT.busy ((workTake (⟨vr192, vr193, vr194, vr195⟩ : WorkT)).1)) (WorkT.again ((workTake (⟨vr192, vr193, vr194, vr195⟩ : WorkT)).1)) (WorkT.fails ((workTake (⟨vr192, vr193, vr194, vr195⟩ : WorkT)).1)) vr1536 vr1600)))
                    none)
                  (cond (gDoneW (⟨vr192, vr193, vr194, vr195⟩ : WorkT) (atI (t := .str) vr1664 (Int.toNat (Int.tmod (IntKind.wrap .i64 (Int.tdiv (atC vs0 vs7) (4 : Int))) (4 : Int)))) true)
                    (cond ((fun (x : List ByteArray) (_ : ByteArray) => gLenW x) vr1600 (atI (t := .str) vr1664 (Int.toNat (Int.tmod (IntKind.wrap .i64 (Int.tdiv (atC vs0 vs7) (4 : Int))) (4 : Int)))))
                      (cond (!(((workDone (⟨vr192, vr193, vr194, vr195⟩ : WorkT) (atI (t := .str) vr1664 (Int.toNat (Int.tmod (IntKind.wrap .i64 (Int.tdiv (atC vs0 vs7) (4 : Int))) (4 : Int)))) true).2) == (isIn vr1600 (atI (t := .str) vr1664 (Int.toNat (Int.tmod (IntKind.wrap .i64 (Int.tdiv (atC vs0 vs7) (4 : Int))) (4 : Int)))))))
                        (x0)
                        (cond ((workDone (⟨vr192, vr193, vr194, vr195⟩ : WorkT) (atI (t := .str) vr1664 (Int.toNat (Int.tmod (IntKind.wrap .i64 (Int.tdiv (atC vs0 vs7) (4 : Int))) (4 : Int)))) true).2)
                          (cond ((fun (x : List ByteArray) (_ : ByteArray) => smL smStr x) vr1600 (atI (t := .str) vr1664 (Int.toNat (Int.tmod (IntKind.wrap .i64 (Int.tdiv (atC vs0 vs7) (4 : Int))) (4 : Int)))))
                            (f5L0 n x0 x1 vs0 vr1664 m (IntKind.wrap .i64 (vs7 + (1 : Int))) (WorkT.list ((workDone (⟨vr192, vr193, vr194, vr195⟩ : WorkT) (atI (t := .str) vr1664 (Int.toNat (Int.tmod (IntKind.wrap .i64 (Int.tdiv (atC vs0 vs7) (4 : Int))) (4 : Int)))) true).1)) (WorkT.busy ((workDone (⟨vr192, vr193, vr194, vr195⟩ : WorkT) (atI (t := .str) vr1664 (Int.toNat (Int.tmod (IntKind.wrap .i64 (Int.tdiv (atC vs0 vs7) (4 : Int))) (4 : Int)))) true).1)) (WorkT.again ((workDone (⟨vr192, vr193, vr194, vr195⟩ : WorkT) (atI (t := .str) vr1664 (Int.toNat (Int.tmod (IntKind.wrap .i64 (Int.tdiv (atC vs0 vs7) (4 : Int))) (4 : Int)))) true).1)) (WorkT.fails ((workDone (⟨vr192, vr193, vr194, vr195⟩ : WorkT) (atI (t := .str) vr1664 (Int.toNat (Int.tmod (IntKind.wrap .i64 (Int.tdiv (atC vs0 vs7) (4 : Int))) (4 : Int)))) true).1)) vr1536 (butName vr1600 (atI (t := .str) vr1664 (Int.toNat (Int.tmod (IntKind.wrap .i64 (Int.tdiv (atC vs0 vs7) (4 : Int))) (4 : Int))))))
                            none)
                          (f5L0 n x0 x1 vs0 vr1664 m (IntKind.wrap .i64 (vs7 + (1 : Int))) (WorkT.list ((workDone (⟨vr192, vr193, vr194, vr195⟩ : WorkT) (atI (t := .str) vr1664 (Int.toNat (Int.tmod (IntKind.wrap .i64 (Int.tdiv (atC vs0 vs7) (4 : Int))) (4 : Int)))) true).1)) (WorkT.busy ((workDone (⟨vr192, vr193, vr194, vr195⟩ : WorkT) (atI (t := .str) vr1664 (Int.toNat (Int.tmod (IntKind.wrap .i64 (Int.tdiv (atC vs0 vs7) (4 : Int))) (4 : Int)))) true).1)) (WorkT.again ((workDone (⟨vr192, vr193, vr194, vr195⟩ : WorkT) (atI (t := .str) vr1664 (Int.toNat (Int.tmod (IntKind.wrap .i64 (Int.tdiv (atC vs0 vs7) (4 : Int))) (4 : Int)))) true).1)) (WorkT.fails ((workDone (⟨vr192, vr193, vr194, vr195⟩ : WorkT) (atI (t := .str) vr1664 (Int.toNat (Int.tmod (IntKind.wrap .i64 (Int.tdiv (atC vs0 vs7) (4 : Int))) (4 : Int)))) true).1)) vr1536 vr1600)))
                      none)
                    none)))
              (cond ((Int.tmod (atC vs0 vs7) (4 : Int)) == (1 : Int))
                (cond (gAddW (⟨vr192, vr193, vr194, vr195⟩ : WorkT) (atI (t := .str) vr1664 (Int.toNat (Int.tmod (IntKind.wrap .i64 (Int.tdiv (atC vs0 vs7) (4 : Int))) (4 : Int)))))
                  (cond (!((workAdd (⟨vr192, vr193, vr194, vr195⟩ : WorkT) (atI (t := .str) vr1664 (Int.toNat (Int.tmod (IntKind.wrap .i64 (Int.tdiv (atC vs0 vs7) (4 : Int))) (4 : Int))))).2))
                    (x0)
                    (cond ((fun (x : List ByteArray) (_ : ByteArray) => gLenW x) vr1536 (atI (t := .str) vr1664 (Int.toNat (Int.tmod (IntKind.wrap .i64 (Int.tdiv (atC vs0 vs7) (4 : Int))) (4 : Int)))))
                      (cond (!(isIn vr1536 (atI (t := .str) vr1664 (Int.toNat (Int.tmod (IntKind.wrap .i64 (Int.tdiv (atC vs0 vs7) (4 : Int))) (4 : Int))))))
                        (cond (Nat.ble (vr1536.length + 1) LIM)
                          (f5L0 n x0 x1 vs0 vr1664 m (IntKind.wrap .i64 (vs7 + (1 : Int))) (WorkT.list ((workAdd (⟨vr192, vr193, vr194, vr195⟩ : WorkT) (atI (t := .str) vr1664 (Int.toNat (Int.tmod (IntKind.wrap .i64 (Int.tdiv (atC vs0 vs7) (4 : Int))) (4 : Int))))).1)) (WorkT.busy ((workAdd (⟨vr192, vr193, vr194, vr195⟩ : WorkT) (atI (t := .str) vr1664 (Int.toNat (Int.tmod (IntKind.wrap .i64 (Int.tdiv (atC vs0 vs7) (4 : Int))) (4 : Int))))).1)) (WorkT.again ((workAdd (⟨vr192, vr193, vr194, vr195⟩ : WorkT) (atI (t := .str) vr1664 (Int.toNat (Int.tmod (IntKind.wrap .i64 (Int.tdiv (atC vs0 vs7) (4 : Int))) (4 : Int))))).1)) (WorkT.fails ((workAdd (⟨vr192, vr193, vr194, vr195⟩ : WorkT) (atI (t := .str) vr1664 (Int.toNat (Int.tmod (IntKind.wrap .i64 (Int.tdiv (atC vs0 vs7) (4 : Int))) (4 : Int))))).1)) (vr1536 ++ ([(atI (t := .str) vr1664 (Int.toNat (Int.tmod (IntKind.wrap .i64 (Int.tdiv (atC vs0 vs7) (4 : Int))) (4 : Int))))] : List ByteArray)) vr1600)
                          none)
                        (f5L0 n x0 x1 vs0 vr1664 m (IntKind.wrap .i64 (vs7 + (1 : Int))) (WorkT.list ((workAdd (⟨vr192, vr193, vr194, vr195⟩ : WorkT) (atI (t := .str) vr1664 (Int.toNat (Int.tmod (IntKind.wrap .i64 (Int.tdiv (atC vs0 vs7) (4 : Int))) (4 : Int))))).1)) (WorkT.busy ((workAdd (⟨vr192, vr193, vr194, vr195⟩ : WorkT) (atI (t := .str) vr1664 (Int.toNat (Int.tmod (IntKind.wrap .i64 (Int.tdiv (atC vs0 vs7) (4 : Int))) (4 : Int))))).1)) (WorkT.again ((workAdd (⟨vr192, vr193, vr194, vr195⟩ : WorkT) (atI (t := .str) vr1664 (Int.toNat (Int.tmod (IntKind.wrap .i64 (Int.tdiv (atC vs0 vs7) (4 : Int))) (4 : Int))))).1)) (WorkT.fails ((workAdd (⟨vr192, vr193, vr194, vr195⟩ : WorkT) (atI (t := .str) vr1664 (Int.toNat (Int.tmod (IntKind.wrap .i64 (Int.tdiv (atC vs0 vs7) (4 : Int))) (4 : Int))))).1)) vr1536 vr1600))
                      none))
                  none)
                (cond ((Int.tmod (atC vs0 vs7) (4 : Int)) == (2 : Int))
                  (cond (sm_work (⟨vr192, vr193, vr194, vr195⟩ : WorkT))
                    (cond ((workTake (⟨vr192, vr193, vr194, vr195⟩ : WorkT)).2.2)
                      (cond ((fun (x : List ByteArray) (_ : ByteArray) => gLenW x) vr1600 ((workTake (⟨vr192, vr193, vr194, vr195⟩ : WorkT)).2.1))
                        (cond (isIn vr1600 ((workTake (⟨vr192, vr193, vr194, vr195⟩ : WorkT)).2.1))
                          (x0)
                          (cond ((workTake (⟨vr192, vr193, vr194, vr195⟩ : WorkT)).2.2)
                            (cond (Nat.ble (vr1600.length + 1) LIM)
                              (cond ((fun (x : List ByteArray) (_ : ByteArray) => smL smStr x) vr1536 ((workTake (⟨vr192, vr193, vr194, vr195⟩ : WorkT)).2.1))
                                (f5L0 n x0 x1 vs0 vr1664 m (IntKind.wrap .i64 (vs7 + (1 : Int))) (WorkT.list ((workTake (⟨vr192, vr193, vr194, vr195⟩ : WorkT)).1)) (WorkT.busy ((workTake (⟨vr192, vr193, vr194, vr195⟩ : WorkT)).1)) (WorkT.again ((workTake (⟨vr192, vr193, vr194, vr195⟩ : WorkT)).1)) (WorkT.fails ((workTake (⟨vr192, vr193, vr194, vr195⟩ : WorkT)).1)) (butName vr1536 ((workTake (⟨vr192, vr193, vr194, vr195⟩ : WorkT)).2.1)) (vr1600 ++ ([((workTake (⟨vr192, vr193, vr194, vr195⟩ : WorkT)).2.1)] : List ByteArray)))
                                none)
                              none)
                            (f5L0 n x0 x1 vs0 vr1664 m (IntKind.wrap .i64 (vs7 + (1 : Int))) (WorkT.list ((workTake (⟨vr192, vr193, vr194, vr195⟩ : WorkT)).1)) (WorkT.busy ((workTake (⟨vr192, vr193, vr194, vr195⟩ : WorkT)).1)) (WorkT.again ((workTake (⟨vr192, vr193, vr194, vr195⟩ : WorkT)).1)) (WorkT.fails ((workTake (⟨vr192, vr193, vr194, vr195⟩ : WorkT)).1)) vr1536 vr1600)))
                        none)
                      (cond ((workTake (⟨vr192, vr193, vr194, vr195⟩ : WorkT)).2.2)
                        (cond (Nat.ble (vr1600.length + 1) LIM)
                          (cond ((fun (x : List ByteArray) (_ : ByteArray) => smL smStr x) vr1536 ((workTake (⟨vr192, vr193, vr194, vr195⟩ : WorkT)).2.1))
                            (f5L0 n x0 x1 vs0 vr1664 m (IntKind.wrap .i64 (vs7 + (1 : Int))) (WorkT.list ((workTake (⟨vr192, vr193, vr194, vr195⟩ : WorkT)).1)) (WorkT.busy ((workTake (⟨vr192, vr193, vr194, vr195⟩ : WorkT)).1)) (WorkT.again ((workTake (⟨vr192, vr193, vr194, vr195⟩ : WorkT)).1)) (WorkT.fails ((workTake (⟨vr192, vr193, vr194, vr195⟩ : WorkT)).1)) (butName vr1536 ((workTake (⟨vr192, vr193, vr194, vr195⟩ : WorkT)).2.1)) (vr1600 ++ ([((workTake (⟨vr192, vr193, vr194, vr195⟩ : WorkT)).2.1)] : List ByteArray)))
                            none)
                          none)
                        (f5L0 n x0 x1 vs0 vr1664 m (IntKind.wrap .i64 (vs7 + (1 : Int))) (WorkT.list ((workTake (⟨vr192, vr193, vr194, vr195⟩ : WorkT)).1)) (WorkT.busy ((workTake (⟨vr192, vr193, vr194, vr195⟩ : WorkT)).1)) (WorkT.again ((workTake (⟨vr192, vr193, vr194, vr195⟩ : WorkT)).1)) (WorkT.fails ((workTake (⟨vr192, vr193, vr194, vr195⟩ : WorkT)).1)) vr1536 vr1600)))
                    none)
                  (cond (gDoneW (⟨vr192, vr193, vr194, vr195⟩ : WorkT) (atI (t := .str) vr1664 (Int.toNat (Int.tmod (IntKind.wrap .i64 (Int.tdiv (atC vs0 vs7) (4 : Int))) (4 : Int)))) true)
                    (cond ((fun (x : List ByteArray) (_ : ByteArray) => gLenW x) vr1600 (atI (t := .str) vr1664 (Int.toNat (Int.tmod (IntKind.wrap .i64 (Int.tdiv (atC vs0 vs7) (4 : Int))) (4 : Int)))))
                      (cond (!(((workDone (⟨vr192, vr193, vr194, vr195⟩ : WorkT) (atI (t := .str) vr1664 (Int.toNat (Int.tmod (IntKind.wrap .i64 (Int.tdiv (atC vs0 vs7) (4 : Int))) (4 : Int)))) true).2) == (isIn vr1600 (atI (t := .str) vr1664 (Int.toNat (Int.tmod (IntKind.wrap .i64 (Int.tdiv (atC vs0 vs7) (4 : Int))) (4 : Int)))))))
                        (x0)
                        (cond ((workDone (⟨vr192, vr193, vr194, vr195⟩ : WorkT) (atI (t := .str) vr1664 (Int.toNat (Int.tmod (IntKind.wrap .i64 (Int.tdiv (atC vs0 vs7) (4 : Int))) (4 : Int)))) true).2)
                          (cond ((fun (x : List ByteArray) (_ : ByteArray) => smL smStr x) vr1600 (atI (t := .str) vr1664 (Int.toNat (Int.tmod (IntKind.wrap .i64 (Int.tdiv (atC vs0 vs7) (4 : Int))) (4 : Int)))))
                            (f5L0 n x0 x1 vs0 vr1664 m (IntKind.wrap .i64 (vs7 + (1 : Int))) (WorkT.list ((workDone (⟨vr192, vr193, vr194, vr195⟩ : WorkT) (atI (t := .str) vr1664 (Int.toNat (Int.tmod (IntKind.wrap .i64 (Int.tdiv (atC vs0 vs7) (4 : Int))) (4 : Int)))) true).1)) (WorkT.busy ((workDone (⟨vr192, vr193, vr194, vr195⟩ : WorkT) (atI (t := .str) vr1664 (Int.toNat (Int.tmod (IntKind.wrap .i64 (Int.tdiv (atC vs0 vs7) (4 : Int))) (4 : Int)))) true).1)) (WorkT.again ((workDone (⟨vr192, vr193, vr194, vr195⟩ : WorkT) (atI (t := .str) vr1664 (Int.toNat (Int.tmod (IntKind.wrap .i64 (Int.tdiv (atC vs0 vs7) (4 : Int))) (4 : Int)))) true).1)) (WorkT.fails ((workDone (⟨vr192, vr193, vr194, vr195⟩ : WorkT) (atI (t := .str) vr1664 (Int.toNat (Int.tmod (IntKind.wrap .i64 (Int.tdiv (atC vs0 vs7) (4 : Int))) (4 : Int)))) true).1)) vr1536 (butName vr1600 (atI (t := .str) vr1664 (Int.toNat (Int.tmod (IntKind.wrap .i64 (Int.tdiv (atC vs0 vs7) (4 : Int))) (4 : Int))))))
                            none)
                          (f5L0 n x0 x1 vs0 vr1664 m (IntKind.wrap .i64 (vs7 + (1 : Int))) (WorkT.list ((workDone (⟨vr192, vr193, vr194, vr195⟩ : WorkT) (atI (t := .str) vr1664 (Int.toNat (Int.tmod (IntKind.wrap .i64 (Int.tdiv (atC vs0 vs7) (4 : Int))) (4 : Int)))) true).1)) (WorkT.busy ((workDone (⟨vr192, vr193, vr194, vr195⟩ : WorkT) (atI (t := .str) vr1664 (Int.toNat (Int.tmod (IntKind.wrap .i64 (Int.tdiv (atC vs0 vs7) (4 : Int))) (4 : Int)))) true).1)) (WorkT.again ((workDone (⟨vr192, vr193, vr194, vr195⟩ : WorkT) (atI (t := .str) vr1664 (Int.toNat (Int.tmod (IntKind.wrap .i64 (Int.tdiv (atC vs0 vs7) (4 : Int))) (4 : Int)))) true).1)) (WorkT.fails ((workDone (⟨vr192, vr193, vr194, vr195⟩ : WorkT) (atI (t := .str) vr1664 (Int.toNat (Int.tmod (IntKind.wrap .i64 (Int.tdiv (atC vs0 vs7) (4 : Int))) (4 : Int)))) true).1)) vr1536 vr1600)))
                      none)
                    none))))
            none)
          none)
        none)
      (x1 vs7 (decide (vs7 < (60 : Int))) vr192 vr193 vr194 vr195 vr1536 vr1600))
theorem f5L0_b {R : Type} (n : Nat) (k' : Ex → St → Option R) (vs0 : List Int) (vs7 : Int) (vr192 : List ByteArray) (vr193 : List ByteArray) (vr194 : List ByteArray) (vr195 : List FailT) (vr1536 : List ByteArray) (vr1600 : List ByteArray) (vr1664 : List ByteArray) : ev f5e f5k n (cAt [1,1,1,1,1,1,0,1,0,0] f5c) ⟨[(0, .c (.one (.ro (.i .u8) vs0))), (3, .c (.one (.pt 3 0))), (4, .c (.one (.h 1536 0 0 []))), (5, .c (.one (.h 1600 0 0 []))), (6, .c (.one (.h 1664 0 0 []))), (7, .c (.one (.v (.int .i64 vs7))))], [(3, ⟨.work, [.h 192 0 0 [], .h 193 0 0 [], .h 194 0 0 [], .h 195 0 0 []]⟩)], [(192, .live ⟨.str, .deep, 0, [], vr192⟩), (193, .live ⟨.str, .deep, 0, [], vr193⟩), (194, .live ⟨.str, .deep, 0, [], vr194⟩), (195, .live ⟨.fail, .deep, 0, [], vr195⟩), (1536, .live ⟨.str, .deep, 0, [], vr1536⟩), (1600, .live ⟨.str, .deep, 0, [], vr1600⟩), (1664, .live ⟨.str, .deep, 0, [], vr1664⟩)]⟩ k' =
    (cond (decide (vs7 < (60 : Int)))
    (cond ((fun (_ : List Int) (i : Int) => decide ((0 : Int) ≤ i)) vs0 vs7)
      (cond ((decide ((0 : Int) ≤ (Int.tmod (IntKind.wrap .i64 (Int.tdiv (atC vs0 vs7) (4 : Int))) (4 : Int)))) && (decide ((Int.tmod (IntKind.wrap .i64 (Int.tdiv (atC vs0 vs7) (4 : Int))) (4 : Int)) < (vr1664.length : Int))))
        (cond ((fun (_ : List Int) (i : Int) => decide ((0 : Int) ≤ i)) vs0 vs7)
          (cond ((Int.tmod (atC vs0 vs7) (4 : Int)) == (0 : Int))
            (cond ((Int.tmod (atC vs0 vs7) (4 : Int)) == (0 : Int))
              (cond (gAddW (⟨vr192, vr193, vr194, vr195⟩ : WorkT) (atI (t := .str) vr1664 (Int.toNat (Int.tmod (IntKind.wrap .i64 (Int.tdiv (atC vs0 vs7) (4 : Int))) (4 : Int)))))
                (cond (!((workAdd (⟨vr192, vr193, vr194, vr195⟩ : WorkT) (atI (t := .str) vr1664 (Int.toNat (Int.tmod (IntKind.wrap .i64 (Int.tdiv (atC vs0 vs7) (4 : Int))) (4 : Int))))).2))
                  (k' .ret ⟨[(2, .c (.one (.v (.bool false))))], [], []⟩)
                  (cond ((fun (x : List ByteArray) (_ : ByteArray) => gLenW x) vr1536 (atI (t := .str) vr1664 (Int.toNat (Int.tmod (IntKind.wrap .i64 (Int.tdiv (atC vs0 vs7) (4 : Int))) (4 : Int)))))
                    (cond (!(isIn vr1536 (atI (t := .str) vr1664 (Int.toNat (Int.tmod (IntKind.wrap .i64 (Int.tdiv (atC vs0 vs7) (4 : Int))) (4 : Int))))))
                      (cond (Nat.ble (vr1536.length + 1) LIM)
                        (k' .normal ⟨[(0, .c (.one (.ro (.i .u8) vs0))), (3, .c (.one (.pt 3 0))), (4, .c (.one (.h 1536 0 0 []))), (5, .c (.one (.h 1600 0 0 []))), (6, .c (.one (.h 1664 0 0 []))), (7, .c (.one (.v (.int .i64 (IntKind.wrap .i64 (vs7 + (1 : Int)))))))], [(3, ⟨.work, [.h 192 0 0 [], .h 193 0 0 [], .h 194 0 0 [], .h 195 0 0 []]⟩)], [(192, .live ⟨.str, .deep, 0, [], (WorkT.list ((workAdd (⟨vr192, vr193, vr194, vr195⟩ : WorkT) (atI (t := .str) vr1664 (Int.toNat (Int.tmod (IntKind.wrap .i64 (Int.tdiv (atC vs0 vs7) (4 : Int))) (4 : Int))))).1))⟩), (193, .live ⟨.str, .deep, 0, [], (WorkT.busy ((workAdd (⟨vr192, vr193, vr194, vr195⟩ : WorkT) (atI (t := .str) vr1664 (Int.toNat (Int.tmod (IntKind.wrap .i64 (Int.tdiv (atC vs0 vs7) (4 : Int))) (4 : Int))))).1))⟩), (194, .live ⟨.str, .deep, 0, [], (WorkT.again ((workAdd (⟨vr192, vr193, vr194, vr195⟩ : WorkT) (atI (t := .str) vr1664 (Int.toNat (Int.tmod (IntKind.wrap .i64 (Int.tdiv (atC vs0 vs7) (4 : Int))) (4 : Int))))).1))⟩), (195, .live ⟨.fail, .deep, 0, [], (WorkT.fails ((workAdd (⟨vr192, vr193, vr194, vr195⟩ : WorkT) (atI (t := .str) vr1664 (Int.toNat (Int.tmod (IntKind.wrap .i64 (Int.tdiv (atC vs0 vs7) (4 : Int))) (4 : Int))))).1))⟩), (1536, .live ⟨.str, .deep, 0, [], (vr1536 ++ ([(atI (t := .str) vr1664 (Int.toNat (Int.tmod (IntKind.wrap .i64 (Int.tdiv (atC vs0 vs7) (4 : Int))) (4 : Int))))] : List ByteArray))⟩), (1600, .live ⟨.str, .deep, 0, [], vr1600⟩), (1664, .live ⟨.str, .deep, 0, [], vr1664⟩)]⟩)
                        none)
                      (k' .normal ⟨[(0, .c (.one (.ro (.i .u8) vs0))), (3, .c (.one (.pt 3 0))), (4, .c (.one (.h 1536 0 0 []))), (5, .c (.one (.h 1600 0 0 []))), (6, .c (.one (.h 1664 0 0 []))), (7, .c (.one (.v (.int .i64 (IntKind.wrap .i64 (vs7 + (1 : Int)))))))], [(3, ⟨.work, [.h 192 0 0 [], .h 193 0 0 [], .h 194 0 0 [], .h 195 0 0 []]⟩)], [(192, .live ⟨.str, .deep, 0, [], (WorkT.list ((workAdd (⟨vr192, vr193, vr194, vr195⟩ : WorkT) (atI (t := .str) vr1664 (Int.toNat (Int.tmod (IntKind.wrap .i64 (Int.tdiv (atC vs0 vs7) (4 : Int))) (4 : Int))))).1))⟩), (193, .live ⟨.str, .deep, 0, [], (WorkT.busy ((workAdd (⟨vr192, vr193, vr194, vr195⟩ : WorkT) (atI (t := .str) vr1664 (Int.toNat (Int.tmod (IntKind.wrap .i64 (Int.tdiv (atC vs0 vs7) (4 : Int))) (4 : Int))))).1))⟩), (194, .live ⟨.str, .deep, 0, [], (WorkT.again ((workAdd (⟨vr192, vr193, vr194, vr195⟩ : WorkT) (atI (t := .str) vr1664 (Int.toNat (Int.tmod (IntKind.wrap .i64 (Int.tdiv (atC vs0 vs7) (4 : Int))) (4 : Int))))).1))⟩), (195, .live ⟨.fail, .deep, 0, [], (WorkT.fails ((workAdd (⟨vr192, vr193, vr194, vr195⟩ : WorkT) (atI (t := .str) vr1664 (Int.toNat (Int.tmod (IntKind.wrap .i64 (Int.tdiv (atC vs0 vs7) (4 : Int))) (4 : Int))))).1))⟩), (1536, .live ⟨.str, .deep, 0, [], vr1536⟩), (1600, .live ⟨.str, .deep, 0, [], vr1600⟩), (1664, .live ⟨.str, .deep, 0, [], vr1664⟩)]⟩))
                    none))
                none)
              (cond ((Int.tmod (atC vs0 vs7) (4 : Int)) == (2 : Int))
                (cond (sm_work (⟨vr192, vr193, vr194, vr195⟩ : WorkT))
                  (cond ((workTake (⟨vr192, vr193, vr194, vr195⟩ : WorkT)).2.2)
                    (cond ((fun (x : List ByteArray) (_ : ByteArray) => gLenW x) vr1600 ((workTake (⟨vr192, vr193, vr194, vr195⟩ : WorkT)).2.1))
                      (cond (isIn vr1600 ((workTake (⟨vr192, vr193, vr194, vr195⟩ : WorkT)).2.1))
                        (k' .ret ⟨[(2, .c (.one (.v (.bool false))))], [], []⟩)
                        (cond ((workTake (⟨vr192, vr193, vr194, vr195⟩ : WorkT)).2.2)
                          (cond (Nat.ble (vr1600.length + 1) LIM)
                            (cond ((fun (x : List ByteArray) (_ : ByteArray) => smL smStr x) vr1536 ((workTake (⟨vr192, vr193, vr194, vr195⟩ : WorkT)).2.1))
                              (k' .normal ⟨[(0, .c (.one (.ro (.i .u8) vs0))), (3, .c (.one (.pt 3 0))), (4, .c (.one (.h 1536 0 0 []))), (5, .c (.one (.h 1600 0 0 []))), (6, .c (.one (.h 1664 0 0 []))), (7, .c (.one (.v (.int .i64 (IntKind.wrap .i64 (vs7 + (1 : Int)))))))], [(3, ⟨.work, [.h 192 0 0 [], .h 193 0 0 [], .h 194 0 0 [], .h 195 0 0 []]⟩)], [(192, .live ⟨.str, .deep, 0, [], (WorkT.list ((workTake (⟨vr192, vr193, vr194, vr195⟩ : WorkT)).1))⟩), (193, .live ⟨.str, .deep, 0, [], (WorkT.busy ((workTake (⟨vr192, vr193, vr194, vr195⟩ : WorkT)).1))⟩), (194, .live ⟨.str, .deep, 0, [], (WorkT.again ((workTake (⟨vr192, vr193, vr194, vr195⟩ : WorkT)).1))⟩), (195, .live ⟨.fail, .deep, 0, [], (WorkT.fails ((workTake (⟨vr192, vr193, vr194, vr195⟩ : WorkT)).1))⟩), (1536, .live ⟨.str, .deep, 0, [], (butName vr1536 ((workTake (⟨vr192, vr193, vr194, vr195⟩ : WorkT)).2.1))⟩), (1600, .live ⟨.str, .deep, 0, [], (vr1600 ++ ([((workTake (⟨vr192, vr193, vr194, vr195⟩ : WorkT)).2.1)] : List ByteArray))⟩), (1664, .live ⟨.str, .deep, 0, [], vr1664⟩)]⟩)
                              none)
                            none)
                          (k' .normal ⟨[(0, .c (.one (.ro (.i .u8) vs0))), (3, .c (.one (.pt 3 0))), (4, .c (.one (.h 1536 0 0 []))), (5, .c (.one (.h 1600 0 0 []))), (6, .c (.one (.h 1664 0 0 []))), (7, .c (.one (.v (.int .i64 (IntKind.wrap .i64 (vs7 + (1 : Int)))))))], [(3, ⟨.work, [.h 192 0 0 [], .h 193 0 0 [], .h 194 0 0 [], .h 195 0 0 []]⟩)], [(192, .live ⟨.str, .deep, 0, [], (WorkT.list ((workTake (⟨vr192, vr193, vr194, vr195⟩ : WorkT)).1))⟩), (193, .live ⟨.str, .deep, 0, [], (WorkT.busy ((workTake (⟨vr192, vr193, vr194, vr195⟩ : WorkT)).1))⟩), (194, .live ⟨.str, .deep, 0, [], (WorkT.again ((workTake (⟨vr192, vr193, vr194, vr195⟩ : WorkT)).1))⟩), (195, .live ⟨.fail, .deep, 0, [], (WorkT.fails ((workTake (⟨vr192, vr193, vr194, vr195⟩ : WorkT)).1))⟩), (1536, .live ⟨.str, .deep, 0, [], vr1536⟩), (1600, .live ⟨.str, .deep, 0, [], vr1600⟩), (1664, .live ⟨.str, .deep, 0, [], vr1664⟩)]⟩)))
                      none)
                    (cond ((workTake (⟨vr192, vr193, vr194, vr195⟩ : WorkT)).2.2)
                      (cond (Nat.ble (vr1600.length + 1) LIM)
                        (cond ((fun (x : List ByteArray) (_ : ByteArray) => smL smStr x) vr1536 ((workTake (⟨vr192, vr193, vr194, vr195⟩ : WorkT)).2.1))
                          (k' .normal ⟨[(0, .c (.one (.ro (.i .u8) vs0))), (3, .c (.one (.pt 3 0))), (4, .c (.one (.h 1536 0 0 []))), (5, .c (.one (.h 1600 0 0 []))), (6, .c (.one (.h 1664 0 0 []))), (7, .c (.one (.v (.int .i64 (IntKind.wrap .i64 (vs7 + (1 : Int)))))))], [(3, ⟨.work, [.h 192 0 0 [], .h 193 0 0 [], .h 194 0 0 [], .h 195 0 0 []]⟩)], [(192, .live ⟨.str, .deep, 0, [], (WorkT.list ((workTake (⟨vr192, vr193, vr194, vr195⟩ : WorkT)).1))⟩), (193, .live ⟨.str, .deep, 0, [], (WorkT.busy ((workTake (⟨vr192, vr193, vr194, vr195⟩ : WorkT)).1))⟩), (194, .live ⟨.str, .deep, 0, [], (WorkT.again ((workTake (⟨vr192, vr193, vr194, vr195⟩ : WorkT)).1))⟩), (195, .live ⟨.fail, .deep, 0, [], (WorkT.fails ((workTake (⟨vr192, vr193, vr194, vr195⟩ : WorkT)).1))⟩), (1536, .live ⟨.str, .deep, 0, [], (butName vr1536 ((workTake (⟨vr192, vr193, vr194, vr195⟩ : WorkT)).2.1))⟩), (1600, .live ⟨.str, .deep, 0, [], (vr1600 ++ ([((workTake (⟨vr192, vr193, vr194, vr195⟩ : WorkT)).2.1)] : List ByteArray))⟩), (1664, .live ⟨.str, .deep, 0, [], vr1664⟩)]⟩)
                          none)
                        none)
                      (k' .normal ⟨[(0, .c (.one (.ro (.i .u8) vs0))), (3, .c (.one (.pt 3 0))), (4, .c (.one (.h 1536 0 0 []))), (5, .c (.one (.h 1600 0 0 []))), (6, .c (.one (.h 1664 0 0 []))), (7, .c (.one (.v (.int .i64 (IntKind.wrap .i64 (vs7 + (1 : Int)))))))], [(3, ⟨.work, [.h 192 0 0 [], .h 193 0 0 [], .h 194 0 0 [], .h 195 0 0 []]⟩)], [(192, .live ⟨.str, .deep, 0, [], (WorkT.list ((workTake (⟨vr192, vr193, vr194, vr195⟩ : WorkT)).1))⟩), (193, .live ⟨.str, .deep, 0, [], (WorkT.busy ((workTake (⟨vr192, vr193, vr194, vr195⟩ : WorkT)).1))⟩), (194, .live ⟨.str, .deep, 0, [], (WorkT.again ((workTake (⟨vr192, vr193, vr194, vr195⟩ : WorkT)).1))⟩), (195, .live ⟨.fail, .deep, 0, [], (WorkT.fails ((workTake (⟨vr192, vr193, vr194, vr195⟩ : WorkT)).1))⟩), (1536, .live ⟨.str, .deep, 0, [], vr1536⟩), (1600, .live ⟨.str, .deep, 0, [], vr1600⟩), (1664, .live ⟨.str, .deep, 0, [], vr1664⟩)]⟩)))
                  none)
                (cond (gDoneW (⟨vr192, vr193, vr194, vr195⟩ : WorkT) (atI (t := .str) vr1664 (Int.toNat (Int.tmod (IntKind.wrap .i64 (Int.tdiv (atC vs0 vs7) (4 : Int))) (4 : Int)))) true)
                  (cond ((fun (x : List ByteArray) (_ : ByteArray) => gLenW x) vr1600 (atI (t := .str) vr1664 (Int.toNat (Int.tmod (IntKind.wrap .i64 (Int.tdiv (atC vs0 vs7) (4 : Int))) (4 : Int)))))
                    (cond (!(((workDone (⟨vr192, vr193, vr194, vr195⟩ : WorkT) (atI (t := .str) vr1664 (Int.toNat (Int.tmod (IntKind.wrap .i64 (Int.tdiv (atC vs0 vs7) (4 : Int))) (4 : Int)))) true).2) == (isIn vr1600 (atI (t := .str) vr1664 (Int.toNat (Int.tmod (IntKind.wrap .i64 (Int.tdiv (atC vs0 vs7) (4 : Int))) (4 : Int)))))))
                      (k' .ret ⟨[(2, .c (.one (.v (.bool false))))], [], []⟩)
                      (cond ((workDone (⟨vr192, vr193, vr194, vr195⟩ : WorkT) (atI (t := .str) vr1664 (Int.toNat (Int.tmod (IntKind.wrap .i64 (Int.tdiv (atC vs0 vs7) (4 : Int))) (4 : Int)))) true).2)
                        (cond ((fun (x : List ByteArray) (_ : ByteArray) => smL smStr x) vr1600 (atI (t := .str) vr1664 (Int.toNat (Int.tmod (IntKind.wrap .i64 (Int.tdiv (atC vs0 vs7) (4 : Int))) (4 : Int)))))
                          (k' .normal ⟨[(0, .c (.one (.ro (.i .u8) vs0))), (3, .c (.one (.pt 3 0))), (4, .c (.one (.h 1536 0 0 []))), (5, .c (.one (.h 1600 0 0 []))), (6, .c (.one (.h 1664 0 0 []))), (7, .c (.one (.v (.int .i64 (IntKind.wrap .i64 (vs7 + (1 : Int)))))))], [(3, ⟨.work, [.h 192 0 0 [], .h 193 0 0 [], .h 194 0 0 [], .h 195 0 0 []]⟩)], [(192, .live ⟨.str, .deep, 0, [], (WorkT.list ((workDone (⟨vr192, vr193, vr194, vr195⟩ : WorkT) (atI (t := .str) vr1664 (Int.toNat (Int.tmod (IntKind.wrap .i64 (Int.tdiv (atC vs0 vs7) (4 : Int))) (4 : Int)))) true).1))⟩), (193, .live ⟨.str, .deep, 0, [], (WorkT.busy ((workDone (⟨vr192, vr193, vr194, vr195⟩ : WorkT) (atI (t := .str) vr1664 (Int.toNat (Int.tmod (IntKind.wrap .i64 (Int.tdiv (atC vs0 vs7) (4 : Int))) (4 : Int)))) true).1))⟩), (194, .live ⟨.str, .deep, 0, [], (WorkT.again ((workDone (⟨vr192, vr193, vr194, vr195⟩ : WorkT) (atI (t := .str) vr1664 (Int.toNat (Int.tmod (IntKind.wrap .i64 (Int.tdiv (atC vs0 vs7) (4 : Int))) (4 : Int)))) true).1))⟩), (195, .live ⟨.fail, .deep, 0, [], (WorkT.fails ((workDone (⟨vr192, vr193, vr194, vr195⟩ : WorkT) (atI (t := .str) vr1664 (Int.toNat (Int.tmod (IntKind.wrap .i64 (Int.tdiv (atC vs0 vs7) (4 : Int))) (4 : Int)))) true).1))⟩), (1536, .live ⟨.str, .deep, 0, [], vr1536⟩), (1600, .live ⟨.str, .deep, 0, [], (butName vr1600 (atI (t := .str) vr1664 (Int.toNat (Int.tmod (IntKind.wrap .i64 (Int.tdiv (atC vs0 vs7) (4 : Int))) (4 : Int)))))⟩), (1664, .live ⟨.str, .deep, 0, [], vr1664⟩)]⟩)
                          none)
                        (k' .normal ⟨[(0, .c (.one (.ro (.i .u8) vs0))), (3, .c (.one (.pt 3 0))), (4, .c (.one (.h 1536 0 0 []))), (5, .c (.one (.h 1600 0 0 []))), (6, .c (.one (.h 1664 0 0 []))), (7, .c (.one (.v (.int .i64 (IntKind.wrap .i64 (vs7 + (1 : Int)))))))], [(3, ⟨.work, [.h 192 0 0 [], .h 193 0 0 [], .h 194 0 0 [], .h 195 0 0 []]⟩)], [(192, .live ⟨.str, .deep, 0, [], (WorkT.list ((workDone (⟨vr192, vr193, vr194, vr195⟩ : WorkT) (atI (t := .str) vr1664 (Int.toNat (Int.tmod (IntKind.wrap .i64 (Int.tdiv (atC vs0 vs7) (4 : Int))) (4 : Int)))) true).1))⟩), (193, .live ⟨.str, .deep, 0, [], (WorkT.busy ((workDone (⟨vr192, vr193, vr194, vr195⟩ : WorkT) (atI (t := .str) vr1664 (Int.toNat (Int.tmod (IntKind.wrap .i64 (Int.tdiv (atC vs0 vs7) (4 : Int))) (4 : Int)))) true).1))⟩), (194, .live ⟨.str, .deep, 0, [], (WorkT.again ((workDone (⟨vr192, vr193, vr194, vr195⟩ : WorkT) (atI (t := .str) vr1664 (Int.toNat (Int.tmod (IntKind.wrap .i64 (Int.tdiv (atC vs0 vs7) (4 : Int))) (4 : Int)))) true).1))⟩), (195, .live ⟨.fail, .deep, 0, [], (WorkT.fails ((workDone (⟨vr192, vr193, vr194, vr195⟩ : WorkT) (atI (t := .str) vr1664 (Int.toNat (Int.tmod (IntKind.wrap .i64 (Int.tdiv (atC vs0 vs7) (4 : Int))) (4 : Int)))) true).1))⟩), (1536, .live ⟨.str, .deep, 0, [], vr1536⟩), (1600, .live ⟨.str, .deep, 0, [], vr1600⟩), (1664, .live ⟨.str, .deep, 0, [], vr1664⟩)]⟩)))
                    none)
                  none)))
            (cond ((Int.tmod (atC vs0 vs7) (4 : Int)) == (1 : Int))
              (cond (gAddW (⟨vr192, vr193, vr194, vr195⟩ : WorkT) (atI (t := .str) vr1664 (Int.toNat (Int.tmod (IntKind.wrap .i64 (Int.tdiv (atC vs0 vs7) (4 : Int))) (4 : Int)))))
                (cond (!((workAdd (⟨vr192, vr193, vr194, vr195⟩ : WorkT) (atI (t := .str) vr1664 (Int.toNat (Int.tmod (IntKind.wrap .i64 (Int.tdiv (atC vs0 vs7) (4 : Int))) (4 : Int))))).2))
                  (k' .ret ⟨[(2, .c (.one (.v (.bool false))))], [], []⟩)
                  (cond ((fun (x : List ByteArray) (_ : ByteArray) => gLenW x) vr1536 (atI (t := .str) vr1664 (Int.toNat (Int.tmod (IntKind.wrap .i64 (Int.tdiv (atC vs0 vs7) (4 : Int))) (4 : Int)))))
                    (cond (!(isIn vr1536 (atI (t := .str) vr1664 (Int.toNat (Int.tmod (IntKind.wrap .i64 (Int.tdiv (atC vs0 vs7) (4 : Int))) (4 : Int))))))
                      (cond (Nat.ble (vr1536.length + 1) LIM)
                        (k' .normal ⟨[(0, .c (.one (.ro (.i .u8) vs0))), (3, .c (.one (.pt 3 0))), (4, .c (.one (.h 1536 0 0 []))), (5, .c (.one (.h 1600 0 0 []))), (6, .c (.one (.h 1664 0 0 []))), (7, .c (.one (.v (.int .i64 (IntKind.wrap .i64 (vs7 + (1 : Int)))))))], [(3, ⟨.work, [.h 192 0 0 [], .h 193 0 0 [], .h 194 0 0 [], .h 195 0 0 []]⟩)], [(192, .live ⟨.str, .deep, 0, [], (WorkT.list ((workAdd (⟨vr192, vr193, vr194, vr195⟩ : WorkT) (atI (t := .str) vr1664 (Int.toNat (Int.tmod (IntKind.wrap .i64 (Int.tdiv (atC vs0 vs7) (4 : Int))) (4 : Int))))).1))⟩), (193, .live ⟨.str, .deep, 0, [], (WorkT.busy ((workAdd (⟨vr192, vr193, vr194, vr195⟩ : WorkT) (atI (t := .str) vr1664 (Int.toNat (Int.tmod (IntKind.wrap .i64 (Int.tdiv (atC vs0 vs7) (4 : Int))) (4 : Int))))).1))⟩), (194, .live ⟨.str, .deep, 0, [], (WorkT.again ((workAdd (⟨vr192, vr193, vr194, vr195⟩ : WorkT) (atI (t := .str) vr1664 (Int.toNat (Int.tmod (IntKind.wrap .i64 (Int.tdiv (atC vs0 vs7) (4 : Int))) (4 : Int))))).1))⟩), (195, .live ⟨.fail, .deep, 0, [], (WorkT.fails ((workAdd (⟨vr192, vr193, vr194, vr195⟩ : WorkT) (atI (t := .str) vr1664 (Int.toNat (Int.tmod (IntKind.wrap .i64 (Int.tdiv (atC vs0 vs7) (4 : Int))) (4 : Int))))).1))⟩), (1536, .live ⟨.str, .deep, 0, [], (vr1536 ++ ([(atI (t := .str) vr1664 (Int.toNat (Int.tmod (IntKind.wrap .i64 (Int.tdiv (atC vs0 vs7) (4 : Int))) (4 : Int))))] : List ByteArray))⟩), (1600, .live ⟨.str, .deep, 0, [], vr1600⟩), (1664, .live ⟨.str, .deep, 0, [], vr1664⟩)]⟩)
                        none)
                      (k' .normal ⟨[(0, .c (.one (.ro (.i .u8) vs0))), (3, .c (.one (.pt 3 0))), (4, .c (.one (.h 1536 0 0 []))), (5, .c (.one (.h 1600 0 0 []))), (6, .c (.one (.h 1664 0 0 []))), (7, .c (.one (.v (.int .i64 (IntKind.wrap .i64 (vs7 + (1 : Int)))))))], [(3, ⟨.work, [.h 192 0 0 [], .h 193 0 0 [], .h 194 0 0 [], .h 195 0 0 []]⟩)], [(192, .live ⟨.str, .deep, 0, [], (WorkT.list ((workAdd (⟨vr192, vr193, vr194, vr195⟩ : WorkT) (atI (t := .str) vr1664 (Int.toNat (Int.tmod (IntKind.wrap .i64 (Int.tdiv (atC vs0 vs7) (4 : Int))) (4 : Int))))).1))⟩), (193, .live ⟨.str, .deep, 0, [], (WorkT.busy ((workAdd (⟨vr192, vr193, vr194, vr195⟩ : WorkT) (atI (t := .str) vr1664 (Int.toNat (Int.tmod (IntKind.wrap .i64 (Int.tdiv (atC vs0 vs7) (4 : Int))) (4 : Int))))).1))⟩), (194, .live ⟨.str, .deep, 0, [], (WorkT.again ((workAdd (⟨vr192, vr193, vr194, vr195⟩ : WorkT) (atI (t := .str) vr1664 (Int.toNat (Int.tmod (IntKind.wrap .i64 (Int.tdiv (atC vs0 vs7) (4 : Int))) (4 : Int))))).1))⟩), (195, .live ⟨.fail, .deep, 0, [], (WorkT.fails ((workAdd (⟨vr192, vr193, vr194, vr195⟩ : WorkT) (atI (t := .str) vr1664 (Int.toNat (Int.tmod (IntKind.wrap .i64 (Int.tdiv (atC vs0 vs7) (4 : Int))) (4 : Int))))).1))⟩), (1536, .live ⟨.str, .deep, 0, [], vr1536⟩), (1600, .live ⟨.str, .deep, 0, [], vr1600⟩), (1664, .live ⟨.str, .deep, 0, [], vr1664⟩)]⟩))
                    none))
                none)
              (cond ((Int.tmod (atC vs0 vs7) (4 : Int)) == (2 : Int))
                (cond (sm_work (⟨vr192, vr193, vr194, vr195⟩ : WorkT))
                  (cond ((workTake (⟨vr192, vr193, vr194, vr195⟩ : WorkT)).2.2)
                    (cond ((fun (x : List ByteArray) (_ : ByteArray) => gLenW x) vr1600 ((workTake (⟨vr192, vr193, vr194, vr195⟩ : WorkT)).2.1))
                      (cond (isIn vr1600 ((workTake (⟨vr192, vr193, vr194, vr195⟩ : WorkT)).2.1))
                        (k' .ret ⟨[(2, .c (.one (.v (.bool false))))], [], []⟩)
                        (cond ((workTake (⟨vr192, vr193, vr194, vr195⟩ : WorkT)).2.2)
                          (cond (Nat.ble (vr1600.length + 1) LIM)
                            (cond ((fun (x : List ByteArray) (_ : ByteArray) => smL smStr x) vr1536 ((workTake (⟨vr192, vr193, vr194, vr195⟩ : WorkT)).2.1))
                              (k' .normal ⟨[(0, .c (.one (.ro (.i .u8) vs0))), (3, .c (.one (.pt 3 0))), (4, .c (.one (.h 1536 0 0 []))), (5, .c (.one (.h 1600 0 0 []))), (6, .c (.one (.h 1664 0 0 []))), (7, .c (.one (.v (.int .i64 (IntKind.wrap .i64 (vs7 + (1 : Int)))))))], [(3, ⟨.work, [.h 192 0 0 [], .h 193 0 0 [], .h 194 0 0 [], .h 195 0 0 []]⟩)], [(192, .live ⟨.str, .deep, 0, [], (WorkT.list ((workTake (⟨vr192, vr193, vr194, vr195⟩ : WorkT)).1))⟩), (193, .live ⟨.str, .deep, 0, [], (WorkT.busy ((workTake (⟨vr192, vr193, vr194, vr195⟩ : WorkT)).1))⟩), (194, .live ⟨.str, .deep, 0, [], (WorkT.again ((workTake (⟨vr192, vr193, vr194, vr195⟩ : WorkT)).1))⟩), (195, .live ⟨.fail, .deep, 0, [], (WorkT.fails ((workTake (⟨vr192, vr193, vr194, vr195⟩ : WorkT)).1))⟩), (1536, .live ⟨.str, .deep, 0, [], (butName vr1536 ((workTake (⟨vr192, vr193, vr194, vr195⟩ : WorkT)).2.1))⟩), (1600, .live ⟨.str, .deep, 0, [], (vr1600 ++ ([((workTake (⟨vr192, vr193, vr194, vr195⟩ : WorkT)).2.1)] : List ByteArray))⟩), (1664, .live ⟨.str, .deep, 0, [], vr1664⟩)]⟩)
                              none)
                            none)
                          (k' .normal ⟨[(0, .c (.one (.ro (.i .u8) vs0))), (3, .c (.one (.pt 3 0))), (4, .c (.one (.h 1536 0 0 []))), (5, .c (.one (.h 1600 0 0 []))), (6, .c (.one (.h 1664 0 0 []))), (7, .c (.one (.v (.int .i64 (IntKind.wrap .i64 (vs7 + (1 : Int)))))))], [(3, ⟨.work, [.h 192 0 0 [], .h 193 0 0 [], .h 194 0 0 [], .h 195 0 0 []]⟩)], [(192, .live ⟨.str, .deep, 0, [], (WorkT.list ((workTake (⟨vr192, vr193, vr194, vr195⟩ : WorkT)).1))⟩), (193, .live ⟨.str, .deep, 0, [], (WorkT.busy ((workTake (⟨vr192, vr193, vr194, vr195⟩ : WorkT)).1))⟩), (194, .live ⟨.str, .deep, 0, [], (WorkT.again ((workTake (⟨vr192, vr193, vr194, vr195⟩ : WorkT)).1))⟩), (195, .live ⟨.fail, .deep, 0, [], (WorkT.fails ((workTake (⟨vr192, vr193, vr194, vr195⟩ : WorkT)).1))⟩), (1536, .live ⟨.str, .deep, 0, [], vr1536⟩), (1600, .live ⟨.str, .deep, 0, [], vr1600⟩), (1664, .live ⟨.str, .deep, 0, [], vr1664⟩)]⟩)))
                      none)
                    (cond ((workTake (⟨vr192, vr193, vr194, vr195⟩ : WorkT)).2.2)
                      (cond (Nat.ble (vr1600.length + 1) LIM)
                        (cond ((fun (x : List ByteArray) (_ : ByteArray) => smL smStr x) vr1536 ((workTake (⟨vr192, vr193, vr194, vr195⟩ : WorkT)).2.1))
                          (k' .normal ⟨[(0, .c (.one (.ro (.i .u8) vs0))), (3, .c (.one (.pt 3 0))), (4, .c (.one (.h 1536 0 0 []))), (5, .c (.one (.h 1600 0 0 []))), (6, .c (.one (.h 1664 0 0 []))), (7, .c (.one (.v (.int .i64 (IntKind.wrap .i64 (vs7 + (1 : Int)))))))], [(3, ⟨.work, [.h 192 0 0 [], .h 193 0 0 [], .h 194 0 0 [], .h 195 0 0 []]⟩)], [(192, .live ⟨.str, .deep, 0, [], (WorkT.list ((workTake (⟨vr192, vr193, vr194, vr195⟩ : WorkT)).1))⟩), (193, .live ⟨.str, .deep, 0, [], (WorkT.busy ((workTake (⟨vr192, vr193, vr194, vr195⟩ : WorkT)).1))⟩), (194, .live ⟨.str, .deep, 0, [], (WorkT.again ((workTake (⟨vr192, vr193, vr194, vr195⟩ : WorkT)).1))⟩), (195, .live ⟨.fail, .deep, 0, [], (WorkT.fails ((workTake (⟨vr192, vr193, vr194, vr195⟩ : WorkT)).1))⟩), (1536, .live ⟨.str, .deep, 0, [], (butName vr1536 ((workTake (⟨vr192, vr193, vr194, vr195⟩ : WorkT)).2.1))⟩), (1600, .live ⟨.str, .deep, 0, [], (vr1600 ++ ([((workTake (⟨vr192, vr193, vr194, vr195⟩ : WorkT)).2.1)] : List ByteArray))⟩), (1664, .live ⟨.str, .deep, 0, [], vr1664⟩)]⟩)
                          none)
                        none)
                      (k' .normal ⟨[(0, .c (.one (.ro (.i .u8) vs0))), (3, .c (.one (.pt 3 0))), (4, .c (.one (.h 1536 0 0 []))), (5, .c (.one (.h 1600 0 0 []))), (6, .c (.one (.h 1664 0 0 []))), (7, .c (.one (.v (.int .i64 (IntKind.wrap .i64 (vs7 + (1 : Int)))))))], [(3, ⟨.work, [.h 192 0 0 [], .h 193 0 0 [], .h 194 0 0 [], .h 195 0 0 []]⟩)], [(192, .live ⟨.str, .deep, 0, [], (WorkT.list ((workTake (⟨vr192, vr193, vr194, vr195⟩ : WorkT)).1))⟩), (193, .live ⟨.str, .deep, 0, [], (WorkT.busy ((workTake (⟨vr192, vr193, vr194, vr195⟩ : WorkT)).1))⟩), (194, .live ⟨.str, .deep, 0, [], (WorkT.again ((workTake (⟨vr192, vr193, vr194, vr195⟩ : WorkT)).1))⟩), (195, .live ⟨.fail, .deep, 0, [], (WorkT.fails ((workTake (⟨vr192, vr193, vr194, vr195⟩ : WorkT)).1))⟩), (1536, .live ⟨.str, .deep, 0, [], vr1536⟩), (1600, .live ⟨.str, .deep, 0, [], vr1600⟩), (1664, .live ⟨.str, .deep, 0, [], vr1664⟩)]⟩)))
                  none)
                (cond (gDoneW (⟨vr192, vr193, vr194, vr195⟩ : WorkT) (atI (t := .str) vr1664 (Int.toNat (Int.tmod (IntKind.wrap .i64 (Int.tdiv (atC vs0 vs7) (4 : Int))) (4 : Int)))) true)
                  (cond ((fun (x : List ByteArray) (_ : ByteArray) => gLenW x) vr1600 (atI (t := .str) vr1664 (Int.toNat (Int.tmod (IntKind.wrap .i64 (Int.tdiv (atC vs0 vs7) (4 : Int))) (4 : Int)))))
                    (cond (!(((workDone (⟨vr192, vr193, vr194, vr195⟩ : WorkT) (atI (t := .str) vr1664 (Int.toNat (Int.tmod (IntKind.wrap .i64 (Int.tdiv (atC vs0 vs7) (4 : Int))) (4 : Int)))) true).2) == (isIn vr1600 (atI (t := .str) vr1664 (Int.toNat (Int.tmod (IntKind.wrap .i64 (Int.tdiv (atC vs0 vs7) (4 : Int))) (4 : Int)))))))
                      (k' .ret ⟨[(2, .c (.one (.v (.bool false))))], [], []⟩)
                      (cond ((workDone (⟨vr192, vr193, vr194, vr195⟩ : WorkT) (atI (t := .str) vr1664 (Int.toNat (Int.tmod (IntKind.wrap .i64 (Int.tdiv (atC vs0 vs7) (4 : Int))) (4 : Int)))) true).2)
                        (cond ((fun (x : List ByteArray) (_ : ByteArray) => smL smStr x) vr1600 (atI (t := .str) vr1664 (Int.toNat (Int.tmod (IntKind.wrap .i64 (Int.tdiv (atC vs0 vs7) (4 : Int))) (4 : Int)))))
                          (k' .normal ⟨[(0, .c (.one (.ro (.i .u8) vs0))), (3, .c (.one (.pt 3 0))), (4, .c (.one (.h 1536 0 0 []))), (5, .c (.one (.h 1600 0 0 []))), (6, .c (.one (.h 1664 0 0 []))), (7, .c (.one (.v (.int .i64 (IntKind.wrap .i64 (vs7 + (1 : Int)))))))], [(3, ⟨.work, [.h 192 0 0 [], .h 193 0 0 [], .h 194 0 0 [], .h 195 0 0 []]⟩)], [(192, .live ⟨.str, .deep, 0, [], (WorkT.list ((workDone (⟨vr192, vr193, vr194, vr195⟩ : WorkT) (atI (t := .str) vr1664 (Int.toNat (Int.tmod (IntKind.wrap .i64 (Int.tdiv (atC vs0 vs7) (4 : Int))) (4 : Int)))) true).1))⟩), (193, .live ⟨.str, .deep, 0, [], (WorkT.busy ((workDone (⟨vr192, vr193, vr194, vr195⟩ : WorkT) (atI (t := .str) vr1664 (Int.toNat (Int.tmod (IntKind.wrap .i64 (Int.tdiv (atC vs0 vs7) (4 : Int))) (4 : Int)))) true).1))⟩), (194, .live ⟨.str, .deep, 0, [], (WorkT.again ((workDone (⟨vr192, vr193, vr194, vr195⟩ : WorkT) (atI (t := .str) vr1664 (Int.toNat (Int.tmod (IntKind.wrap .i64 (Int.tdiv (atC vs0 vs7) (4 : Int))) (4 : Int)))) true).1))⟩), (195, .live ⟨.fail, .deep, 0, [], (WorkT.fails ((workDone (⟨vr192, vr193, vr194, vr195⟩ : WorkT) (atI (t := .str) vr1664 (Int.toNat (Int.tmod (IntKind.wrap .i64 (Int.tdiv (atC vs0 vs7) (4 : Int))) (4 : Int)))) true).1))⟩), (1536, .live ⟨.str, .deep, 0, [], vr1536⟩), (1600, .live ⟨.str, .deep, 0, [], (butName vr1600 (atI (t := .str) vr1664 (Int.toNat (Int.tmod (IntKind.wrap .i64 (Int.tdiv (atC vs0 vs7) (4 : Int))) (4 : Int)))))⟩), (1664, .live ⟨.str, .deep, 0, [], vr1664⟩)]⟩)
                          none)
                        (k' .normal ⟨[(0, .c (.one (.ro (.i .u8) vs0))), (3, .c (.one (.pt 3 0))), (4, .c (.one (.h 1536 0 0 []))), (5, .c (.one (.h 1600 0 0 []))), (6, .c (.one (.h 1664 0 0 []))), (7, .c (.one (.v (.int .i64 (IntKind.wrap .i64 (vs7 + (1 : Int)))))))], [(3, ⟨.work, [.h 192 0 0 [], .h 193 0 0 [], .h 194 0 0 [], .h 195 0 0 []]⟩)], [(192, .live ⟨.str, .deep, 0, [], (WorkT.list ((workDone (⟨vr192, vr193, vr194, vr195⟩ : WorkT) (atI (t := .str) vr1664 (Int.toNat (Int.tmod (IntKind.wrap .i64 (Int.tdiv (atC vs0 vs7) (4 : Int))) (4 : Int)))) true).1))⟩), (193, .live ⟨.str, .deep, 0, [], (WorkT.busy ((workDone (⟨vr192, vr193, vr194, vr195⟩ : WorkT) (atI (t := .str) vr1664 (Int.toNat (Int.tmod (IntKind.wrap .i64 (Int.tdiv (atC vs0 vs7) (4 : Int))) (4 : Int)))) true).1))⟩), (194, .live ⟨.str, .deep, 0, [], (WorkT.again ((workDone (⟨vr192, vr193, vr194, vr195⟩ : WorkT) (atI (t := .str) vr1664 (Int.toNat (Int.tmod (IntKind.wrap .i64 (Int.tdiv (atC vs0 vs7) (4 : Int))) (4 : Int)))) true).1))⟩), (195, .live ⟨.fail, .deep, 0, [], (WorkT.fails ((workDone (⟨vr192, vr193, vr194, vr195⟩ : WorkT) (atI (t := .str) vr1664 (Int.toNat (Int.tmod (IntKind.wrap .i64 (Int.tdiv (atC vs0 vs7) (4 : Int))) (4 : Int)))) true).1))⟩), (1536, .live ⟨.str, .deep, 0, [], vr1536⟩), (1600, .live ⟨.str, .deep, 0, [], vr1600⟩), (1664, .live ⟨.str, .deep, 0, [], vr1664⟩)]⟩)))
                    none)
                  none))))
          none)
        none)
      none)
    (k' (.exit 0) ⟨[(0, .c (.one (.ro (.i .u8) vs0))), (3, .c (.one (.pt 3 0))), (4, .c (.one (.h 1536 0 0 []))), (5, .c (.one (.h 1600 0 0 []))), (6, .c (.one (.h 1664 0 0 []))), (7, .c (.one (.v (.int .i64 vs7)))), (28, .c (.one (.v (.bool (decide (vs7 < (60 : Int)))))))], [(3, ⟨.work, [.h 192 0 0 [], .h 193 0 0 [], .h 194 0 0 [], .h 195 0 0 []]⟩)], [(192, .live ⟨.str, .deep, 0, [], vr192⟩), (193, .live ⟨.str, .deep, 0, [], vr193⟩), (194, .live ⟨.str, .deep, 0, [], vr194⟩), (195, .live ⟨.fail, .deep, 0, [], vr195⟩), (1536, .live ⟨.str, .deep, 0, [], vr1536⟩), (1600, .live ⟨.str, .deep, 0, [], vr1600⟩), (1664, .live ⟨.str, .deep, 0, [], vr1664⟩)]⟩)) := by kernel_rfl
theorem f5L0_eq {R : Type} (n : Nat) (k' : Ex → St → Option R) (vs0 : List Int) (vr1664 : List ByteArray) : ∀ (m : Nat) (vs7 : Int) (vr192 : List ByteArray) (vr193 : List ByteArray) (vr194 : List ByteArray) (vr195 : List FailT) (vr1536 : List ByteArray) (vr1600 : List ByteArray), iter (fun st k => ev f5e f5k n (cAt [1,1,1,1,1,1,0,1,0,0] f5c) st k) m ⟨[(0, .c (.one (.ro (.i .u8) vs0))), (3, .c (.one (.pt 3 0))), (4, .c (.one (.h 1536 0 0 []))), (5, .c (.one (.h 1600 0 0 []))), (6, .c (.one (.h 1664 0 0 []))), (7, .c (.one (.v (.int .i64 vs7))))], [(3, ⟨.work, [.h 192 0 0 [], .h 193 0 0 [], .h 194 0 0 [], .h 195 0 0 []]⟩)], [(192, .live ⟨.str, .deep, 0, [], vr192⟩), (193, .live ⟨.str, .deep, 0, [], vr193⟩), (194, .live ⟨.str, .deep, 0, [], vr194⟩), (195, .live ⟨.fail, .deep, 0, [], vr195⟩), (1536, .live ⟨.str, .deep, 0, [], vr1536⟩), (1600, .live ⟨.str, .deep, 0, [], vr1600⟩), (1664, .live ⟨.str, .deep, 0, [], vr1664⟩)]⟩ k' = f5L0 n (k' .ret ⟨[(2, .c (.one (.v (.bool false))))], [], []⟩) (fun (xvs7 : Int) (xvs28 : Bool) (xvr192 : List ByteArray) (xvr193 : List ByteArray) (xvr194 : List ByteArray) (xvr195 : List FailT) (xvr1536 : List ByteArray) (xvr1600 : List ByteArray) => k' (.exit 0) ⟨[(0, .c (.one (.ro (.i .u8) vs0))), (3, .c (.one (.pt 3 0))), (4, .c (.one (.h 1536 0 0 []))), (5, .c (.one (.h 1600 0 0 []))), (6, .c (.one (.h 1664 0 0 []))), (7, .c (.one (.v (.int .i64 xvs7)))), (28, .c (.one (.v (.bool xvs28))))], [(3, ⟨.work, [.h 192 0 0 [], .h 193 0 0 [], .h 194 0 0 [], .h 195 0 0 []]⟩)], [(192, .live ⟨.str, .deep, 0, [], xvr192⟩), (193, .live ⟨.str, .deep, 0, [], xvr193⟩), (194, .live ⟨.str, .deep, 0, [], xvr194⟩), (195, .live ⟨.fail, .deep, 0, [], xvr195⟩), (1536, .live ⟨.str, .deep, 0, [], xvr1536⟩), (1600, .live ⟨.str, .deep, 0, [], xvr1600⟩), (1664, .live ⟨.str, .deep, 0, [], vr1664⟩)]⟩) vs0 vr1664 m vs7 vr192 vr193 vr194 vr195 vr1536 vr1600 := by
  intro m; induction m with
  | zero => intros; rfl
  | succ m ih =>
    intro vs7 vr192 vr193 vr194 vr195 vr1536 vr1600
    simp only [iter]
    rw [f5L0_b]
    simp only [ih, f5L0]

noncomputable def f5L1 {R : Type} (n : Nat) (x0 : Int → Bool → (List ByteArray) → (List ByteArray) → (List ByteArray) → (List FailT) → Option R) (vs16 : Int) (vr1536 : List ByteArray) (vr1664 : List ByteArray) : Nat → Int → (List ByteArray) → (List ByteArray) → (List ByteArray) → (List FailT) → Option R
  | 0, _, _, _, _, _ => none
  | m + 1, vs17, vr192, vr193, vr194, vr195 =>
    (cond (decide (vs17 < (4 : Int)))
      (cond ((decide ((0 : Int) ≤ vs17)) && (decide (vs17 < (vr1664.length : Int))))
        (cond (gDoneW (⟨vr192, vr193, vr194, vr195⟩ : WorkT) (atI (t := .str) vr1664 (Int.toNat vs17)) true)
          (f5L1 n x0 vs16 vr1536 vr1664 m (IntKind.wrap .i64 (vs17 + (1 : Int))) (WorkT.list ((workDone (⟨vr192, vr193, vr194, vr195⟩ : WorkT) (atI (t := .str) vr1664 (Int.toNat vs17)) true).1)) (WorkT.busy ((workDone (⟨vr192, vr193, vr194, vr195⟩ : WorkT) (atI (t := .str) vr1664 (Int.toNat vs17)) true).1)) (WorkT.again ((workDone (⟨vr192, vr193, vr194, vr195⟩ : WorkT) (atI (t := .str) vr1664 (Int.toNat vs17)) true).1)) (WorkT.fails ((workDone (⟨vr192, vr193, vr194, vr195⟩ : WorkT) (atI (t := .str) vr1664 (Int.toNat vs17)) true).1)))
          none)
        none)
      (x0 vs17 (decide (vs17 < (4 : Int))) vr192 vr193 vr194 vr195))
theorem f5L1_b {R : Type} (n : Nat) (k' : Ex → St → Option R) (vs16 : Int) (vs17 : Int) (vr192 : List ByteArray) (vr193 : List ByteArray) (vr194 : List ByteArray) (vr195 : List FailT) (vr1536 : List ByteArray) (vr1664 : List ByteArray) : ev f5e f5k n (cAt [1,1,1,1,1,1,1,0,1,0,0,1,0,0,0,1,0,0] f5c) ⟨[(3, .c (.one (.pt 3 0))), (4, .c (.one (.h 1536 0 0 []))), (6, .c (.one (.h 1664 0 0 []))), (16, .c (.one (.v (.int .i64 vs16)))), (17, .c (.one (.v (.int .i64 vs17))))], [(3, ⟨.work, [.h 192 0 0 [], .h 193 0 0 [], .h 194 0 0 [], .h 195 0 0 []]⟩)], [(192, .live ⟨.str, .deep, 0, [], vr192⟩), (193, .live ⟨.str, .deep, 0, [], vr193⟩), (194, .live ⟨.str, .deep, 0, [], vr194⟩), (195, .live ⟨.fail, .deep, 0, [], vr195⟩), (1536, .live ⟨.str, .deep, 0, [], vr1536⟩), (1664, .live ⟨.str, .deep, 0, [], vr1664⟩)]⟩ k' =
    (cond (decide (vs17 < (4 : Int)))
    (cond ((decide ((0 : Int) ≤ vs17)) && (decide (vs17 < (vr1664.length : Int))))
      (cond (gDoneW (⟨vr192, vr193, vr194, vr195⟩ : WorkT) (atI (t := .str) vr1664 (Int.toNat vs17)) true)
        (k' .normal ⟨[(3, .c (.one (.pt 3 0))), (4, .c (.one (.h 1536 0 0 []))), (6, .c (.one (.h 1664 0 0 []))), (16, .c (.one (.v (.int .i64 vs16)))), (17, .c (.one (.v (.int .i64 (IntKind.wrap .i64 (vs17 + (1 : Int)))))))], [(3, ⟨.work, [.h 192 0 0 [], .h 193 0 0 [], .h 194 0 0 [], .h 195 0 0 []]⟩)], [(192, .live ⟨.str, .deep, 0, [], (WorkT.list ((workDone (⟨vr192, vr193, vr194, vr195⟩ : WorkT) (atI (t := .str) vr1664 (Int.toNat vs17)) true).1))⟩), (193, .live ⟨.str, .deep, 0, [], (WorkT.busy ((workDone (⟨vr192, vr193, vr194, vr195⟩ : WorkT) (atI (t := .str) vr1664 (Int.toNat vs17)) true).1))⟩), (194, .live ⟨.str, .deep, 0, [], (WorkT.again ((workDone (⟨vr192, vr193, vr194, vr195⟩ : WorkT) (atI (t := .str) vr1664 (Int.toNat vs17)) true).1))⟩), (195, .live ⟨.fail, .deep, 0, [], (WorkT.fails ((workDone (⟨vr192, vr193, vr194, vr195⟩ : WorkT) (atI (t := .str) vr1664 (Int.toNat vs17)) true).1))⟩), (1536, .live ⟨.str, .deep, 0, [], vr1536⟩), (1664, .live ⟨.str, .deep, 0, [], vr1664⟩)]⟩)
        none)
      none)
    (k' (.exit 5) ⟨[(3, .c (.one (.pt 3 0))), (4, .c (.one (.h 1536 0 0 []))), (6, .c (.one (.h 1664 0 0 []))), (16, .c (.one (.v (.int .i64 vs16)))), (17, .c (.one (.v (.int .i64 vs17)))), (107, .c (.one (.v (.bool (decide (vs17 < (4 : Int)))))))], [(3, ⟨.work, [.h 192 0 0 [], .h 193 0 0 [], .h 194 0 0 [], .h 195 0 0 []]⟩)], [(192, .live ⟨.str, .deep, 0, [], vr192⟩), (193, .live ⟨.str, .deep, 0, [], vr193⟩), (194, .live ⟨.str, .deep, 0, [], vr194⟩), (195, .live ⟨.fail, .deep, 0, [], vr195⟩), (1536, .live ⟨.str, .deep, 0, [], vr1536⟩), (1664, .live ⟨.str, .deep, 0, [], vr1664⟩)]⟩)) := by kernel_rfl
theorem f5L1_eq {R : Type} (n : Nat) (k' : Ex → St → Option R) (vs16 : Int) (vr1536 : List ByteArray) (vr1664 : List ByteArray) : ∀ (m : Nat) (vs17 : Int) (vr192 : List ByteArray) (vr193 : List ByteArray) (vr194 : List ByteArray) (vr195 : List FailT), iter (fun st k => ev f5e f5k n (cAt [1,1,1,1,1,1,1,0,1,0,0,1,0,0,0,1,0,0] f5c) st k) m ⟨[(3, .c (.one (.pt 3 0))), (4, .c (.one (.h 1536 0 0 []))), (6, .c (.one (.h 1664 0 0 []))), (16, .c (.one (.v (.int .i64 vs16)))), (17, .c (.one (.v (.int .i64 vs17))))], [(3, ⟨.work, [.h 192 0 0 [], .h 193 0 0 [], .h 194 0 0 [], .h 195 0 0 []]⟩)], [(192, .live ⟨.str, .deep, 0, [], vr192⟩), (193, .live ⟨.str, .deep, 0, [], vr193⟩), (194, .live ⟨.str, .deep, 0, [], vr194⟩), (195, .live ⟨.fail, .deep, 0, [], vr195⟩), (1536, .live ⟨.str, .deep, 0, [], vr1536⟩), (1664, .live ⟨.str, .deep, 0, [], vr1664⟩)]⟩ k' = f5L1 n (fun (xvs17 : Int) (xvs107 : Bool) (xvr192 : List ByteArray) (xvr193 : List ByteArray) (xvr194 : List ByteArray) (xvr195 : List FailT) => k' (.exit 5) ⟨[(3, .c (.one (.pt 3 0))), (4, .c (.one (.h 1536 0 0 []))), (6, .c (.one (.h 1664 0 0 []))), (16, .c (.one (.v (.int .i64 vs16)))), (17, .c (.one (.v (.int .i64 xvs17)))), (107, .c (.one (.v (.bool xvs107))))], [(3, ⟨.work, [.h 192 0 0 [], .h 193 0 0 [], .h 194 0 0 [], .h 195 0 0 []]⟩)], [(192, .live ⟨.str, .deep, 0, [], xvr192⟩), (193, .live ⟨.str, .deep, 0, [], xvr193⟩), (194, .live ⟨.str, .deep, 0, [], xvr194⟩), (195, .live ⟨.fail, .deep, 0, [], xvr195⟩), (1536, .live ⟨.str, .deep, 0, [], vr1536⟩), (1664, .live ⟨.str, .deep, 0, [], vr1664⟩)]⟩) vs16 vr1536 vr1664 m vs17 vr192 vr193 vr194 vr195 := by
  intro m; induction m with
  | zero => intros; rfl
  | succ m ih =>
    intro vs17 vr192 vr193 vr194 vr195
    simp only [iter]
    rw [f5L1_b]
    simp only [ih, f5L1]

noncomputable def f5K1 {R : Type} (n : Nat) (k' : Ex → St → Option R) : Ex → St → Option R := (blockK 5 (seqK f5e f5k n (cAt [1,1,1,1,1,1,1,0,1,0,0,1,0,0,1] f5c) (blockK 4 (seqK f5e f5k n (cAt [1,1,1,1,1,1,1,0,1,0,0,1,1] f5c) k'))))
theorem f5K1_x0 {R : Type} (n : Nat) (k' : Ex → St → Option R) (vs16 : Int) (vr1536 : List ByteArray) (vr1664 : List ByteArray) (xvs17 : Int) (xvs107 : Bool) (xvr192 : List ByteArray) (xvr193 : List ByteArray) (xvr194 : List ByteArray) (xvr195 : List FailT) : f5K1 n k' (.exit 5) ⟨[(3, .c (.one (.pt 3 0))), (4, .c (.one (.h 1536 0 0 []))), (6, .c (.one (.h 1664 0 0 []))), (16, .c (.one (.v (.int .i64 vs16)))), (17, .c (.one (.v (.int .i64 xvs17)))), (107, .c (.one (.v (.bool xvs107))))], [(3, ⟨.work, [.h 192 0 0 [], .h 193 0 0 [], .h 194 0 0 [], .h 195 0 0 []]⟩)], [(192, .live ⟨.str, .deep, 0, [], xvr192⟩), (193, .live ⟨.str, .deep, 0, [], xvr193⟩), (194, .live ⟨.str, .deep, 0, [], xvr194⟩), (195, .live ⟨.fail, .deep, 0, [], xvr195⟩), (1536, .live ⟨.str, .deep, 0, [], vr1536⟩), (1664, .live ⟨.str, .deep, 0, [], vr1664⟩)]⟩ =
    (cond (sm_work (⟨xvr192, xvr193, xvr194, xvr195⟩ : WorkT))
    (cond ((workTake (⟨xvr192, xvr193, xvr194, xvr195⟩ : WorkT)).2.2)
      (cond ((fun (x : List ByteArray) (_ : ByteArray) => smL smStr x) vr1536 ((workTake (⟨xvr192, xvr193, xvr194, xvr195⟩ : WorkT)).2.1))
        (k' .normal ⟨[(3, .c (.one (.pt 3 0))), (4, .c (.one (.h 1536 0 0 []))), (6, .c (.one (.h 1664 0 0 []))), (16, .c (.one (.v (.int .i64 (IntKind.wrap .i64 (vs16 + (1 : Int)))))))], [(3, ⟨.work, [.h 192 0 0 [], .h 193 0 0 [], .h 194 0 0 [], .h 195 0 0 []]⟩)], [(192, .live ⟨.str, .deep, 0, [], (WorkT.list ((workTake (⟨xvr192, xvr193, xvr194, xvr195⟩ : WorkT)).1))⟩), (193, .live ⟨.str, .deep, 0, [], (WorkT.busy ((workTake (⟨xvr192, xvr193, xvr194, xvr195⟩ : WorkT)).1))⟩), (194, .live ⟨.str, .deep, 0, [], (WorkT.again ((workTake (⟨xvr192, xvr193, xvr194, xvr195⟩ : WorkT)).1))⟩), (195, .live ⟨.fail, .deep, 0, [], (WorkT.fails ((workTake (⟨xvr192, xvr193, xvr194, xvr195⟩ : WorkT)).1))⟩), (1536, .live ⟨.str, .deep, 0, [], (butName vr1536 ((workTake (⟨xvr192, xvr193, xvr194, xvr195⟩ : WorkT)).2.1))⟩), (1664, .live ⟨.str, .deep, 0, [], vr1664⟩)]⟩)
        none)
      (k' .normal ⟨[(3, .c (.one (.pt 3 0))), (4, .c (.one (.h 1536 0 0 []))), (6, .c (.one (.h 1664 0 0 []))), (16, .c (.one (.v (.int .i64 (IntKind.wrap .i64 (vs16 + (1 : Int)))))))], [(3, ⟨.work, [.h 192 0 0 [], .h 193 0 0 [], .h 194 0 0 [], .h 195 0 0 []]⟩)], [(192, .live ⟨.str, .deep, 0, [], (WorkT.list ((workTake (⟨xvr192, xvr193, xvr194, xvr195⟩ : WorkT)).1))⟩), (193, .live ⟨.str, .deep, 0, [], (WorkT.busy ((workTake (⟨xvr192, xvr193, xvr194, xvr195⟩ : WorkT)).1))⟩), (194, .live ⟨.str, .deep, 0, [], (WorkT.again ((workTake (⟨xvr192, xvr193, xvr194, xvr195⟩ : WorkT)).1))⟩), (195, .live ⟨.fail, .deep, 0, [], (WorkT.fails ((workTake (⟨xvr192, xvr193, xvr194, xvr195⟩ : WorkT)).1))⟩), (1536, .live ⟨.str, .deep, 0, [], vr1536⟩), (1664, .live ⟨.str, .deep, 0, [], vr1664⟩)]⟩))
    none) := by kernel_rfl

noncomputable def f5L2 {R : Type} (n : Nat) (x0 : Int → Bool → (List ByteArray) → (List ByteArray) → (List ByteArray) → (List FailT) → (List ByteArray) → Option R) (vr1664 : List ByteArray) : Nat → Int → (List ByteArray) → (List ByteArray) → (List ByteArray) → (List FailT) → (List ByteArray) → Option R
  | 0, _, _, _, _, _, _ => none
  | m + 1, vs16, vr192, vr193, vr194, vr195, vr1536 =>
    (cond (decide (vs16 < (20 : Int)))
      (f5L1 n (fun (xvs17 : Int) (xvs107 : Bool) (xvr192 : List ByteArray) (xvr193 : List ByteArray) (xvr194 : List ByteArray) (xvr195 : List FailT) =>
        (cond (sm_work (⟨xvr192, xvr193, xvr194, xvr195⟩ : WorkT))
          (cond ((workTake (⟨xvr192, xvr193, xvr194, xvr195⟩ : WorkT)).2.2)
            (cond ((fun (x : List ByteArray) (_ : ByteArray) => smL smStr x) vr1536 ((workTake (⟨xvr192, xvr193, xvr194, xvr195⟩ : WorkT)).2.1))
              (f5L2 n x0 vr1664 m (IntKind.wrap .i64 (vs16 + (1 : Int))) (WorkT.list ((workTake (⟨xvr192, xvr193, xvr194, xvr195⟩ : WorkT)).1)) (WorkT.busy ((workTake (⟨xvr192, xvr193, xvr194, xvr195⟩ : WorkT)).1)) (WorkT.again ((workTake (⟨xvr192, xvr193, xvr194, xvr195⟩ : WorkT)).1)) (WorkT.fails ((workTake (⟨xvr192, xvr193, xvr194, xvr195⟩ : WorkT)).1)) (butName vr1536 ((workTake (⟨xvr192, xvr193, xvr194, xvr195⟩ : WorkT)).2.1)))
              none)
            (f5L2 n x0 vr1664 m (IntKind.wrap .i64 (vs16 + (1 : Int))) (WorkT.list ((workTake (⟨xvr192, xvr193, xvr194, xvr195⟩ : WorkT)).1)) (WorkT.busy ((workTake (⟨xvr192, xvr193, xvr194, xvr195⟩ : WorkT)).1)) (WorkT.again ((workTake (⟨xvr192, xvr193, xvr194, xvr195⟩ : WorkT)).1)) (WorkT.fails ((workTake (⟨xvr192, xvr193, xvr194, xvr195⟩ : WorkT)).1)) vr1536))
          none)) vs16 vr1536 vr1664 n (0 : Int) vr192 vr193 vr194 vr195)
      (x0 vs16 (decide (vs16 < (20 : Int))) vr192 vr193 vr194 vr195 vr1536))
theorem f5L2_b {R : Type} (n : Nat) (k' : Ex → St → Option R) (vs16 : Int) (vr192 : List ByteArray) (vr193 : List ByteArray) (vr194 : List ByteArray) (vr195 : List FailT) (vr1536 : List ByteArray) (vr1664 : List ByteArray) : ev f5e f5k n (cAt [1,1,1,1,1,1,1,0,1,0,0] f5c) ⟨[(3, .c (.one (.pt 3 0))), (4, .c (.one (.h 1536 0 0 []))), (6, .c (.one (.h 1664 0 0 []))), (16, .c (.one (.v (.int .i64 vs16))))], [(3, ⟨.work, [.h 192 0 0 [], .h 193 0 0 [], .h 194 0 0 [], .h 195 0 0 []]⟩)], [(192, .live ⟨.str, .deep, 0, [], vr192⟩), (193, .live ⟨.str, .deep, 0, [], vr193⟩), (194, .live ⟨.str, .deep, 0, [], vr194⟩), (195, .live ⟨.fail, .deep, 0, [], vr195⟩), (1536, .live ⟨.str, .deep, 0, [], vr1536⟩), (1664, .live ⟨.str, .deep, 0, [], vr1664⟩)]⟩ k' =
    (cond (decide (vs16 < (20 : Int)))
    (f5L1 n (fun (xvs17 : Int) (xvs107 : Bool) (xvr192 : List ByteArray) (xvr193 : List ByteArray) (xvr194 : List ByteArray) (xvr195 : List FailT) =>
      (cond (sm_work (⟨xvr192, xvr193, xvr194, xvr195⟩ : WorkT))
        (cond ((workTake (⟨xvr192, xvr193, xvr194, xvr195⟩ : WorkT)).2.2)
          (cond ((fun (x : List ByteArray) (_ : ByteArray) => smL smStr x) vr1536 ((workTake (⟨xvr192, xvr193, xvr194, xvr195⟩ : WorkT)).2.1))
            (k' .normal ⟨[(3, .c (.one (.pt 3 0))), (4, .c (.one (.h 1536 0 0 []))), (6, .c (.one (.h 1664 0 0 []))), (16, .c (.one (.v (.int .i64 (IntKind.wrap .i64 (vs16 + (1 : Int)))))))], [(3, ⟨.work, [.h 192 0 0 [], .h 193 0 0 [], .h 194 0 0 [], .h 195 0 0 []]⟩)], [(192, .live ⟨.str, .deep, 0, [], (WorkT.list ((workTake (⟨xvr192, xvr193, xvr194, xvr195⟩ : WorkT)).1))⟩), (193, .live ⟨.str, .deep, 0, [], (WorkT.busy ((workTake (⟨xvr192, xvr193, xvr194, xvr195⟩ : WorkT)).1))⟩), (194, .live ⟨.str, .deep, 0, [], (WorkT.again ((workTake (⟨xvr192, xvr193, xvr194, xvr195⟩ : WorkT)).1))⟩), (195, .live ⟨.fail, .deep, 0, [], (WorkT.fails ((workTake (⟨xvr192, xvr193, xvr194, xvr195⟩ : WorkT)).1))⟩), (1536, .live ⟨.str, .deep, 0, [], (butName vr1536 ((workTake (⟨xvr192, xvr193, xvr194, xvr195⟩ : WorkT)).2.1))⟩), (1664, .live ⟨.str, .deep, 0, [], vr1664⟩)]⟩)
            none)
          (k' .normal ⟨[(3, .c (.one (.pt 3 0))), (4, .c (.one (.h 1536 0 0 []))), (6, .c (.one (.h 1664 0 0 []))), (16, .c (.one (.v (.int .i64 (IntKind.wrap .i64 (vs16 + (1 : Int)))))))], [(3, ⟨.work, [.h 192 0 0 [], .h 193 0 0 [], .h 194 0 0 [], .h 195 0 0 []]⟩)], [(192, .live ⟨.str, .deep, 0, [], (WorkT.list ((workTake (⟨xvr192, xvr193, xvr194, xvr195⟩ : WorkT)).1))⟩), (193, .live ⟨.str, .deep, 0, [], (WorkT.busy ((workTake (⟨xvr192, xvr193, xvr194, xvr195⟩ : WorkT)).1))⟩), (194, .live ⟨.str, .deep, 0, [], (WorkT.again ((workTake (⟨xvr192, xvr193, xvr194, xvr195⟩ : WorkT)).1))⟩), (195, .live ⟨.fail, .deep, 0, [], (WorkT.fails ((workTake (⟨xvr192, xvr193, xvr194, xvr195⟩ : WorkT)).1))⟩), (1536, .live ⟨.str, .deep, 0, [], vr1536⟩), (1664, .live ⟨.str, .deep, 0, [], vr1664⟩)]⟩))
        none)) vs16 vr1536 vr1664 n (0 : Int) vr192 vr193 vr194 vr195)
    (k' (.exit 3) ⟨[(3, .c (.one (.pt 3 0))), (4, .c (.one (.h 1536 0 0 []))), (6, .c (.one (.h 1664 0 0 []))), (16, .c (.one (.v (.int .i64 vs16)))), (103, .c (.one (.v (.bool (decide (vs16 < (20 : Int)))))))], [(3, ⟨.work, [.h 192 0 0 [], .h 193 0 0 [], .h 194 0 0 [], .h 195 0 0 []]⟩)], [(192, .live ⟨.str, .deep, 0, [], vr192⟩), (193, .live ⟨.str, .deep, 0, [], vr193⟩), (194, .live ⟨.str, .deep, 0, [], vr194⟩), (195, .live ⟨.fail, .deep, 0, [], vr195⟩), (1536, .live ⟨.str, .deep, 0, [], vr1536⟩), (1664, .live ⟨.str, .deep, 0, [], vr1664⟩)]⟩)) := by
  refine Eq.trans (b := (cond (decide (vs16 < (20 : Int)))
    (iter (fun st k => ev f5e f5k n (cAt [1,1,1,1,1,1,1,0,1,0,0,1,0,0,0,1,0,0] f5c) st k) n ⟨[(3, .c (.one (.pt 3 0))), (4, .c (.one (.h 1536 0 0 []))), (6, .c (.one (.h 1664 0 0 []))), (16, .c (.one (.v (.int .i64 vs16)))), (17, .c (.one (.v (.int .i64 (0 : Int)))))], [(3, ⟨.work, [.h 192 0 0 [], .h 193 0 0 [], .h 194 0 0 [], .h 195 0 0 []]⟩)], [(192, .live ⟨.str, .deep, 0, [], vr192⟩), (193, .live ⟨.str, .deep, 0, [], vr193⟩), (194, .live ⟨.str, .deep, 0, [], vr194⟩), (195, .live ⟨.fail, .deep, 0, [], vr195⟩), (1536, .live ⟨.str, .deep, 0, [], vr1536⟩), (1664, .live ⟨.str, .deep, 0, [], vr1664⟩)]⟩ (f5K1 n k'))
    (k' (.exit 3) ⟨[(3, .c (.one (.pt 3 0))), (4, .c (.one (.h 1536 0 0 []))), (6, .c (.one (.h 1664 0 0 []))), (16, .c (.one (.v (.int .i64 vs16)))), (103, .c (.one (.v (.bool (decide (vs16 < (20 : Int)))))))], [(3, ⟨.work, [.h 192 0 0 [], .h 193 0 0 [], .h 194 0 0 [], .h 195 0 0 []]⟩)], [(192, .live ⟨.str, .deep, 0, [], vr192⟩), (193, .live ⟨.str, .deep, 0, [], vr193⟩), (194, .live ⟨.str, .deep, 0, [], vr194⟩), (195, .live ⟨.fail, .deep, 0, [], vr195⟩), (1536, .live ⟨.str, .deep, 0, [], vr1536⟩), (1664, .live ⟨.str, .deep, 0, [], vr1664⟩)]⟩))) (by kernel_rfl) ?_
  simp only [f5L1_eq, f5K1_x0]
theorem f5L2_eq {R : Type} (n : Nat) (k' : Ex → St → Option R) (vr1664 : List ByteArray) : ∀ (m : Nat) (vs16 : Int) (vr192 : List ByteArray) (vr193 : List ByteArray) (vr194 : List ByteArray) (vr195 : List FailT) (vr1536 : List ByteArray), iter (fun st k => ev f5e f5k n (cAt [1,1,1,1,1,1,1,0,1,0,0] f5c) st k) m ⟨[(3, .c (.one (.pt 3 0))), (4, .c (.one (.h 1536 0 0 []))), (6, .c (.one (.h 1664 0 0 []))), (16, .c (.one (.v (.int .i64 vs16))))], [(3, ⟨.work, [.h 192 0 0 [], .h 193 0 0 [], .h 194 0 0 [], .h 195 0 0 []]⟩)], [(192, .live ⟨.str, .deep, 0, [], vr192⟩), (193, .live ⟨.str, .deep, 0, [], vr193⟩), (194, .live ⟨.str, .deep, 0, [], vr194⟩), (195, .live ⟨.fail, .deep, 0, [], vr195⟩), (1536, .live ⟨.str, .deep, 0, [], vr1536⟩), (1664, .live ⟨.str, .deep, 0, [], vr1664⟩)]⟩ k' = f5L2 n (fun (xvs16 : Int) (xvs103 : Bool) (xvr192 : List ByteArray) (xvr193 : List ByteArray) (xvr194 : List ByteArray) (xvr195 : List FailT) (xvr1536 : List ByteArray) => k' (.exit 3) ⟨[(3, .c (.one (.pt 3 0))), (4, .c (.one (.h 1536 0 0 []))), (6, .c (.one (.h 1664 0 0 []))), (16, .c (.one (.v (.int .i64 xvs16)))), (103, .c (.one (.v (.bool xvs103))))], [(3, ⟨.work, [.h 192 0 0 [], .h 193 0 0 [], .h 194 0 0 [], .h 195 0 0 []]⟩)], [(192, .live ⟨.str, .deep, 0, [], xvr192⟩), (193, .live ⟨.str, .deep, 0, [], xvr193⟩), (194, .live ⟨.str, .deep, 0, [], xvr194⟩), (195, .live ⟨.fail, .deep, 0, [], xvr195⟩), (1536, .live ⟨.str, .deep, 0, [], xvr1536⟩), (1664, .live ⟨.str, .deep, 0, [], vr1664⟩)]⟩) vr1664 m vs16 vr192 vr193 vr194 vr195 vr1536 := by
  intro m; induction m with
  | zero => intros; rfl
  | succ m ih =>
    intro vs16 vr192 vr193 vr194 vr195 vr1536
    simp only [iter]
    rw [f5L2_b]
    simp only [ih, f5L2]

noncomputable def f5K2 {R : Type} (n : Nat) (k' : Ex → St → Option R) : Ex → St → Option R := (blockK 3 (seqK f5e f5k n (cAt [1,1,1,1,1,1,1,1] f5c) k'))
theorem f5K2_x0 {R : Type} (n : Nat) (k : List Dt → Option R) (a0 : List Int) (vr1664 : List ByteArray) (xvs16 : Int) (xvs103 : Bool) (xvr192 : List ByteArray) (xvr193 : List ByteArray) (xvr194 : List ByteArray) (xvr195 : List FailT) (xvr1536 : List ByteArray) : f5K2 n (exitK f5e [.ro] [false] true [.tmp 2] [4] [.d (.sl (.i .u8)) a0] k) (.exit 3) ⟨[(3, .c (.one (.pt 3 0))), (4, .c (.one (.h 1536 0 0 []))), (6, .c (.one (.h 1664 0 0 []))), (16, .c (.one (.v (.int .i64 xvs16)))), (103, .c (.one (.v (.bool xvs103))))], [(3, ⟨.work, [.h 192 0 0 [], .h 193 0 0 [], .h 194 0 0 [], .h 195 0 0 []]⟩)], [(192, .live ⟨.str, .deep, 0, [], xvr192⟩), (193, .live ⟨.str, .deep, 0, [], xvr193⟩), (194, .live ⟨.str, .deep, 0, [], xvr194⟩), (195, .live ⟨.fail, .deep, 0, [], xvr195⟩), (1536, .live ⟨.str, .deep, 0, [], xvr1536⟩), (1664, .live ⟨.str, .deep, 0, [], vr1664⟩)]⟩ =
    (cond ((xvr1536.length : Int) == (0 : Int))
    (cond (sm_work (⟨xvr192, xvr193, xvr194, xvr195⟩ : WorkT))
      (cond (workQOk (⟨xvr192, xvr193, xvr194, xvr195⟩ : WorkT))
        (cond (sm_work (⟨xvr192, xvr193, xvr194, xvr195⟩ : WorkT))
          (cond (sm_work (⟨xvr192, xvr193, xvr194, xvr195⟩ : WorkT))
            (k [.d .bool ((workQOk (⟨xvr192, xvr193, xvr194, xvr195⟩ : WorkT)) == (workQOk (⟨xvr192, xvr193, xvr194, xvr195⟩ : WorkT)))])
            none)
          none)
        (k [.d .bool false]))
      none)
    (k [.d .bool false])) := by kernel_rfl

noncomputable def f5K0 {R : Type} (n : Nat) (k' : Ex → St → Option R) : Ex → St → Option R := (blockK 0 (seqK f5e f5k n (cAt [1,1,1,1,1,1,1] f5c) k'))
theorem f5K0_x0 {R : Type} (n : Nat) (k : List Dt → Option R) (a0 : List Int)  : f5K0 n (exitK f5e [.ro] [false] true [.tmp 2] [4] [.d (.sl (.i .u8)) a0] k) .ret ⟨[(2, .c (.one (.v (.bool false))))], [], []⟩ =
    (k [.d .bool false]) := by kernel_rfl
theorem f5K0_x1 {R : Type} (n : Nat) (k : List Dt → Option R) (a0 : List Int) (vs0 : List Int) (vr1664 : List ByteArray) (xvs7 : Int) (xvs28 : Bool) (xvr192 : List ByteArray) (xvr193 : List ByteArray) (xvr194 : List ByteArray) (xvr195 : List FailT) (xvr1536 : List ByteArray) (xvr1600 : List ByteArray) : f5K0 n (exitK f5e [.ro] [false] true [.tmp 2] [4] [.d (.sl (.i .u8)) a0] k) (.exit 0) ⟨[(0, .c (.one (.ro (.i .u8) vs0))), (3, .c (.one (.pt 3 0))), (4, .c (.one (.h 1536 0 0 []))), (5, .c (.one (.h 1600 0 0 []))), (6, .c (.one (.h 1664 0 0 []))), (7, .c (.one (.v (.int .i64 xvs7)))), (28, .c (.one (.v (.bool xvs28))))], [(3, ⟨.work, [.h 192 0 0 [], .h 193 0 0 [], .h 194 0 0 [], .h 195 0 0 []]⟩)], [(192, .live ⟨.str, .deep, 0, [], xvr192⟩), (193, .live ⟨.str, .deep, 0, [], xvr193⟩), (194, .live ⟨.str, .deep, 0, [], xvr194⟩), (195, .live ⟨.fail, .deep, 0, [], xvr195⟩), (1536, .live ⟨.str, .deep, 0, [], xvr1536⟩), (1600, .live ⟨.str, .deep, 0, [], xvr1600⟩), (1664, .live ⟨.str, .deep, 0, [], vr1664⟩)]⟩ =
    (f5L2 n (fun (xvs16 : Int) (xvs103 : Bool) (xvr192 : List ByteArray) (xvr193 : List ByteArray) (xvr194 : List ByteArray) (xvr195 : List FailT) (xvr1536 : List ByteArray) =>
    (cond ((xvr1536.length : Int) == (0 : Int))
      (cond (sm_work (⟨xvr192, xvr193, xvr194, xvr195⟩ : WorkT))
        (cond (workQOk (⟨xvr192, xvr193, xvr194, xvr195⟩ : WorkT))
          (cond (sm_work (⟨xvr192, xvr193, xvr194, xvr195⟩ : WorkT))
            (cond (sm_work (⟨xvr192, xvr193, xvr194, xvr195⟩ : WorkT))
              (k [.d .bool ((workQOk (⟨xvr192, xvr193, xvr194, xvr195⟩ : WorkT)) == (workQOk (⟨xvr192, xvr193, xvr194, xvr195⟩ : WorkT)))])
              none)
            none)
          (k [.d .bool false]))
        none)
      (k [.d .bool false]))) vr1664 n (0 : Int) xvr192 xvr193 xvr194 xvr195 xvr1536) := by
  refine Eq.trans (b := (iter (fun st k => ev f5e f5k n (cAt [1,1,1,1,1,1,1,0,1,0,0] f5c) st k) n ⟨[(3, .c (.one (.pt 3 0))), (4, .c (.one (.h 1536 0 0 []))), (6, .c (.one (.h 1664 0 0 []))), (16, .c (.one (.v (.int .i64 (0 : Int)))))], [(3, ⟨.work, [.h 192 0 0 [], .h 193 0 0 [], .h 194 0 0 [], .h 195 0 0 []]⟩)], [(192, .live ⟨.str, .deep, 0, [], xvr192⟩), (193, .live ⟨.str, .deep, 0, [], xvr193⟩), (194, .live ⟨.str, .deep, 0, [], xvr194⟩), (195, .live ⟨.fail, .deep, 0, [], xvr195⟩), (1536, .live ⟨.str, .deep, 0, [], xvr1536⟩), (1664, .live ⟨.str, .deep, 0, [], vr1664⟩)]⟩ (f5K2 n (exitK f5e [.ro] [false] true [.tmp 2] [4] [.d (.sl (.i .u8)) a0] k)))) (by kernel_rfl) ?_
  simp only [f5L2_eq, f5K2_x0]

theorem f5_run {R : Type} (n : Nat) (k : List Dt → Option R) (a0 : List Int) : evFn f5e f5k n f5c [.ro] [false] true [.tmp 2] [4] [.d (.sl (.i .u8)) a0] k =
    (cond (bigC a0)
    (k [.d .bool true])
    (f5L0 n (k [.d .bool false]) (fun (xvs7 : Int) (xvs28 : Bool) (xvr192 : List ByteArray) (xvr193 : List ByteArray) (xvr194 : List ByteArray) (xvr195 : List FailT) (xvr1536 : List ByteArray) (xvr1600 : List ByteArray) =>
      (f5L2 n (fun (xvs16 : Int) (xvs103 : Bool) (xvr192 : List ByteArray) (xvr193 : List ByteArray) (xvr194 : List ByteArray) (xvr195 : List FailT) (xvr1536 : List ByteArray) =>
        (cond ((xvr1536.length : Int) == (0 : Int))
          (cond (sm_work (⟨xvr192, xvr193, xvr194, xvr195⟩ : WorkT))
            (cond (workQOk (⟨xvr192, xvr193, xvr194, xvr195⟩ : WorkT))
              (cond (sm_work (⟨xvr192, xvr193, xvr194, xvr195⟩ : WorkT))
                (cond (sm_work (⟨xvr192, xvr193, xvr194, xvr195⟩ : WorkT))
                  (k [.d .bool ((workQOk (⟨xvr192, xvr193, xvr194, xvr195⟩ : WorkT)) == (workQOk (⟨xvr192, xvr193, xvr194, xvr195⟩ : WorkT)))])
                  none)
                none)
              (k [.d .bool false]))
            none)
          (k [.d .bool false]))) [(bs [97]), (bs [98]), (bs [99]), (bs [100])] n (0 : Int) xvr192 xvr193 xvr194 xvr195 xvr1536)) a0 [(bs [97]), (bs [98]), (bs [99]), (bs [100])] n (0 : Int) ([] : List ByteArray) ([] : List ByteArray) ([] : List ByteArray) ([] : List FailT) ([] : List ByteArray) ([] : List ByteArray))) := by
  refine Eq.trans (b := (cond (bigC a0)
    (k [.d .bool true])
    (iter (fun st k => ev f5e f5k n (cAt [1,1,1,1,1,1,0,1,0,0] f5c) st k) n ⟨[(0, .c (.one (.ro (.i .u8) a0))), (3, .c (.one (.pt 3 0))), (4, .c (.one (.h 1536 0 0 []))), (5, .c (.one (.h 1600 0 0 []))), (6, .c (.one (.h 1664 0 0 []))), (7, .c (.one (.v (.int .i64 (0 : Int)))))], [(3, ⟨.work, [.h 192 0 0 [], .h 193 0 0 [], .h 194 0 0 [], .h 195 0 0 []]⟩)], [(192, .live ⟨.str, .deep, 0, [], ([] : List ByteArray)⟩), (193, .live ⟨.str, .deep, 0, [], ([] : List ByteArray)⟩), (194, .live ⟨.str, .deep, 0, [], ([] : List ByteArray)⟩), (195, .live ⟨.fail, .deep, 0, [], ([] : List FailT)⟩), (1536, .live ⟨.str, .deep, 0, [], ([] : List ByteArray)⟩), (1600, .live ⟨.str, .deep, 0, [], ([] : List ByteArray)⟩), (1664, .live ⟨.str, .deep, 0, [], ([(bs [97]), (bs [98]), (bs [99]), (bs [100])] : List ByteArray)⟩)]⟩ (f5K0 n (exitK f5e [.ro] [false] true [.tmp 2] [4] [.d (.sl (.i .u8)) a0] k))))) (by kernel_rfl) ?_
  simp only [f5L0_eq, f5K0_x0, f5K0_x1, f5L2_eq, f5K2_x0]
set_option maxHeartbeats 8000000 in
theorem f5_spec (a0 : List Int) (hg : gU8 a0 = true) : ∃ keep rounds, ∀ {R : Type} (k : List Dt → Option R), evFn f5e keep rounds f5c [.ro] [false] true [.tmp 2] [4] [.d (.sl (.i .u8)) a0] k = k [.d .bool ((fun (_ : List Int) => true) a0)] := by
  refine ⟨f5k, 61, fun {R} k => ?_⟩
  rw [f5_run]
  show _ = k [.d .bool true]
  cases hbig : bigC a0
  rotate_left
  · rfl
  have hl : a0.length ≤ 1048576 := by
    have : ¬ ((a0.length : Int) > 1048576) := of_decide_eq_false hbig
    omega
  rw [cond_false, show ([(bs [97]), (bs [98]), (bs [99]), (bs [100])] : List ByteArray) = four from rfl]
  generalize hX : (fun (xvs7 : Int) (xvs28 : Bool) (xvr192 : List ByteArray) (xvr193 : List ByteArray) (xvr194 : List ByteArray) (xvr195 : List FailT) (xvr1536 : List ByteArray) (xvr1600 : List ByteArray) => _) = X
  have limF : ∀ {l : List ByteArray}, l.length ≤ 4 → Nat.ble (l.length + 1) LIM = true := fun h => Nat.ble_eq_true_of_le (by have : (LIM : Nat) = 4294967296 := rfl; omega)
  have nmem : ∀ q, q < 4 → atI (t := .str) four q ∈ four := fun q hq => List.mem_of_getElem? (atI_lt (t := .str) (xs := four) (i := q) (by rw [four_len]; exact hq))
  have inner : ∀ (Z : Int → Bool → List ByteArray → List ByteArray → List ByteArray → List FailT → Option R) (j : Int) (asked : List ByteArray) (d i m : Nat) (w : WorkT) (busy : List ByteArray), i + d = 4 → d < m → Round w asked busy → (∀ q, q < i → atI (t := .str) four q ∉ w.busy) →
      (∀ w' busy', Round w' asked busy' → (∀ q, q < 4 → atI (t := .str) four q ∉ w'.busy) → ∀ i b, Z i b w'.list w'.busy w'.again w'.fails = k [.d .bool true]) → f5L1 61 Z j asked four m (i : Int) w.list w.busy w.again w.fails = k [.d .bool true] := by
    intro Z j asked d
    induction d with
    | zero =>
      intro i m w busy hi hm hR hq hZ
      obtain ⟨m, rfl⟩ : ∃ m', m = m' + 1 := ⟨m - 1, by omega⟩
      have : i = 4 := by omega
      subst this
      have hd : decide (((4 : Nat) : Int) < (4 : Int)) = false := rfl
      simp only [f5L1, hd, cond_false]
      exact hZ w busy hR hq _ _
    | succ d ih =>
      intro i m w busy hi hm hR hq hZ
      obtain ⟨m, rfl⟩ : ∃ m', m = m' + 1 := ⟨m - 1, by omega⟩
      have hs := nmem i (by omega)
      have h1 : decide ((i : Int) < (4 : Int)) = true := decide_eq_true (by omega)
      have h2 : decide ((i : Int) < (four.length : Int)) = true := decide_eq_true (by rw [four_len]; omega)
      have h0 : decide ((0 : Int) ≤ (i : Int)) = true := decide_eq_true (by omega)
      have hw : IntKind.wrap .i64 ((i : Int) + (1 : Int)) = ((i + 1 : Nat) : Int) := by rw [wrap_id (by omega) (by omega)]; rfl
      have hgd : gDoneW w (atI (t := .str) four i) true = true := by simp only [gDoneW, hR.inv.sm, (four_ok _ hs).2, Bool.and_self]
      simp only [f5L1, h1, h2, h0, hw, Int.toNat_natCast, eta_work, hgd, Bool.and_self, cond_true]
      refine ih (i + 1) m _ _ (by omega) (by omega) (hR.done (atI (t := .str) four i)).2 (fun q hqi => ?_) hZ
      rw [(hR.inv.done (atI (t := .str) four i)).2.2.1, mem_butName]
      rintro ⟨h3, h4⟩
      by_cases e : q = i
      · subst e; exact h4 rfl
      · exact hq q (by omega) h3
  have key2 : ∀ (Y : Int → Bool → List ByteArray → List ByteArray → List ByteArray → List FailT → List ByteArray → Option R), (∀ w, WInv w → ∀ i b, Y i b w.list w.busy w.again w.fails [] = k [.d .bool true]) →
      ∀ (d j m : Nat) (w : WorkT) (asked busy : List ByteArray), j + d = 20 → d < m → Round w asked busy → (asked.length + j ≤ 4 ∨ asked = []) → f5L2 61 Y four m (j : Int) w.list w.busy w.again w.fails asked = k [.d .bool true] := by
    intro Y hY d
    induction d with
    | zero =>
      intro j m w asked busy hj hm hR hb
      obtain ⟨m, rfl⟩ : ∃ m', m = m' + 1 := ⟨m - 1, by omega⟩
      have : j = 20 := by omega
      subst this
      have hd : decide (((20 : Nat) : Int) < (20 : Int)) = false := rfl
      have ha : asked = [] := hb.elim (fun h => by omega) id
      subst ha
      simp only [f5L2, hd, cond_false]
      exact hY w hR.inv _ _
    | succ d ih =>
      intro j m w asked busy hj hm hR hb
      obtain ⟨m, rfl⟩ : ∃ m', m = m' + 1 := ⟨m - 1, by omega⟩
      have h1 : decide ((j : Int) < (20 : Int)) = true := decide_eq_true (by omega)
      have hw : IntKind.wrap .i64 ((j : Int) + (1 : Int)) = ((j + 1 : Nat) : Int) := by rw [wrap_id (by omega) (by omega)]; rfl
      simp only [f5L2, h1, cond_true]
      refine inner _ (j : Int) asked 4 0 61 w busy (by omega) (by omega) hR (fun q hq => by omega) fun w' busy' hR' hq i b => ?_
      have hid := hR'.idle fun s hs => by
        obtain ⟨q, hq'⟩ := List.getElem?_of_mem hs
        have hql := el_lt hq'
        rw [four_len] at hql
        rw [← atI_of (t := .str) hq']
        exact hq q hql
      simp only [eta_work, hR'.inv.sm, hw, cond_true]
      cases hlist : w'.list with
      | nil =>
        have ha : asked = [] := by
          cases he : asked with
          | nil => rfl
          | cons x r =>
            rcases (hR'.asked x).1 (by rw [he]; simp) with h | h
            · rw [hlist] at h; cases h
            · rw [hid.2] at h; cases h
        rw [hR'.inv.take0 hlist]
        simp only [cond_false]
        exact ih (j + 1) m w' asked busy' (by omega) (by omega) hR' (.inr ha)
      | cons x r =>
        obtain ⟨h3, _, _, _, h4, _⟩ := hR'.inv.take1 hlist
        have hx := (hR'.asked x).2 h4
        have hlt := butName_lt hx
        rw [h3]
        simp only [hR'.sm.1, cond_true]
        refine ih (j + 1) m (takeN w' x r) (butName asked x) _ (by omega) (by omega) (hR'.take hlist).1 (.inl ?_)
        rcases hb with hb | hb
        · omega
        · rw [hb] at hx; cases hx
  have fin : ∀ (w : WorkT) (asked busy : List ByteArray) (i : Int) (b : Bool), Round w asked busy → X i b w.list w.busy w.again w.fails asked busy = k [.d .bool true] := by
    intro w asked busy i b hR
    rw [← hX]
    refine key2 _ (fun w' h i b => ?_) 20 0 61 w asked busy (by omega) (by omega) hR (.inl (by have := hR.sm.2.1; omega))
    have e0 : ((([] : List ByteArray).length : Int) == (0 : Int)) = true := rfl
    simp only [e0, eta_work, h.sm, h.ok, cond_true, beq_self_eq_true]
  have key : ∀ (d j m : Nat) (w : WorkT) (asked busy : List ByteArray), j + d = 60 → d < m → Round w asked busy → f5L0 61 (k [.d .bool false]) X a0 four m (j : Int) w.list w.busy w.again w.fails asked busy = k [.d .bool true] := by
    intro d
    induction d with
    | zero =>
      intro j m w asked busy hj hm hR
      obtain ⟨m, rfl⟩ : ∃ m', m = m' + 1 := ⟨m - 1, by omega⟩
      rw [f5L0]
      refine cF (decide_eq_false (by omega)) ?_
      exact fin w asked busy _ _ hR
    | succ d ih =>
      intro j m w asked busy hj hm hR
      obtain ⟨m, rfl⟩ : ∃ m', m = m' + 1 := ⟨m - 1, by omega⟩
      have h1 : decide ((j : Int) < (60 : Int)) = true := decide_eq_true (by omega)
      have h0 : decide ((0 : Int) ≤ (j : Int)) = true := decide_eq_true (by omega)
      have hw : IntKind.wrap .i64 ((j : Int) + (1 : Int)) = ((j + 1 : Nat) : Int) := by rw [wrap_id (by omega) (by omega)]; rfl
      obtain ⟨c0, c1⟩ := atC_bd hg hl (i := (j : Int)) (by omega) (by omega)
      obtain ⟨cn, hc⟩ := Int.eq_ofNat_of_zero_le c0
      have e1 : Int.tdiv (cn : Int) 4 = ((cn / 4 : Nat) : Int) := rfl
      have e2 : IntKind.wrap .i64 ((cn / 4 : Nat) : Int) = ((cn / 4 : Nat) : Int) := wrap_id (by omega) (by omega)
      have e3 : Int.tmod ((cn / 4 : Nat) : Int) 4 = ((cn / 4 % 4 : Nat) : Int) := rfl
      have e4 : Int.tmod (cn : Int) 4 = ((cn % 4 : Nat) : Int) := rfl
      generalize hi : cn / 4 % 4 = i at e3
      have hi4 : i < 4 := by omega
      have hs := nmem i hi4
      have h2 : decide ((i : Int) < (four.length : Int)) = true := decide_eq_true (by rw [four_len]; omega)
      have h3 : decide ((0 : Int) ≤ (i : Int)) = true := decide_eq_true (by omega)
      generalize hn : atI (t := .str) four i = n at hs
      obtain ⟨sa, la, sb, lb⟩ := hR.sm
      have ga := gLenW_sm sa
      have gb := gLenW_sm sb
      have fa := limF la
      have fb := limF lb
      have hga : gAddW w n = true := by simp only [gAddW, hR.inv.sm, (four_ok _ hs).2, Bool.and_self]
      have hgd : gDoneW w n true = true := by simp only [gDoneW, hR.inv.sm, (four_ok _ hs).2, Bool.and_self]
      obtain ⟨hadd, _⟩ := hR.inv.add hs
      obtain ⟨hdone, hRd⟩ := hR.done n
      have hRa := hR.add hs
      have four4 : cn % 4 = 0 ∨ cn % 4 = 1 ∨ cn % 4 = 2 ∨ cn % 4 = 3 := by omega
      have hidx : Int.tmod (IntKind.wrap .i64 (Int.tdiv (atC a0 (j : Int)) (4 : Int))) (4 : Int) = (i : Int) := by rw [hc, e1, e2, e3]
      have hname : atI (t := .str) four (Int.toNat (Int.tmod (IntKind.wrap .i64 (Int.tdiv (atC a0 (j : Int)) (4 : Int))) (4 : Int))) = n := by rw [hidx, Int.toNat_natCast]; exact hn
      have htm : Int.tmod (atC a0 (j : Int)) (4 : Int) = ((cn % 4 : Nat) : Int) := by rw [hc, e4]
      have hrng : (decide ((0 : Int) ≤ (i : Int)) && decide ((i : Int) < (four.length : Int))) = true := by rw [h3, h2]; rfl
      clear fin key2 inner hX hn
      rw [f5L0]
      rw [hname, hidx, htm, hw, eta_work w]
      refine cT h1 (cT h0 (cT hrng (cT h0 ?_)))
      have hsm := hR.inv.sm
      have nadd : (!((workAdd w n).2)) = false := by rw [hadd]; rfl
      have ADD : (cond (gAddW w n) (cond (!((workAdd w n).2)) (k [.d .bool false]) (cond (gLenW asked) (cond (!(isIn asked n)) (cond (Nat.ble (asked.length + 1) LIM) (f5L0 61 (k [.d .bool false]) X a0 four m ((j + 1 : Nat) : Int) (workAdd w n).1.list (workAdd w n).1.busy (workAdd w n).1.again (workAdd w n).1.fails (asked ++ [n]) busy) none) (f5L0 61 (k [.d .bool false]) X a0 four m ((j + 1 : Nat) : Int) (workAdd w n).1.list (workAdd w n).1.busy (workAdd w n).1.again (workAdd w n).1.fails asked busy)) none)) none) = k [.d .bool true] := by
        refine cT hga (cF nadd (cT ga ?_))
        unfold askedA at hRa
        cases hq : isIn asked n
        · rw [hq] at hRa; exact cT rfl (cT fa (ih (j + 1) m _ _ _ (by omega) (by omega) hRa))
        · rw [hq] at hRa; exact cF rfl (ih (j + 1) m _ _ _ (by omega) (by omega) hRa)
      rcases four4 with h4 | h4 | h4 | h4 <;> rw [h4]
      · exact cT rfl (cT rfl ADD)
      · exact cF rfl (cT rfl ADD)
      · clear ADD
        refine cF rfl (cF rfl (cT rfl (cT hsm ?_)))
        cases hlist : w.list with
        | nil =>
          have h5 := hR.inv.take0 hlist
          have ih' := ih (j + 1) m w asked busy (by omega) (by omega) hR
          rw [h5]
          exact cF rfl (cF rfl ih')
        | cons x r =>
          obtain ⟨h5, _⟩ := hR.inv.take1 hlist
          obtain ⟨h6, h7⟩ := hR.take hlist
          have ih' := ih (j + 1) m _ _ _ (by omega) (by omega) h6
          rw [h5]
          exact cT rfl (cT gb (cF h7 (cT rfl (cT fb (cT sa ih')))))
      · clear ADD
        refine cF rfl (cF rfl (cF rfl (cT hgd (cT gb ?_))))
        rw [hdone]
        cases hq : isIn busy n
        · rw [butName_no hq] at hRd
          exact cF rfl (cF rfl (ih (j + 1) m _ _ _ (by omega) (by omega) hRd))
        · exact cF rfl (cT rfl (cT sb (ih (j + 1) m _ _ _ (by omega) (by omega) hRd)))
  exact key 60 0 61 ⟨[], [], [], []⟩ [] [] (by omega) (by omega) Round.start

noncomputable def q5 : List Dt → Option (Bool × List Dt)
  | [.d (.sl (.i .u8)) a0] => some ((gU8 a0), [.d .bool ((fun (_ : List Int) => true) a0)])
  | _ => none
noncomputable def s5 : Gm.Spec := Gm.Spec.of [.ro] [false] true q5
theorem good5 : Gm.Good Try.prog (5, s5) := by
  have hl : ∀ x ∈ [(16, s16), (17, s17), (18, s18), (19, s19), (20, s20), (21, s21), (22, s22), (23, s23), (24, s24)], Gm.Good Try.prog x := List.forall_mem_cons.2 ⟨good16, List.forall_mem_cons.2 ⟨good17, List.forall_mem_cons.2 ⟨good18, List.forall_mem_cons.2 ⟨good19, List.forall_mem_cons.2 ⟨good20, List.forall_mem_cons.2 ⟨good21, List.forall_mem_cons.2 ⟨good22, List.forall_mem_cons.2 ⟨good23, List.forall_mem_cons.2 ⟨good24, List.forall_mem_nil _⟩⟩⟩⟩⟩⟩⟩⟩⟩
  refine ⟨⟨spec_ok (tab_ok.env hl) (tab.natl hl) Try.func5 (by kernel_rfl : Try.f5.body = some f5c) [4] (by kernel_rfl) ?_, _, Try.func5, by kernel_rfl, of_decide_eq_true (by kernel_rfl)⟩, Gm.Spec.of_natl _ _ _ _⟩
  intro ds outs h
  unfold q5 at h
  split at h
  · simp only [Option.some.injEq, Prod.mk.injEq] at h; obtain ⟨hg, h⟩ := h; cases h; exact f5_spec _ hg
  · cases h
end Go.Proofs.Ytmeeoilfnahihaa

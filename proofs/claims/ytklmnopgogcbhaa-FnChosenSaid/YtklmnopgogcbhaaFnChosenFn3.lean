/- What the functions compute, part 3. No conditions. -/
import Derived.Test.YtklmnopgogcbhaaFnChosenFn2
/- x -/
namespace Go.Proofs.Ytklmnopgogcbhaa
open Go Go.Gm
/-! ### slices.Index[[]string,string] -/
noncomputable def f73S0 (y0 : List ByteArray) (y1 : ByteArray) (y2 : Int) (y3 : Int) : St := ⟨[(0, .c (.one (.ro .str y0))), (1, .c (.one (.v (.string y1)))), (7, .c (.one (.v (.int .i64 y2)))), (8, .c (.one (.v (.int .i64 y3))))], [], []⟩
noncomputable def f73S1 (y0 : Int) : St := ⟨[(4, .c (.one (.v (.int .i64 y0))))], [], []⟩
noncomputable def f73S2 (y0 : List ByteArray) (y1 : ByteArray) (y2 : Int) (y3 : Int) (y4 : Bool) : St := ⟨[(0, .c (.one (.ro .str y0))), (1, .c (.one (.v (.string y1)))), (7, .c (.one (.v (.int .i64 y2)))), (8, .c (.one (.v (.int .i64 y3)))), (9, .c (.one (.v (.bool y4))))], [], []⟩
noncomputable def f73c : Code := (Try.f73.body).getD .skip
def f73k : Nat → Kp := kat [⟨[0, 1], [], [], []⟩, ⟨[0, 1, 7, 8], [], [], []⟩, ⟨[0, 1, 7, 8, 9], [], [], []⟩, ⟨[0, 1, 5, 7, 8], [], [], []⟩, ⟨[0, 1, 5, 7, 8, 16], [], [], []⟩, ⟨[4], [], [], []⟩, ⟨[0, 1, 7, 8], [], [], []⟩, ⟨[4], [], [], []⟩]
noncomputable def f73e : Env := tab.env []
noncomputable def f73L0 {R : Type} (n : Nat) (x0 : Int → Option R) (x1 : Int → Bool → Option R) (vs0 : List ByteArray) (vs1 : ByteArray) (vs7 : Int) : Nat → Int → Option R
  | 0, _ => none
  | m + 1, vs8 =>
    (cond (decide (vs8 < vs7))
   (cond ((decide ((0 : Int) ≤ vs8)) && (decide (vs8 < (vs0.length : Int))))
    (cond (sEq vs1 (atI (t := .str) vs0 (Int.toNat vs8)))
     (x0 vs8)
     (f73L0 n x0 x1 vs0 vs1 vs7 m (IntKind.wrap .i64 (vs8 + (1 : Int)))))
    none)
   (x1 vs8 (decide (vs8 < vs7))))
theorem f73L0_b {R : Type} (n : Nat) (k' : Ex → St → Option R) (vs0 : List ByteArray) (vs1 : ByteArray) (vs7 : Int) (vs8 : Int) : ev f73e f73k n (cAt [1,0,1,0,0] f73c) (f73S0 vs0 vs1 vs7 vs8) k' =
    (cond (decide (vs8 < vs7))
  (cond ((decide ((0 : Int) ≤ vs8)) && (decide (vs8 < (vs0.length : Int))))
   (cond (sEq vs1 (atI (t := .str) vs0 (Int.toNat vs8)))
    (k' .ret (f73S1 vs8))
    (k' .normal (f73S0 vs0 vs1 vs7 (IntKind.wrap .i64 (vs8 + (1 : Int))))))
   none)
  (k' (.exit 0) (f73S2 vs0 vs1 vs7 vs8 (decide (vs8 < vs7))))) := by kernel_rfl
theorem f73L0_eq {R : Type} (n : Nat) (k' : Ex → St → Option R) (vs0 : List ByteArray) (vs1 : ByteArray) (vs7 : Int) : ∀ (m : Nat) (vs8 : Int), iter (fun st k => ev f73e f73k n (cAt [1,0,1,0,0] f73c) st k) m (f73S0 vs0 vs1 vs7 vs8) k' = f73L0 n (fun (xvs4 : Int) => k' .ret (f73S1 xvs4)) (fun (xvs8 : Int) (xvs9 : Bool) => k' (.exit 0) (f73S2 vs0 vs1 vs7 xvs8 xvs9)) vs0 vs1 vs7 m vs8 := by
  intro m; induction m with
  | zero => intros; rfl
  | succ m ih =>
    intro vs8
    simp only [iter]
    rw [f73L0_b]
    simp only [ih, f73L0]

noncomputable def f73K0 {R : Type} (n : Nat) (k' : Ex → St → Option R) : Ex → St → Option R := (blockK 0 (seqK f73e f73k n (cAt [1,1] f73c) k'))
theorem f73K0_x0 {R : Type} (n : Nat) (k : List Dt → Option R) (a0 : List ByteArray) (a1 : ByteArray) (xvs4 : Int) : f73K0 n (exitK f73e [.ro, .ro] [false] true [.tmp 4] [3] [.d (.sl .str) a0, .d .str a1] k) .ret (f73S1 xvs4) =
    (k [.d (.i .i64) xvs4]) := by kernel_rfl
theorem f73K0_x1 {R : Type} (n : Nat) (k : List Dt → Option R) (a0 : List ByteArray) (a1 : ByteArray) (vs0 : List ByteArray) (vs1 : ByteArray) (vs7 : Int) (xvs8 : Int) (xvs9 : Bool) : f73K0 n (exitK f73e [.ro, .ro] [false] true [.tmp 4] [3] [.d (.sl .str) a0, .d .str a1] k) (.exit 0) (f73S2 vs0 vs1 vs7 xvs8 xvs9) =
    (k [.d (.i .i64) (-1 : Int)]) := by kernel_rfl

theorem f73_run {R : Type} (n : Nat) (k : List Dt → Option R) (a0 : List ByteArray) (a1 : ByteArray) : evFn f73e f73k n f73c [.ro, .ro] [false] true [.tmp 4] [3] [.d (.sl .str) a0, .d .str a1] k =
    (f73L0 n (fun (xvs4 : Int) =>
  (k [.d (.i .i64) xvs4])) (fun (xvs8 : Int) (xvs9 : Bool) =>
  (k [.d (.i .i64) (-1 : Int)])) a0 a1 (a0.length : Int) n (0 : Int)) := by
  refine Eq.trans (b := (iter (fun st k => ev f73e f73k n (cAt [1,0,1,0,0] f73c) st k) n (f73S0 a0 a1 (a0.length : Int) (0 : Int)) (f73K0 n (exitK f73e [.ro, .ro] [false] true [.tmp 4] [3] [.d (.sl .str) a0, .d .str a1] k)))) (by kernel_rfl) ?_
  simp only [f73L0_eq, f73K0_x0, f73K0_x1]
theorem f73_spec (a0 : List ByteArray) (a1 : ByteArray) (hg : gLenW a0 = true) : ∃ keep rounds, ∀ {R : Type} (k : List Dt → Option R), evFn f73e keep rounds f73c [.ro, .ro] [false] true [.tmp 4] [3] [.d (.sl .str) a0, .d .str a1] k = k [.d (.i .i64) (idxS a0 a1)] := by
  have hl := gLenW_le hg
  refine ⟨f73k, a0.length + 1, fun k => ?_⟩
  rw [f73_run]
  refine Eq.trans (loop_find (n := a0.length) (F := fun m i => f73L0 (a0.length + 1) _ _ a0 a1 (a0.length : Int) m i) (p := fun j => sEq a1 (atI (t := .str) a0 j)) (hit := fun i => k [.d (.i .i64) i]) (miss := k [.d (.i .i64) (-1 : Int)])
    (fun m j hj => ?_) (fun m => by simp only [f73L0, idxE, cond_false]) a0.length 0 (a0.length + 1) (by omega) (by omega)) ?_
  · obtain ⟨h1, h0, hw, ht⟩ := idx hj (by omega)
    simp only [f73L0, h1, h0, hw, ht, Bool.and_self, cond_true]
  · show _ = k [.d (.i .i64) (plc _)]
    cases firstN (fun j => sEq a1 (atI (t := .str) a0 j)) 0 a0.length <;> rfl

noncomputable def q73 : List Dt → Option (Bool × List Dt)
  | [.d (.sl .str) a0, .d .str a1] => some (((fun (x : List ByteArray) (_ : ByteArray) => gLenW x) a0 a1), [.d (.i .i64) (idxS a0 a1)])
  | _ => none
noncomputable def s73 : Gm.Spec := Gm.Spec.of [.ro, .ro] [false] true q73
theorem good73 : Gm.Good Try.prog (73, s73) := by
  have hl : ∀ x ∈ ([] : List (Nat × Gm.Spec)), Gm.Good Try.prog x := fun _ h => by cases h
  refine ⟨⟨spec_ok (tab_ok.env hl) (tab.natl hl) Try.func73 (by kernel_rfl : Try.f73.body = some f73c) [3] (by kernel_rfl) ?_, _, Try.func73, by kernel_rfl, of_decide_eq_true (by kernel_rfl)⟩, Gm.Spec.of_natl _ _ _ _⟩
  intro ds outs h
  unfold q73 at h
  split at h
  · simp only [Option.some.injEq, Prod.mk.injEq] at h; obtain ⟨hg, h⟩ := h; cases h; exact f73_spec _ _ hg
  · cases h
/-! ### slices.Contains[[]string,string] -/
noncomputable def f51c : Code := (Try.f51.body).getD .skip
def f51k : Nat → Kp := kat [⟨[0, 1], [], [], []⟩, ⟨[4], [], [], []⟩]
noncomputable def f51e : Env := tab.env [(73, s73)]
theorem f51_run {R : Type} (n : Nat) (k : List Dt → Option R) (a0 : List ByteArray) (a1 : ByteArray) : evFn f51e f51k n f51c [.ro, .ro] [false] true [.tmp 4] [4] [.d (.sl .str) a0, .d .str a1] k =
    (cond ((fun (x : List ByteArray) (_ : ByteArray) => gLenW x) a0 a1)
  (k [.d .bool (decide ((idxS a0 a1) ≥ (0 : Int)))])
  none) := by kernel_rfl
theorem f51_spec (a0 : List ByteArray) (a1 : ByteArray) (hg : gLenW a0 = true) : ∃ keep rounds, ∀ {R : Type} (k : List Dt → Option R), evFn f51e keep rounds f51c [.ro, .ro] [false] true [.tmp 4] [4] [.d (.sl .str) a0, .d .str a1] k = k [.d .bool (isIn a0 a1)] := by
  refine ⟨f51k, 0, fun k => ?_⟩
  rw [f51_run]; simp only [hg, cond_true, idxS_isIn]

noncomputable def q51 : List Dt → Option (Bool × List Dt)
  | [.d (.sl .str) a0, .d .str a1] => some (((fun (x : List ByteArray) (_ : ByteArray) => gLenW x) a0 a1), [.d .bool (isIn a0 a1)])
  | _ => none
noncomputable def s51 : Gm.Spec := Gm.Spec.of [.ro, .ro] [false] true q51
theorem good51 : Gm.Good Try.prog (51, s51) := by
  have hl : ∀ x ∈ [(73, s73)], Gm.Good Try.prog x := List.forall_mem_cons.2 ⟨good73, List.forall_mem_nil _⟩
  refine ⟨⟨spec_ok (tab_ok.env hl) (tab.natl hl) Try.func51 (by kernel_rfl : Try.f51.body = some f51c) [4] (by kernel_rfl) ?_, _, Try.func51, by kernel_rfl, of_decide_eq_true (by kernel_rfl)⟩, Gm.Spec.of_natl _ _ _ _⟩
  intro ds outs h
  unfold q51 at h
  split at h
  · simp only [Option.some.injEq, Prod.mk.injEq] at h; obtain ⟨hg, h⟩ := h; cases h; exact f51_spec _ _ hg
  · cases h
/-! ### loop.example/g00465/spec.l25In -/
noncomputable def f47S0 (y0 : List ByteArray) (y1 : ByteArray) (y2 : Int) : St := ⟨[(0, .c (.one (.ro .str y0))), (1, .c (.one (.v (.string y1)))), (5, .c (.one (.v (.int .i64 y2))))], [], []⟩
noncomputable def f47S1 : St := ⟨[(4, .c (.one (.v (.bool true))))], [], []⟩
noncomputable def f47S2 (y0 : List ByteArray) (y1 : ByteArray) (y2 : Int) (y3 : Bool) : St := ⟨[(0, .c (.one (.ro .str y0))), (1, .c (.one (.v (.string y1)))), (5, .c (.one (.v (.int .i64 y2)))), (9, .c (.one (.v (.bool y3))))], [], []⟩
noncomputable def f47c : Code := (Try.f47.body).getD .skip
def f47k : Nat → Kp := kat [⟨[0, 1], [], [], []⟩, ⟨[0, 1, 5], [], [], []⟩, ⟨[0, 1, 5, 9], [], [], []⟩, ⟨[0, 1, 5], [], [], []⟩, ⟨[0, 1, 5, 17], [], [], []⟩, ⟨[4], [], [], []⟩, ⟨[4], [], [], []⟩]
noncomputable def f47e : Env := tab.env []
noncomputable def f47L0 {R : Type} (n : Nat) (x0 : Option R) (x1 : Int → Bool → Option R) (vs0 : List ByteArray) (vs1 : ByteArray) : Nat → Int → Option R
  | 0, _ => none
  | m + 1, vs5 =>
    (cond (decide (vs5 < (vs0.length : Int)))
   (cond ((decide ((0 : Int) ≤ vs5)) && (decide (vs5 < (vs0.length : Int))))
    (cond (sEq (atI (t := .str) vs0 (Int.toNat vs5)) vs1)
     (x0)
     (f47L0 n x0 x1 vs0 vs1 m (IntKind.wrap .i64 (vs5 + (1 : Int)))))
    none)
   (x1 vs5 (decide (vs5 < (vs0.length : Int)))))
theorem f47L0_b {R : Type} (n : Nat) (k' : Ex → St → Option R) (vs0 : List ByteArray) (vs1 : ByteArray) (vs5 : Int) : ev f47e f47k n (cAt [1,0,1,0,0] f47c) (f47S0 vs0 vs1 vs5) k' =
    (cond (decide (vs5 < (vs0.length : Int)))
  (cond ((decide ((0 : Int) ≤ vs5)) && (decide (vs5 < (vs0.length : Int))))
   (cond (sEq (atI (t := .str) vs0 (Int.toNat vs5)) vs1)
    (k' .ret f47S1)
    (k' .normal (f47S0 vs0 vs1 (IntKind.wrap .i64 (vs5 + (1 : Int))))))
   none)
  (k' (.exit 0) (f47S2 vs0 vs1 vs5 (decide (vs5 < (vs0.length : Int)))))) := by kernel_rfl
theorem f47L0_eq {R : Type} (n : Nat) (k' : Ex → St → Option R) (vs0 : List ByteArray) (vs1 : ByteArray) : ∀ (m : Nat) (vs5 : Int), iter (fun st k => ev f47e f47k n (cAt [1,0,1,0,0] f47c) st k) m (f47S0 vs0 vs1 vs5) k' = f47L0 n (k' .ret f47S1) (fun (xvs5 : Int) (xvs9 : Bool) => k' (.exit 0) (f47S2 vs0 vs1 xvs5 xvs9)) vs0 vs1 m vs5 := by
  intro m; induction m with
  | zero => intros; rfl
  | succ m ih =>
    intro vs5
    simp only [iter]
    rw [f47L0_b]
    simp only [ih, f47L0]

noncomputable def f47K0 {R : Type} (n : Nat) (k' : Ex → St → Option R) : Ex → St → Option R := (blockK 0 (seqK f47e f47k n (cAt [1,1] f47c) k'))
theorem f47K0_x0 {R : Type} (n : Nat) (k : List Dt → Option R) (a0 : List ByteArray) (a1 : ByteArray)  : f47K0 n (exitK f47e [.ro, .ro] [false] true [.tmp 4] [4] [.d (.sl .str) a0, .d .str a1] k) .ret f47S1 =
    (k [.d .bool true]) := by kernel_rfl
theorem f47K0_x1 {R : Type} (n : Nat) (k : List Dt → Option R) (a0 : List ByteArray) (a1 : ByteArray) (vs0 : List ByteArray) (vs1 : ByteArray) (xvs5 : Int) (xvs9 : Bool) : f47K0 n (exitK f47e [.ro, .ro] [false] true [.tmp 4] [4] [.d (.sl .str) a0, .d .str a1] k) (.exit 0) (f47S2 vs0 vs1 xvs5 xvs9) =
    (k [.d .bool false]) := by kernel_rfl

theorem f47_run {R : Type} (n : Nat) (k : List Dt → Option R) (a0 : List ByteArray) (a1 : ByteArray) : evFn f47e f47k n f47c [.ro, .ro] [false] true [.tmp 4] [4] [.d (.sl .str) a0, .d .str a1] k =
    (f47L0 n (k [.d .bool true]) (fun (xvs5 : Int) (xvs9 : Bool) =>
  (k [.d .bool false])) a0 a1 n (0 : Int)) := by
  refine Eq.trans (b := (iter (fun st k => ev f47e f47k n (cAt [1,0,1,0,0] f47c) st k) n (f47S0 a0 a1 (0 : Int)) (f47K0 n (exitK f47e [.ro, .ro] [false] true [.tmp 4] [4] [.d (.sl .str) a0, .d .str a1] k)))) (by kernel_rfl) ?_
  simp only [f47L0_eq, f47K0_x0, f47K0_x1]
theorem f47_spec (a0 : List ByteArray) (a1 : ByteArray) (hg : gLenW a0 = true) : ∃ keep rounds, ∀ {R : Type} (k : List Dt → Option R), evFn f47e keep rounds f47c [.ro, .ro] [false] true [.tmp 4] [4] [.d (.sl .str) a0, .d .str a1] k = k [.d .bool (isIn a0 a1)] := by
  have hl := gLenW_le hg
  refine ⟨f47k, a0.length + 1, fun k => ?_⟩
  rw [f47_run]
  refine Eq.trans (loop_find (n := a0.length) (F := fun m i => f47L0 (a0.length + 1) _ _ a0 a1 m i) (p := fun j => sEq (atI (t := .str) a0 j) a1) (hit := fun i => k [.d .bool true]) (miss := k [.d .bool false])
    (fun m j hj => ?_) (fun m => by simp only [f47L0, idxE, cond_false]) a0.length 0 (a0.length + 1) (by omega) (by omega)) ?_
  · obtain ⟨h1, h0, hw, ht⟩ := idx hj (by omega)
    simp only [f47L0, h1, h0, hw, ht, Bool.and_self, cond_true]
  · show _ = k [.d .bool (isIn a0 a1)]
    unfold isIn
    rw [← firstN_any (t := .str)]
    cases firstN (fun j => sEq (atI (t := .str) a0 j) a1) 0 a0.length <;> rfl

noncomputable def q47 : List Dt → Option (Bool × List Dt)
  | [.d (.sl .str) a0, .d .str a1] => some (((fun (x : List ByteArray) (_ : ByteArray) => gLenW x) a0 a1), [.d .bool (isIn a0 a1)])
  | _ => none
noncomputable def s47 : Gm.Spec := Gm.Spec.of [.ro, .ro] [false] true q47
theorem good47 : Gm.Good Try.prog (47, s47) := by
  have hl : ∀ x ∈ ([] : List (Nat × Gm.Spec)), Gm.Good Try.prog x := fun _ h => by cases h
  refine ⟨⟨spec_ok (tab_ok.env hl) (tab.natl hl) Try.func47 (by kernel_rfl : Try.f47.body = some f47c) [4] (by kernel_rfl) ?_, _, Try.func47, by kernel_rfl, of_decide_eq_true (by kernel_rfl)⟩, Gm.Spec.of_natl _ _ _ _⟩
  intro ds outs h
  unfold q47 at h
  split at h
  · simp only [Option.some.injEq, Prod.mk.injEq] at h; obtain ⟨hg, h⟩ := h; cases h; exact f47_spec _ _ hg
  · cases h
/-! ### loop.example/g00465/impl.Fits$1 -/
noncomputable def f50c : Code := (Try.f50.body).getD .skip
def f50k : Nat → Kp := kat [⟨[1, 2], [], [], []⟩, ⟨[3], [], [], []⟩]
noncomputable def f50e : Env := tab.env []
theorem f50_run {R : Type} (n : Nat) (k : List Dt → Option R) (a0 : NoteT) (a1 : PickT) : evFn f50e f50k n f50c [.ro, .pro] [false] true [.tmp 3] [4] [.d .note a0, .d .pick a1] k =
    (k [.d .bool (sEq (NoteT.key a0) (PickT.key a1))]) := by kernel_rfl
theorem f50_spec (a0 : NoteT) (a1 : PickT) : ∃ keep rounds, ∀ {R : Type} (k : List Dt → Option R), evFn f50e keep rounds f50c [.ro, .pro] [false] true [.tmp 3] [4] [.d .note a0, .d .pick a1] k = k [.d .bool (noteIs a0 a1)] := by
  exact ⟨f50k, 0, fun k => f50_run 0 k a0 a1⟩

noncomputable def q50 : List Dt → Option (Bool × List Dt)
  | [.d .note a0, .d .pick a1] => some (true, [.d .bool (noteIs a0 a1)])
  | _ => none
noncomputable def s50 : Gm.Spec := Gm.Spec.of [.ro, .pro] [false] true q50
theorem good50 : Gm.Good Try.prog (50, s50) := by
  have hl : ∀ x ∈ ([] : List (Nat × Gm.Spec)), Gm.Good Try.prog x := fun _ h => by cases h
  refine ⟨⟨spec_ok (tab_ok.env hl) (tab.natl hl) Try.func50 (by kernel_rfl : Try.f50.body = some f50c) [4] (by kernel_rfl) ?_, _, Try.func50, by kernel_rfl, of_decide_eq_true (by kernel_rfl)⟩, Gm.Spec.of_natl _ _ _ _⟩
  intro ds outs h
  unfold q50 at h
  split at h
  · cases h; exact f50_spec _ _
  · cases h
/-! ### slices.IndexFunc[[]loop.example/g00465/impl.Note,loop.example/g00465/impl.Note] -/
noncomputable def f49S0 (y0 : List NoteT) (y1 : PickT) (y2 : Int) (y3 : Int) : St := ⟨[(0, .c (.one (.ro .note y0))), (1, .c (.one (.cloR 50 [⟨.pick, y1⟩]))), (7, .c (.one (.v (.int .i64 y2)))), (8, .c (.one (.v (.int .i64 y3))))], [], []⟩
noncomputable def f49S1 (y0 : Int) : St := ⟨[(4, .c (.one (.v (.int .i64 y0))))], [], []⟩
noncomputable def f49S2 (y0 : List NoteT) (y1 : PickT) (y2 : Int) (y3 : Int) (y4 : Bool) : St := ⟨[(0, .c (.one (.ro .note y0))), (1, .c (.one (.cloR 50 [⟨.pick, y1⟩]))), (7, .c (.one (.v (.int .i64 y2)))), (8, .c (.one (.v (.int .i64 y3)))), (9, .c (.one (.v (.bool y4))))], [], []⟩
noncomputable def f49c : Code := (Try.f49.body).getD .skip
def f49k : Nat → Kp := kat [⟨[0, 1], [], [], []⟩, ⟨[0, 1, 7, 8], [], [], []⟩, ⟨[0, 1, 7, 8, 9], [], [], []⟩, ⟨[0, 1, 5, 7, 8], [], [], []⟩, ⟨[0, 1, 5, 7, 8, 16], [], [], []⟩, ⟨[4], [], [], []⟩, ⟨[0, 1, 7, 8], [], [], []⟩, ⟨[4], [], [], []⟩]
noncomputable def f49e : Env := tab.env [(50, s50)]
noncomputable def f49L0 {R : Type} (n : Nat) (x0 : Int → Option R) (x1 : Int → Bool → Option R) (vs0 : List NoteT) (vs1c0 : PickT) (vs7 : Int) : Nat → Int → Option R
  | 0, _ => none
  | m + 1, vs8 =>
    (cond (decide (vs8 < vs7))
   (cond ((decide ((0 : Int) ≤ vs8)) && (decide (vs8 < (vs0.length : Int))))
    (cond (noteIs (atI (t := .note) vs0 (Int.toNat vs8)) vs1c0)
     (x0 vs8)
     (f49L0 n x0 x1 vs0 vs1c0 vs7 m (IntKind.wrap .i64 (vs8 + (1 : Int)))))
    none)
   (x1 vs8 (decide (vs8 < vs7))))
theorem f49L0_b {R : Type} (n : Nat) (k' : Ex → St → Option R) (vs0 : List NoteT) (vs1c0 : PickT) (vs7 : Int) (vs8 : Int) : ev f49e f49k n (cAt [1,0,1,0,0] f49c) (f49S0 vs0 vs1c0 vs7 vs8) k' =
    (cond (decide (vs8 < vs7))
  (cond ((decide ((0 : Int) ≤ vs8)) && (decide (vs8 < (vs0.length : Int))))
   (cond (noteIs (atI (t := .note) vs0 (Int.toNat vs8)) vs1c0)
    (k' .ret (f49S1 vs8))
    (k' .normal (f49S0 vs0 vs1c0 vs7 (IntKind.wrap .i64 (vs8 + (1 : Int))))))
   none)
  (k' (.exit 0) (f49S2 vs0 vs1c0 vs7 vs8 (decide (vs8 < vs7))))) := by kernel_rfl
theorem f49L0_eq {R : Type} (n : Nat) (k' : Ex → St → Option R) (vs0 : List NoteT) (vs1c0 : PickT) (vs7 : Int) : ∀ (m : Nat) (vs8 : Int), iter (fun st k => ev f49e f49k n (cAt [1,0,1,0,0] f49c) st k) m (f49S0 vs0 vs1c0 vs7 vs8) k' = f49L0 n (fun (xvs4 : Int) => k' .ret (f49S1 xvs4)) (fun (xvs8 : Int) (xvs9 : Bool) => k' (.exit 0) (f49S2 vs0 vs1c0 vs7 xvs8 xvs9)) vs0 vs1c0 vs7 m vs8 := by
  intro m; induction m with
  | zero => intros; rfl
  | succ m ih =>
    intro vs8
    simp only [iter]
    rw [f49L0_b]
    simp only [ih, f49L0]

noncomputable def f49K0 {R : Type} (n : Nat) (k' : Ex → St → Option R) : Ex → St → Option R := (blockK 0 (seqK f49e f49k n (cAt [1,1] f49c) k'))
theorem f49K0_x0 {R : Type} (n : Nat) (k : List Dt → Option R) (a0 : List NoteT) (a1 : PickT) (xvs4 : Int) : f49K0 n (exitK f49e [.ro, .fn] [false] true [.tmp 4] [3] [.d (.sl .note) a0, .clo 50 [⟨.pick, a1⟩]] k) .ret (f49S1 xvs4) =
    (k [.d (.i .i64) xvs4]) := by kernel_rfl
theorem f49K0_x1 {R : Type} (n : Nat) (k : List Dt → Option R) (a0 : List NoteT) (a1 : PickT) (vs0 : List NoteT) (vs1c0 : PickT) (vs7 : Int) (xvs8 : Int) (xvs9 : Bool) : f49K0 n (exitK f49e [.ro, .fn] [false] true [.tmp 4] [3] [.d (.sl .note) a0, .clo 50 [⟨.pick, a1⟩]] k) (.exit 0) (f49S2 vs0 vs1c0 vs7 xvs8 xvs9) =
    (k [.d (.i .i64) (-1 : Int)]) := by kernel_rfl

theorem f49_run {R : Type} (n : Nat) (k : List Dt → Option R) (a0 : List NoteT) (a1 : PickT) : evFn f49e f49k n f49c [.ro, .fn] [false] true [.tmp 4] [3] [.d (.sl .note) a0, .clo 50 [⟨.pick, a1⟩]] k =
    (f49L0 n (fun (xvs4 : Int) =>
  (k [.d (.i .i64) xvs4])) (fun (xvs8 : Int) (xvs9 : Bool) =>
  (k [.d (.i .i64) (-1 : Int)])) a0 a1 (a0.length : Int) n (0 : Int)) := by
  refine Eq.trans (b := (iter (fun st k => ev f49e f49k n (cAt [1,0,1,0,0] f49c) st k) n (f49S0 a0 a1 (a0.length : Int) (0 : Int)) (f49K0 n (exitK f49e [.ro, .fn] [false] true [.tmp 4] [3] [.d (.sl .note) a0, .clo 50 [⟨.pick, a1⟩]] k)))) (by kernel_rfl) ?_
  simp only [f49L0_eq, f49K0_x0, f49K0_x1]
theorem f49_spec (a0 : List NoteT) (a1 : PickT) (hg : gLenW a0 = true) : ∃ keep rounds, ∀ {R : Type} (k : List Dt → Option R), evFn f49e keep rounds f49c [.ro, .fn] [false] true [.tmp 4] [3] [.d (.sl .note) a0, .clo 50 [⟨.pick, a1⟩]] k = k [.d (.i .i64) (noteAt a0 a1)] := by
  have hl := gLenW_le hg
  refine ⟨f49k, a0.length + 1, fun k => ?_⟩
  rw [f49_run]
  refine Eq.trans (loop_find (n := a0.length) (F := fun m i => f49L0 (a0.length + 1) _ _ a0 a1 (a0.length : Int) m i) (p := fun j => noteIs (atI (t := .note) a0 j) a1) (hit := fun i => k [.d (.i .i64) i]) (miss := k [.d (.i .i64) (-1 : Int)])
    (fun m j hj => ?_) (fun m => by simp only [f49L0, idxE, cond_false]) a0.length 0 (a0.length + 1) (by omega) (by omega)) ?_
  · obtain ⟨h1, h0, hw, ht⟩ := idx hj (by omega)
    simp only [f49L0, h1, h0, hw, ht, Bool.and_self, cond_true]
  · show _ = k [.d (.i .i64) (plc _)]
    cases firstN (fun j => noteIs (atI (t := .note) a0 j) a1) 0 a0.length <;> rfl

noncomputable def q49 : List Dt → Option (Bool × List Dt)
  | [.d (.sl .note) a0, .clo 50 [⟨.pick, a1⟩]] => some (((fun (x : List NoteT) (_ : PickT) => gLenW x) a0 a1), [.d (.i .i64) (noteAt a0 a1)])
  | _ => none
noncomputable def s49 : Gm.Spec := Gm.Spec.of [.ro, .fn] [false] true q49
theorem good49 : Gm.Good Try.prog (49, s49) := by
  have hl : ∀ x ∈ [(50, s50)], Gm.Good Try.prog x := List.forall_mem_cons.2 ⟨good50, List.forall_mem_nil _⟩
  refine ⟨⟨spec_ok (tab_ok.env hl) (tab.natl hl) Try.func49 (by kernel_rfl : Try.f49.body = some f49c) [3] (by kernel_rfl) ?_, _, Try.func49, by kernel_rfl, of_decide_eq_true (by kernel_rfl)⟩, Gm.Spec.of_natl _ _ _ _⟩
  intro ds outs h
  unfold q49 at h
  split at h
  · simp only [Option.some.injEq, Prod.mk.injEq] at h; obtain ⟨hg, h⟩ := h; cases h; exact f49_spec _ _ hg
  · cases h
/-! ### loop.example/g00465/spec.Fits -/
noncomputable def f16S0 (y0 : List NoteT) (y1 : Bool) (y2 : ByteArray) (y3 : Int) (y4 : Int) (y5 : ByteArray) (y6 : List ByteArray) : St := ⟨[(1, .c (.one (.ro .note y0))), (2, .c (.one (.pt 2 0))), (5, .c (.one (.v (.bool y1)))), (6, .c (.one (.v (.string y2)))), (7, .c (.one (.v (.int .i64 y3))))], [(2, ⟨.pick, [.v (.int .i64 y4), .v (.string y5), .ro .str y6]⟩)], []⟩
noncomputable def f16S1 (y0 : List NoteT) (y1 : Bool) (y2 : ByteArray) (y3 : Int) (y4 : Bool) (y5 : Int) (y6 : ByteArray) (y7 : List ByteArray) : St := ⟨[(1, .c (.one (.ro .note y0))), (2, .c (.one (.pt 2 0))), (5, .c (.one (.v (.bool y1)))), (6, .c (.one (.v (.string y2)))), (7, .c (.one (.v (.int .i64 y3)))), (15, .c (.one (.v (.bool y4))))], [(2, ⟨.pick, [.v (.int .i64 y5), .v (.string y6), .ro .str y7]⟩)], []⟩
noncomputable def f16c : Code := (Try.f16.body).getD .skip
def f16k : Nat → Kp := kat [⟨[1, 2], [], [], []⟩, ⟨[1, 2, 10], [], [], []⟩, ⟨[4], [], [], []⟩, ⟨[1, 2, 5], [], [], []⟩, ⟨[1, 2, 5, 6], [], [], []⟩, ⟨[1, 2, 5, 6, 7], [], [], []⟩, ⟨[1, 2, 5, 6, 7, 15], [], [], []⟩, ⟨[1, 2, 5, 6, 7], [], [], []⟩, ⟨[1, 2, 5, 6, 7, 25], [], [], []⟩, ⟨[1, 2, 5, 7], [], [], []⟩, ⟨[1, 2, 5, 6, 7], [], [], []⟩, ⟨[2, 5, 6, 32], [], [], []⟩, ⟨[2, 5, 6, 32, 33], [], [], []⟩, ⟨[2, 5, 6, 32, 33], [], [], []⟩, ⟨[4], [], [], []⟩, ⟨[2, 5, 6, 32, 43], [], [], []⟩, ⟨[2, 5, 6, 43], [], [], []⟩, ⟨[4], [], [], []⟩, ⟨[4], [], [], []⟩]
noncomputable def f16e : Env := tab.env [(9, s9), (47, s47)]
noncomputable def f16L0 {R : Type} (n : Nat) (x0 : Bool → ByteArray → Int → Bool → Option R) (vs1 : List NoteT) (vb2_0 : Int) (vb2_1 : ByteArray) (vb2_2 : List ByteArray) : Nat → Bool → ByteArray → Int → Option R
  | 0, _, _, _ => none
  | m + 1, vs5, vs6, vs7 =>
    (cond (decide (vs7 ≥ (0 : Int)))
   (cond ((decide ((0 : Int) ≤ vs7)) && (decide (vs7 < (vs1.length : Int))))
    (cond (sEq (NoteT.key (atI (t := .note) vs1 (Int.toNat vs7))) vb2_1)
     (cond ((decide ((0 : Int) ≤ vs7)) && (decide (vs7 < (vs1.length : Int))))
      (f16L0 n x0 vs1 vb2_0 vb2_1 vb2_2 m true (NoteT.text (atI (t := .note) vs1 (Int.toNat vs7))) (IntKind.wrap .i64 (vs7 - (1 : Int))))
      none)
     (f16L0 n x0 vs1 vb2_0 vb2_1 vb2_2 m vs5 vs6 (IntKind.wrap .i64 (vs7 - (1 : Int)))))
    none)
   (x0 vs5 vs6 vs7 (decide (vs7 ≥ (0 : Int)))))
theorem f16L0_b {R : Type} (n : Nat) (k' : Ex → St → Option R) (vs1 : List NoteT) (vs5 : Bool) (vs6 : ByteArray) (vs7 : Int) (vb2_0 : Int) (vb2_1 : ByteArray) (vb2_2 : List ByteArray) : ev f16e f16k n (cAt [1,1,1,1,0,1,0,0] f16c) (f16S0 vs1 vs5 vs6 vs7 vb2_0 vb2_1 vb2_2) k' =
    (cond (decide (vs7 ≥ (0 : Int)))
  (cond ((decide ((0 : Int) ≤ vs7)) && (decide (vs7 < (vs1.length : Int))))
   (cond (sEq (NoteT.key (atI (t := .note) vs1 (Int.toNat vs7))) vb2_1)
    (cond ((decide ((0 : Int) ≤ vs7)) && (decide (vs7 < (vs1.length : Int))))
     (k' .normal (f16S0 vs1 true (NoteT.text (atI (t := .note) vs1 (Int.toNat vs7))) (IntKind.wrap .i64 (vs7 - (1 : Int))) vb2_0 vb2_1 vb2_2))
     none)
    (k' .normal (f16S0 vs1 vs5 vs6 (IntKind.wrap .i64 (vs7 - (1 : Int))) vb2_0 vb2_1 vb2_2)))
   none)
  (k' (.exit 0) (f16S1 vs1 vs5 vs6 vs7 (decide (vs7 ≥ (0 : Int))) vb2_0 vb2_1 vb2_2))) := by kernel_rfl
theorem f16L0_eq {R : Type} (n : Nat) (k' : Ex → St → Option R) (vs1 : List NoteT) (vb2_0 : Int) (vb2_1 : ByteArray) (vb2_2 : List ByteArray) : ∀ (m : Nat) (vs5 : Bool) (vs6 : ByteArray) (vs7 : Int), iter (fun st k => ev f16e f16k n (cAt [1,1,1,1,0,1,0,0] f16c) st k) m (f16S0 vs1 vs5 vs6 vs7 vb2_0 vb2_1 vb2_2) k' = f16L0 n (fun (xvs5 : Bool) (xvs6 : ByteArray) (xvs7 : Int) (xvs15 : Bool) => k' (.exit 0) (f16S1 vs1 xvs5 xvs6 xvs7 xvs15 vb2_0 vb2_1 vb2_2)) vs1 vb2_0 vb2_1 vb2_2 m vs5 vs6 vs7 := by
  intro m; induction m with
  | zero => intros; rfl
  | succ m ih =>
    intro vs5 vs6 vs7
    simp only [iter]
    rw [f16L0_b]
    simp only [ih, f16L0]

noncomputable def f16K0 {R : Type} (n : Nat) (k' : Ex → St → Option R) : Ex → St → Option R := (blockK 0 (seqK f16e f16k n (cAt [1,1,1,1,1] f16c) k'))
theorem f16K0_x0 {R : Type} (n : Nat) (k : List Dt → Option R) (a0 : PickT) (a1 : List NoteT) (vs1 : List NoteT) (vb2_0 : Int) (vb2_1 : ByteArray) (vb2_2 : List ByteArray) (xvs5 : Bool) (xvs6 : ByteArray) (xvs7 : Int) (xvs15 : Bool) : f16K0 n (exitK f16e [.ro, .ro] [false] true [.tmp 4] [4] [.d .pick a0, .d (.sl .note) a1] k) (.exit 0) (f16S1 vs1 xvs5 xvs6 xvs7 xvs15 vb2_0 vb2_1 vb2_2) =
    (cond (vb2_0 == (1 : Int))
  (cond (vb2_0 == (1 : Int))
   (cond xvs5
    (cond ((fun (x : List ByteArray) (_ : ByteArray) => gLenW x) vb2_2 xvs6)
     (k [.d .bool (isIn vb2_2 xvs6)])
     none)
    (k [.d .bool false]))
   (cond (vb2_0 == (2 : Int))
    (cond (vb2_0 == (2 : Int))
     (cond (!xvs5)
      (k [.d .bool true])
      (cond ((fun (x : List ByteArray) (_ : ByteArray) => gLenW x) vb2_2 xvs6)
       (k [.d .bool (!(isIn vb2_2 xvs6))])
       none))
     (k [.d .bool (xvs5 == (vb2_0 == (5 : Int)))]))
    (cond (vb2_0 == (4 : Int))
     (cond (!xvs5)
      (k [.d .bool true])
      (cond ((fun (x : List ByteArray) (_ : ByteArray) => gLenW x) vb2_2 xvs6)
       (k [.d .bool (!(isIn vb2_2 xvs6))])
       none))
     (k [.d .bool (xvs5 == (vb2_0 == (5 : Int)))]))))
  (cond (vb2_0 == (3 : Int))
   (cond xvs5
    (cond ((fun (x : List ByteArray) (_ : ByteArray) => gLenW x) vb2_2 xvs6)
     (k [.d .bool (isIn vb2_2 xvs6)])
     none)
    (k [.d .bool false]))
   (cond (vb2_0 == (2 : Int))
    (cond (vb2_0 == (2 : Int))
     (cond (!xvs5)
      (k [.d .bool true])
      (cond ((fun (x : List ByteArray) (_ : ByteArray) => gLenW x) vb2_2 xvs6)
       (k [.d .bool (!(isIn vb2_2 xvs6))])
       none))
     (k [.d .bool (xvs5 == (vb2_0 == (5 : Int)))]))
    (cond (vb2_0 == (4 : Int))
     (cond (!xvs5)
      (k [.d .bool true])
      (cond ((fun (x : List ByteArray) (_ : ByteArray) => gLenW x) vb2_2 xvs6)
       (k [.d .bool (!(isIn vb2_2 xvs6))])
       none))
     (k [.d .bool (xvs5 == (vb2_0 == (5 : Int)))]))))) := by kernel_rfl

theorem f16_run {R : Type} (n : Nat) (k : List Dt → Option R) (a0 : PickT) (a1 : List NoteT) : evFn f16e f16k n f16c [.ro, .ro] [false] true [.tmp 4] [4] [.d .pick a0, .d (.sl .note) a1] k =
    (cond (okPick a0)
  (cond (!(pickOk a0))
   (k [.d .bool false])
   (f16L0 n (fun (xvs5 : Bool) (xvs6 : ByteArray) (xvs7 : Int) (xvs15 : Bool) =>
    (cond ((PickT.op a0) == (1 : Int))
     (cond ((PickT.op a0) == (1 : Int))
      (cond xvs5
       (cond ((fun (x : List ByteArray) (_ : ByteArray) => gLenW x) (PickT.vals a0) xvs6)
        (k [.d .bool (isIn (PickT.vals a0) xvs6)])
        none)
       (k [.d .bool false]))
      (cond ((PickT.op a0) == (2 : Int))
       (cond ((PickT.op a0) == (2 : Int))
        (cond (!xvs5)
         (k [.d .bool true])
         (cond ((fun (x : List ByteArray) (_ : ByteArray) => gLenW x) (PickT.vals a0) xvs6)
          (k [.d .bool (!(isIn (PickT.vals a0) xvs6))])
          none))
        (k [.d .bool (xvs5 == ((PickT.op a0) == (5 : Int)))]))
       (cond ((PickT.op a0) == (4 : Int))
        (cond (!xvs5)
         (k [.d .bool true])
         (cond ((fun (x : List ByteArray) (_ : ByteArray) => gLenW x) (PickT.vals a0) xvs6)
          (k [.d .bool (!(isIn (PickT.vals a0) xvs6))])
          none))
        (k [.d .bool (xvs5 == ((PickT.op a0) == (5 : Int)))]))))
     (cond ((PickT.op a0) == (3 : Int))
      (cond xvs5
       (cond ((fun (x : List ByteArray) (_ : ByteArray) => gLenW x) (PickT.vals a0) xvs6)
        (k [.d .bool (isIn (PickT.vals a0) xvs6)])
        none)
       (k [.d .bool false]))
      (cond ((PickT.op a0) == (2 : Int))
       (cond ((PickT.op a0) == (2 : Int))
        (cond (!xvs5)
         (k [.d .bool true])
         (cond ((fun (x : List ByteArray) (_ : ByteArray) => gLenW x) (PickT.vals a0) xvs6)
          (k [.d .bool (!(isIn (PickT.vals a0) xvs6))])
          none))
        (k [.d .bool (xvs5 == ((PickT.op a0) == (5 : Int)))]))
       (cond ((PickT.op a0) == (4 : Int))
        (cond (!xvs5)
         (k [.d .bool true])
         (cond ((fun (x : List ByteArray) (_ : ByteArray) => gLenW x) (PickT.vals a0) xvs6)
          (k [.d .bool (!(isIn (PickT.vals a0) xvs6))])
          none))
        (k [.d .bool (xvs5 == ((PickT.op a0) == (5 : Int)))])))))) a1 (PickT.op a0) (PickT.key a0) (PickT.vals a0) n false ByteArray.empty (IntKind.wrap .i64 ((a1.length : Int) - (1 : Int)))))
  none) := by
  refine Eq.trans (b := (cond (okPick a0)
  (cond (!(pickOk a0))
   (k [.d .bool false])
   (iter (fun st k => ev f16e f16k n (cAt [1,1,1,1,0,1,0,0] f16c) st k) n (f16S0 a1 false ByteArray.empty (IntKind.wrap .i64 ((a1.length : Int) - (1 : Int))) (PickT.op a0) (PickT.key a0) (PickT.vals a0)) (f16K0 n (exitK f16e [.ro, .ro] [false] true [.tmp 4] [4] [.d .pick a0, .d (.sl .note) a1] k))))
  none)) (by kernel_rfl) ?_
  simp only [f16L0_eq, f16K0_x0]
theorem f16_spec (a0 : PickT) (a1 : List NoteT) (hg : gFits a0 a1 = true) : ∃ keep rounds, ∀ {R : Type} (k : List Dt → Option R), evFn f16e keep rounds f16c [.ro, .ro] [false] true [.tmp 4] [4] [.d .pick a0, .d (.sl .note) a1] k = k [.d .bool (fits a0 a1)] := by
  simp only [gFits, Bool.and_eq_true] at hg
  obtain ⟨hp, hn⟩ := hg
  have hl := gLenW_le hn
  have hv : gLenW a0.vals = true := by simp only [okPick, okL, Bool.and_eq_true] at hp; exact hp.2.1
  refine ⟨f16k, a1.length + 1, fun {R} k => ?_⟩
  rw [f16_run]
  simp only [hp, cond_true]
  cases ho : pickOk a0 with
  | false => unfold fits; rw [ho]; rfl
  | true =>
    simp only [Bool.not_true, cond_false]
    rw [wrap_id (x := (a1.length : Int) - 1) (by omega) (by omega)]
    generalize hX : (fun (xvs5 : Bool) (xvs6 : ByteArray) (xvs7 : Int) (xvs15 : Bool) => _) = X
    refine Eq.trans (loop_down (xs := a1) (F := fun m i (a : Bool × ByteArray) => f16L0 (a1.length + 1) X a1 a0.op a0.key a0.vals m a.1 a.2 i) (f := fun a n => cond (noteIs n a0) (true, n.text) a) (good := fun a => X a.1 a.2 (-1) false)
      (fun m j a x hx => ?_) (fun m a => rfl) a1.length (a1.length + 1) (false, ByteArray.empty) (by omega) (by omega)) ?_
    · obtain ⟨h1, h0, hw, ht⟩ := idx (lt_of_get hx) (by omega)
      have hj := lt_of_get hx
      have hd : decide ((j : Int) ≥ (0 : Int)) = true := decide_eq_true (by omega)
      simp only [f16L0, hd, h1, h0, ht, atI_of (t := .note) hx, Bool.and_self, cond_true, wrap_id (x := (j : Int) - 1) (by omega) (by omega)]
      show cond (noteIs x a0) _ _ = _
      cases noteIs x a0 <;> rfl
    · rw [List.take_length, find_pair a0 a1, ← hX]
      have hf := find_any (fun n => noteIs n a0) a1
      show _ = k [.d .bool (fits a0 a1)]
      unfold fits among
      simp only [ho, hv, cond_true, Bool.true_and]
      cases hfi : a1.find? (fun n => noteIs n a0) with
      | none =>
        rw [hfi] at hf
        rw [← hf]
        simp only [Option.elim_none, Option.isSome_none]
        cases h1 : (a0.op == (1 : Int)) <;> cases h2 : (a0.op == (2 : Int)) <;> cases h3 : (a0.op == (3 : Int)) <;> cases h4 : (a0.op == (4 : Int)) <;> cases h5 : (a0.op == (5 : Int)) <;> first | (exfalso; simp only [beq_iff_eq] at h1 h2 h3 h4 h5; omega) | rfl
      | some y =>
        rw [hfi] at hf
        rw [← hf]
        simp only [Option.elim_some, Option.isSome_some]
        cases h1 : (a0.op == (1 : Int)) <;> cases h2 : (a0.op == (2 : Int)) <;> cases h3 : (a0.op == (3 : Int)) <;> cases h4 : (a0.op == (4 : Int)) <;> cases h5 : (a0.op == (5 : Int)) <;> first | (exfalso; simp only [beq_iff_eq] at h1 h2 h3 h4 h5; omega) | rfl

noncomputable def q16 : List Dt → Option (Bool × List Dt)
  | [.d .pick a0, .d (.sl .note) a1] => some ((gFits a0 a1), [.d .bool (fits a0 a1)])
  | _ => none
noncomputable def s16 : Gm.Spec := Gm.Spec.of [.ro, .ro] [false] true q16
theorem good16 : Gm.Good Try.prog (16, s16) := by
  have hl : ∀ x ∈ [(9, s9), (47, s47)], Gm.Good Try.prog x := List.forall_mem_cons.2 ⟨good9, List.forall_mem_cons.2 ⟨good47, List.forall_mem_nil _⟩⟩
  refine ⟨⟨spec_ok (tab_ok.env hl) (tab.natl hl) Try.func16 (by kernel_rfl : Try.f16.body = some f16c) [4] (by kernel_rfl) ?_, _, Try.func16, by kernel_rfl, of_decide_eq_true (by kernel_rfl)⟩, Gm.Spec.of_natl _ _ _ _⟩
  intro ds outs h
  unfold q16 at h
  split at h
  · simp only [Option.some.injEq, Prod.mk.injEq] at h; obtain ⟨hg, h⟩ := h; cases h; exact f16_spec _ _ hg
  · cases h
/-! ### loop.example/g00465/impl.Fits -/
noncomputable def f18c : Code := (Try.f18.body).getD .skip
def f18k : Nat → Kp := kat [⟨[1, 2], [], [], []⟩, ⟨[1, 2, 9], [], [], []⟩, ⟨[4], [], [], []⟩, ⟨[1, 2, 5], [], [], []⟩, ⟨[2, 5, 6], [], [], []⟩, ⟨[5, 6, 26], [], [], []⟩, ⟨[5, 6, 26, 27], [], [], []⟩, ⟨[5, 6, 26, 27], [], [], []⟩, ⟨[4], [], [], []⟩, ⟨[5, 6, 26, 31], [], [], []⟩, ⟨[5, 6, 26, 31], [], [], []⟩, ⟨[4], [], [], []⟩, ⟨[5, 36], [], [], []⟩, ⟨[4], [], [], []⟩, ⟨[4], [], [], []⟩]
noncomputable def f18e : Env := tab.env [(11, s11), (49, s49), (50, s50), (51, s51)]
theorem f18_run {R : Type} (n : Nat) (k : List Dt → Option R) (a0 : PickT) (a1 : List NoteT) : evFn f18e f18k n f18c [.ro, .ro] [false] true [.tmp 4] [4] [.d .pick a0, .d (.sl .note) a1] k =
    (cond (okPick a0)
  (cond (!(pickOk a0))
   (k [.d .bool false])
   (cond ((fun (x : List NoteT) (_ : PickT) => gLenW x) a1 a0)
    (cond (decide ((noteAt a1 a0) ≥ (0 : Int)))
     (cond ((decide ((0 : Int) ≤ (noteAt a1 a0))) && (decide ((noteAt a1 a0) < (a1.length : Int))))
      (cond ((fun (x : List ByteArray) (_ : ByteArray) => gLenW x) (PickT.vals a0) (NoteT.text (atI (t := .note) a1 (Int.toNat (noteAt a1 a0)))))
       (cond ((PickT.op a0) == (1 : Int))
        (cond ((PickT.op a0) == (1 : Int))
         (k [.d .bool (isIn (PickT.vals a0) (NoteT.text (atI (t := .note) a1 (Int.toNat (noteAt a1 a0)))))])
         (cond ((PickT.op a0) == (2 : Int))
          (cond ((PickT.op a0) == (2 : Int))
           (k [.d .bool (!(isIn (PickT.vals a0) (NoteT.text (atI (t := .note) a1 (Int.toNat (noteAt a1 a0))))))])
           (cond ((PickT.op a0) == (5 : Int))
            (k [.d .bool (decide ((noteAt a1 a0) ≥ (0 : Int)))])
            (k [.d .bool (decide ((noteAt a1 a0) < (0 : Int)))])))
          (cond ((PickT.op a0) == (4 : Int))
           (k [.d .bool (!(isIn (PickT.vals a0) (NoteT.text (atI (t := .note) a1 (Int.toNat (noteAt a1 a0))))))])
           (cond ((PickT.op a0) == (5 : Int))
            (k [.d .bool (decide ((noteAt a1 a0) ≥ (0 : Int)))])
            (k [.d .bool (decide ((noteAt a1 a0) < (0 : Int)))])))))
        (cond ((PickT.op a0) == (3 : Int))
         (k [.d .bool (isIn (PickT.vals a0) (NoteT.text (atI (t := .note) a1 (Int.toNat (noteAt a1 a0)))))])
         (cond ((PickT.op a0) == (2 : Int))
          (cond ((PickT.op a0) == (2 : Int))
           (k [.d .bool (!(isIn (PickT.vals a0) (NoteT.text (atI (t := .note) a1 (Int.toNat (noteAt a1 a0))))))])
           (cond ((PickT.op a0) == (5 : Int))
            (k [.d .bool (decide ((noteAt a1 a0) ≥ (0 : Int)))])
            (k [.d .bool (decide ((noteAt a1 a0) < (0 : Int)))])))
          (cond ((PickT.op a0) == (4 : Int))
           (k [.d .bool (!(isIn (PickT.vals a0) (NoteT.text (atI (t := .note) a1 (Int.toNat (noteAt a1 a0))))))])
           (cond ((PickT.op a0) == (5 : Int))
            (k [.d .bool (decide ((noteAt a1 a0) ≥ (0 : Int)))])
            (k [.d .bool (decide ((noteAt a1 a0) < (0 : Int)))]))))))
       none)
      none)
     (cond ((PickT.op a0) == (1 : Int))
      (cond ((PickT.op a0) == (1 : Int))
       (k [.d .bool false])
       (cond ((PickT.op a0) == (2 : Int))
        (cond ((PickT.op a0) == (2 : Int))
         (k [.d .bool true])
         (cond ((PickT.op a0) == (5 : Int))
          (k [.d .bool (decide ((noteAt a1 a0) ≥ (0 : Int)))])
          (k [.d .bool (decide ((noteAt a1 a0) < (0 : Int)))])))
        (cond ((PickT.op a0) == (4 : Int))
         (k [.d .bool true])
         (cond ((PickT.op a0) == (5 : Int))
          (k [.d .bool (decide ((noteAt a1 a0) ≥ (0 : Int)))])
          (k [.d .bool (decide ((noteAt a1 a0) < (0 : Int)))])))))
      (cond ((PickT.op a0) == (3 : Int))
       (k [.d .bool false])
       (cond ((PickT.op a0) == (2 : Int))
        (cond ((PickT.op a0) == (2 : Int))
         (k [.d .bool true])
         (cond ((PickT.op a0) == (5 : Int))
          (k [.d .bool (decide ((noteAt a1 a0) ≥ (0 : Int)))])
          (k [.d .bool (decide ((noteAt a1 a0) < (0 : Int)))])))
        (cond ((PickT.op a0) == (4 : Int))
         (k [.d .bool true])
         (cond ((PickT.op a0) == (5 : Int))
          (k [.d .bool (decide ((noteAt a1 a0) ≥ (0 : Int)))])
          (k [.d .bool (decide ((noteAt a1 a0) < (0 : Int)))])))))))
    none))
  none) := by kernel_rfl
theorem f18_spec (a0 : PickT) (a1 : List NoteT) (hg : gFits a0 a1 = true) : ∃ keep rounds, ∀ {R : Type} (k : List Dt → Option R), evFn f18e keep rounds f18c [.ro, .ro] [false] true [.tmp 4] [4] [.d .pick a0, .d (.sl .note) a1] k = k [.d .bool (fits a0 a1)] := by
  simp only [gFits, Bool.and_eq_true] at hg
  obtain ⟨hp, hn⟩ := hg
  have hl := gLenW_le hn
  have hv : gLenW a0.vals = true := by simp only [okPick, okL, Bool.and_eq_true] at hp; exact hp.2.1
  refine ⟨f18k, 0, fun {R} k => ?_⟩
  rw [f18_run]
  simp only [hp, hn, hv, cond_true]
  cases ho : pickOk a0 with
  | false => unfold fits; rw [ho]; rfl
  | true =>
    simp only [Bool.not_true, cond_false]
    show _ = k [.d .bool (fits a0 a1)]
    unfold fits among
    rcases findI_cases (t := .note) (fun n => noteIs n a0) a1 with ⟨h1, h2, h3⟩ | ⟨i, h1, hi, h2, h3, _⟩
    · have e : noteAt a1 a0 = -1 := h1
      rw [h2, h3, e]
      simp only [ho, Option.elim_none, Bool.true_and]
      cases h1 : (a0.op == (1 : Int)) <;> cases h2 : (a0.op == (2 : Int)) <;> cases h3 : (a0.op == (3 : Int)) <;> cases h4 : (a0.op == (4 : Int)) <;> cases h5 : (a0.op == (5 : Int)) <;> first | (exfalso; simp only [beq_iff_eq] at h1 h2 h3 h4 h5; omega) | rfl
    · have e : noteAt a1 a0 = (i : Int) := h1
      obtain ⟨h1, h0, hw, ht⟩ := idx hi (by omega)
      have hd : decide ((i : Int) ≥ (0 : Int)) = true := decide_eq_true (by omega)
      have hd2 : decide ((i : Int) < (0 : Int)) = false := decide_eq_false (by omega)
      rw [h2, h3, e]
      simp only [ho, hd, hd2, h1, h0, ht, Option.elim_some, Bool.true_and, Bool.and_self, cond_true]
      cases h1 : (a0.op == (1 : Int)) <;> cases h2 : (a0.op == (2 : Int)) <;> cases h3 : (a0.op == (3 : Int)) <;> cases h4 : (a0.op == (4 : Int)) <;> cases h5 : (a0.op == (5 : Int)) <;> first | (exfalso; simp only [beq_iff_eq] at h1 h2 h3 h4 h5; omega) | rfl

noncomputable def q18 : List Dt → Option (Bool × List Dt)
  | [.d .pick a0, .d (.sl .note) a1] => some ((gFits a0 a1), [.d .bool (fits a0 a1)])
  | _ => none
noncomputable def s18 : Gm.Spec := Gm.Spec.of [.ro, .ro] [false] true q18
theorem good18 : Gm.Good Try.prog (18, s18) := by
  have hl : ∀ x ∈ [(11, s11), (49, s49), (50, s50), (51, s51)], Gm.Good Try.prog x := List.forall_mem_cons.2 ⟨good11, List.forall_mem_cons.2 ⟨good49, List.forall_mem_cons.2 ⟨good50, List.forall_mem_cons.2 ⟨good51, List.forall_mem_nil _⟩⟩⟩⟩
  refine ⟨⟨spec_ok (tab_ok.env hl) (tab.natl hl) Try.func18 (by kernel_rfl : Try.f18.body = some f18c) [4] (by kernel_rfl) ?_, _, Try.func18, by kernel_rfl, of_decide_eq_true (by kernel_rfl)⟩, Gm.Spec.of_natl _ _ _ _⟩
  intro ds outs h
  unfold q18 at h
  split at h
  · simp only [Option.some.injEq, Prod.mk.injEq] at h; obtain ⟨hg, h⟩ := h; cases h; exact f18_spec _ _ hg
  · cases h
end Go.Proofs.Ytklmnopgogcbhaa

/- x -/
namespace Go.Proofs.Ytklmnopgogcbhaa
open Go Go.Gm
/-! ### loop.example/g00465/impl.Chosen$1 -/
noncomputable def f60c : Code := (Try.f60.body).getD .skip
def f60k : Nat → Kp := kat [⟨[1, 2], [], [], []⟩, ⟨[3], [], [], []⟩]
noncomputable def f60e : Env := tab.env [(18, s18)]
theorem f60_run {R : Type} (n : Nat) (k : List Dt → Option R) (a0 : PickT) (a1 : ItemT) : evFn f60e f60k n f60c [.ro, .pro] [false] true [.tmp 3] [4] [.d .pick a0, .d .item a1] k =
    (cond (gFits a0 (OrderT.notes (ItemT.order a1)))
  (k [.d .bool (!(fits a0 (OrderT.notes (ItemT.order a1))))])
  none) := by kernel_rfl
theorem f60_spec (a0 : PickT) (a1 : ItemT) (hg : gFits a0 a1.order.notes = true) : ∃ keep rounds, ∀ {R : Type} (k : List Dt → Option R), evFn f60e keep rounds f60c [.ro, .pro] [false] true [.tmp 3] [4] [.d .pick a0, .d .item a1] k = k [.d .bool (fitsNot a0 a1)] := by
  refine ⟨f60k, 0, fun k => ?_⟩
  rw [f60_run]; simp only [hg, cond_true]; rfl

noncomputable def q60 : List Dt → Option (Bool × List Dt)
  | [.d .pick a0, .d .item a1] => some (((fun p (i : ItemT) => gFits p i.order.notes) a0 a1), [.d .bool (fitsNot a0 a1)])
  | _ => none
noncomputable def s60 : Gm.Spec := Gm.Spec.of [.ro, .pro] [false] true q60
theorem good60 : Gm.Good Try.prog (60, s60) := by
  have hl : ∀ x ∈ [(18, s18)], Gm.Good Try.prog x := List.forall_mem_cons.2 ⟨good18, List.forall_mem_nil _⟩
  refine ⟨⟨spec_ok (tab_ok.env hl) (tab.natl hl) Try.func60 (by kernel_rfl : Try.f60.body = some f60c) [4] (by kernel_rfl) ?_, _, Try.func60, by kernel_rfl, of_decide_eq_true (by kernel_rfl)⟩, Gm.Spec.of_natl _ _ _ _⟩
  intro ds outs h
  unfold q60 at h
  split at h
  · simp only [Option.some.injEq, Prod.mk.injEq] at h; obtain ⟨hg, h⟩ := h; cases h; exact f60_spec _ _ hg
  · cases h
/-! ### slices.IndexFunc[[]loop.example/g00465/impl.Pick,loop.example/g00465/impl.Pick] -/
noncomputable def f80S0 (y0 : List PickT) (y1 : ItemT) (y2 : Int) (y3 : Int) : St := ⟨[(0, .c (.one (.ro .pick y0))), (1, .c (.one (.cloR 60 [⟨.item, y1⟩]))), (7, .c (.one (.v (.int .i64 y2)))), (8, .c (.one (.v (.int .i64 y3))))], [], []⟩
noncomputable def f80S1 (y0 : Int) : St := ⟨[(4, .c (.one (.v (.int .i64 y0))))], [], []⟩
noncomputable def f80S2 (y0 : List PickT) (y1 : ItemT) (y2 : Int) (y3 : Int) (y4 : Bool) : St := ⟨[(0, .c (.one (.ro .pick y0))), (1, .c (.one (.cloR 60 [⟨.item, y1⟩]))), (7, .c (.one (.v (.int .i64 y2)))), (8, .c (.one (.v (.int .i64 y3)))), (9, .c (.one (.v (.bool y4))))], [], []⟩
noncomputable def f80c : Code := (Try.f80.body).getD .skip
def f80k : Nat → Kp := kat [⟨[0, 1], [], [], []⟩, ⟨[0, 1, 7, 8], [], [], []⟩, ⟨[0, 1, 7, 8, 9], [], [], []⟩, ⟨[0, 1, 5, 7, 8], [], [], []⟩, ⟨[0, 1, 5, 7, 8, 16], [], [], []⟩, ⟨[4], [], [], []⟩, ⟨[0, 1, 7, 8], [], [], []⟩, ⟨[4], [], [], []⟩]
noncomputable def f80e : Env := tab.env [(60, s60)]
noncomputable def f80L0 {R : Type} (n : Nat) (x0 : Int → Option R) (x1 : Int → Bool → Option R) (vs0 : List PickT) (vs1c0 : ItemT) (vs7 : Int) : Nat → Int → Option R
  | 0, _ => none
  | m + 1, vs8 =>
    (cond (decide (vs8 < vs7))
   (cond ((decide ((0 : Int) ≤ vs8)) && (decide (vs8 < (vs0.length : Int))))
    (cond ((fun p (i : ItemT) => gFits p i.order.notes) (atI (t := .pick) vs0 (Int.toNat vs8)) vs1c0)
     (cond (fitsNot (atI (t := .pick) vs0 (Int.toNat vs8)) vs1c0)
      (x0 vs8)
      (f80L0 n x0 x1 vs0 vs1c0 vs7 m (IntKind.wrap .i64 (vs8 + (1 : Int)))))
     none)
    none)
   (x1 vs8 (decide (vs8 < vs7))))
theorem f80L0_b {R : Type} (n : Nat) (k' : Ex → St → Option R) (vs0 : List PickT) (vs1c0 : ItemT) (vs7 : Int) (vs8 : Int) : ev f80e f80k n (cAt [1,0,1,0,0] f80c) (f80S0 vs0 vs1c0 vs7 vs8) k' =
    (cond (decide (vs8 < vs7))
  (cond ((decide ((0 : Int) ≤ vs8)) && (decide (vs8 < (vs0.length : Int))))
   (cond ((fun p (i : ItemT) => gFits p i.order.notes) (atI (t := .pick) vs0 (Int.toNat vs8)) vs1c0)
    (cond (fitsNot (atI (t := .pick) vs0 (Int.toNat vs8)) vs1c0)
     (k' .ret (f80S1 vs8))
     (k' .normal (f80S0 vs0 vs1c0 vs7 (IntKind.wrap .i64 (vs8 + (1 : Int))))))
    none)
   none)
  (k' (.exit 0) (f80S2 vs0 vs1c0 vs7 vs8 (decide (vs8 < vs7))))) := by kernel_rfl
theorem f80L0_eq {R : Type} (n : Nat) (k' : Ex → St → Option R) (vs0 : List PickT) (vs1c0 : ItemT) (vs7 : Int) : ∀ (m : Nat) (vs8 : Int), iter (fun st k => ev f80e f80k n (cAt [1,0,1,0,0] f80c) st k) m (f80S0 vs0 vs1c0 vs7 vs8) k' = f80L0 n (fun (xvs4 : Int) => k' .ret (f80S1 xvs4)) (fun (xvs8 : Int) (xvs9 : Bool) => k' (.exit 0) (f80S2 vs0 vs1c0 vs7 xvs8 xvs9)) vs0 vs1c0 vs7 m vs8 := by
  intro m; induction m with
  | zero => intros; rfl
  | succ m ih =>
    intro vs8
    simp only [iter]
    rw [f80L0_b]
    simp only [ih, f80L0]

noncomputable def f80K0 {R : Type} (n : Nat) (k' : Ex → St → Option R) : Ex → St → Option R := (blockK 0 (seqK f80e f80k n (cAt [1,1] f80c) k'))
theorem f80K0_x0 {R : Type} (n : Nat) (k : List Dt → Option R) (a0 : List PickT) (a1 : ItemT) (xvs4 : Int) : f80K0 n (exitK f80e [.ro, .fn] [false] true [.tmp 4] [3] [.d (.sl .pick) a0, .clo 60 [⟨.item, a1⟩]] k) .ret (f80S1 xvs4) =
    (k [.d (.i .i64) xvs4]) := by kernel_rfl
theorem f80K0_x1 {R : Type} (n : Nat) (k : List Dt → Option R) (a0 : List PickT) (a1 : ItemT) (vs0 : List PickT) (vs1c0 : ItemT) (vs7 : Int) (xvs8 : Int) (xvs9 : Bool) : f80K0 n (exitK f80e [.ro, .fn] [false] true [.tmp 4] [3] [.d (.sl .pick) a0, .clo 60 [⟨.item, a1⟩]] k) (.exit 0) (f80S2 vs0 vs1c0 vs7 xvs8 xvs9) =
    (k [.d (.i .i64) (-1 : Int)]) := by kernel_rfl

theorem f80_run {R : Type} (n : Nat) (k : List Dt → Option R) (a0 : List PickT) (a1 : ItemT) : evFn f80e f80k n f80c [.ro, .fn] [false] true [.tmp 4] [3] [.d (.sl .pick) a0, .clo 60 [⟨.item, a1⟩]] k =
    (f80L0 n (fun (xvs4 : Int) =>
  (k [.d (.i .i64) xvs4])) (fun (xvs8 : Int) (xvs9 : Bool) =>
  (k [.d (.i .i64) (-1 : Int)])) a0 a1 (a0.length : Int) n (0 : Int)) := by
  refine Eq.trans (b := (iter (fun st k => ev f80e f80k n (cAt [1,0,1,0,0] f80c) st k) n (f80S0 a0 a1 (a0.length : Int) (0 : Int)) (f80K0 n (exitK f80e [.ro, .fn] [false] true [.tmp 4] [3] [.d (.sl .pick) a0, .clo 60 [⟨.item, a1⟩]] k)))) (by kernel_rfl) ?_
  simp only [f80L0_eq, f80K0_x0, f80K0_x1]
theorem f80_spec (a0 : List PickT) (a1 : ItemT) (hg : gFitsAll a0 a1 = true) : ∃ keep rounds, ∀ {R : Type} (k : List Dt → Option R), evFn f80e keep rounds f80c [.ro, .fn] [false] true [.tmp 4] [3] [.d (.sl .pick) a0, .clo 60 [⟨.item, a1⟩]] k = k [.d (.i .i64) (fitsNotAt a0 a1)] := by
  simp only [gFitsAll, Bool.and_eq_true] at hg
  obtain ⟨hn, hp, hi⟩ := hg
  have hl := gLenW_le hn
  refine ⟨f80k, a0.length + 1, fun k => ?_⟩
  rw [f80_run]
  refine Eq.trans (loop_find (n := a0.length) (F := fun m i => f80L0 (a0.length + 1) _ _ a0 a1 (a0.length : Int) m i) (p := fun j => fitsNot (atI (t := .pick) a0 j) a1) (hit := fun i => k [.d (.i .i64) i]) (miss := k [.d (.i .i64) (-1 : Int)])
    (fun m j hj => ?_) (fun m => by simp only [f80L0, idxE, cond_false]) a0.length 0 (a0.length + 1) (by omega) (by omega)) ?_
  · obtain ⟨h1, h0, hw, ht⟩ := idx hj (by omega)
    simp only [f80L0, h1, h0, hw, ht, Bool.and_self, cond_true, show gFits (atI (t := .pick) a0 j) a1.order.notes = true from by unfold gFits; rw [all_at (t := .pick) hp hj, hi]; rfl]
  · show _ = k [.d (.i .i64) (plc _)]
    cases firstN (fun j => fitsNot (atI (t := .pick) a0 j) a1) 0 a0.length <;> rfl

noncomputable def q80 : List Dt → Option (Bool × List Dt)
  | [.d (.sl .pick) a0, .clo 60 [⟨.item, a1⟩]] => some ((gFitsAll a0 a1), [.d (.i .i64) (fitsNotAt a0 a1)])
  | _ => none
noncomputable def s80 : Gm.Spec := Gm.Spec.of [.ro, .fn] [false] true q80
theorem good80 : Gm.Good Try.prog (80, s80) := by
  have hl : ∀ x ∈ [(60, s60)], Gm.Good Try.prog x := List.forall_mem_cons.2 ⟨good60, List.forall_mem_nil _⟩
  refine ⟨⟨spec_ok (tab_ok.env hl) (tab.natl hl) Try.func80 (by kernel_rfl : Try.f80.body = some f80c) [3] (by kernel_rfl) ?_, _, Try.func80, by kernel_rfl, of_decide_eq_true (by kernel_rfl)⟩, Gm.Spec.of_natl _ _ _ _⟩
  intro ds outs h
  unfold q80 at h
  split at h
  · simp only [Option.some.injEq, Prod.mk.injEq] at h; obtain ⟨hg, h⟩ := h; cases h; exact f80_spec _ _ hg
  · cases h
/-! ### slices.ContainsFunc[[]loop.example/g00465/impl.Pick,loop.example/g00465/impl.Pick] -/
noncomputable def f59c : Code := (Try.f59.body).getD .skip
def f59k : Nat → Kp := kat [⟨[0, 1], [], [], []⟩, ⟨[4], [], [], []⟩]
noncomputable def f59e : Env := tab.env [(60, s60), (80, s80)]
theorem f59_run {R : Type} (n : Nat) (k : List Dt → Option R) (a0 : List PickT) (a1 : ItemT) : evFn f59e f59k n f59c [.ro, .fn] [false] true [.tmp 4] [4] [.d (.sl .pick) a0, .clo 60 [⟨.item, a1⟩]] k =
    (cond (gFitsAll a0 a1)
  (k [.d .bool (decide ((fitsNotAt a0 a1) ≥ (0 : Int)))])
  none) := by kernel_rfl
theorem f59_spec (a0 : List PickT) (a1 : ItemT) (hg : gFitsAll a0 a1 = true) : ∃ keep rounds, ∀ {R : Type} (k : List Dt → Option R), evFn f59e keep rounds f59c [.ro, .fn] [false] true [.tmp 4] [4] [.d (.sl .pick) a0, .clo 60 [⟨.item, a1⟩]] k = k [.d .bool (fitsNotAny a0 a1)] := by
  refine ⟨f59k, 0, fun k => ?_⟩
  rw [f59_run]; simp only [hg, cond_true]
  unfold fitsNotAt
  rw [findI_ge]; rfl

noncomputable def q59 : List Dt → Option (Bool × List Dt)
  | [.d (.sl .pick) a0, .clo 60 [⟨.item, a1⟩]] => some ((gFitsAll a0 a1), [.d .bool (fitsNotAny a0 a1)])
  | _ => none
noncomputable def s59 : Gm.Spec := Gm.Spec.of [.ro, .fn] [false] true q59
theorem good59 : Gm.Good Try.prog (59, s59) := by
  have hl : ∀ x ∈ [(60, s60), (80, s80)], Gm.Good Try.prog x := List.forall_mem_cons.2 ⟨good60, List.forall_mem_cons.2 ⟨good80, List.forall_mem_nil _⟩⟩
  refine ⟨⟨spec_ok (tab_ok.env hl) (tab.natl hl) Try.func59 (by kernel_rfl : Try.f59.body = some f59c) [4] (by kernel_rfl) ?_, _, Try.func59, by kernel_rfl, of_decide_eq_true (by kernel_rfl)⟩, Gm.Spec.of_natl _ _ _ _⟩
  intro ds outs h
  unfold q59 at h
  split at h
  · simp only [Option.some.injEq, Prod.mk.injEq] at h; obtain ⟨hg, h⟩ := h; cases h; exact f59_spec _ _ hg
  · cases h
/-! ### loop.example/g00465/impl.Chosen -/
noncomputable def f22S0 (y0 : List PickT) (y1 : List ItemT) (y2 : Int) (y3 : Int) (y4 : List ByteArray) : St := ⟨[(1, .c (.one (.ro .pick y0))), (5, .c (.one (.h 512 0 0 []))), (10, .c (.one (.ro .item y1))), (11, .c (.one (.v (.int .i64 y2)))), (12, .c (.one (.v (.int .i64 y3))))], [], [(512, .live ⟨.str, .deep, 0, [], y4⟩)]⟩
noncomputable def f22S1 (y0 : List PickT) (y1 : List ItemT) (y2 : Int) (y3 : Int) (y4 : Bool) (y5 : List ByteArray) : St := ⟨[(1, .c (.one (.ro .pick y0))), (5, .c (.one (.h 512 0 0 []))), (10, .c (.one (.ro .item y1))), (11, .c (.one (.v (.int .i64 y2)))), (12, .c (.one (.v (.int .i64 y3)))), (13, .c (.one (.v (.bool y4))))], [], [(512, .live ⟨.str, .deep, 0, [], y5⟩)]⟩
noncomputable def f22c : Code := (Try.f22.body).getD .skip
def f22k : Nat → Kp := kat [⟨[1, 2], [], [], []⟩, ⟨[1, 2, 5], [], [], []⟩, ⟨[1, 5, 10, 11, 12], [], [], []⟩, ⟨[1, 5, 10, 11, 12, 13], [], [], []⟩, ⟨[1, 5, 7, 10, 11, 12], [], [], []⟩, ⟨[1, 5, 7, 10, 11, 12, 19], [], [], []⟩, ⟨[1, 5, 10, 11, 12], [], [], []⟩, ⟨[1, 5, 10, 11, 12], [], [], []⟩, ⟨[4], [], [], []⟩]
noncomputable def f22e : Env := tab.env [(59, s59), (60, s60)]
noncomputable def f22L0 {R : Type} (n : Nat) (x0 : Int → Bool → (List ByteArray) → Option R) (vs1 : List PickT) (vs10 : List ItemT) (vs11 : Int) : Nat → Int → (List ByteArray) → Option R
  | 0, _, _ => none
  | m + 1, vs12, vr512 =>
    (cond (decide (vs12 < vs11))
   (cond ((decide ((0 : Int) ≤ vs12)) && (decide (vs12 < (vs10.length : Int))))
    (cond (gFitsAll vs1 (atI (t := .item) vs10 (Int.toNat vs12)))
     (cond (!(fitsNotAny vs1 (atI (t := .item) vs10 (Int.toNat vs12))))
      (cond (Nat.ble (vr512.length + 1) LIM)
       (f22L0 n x0 vs1 vs10 vs11 m (IntKind.wrap .i64 (vs12 + (1 : Int))) (vr512 ++ ([(OrderT.name (ItemT.order (atI (t := .item) vs10 (Int.toNat vs12))))] : List ByteArray)))
       none)
      (f22L0 n x0 vs1 vs10 vs11 m (IntKind.wrap .i64 (vs12 + (1 : Int))) vr512))
     none)
    none)
   (x0 vs12 (decide (vs12 < vs11)) vr512))
theorem f22L0_b {R : Type} (n : Nat) (k' : Ex → St → Option R) (vs1 : List PickT) (vs10 : List ItemT) (vs11 : Int) (vs12 : Int) (vr512 : List ByteArray) : ev f22e f22k n (cAt [1,1,0,1,0,0] f22c) (f22S0 vs1 vs10 vs11 vs12 vr512) k' =
    (cond (decide (vs12 < vs11))
  (cond ((decide ((0 : Int) ≤ vs12)) && (decide (vs12 < (vs10.length : Int))))
   (cond (gFitsAll vs1 (atI (t := .item) vs10 (Int.toNat vs12)))
    (cond (!(fitsNotAny vs1 (atI (t := .item) vs10 (Int.toNat vs12))))
     (cond (Nat.ble (vr512.length + 1) LIM)
      (k' .normal (f22S0 vs1 vs10 vs11 (IntKind.wrap .i64 (vs12 + (1 : Int))) (vr512 ++ ([(OrderT.name (ItemT.order (atI (t := .item) vs10 (Int.toNat vs12))))] : List ByteArray))))
      none)
     (k' .normal (f22S0 vs1 vs10 vs11 (IntKind.wrap .i64 (vs12 + (1 : Int))) vr512)))
    none)
   none)
  (k' (.exit 0) (f22S1 vs1 vs10 vs11 vs12 (decide (vs12 < vs11)) vr512))) := by kernel_rfl
theorem f22L0_eq {R : Type} (n : Nat) (k' : Ex → St → Option R) (vs1 : List PickT) (vs10 : List ItemT) (vs11 : Int) : ∀ (m : Nat) (vs12 : Int) (vr512 : List ByteArray), iter (fun st k => ev f22e f22k n (cAt [1,1,0,1,0,0] f22c) st k) m (f22S0 vs1 vs10 vs11 vs12 vr512) k' = f22L0 n (fun (xvs12 : Int) (xvs13 : Bool) (xvr512 : List ByteArray) => k' (.exit 0) (f22S1 vs1 vs10 vs11 xvs12 xvs13 xvr512)) vs1 vs10 vs11 m vs12 vr512 := by
  intro m; induction m with
  | zero => intros; rfl
  | succ m ih =>
    intro vs12 vr512
    simp only [iter]
    rw [f22L0_b]
    simp only [ih, f22L0]

noncomputable def f22K0 {R : Type} (n : Nat) (k' : Ex → St → Option R) : Ex → St → Option R := (blockK 0 (seqK f22e f22k n (cAt [1,1,1] f22c) k'))
theorem f22K0_x0 {R : Type} (n : Nat) (k : List Dt → Option R) (a0 : StoreT) (a1 : List PickT) (vs1 : List PickT) (vs10 : List ItemT) (vs11 : Int) (xvs12 : Int) (xvs13 : Bool) (xvr512 : List ByteArray) : f22K0 n (exitK f22e [.ro, .ro] [false] true [.tmp 4] [22] [.d .store a0, .d (.sl .pick) a1] k) (.exit 0) (f22S1 vs1 vs10 vs11 xvs12 xvs13 xvr512) =
    (k [.d (.sl .str) xvr512]) := by kernel_rfl

theorem f22_run {R : Type} (n : Nat) (k : List Dt → Option R) (a0 : StoreT) (a1 : List PickT) : evFn f22e f22k n f22c [.ro, .ro] [false] true [.tmp 4] [22] [.d .store a0, .d (.sl .pick) a1] k =
    (f22L0 n (fun (xvs12 : Int) (xvs13 : Bool) (xvr512 : List ByteArray) =>
  (k [.d (.sl .str) xvr512])) a1 (StoreT.items a0) ((StoreT.items a0).length : Int) n (0 : Int) ([] : List ByteArray)) := by
  refine Eq.trans (b := (iter (fun st k => ev f22e f22k n (cAt [1,1,0,1,0,0] f22c) st k) n (f22S0 a1 (StoreT.items a0) ((StoreT.items a0).length : Int) (0 : Int) ([] : List ByteArray)) (f22K0 n (exitK f22e [.ro, .ro] [false] true [.tmp 4] [22] [.d .store a0, .d (.sl .pick) a1] k)))) (by kernel_rfl) ?_
  simp only [f22L0_eq, f22K0_x0]
theorem f22_spec (a0 : StoreT) (a1 : List PickT) (hg : gChosen a0 a1 = true) : ∃ keep rounds, ∀ {R : Type} (k : List Dt → Option R), evFn f22e keep rounds f22c [.ro, .ro] [false] true [.tmp 4] [22] [.d .store a0, .d (.sl .pick) a1] k = k [.d (.sl .str) (chosen a0 a1)] := by
  simp only [gChosen, sm_store, Bool.and_eq_true] at hg
  obtain ⟨⟨hi, _⟩, hp⟩ := hg
  have hl := smL_len hi
  have hlp := smL_len hp
  have hpo : a1.all okPick = true := List.all_eq_true.2 fun p h => okPick_sm (List.all_eq_true.1 (smL_all hp) p h)
  have hgi : ∀ x ∈ a0.items, gFitsAll a1 x = true := by
    intro x hx
    have := List.all_eq_true.1 (smL_all hi) x hx
    simp only [sm_item, sm_order, Bool.and_eq_true] at this
    unfold gFitsAll
    rw [gLenW_sm hp, hpo, gLenW_sm this.1.2.2.2.2.2.2]; rfl
  refine ⟨f22k, a0.items.length + 1, fun {R} k => ?_⟩
  rw [f22_run]
  refine Eq.trans (loop_acc (xs := a0.items) (F := fun m j out => f22L0 (a0.items.length + 1) _ a1 a0.items (a0.items.length : Int) m (j : Int) out) (f := chosenStep a1) (good := fun out => k [.d (.sl .str) out]) (fun j out => out.length ≤ j)
    (fun j out x hx hi => ?_) (fun m j out x hx hi => ?_) (fun m out hi => by simp only [f22L0, idxE, cond_false]) a0.items.length 0 (a0.items.length + 1) [] (by omega) (by omega) (by simp)) ?_
  · unfold chosenStep
    cases fitsNotAny a1 x
    · simp only [cond_false, List.length_append, List.length_cons, List.length_nil]; omega
    · simp only [cond_true]; omega
  · obtain ⟨h1, h0, hw, ht⟩ := idx (lt_of_get hx) (by omega)
    have hj := lt_of_get hx
    have hlim : Nat.ble (out.length + 1) LIM = true := Nat.ble_eq_true_of_le (by have : (LIM : Nat) = 4294967296 := rfl; omega)
    simp only [f22L0, h1, h0, hw, ht, atI_of (t := .item) hx, Bool.and_self, cond_true, hgi x (List.mem_of_getElem? hx), hlim]
    unfold chosenStep
    cases fitsNotAny a1 x <;> rfl
  · rfl

noncomputable def q22 : List Dt → Option (Bool × List Dt)
  | [.d .store a0, .d (.sl .pick) a1] => some ((gChosen a0 a1), [.d (.sl .str) (chosen a0 a1)])
  | _ => none
noncomputable def s22 : Gm.Spec := Gm.Spec.of [.ro, .ro] [false] true q22
theorem good22 : Gm.Good Try.prog (22, s22) := by
  have hl : ∀ x ∈ [(59, s59), (60, s60)], Gm.Good Try.prog x := List.forall_mem_cons.2 ⟨good59, List.forall_mem_cons.2 ⟨good60, List.forall_mem_nil _⟩⟩
  refine ⟨⟨spec_ok (tab_ok.env hl) (tab.natl hl) Try.func22 (by kernel_rfl : Try.f22.body = some f22c) [22] (by kernel_rfl) ?_, _, Try.func22, by kernel_rfl, of_decide_eq_true (by kernel_rfl)⟩, Gm.Spec.of_natl _ _ _ _⟩
  intro ds outs h
  unfold q22 at h
  split at h
  · simp only [Option.some.injEq, Prod.mk.injEq] at h; obtain ⟨hg, h⟩ := h; cases h; exact f22_spec _ _ hg
  · cases h
/-! ### loop.example/g00465/spec.Chosen -/
noncomputable def f24S0 (y0 : List PickT) (y1 : Int) (y2 : Bool) (y3 : Int) (y4 : List ItemT) (y5 : Int) (y6 : List ByteArray) : St := ⟨[(1, .c (.one (.ro .pick y0))), (2, .c (.one (.pt 2 0))), (5, .c (.one (.h 576 0 0 []))), (6, .c (.one (.v (.int .i64 y1)))), (7, .c (.one (.v (.bool y2)))), (8, .c (.one (.v (.int .i64 y3))))], [(2, ⟨.store, [.ro .item y4, .v (.int .i64 y5)]⟩)], [(576, .live ⟨.str, .deep, 0, [], y6⟩)]⟩
noncomputable def f24S1 (y0 : List PickT) (y1 : Int) (y2 : Bool) (y3 : Int) (y4 : Bool) (y5 : List ItemT) (y6 : Int) (y7 : List ByteArray) : St := ⟨[(1, .c (.one (.ro .pick y0))), (2, .c (.one (.pt 2 0))), (5, .c (.one (.h 576 0 0 []))), (6, .c (.one (.v (.int .i64 y1)))), (7, .c (.one (.v (.bool y2)))), (8, .c (.one (.v (.int .i64 y3)))), (20, .c (.one (.v (.bool y4))))], [(2, ⟨.store, [.ro .item y5, .v (.int .i64 y6)]⟩)], [(576, .live ⟨.str, .deep, 0, [], y7⟩)]⟩
noncomputable def f24S2 (y0 : List PickT) (y1 : Int) (y2 : List ItemT) (y3 : Int) (y4 : List ByteArray) : St := ⟨[(1, .c (.one (.ro .pick y0))), (2, .c (.one (.pt 2 0))), (5, .c (.one (.h 576 0 0 []))), (6, .c (.one (.v (.int .i64 y1))))], [(2, ⟨.store, [.ro .item y2, .v (.int .i64 y3)]⟩)], [(576, .live ⟨.str, .deep, 0, [], y4⟩)]⟩
noncomputable def f24S3 (y0 : List PickT) (y1 : Int) (y2 : Bool) (y3 : List ItemT) (y4 : Int) (y5 : List ByteArray) : St := ⟨[(1, .c (.one (.ro .pick y0))), (2, .c (.one (.pt 2 0))), (5, .c (.one (.h 576 0 0 []))), (6, .c (.one (.v (.int .i64 y1)))), (14, .c (.one (.v (.bool y2))))], [(2, ⟨.store, [.ro .item y3, .v (.int .i64 y4)]⟩)], [(576, .live ⟨.str, .deep, 0, [], y5⟩)]⟩
noncomputable def f24c : Code := (Try.f24.body).getD .skip
def f24k : Nat → Kp := kat [⟨[1, 2], [], [], []⟩, ⟨[1, 2, 5], [], [], []⟩, ⟨[1, 2, 5, 6], [], [], []⟩, ⟨[1, 2, 5, 6, 14], [], [], []⟩, ⟨[1, 2, 5, 6], [], [], []⟩, ⟨[1, 2, 5, 6, 7], [], [], []⟩, ⟨[1, 2, 5, 6, 7, 8], [], [], []⟩, ⟨[1, 2, 5, 6, 7, 8, 20], [], [], []⟩, ⟨[1, 2, 5, 6, 7, 8], [], [], []⟩, ⟨[1, 2, 5, 6, 7, 8], [], [], []⟩, ⟨[1, 2, 5, 6, 38], [], [], []⟩, ⟨[1, 2, 5, 6], [], [], []⟩, ⟨[4], [], [], []⟩]
noncomputable def f24e : Env := tab.env [(16, s16)]
noncomputable def f24L0 {R : Type} (n : Nat) (x0 : Bool → Int → Bool → Option R) (vs1 : List PickT) (vs6 : Int) (vb2_0 : List ItemT) (vb2_1 : Int) (vr576 : List ByteArray) : Nat → Bool → Int → Option R
  | 0, _, _ => none
  | m + 1, vs7, vs8 =>
    (cond (decide (vs8 < (vs1.length : Int)))
   (cond vs7
    (cond ((decide ((0 : Int) ≤ vs8)) && (decide (vs8 < (vs1.length : Int))))
     (cond ((decide ((0 : Int) ≤ vs6)) && (decide (vs6 < (vb2_0.length : Int))))
      (cond (gFits (atI (t := .pick) vs1 (Int.toNat vs8)) (OrderT.notes (ItemT.order (atI (t := .item) vb2_0 (Int.toNat vs6)))))
       (f24L0 n x0 vs1 vs6 vb2_0 vb2_1 vr576 m (fits (atI (t := .pick) vs1 (Int.toNat vs8)) (OrderT.notes (ItemT.order (atI (t := .item) vb2_0 (Int.toNat vs6))))) (IntKind.wrap .i64 (vs8 + (1 : Int))))
       none)
      none)
     none)
    (f24L0 n x0 vs1 vs6 vb2_0 vb2_1 vr576 m false (IntKind.wrap .i64 (vs8 + (1 : Int)))))
   (x0 vs7 vs8 (decide (vs8 < (vs1.length : Int)))))
theorem f24L0_b {R : Type} (n : Nat) (k' : Ex → St → Option R) (vs1 : List PickT) (vs6 : Int) (vs7 : Bool) (vs8 : Int) (vb2_0 : List ItemT) (vb2_1 : Int) (vr576 : List ByteArray) : ev f24e f24k n (cAt [1,1,0,1,0,0,1,0,0,1,0,1,0,0] f24c) (f24S0 vs1 vs6 vs7 vs8 vb2_0 vb2_1 vr576) k' =
    (cond (decide (vs8 < (vs1.length : Int)))
  (cond vs7
   (cond ((decide ((0 : Int) ≤ vs8)) && (decide (vs8 < (vs1.length : Int))))
    (cond ((decide ((0 : Int) ≤ vs6)) && (decide (vs6 < (vb2_0.length : Int))))
     (cond (gFits (atI (t := .pick) vs1 (Int.toNat vs8)) (OrderT.notes (ItemT.order (atI (t := .item) vb2_0 (Int.toNat vs6)))))
      (k' .normal (f24S0 vs1 vs6 (fits (atI (t := .pick) vs1 (Int.toNat vs8)) (OrderT.notes (ItemT.order (atI (t := .item) vb2_0 (Int.toNat vs6))))) (IntKind.wrap .i64 (vs8 + (1 : Int))) vb2_0 vb2_1 vr576))
      none)
     none)
    none)
   (k' .normal (f24S0 vs1 vs6 false (IntKind.wrap .i64 (vs8 + (1 : Int))) vb2_0 vb2_1 vr576)))
  (k' (.exit 2) (f24S1 vs1 vs6 vs7 vs8 (decide (vs8 < (vs1.length : Int))) vb2_0 vb2_1 vr576))) := by kernel_rfl
theorem f24L0_eq {R : Type} (n : Nat) (k' : Ex → St → Option R) (vs1 : List PickT) (vs6 : Int) (vb2_0 : List ItemT) (vb2_1 : Int) (vr576 : List ByteArray) : ∀ (m : Nat) (vs7 : Bool) (vs8 : Int), iter (fun st k => ev f24e f24k n (cAt [1,1,0,1,0,0,1,0,0,1,0,1,0,0] f24c) st k) m (f24S0 vs1 vs6 vs7 vs8 vb2_0 vb2_1 vr576) k' = f24L0 n (fun (xvs7 : Bool) (xvs8 : Int) (xvs20 : Bool) => k' (.exit 2) (f24S1 vs1 vs6 xvs7 xvs8 xvs20 vb2_0 vb2_1 vr576)) vs1 vs6 vb2_0 vb2_1 vr576 m vs7 vs8 := by
  intro m; induction m with
  | zero => intros; rfl
  | succ m ih =>
    intro vs7 vs8
    simp only [iter]
    rw [f24L0_b]
    simp only [ih, f24L0]

noncomputable def f24K0 {R : Type} (n : Nat) (k' : Ex → St → Option R) : Ex → St → Option R := (blockK 2 (seqK f24e f24k n (cAt [1,1,0,1,0,0,1,0,0,1,1] f24c) (blockK 1 (seqK f24e f24k n (cAt [1,1,0,1,0,0,1,1] f24c) k'))))
theorem f24K0_x0 {R : Type} (n : Nat) (k' : Ex → St → Option R) (vs1 : List PickT) (vs6 : Int) (vb2_0 : List ItemT) (vb2_1 : Int) (vr576 : List ByteArray) (xvs7 : Bool) (xvs8 : Int) (xvs20 : Bool) : f24K0 n k' (.exit 2) (f24S1 vs1 vs6 xvs7 xvs8 xvs20 vb2_0 vb2_1 vr576) =
    (cond xvs7
  (cond ((decide ((0 : Int) ≤ vs6)) && (decide (vs6 < (vb2_0.length : Int))))
   (cond (Nat.ble (vr576.length + 1) LIM)
    (k' .normal (f24S2 vs1 (IntKind.wrap .i64 (vs6 + (1 : Int))) vb2_0 vb2_1 (vr576 ++ ([(OrderT.name (ItemT.order (atI (t := .item) vb2_0 (Int.toNat vs6))))] : List ByteArray))))
    none)
   none)
  (k' .normal (f24S2 vs1 (IntKind.wrap .i64 (vs6 + (1 : Int))) vb2_0 vb2_1 vr576))) := by kernel_rfl

noncomputable def f24L1 {R : Type} (n : Nat) (x0 : Int → Bool → (List ByteArray) → Option R) (vs1 : List PickT) (vb2_0 : List ItemT) (vb2_1 : Int) : Nat → Int → (List ByteArray) → Option R
  | 0, _, _ => none
  | m + 1, vs6, vr576 =>
    (cond (decide (vs6 < (vb2_0.length : Int)))
   (f24L0 n (fun (xvs7 : Bool) (xvs8 : Int) (xvs20 : Bool) =>
    (cond xvs7
     (cond ((decide ((0 : Int) ≤ vs6)) && (decide (vs6 < (vb2_0.length : Int))))
      (cond (Nat.ble (vr576.length + 1) LIM)
       (f24L1 n x0 vs1 vb2_0 vb2_1 m (IntKind.wrap .i64 (vs6 + (1 : Int))) (vr576 ++ ([(OrderT.name (ItemT.order (atI (t := .item) vb2_0 (Int.toNat vs6))))] : List ByteArray)))
       none)
      none)
     (f24L1 n x0 vs1 vb2_0 vb2_1 m (IntKind.wrap .i64 (vs6 + (1 : Int))) vr576))) vs1 vs6 vb2_0 vb2_1 vr576 n true (0 : Int))
   (x0 vs6 (decide (vs6 < (vb2_0.length : Int))) vr576))
theorem f24L1_b {R : Type} (n : Nat) (k' : Ex → St → Option R) (vs1 : List PickT) (vs6 : Int) (vb2_0 : List ItemT) (vb2_1 : Int) (vr576 : List ByteArray) : ev f24e f24k n (cAt [1,1,0,1,0,0] f24c) (f24S2 vs1 vs6 vb2_0 vb2_1 vr576) k' =
    (cond (decide (vs6 < (vb2_0.length : Int)))
  (f24L0 n (fun (xvs7 : Bool) (xvs8 : Int) (xvs20 : Bool) =>
   (cond xvs7
    (cond ((decide ((0 : Int) ≤ vs6)) && (decide (vs6 < (vb2_0.length : Int))))
     (cond (Nat.ble (vr576.length + 1) LIM)
      (k' .normal (f24S2 vs1 (IntKind.wrap .i64 (vs6 + (1 : Int))) vb2_0 vb2_1 (vr576 ++ ([(OrderT.name (ItemT.order (atI (t := .item) vb2_0 (Int.toNat vs6))))] : List ByteArray))))
      none)
     none)
    (k' .normal (f24S2 vs1 (IntKind.wrap .i64 (vs6 + (1 : Int))) vb2_0 vb2_1 vr576)))) vs1 vs6 vb2_0 vb2_1 vr576 n true (0 : Int))
  (k' (.exit 0) (f24S3 vs1 vs6 (decide (vs6 < (vb2_0.length : Int))) vb2_0 vb2_1 vr576))) := by
  refine Eq.trans (b := (cond (decide (vs6 < (vb2_0.length : Int)))
  (iter (fun st k => ev f24e f24k n (cAt [1,1,0,1,0,0,1,0,0,1,0,1,0,0] f24c) st k) n (f24S0 vs1 vs6 true (0 : Int) vb2_0 vb2_1 vr576) (f24K0 n k'))
  (k' (.exit 0) (f24S3 vs1 vs6 (decide (vs6 < (vb2_0.length : Int))) vb2_0 vb2_1 vr576)))) (by kernel_rfl) ?_
  simp only [f24L0_eq, f24K0_x0]
theorem f24L1_eq {R : Type} (n : Nat) (k' : Ex → St → Option R) (vs1 : List PickT) (vb2_0 : List ItemT) (vb2_1 : Int) : ∀ (m : Nat) (vs6 : Int) (vr576 : List ByteArray), iter (fun st k => ev f24e f24k n (cAt [1,1,0,1,0,0] f24c) st k) m (f24S2 vs1 vs6 vb2_0 vb2_1 vr576) k' = f24L1 n (fun (xvs6 : Int) (xvs14 : Bool) (xvr576 : List ByteArray) => k' (.exit 0) (f24S3 vs1 xvs6 xvs14 vb2_0 vb2_1 xvr576)) vs1 vb2_0 vb2_1 m vs6 vr576 := by
  intro m; induction m with
  | zero => intros; rfl
  | succ m ih =>
    intro vs6 vr576
    simp only [iter]
    rw [f24L1_b]
    simp only [ih, f24L1]

noncomputable def f24K1 {R : Type} (n : Nat) (k' : Ex → St → Option R) : Ex → St → Option R := (blockK 0 (seqK f24e f24k n (cAt [1,1,1] f24c) k'))
theorem f24K1_x0 {R : Type} (n : Nat) (k : List Dt → Option R) (a0 : StoreT) (a1 : List PickT) (vs1 : List PickT) (vb2_0 : List ItemT) (vb2_1 : Int) (xvs6 : Int) (xvs14 : Bool) (xvr576 : List ByteArray) : f24K1 n (exitK f24e [.ro, .ro] [false] true [.tmp 4] [22] [.d .store a0, .d (.sl .pick) a1] k) (.exit 0) (f24S3 vs1 xvs6 xvs14 vb2_0 vb2_1 xvr576) =
    (k [.d (.sl .str) xvr576]) := by kernel_rfl

theorem f24_run {R : Type} (n : Nat) (k : List Dt → Option R) (a0 : StoreT) (a1 : List PickT) : evFn f24e f24k n f24c [.ro, .ro] [false] true [.tmp 4] [22] [.d .store a0, .d (.sl .pick) a1] k =
    (f24L1 n (fun (xvs6 : Int) (xvs14 : Bool) (xvr576 : List ByteArray) =>
  (k [.d (.sl .str) xvr576])) a1 (StoreT.items a0) (StoreT.next a0) n (0 : Int) ([] : List ByteArray)) := by
  refine Eq.trans (b := (iter (fun st k => ev f24e f24k n (cAt [1,1,0,1,0,0] f24c) st k) n (f24S2 a1 (0 : Int) (StoreT.items a0) (StoreT.next a0) ([] : List ByteArray)) (f24K1 n (exitK f24e [.ro, .ro] [false] true [.tmp 4] [22] [.d .store a0, .d (.sl .pick) a1] k)))) (by kernel_rfl) ?_
  simp only [f24L1_eq, f24K1_x0]
theorem f24_spec (a0 : StoreT) (a1 : List PickT) (hg : gChosen a0 a1 = true) : ∃ keep rounds, ∀ {R : Type} (k : List Dt → Option R), evFn f24e keep rounds f24c [.ro, .ro] [false] true [.tmp 4] [22] [.d .store a0, .d (.sl .pick) a1] k = k [.d (.sl .str) (chosen a0 a1)] := by
  simp only [gChosen, sm_store, Bool.and_eq_true] at hg
  obtain ⟨⟨hi, _⟩, hp⟩ := hg
  have hl := smL_len hi
  have hlp := smL_len hp
  have hpo : a1.all okPick = true := List.all_eq_true.2 fun p h => okPick_sm (List.all_eq_true.1 (smL_all hp) p h)
  have hgi : ∀ x ∈ a0.items, gFitsAll a1 x = true := by
    intro x hx
    have := List.all_eq_true.1 (smL_all hi) x hx
    simp only [sm_item, sm_order, Bool.and_eq_true] at this
    unfold gFitsAll
    rw [gLenW_sm hp, hpo, gLenW_sm this.1.2.2.2.2.2.2]; rfl
  refine ⟨f24k, a0.items.length + a1.length + 1, fun {R} k => ?_⟩
  rw [f24_run]
  generalize hX : (fun (xvs6 : Int) (xvs14 : Bool) (xvr576 : List ByteArray) => k [Dt.d (.sl .str) xvr576]) = X
  refine Eq.trans (loop_acc (xs := a0.items) (F := fun m j out => f24L1 (a0.items.length + a1.length + 1) X a1 a0.items a0.next m (j : Int) out) (f := chosenStep a1) (good := fun out => X (a0.items.length : Int) false out) (fun j out => out.length ≤ j)
    (fun j out x hx hi => ?_) (fun m j out x hx hi => ?_) (fun m out hi => by simp only [f24L1, idxE, cond_false]) a0.items.length 0 (a0.items.length + a1.length + 1) [] (by omega) (by omega) (by simp)) ?_
  · unfold chosenStep
    cases fitsNotAny a1 x
    · simp only [cond_false, List.length_append, List.length_cons, List.length_nil]; omega
    · simp only [cond_true]; omega
  · obtain ⟨h1, h0, hw, ht⟩ := idx (lt_of_get hx) (by omega)
    have hj := lt_of_get hx
    have hlim : Nat.ble (out.length + 1) LIM = true := Nat.ble_eq_true_of_le (by have : (LIM : Nat) = 4294967296 := rfl; omega)
    have hx2 := List.mem_of_getElem? hx
    have hno : gLenW x.order.notes = true := by
      have := hgi x hx2
      simp only [gFitsAll, Bool.and_eq_true] at this
      exact this.2.2
    simp only [f24L1, h1, h0, hw, ht, atI_of (t := .item) hx, Bool.and_self, cond_true, hlim]
    refine Eq.trans (loop_acc (xs := a1) (F := fun m2 j2 b => f24L0 (a0.items.length + a1.length + 1) _ a1 (j : Int) a0.items a0.next out m2 b (j2 : Int)) (f := fun b p => b && fits p x.order.notes)
      (good := fun b => cond b (f24L1 (a0.items.length + a1.length + 1) X a1 a0.items a0.next m (j + 1 : Nat) (out ++ [x.order.name])) (f24L1 (a0.items.length + a1.length + 1) X a1 a0.items a0.next m (j + 1 : Nat) out)) (fun _ _ => True)
      (fun _ _ _ _ _ => trivial) (fun m2 j2 b p hp2 _ => ?_) (fun m2 b _ => by simp only [f24L0, idxE, cond_false]) a1.length 0 (a0.items.length + a1.length + 1) true (by omega) (by omega) trivial) ?_
    · obtain ⟨g1, g0, gw, gt⟩ := idx (lt_of_get hp2) (by omega)
      have hgf : gFits p x.order.notes = true := by unfold gFits; rw [List.all_eq_true.1 hpo p (List.mem_of_getElem? hp2), hno]; rfl
      simp only [f24L0, g1, g0, gw, gt, h1, h0, ht, atI_of (t := .pick) hp2, atI_of (t := .item) hx, Bool.and_self, cond_true, hgf]
      cases b <;> rfl
    · rw [List.drop_zero, foldl_and, Bool.true_and]
      unfold chosenStep fitsNotAny
      rw [← any_not (fun p => fits p x.order.notes)]
      have e : (a1.any fun p => fitsNot p x) = a1.any fun p => !(fits p x.order.notes) := rfl
      rw [e]
      cases a1.any fun p => !(fits p x.order.notes) <;> rfl
  · rw [← hX]; rfl

noncomputable def q24 : List Dt → Option (Bool × List Dt)
  | [.d .store a0, .d (.sl .pick) a1] => some ((gChosen a0 a1), [.d (.sl .str) (chosen a0 a1)])
  | _ => none
noncomputable def s24 : Gm.Spec := Gm.Spec.of [.ro, .ro] [false] true q24
theorem good24 : Gm.Good Try.prog (24, s24) := by
  have hl : ∀ x ∈ [(16, s16)], Gm.Good Try.prog x := List.forall_mem_cons.2 ⟨good16, List.forall_mem_nil _⟩
  refine ⟨⟨spec_ok (tab_ok.env hl) (tab.natl hl) Try.func24 (by kernel_rfl : Try.f24.body = some f24c) [22] (by kernel_rfl) ?_, _, Try.func24, by kernel_rfl, of_decide_eq_true (by kernel_rfl)⟩, Gm.Spec.of_natl _ _ _ _⟩
  intro ds outs h
  unfold q24 at h
  split at h
  · simp only [Option.some.injEq, Prod.mk.injEq] at h; obtain ⟨hg, h⟩ := h; cases h; exact f24_spec _ _ hg
  · cases h
end Go.Proofs.Ytklmnopgogcbhaa

/- x -/
namespace Go.Proofs.Ytklmnopgogcbhaa
open Go Go.Gm
/-! ### loop.example/g00465/laws.FnChosen -/
noncomputable def f6S0 (y0 : Int) (y1 : Int) (y2 : Int) (y3 : List ItemT) (y4 : List PickT) (y5 : List ByteArray) (y6 : List ByteArray) : St := ⟨[(3, .c (.one (.pt 3 0))), (4, .c (.one (.h 897 0 0 []))), (5, .c (.one (.h 1216 0 0 []))), (6, .c (.one (.v (.int .i64 y0)))), (7, .c (.one (.h 3008 0 0 []))), (8, .c (.one (.v (.int .i64 y1))))], [(3, ⟨.store, [.h 896 0 0 [], .v (.int .i64 y2)]⟩)], [(896, .live ⟨.item, .deep, 0, [], y3⟩), (897, .live ⟨.pick, .frz, 0, [], y4⟩), (1216, .live ⟨.str, .deep, 0, [], y5⟩), (3008, .live ⟨.str, .deep, 0, [], y6⟩)]⟩
noncomputable def f6S1 : St := ⟨[(2, .c (.one (.v (.bool false))))], [], []⟩
noncomputable def f6S2 (y0 : Int) (y1 : Int) (y2 : Bool) (y3 : Int) (y4 : List ItemT) (y5 : List PickT) (y6 : List ByteArray) (y7 : List ByteArray) : St := ⟨[(3, .c (.one (.pt 3 0))), (4, .c (.one (.h 897 0 0 []))), (5, .c (.one (.h 1216 0 0 []))), (6, .c (.one (.v (.int .i64 y0)))), (7, .c (.one (.h 3008 0 0 []))), (8, .c (.one (.v (.int .i64 y1)))), (51, .c (.one (.v (.bool y2))))], [(3, ⟨.store, [.h 896 0 0 [], .v (.int .i64 y3)]⟩)], [(896, .live ⟨.item, .deep, 0, [], y4⟩), (897, .live ⟨.pick, .frz, 0, [], y5⟩), (1216, .live ⟨.str, .deep, 0, [], y6⟩), (3008, .live ⟨.str, .deep, 0, [], y7⟩)]⟩
noncomputable def f6S3 (y0 : Int) (y1 : Int) (y2 : List ItemT) (y3 : List PickT) (y4 : List ByteArray) : St := ⟨[(3, .c (.one (.pt 3 0))), (4, .c (.one (.h 897 0 0 []))), (5, .c (.one (.h 1216 0 0 []))), (6, .c (.one (.v (.int .i64 y0))))], [(3, ⟨.store, [.h 896 0 0 [], .v (.int .i64 y1)]⟩)], [(896, .live ⟨.item, .deep, 0, [], y2⟩), (897, .live ⟨.pick, .frz, 0, [], y3⟩), (1216, .live ⟨.str, .deep, 0, [], y4⟩)]⟩
noncomputable def f6S4 (y0 : Int) (y1 : Bool) (y2 : Int) (y3 : List ItemT) (y4 : List PickT) (y5 : List ByteArray) : St := ⟨[(3, .c (.one (.pt 3 0))), (4, .c (.one (.h 897 0 0 []))), (5, .c (.one (.h 1216 0 0 []))), (6, .c (.one (.v (.int .i64 y0)))), (38, .c (.one (.v (.bool y1))))], [(3, ⟨.store, [.h 896 0 0 [], .v (.int .i64 y2)]⟩)], [(896, .live ⟨.item, .deep, 0, [], y3⟩), (897, .live ⟨.pick, .frz, 0, [], y4⟩), (1216, .live ⟨.str, .deep, 0, [], y5⟩)]⟩
noncomputable def f6c : Code := (Try.f6.body).getD .skip
def f6k : Nat → Kp := kat [⟨[0], [], [], []⟩, ⟨[0, 11], [], [], []⟩, ⟨[2], [], [], []⟩, ⟨[3, 4], [], [], []⟩, ⟨[3, 4, 5], [], [], []⟩, ⟨[3, 4, 5, 34], [], [], []⟩, ⟨[2], [], [], []⟩, ⟨[3, 4, 5, 6], [], [897], []⟩, ⟨[3, 4, 5, 6, 38], [], [], []⟩, ⟨[3, 4, 5, 6], [], [897], []⟩, ⟨[3, 4, 5, 6, 7], [], [], []⟩, ⟨[3, 4, 5, 6, 7, 8], [], [], []⟩, ⟨[3, 4, 5, 6, 7, 8, 51], [], [], []⟩, ⟨[3, 4, 5, 6, 7, 8], [], [], []⟩, ⟨[3, 4, 5, 6, 7, 8, 60], [], [], []⟩, ⟨[2], [], [], []⟩, ⟨[3, 4, 5, 6, 7, 66], [], [897], []⟩, ⟨[3, 4, 5, 6, 7, 9], [], [], []⟩, ⟨[3, 4, 5, 6, 7, 9], [], [], []⟩, ⟨[3, 4, 5, 6, 91], [], [], []⟩, ⟨[2], [], [], []⟩, ⟨[2], [], [], []⟩]
noncomputable def f6e : Env := tab.env [(11, s11), (20, s20), (21, s21), (22, s22), (23, s23), (24, s24), (25, s25)]
noncomputable def f6L0 {R : Type} (n : Nat) (x0 : Option R) (x1 : Int → Bool → Option R) (vs6 : Int) (vb3_1 : Int) (vr896 : List ItemT) (vr897 : List PickT) (vr1216 : List ByteArray) (vr3008 : List ByteArray) : Nat → Int → Option R
  | 0, _ => none
  | m + 1, vs8 =>
    (cond (decide (vs8 < (vr1216.length : Int)))
   (cond ((decide ((0 : Int) ≤ vs8)) && (decide (vs8 < (vr1216.length : Int))))
    (cond ((fun (x : List ByteArray) (_ : ByteArray) => gLenW x) vr3008 (atI (t := .str) vr1216 (Int.toNat vs8)))
     (cond (!(isIn vr3008 (atI (t := .str) vr1216 (Int.toNat vs8))))
      (x0)
      (f6L0 n x0 x1 vs6 vb3_1 vr896 vr897 vr1216 vr3008 m (IntKind.wrap .i64 (vs8 + (1 : Int)))))
     none)
    none)
   (x1 vs8 (decide (vs8 < (vr1216.length : Int)))))
theorem f6L0_b {R : Type} (n : Nat) (k' : Ex → St → Option R) (vs6 : Int) (vs8 : Int) (vb3_1 : Int) (vr896 : List ItemT) (vr897 : List PickT) (vr1216 : List ByteArray) (vr3008 : List ByteArray) : ev f6e f6k n (cAt [1,1,1,1,1,0,1,0,0,1,0,0,1,0,1,0,0] f6c) (f6S0 vs6 vs8 vb3_1 vr896 vr897 vr1216 vr3008) k' =
    (cond (decide (vs8 < (vr1216.length : Int)))
  (cond ((decide ((0 : Int) ≤ vs8)) && (decide (vs8 < (vr1216.length : Int))))
   (cond ((fun (x : List ByteArray) (_ : ByteArray) => gLenW x) vr3008 (atI (t := .str) vr1216 (Int.toNat vs8)))
    (cond (!(isIn vr3008 (atI (t := .str) vr1216 (Int.toNat vs8))))
     (k' .ret f6S1)
     (k' .normal (f6S0 vs6 (IntKind.wrap .i64 (vs8 + (1 : Int))) vb3_1 vr896 vr897 vr1216 vr3008)))
    none)
   none)
  (k' (.exit 2) (f6S2 vs6 vs8 (decide (vs8 < (vr1216.length : Int))) vb3_1 vr896 vr897 vr1216 vr3008))) := by kernel_rfl
theorem f6L0_eq {R : Type} (n : Nat) (k' : Ex → St → Option R) (vs6 : Int) (vb3_1 : Int) (vr896 : List ItemT) (vr897 : List PickT) (vr1216 : List ByteArray) (vr3008 : List ByteArray) : ∀ (m : Nat) (vs8 : Int), iter (fun st k => ev f6e f6k n (cAt [1,1,1,1,1,0,1,0,0,1,0,0,1,0,1,0,0] f6c) st k) m (f6S0 vs6 vs8 vb3_1 vr896 vr897 vr1216 vr3008) k' = f6L0 n (k' .ret f6S1) (fun (xvs8 : Int) (xvs51 : Bool) => k' (.exit 2) (f6S2 vs6 xvs8 xvs51 vb3_1 vr896 vr897 vr1216 vr3008)) vs6 vb3_1 vr896 vr897 vr1216 vr3008 m vs8 := by
  intro m; induction m with
  | zero => intros; rfl
  | succ m ih =>
    intro vs8
    simp only [iter]
    rw [f6L0_b]
    simp only [ih, f6L0]

noncomputable def f6K0 {R : Type} (n : Nat) (k' : Ex → St → Option R) : Ex → St → Option R := (blockK 2 (seqK f6e f6k n (cAt [1,1,1,1,1,0,1,0,0,1,0,0,1,1] f6c) (blockK 1 (seqK f6e f6k n (cAt [1,1,1,1,1,0,1,0,0,1,1] f6c) k'))))
theorem f6K0_x0 {R : Type} (n : Nat) (k' : Ex → St → Option R)  : f6K0 n k' .ret f6S1 =
    (k' .ret f6S1) := by kernel_rfl
theorem f6K0_x1 {R : Type} (n : Nat) (k' : Ex → St → Option R) (vs6 : Int) (vb3_1 : Int) (vr896 : List ItemT) (vr897 : List PickT) (vr1216 : List ByteArray) (vr3008 : List ByteArray) (xvs8 : Int) (xvs51 : Bool) : f6K0 n k' (.exit 2) (f6S2 vs6 xvs8 xvs51 vb3_1 vr896 vr897 vr1216 vr3008) =
    (cond ((decide ((0 : Int) ≤ vs6)) && (decide (vs6 < (vr897.length : Int))))
  (cond (okPick (atI (t := .pick) vr897 (Int.toNat vs6)))
   (cond (!(pickOk (atI (t := .pick) vr897 (Int.toNat vs6))))
    (k' .normal (f6S3 (IntKind.wrap .i64 (vs6 + (1 : Int))) vb3_1 vr896 vr897 vr1216))
    (cond ((decide ((0 : Int) ≤ vs6)) && (decide (vs6 < (vr897.length : Int))))
     (cond ((decide ((0 : Int) ≤ vs6)) && (decide (vs6 < (vr897.length : Int))))
      (cond ((decide ((0 : Int) ≤ (PickT.op (atI (t := .pick) vr897 (Int.toNat vs6))))) && (decide ((PickT.op (atI (t := .pick) vr897 (Int.toNat vs6))) < (7 : Int))))
       (cond (gChosen (⟨vr896, vb3_1⟩ : StoreT) ([(⟨(atI (t := (.i .i64)) ([(0 : Int), (2 : Int), (1 : Int), (4 : Int), (3 : Int), (6 : Int), (5 : Int)] : List Int) (Int.toNat (PickT.op (atI (t := .pick) vr897 (Int.toNat vs6))))), (PickT.key (atI (t := .pick) vr897 (Int.toNat vs6))), (PickT.vals (atI (t := .pick) vr897 (Int.toNat vs6)))⟩ : PickT)] : List PickT))
        (cond ((IntKind.wrap .i64 (((chosen (⟨vr896, vb3_1⟩ : StoreT) ([(⟨(atI (t := (.i .i64)) ([(0 : Int), (2 : Int), (1 : Int), (4 : Int), (3 : Int), (6 : Int), (5 : Int)] : List Int) (Int.toNat (PickT.op (atI (t := .pick) vr897 (Int.toNat vs6))))), (PickT.key (atI (t := .pick) vr897 (Int.toNat vs6))), (PickT.vals (atI (t := .pick) vr897 (Int.toNat vs6)))⟩ : PickT)] : List PickT)).length : Int) + (vr3008.length : Int))) != (vr896.length : Int))
         (k' .ret f6S1)
         (k' .normal (f6S3 (IntKind.wrap .i64 (vs6 + (1 : Int))) vb3_1 vr896 vr897 vr1216)))
        none)
       none)
      none)
     none))
   none)
  none) := by kernel_rfl

noncomputable def f6L1 {R : Type} (n : Nat) (x0 : Option R) (x1 : Int → Bool → Option R) (vb3_1 : Int) (vr896 : List ItemT) (vr897 : List PickT) (vr1216 : List ByteArray) : Nat → Int → Option R
  | 0, _ => none
  | m + 1, vs6 =>
    (cond (decide (vs6 < (vr897.length : Int)))
   (cond ((decide ((0 : Int) ≤ vs6)) && ((decide (vs6 ≤ (IntKind.wrap .i64 (vs6 + (1 : Int))))) && (decide ((IntKind.wrap .i64 (vs6 + (1 : Int))) ≤ (vr897.length : Int)))))
    (cond (gChosen (⟨vr896, vb3_1⟩ : StoreT) ((vr897.take (Int.toNat (IntKind.wrap .i64 (vs6 + (1 : Int))))).drop (Int.toNat vs6)))
     (f6L0 n (x0) (fun (xvs8 : Int) (xvs51 : Bool) =>
      (cond ((decide ((0 : Int) ≤ vs6)) && (decide (vs6 < (vr897.length : Int))))
       (cond (okPick (atI (t := .pick) vr897 (Int.toNat vs6)))
        (cond (!(pickOk (atI (t := .pick) vr897 (Int.toNat vs6))))
         (f6L1 n x0 x1 vb3_1 vr896 vr897 vr1216 m (IntKind.wrap .i64 (vs6 + (1 : Int))))
         (cond ((decide ((0 : Int) ≤ vs6)) && (decide (vs6 < (vr897.length : Int))))
          (cond ((decide ((0 : Int) ≤ vs6)) && (decide (vs6 < (vr897.length : Int))))
           (cond ((decide ((0 : Int) ≤ (PickT.op (atI (t := .pick) vr897 (Int.toNat vs6))))) && (decide ((PickT.op (atI (t := .pick) vr897 (Int.toNat vs6))) < (7 : Int))))
            (cond (gChosen (⟨vr896, vb3_1⟩ : StoreT) ([(⟨(atI (t := (.i .i64)) ([(0 : Int), (2 : Int), (1 : Int), (4 : Int), (3 : Int), (6 : Int), (5 : Int)] : List Int) (Int.toNat (PickT.op (atI (t := .pick) vr897 (Int.toNat vs6))))), (PickT.key (atI (t := .pick) vr897 (Int.toNat vs6))), (PickT.vals (atI (t := .pick) vr897 (Int.toNat vs6)))⟩ : PickT)] : List PickT))
             (cond ((IntKind.wrap .i64 (((chosen (⟨vr896, vb3_1⟩ : StoreT) ([(⟨(atI (t := (.i .i64)) ([(0 : Int), (2 : Int), (1 : Int), (4 : Int), (3 : Int), (6 : Int), (5 : Int)] : List Int) (Int.toNat (PickT.op (atI (t := .pick) vr897 (Int.toNat vs6))))), (PickT.key (atI (t := .pick) vr897 (Int.toNat vs6))), (PickT.vals (atI (t := .pick) vr897 (Int.toNat vs6)))⟩ : PickT)] : List PickT)).length : Int) + ((chosen (⟨vr896, vb3_1⟩ : StoreT) ((vr897.take (Int.toNat (IntKind.wrap .i64 (vs6 + (1 : Int))))).drop (Int.toNat vs6))).length : Int))) != (vr896.length : Int))
              (x0)
              (f6L1 n x0 x1 vb3_1 vr896 vr897 vr1216 m (IntKind.wrap .i64 (vs6 + (1 : Int)))))
             none)
            none)
           none)
          none))
        none)
       none)) vs6 vb3_1 vr896 vr897 vr1216 (chosen (⟨vr896, vb3_1⟩ : StoreT) ((vr897.take (Int.toNat (IntKind.wrap .i64 (vs6 + (1 : Int))))).drop (Int.toNat vs6))) n (0 : Int))
     none)
    none)
   (x1 vs6 (decide (vs6 < (vr897.length : Int)))))
theorem f6L1_b {R : Type} (n : Nat) (k' : Ex → St → Option R) (vs6 : Int) (vb3_1 : Int) (vr896 : List ItemT) (vr897 : List PickT) (vr1216 : List ByteArray) : ev f6e f6k n (cAt [1,1,1,1,1,0,1,0,0] f6c) (f6S3 vs6 vb3_1 vr896 vr897 vr1216) k' =
    (cond (decide (vs6 < (vr897.length : Int)))
  (cond ((decide ((0 : Int) ≤ vs6)) && ((decide (vs6 ≤ (IntKind.wrap .i64 (vs6 + (1 : Int))))) && (decide ((IntKind.wrap .i64 (vs6 + (1 : Int))) ≤ (vr897.length : Int)))))
   (cond (gChosen (⟨vr896, vb3_1⟩ : StoreT) ((vr897.take (Int.toNat (IntKind.wrap .i64 (vs6 + (1 : Int))))).drop (Int.toNat vs6)))
    (f6L0 n (k' .ret f6S1) (fun (xvs8 : Int) (xvs51 : Bool) =>
     (cond ((decide ((0 : Int) ≤ vs6)) && (decide (vs6 < (vr897.length : Int))))
      (cond (okPick (atI (t := .pick) vr897 (Int.toNat vs6)))
       (cond (!(pickOk (atI (t := .pick) vr897 (Int.toNat vs6))))
        (k' .normal (f6S3 (IntKind.wrap .i64 (vs6 + (1 : Int))) vb3_1 vr896 vr897 vr1216))
        (cond ((decide ((0 : Int) ≤ vs6)) && (decide (vs6 < (vr897.length : Int))))
         (cond ((decide ((0 : Int) ≤ vs6)) && (decide (vs6 < (vr897.length : Int))))
          (cond ((decide ((0 : Int) ≤ (PickT.op (atI (t := .pick) vr897 (Int.toNat vs6))))) && (decide ((PickT.op (atI (t := .pick) vr897 (Int.toNat vs6))) < (7 : Int))))
           (cond (gChosen (⟨vr896, vb3_1⟩ : StoreT) ([(⟨(atI (t := (.i .i64)) ([(0 : Int), (2 : Int), (1 : Int), (4 : Int), (3 : Int), (6 : Int), (5 : Int)] : List Int) (Int.toNat (PickT.op (atI (t := .pick) vr897 (Int.toNat vs6))))), (PickT.key (atI (t := .pick) vr897 (Int.toNat vs6))), (PickT.vals (atI (t := .pick) vr897 (Int.toNat vs6)))⟩ : PickT)] : List PickT))
            (cond ((IntKind.wrap .i64 (((chosen (⟨vr896, vb3_1⟩ : StoreT) ([(⟨(atI (t := (.i .i64)) ([(0 : Int), (2 : Int), (1 : Int), (4 : Int), (3 : Int), (6 : Int), (5 : Int)] : List Int) (Int.toNat (PickT.op (atI (t := .pick) vr897 (Int.toNat vs6))))), (PickT.key (atI (t := .pick) vr897 (Int.toNat vs6))), (PickT.vals (atI (t := .pick) vr897 (Int.toNat vs6)))⟩ : PickT)] : List PickT)).length : Int) + ((chosen (⟨vr896, vb3_1⟩ : StoreT) ((vr897.take (Int.toNat (IntKind.wrap .i64 (vs6 + (1 : Int))))).drop (Int.toNat vs6))).length : Int))) != (vr896.length : Int))
             (k' .ret f6S1)
             (k' .normal (f6S3 (IntKind.wrap .i64 (vs6 + (1 : Int))) vb3_1 vr896 vr897 vr1216)))
            none)
           none)
          none)
         none))
       none)
      none)) vs6 vb3_1 vr896 vr897 vr1216 (chosen (⟨vr896, vb3_1⟩ : StoreT) ((vr897.take (Int.toNat (IntKind.wrap .i64 (vs6 + (1 : Int))))).drop (Int.toNat vs6))) n (0 : Int))
    none)
   none)
  (k' (.exit 0) (f6S4 vs6 (decide (vs6 < (vr897.length : Int))) vb3_1 vr896 vr897 vr1216))) := by
  refine Eq.trans (b := (cond (decide (vs6 < (vr897.length : Int)))
  (cond ((decide ((0 : Int) ≤ vs6)) && ((decide (vs6 ≤ (IntKind.wrap .i64 (vs6 + (1 : Int))))) && (decide ((IntKind.wrap .i64 (vs6 + (1 : Int))) ≤ (vr897.length : Int)))))
   (cond (gChosen (⟨vr896, vb3_1⟩ : StoreT) ((vr897.take (Int.toNat (IntKind.wrap .i64 (vs6 + (1 : Int))))).drop (Int.toNat vs6)))
    (iter (fun st k => ev f6e f6k n (cAt [1,1,1,1,1,0,1,0,0,1,0,0,1,0,1,0,0] f6c) st k) n (f6S0 vs6 (0 : Int) vb3_1 vr896 vr897 vr1216 (chosen (⟨vr896, vb3_1⟩ : StoreT) ((vr897.take (Int.toNat (IntKind.wrap .i64 (vs6 + (1 : Int))))).drop (Int.toNat vs6)))) (f6K0 n k'))
    none)
   none)
  (k' (.exit 0) (f6S4 vs6 (decide (vs6 < (vr897.length : Int))) vb3_1 vr896 vr897 vr1216)))) (by kernel_rfl) ?_
  simp only [f6L0_eq, f6K0_x0, f6K0_x1]
theorem f6L1_eq {R : Type} (n : Nat) (k' : Ex → St → Option R) (vb3_1 : Int) (vr896 : List ItemT) (vr897 : List PickT) (vr1216 : List ByteArray) : ∀ (m : Nat) (vs6 : Int), iter (fun st k => ev f6e f6k n (cAt [1,1,1,1,1,0,1,0,0] f6c) st k) m (f6S3 vs6 vb3_1 vr896 vr897 vr1216) k' = f6L1 n (k' .ret f6S1) (fun (xvs6 : Int) (xvs38 : Bool) => k' (.exit 0) (f6S4 xvs6 xvs38 vb3_1 vr896 vr897 vr1216)) vb3_1 vr896 vr897 vr1216 m vs6 := by
  intro m; induction m with
  | zero => intros; rfl
  | succ m ih =>
    intro vs6
    simp only [iter]
    rw [f6L1_b]
    simp only [ih, f6L1]

noncomputable def f6K1 {R : Type} (n : Nat) (k' : Ex → St → Option R) : Ex → St → Option R := (blockK 0 (seqK f6e f6k n (cAt [1,1,1,1,1,1] f6c) k'))
theorem f6K1_x0 {R : Type} (n : Nat) (k : List Dt → Option R) (a0 : List Int)  : f6K1 n (exitK f6e [.kp] [false] false [.tmp 2] [4] [.d (.sl (.i .u8)) a0] k) .ret f6S1 =
    (k [.d .bool false]) := by kernel_rfl
theorem f6K1_x1 {R : Type} (n : Nat) (k : List Dt → Option R) (a0 : List Int) (vb3_1 : Int) (vr896 : List ItemT) (vr897 : List PickT) (vr1216 : List ByteArray) (xvs6 : Int) (xvs38 : Bool) : f6K1 n (exitK f6e [.kp] [false] false [.tmp 2] [4] [.d (.sl (.i .u8)) a0] k) (.exit 0) (f6S4 xvs6 xvs38 vb3_1 vr896 vr897 vr1216) =
    (k [.d .bool true]) := by kernel_rfl

theorem f6_run {R : Type} (n : Nat) (k : List Dt → Option R) (a0 : List Int) : evFn f6e f6k n f6c [.kp] [false] false [.tmp 2] [4] [.d (.sl (.i .u8)) a0] k =
    (cond (bigC a0)
  (k [.d .bool true])
  (cond (gCode a0)
   (cond (gChosen ((dChosen a0).1) ((dChosen a0).2))
    (cond (gChosen ((dChosen a0).1) ((dChosen a0).2))
     (cond ((gSame (gLenW (α := ByteArray))) (chosen ((dChosen a0).1) ((dChosen a0).2)) (chosen ((dChosen a0).1) ((dChosen a0).2)))
      (cond (!((fun (_ _ : List ByteArray) => true) (chosen ((dChosen a0).1) ((dChosen a0).2)) (chosen ((dChosen a0).1) ((dChosen a0).2))))
       (k [.d .bool false])
       (cond (gChosen ((dChosen a0).1) ([] : List PickT))
        (cond (((chosen ((dChosen a0).1) ([] : List PickT)).length : Int) != ((StoreT.items ((dChosen a0).1)).length : Int))
         (k [.d .bool false])
         (f6L1 n (k [.d .bool false]) (fun (xvs6 : Int) (xvs38 : Bool) =>
          (k [.d .bool true])) (StoreT.next ((dChosen a0).1)) (StoreT.items ((dChosen a0).1)) ((dChosen a0).2) (chosen ((dChosen a0).1) ((dChosen a0).2)) n (0 : Int)))
        none))
      none)
     none)
    none)
   none)) := by
  refine Eq.trans (b := (cond (bigC a0)
  (k [.d .bool true])
  (cond (gCode a0)
   (cond (gChosen ((dChosen a0).1) ((dChosen a0).2))
    (cond (gChosen ((dChosen a0).1) ((dChosen a0).2))
     (cond ((gSame (gLenW (α := ByteArray))) (chosen ((dChosen a0).1) ((dChosen a0).2)) (chosen ((dChosen a0).1) ((dChosen a0).2)))
      (cond (!((fun (_ _ : List ByteArray) => true) (chosen ((dChosen a0).1) ((dChosen a0).2)) (chosen ((dChosen a0).1) ((dChosen a0).2))))
       (k [.d .bool false])
       (cond (gChosen ((dChosen a0).1) ([] : List PickT))
        (cond (((chosen ((dChosen a0).1) ([] : List PickT)).length : Int) != ((StoreT.items ((dChosen a0).1)).length : Int))
         (k [.d .bool false])
         (iter (fun st k => ev f6e f6k n (cAt [1,1,1,1,1,0,1,0,0] f6c) st k) n (f6S3 (0 : Int) (StoreT.next ((dChosen a0).1)) (StoreT.items ((dChosen a0).1)) ((dChosen a0).2) (chosen ((dChosen a0).1) ((dChosen a0).2))) (f6K1 n (exitK f6e [.kp] [false] false [.tmp 2] [4] [.d (.sl (.i .u8)) a0] k))))
        none))
      none)
     none)
    none)
   none))) (by kernel_rfl) ?_
  simp only [f6L1_eq, f6K1_x0, f6K1_x1]
theorem f6_spec (a0 : List Int) : ∃ keep rounds, ∀ {R : Type} (k : List Dt → Option R), evFn f6e keep rounds f6c [.kp] [false] false [.tmp 2] [4] [.d (.sl (.i .u8)) a0] k = k [.d .bool ((fun (_ : List Int) => true) a0)] := by
  cases hbig : bigC a0
  rotate_left
  · refine ⟨f6k, 0, fun {R} k => ?_⟩
    rw [f6_run, hbig]
    rfl
  have hc := gCode_of hbig
  obtain ⟨hs, hp⟩ := dChosen_ok a0 hc
  obtain ⟨N, hN⟩ : ∃ N, N = (dChosen a0).1.items.length + (dChosen a0).2.length + 1 := ⟨_, rfl⟩
  refine ⟨f6k, N, fun {R} k => ?_⟩
  rw [f6_run]
  show _ = k [.d .bool true]
  revert hs hp hN
  generalize (dChosen a0).1 = s, (dChosen a0).2 = list
  intro hs hp hN
  obtain ⟨hi0, _⟩ := store_parts hs
  have hil := smL_len hi0
  have hpl := smL_len hp
  have es : (⟨s.items, s.next⟩ : StoreT) = s := rfl
  have gch : ∀ ps, smL sm_pick ps = true → gChosen s ps = true := fun ps h => by simp only [gChosen, hs, h, Bool.and_self]
  have gl : ∀ ps, gLenW (chosen s ps) = true := fun ps => gLenW_of (by have := chosen_lenL s ps; omega)
  have key0 : ∀ (v : Int) (a one : List ByteArray) (X good : Option R) (Y : Int → Bool → Option R), (∀ i b, Y i b = good) → a.length ≤ s.items.length → gLenW one = true → (∀ n ∈ a, isIn one n = true) → ∀ (d i m : Nat), i + d = a.length → d < m → f6L0 N X Y v s.next s.items list a one m (i : Int) = good := by
    intro v a one X good Y hY hal ho ha d
    induction d with
    | zero =>
      intro i m hi hm
      obtain ⟨m, rfl⟩ : ∃ m', m = m' + 1 := ⟨m - 1, by omega⟩
      simp only [f6L0, decide_eq_false (show ¬ ((i : Int) < (a.length : Int)) by omega), cond_false, hY]
    | succ d ih =>
      intro i m hi hm
      obtain ⟨m, rfl⟩ : ∃ m', m = m' + 1 := ⟨m - 1, by omega⟩
      obtain ⟨h1, h0, hw, ht⟩ := idx (show i < a.length by omega) (by omega)
      have hm := ha _ (List.mem_of_getElem? (atI_lt (t := .str) (show i < a.length by omega)))
      simp only [f6L0, h1, h0, hw, ht, ho, hm, Bool.and_self, Bool.not_true, cond_true, cond_false]
      exact ih (i + 1) m (by omega) (by omega)
  have key1 : ∀ (X good : Option R) (Y : Int → Bool → Option R), (∀ i b, Y i b = good) → ∀ (d j m : Nat), j + d = list.length → d < m → f6L1 N X Y s.next s.items list (chosen s list) m (j : Int) = good := by
    intro X good Y hY d
    induction d with
    | zero =>
      intro j m hj hm
      obtain ⟨m, rfl⟩ : ∃ m', m = m' + 1 := ⟨m - 1, by omega⟩
      simp only [f6L1, decide_eq_false (show ¬ ((j : Int) < (list.length : Int)) by omega), cond_false, hY]
    | succ d ih =>
      intro j m hj hm
      obtain ⟨m, rfl⟩ : ∃ m', m = m' + 1 := ⟨m - 1, by omega⟩
      have hjl : j < list.length := by omega
      obtain ⟨h1, h0, hw, ht⟩ := idx hjl (by omega)
      have hx := pick_at hp hjl
      have hmem := List.mem_of_getElem? (atI_lt (t := .pick) hjl)
      have d2 : decide ((j : Int) ≤ ((j + 1 : Nat) : Int)) = true := decide_eq_true (by omega)
      have d3 : decide (((j + 1 : Nat) : Int) ≤ (list.length : Int)) = true := decide_eq_true (by omega)
      have htd := take_drop_one (t := .pick) hjl
      have hg1 := gch [atI (t := .pick) list j] (by simp only [smL, List.all_cons, List.all_nil, hx, List.length_cons, List.length_nil, Bool.and_self]; rfl)
      have hok := okPick_sm hx
      have nx := ih (j + 1) m (by omega) (by omega)
      have hcl := chosen_lenL s list
      have hsub : ∀ n ∈ chosen s list, isIn (chosen s [atI (t := .pick) list j]) n = true := fun n hn => chosen_sub hmem hn
      simp only [f6L1, h1, h0, hw, ht, d2, d3, Int.toNat_natCast, htd, es, hg1, Bool.and_self, cond_true]
      refine key0 _ _ _ _ _ _ (fun i b => ?_) hcl (gl _) hsub _ 0 N (Nat.zero_add _) (by omega)
      simp only [h1, h0, hok, Bool.and_self, cond_true]
      cases hpk : pickOk (atI (t := .pick) list j)
      · simp only [Bool.not_false, cond_true]; exact nx
      · have ho := pickOk_op hpk
        have o1 : decide ((0 : Int) ≤ (atI (t := .pick) list j).op) = true := decide_eq_true (by omega)
        have o2 : decide ((atI (t := .pick) list j).op < (7 : Int)) = true := decide_eq_true (by omega)
        have hfl := chosen_flip (s := s) hpk
        have hx' := hx
        simp only [sm_pick, Bool.and_eq_true] at hx'
        have hok2 : okI (flipOp (atI (t := .pick) list j).op) = true := by
          rcases ho with h | h | h | h | h | h <;> rw [h] <;> rfl
        have hg2 : gChosen s [opposite (atI (t := .pick) list j)] = true := gch _ (by
          have : sm_pick (opposite (atI (t := .pick) list j)) = true := pick_mk hok2 hx'.2.1 hx'.2.2
          simp only [smL, List.all_cons, List.all_nil, this, List.length_cons, List.length_nil, Bool.and_self]; rfl)
        have hb1 := chosen_lenL s [opposite (atI (t := .pick) list j)]
        have hb2 := chosen_lenL s [atI (t := .pick) list j]
        have hw2 : IntKind.wrap .i64 (((chosen s [opposite (atI (t := .pick) list j)]).length : Int) + ((chosen s [atI (t := .pick) list j]).length : Int)) = (s.items.length : Int) := by
          rw [wrap_id (by omega) (by omega)]; omega
        unfold opposite flipOp at hg2 hw2
        simp only [o1, o2, hg2, hw2, bne_self_eq_false, Bool.and_self, Bool.not_true, cond_true, cond_false]
        exact nx
  have hn : (((chosen s []).length : Int) != (s.items.length : Int)) = false := by rw [chosen_nilL, bne_self_eq_false]
  simp only [hbig, hc, gch list hp, gSame_self (gl list), gch [] rfl, hn, Bool.not_true, cond_true, cond_false]
  exact key1 _ _ _ (fun _ _ => rfl) list.length 0 N (by omega) (by omega)

noncomputable def q6 : List Dt → Option (Bool × List Dt)
  | [.d (.sl (.i .u8)) a0] => some (true, [.d .bool ((fun (_ : List Int) => true) a0)])
  | _ => none
noncomputable def s6 : Gm.Spec := Gm.Spec.of [.kp] [false] false q6
theorem good6 : Gm.Good Try.prog (6, s6) := by
  have hl : ∀ x ∈ [(11, s11), (20, s20), (21, s21), (22, s22), (23, s23), (24, s24), (25, s25)], Gm.Good Try.prog x := List.forall_mem_cons.2 ⟨good11, List.forall_mem_cons.2 ⟨good20, List.forall_mem_cons.2 ⟨good21, List.forall_mem_cons.2 ⟨good22, List.forall_mem_cons.2 ⟨good23, List.forall_mem_cons.2 ⟨good24, List.forall_mem_cons.2 ⟨good25, List.forall_mem_nil _⟩⟩⟩⟩⟩⟩⟩
  refine ⟨⟨spec_ok (tab_ok.env hl) (tab.natl hl) Try.func6 (by kernel_rfl : Try.f6.body = some f6c) [4] (by kernel_rfl) ?_, _, Try.func6, by kernel_rfl, of_decide_eq_true (by kernel_rfl)⟩, Gm.Spec.of_natl _ _ _ _⟩
  intro ds outs h
  unfold q6 at h
  split at h
  · cases h; exact f6_spec _
  · cases h
end Go.Proofs.Ytklmnopgogcbhaa

/- What the functions compute, part 1. No conditions. -/
import Derived.Test.YtglijihijmkpaaaGm4
import Derived.Test.YtglijihijmkpaaaRows
import Derived.Lib.Strings
import Derived.Lib.Slices
import Derived.Lib.SliceRun
import Derived.Lib.Walk
import Derived.WalkKit
/- The table of types of the program, and that it is the program's. Printed by gev.py of this session. -/
namespace Go.Proofs.Ytglijihijmkpaaa
open Go Go.Gm
def tab : Tab := { code := [(2, (.i .i64)), (3, (.i .i64)), (4, .bool), (5, (.i .u8)), (6, (.i .u8)), (9, .str), (10, .str), (11, .str), (12, (.i .u64)), (21, (.i .i32)), (22, (.sl .str)), (23, (.sl .rule)), (24, (.sl .bool)), (26, .rule), (29, (.sl .rule)), (31, .rule), (35, (.sl .node)), (37, .node), (39, (.sl .node)), (41, .node), (76, (.sl (.i .u8))), (84, (.i .u32)), (85, (.i .u8)), (86, (.i .u8)), (89, (.i .i32)), (90, (.i .i32))], eqs := [], fld := [(26, [(0, 3), (1, 22), (2, 23), (3, 24), (4, 3), (5, 3)]), (31, [(0, 3), (1, 22), (2, 29), (3, 24), (4, 3), (5, 3)]), (37, [(0, 3), (1, 3), (2, 9), (3, 22), (4, 35)]), (41, [(0, 3), (1, 3), (2, 9), (3, 22), (4, 39)])] }
theorem und2 : UndOk (tab.env []) Try.prog 2 (.i .i64) := (by kernel_rfl : Try.prog.underlying 2 = some (.int .i64))
theorem und3 : UndOk (tab.env []) Try.prog 3 (.i .i64) := (by kernel_rfl : Try.prog.underlying 3 = some (.int .i64))
theorem und4 : UndOk (tab.env []) Try.prog 4 .bool := (by kernel_rfl : Try.prog.underlying 4 = some .bool)
theorem und5 : UndOk (tab.env []) Try.prog 5 (.i .u8) := (by kernel_rfl : Try.prog.underlying 5 = some (.int .u8))
theorem und6 : UndOk (tab.env []) Try.prog 6 (.i .u8) := (by kernel_rfl : Try.prog.underlying 6 = some (.int .u8))
theorem und9 : UndOk (tab.env []) Try.prog 9 .str := (by kernel_rfl : Try.prog.underlying 9 = some .string)
theorem und10 : UndOk (tab.env []) Try.prog 10 .str := (by kernel_rfl : Try.prog.underlying 10 = some .string)
theorem und11 : UndOk (tab.env []) Try.prog 11 .str := (by kernel_rfl : Try.prog.underlying 11 = some .string)
theorem und12 : UndOk (tab.env []) Try.prog 12 (.i .u64) := (by kernel_rfl : Try.prog.underlying 12 = some (.int .u64))
theorem und21 : UndOk (tab.env []) Try.prog 21 (.i .i32) := (by kernel_rfl : Try.prog.underlying 21 = some (.int .i32))
theorem und22 : UndOk (tab.env []) Try.prog 22 (.sl .str) := ⟨9, by kernel_rfl, by kernel_rfl⟩
theorem und23 : UndOk (tab.env []) Try.prog 23 (.sl .rule) := ⟨26, by kernel_rfl, by kernel_rfl⟩
theorem und24 : UndOk (tab.env []) Try.prog 24 (.sl .bool) := ⟨4, by kernel_rfl, by kernel_rfl⟩
theorem und26 : UndOk (tab.env []) Try.prog 26 .rule := ⟨_, Try.underlying26⟩
theorem und29 : UndOk (tab.env []) Try.prog 29 (.sl .rule) := ⟨31, by kernel_rfl, by kernel_rfl⟩
theorem und31 : UndOk (tab.env []) Try.prog 31 .rule := ⟨_, Try.underlying31⟩
theorem und35 : UndOk (tab.env []) Try.prog 35 (.sl .node) := ⟨37, by kernel_rfl, by kernel_rfl⟩
theorem und37 : UndOk (tab.env []) Try.prog 37 .node := ⟨_, Try.underlying37⟩
theorem und39 : UndOk (tab.env []) Try.prog 39 (.sl .node) := ⟨41, by kernel_rfl, by kernel_rfl⟩
theorem und41 : UndOk (tab.env []) Try.prog 41 .node := ⟨_, Try.underlying41⟩
theorem und76 : UndOk (tab.env []) Try.prog 76 (.sl (.i .u8)) := ⟨5, by kernel_rfl, by kernel_rfl⟩
theorem und84 : UndOk (tab.env []) Try.prog 84 (.i .u32) := (by kernel_rfl : Try.prog.underlying 84 = some (.int .u32))
theorem und85 : UndOk (tab.env []) Try.prog 85 (.i .u8) := (by kernel_rfl : Try.prog.underlying 85 = some (.int .u8))
theorem und86 : UndOk (tab.env []) Try.prog 86 (.i .u8) := (by kernel_rfl : Try.prog.underlying 86 = some (.int .u8))
theorem und89 : UndOk (tab.env []) Try.prog 89 (.i .i32) := (by kernel_rfl : Try.prog.underlying 89 = some (.int .i32))
theorem und90 : UndOk (tab.env []) Try.prog 90 (.i .i32) := (by kernel_rfl : Try.prog.underlying 90 = some (.int .i32))
theorem fld26 : ∃ fs : Array Field, Try.prog.underlying 26 = some (.struct fs) ∧ [(0, 3), (1, 22), (2, 23), (3, 24), (4, 3), (5, 3)] = fs.toList.map (fun f => (f.offset, f.type)) ∧ (∀ y ∈ ([(0, 3), (1, 22), (2, 23), (3, 24), (4, 3), (5, 3)] : List (Nat × Nat)), (aget tab.code y.2).isSome) ∧ (fs.toList.mapM (fun f => (Try.prog.info? f.type).map fun i => (f.offset, i.size))).isSome :=
  ⟨_, Try.underlying26, by kernel_rfl, List.all_eq_true.1 (by kernel_rfl), by kernel_rfl⟩
theorem fld31 : ∃ fs : Array Field, Try.prog.underlying 31 = some (.struct fs) ∧ [(0, 3), (1, 22), (2, 29), (3, 24), (4, 3), (5, 3)] = fs.toList.map (fun f => (f.offset, f.type)) ∧ (∀ y ∈ ([(0, 3), (1, 22), (2, 29), (3, 24), (4, 3), (5, 3)] : List (Nat × Nat)), (aget tab.code y.2).isSome) ∧ (fs.toList.mapM (fun f => (Try.prog.info? f.type).map fun i => (f.offset, i.size))).isSome :=
  ⟨_, Try.underlying31, by kernel_rfl, List.all_eq_true.1 (by kernel_rfl), by kernel_rfl⟩
theorem fld37 : ∃ fs : Array Field, Try.prog.underlying 37 = some (.struct fs) ∧ [(0, 3), (1, 3), (2, 9), (3, 22), (4, 35)] = fs.toList.map (fun f => (f.offset, f.type)) ∧ (∀ y ∈ ([(0, 3), (1, 3), (2, 9), (3, 22), (4, 35)] : List (Nat × Nat)), (aget tab.code y.2).isSome) ∧ (fs.toList.mapM (fun f => (Try.prog.info? f.type).map fun i => (f.offset, i.size))).isSome :=
  ⟨_, Try.underlying37, by kernel_rfl, List.all_eq_true.1 (by kernel_rfl), by kernel_rfl⟩
theorem fld41 : ∃ fs : Array Field, Try.prog.underlying 41 = some (.struct fs) ∧ [(0, 3), (1, 3), (2, 9), (3, 22), (4, 39)] = fs.toList.map (fun f => (f.offset, f.type)) ∧ (∀ y ∈ ([(0, 3), (1, 3), (2, 9), (3, 22), (4, 39)] : List (Nat × Nat)), (aget tab.code y.2).isSome) ∧ (fs.toList.mapM (fun f => (Try.prog.info? f.type).map fun i => (f.offset, i.size))).isSome :=
  ⟨_, Try.underlying41, by kernel_rfl, List.all_eq_true.1 (by kernel_rfl), by kernel_rfl⟩
theorem tab_ok : tab.Ok Try.prog := {
  info := infoChk_ok (by kernel_rfl)
  und := List.forall_mem_cons.2 ⟨und2, List.forall_mem_cons.2 ⟨und3, List.forall_mem_cons.2 ⟨und4, List.forall_mem_cons.2 ⟨und5, List.forall_mem_cons.2 ⟨und6, List.forall_mem_cons.2 ⟨und9, List.forall_mem_cons.2 ⟨und10, List.forall_mem_cons.2 ⟨und11, List.forall_mem_cons.2 ⟨und12, List.forall_mem_cons.2 ⟨und21, List.forall_mem_cons.2 ⟨und22, List.forall_mem_cons.2 ⟨und23, List.forall_mem_cons.2 ⟨und24, List.forall_mem_cons.2 ⟨und26, List.forall_mem_cons.2 ⟨und29, List.forall_mem_cons.2 ⟨und31, List.forall_mem_cons.2 ⟨und35, List.forall_mem_cons.2 ⟨und37, List.forall_mem_cons.2 ⟨und39, List.forall_mem_cons.2 ⟨und41, List.forall_mem_cons.2 ⟨und76, List.forall_mem_cons.2 ⟨und84, List.forall_mem_cons.2 ⟨und85, List.forall_mem_cons.2 ⟨und86, List.forall_mem_cons.2 ⟨und89, List.forall_mem_cons.2 ⟨und90, List.forall_mem_nil _⟩⟩⟩⟩⟩⟩⟩⟩⟩⟩⟩⟩⟩⟩⟩⟩⟩⟩⟩⟩⟩⟩⟩⟩⟩⟩
  fld := List.forall_mem_cons.2 ⟨fld26, List.forall_mem_cons.2 ⟨fld31, List.forall_mem_cons.2 ⟨fld37, List.forall_mem_cons.2 ⟨fld41, List.forall_mem_nil _⟩⟩⟩⟩
  sts := List.forall_mem_cons.2 ⟨fun h => by first | (cases h; done) | (simp; done), List.forall_mem_cons.2 ⟨fun h => by first | (cases h; done) | (simp; done), List.forall_mem_cons.2 ⟨fun h => by first | (cases h; done) | (simp; done), List.forall_mem_cons.2 ⟨fun h => by first | (cases h; done) | (simp; done), List.forall_mem_cons.2 ⟨fun h => by first | (cases h; done) | (simp; done), List.forall_mem_cons.2 ⟨fun h => by first | (cases h; done) | (simp; done), List.forall_mem_cons.2 ⟨fun h => by first | (cases h; done) | (simp; done), List.forall_mem_cons.2 ⟨fun h => by first | (cases h; done) | (simp; done), List.forall_mem_cons.2 ⟨fun h => by first | (cases h; done) | (simp; done), List.forall_mem_cons.2 ⟨fun h => by first | (cases h; done) | (simp; done), List.forall_mem_cons.2 ⟨fun h => by first | (cases h; done) | (simp; done), List.forall_mem_cons.2 ⟨fun h => by first | (cases h; done) | (simp; done), List.forall_mem_cons.2 ⟨fun h => by first | (cases h; done) | (simp; done), List.forall_mem_cons.2 ⟨fun _ => by simp [tab], List.forall_mem_cons.2 ⟨fun h => by first | (cases h; done) | (simp; done), List.forall_mem_cons.2 ⟨fun _ => by simp [tab], List.forall_mem_cons.2 ⟨fun h => by first | (cases h; done) | (simp; done), List.forall_mem_cons.2 ⟨fun _ => by simp [tab], List.forall_mem_cons.2 ⟨fun h => by first | (cases h; done) | (simp; done), List.forall_mem_cons.2 ⟨fun _ => by simp [tab], List.forall_mem_cons.2 ⟨fun h => by first | (cases h; done) | (simp; done), List.forall_mem_cons.2 ⟨fun h => by first | (cases h; done) | (simp; done), List.forall_mem_cons.2 ⟨fun h => by first | (cases h; done) | (simp; done), List.forall_mem_cons.2 ⟨fun h => by first | (cases h; done) | (simp; done), List.forall_mem_cons.2 ⟨fun h => by first | (cases h; done) | (simp; done), List.forall_mem_cons.2 ⟨fun h => by first | (cases h; done) | (simp; done), List.forall_mem_nil _⟩⟩⟩⟩⟩⟩⟩⟩⟩⟩⟩⟩⟩⟩⟩⟩⟩⟩⟩⟩⟩⟩⟩⟩⟩⟩
  eqs := List.forall_mem_nil _
  ord := by kernel_rfl }
end Go.Proofs.Ytglijihijmkpaaa

/- x -/
namespace Go.Proofs.Ytglijihijmkpaaa
open Go Go.Gm
/-! ### slices.Index[[]string,string] -/
noncomputable def f57c : Code := (Try.f57.body).getD .skip
def f57k : Nat → Kp := kat [⟨[0, 1], [], [], []⟩, ⟨[0, 1, 7, 8], [], [], []⟩, ⟨[0, 1, 7, 8, 9], [], [], []⟩, ⟨[0, 1, 5, 7, 8], [], [], []⟩, ⟨[0, 1, 5, 7, 8, 16], [], [], []⟩, ⟨[4], [], [], []⟩, ⟨[0, 1, 7, 8], [], [], []⟩, ⟨[4], [], [], []⟩]
noncomputable def f57e : Env := tab.env []
noncomputable def f57L0 {R : Type} (n : Nat) (x0 : Int → Option R) (x1 : Int → Bool → Option R) (vs0 : List ByteArray) (vs1 : ByteArray) (vs7 : Int) : Nat → Int → Option R
  | 0, _ => none
  | m + 1, vs8 =>
    (cond (decide (vs8 < vs7))
      (cond ((decide ((0 : Int) ≤ vs8)) && (decide (vs8 < (vs0.length : Int))))
        (cond (sEq vs1 (atI (t := .str) vs0 (Int.toNat vs8)))
          (x0 vs8)
          (f57L0 n x0 x1 vs0 vs1 vs7 m (IntKind.wrap .i64 (vs8 + (1 : Int)))))
        none)
      (x1 vs8 (decide (vs8 < vs7))))
theorem f57L0_b {R : Type} (n : Nat) (k' : Ex → St → Option R) (vs0 : List ByteArray) (vs1 : ByteArray) (vs7 : Int) (vs8 : Int) : ev f57e f57k n (cAt [1,0,1,0,0] f57c) ⟨[(0, .c (.one (.ro .str vs0))), (1, .c (.one (.v (.string vs1)))), (7, .c (.one (.v (.int .i64 vs7)))), (8, .c (.one (.v (.int .i64 vs8))))], [], []⟩ k' =
    (cond (decide (vs8 < vs7))
    (cond ((decide ((0 : Int) ≤ vs8)) && (decide (vs8 < (vs0.length : Int))))
      (cond (sEq vs1 (atI (t := .str) vs0 (Int.toNat vs8)))
        (k' .ret ⟨[(4, .c (.one (.v (.int .i64 vs8))))], [], []⟩)
        (k' .normal ⟨[(0, .c (.one (.ro .str vs0))), (1, .c (.one (.v (.string vs1)))), (7, .c (.one (.v (.int .i64 vs7)))), (8, .c (.one (.v (.int .i64 (IntKind.wrap .i64 (vs8 + (1 : Int)))))))], [], []⟩))
      none)
    (k' (.exit 0) ⟨[(0, .c (.one (.ro .str vs0))), (1, .c (.one (.v (.string vs1)))), (7, .c (.one (.v (.int .i64 vs7)))), (8, .c (.one (.v (.int .i64 vs8)))), (9, .c (.one (.v (.bool (decide (vs8 < vs7))))))], [], []⟩)) := by kernel_rfl
theorem f57L0_eq {R : Type} (n : Nat) (k' : Ex → St → Option R) (vs0 : List ByteArray) (vs1 : ByteArray) (vs7 : Int) : ∀ (m : Nat) (vs8 : Int), iter (fun st k => ev f57e f57k n (cAt [1,0,1,0,0] f57c) st k) m ⟨[(0, .c (.one (.ro .str vs0))), (1, .c (.one (.v (.string vs1)))), (7, .c (.one (.v (.int .i64 vs7)))), (8, .c (.one (.v (.int .i64 vs8))))], [], []⟩ k' = f57L0 n (fun (xvs4 : Int) => k' .ret ⟨[(4, .c (.one (.v (.int .i64 xvs4))))], [], []⟩) (fun (xvs8 : Int) (xvs9 : Bool) => k' (.exit 0) ⟨[(0, .c (.one (.ro .str vs0))), (1, .c (.one (.v (.string vs1)))), (7, .c (.one (.v (.int .i64 vs7)))), (8, .c (.one (.v (.int .i64 xvs8)))), (9, .c (.one (.v (.bool xvs9))))], [], []⟩) vs0 vs1 vs7 m vs8 := by
  intro m; induction m with
  | zero => intros; rfl
  | succ m ih =>
    intro vs8
    simp only [iter]
    rw [f57L0_b]
    simp only [ih, f57L0]

noncomputable def f57K0 {R : Type} (n : Nat) (k' : Ex → St → Option R) : Ex → St → Option R := (blockK 0 (seqK f57e f57k n (cAt [1,1] f57c) k'))
theorem f57K0_x0 {R : Type} (n : Nat) (k : List Dt → Option R) (a0 : List ByteArray) (a1 : ByteArray) (xvs4 : Int) : f57K0 n (exitK f57e [.ro, .ro] [false] true [.tmp 4] [3] [.d (.sl .str) a0, .d .str a1] k) .ret ⟨[(4, .c (.one (.v (.int .i64 xvs4))))], [], []⟩ =
    (k [.d (.i .i64) xvs4]) := by kernel_rfl
theorem f57K0_x1 {R : Type} (n : Nat) (k : List Dt → Option R) (a0 : List ByteArray) (a1 : ByteArray) (vs0 : List ByteArray) (vs1 : ByteArray) (vs7 : Int) (xvs8 : Int) (xvs9 : Bool) : f57K0 n (exitK f57e [.ro, .ro] [false] true [.tmp 4] [3] [.d (.sl .str) a0, .d .str a1] k) (.exit 0) ⟨[(0, .c (.one (.ro .str vs0))), (1, .c (.one (.v (.string vs1)))), (7, .c (.one (.v (.int .i64 vs7)))), (8, .c (.one (.v (.int .i64 xvs8)))), (9, .c (.one (.v (.bool xvs9))))], [], []⟩ =
    (k [.d (.i .i64) (-1 : Int)]) := by kernel_rfl

theorem f57_run {R : Type} (n : Nat) (k : List Dt → Option R) (a0 : List ByteArray) (a1 : ByteArray) : evFn f57e f57k n f57c [.ro, .ro] [false] true [.tmp 4] [3] [.d (.sl .str) a0, .d .str a1] k =
    (f57L0 n (fun (xvs4 : Int) =>
    (k [.d (.i .i64) xvs4])) (fun (xvs8 : Int) (xvs9 : Bool) =>
    (k [.d (.i .i64) (-1 : Int)])) a0 a1 (a0.length : Int) n (0 : Int)) := by
  refine Eq.trans (b := (iter (fun st k => ev f57e f57k n (cAt [1,0,1,0,0] f57c) st k) n ⟨[(0, .c (.one (.ro .str a0))), (1, .c (.one (.v (.string a1)))), (7, .c (.one (.v (.int .i64 (a0.length : Int))))), (8, .c (.one (.v (.int .i64 (0 : Int)))))], [], []⟩ (f57K0 n (exitK f57e [.ro, .ro] [false] true [.tmp 4] [3] [.d (.sl .str) a0, .d .str a1] k)))) (by kernel_rfl) ?_
  simp only [f57L0_eq, f57K0_x0, f57K0_x1]
theorem f57_spec (a0 : List ByteArray) (a1 : ByteArray) (hg : gLenW a0 = true) : ∃ keep rounds, ∀ {R : Type} (k : List Dt → Option R), evFn f57e keep rounds f57c [.ro, .ro] [false] true [.tmp 4] [3] [.d (.sl .str) a0, .d .str a1] k = k [.d (.i .i64) (idxS a0 a1)] := by
  have hl := gLenW_le hg
  refine ⟨f57k, a0.length + 1, fun k => ?_⟩
  rw [f57_run]
  refine Eq.trans (loop_find (n := a0.length) (F := fun m i => f57L0 (a0.length + 1) _ _ a0 a1 (a0.length : Int) m i) (p := fun j => sEq a1 (atI (t := .str) a0 j)) (hit := fun i => k [.d (.i .i64) i]) (miss := k [.d (.i .i64) (-1 : Int)])
    (fun m j hj => ?_) (fun m => by simp only [f57L0, idxE, cond_false]) a0.length 0 (a0.length + 1) (by omega) (by omega)) ?_
  · obtain ⟨h1, h0, hw, ht⟩ := idx hj (by omega)
    simp only [f57L0, h1, h0, hw, ht, Bool.and_self, cond_true]
  · show _ = k [.d (.i .i64) (plc _)]
    cases firstN (fun j => sEq a1 (atI (t := .str) a0 j)) 0 a0.length <;> rfl

noncomputable def q57 : List Dt → Option (Bool × List Dt)
  | [.d (.sl .str) a0, .d .str a1] => some (((fun (x : List ByteArray) (_ : ByteArray) => gLenW x) a0 a1), [.d (.i .i64) (idxS a0 a1)])
  | _ => none
noncomputable def s57 : Gm.Spec := Gm.Spec.of [.ro, .ro] [false] true q57
theorem good57 : Gm.Good Try.prog (57, s57) := by
  have hl : ∀ x ∈ ([] : List (Nat × Gm.Spec)), Gm.Good Try.prog x := fun _ h => by cases h
  refine ⟨⟨spec_ok (tab_ok.env hl) (tab.natl hl) Try.func57 (by kernel_rfl : Try.f57.body = some f57c) [3] (by kernel_rfl) ?_, _, Try.func57, by kernel_rfl, of_decide_eq_true (by kernel_rfl)⟩, Gm.Spec.of_natl _ _ _ _⟩
  intro ds outs h
  unfold q57 at h
  split at h
  · simp only [Option.some.injEq, Prod.mk.injEq] at h; obtain ⟨hg, h⟩ := h; cases h; exact f57_spec _ _ hg
  · cases h
/-! ### slices.Clone[[]string,string] -/
noncomputable def f51ac : Code := (Try.f51.body).getD .skip
def f51ak : Nat → Kp := kat [⟨[0], [], [], []⟩, ⟨[0, 4], [], [], []⟩, ⟨[2], [], [], []⟩, ⟨[2], [], [], []⟩]
noncomputable def f51ae : Env := tab.env []
theorem f51a_run {R : Type} (n : Nat) (k : List Dt → Option R) (a0 : List ByteArray) : evFn f51ae f51ak n f51ac [.ro] [false] true [.tmp 2] [22] [.d (.sl .str) a0] k =
    (cond (List.isEmpty a0)
    none
    (cond (Nat.ble (0 + a0.length) LIM)
      (k [.d (.sl .str) (([] : List ByteArray) ++ a0)])
      none)) := by kernel_rfl
theorem f51a_spec (a0 : List ByteArray) (hg : (fun (x : List ByteArray) => !(x.isEmpty) && Nat.ble x.length LIM) a0 = true) : ∃ keep rounds, ∀ {R : Type} (k : List Dt → Option R), evFn f51ae keep rounds f51ac [.ro] [false] true [.tmp 2] [22] [.d (.sl .str) a0] k = k [.d (.sl .str) a0] := by
  simp only [Bool.and_eq_true, Bool.not_eq_true'] at hg
  obtain ⟨h1, h2⟩ := hg
  refine ⟨f51ak, 0, fun {R} k => ?_⟩
  rw [f51a_run, h1, Nat.zero_add, h2]
  simp only [cond_true, cond_false, List.nil_append]

noncomputable def q51a : List Dt → Option (Bool × List Dt)
  | [.d (.sl .str) a0] => some (((fun (x : List ByteArray) => !(x.isEmpty) && Nat.ble x.length LIM) a0), [.d (.sl .str) a0])
  | _ => none
noncomputable def s51a : Gm.Spec := Gm.Spec.of [.ro] [false] true q51a
theorem good51a : Gm.Good Try.prog (51, s51a) := by
  have hl : ∀ x ∈ ([] : List (Nat × Gm.Spec)), Gm.Good Try.prog x := fun _ h => by cases h
  refine ⟨⟨spec_ok (tab_ok.env hl) (tab.natl hl) Try.func51 (by kernel_rfl : Try.f51.body = some f51ac) [22] (by kernel_rfl) ?_, _, Try.func51, by kernel_rfl, of_decide_eq_true (by kernel_rfl)⟩, Gm.Spec.of_natl _ _ _ _⟩
  intro ds outs h
  unfold q51a at h
  split at h
  · simp only [Option.some.injEq, Prod.mk.injEq] at h; obtain ⟨hg, h⟩ := h; cases h; exact f51a_spec _ hg
  · cases h
set_option maxHeartbeats 1000000 in
set_option maxRecDepth 100000 in
theorem clE51 : CloneE Try.prog 51 := by
  intro a c w
  cases a with
  | none =>
    have q22 : ∀ (w : World) (n c n' c' : Nat), (binOp .eql 22 (.slice none n c) (.slice none n' c')).run Try.prog w = .ok (.bool true) w := fun w n c n' c' => Lib.run_eql_slice_nil w _ _ none n c n' c' Try.underlying22
    go_enter Try.func51, Try.ntmps51
    go_wp2
    go_ret
    exact .inl ⟨rfl, rfl⟩
  | some a =>
    have q22 : ∀ (w : World) (n c n' c' : Nat), (binOp .eql 22 (.slice (some a) n c) (.slice none n' c')).run Try.prog w = .ok (.bool false) w := fun w n c n' c' => Lib.run_eql_slice_nil w _ _ (some a) n c n' c' Try.underlying22
    go_enter Try.func51, Try.ntmps51
    go_wp2
    go_ret
    exact .inr ⟨_, rfl, rfl⟩
noncomputable def q51b : List Dt → Option (Bool × List Dt)
  | [.d (.sl .str) []] => some (true, [.d (.sl .str) []])
  | _ => none
noncomputable def q51 : List Dt → Option (Bool × List Dt)
  | [.d (.sl .str) a0] => some (Nat.ble a0.length LIM, [.d (.sl .str) a0])
  | _ => none
noncomputable def s51 : Gm.Spec := Gm.Spec.of [.ro] [false] true q51
theorem good51 : Gm.Good Try.prog (51, s51) := by
  refine ⟨⟨spec_clone (q := q51) (qb := q51b) good51a.1.1 (spec_cloneE (t := .str) clE51 fun ds outs h => ?_) fun ds outs h => ?_, _, Try.func51, by kernel_rfl, of_decide_eq_true (by kernel_rfl)⟩, Gm.Spec.of_natl _ _ _ _⟩
  · unfold q51b at h
    split at h
    · simp only [Option.some.injEq, Prod.mk.injEq, true_and] at h
      exact ⟨rfl, h.symm⟩
    · cases h
  · unfold q51 at h
    split at h
    · rename_i a0
      simp only [Option.some.injEq, Prod.mk.injEq] at h
      obtain ⟨hg, rfl⟩ := h
      cases a0 with
      | nil => exact .inr rfl
      | cons x r => refine .inl ?_; simp only [q51a, List.isEmpty_cons, Bool.not_false, Bool.true_and, hg]
    · cases h
noncomputable def q33 : List Dt → Option (Bool × List Dt)
  | [.d .node a0] => some ((sm_node a0), [.d .node a0])
  | _ => none
noncomputable def mu33 : List Dt → Nat
  | [.d .node a0] => nd_node a0
  | _ => 0
noncomputable def s33r (N : Nat) : Gm.Spec := Gm.Spec.of [.ro] [false] true (qlt mu33 N q33)
/-! ### loop.example/g00465/impl.copyTree -/
noncomputable def f33c : Code := (Try.f33.body).getD .skip
def f33k : Nat → Kp := kat [⟨[1, 2], [], [], []⟩, ⟨[1, 2], [], [], []⟩, ⟨[1, 2, 3], [], [], []⟩, ⟨[1, 2, 3, 12, 13, 14], [], [], []⟩, ⟨[1, 2, 3, 12, 13, 14, 15], [], [], []⟩, ⟨[1, 2, 3, 5, 12, 13, 14], [], [], []⟩, ⟨[1, 2, 3, 12, 13, 14], [], [], []⟩, ⟨[1, 2, 3, 12, 13, 14], [], [], []⟩, ⟨[1, 2], [], [], []⟩, ⟨[2], [], [], []⟩]
noncomputable def f33e (N : Nat) : Env := tab.env [(33, s33r N), (51, s51)]
noncomputable def f33L0 {R : Type} (N : Nat) (n : Nat) (x0 : Int → Bool → (List NodeT) → Option R) (vs12 : List NodeT) (vs13 : Int) (vb1_0 : Int) (vb1_1 : Int) (vb1_2 : ByteArray) (vb1_4 : List NodeT) (vr512 : List ByteArray) : Nat → Int → (List NodeT) → Option R
  | 0, _, _ => none
  | m + 1, vs14, vr640 =>
    (cond (decide (vs14 < vs13))
      (cond ((decide ((0 : Int) ≤ vs14)) && (decide (vs14 < (vs12.length : Int))))
        (cond ((sm_node (⟨(NodeT.kind (atI (t := .node) vs12 (Int.toNat vs14))), (NodeT.n (atI (t := .node) vs12 (Int.toNat vs14))), (NodeT.s (atI (t := .node) vs12 (Int.toNat vs14))), (NodeT.keys (atI (t := .node) vs12 (Int.toNat vs14))), (NodeT.kids (atI (t := .node) vs12 (Int.toNat vs14)))⟩ : NodeT)) && (Nat.blt (nd_node (⟨(NodeT.kind (atI (t := .node) vs12 (Int.toNat vs14))), (NodeT.n (atI (t := .node) vs12 (Int.toNat vs14))), (NodeT.s (atI (t := .node) vs12 (Int.toNat vs14))), (NodeT.keys (atI (t := .node) vs12 (Int.toNat vs14))), (NodeT.kids (atI (t := .node) vs12 (Int.toNat vs14)))⟩ : NodeT)) N))
          (cond (Nat.ble (vr640.length + 1) LIM)
            (f33L0 N n x0 vs12 vs13 vb1_0 vb1_1 vb1_2 vb1_4 vr512 m (IntKind.wrap .i64 (vs14 + (1 : Int))) (vr640 ++ ([(⟨(NodeT.kind (⟨(NodeT.kind (atI (t := .node) vs12 (Int.toNat vs14))), (NodeT.n (atI (t := .node) vs12 (Int.toNat vs14))), (NodeT.s (atI (t := .node) vs12 (Int.toNat vs14))), (NodeT.keys (atI (t := .node) vs12 (Int.toNat vs14))), (NodeT.kids (atI (t := .node) vs12 (Int.toNat vs14)))⟩ : NodeT)), (NodeT.n (⟨(NodeT.kind (atI (t := .node) vs12 (Int.toNat vs14))), (NodeT.n (atI (t := .node) vs12 (Int.toNat vs14))), (NodeT.s (atI (t := .node) vs12 (Int.toNat vs14))), (NodeT.keys (atI (t := .node) vs12 (Int.toNat vs14))), (NodeT.kids (atI (t := .node) vs12 (Int.toNat vs14)))⟩ : NodeT)), (NodeT.s (⟨(NodeT.kind (atI (t := .node) vs12 (Int.toNat vs14))), (NodeT.n (atI (t := .node) vs12 (Int.toNat vs14))), (NodeT.s (atI (t := .node) vs12 (Int.toNat vs14))), (NodeT.keys (atI (t := .node) vs12 (Int.toNat vs14))), (NodeT.kids (atI (t := .node) vs12 (Int.toNat vs14)))⟩ : NodeT)), (NodeT.keys (⟨(NodeT.kind (atI (t := .node) vs12 (Int.toNat vs14))), (NodeT.n (atI (t := .node) vs12 (Int.toNat vs14))), (NodeT.s (atI (t := .node) vs12 (Int.toNat vs14))), (NodeT.keys (atI (t := .node) vs12 (Int.toNat vs14))), (NodeT.kids (atI (t := .node) vs12 (Int.toNat vs14)))⟩ : NodeT)), (NodeT.kids (⟨(NodeT.kind (atI (t := .node) vs12 (Int.toNat vs14))), (NodeT.n (atI (t := .node) vs12 (Int.toNat vs14))), (NodeT.s (atI (t := .node) vs12 (Int.toNat vs14))), (NodeT.keys (atI (t := .node) vs12 (Int.toNat vs14))), (NodeT.kids (atI (t := .node) vs12 (Int.toNat vs14)))⟩ : NodeT))⟩ : NodeT)] : List NodeT)))
            none)
          none)
        none)
      (x0 vs14 (decide (vs14 < vs13)) vr640))
theorem f33L0_b {R : Type} (N : Nat) (n : Nat) (k' : Ex → St → Option R) (vs12 : List NodeT) (vs13 : Int) (vs14 : Int) (vb1_0 : Int) (vb1_1 : Int) (vb1_2 : ByteArray) (vb1_4 : List NodeT) (vr512 : List ByteArray) (vr640 : List NodeT) : ev (f33e N) f33k n (cAt [1,1,1,0,1,0,0] f33c) ⟨[(1, .c (.one (.pt 1 0))), (2, .c (.one (.pt 2 0))), (3, .c (.one (.h 640 0 0 []))), (12, .c (.one (.ro .node vs12))), (13, .c (.one (.v (.int .i64 vs13)))), (14, .c (.one (.v (.int .i64 vs14))))], [(1, ⟨.node, [.v (.int .i64 vb1_0), .v (.int .i64 vb1_1), .v (.string vb1_2), .h 512 0 0 [], .ro .node vb1_4]⟩), (2, ⟨.node, [.v (.int .i64 (0 : Int)), .v (.int .i64 (0 : Int)), .v (.string ByteArray.empty), .nl, .nl]⟩)], [(512, .live ⟨.str, .deep, 0, [], vr512⟩), (640, .live ⟨.node, .deep, 0, [], vr640⟩)]⟩ k' =
    (cond (decide (vs14 < vs13))
    (cond ((decide ((0 : Int) ≤ vs14)) && (decide (vs14 < (vs12.length : Int))))
      (cond ((sm_node (⟨(NodeT.kind (atI (t := .node) vs12 (Int.toNat vs14))), (NodeT.n (atI (t := .node) vs12 (Int.toNat vs14))), (NodeT.s (atI (t := .node) vs12 (Int.toNat vs14))), (NodeT.keys (atI (t := .node) vs12 (Int.toNat vs14))), (NodeT.kids (atI (t := .node) vs12 (Int.toNat vs14)))⟩ : NodeT)) && (Nat.blt (nd_node (⟨(NodeT.kind (atI (t := .node) vs12 (Int.toNat vs14))), (NodeT.n (atI (t := .node) vs12 (Int.toNat vs14))), (NodeT.s (atI (t := .node) vs12 (Int.toNat vs14))), (NodeT.keys (atI (t := .node) vs12 (Int.toNat vs14))), (NodeT.kids (atI (t := .node) vs12 (Int.toNat vs14)))⟩ : NodeT)) N))
        (cond (Nat.ble (vr640.length + 1) LIM)
          (k' .normal ⟨[(1, .c (.one (.pt 1 0))), (2, .c (.one (.pt 2 0))), (3, .c (.one (.h 640 0 0 []))), (12, .c (.one (.ro .node vs12))), (13, .c (.one (.v (.int .i64 vs13)))), (14, .c (.one (.v (.int .i64 (IntKind.wrap .i64 (vs14 + (1 : Int)))))))], [(1, ⟨.node, [.v (.int .i64 vb1_0), .v (.int .i64 vb1_1), .v (.string vb1_2), .h 512 0 0 [], .ro .node vb1_4]⟩), (2, ⟨.node, [.v (.int .i64 (0 : Int)), .v (.int .i64 (0 : Int)), .v (.string ByteArray.empty), .nl, .nl]⟩)], [(512, .live ⟨.str, .deep, 0, [], vr512⟩), (640, .live ⟨.node, .deep, 0, [], (vr640 ++ ([(⟨(NodeT.kind (⟨(NodeT.kind (atI (t := .node) vs12 (Int.toNat vs14))), (NodeT.n (atI (t := .node) vs12 (Int.toNat vs14))), (NodeT.s (atI (t := .node) vs12 (Int.toNat vs14))), (NodeT.keys (atI (t := .node) vs12 (Int.toNat vs14))), (NodeT.kids (atI (t := .node) vs12 (Int.toNat vs14)))⟩ : NodeT)), (NodeT.n (⟨(NodeT.kind (atI (t := .node) vs12 (Int.toNat vs14))), (NodeT.n (atI (t := .node) vs12 (Int.toNat vs14))), (NodeT.s (atI (t := .node) vs12 (Int.toNat vs14))), (NodeT.keys (atI (t := .node) vs12 (Int.toNat vs14))), (NodeT.kids (atI (t := .node) vs12 (Int.toNat vs14)))⟩ : NodeT)), (NodeT.s (⟨(NodeT.kind (atI (t := .node) vs12 (Int.toNat vs14))), (NodeT.n (atI (t := .node) vs12 (Int.toNat vs14))), (NodeT.s (atI (t := .node) vs12 (Int.toNat vs14))), (NodeT.keys (atI (t := .node) vs12 (Int.toNat vs14))), (NodeT.kids (atI (t := .node) vs12 (Int.toNat vs14)))⟩ : NodeT)), (NodeT.keys (⟨(NodeT.kind (atI (t := .node) vs12 (Int.toNat vs14))), (NodeT.n (atI (t := .node) vs12 (Int.toNat vs14))), (NodeT.s (atI (t := .node) vs12 (Int.toNat vs14))), (NodeT.keys (atI (t := .node) vs12 (Int.toNat vs14))), (NodeT.kids (atI (t := .node) vs12 (Int.toNat vs14)))⟩ : NodeT)), (NodeT.kids (⟨(NodeT.kind (atI (t := .node) vs12 (Int.toNat vs14))), (NodeT.n (atI (t := .node) vs12 (Int.toNat vs14))), (NodeT.s (atI (t := .node) vs12 (Int.toNat vs14))), (NodeT.keys (atI (t := .node) vs12 (Int.toNat vs14))), (NodeT.kids (atI (t := .node) vs12 (Int.toNat vs14)))⟩ : NodeT))⟩ : NodeT)] : List NodeT))⟩)]⟩)
          none)
        none)
      none)
    (k' (.exit 0) ⟨[(1, .c (.one (.pt 1 0))), (2, .c (.one (.pt 2 0))), (3, .c (.one (.h 640 0 0 []))), (12, .c (.one (.ro .node vs12))), (13, .c (.one (.v (.int .i64 vs13)))), (14, .c (.one (.v (.int .i64 vs14)))), (15, .c (.one (.v (.bool (decide (vs14 < vs13))))))], [(1, ⟨.node, [.v (.int .i64 vb1_0), .v (.int .i64 vb1_1), .v (.string vb1_2), .h 512 0 0 [], .ro .node vb1_4]⟩), (2, ⟨.node, [.v (.int .i64 (0 : Int)), .v (.int .i64 (0 : Int)), .v (.string ByteArray.empty), .nl, .nl]⟩)], [(512, .live ⟨.str, .deep, 0, [], vr512⟩), (640, .live ⟨.node, .deep, 0, [], vr640⟩)]⟩)) := by kernel_rfl
theorem f33L0_eq {R : Type} (N : Nat) (n : Nat) (k' : Ex → St → Option R) (vs12 : List NodeT) (vs13 : Int) (vb1_0 : Int) (vb1_1 : Int) (vb1_2 : ByteArray) (vb1_4 : List NodeT) (vr512 : List ByteArray) : ∀ (m : Nat) (vs14 : Int) (vr640 : List NodeT), iter (fun st k => ev (f33e N) f33k n (cAt [1,1,1,0,1,0,0] f33c) st k) m ⟨[(1, .c (.one (.pt 1 0))), (2, .c (.one (.pt 2 0))), (3, .c (.one (.h 640 0 0 []))), (12, .c (.one (.ro .node vs12))), (13, .c (.one (.v (.int .i64 vs13)))), (14, .c (.one (.v (.int .i64 vs14))))], [(1, ⟨.node, [.v (.int .i64 vb1_0), .v (.int .i64 vb1_1), .v (.string vb1_2), .h 512 0 0 [], .ro .node vb1_4]⟩), (2, ⟨.node, [.v (.int .i64 (0 : Int)), .v (.int .i64 (0 : Int)), .v (.string ByteArray.empty), .nl, .nl]⟩)], [(512, .live ⟨.str, .deep, 0, [], vr512⟩), (640, .live ⟨.node, .deep, 0, [], vr640⟩)]⟩ k' = f33L0 N n (fun (xvs14 : Int) (xvs15 : Bool) (xvr640 : List NodeT) => k' (.exit 0) ⟨[(1, .c (.one (.pt 1 0))), (2, .c (.one (.pt 2 0))), (3, .c (.one (.h 640 0 0 []))), (12, .c (.one (.ro .node vs12))), (13, .c (.one (.v (.int .i64 vs13)))), (14, .c (.one (.v (.int .i64 xvs14)))), (15, .c (.one (.v (.bool xvs15))))], [(1, ⟨.node, [.v (.int .i64 vb1_0), .v (.int .i64 vb1_1), .v (.string vb1_2), .h 512 0 0 [], .ro .node vb1_4]⟩), (2, ⟨.node, [.v (.int .i64 (0 : Int)), .v (.int .i64 (0 : Int)), .v (.string ByteArray.empty), .nl, .nl]⟩)], [(512, .live ⟨.str, .deep, 0, [], vr512⟩), (640, .live ⟨.node, .deep, 0, [], xvr640⟩)]⟩) vs12 vs13 vb1_0 vb1_1 vb1_2 vb1_4 vr512 m vs14 vr640 := by
  intro m; induction m with
  | zero => intros; rfl
  | succ m ih =>
    intro vs14 vr640
    simp only [iter]
    rw [f33L0_b]
    simp only [ih, f33L0]

noncomputable def f33K0 {R : Type} (N : Nat) (n : Nat) (k' : Ex → St → Option R) : Ex → St → Option R := (blockK 0 (seqK (f33e N) f33k n (cAt [1,1,1,1] f33c) k'))
theorem f33K0_x0 {R : Type} (N : Nat) (n : Nat) (k : List Dt → Option R) (a0 : NodeT) (vs12 : List NodeT) (vs13 : Int) (vb1_0 : Int) (vb1_1 : Int) (vb1_2 : ByteArray) (vb1_4 : List NodeT) (vr512 : List ByteArray) (xvs14 : Int) (xvs15 : Bool) (xvr640 : List NodeT) : f33K0 N n (exitK (f33e N) [.ro] [false] true [.cell 2 41] [41] [.d .node a0] k) (.exit 0) ⟨[(1, .c (.one (.pt 1 0))), (2, .c (.one (.pt 2 0))), (3, .c (.one (.h 640 0 0 []))), (12, .c (.one (.ro .node vs12))), (13, .c (.one (.v (.int .i64 vs13)))), (14, .c (.one (.v (.int .i64 xvs14)))), (15, .c (.one (.v (.bool xvs15))))], [(1, ⟨.node, [.v (.int .i64 vb1_0), .v (.int .i64 vb1_1), .v (.string vb1_2), .h 512 0 0 [], .ro .node vb1_4]⟩), (2, ⟨.node, [.v (.int .i64 (0 : Int)), .v (.int .i64 (0 : Int)), .v (.string ByteArray.empty), .nl, .nl]⟩)], [(512, .live ⟨.str, .deep, 0, [], vr512⟩), (640, .live ⟨.node, .deep, 0, [], xvr640⟩)]⟩ =
    (k [.d .node (⟨vb1_0, vb1_1, vb1_2, vr512, xvr640⟩ : NodeT)]) := by kernel_rfl

theorem f33_run {R : Type} (N : Nat) (n : Nat) (k : List Dt → Option R) (a0 : NodeT) : evFn (f33e N) f33k n f33c [.ro] [false] true [.cell 2 41] [41] [.d .node a0] k =
    (cond ((fun (x : List ByteArray) => Nat.ble x.length LIM) (NodeT.keys a0))
    (f33L0 N n (fun (xvs14 : Int) (xvs15 : Bool) (xvr640 : List NodeT) =>
      (k [.d .node (⟨(NodeT.kind a0), (NodeT.n a0), (NodeT.s a0), (NodeT.keys a0), xvr640⟩ : NodeT)])) (NodeT.kids a0) ((NodeT.kids a0).length : Int) (NodeT.kind a0) (NodeT.n a0) (NodeT.s a0) (NodeT.kids a0) (NodeT.keys a0) n (0 : Int) ([] : List NodeT))
    none) := by
  refine Eq.trans (b := (cond ((fun (x : List ByteArray) => Nat.ble x.length LIM) (NodeT.keys a0))
    (iter (fun st k => ev (f33e N) f33k n (cAt [1,1,1,0,1,0,0] f33c) st k) n ⟨[(1, .c (.one (.pt 1 0))), (2, .c (.one (.pt 2 0))), (3, .c (.one (.h 640 0 0 []))), (12, .c (.one (.ro .node (NodeT.kids a0)))), (13, .c (.one (.v (.int .i64 ((NodeT.kids a0).length : Int))))), (14, .c (.one (.v (.int .i64 (0 : Int)))))], [(1, ⟨.node, [.v (.int .i64 (NodeT.kind a0)), .v (.int .i64 (NodeT.n a0)), .v (.string (NodeT.s a0)), .h 512 0 0 [], .ro .node (NodeT.kids a0)]⟩), (2, ⟨.node, [.v (.int .i64 (0 : Int)), .v (.int .i64 (0 : Int)), .v (.string ByteArray.empty), .nl, .nl]⟩)], [(512, .live ⟨.str, .deep, 0, [], (NodeT.keys a0)⟩), (640, .live ⟨.node, .deep, 0, [], ([] : List NodeT)⟩)]⟩ (f33K0 N n (exitK (f33e N) [.ro] [false] true [.cell 2 41] [41] [.d .node a0] k)))
    none)) (by kernel_rfl) ?_
  simp only [f33L0_eq, f33K0_x0]
theorem f33_spec (N : Nat) (a0 : NodeT) (hg : sm_node a0 = true) (hm : mu33 [.d .node a0] = N) : ∃ keep rounds, ∀ {R : Type} (k : List Dt → Option R), evFn (f33e N) keep rounds f33c [.ro] [false] true [.cell 2 41] [41] [.d .node a0] k = k [.d .node a0] := by
  have hm : nd_node a0 = N := hm
  subst hm
  have hg0 := hg
  rw [sm_node_def] at hg
  simp only [Bool.and_eq_true] at hg
  obtain ⟨_, _, _, hke, hki⟩ := hg
  have nke := smL_len hke
  have nki := smL_len hki
  refine ⟨f33k, a0.kids.length + 1, fun {R} k => ?_⟩
  rw [f33_run]
  simp only [Nat.zero_add, limLe nke, cond_true, List.nil_append]
  refine Eq.trans (loop_acc (xs := a0.kids) (F := fun m j out => f33L0 (nd_node a0) (a0.kids.length + 1) _ a0.kids (a0.kids.length : Int) a0.kind a0.n a0.s a0.kids a0.keys m (j : Int) out) (f := fun out x => out ++ [x]) (good := fun out => k [.d .node ⟨a0.kind, a0.n, a0.s, a0.keys, out⟩]) (fun j out => out.length ≤ j)
    (fun j out x hx hi => by simp only [List.length_append, List.length_cons, List.length_nil]; omega) (fun m j out x hx hi => ?_) (fun m out hi => by simp only [f33L0, idxE, cond_false]) a0.kids.length 0 (a0.kids.length + 1) [] (by omega) (by omega) (by simp)) ?_
  · obtain ⟨h1, h0, hw, ht⟩ := idx (lt_of_get hx) (by omega)
    have hj := lt_of_get hx
    have hs := List.all_eq_true.1 (smL_all hki) x (List.mem_of_getElem? hx)
    have hlim : Nat.ble (out.length + 1) LIM = true := Nat.ble_eq_true_of_le (by have : (LIM : Nat) = 4294967296 := rfl; omega)
    have hb : Nat.blt (nd_node x) (nd_node a0) = true := by
      have := nd_node_kid (x := a0) (List.mem_of_getElem? hx)
      rw [Nat.blt_eq]; exact this
    simp only [f33L0, h1, h0, hw, ht, atI_of (t := .node) hx, Bool.and_self, cond_true, hlim, eta_node, hs, hb]
  · rw [List.drop_zero, foldl_snoc, List.nil_append, eta_node]

noncomputable def s33 : Gm.Spec := Gm.Spec.of [.ro] [false] true q33
theorem good33 : Gm.Good Try.prog (33, s33) := by
  refine ⟨⟨spec_rec mu33 fun N hr => ?_, _, Try.func33, by kernel_rfl, of_decide_eq_true (by kernel_rfl)⟩, Gm.Spec.of_natl _ _ _ _⟩
  have hl : ∀ x ∈ [(33, s33r N), (51, s51)], Gm.Good Try.prog x := List.forall_mem_cons.2 ⟨⟨⟨hr, _, Try.func33, by kernel_rfl, of_decide_eq_true (by kernel_rfl)⟩, Gm.Spec.of_natl _ _ _ _⟩, List.forall_mem_cons.2 ⟨good51, List.forall_mem_nil _⟩⟩
  intro R
  refine spec_ok (E := f33e N) (tab_ok.env hl) (tab.natl hl) Try.func33 (by kernel_rfl : Try.f33.body = some f33c) [41] (by kernel_rfl) ?_
  intro ds outs h
  obtain ⟨h, hm⟩ := qeq_some h
  unfold q33 at h
  split at h
  · simp only [Option.some.injEq, Prod.mk.injEq] at h; obtain ⟨hg, h⟩ := h; cases h; exact f33_spec N _ hg hm
  · cases h
noncomputable def q30 : List Dt → Option (Bool × List Dt)
  | [.d .node a0] => some ((sm_node a0), [.d .node a0])
  | _ => none
noncomputable def mu30 : List Dt → Nat
  | [.d .node a0] => nd_node a0
  | _ => 0
noncomputable def s30r (N : Nat) : Gm.Spec := Gm.Spec.of [.ro] [false] true (qlt mu30 N q30)
/-! ### loop.example/g00465/spec.l3Copy -/
noncomputable def f30c : Code := (Try.f30.body).getD .skip
def f30k : Nat → Kp := kat [⟨[1, 2], [], [], []⟩, ⟨[1, 2, 3], [], [], []⟩, ⟨[1, 2, 3, 4], [⟨true, false, 3, 4, .node⟩], [], []⟩, ⟨[1, 2, 3, 4, 20], [], [], []⟩, ⟨[1, 2, 3, 4], [], [], []⟩, ⟨[1, 2, 3, 4], [], [], []⟩, ⟨[2], [], [], []⟩]
noncomputable def f30e (N : Nat) : Env := tab.env [(30, s30r N)]
noncomputable def f30L0 {R : Type} (N : Nat) (n : Nat) (x0 : Int → Bool → (List NodeT) → Option R) (vb1_0 : Int) (vb1_1 : Int) (vb1_2 : ByteArray) (vb1_3 : List ByteArray) (vb1_4 : List NodeT) (vb3_0 : Int) (vb3_1 : Int) (vb3_2 : ByteArray) (vr704 : List ByteArray) : Nat → Int → (List NodeT) → Option R
  | 0, _, _ => none
  | m + 1, vs4, vr196 =>
    (cond (decide (vs4 < (vb1_4.length : Int)))
      (cond ((decide ((0 : Int) ≤ vs4)) && (decide (vs4 < (vb1_4.length : Int))))
        (cond ((sm_node (⟨(NodeT.kind (atI (t := .node) vb1_4 (Int.toNat vs4))), (NodeT.n (atI (t := .node) vb1_4 (Int.toNat vs4))), (NodeT.s (atI (t := .node) vb1_4 (Int.toNat vs4))), (NodeT.keys (atI (t := .node) vb1_4 (Int.toNat vs4))), (NodeT.kids (atI (t := .node) vb1_4 (Int.toNat vs4)))⟩ : NodeT)) && (Nat.blt (nd_node (⟨(NodeT.kind (atI (t := .node) vb1_4 (Int.toNat vs4))), (NodeT.n (atI (t := .node) vb1_4 (Int.toNat vs4))), (NodeT.s (atI (t := .node) vb1_4 (Int.toNat vs4))), (NodeT.keys (atI (t := .node) vb1_4 (Int.toNat vs4))), (NodeT.kids (atI (t := .node) vb1_4 (Int.toNat vs4)))⟩ : NodeT)) N))
          (cond (Nat.ble (vr196.length + 1) LIM)
            (f30L0 N n x0 vb1_0 vb1_1 vb1_2 vb1_3 vb1_4 vb3_0 vb3_1 vb3_2 vr704 m (IntKind.wrap .i64 (vs4 + (1 : Int))) (vr196 ++ ([(⟨(NodeT.kind (⟨(NodeT.kind (atI (t := .node) vb1_4 (Int.toNat vs4))), (NodeT.n (atI (t := .node) vb1_4 (Int.toNat vs4))), (NodeT.s (atI (t := .node) vb1_4 (Int.toNat vs4))), (NodeT.keys (atI (t := .node) vb1_4 (Int.toNat vs4))), (NodeT.kids (atI (t := .node) vb1_4 (Int.toNat vs4)))⟩ : NodeT)), (NodeT.n (⟨(NodeT.kind (atI (t := .node) vb1_4 (Int.toNat vs4))), (NodeT.n (atI (t := .node) vb1_4 (Int.toNat vs4))), (NodeT.s (atI (t := .node) vb1_4 (Int.toNat vs4))), (NodeT.keys (atI (t := .node) vb1_4 (Int.toNat vs4))), (NodeT.kids (atI (t := .node) vb1_4 (Int.toNat vs4)))⟩ : NodeT)), (NodeT.s (⟨(NodeT.kind (atI (t := .node) vb1_4 (Int.toNat vs4))), (NodeT.n (atI (t := .node) vb1_4 (Int.toNat vs4))), (NodeT.s (atI (t := .node) vb1_4 (Int.toNat vs4))), (NodeT.keys (atI (t := .node) vb1_4 (Int.toNat vs4))), (NodeT.kids (atI (t := .node) vb1_4 (Int.toNat vs4)))⟩ : NodeT)), (NodeT.keys (⟨(NodeT.kind (atI (t := .node) vb1_4 (Int.toNat vs4))), (NodeT.n (atI (t := .node) vb1_4 (Int.toNat vs4))), (NodeT.s (atI (t := .node) vb1_4 (Int.toNat vs4))), (NodeT.keys (atI (t := .node) vb1_4 (Int.toNat vs4))), (NodeT.kids (atI (t := .node) vb1_4 (Int.toNat vs4)))⟩ : NodeT)), (NodeT.kids (⟨(NodeT.kind (atI (t := .node) vb1_4 (Int.toNat vs4))), (NodeT.n (atI (t := .node) vb1_4 (Int.toNat vs4))), (NodeT.s (atI (t := .node) vb1_4 (Int.toNat vs4))), (NodeT.keys (atI (t := .node) vb1_4 (Int.toNat vs4))), (NodeT.kids (atI (t := .node) vb1_4 (Int.toNat vs4)))⟩ : NodeT))⟩ : NodeT)] : List NodeT)))
            none)
          none)
        none)
      (x0 vs4 (decide (vs4 < (vb1_4.length : Int))) vr196))
theorem f30L0_b {R : Type} (N : Nat) (n : Nat) (k' : Ex → St → Option R) (vs4 : Int) (vb1_0 : Int) (vb1_1 : Int) (vb1_2 : ByteArray) (vb1_3 : List ByteArray) (vb1_4 : List NodeT) (vb3_0 : Int) (vb3_1 : Int) (vb3_2 : ByteArray) (vr196 : List NodeT) (vr704 : List ByteArray) : ev (f30e N) f30k n (cAt [1,1,0,1,0,0] f30c) ⟨[(1, .c (.one (.pt 1 0))), (2, .c (.one (.pt 2 0))), (3, .c (.one (.pt 3 0))), (4, .c (.one (.v (.int .i64 vs4))))], [(1, ⟨.node, [.v (.int .i64 vb1_0), .v (.int .i64 vb1_1), .v (.string vb1_2), .ro .str vb1_3, .ro .node vb1_4]⟩), (2, ⟨.node, [.v (.int .i64 (0 : Int)), .v (.int .i64 (0 : Int)), .v (.string ByteArray.empty), .nl, .nl]⟩), (3, ⟨.node, [.v (.int .i64 vb3_0), .v (.int .i64 vb3_1), .v (.string vb3_2), .h 704 0 0 [], .h 196 0 0 []]⟩)], [(196, .live ⟨.node, .deep, 0, [], vr196⟩), (704, .live ⟨.str, .deep, 0, [], vr704⟩)]⟩ k' =
    (cond (decide (vs4 < (vb1_4.length : Int)))
    (cond ((decide ((0 : Int) ≤ vs4)) && (decide (vs4 < (vb1_4.length : Int))))
      (cond ((sm_node (⟨(NodeT.kind (atI (t := .node) vb1_4 (Int.toNat vs4))), (NodeT.n (atI (t := .node) vb1_4 (Int.toNat vs4))), (NodeT.s (atI (t := .node) vb1_4 (Int.toNat vs4))), (NodeT.keys (atI (t := .node) vb1_4 (Int.toNat vs4))), (NodeT.kids (atI (t := .node) vb1_4 (Int.toNat vs4)))⟩ : NodeT)) && (Nat.blt (nd_node (⟨(NodeT.kind (atI (t := .node) vb1_4 (Int.toNat vs4))), (NodeT.n (atI (t := .node) vb1_4 (Int.toNat vs4))), (NodeT.s (atI (t := .node) vb1_4 (Int.toNat vs4))), (NodeT.keys (atI (t := .node) vb1_4 (Int.toNat vs4))), (NodeT.kids (atI (t := .node) vb1_4 (Int.toNat vs4)))⟩ : NodeT)) N))
        (cond (Nat.ble (vr196.length + 1) LIM)
          (k' .normal ⟨[(1, .c (.one (.pt 1 0))), (2, .c (.one (.pt 2 0))), (3, .c (.one (.pt 3 0))), (4, .c (.one (.v (.int .i64 (IntKind.wrap .i64 (vs4 + (1 : Int)))))))], [(1, ⟨.node, [.v (.int .i64 vb1_0), .v (.int .i64 vb1_1), .v (.string vb1_2), .ro .str vb1_3, .ro .node vb1_4]⟩), (2, ⟨.node, [.v (.int .i64 (0 : Int)), .v (.int .i64 (0 : Int)), .v (.string ByteArray.empty), .nl, .nl]⟩), (3, ⟨.node, [.v (.int .i64 vb3_0), .v (.int .i64 vb3_1), .v (.string vb3_2), .h 704 0 0 [], .h 196 0 0 []]⟩)], [(196, .live ⟨.node, .deep, 0, [], (vr196 ++ ([(⟨(NodeT.kind (⟨(NodeT.kind (atI (t := .node) vb1_4 (Int.toNat vs4))), (NodeT.n (atI (t := .node) vb1_4 (Int.toNat vs4))), (NodeT.s (atI (t := .node) vb1_4 (Int.toNat vs4))), (NodeT.keys (atI (t := .node) vb1_4 (Int.toNat vs4))), (NodeT.kids (atI (t := .node) vb1_4 (Int.toNat vs4)))⟩ : NodeT)), (NodeT.n (⟨(NodeT.kind (atI (t := .node) vb1_4 (Int.toNat vs4))), (NodeT.n (atI (t := .node) vb1_4 (Int.toNat vs4))), (NodeT.s (atI (t := .node) vb1_4 (Int.toNat vs4))), (NodeT.keys (atI (t := .node) vb1_4 (Int.toNat vs4))), (NodeT.kids (atI (t := .node) vb1_4 (Int.toNat vs4)))⟩ : NodeT)), (NodeT.s (⟨(NodeT.kind (atI (t := .node) vb1_4 (Int.toNat vs4))), (NodeT.n (atI (t := .node) vb1_4 (Int.toNat vs4))), (NodeT.s (atI (t := .node) vb1_4 (Int.toNat vs4))), (NodeT.keys (atI (t := .node) vb1_4 (Int.toNat vs4))), (NodeT.kids (atI (t := .node) vb1_4 (Int.toNat vs4)))⟩ : NodeT)), (NodeT.keys (⟨(NodeT.kind (atI (t := .node) vb1_4 (Int.toNat vs4))), (NodeT.n (atI (t := .node) vb1_4 (Int.toNat vs4))), (NodeT.s (atI (t := .node) vb1_4 (Int.toNat vs4))), (NodeT.keys (atI (t := .node) vb1_4 (Int.toNat vs4))), (NodeT.kids (atI (t := .node) vb1_4 (Int.toNat vs4)))⟩ : NodeT)), (NodeT.kids (⟨(NodeT.kind (atI (t := .node) vb1_4 (Int.toNat vs4))), (NodeT.n (atI (t := .node) vb1_4 (Int.toNat vs4))), (NodeT.s (atI (t := .node) vb1_4 (Int.toNat vs4))), (NodeT.keys (atI (t := .node) vb1_4 (Int.toNat vs4))), (NodeT.kids (atI (t := .node) vb1_4 (Int.toNat vs4)))⟩ : NodeT))⟩ : NodeT)] : List NodeT))⟩), (704, .live ⟨.str, .deep, 0, [], vr704⟩)]⟩)
          none)
        none)
      none)
    (k' (.exit 0) ⟨[(1, .c (.one (.pt 1 0))), (2, .c (.one (.pt 2 0))), (3, .c (.one (.pt 3 0))), (4, .c (.one (.v (.int .i64 vs4)))), (20, .c (.one (.v (.bool (decide (vs4 < (vb1_4.length : Int)))))))], [(1, ⟨.node, [.v (.int .i64 vb1_0), .v (.int .i64 vb1_1), .v (.string vb1_2), .ro .str vb1_3, .ro .node vb1_4]⟩), (2, ⟨.node, [.v (.int .i64 (0 : Int)), .v (.int .i64 (0 : Int)), .v (.string ByteArray.empty), .nl, .nl]⟩), (3, ⟨.node, [.v (.int .i64 vb3_0), .v (.int .i64 vb3_1), .v (.string vb3_2), .h 704 0 0 [], .h 196 0 0 []]⟩)], [(196, .live ⟨.node, .deep, 0, [], vr196⟩), (704, .live ⟨.str, .deep, 0, [], vr704⟩)]⟩)) := by kernel_rfl
theorem f30L0_eq {R : Type} (N : Nat) (n : Nat) (k' : Ex → St → Option R) (vb1_0 : Int) (vb1_1 : Int) (vb1_2 : ByteArray) (vb1_3 : List ByteArray) (vb1_4 : List NodeT) (vb3_0 : Int) (vb3_1 : Int) (vb3_2 : ByteArray) (vr704 : List ByteArray) : ∀ (m : Nat) (vs4 : Int) (vr196 : List NodeT), iter (fun st k => ev (f30e N) f30k n (cAt [1,1,0,1,0,0] f30c) st k) m ⟨[(1, .c (.one (.pt 1 0))), (2, .c (.one (.pt 2 0))), (3, .c (.one (.pt 3 0))), (4, .c (.one (.v (.int .i64 vs4))))], [(1, ⟨.node, [.v (.int .i64 vb1_0), .v (.int .i64 vb1_1), .v (.string vb1_2), .ro .str vb1_3, .ro .node vb1_4]⟩), (2, ⟨.node, [.v (.int .i64 (0 : Int)), .v (.int .i64 (0 : Int)), .v (.string ByteArray.empty), .nl, .nl]⟩), (3, ⟨.node, [.v (.int .i64 vb3_0), .v (.int .i64 vb3_1), .v (.string vb3_2), .h 704 0 0 [], .h 196 0 0 []]⟩)], [(196, .live ⟨.node, .deep, 0, [], vr196⟩), (704, .live ⟨.str, .deep, 0, [], vr704⟩)]⟩ k' = f30L0 N n (fun (xvs4 : Int) (xvs20 : Bool) (xvr196 : List NodeT) => k' (.exit 0) ⟨[(1, .c (.one (.pt 1 0))), (2, .c (.one (.pt 2 0))), (3, .c (.one (.pt 3 0))), (4, .c (.one (.v (.int .i64 xvs4)))), (20, .c (.one (.v (.bool xvs20))))], [(1, ⟨.node, [.v (.int .i64 vb1_0), .v (.int .i64 vb1_1), .v (.string vb1_2), .ro .str vb1_3, .ro .node vb1_4]⟩), (2, ⟨.node, [.v (.int .i64 (0 : Int)), .v (.int .i64 (0 : Int)), .v (.string ByteArray.empty), .nl, .nl]⟩), (3, ⟨.node, [.v (.int .i64 vb3_0), .v (.int .i64 vb3_1), .v (.string vb3_2), .h 704 0 0 [], .h 196 0 0 []]⟩)], [(196, .live ⟨.node, .deep, 0, [], xvr196⟩), (704, .live ⟨.str, .deep, 0, [], vr704⟩)]⟩) vb1_0 vb1_1 vb1_2 vb1_3 vb1_4 vb3_0 vb3_1 vb3_2 vr704 m vs4 vr196 := by
  intro m; induction m with
  | zero => intros; rfl
  | succ m ih =>
    intro vs4 vr196
    simp only [iter]
    rw [f30L0_b]
    simp only [ih, f30L0]

noncomputable def f30K0 {R : Type} (N : Nat) (n : Nat) (k' : Ex → St → Option R) : Ex → St → Option R := (blockK 0 (seqK (f30e N) f30k n (cAt [1,1,1] f30c) k'))
theorem f30K0_x0 {R : Type} (N : Nat) (n : Nat) (k : List Dt → Option R) (a0 : NodeT) (vb1_0 : Int) (vb1_1 : Int) (vb1_2 : ByteArray) (vb1_3 : List ByteArray) (vb1_4 : List NodeT) (vb3_0 : Int) (vb3_1 : Int) (vb3_2 : ByteArray) (vr704 : List ByteArray) (xvs4 : Int) (xvs20 : Bool) (xvr196 : List NodeT) : f30K0 N n (exitK (f30e N) [.ro] [false] true [.cell 2 41] [41] [.d .node a0] k) (.exit 0) ⟨[(1, .c (.one (.pt 1 0))), (2, .c (.one (.pt 2 0))), (3, .c (.one (.pt 3 0))), (4, .c (.one (.v (.int .i64 xvs4)))), (20, .c (.one (.v (.bool xvs20))))], [(1, ⟨.node, [.v (.int .i64 vb1_0), .v (.int .i64 vb1_1), .v (.string vb1_2), .ro .str vb1_3, .ro .node vb1_4]⟩), (2, ⟨.node, [.v (.int .i64 (0 : Int)), .v (.int .i64 (0 : Int)), .v (.string ByteArray.empty), .nl, .nl]⟩), (3, ⟨.node, [.v (.int .i64 vb3_0), .v (.int .i64 vb3_1), .v (.string vb3_2), .h 704 0 0 [], .h 196 0 0 []]⟩)], [(196, .live ⟨.node, .deep, 0, [], xvr196⟩), (704, .live ⟨.str, .deep, 0, [], vr704⟩)]⟩ =
    (k [.d .node (⟨vb3_0, vb3_1, vb3_2, vr704, xvr196⟩ : NodeT)]) := by kernel_rfl

theorem f30_run {R : Type} (N : Nat) (n : Nat) (k : List Dt → Option R) (a0 : NodeT) : evFn (f30e N) f30k n f30c [.ro] [false] true [.cell 2 41] [41] [.d .node a0] k =
    (cond (Nat.ble (0 + (NodeT.keys a0).length) LIM)
    (f30L0 N n (fun (xvs4 : Int) (xvs20 : Bool) (xvr196 : List NodeT) =>
      (k [.d .node (⟨(NodeT.kind a0), (NodeT.n a0), (NodeT.s a0), (([] : List ByteArray) ++ (NodeT.keys a0)), xvr196⟩ : NodeT)])) (NodeT.kind a0) (NodeT.n a0) (NodeT.s a0) (NodeT.keys a0) (NodeT.kids a0) (NodeT.kind a0) (NodeT.n a0) (NodeT.s a0) (([] : List ByteArray) ++ (NodeT.keys a0)) n (0 : Int) ([] : List NodeT))
    none) := by
  refine Eq.trans (b := (cond (Nat.ble (0 + (NodeT.keys a0).length) LIM)
    (iter (fun st k => ev (f30e N) f30k n (cAt [1,1,0,1,0,0] f30c) st k) n ⟨[(1, .c (.one (.pt 1 0))), (2, .c (.one (.pt 2 0))), (3, .c (.one (.pt 3 0))), (4, .c (.one (.v (.int .i64 (0 : Int)))))], [(1, ⟨.node, [.v (.int .i64 (NodeT.kind a0)), .v (.int .i64 (NodeT.n a0)), .v (.string (NodeT.s a0)), .ro .str (NodeT.keys a0), .ro .node (NodeT.kids a0)]⟩), (2, ⟨.node, [.v (.int .i64 (0 : Int)), .v (.int .i64 (0 : Int)), .v (.string ByteArray.empty), .nl, .nl]⟩), (3, ⟨.node, [.v (.int .i64 (NodeT.kind a0)), .v (.int .i64 (NodeT.n a0)), .v (.string (NodeT.s a0)), .h 704 0 0 [], .h 196 0 0 []]⟩)], [(196, .live ⟨.node, .deep, 0, [], ([] : List NodeT)⟩), (704, .live ⟨.str, .deep, 0, [], (([] : List ByteArray) ++ (NodeT.keys a0))⟩)]⟩ (f30K0 N n (exitK (f30e N) [.ro] [false] true [.cell 2 41] [41] [.d .node a0] k)))
    none)) (by kernel_rfl) ?_
  simp only [f30L0_eq, f30K0_x0]
theorem f30_spec (N : Nat) (a0 : NodeT) (hg : sm_node a0 = true) (hm : mu30 [.d .node a0] = N) : ∃ keep rounds, ∀ {R : Type} (k : List Dt → Option R), evFn (f30e N) keep rounds f30c [.ro] [false] true [.cell 2 41] [41] [.d .node a0] k = k [.d .node a0] := by
  have hm : nd_node a0 = N := hm
  subst hm
  have hg0 := hg
  rw [sm_node_def] at hg
  simp only [Bool.and_eq_true] at hg
  obtain ⟨_, _, _, hke, hki⟩ := hg
  have nke := smL_len hke
  have nki := smL_len hki
  refine ⟨f30k, a0.kids.length + 1, fun {R} k => ?_⟩
  rw [f30_run]
  simp only [Nat.zero_add, limLe nke, cond_true, List.nil_append]
  refine Eq.trans (loop_acc (xs := a0.kids) (F := fun m j out => f30L0 (nd_node a0) (a0.kids.length + 1) _ a0.kind a0.n a0.s a0.keys a0.kids a0.kind a0.n a0.s a0.keys m (j : Int) out) (f := fun out x => out ++ [x]) (good := fun out => k [.d .node ⟨a0.kind, a0.n, a0.s, a0.keys, out⟩]) (fun j out => out.length ≤ j)
    (fun j out x hx hi => by simp only [List.length_append, List.length_cons, List.length_nil]; omega) (fun m j out x hx hi => ?_) (fun m out hi => by simp only [f30L0, idxE, cond_false]) a0.kids.length 0 (a0.kids.length + 1) [] (by omega) (by omega) (by simp)) ?_
  · obtain ⟨h1, h0, hw, ht⟩ := idx (lt_of_get hx) (by omega)
    have hj := lt_of_get hx
    have hs := List.all_eq_true.1 (smL_all hki) x (List.mem_of_getElem? hx)
    have hlim : Nat.ble (out.length + 1) LIM = true := Nat.ble_eq_true_of_le (by have : (LIM : Nat) = 4294967296 := rfl; omega)
    have hb : Nat.blt (nd_node x) (nd_node a0) = true := by
      have := nd_node_kid (x := a0) (List.mem_of_getElem? hx)
      rw [Nat.blt_eq]; exact this
    simp only [f30L0, h1, h0, hw, ht, atI_of (t := .node) hx, Bool.and_self, cond_true, hlim, eta_node, hs, hb]
  · rw [List.drop_zero, foldl_snoc, List.nil_append, eta_node]

noncomputable def s30 : Gm.Spec := Gm.Spec.of [.ro] [false] true q30
theorem good30 : Gm.Good Try.prog (30, s30) := by
  refine ⟨⟨spec_rec mu30 fun N hr => ?_, _, Try.func30, by kernel_rfl, of_decide_eq_true (by kernel_rfl)⟩, Gm.Spec.of_natl _ _ _ _⟩
  have hl : ∀ x ∈ [(30, s30r N)], Gm.Good Try.prog x := List.forall_mem_cons.2 ⟨⟨⟨hr, _, Try.func30, by kernel_rfl, of_decide_eq_true (by kernel_rfl)⟩, Gm.Spec.of_natl _ _ _ _⟩, List.forall_mem_nil _⟩
  intro R
  refine spec_ok (E := f30e N) (tab_ok.env hl) (tab.natl hl) Try.func30 (by kernel_rfl : Try.f30.body = some f30c) [41] (by kernel_rfl) ?_
  intro ds outs h
  obtain ⟨h, hm⟩ := qeq_some h
  unfold q30 at h
  split at h
  · simp only [Option.some.injEq, Prod.mk.injEq] at h; obtain ⟨hg, h⟩ := h; cases h; exact f30_spec N _ hg hm
  · cases h
/-! ### loop.example/g00465/impl.isMap -/
noncomputable def f52c : Code := (Try.f52.body).getD .skip
def f52k : Nat → Kp := kat [⟨[1], [], [], []⟩, ⟨[2], [], [], []⟩]
noncomputable def f52e : Env := tab.env []
theorem f52_run {R : Type} (n : Nat) (k : List Dt → Option R) (a0 : NodeT) : evFn f52e f52k n f52c [.ro] [false] true [.tmp 2] [4] [.d .node a0] k =
    (cond ((NodeT.kind a0) == (5 : Int))
    (k [.d .bool (((NodeT.keys a0).length : Int) == ((NodeT.kids a0).length : Int))])
    (k [.d .bool false])) := by kernel_rfl
theorem f52_spec (a0 : NodeT) : ∃ keep rounds, ∀ {R : Type} (k : List Dt → Option R), evFn f52e keep rounds f52c [.ro] [false] true [.tmp 2] [4] [.d .node a0] k = k [.d .bool (isMapN a0)] := by
  refine ⟨f52k, 0, fun k => ?_⟩
  rw [f52_run]; unfold isMapN
  cases a0.kind == (5 : Int) <;> rfl

noncomputable def q52 : List Dt → Option (Bool × List Dt)
  | [.d .node a0] => some (true, [.d .bool (isMapN a0)])
  | _ => none
noncomputable def s52 : Gm.Spec := Gm.Spec.of [.ro] [false] true q52
theorem good52 : Gm.Good Try.prog (52, s52) := by
  have hl : ∀ x ∈ ([] : List (Nat × Gm.Spec)), Gm.Good Try.prog x := fun _ h => by cases h
  refine ⟨⟨spec_ok (tab_ok.env hl) (tab.natl hl) Try.func52 (by kernel_rfl : Try.f52.body = some f52c) [4] (by kernel_rfl) ?_, _, Try.func52, by kernel_rfl, of_decide_eq_true (by kernel_rfl)⟩, Gm.Spec.of_natl _ _ _ _⟩
  intro ds outs h
  unfold q52 at h
  split at h
  · cases h; exact f52_spec _
  · cases h
/-! ### loop.example/g00465/spec.l23Map -/
noncomputable def f49c : Code := (Try.f49.body).getD .skip
def f49k : Nat → Kp := kat [⟨[1], [], [], []⟩, ⟨[2], [], [], []⟩]
noncomputable def f49e : Env := tab.env []
theorem f49_run {R : Type} (n : Nat) (k : List Dt → Option R) (a0 : NodeT) : evFn f49e f49k n f49c [.ro] [false] true [.tmp 2] [4] [.d .node a0] k =
    (cond ((NodeT.kind a0) == (5 : Int))
    (k [.d .bool (((NodeT.keys a0).length : Int) == ((NodeT.kids a0).length : Int))])
    (k [.d .bool false])) := by kernel_rfl
theorem f49_spec (a0 : NodeT) : ∃ keep rounds, ∀ {R : Type} (k : List Dt → Option R), evFn f49e keep rounds f49c [.ro] [false] true [.tmp 2] [4] [.d .node a0] k = k [.d .bool (isMapN a0)] := by
  refine ⟨f49k, 0, fun k => ?_⟩
  rw [f49_run]; unfold isMapN
  cases a0.kind == (5 : Int) <;> rfl

noncomputable def q49 : List Dt → Option (Bool × List Dt)
  | [.d .node a0] => some (true, [.d .bool (isMapN a0)])
  | _ => none
noncomputable def s49 : Gm.Spec := Gm.Spec.of [.ro] [false] true q49
theorem good49 : Gm.Good Try.prog (49, s49) := by
  have hl : ∀ x ∈ ([] : List (Nat × Gm.Spec)), Gm.Good Try.prog x := fun _ h => by cases h
  refine ⟨⟨spec_ok (tab_ok.env hl) (tab.natl hl) Try.func49 (by kernel_rfl : Try.f49.body = some f49c) [4] (by kernel_rfl) ?_, _, Try.func49, by kernel_rfl, of_decide_eq_true (by kernel_rfl)⟩, Gm.Spec.of_natl _ _ _ _⟩
  intro ds outs h
  unfold q49 at h
  split at h
  · cases h; exact f49_spec _
  · cases h
/-! ### loop.example/g00465/impl.keyRule -/
noncomputable def f53c : Code := (Try.f53.body).getD .skip
def f53k : Nat → Kp := kat [⟨[1, 2, 4], [], [], []⟩, ⟨[2, 4, 6], [], [], []⟩, ⟨[2, 4, 6, 12], [], [], []⟩, ⟨[4, 5], [], [], []⟩, ⟨[4, 5], [], [], []⟩]
noncomputable def f53e : Env := tab.env [(57, s57)]
theorem f53_run {R : Type} (n : Nat) (k : List Dt → Option R) (a0 : RuleT) (a1 : ByteArray) : evFn f53e f53k n f53c [.ro, .ro] [false, false] false [.cell 4 31, .tmp 5] [31, 4] [.d .rule a0, .d .str a1] k =
    (cond ((fun (x : List ByteArray) (_ : ByteArray) => gLenW x) (RuleT.keys a0) a1)
    (cond (decide ((idxS (RuleT.keys a0) a1) < (0 : Int)))
      (k [.d .rule (⟨(0 : Int), ([] : List ByteArray), ([] : List RuleT), ([] : List Bool), (0 : Int), (0 : Int)⟩ : RuleT), .d .bool false])
      (cond ((decide ((0 : Int) ≤ (idxS (RuleT.keys a0) a1))) && (decide ((idxS (RuleT.keys a0) a1) < ((RuleT.kids a0).length : Int))))
        (k [.d .rule (⟨(RuleT.kind (atI (t := .rule) (RuleT.kids a0) (Int.toNat (idxS (RuleT.keys a0) a1)))), (RuleT.keys (atI (t := .rule) (RuleT.kids a0) (Int.toNat (idxS (RuleT.keys a0) a1)))), (RuleT.kids (atI (t := .rule) (RuleT.kids a0) (Int.toNat (idxS (RuleT.keys a0) a1)))), (RuleT.need (atI (t := .rule) (RuleT.kids a0) (Int.toNat (idxS (RuleT.keys a0) a1)))), (RuleT.low (atI (t := .rule) (RuleT.kids a0) (Int.toNat (idxS (RuleT.keys a0) a1)))), (RuleT.high (atI (t := .rule) (RuleT.kids a0) (Int.toNat (idxS (RuleT.keys a0) a1))))⟩ : RuleT), .d .bool true])
        none))
    none) := by kernel_rfl
theorem f53_spec (a0 : RuleT) (a1 : ByteArray) (hg : gKR a0 a1 = true) : ∃ keep rounds, ∀ {R : Type} (k : List Dt → Option R), evFn f53e keep rounds f53c [.ro, .ro] [false, false] false [.cell 4 31, .tmp 5] [31, 4] [.d .rule a0, .d .str a1] k = k [.d .rule ((keyRule a0 a1).1), .d .bool ((keyRule a0 a1).2)] := by
  simp only [gKR, Bool.and_eq_true, decide_eq_true_eq] at hg
  obtain ⟨hr, hle⟩ := hg
  have hr0 := hr
  rw [sm_rule_def] at hr
  simp only [Bool.and_eq_true] at hr
  obtain ⟨_, hrk, hrki, _⟩ := hr
  have nrk := smL_len hrk
  have nrki := smL_len hrki
  refine ⟨f53k, 0, fun k => ?_⟩
  rw [f53_run]
  show _ = k [.d .rule (keyRule a0 a1).1, .d .bool (keyRule a0 a1).2]
  simp only [gLenW_sm hrk, cond_true, eta_rule]
  rw [show idxS a0.keys a1 = ruleAt a0 a1 from rfl]
  unfold keyRule
  by_cases hk : ruleAt a0 a1 < 0
  · rw [decide_eq_true hk]; rfl
  · obtain ⟨i, e, hi⟩ := ruleAt_bd hk
    rw [decide_eq_false hk, decide_eq_true (show (0 : Int) ≤ ruleAt a0 a1 by omega), decide_eq_true (show ruleAt a0 a1 < (a0.kids.length : Int) by omega)]
    rfl

noncomputable def q53 : List Dt → Option (Bool × List Dt)
  | [.d .rule a0, .d .str a1] => some ((gKR a0 a1), [.d .rule ((keyRule a0 a1).1), .d .bool ((keyRule a0 a1).2)])
  | _ => none
noncomputable def s53 : Gm.Spec := Gm.Spec.of [.ro, .ro] [false, false] false q53
theorem good53 : Gm.Good Try.prog (53, s53) := by
  have hl : ∀ x ∈ [(57, s57)], Gm.Good Try.prog x := List.forall_mem_cons.2 ⟨good57, List.forall_mem_nil _⟩
  refine ⟨⟨spec_ok (tab_ok.env hl) (tab.natl hl) Try.func53 (by kernel_rfl : Try.f53.body = some f53c) [31, 4] (by kernel_rfl) ?_, _, Try.func53, by kernel_rfl, of_decide_eq_true (by kernel_rfl)⟩, Gm.Spec.of_natl _ _ _ _⟩
  intro ds outs h
  unfold q53 at h
  split at h
  · simp only [Option.some.injEq, Prod.mk.injEq] at h; obtain ⟨hg, h⟩ := h; cases h; exact f53_spec _ _ hg
  · cases h
/-! ### loop.example/g00465/spec.l24At -/
noncomputable def f50c : Code := (Try.f50.body).getD .skip
def f50k : Nat → Kp := kat [⟨[1, 2], [], [], []⟩, ⟨[1, 2, 5], [], [], []⟩, ⟨[1, 2, 5, 10], [], [], []⟩, ⟨[1, 2, 5], [], [], []⟩, ⟨[1, 2, 5, 19], [], [], []⟩, ⟨[4], [], [], []⟩, ⟨[4], [], [], []⟩]
noncomputable def f50e : Env := tab.env []
noncomputable def f50L0 {R : Type} (n : Nat) (x0 : Int → Option R) (x1 : Int → Bool → Option R) (vs1 : ByteArray) (vb2_0 : Int) (vb2_1 : List ByteArray) (vb2_2 : List RuleT) (vb2_3 : List Bool) (vb2_4 : Int) (vb2_5 : Int) : Nat → Int → Option R
  | 0, _ => none
  | m + 1, vs5 =>
    (cond (decide (vs5 < (vb2_1.length : Int)))
      (cond ((decide ((0 : Int) ≤ vs5)) && (decide (vs5 < (vb2_1.length : Int))))
        (cond (sEq (atI (t := .str) vb2_1 (Int.toNat vs5)) vs1)
          (x0 vs5)
          (f50L0 n x0 x1 vs1 vb2_0 vb2_1 vb2_2 vb2_3 vb2_4 vb2_5 m (IntKind.wrap .i64 (vs5 + (1 : Int)))))
        none)
      (x1 vs5 (decide (vs5 < (vb2_1.length : Int)))))
theorem f50L0_b {R : Type} (n : Nat) (k' : Ex → St → Option R) (vs1 : ByteArray) (vs5 : Int) (vb2_0 : Int) (vb2_1 : List ByteArray) (vb2_2 : List RuleT) (vb2_3 : List Bool) (vb2_4 : Int) (vb2_5 : Int) : ev f50e f50k n (cAt [1,0,1,0,0] f50c) ⟨[(1, .c (.one (.v (.string vs1)))), (2, .c (.one (.pt 2 0))), (5, .c (.one (.v (.int .i64 vs5))))], [(2, ⟨.rule, [.v (.int .i64 vb2_0), .ro .str vb2_1, .ro .rule vb2_2, .ro .bool vb2_3, .v (.int .i64 vb2_4), .v (.int .i64 vb2_5)]⟩)], []⟩ k' =
    (cond (decide (vs5 < (vb2_1.length : Int)))
    (cond ((decide ((0 : Int) ≤ vs5)) && (decide (vs5 < (vb2_1.length : Int))))
      (cond (sEq (atI (t := .str) vb2_1 (Int.toNat vs5)) vs1)
        (k' .ret ⟨[(4, .c (.one (.v (.int .i64 vs5))))], [], []⟩)
        (k' .normal ⟨[(1, .c (.one (.v (.string vs1)))), (2, .c (.one (.pt 2 0))), (5, .c (.one (.v (.int .i64 (IntKind.wrap .i64 (vs5 + (1 : Int)))))))], [(2, ⟨.rule, [.v (.int .i64 vb2_0), .ro .str vb2_1, .ro .rule vb2_2, .ro .bool vb2_3, .v (.int .i64 vb2_4), .v (.int .i64 vb2_5)]⟩)], []⟩))
      none)
    (k' (.exit 0) ⟨[(1, .c (.one (.v (.string vs1)))), (2, .c (.one (.pt 2 0))), (5, .c (.one (.v (.int .i64 vs5)))), (10, .c (.one (.v (.bool (decide (vs5 < (vb2_1.length : Int)))))))], [(2, ⟨.rule, [.v (.int .i64 vb2_0), .ro .str vb2_1, .ro .rule vb2_2, .ro .bool vb2_3, .v (.int .i64 vb2_4), .v (.int .i64 vb2_5)]⟩)], []⟩)) := by kernel_rfl
theorem f50L0_eq {R : Type} (n : Nat) (k' : Ex → St → Option R) (vs1 : ByteArray) (vb2_0 : Int) (vb2_1 : List ByteArray) (vb2_2 : List RuleT) (vb2_3 : List Bool) (vb2_4 : Int) (vb2_5 : Int) : ∀ (m : Nat) (vs5 : Int), iter (fun st k => ev f50e f50k n (cAt [1,0,1,0,0] f50c) st k) m ⟨[(1, .c (.one (.v (.string vs1)))), (2, .c (.one (.pt 2 0))), (5, .c (.one (.v (.int .i64 vs5))))], [(2, ⟨.rule, [.v (.int .i64 vb2_0), .ro .str vb2_1, .ro .rule vb2_2, .ro .bool vb2_3, .v (.int .i64 vb2_4), .v (.int .i64 vb2_5)]⟩)], []⟩ k' = f50L0 n (fun (xvs4 : Int) => k' .ret ⟨[(4, .c (.one (.v (.int .i64 xvs4))))], [], []⟩) (fun (xvs5 : Int) (xvs10 : Bool) => k' (.exit 0) ⟨[(1, .c (.one (.v (.string vs1)))), (2, .c (.one (.pt 2 0))), (5, .c (.one (.v (.int .i64 xvs5)))), (10, .c (.one (.v (.bool xvs10))))], [(2, ⟨.rule, [.v (.int .i64 vb2_0), .ro .str vb2_1, .ro .rule vb2_2, .ro .bool vb2_3, .v (.int .i64 vb2_4), .v (.int .i64 vb2_5)]⟩)], []⟩) vs1 vb2_0 vb2_1 vb2_2 vb2_3 vb2_4 vb2_5 m vs5 := by
  intro m; induction m with
  | zero => intros; rfl
  | succ m ih =>
    intro vs5
    simp only [iter]
    rw [f50L0_b]
    simp only [ih, f50L0]

noncomputable def f50K0 {R : Type} (n : Nat) (k' : Ex → St → Option R) : Ex → St → Option R := (blockK 0 (seqK f50e f50k n (cAt [1,1] f50c) k'))
theorem f50K0_x0 {R : Type} (n : Nat) (k : List Dt → Option R) (a0 : RuleT) (a1 : ByteArray) (xvs4 : Int) : f50K0 n (exitK f50e [.ro, .ro] [false] true [.tmp 4] [3] [.d .rule a0, .d .str a1] k) .ret ⟨[(4, .c (.one (.v (.int .i64 xvs4))))], [], []⟩ =
    (k [.d (.i .i64) xvs4]) := by kernel_rfl
theorem f50K0_x1 {R : Type} (n : Nat) (k : List Dt → Option R) (a0 : RuleT) (a1 : ByteArray) (vs1 : ByteArray) (vb2_0 : Int) (vb2_1 : List ByteArray) (vb2_2 : List RuleT) (vb2_3 : List Bool) (vb2_4 : Int) (vb2_5 : Int) (xvs5 : Int) (xvs10 : Bool) : f50K0 n (exitK f50e [.ro, .ro] [false] true [.tmp 4] [3] [.d .rule a0, .d .str a1] k) (.exit 0) ⟨[(1, .c (.one (.v (.string vs1)))), (2, .c (.one (.pt 2 0))), (5, .c (.one (.v (.int .i64 xvs5)))), (10, .c (.one (.v (.bool xvs10))))], [(2, ⟨.rule, [.v (.int .i64 vb2_0), .ro .str vb2_1, .ro .rule vb2_2, .ro .bool vb2_3, .v (.int .i64 vb2_4), .v (.int .i64 vb2_5)]⟩)], []⟩ =
    (k [.d (.i .i64) (-1 : Int)]) := by kernel_rfl

theorem f50_run {R : Type} (n : Nat) (k : List Dt → Option R) (a0 : RuleT) (a1 : ByteArray) : evFn f50e f50k n f50c [.ro, .ro] [false] true [.tmp 4] [3] [.d .rule a0, .d .str a1] k =
    (f50L0 n (fun (xvs4 : Int) =>
    (k [.d (.i .i64) xvs4])) (fun (xvs5 : Int) (xvs10 : Bool) =>
    (k [.d (.i .i64) (-1 : Int)])) a1 (RuleT.kind a0) (RuleT.keys a0) (RuleT.kids a0) (RuleT.need a0) (RuleT.low a0) (RuleT.high a0) n (0 : Int)) := by
  refine Eq.trans (b := (iter (fun st k => ev f50e f50k n (cAt [1,0,1,0,0] f50c) st k) n ⟨[(1, .c (.one (.v (.string a1)))), (2, .c (.one (.pt 2 0))), (5, .c (.one (.v (.int .i64 (0 : Int)))))], [(2, ⟨.rule, [.v (.int .i64 (RuleT.kind a0)), .ro .str (RuleT.keys a0), .ro .rule (RuleT.kids a0), .ro .bool (RuleT.need a0), .v (.int .i64 (RuleT.low a0)), .v (.int .i64 (RuleT.high a0))]⟩)], []⟩ (f50K0 n (exitK f50e [.ro, .ro] [false] true [.tmp 4] [3] [.d .rule a0, .d .str a1] k)))) (by kernel_rfl) ?_
  simp only [f50L0_eq, f50K0_x0, f50K0_x1]
theorem f50_spec (a0 : RuleT) (a1 : ByteArray) (hr : sm_rule a0 = true) : ∃ keep rounds, ∀ {R : Type} (k : List Dt → Option R), evFn f50e keep rounds f50c [.ro, .ro] [false] true [.tmp 4] [3] [.d .rule a0, .d .str a1] k = k [.d (.i .i64) (ruleAt a0 a1)] := by
  have hr0 := hr
  rw [sm_rule_def] at hr
  simp only [Bool.and_eq_true] at hr
  obtain ⟨_, hrk, hrki, _⟩ := hr
  have nrk := smL_len hrk
  have nrki := smL_len hrki
  refine ⟨f50k, a0.keys.length + 1, fun {R} k => ?_⟩
  rw [f50_run, ruleAt_first]
  refine Eq.trans (loop_find (n := a0.keys.length) (F := fun m i => f50L0 (a0.keys.length + 1) _ _ a1 a0.kind a0.keys a0.kids a0.need a0.low a0.high m i) (p := fun j => sEq (atI (t := .str) a0.keys j) a1) (hit := fun i => k [.d (.i .i64) i]) (miss := k [.d (.i .i64) (-1 : Int)])
    (fun m j hj => ?_) (fun m => by simp only [f50L0, idxE, cond_false]) a0.keys.length 0 (a0.keys.length + 1) (by omega) (by omega)) ?_
  · obtain ⟨h1, h0, hw, ht⟩ := idx hj (by omega)
    simp only [f50L0, h1, h0, hw, ht, Bool.and_self, cond_true]
  · cases firstN (fun j => sEq (atI (t := .str) a0.keys j) a1) 0 a0.keys.length <;> rfl

noncomputable def q50 : List Dt → Option (Bool × List Dt)
  | [.d .rule a0, .d .str a1] => some (((fun (r : RuleT) (_ : ByteArray) => sm_rule r) a0 a1), [.d (.i .i64) (ruleAt a0 a1)])
  | _ => none
noncomputable def s50 : Gm.Spec := Gm.Spec.of [.ro, .ro] [false] true q50
theorem good50 : Gm.Good Try.prog (50, s50) := by
  have hl : ∀ x ∈ ([] : List (Nat × Gm.Spec)), Gm.Good Try.prog x := fun _ h => by cases h
  refine ⟨⟨spec_ok (tab_ok.env hl) (tab.natl hl) Try.func50 (by kernel_rfl : Try.f50.body = some f50c) [3] (by kernel_rfl) ?_, _, Try.func50, by kernel_rfl, of_decide_eq_true (by kernel_rfl)⟩, Gm.Spec.of_natl _ _ _ _⟩
  intro ds outs h
  unfold q50 at h
  split at h
  · simp only [Option.some.injEq, Prod.mk.injEq] at h; obtain ⟨hg, h⟩ := h; cases h; exact f50_spec _ _ hg
  · cases h
noncomputable def q34 : List Dt → Option (Bool × List Dt)
  | [.d .node a0, .d .rule a1] => some ((gPr a0 a1), [.d .node (prune a0 a1)])
  | _ => none
noncomputable def mu34 : List Dt → Nat
  | [.d .node a0, .d .rule a1] => (fun (t : NodeT) (_ : RuleT) => nd_node t) a0 a1
  | _ => 0
noncomputable def s34r (N : Nat) : Gm.Spec := Gm.Spec.of [.ro, .ro] [false] true (qlt mu34 N q34)
/-! ### loop.example/g00465/impl.pruned -/
noncomputable def f34c : Code := (Try.f34.body).getD .skip
def f34k : Nat → Kp := kat [⟨[2, 3, 4], [], [], []⟩, ⟨[2, 3, 4], [], [], []⟩, ⟨[2, 3, 4, 14], [], [], []⟩, ⟨[2, 3, 4, 5], [], [], []⟩, ⟨[2, 3, 4, 5, 30, 31, 32], [⟨true, false, 5, 3, .str⟩, ⟨true, false, 5, 4, .node⟩], [], []⟩, ⟨[2, 3, 4, 5, 30, 31, 32, 33], [], [], []⟩, ⟨[2, 3, 4, 5, 6, 7, 30, 31, 32], [], [], []⟩, ⟨[2, 3, 4, 5, 6, 7, 8, 9, 30, 31, 32], [], [], []⟩, ⟨[2, 3, 4, 5, 6, 7, 8, 30, 31, 32, 43], [], [], []⟩, ⟨[2, 3, 4, 5, 6, 8, 30, 31, 32], [], [], []⟩, ⟨[2, 3, 4, 5, 30, 31, 32], [], [], []⟩, ⟨[2, 3, 4, 5, 30, 31, 32], [], [], []⟩, ⟨[4], [], [], []⟩, ⟨[2, 3, 4, 64], [], [], []⟩, ⟨[2, 3, 4, 74, 75, 76], [], [], []⟩, ⟨[2, 3, 4, 74, 75, 76, 77], [], [], []⟩, ⟨[2, 3, 4, 10, 11, 74, 75, 76], [], [], []⟩, ⟨[2, 3, 4, 74, 75, 76], [], [], []⟩, ⟨[2, 3, 4, 74, 75, 76], [], [], []⟩, ⟨[4], [], [], []⟩]
noncomputable def f34e (N : Nat) : Env := tab.env [(33, s33), (34, s34r N), (52, s52), (53, s53)]
noncomputable def f34L0 {R : Type} (N : Nat) (n : Nat) (x0 : Int → Bool → (List ByteArray) → (List NodeT) → Option R) (vs31 : Int) (vb2_0 : Int) (vb2_1 : Int) (vb2_2 : ByteArray) (vb3_0 : Int) (vb3_1 : List ByteArray) (vb3_2 : List RuleT) (vb3_3 : List Bool) (vb3_4 : Int) (vb3_5 : Int) (vb5_0 : Int) (vb5_1 : Int) (vb5_2 : ByteArray) (vr832 : List ByteArray) (vr833 : List NodeT) : Nat → Int → (List ByteArray) → (List NodeT) → Option R
  | 0, _, _, _ => none
  | m + 1, vs32, vr323, vr324 =>
    (cond (decide (vs32 < vs31))
      (cond ((decide ((0 : Int) ≤ vs32)) && (decide (vs32 < (vr832.length : Int))))
        (cond (gKR (⟨vb3_0, vb3_1, vb3_2, vb3_3, vb3_4, vb3_5⟩ : RuleT) (atI (t := .str) vr832 (Int.toNat vs32)))
          (cond ((keyRule (⟨vb3_0, vb3_1, vb3_2, vb3_3, vb3_4, vb3_5⟩ : RuleT) (atI (t := .str) vr832 (Int.toNat vs32))).2)
            (cond (Nat.ble (vr323.length + 1) LIM)
              (cond ((decide ((0 : Int) ≤ vs32)) && (decide (vs32 < (vr833.length : Int))))
                (cond ((gPr (⟨(NodeT.kind (atI (t := .node) vr833 (Int.toNat vs32))), (NodeT.n (atI (t := .node) vr833 (Int.toNat vs32))), (NodeT.s (atI (t := .node) vr833 (Int.toNat vs32))), (NodeT.keys (atI (t := .node) vr833 (Int.toNat vs32))), (NodeT.kids (atI (t := .node) vr833 (Int.toNat vs32)))⟩ : NodeT) (⟨(RuleT.kind ((keyRule (⟨vb3_0, vb3_1, vb3_2, vb3_3, vb3_4, vb3_5⟩ : RuleT) (atI (t := .str) vr832 (Int.toNat vs32))).1)), (RuleT.keys ((keyRule (⟨vb3_0, vb3_1, vb3_2, vb3_3, vb3_4, vb3_5⟩ : RuleT) (atI (t := .str) vr832 (Int.toNat vs32))).1)), (RuleT.kids ((keyRule (⟨vb3_0, vb3_1, vb3_2, vb3_3, vb3_4, vb3_5⟩ : RuleT) (atI (t := .str) vr832 (Int.toNat vs32))).1)), (RuleT.need ((keyRule (⟨vb3_0, vb3_1, vb3_2, vb3_3, vb3_4, vb3_5⟩ : RuleT) (atI (t := .str) vr832 (Int.toNat vs32))).1)), (RuleT.low ((keyRule (⟨vb3_0, vb3_1, vb3_2, vb3_3, vb3_4, vb3_5⟩ : RuleT) (atI (t := .str) vr832 (Int.toNat vs32))).1)), (RuleT.high ((keyRule (⟨vb3_0, vb3_1, vb3_2, vb3_3, vb3_4, vb3_5⟩ : RuleT) (atI (t := .str) vr832 (Int.toNat vs32))).1))⟩ : RuleT)) && (Nat.blt ((fun (t : NodeT) (_ : RuleT) => nd_node t) (⟨(NodeT.kind (atI (t := .node) vr833 (Int.toNat vs32))), (NodeT.n (atI (t := .node) vr833 (Int.toNat vs32))), (NodeT.s (atI (t := .node) vr833 (Int.toNat vs32))), (NodeT.keys (atI (t := .node) vr833 (Int.toNat vs32))), (NodeT.kids (atI (t := .node) vr833 (Int.toNat vs32)))⟩ : NodeT) (⟨(RuleT.kind ((keyRule (⟨vb3_0, vb3_1, vb3_2, vb3_3, vb3_4, vb3_5⟩ : RuleT) (atI (t := .str) vr832 (Int.toNat vs32))).1)), (RuleT.keys ((keyRule (⟨vb3_0, vb3_1, vb3_2, vb3_3, vb3_4, vb3_5⟩ : RuleT) (atI (t := .str) vr832 (Int.toNat vs32))).1)), (RuleT.kids ((keyRule (⟨vb3_0, vb3_1, vb3_2, vb3_3, vb3_4, vb3_5⟩ : RuleT) (atI (t := .str) vr832 (Int.toNat vs32))).1)), (RuleT.need ((keyRule (⟨vb3_0, vb3_1, vb3_2, vb3_3, vb3_4, vb3_5⟩ : RuleT) (atI (t := .str) vr832 (Int.toNat vs32))).1)), (RuleT.low ((keyRule (⟨vb3_0, vb3_1, vb3_2, vb3_3, vb3_4, vb3_5⟩ : RuleT) (atI (t := .str) vr832 (Int.toNat vs32))).1)), (RuleT.high ((keyRule (⟨vb3_0, vb3_1, vb3_2, vb3_3, vb3_4, vb3_5⟩ : RuleT) (atI (t := .str) vr832 (Int.toNat vs32))).1))⟩ : RuleT)) N))
                  (cond (Nat.ble (vr324.length + 1) LIM)
                    (f34L0 N n x0 vs31 vb2_0 vb2_1 vb2_2 vb3_0 vb3_1 vb3_2 vb3_3 vb3_4 vb3_5 vb5_0 vb5_1 vb5_2 vr832 vr833 m (IntKind.wrap .i64 (vs32 + (1 : Int))) (vr323 ++ ([(atI (t := .str) vr832 (Int.toNat vs32))] : List ByteArray)) (vr324 ++ ([(⟨(NodeT.kind (prune (⟨(NodeT.kind (atI (t := .node) vr833 (Int.toNat vs32))), (NodeT.n (atI (t := .node) vr833 (Int.toNat vs32))), (NodeT.s (atI (t := .node) vr833 (Int.toNat vs32))), (NodeT.keys (atI (t := .node) vr833 (Int.toNat vs32))), (NodeT.kids (atI (t := .node) vr833 (Int.toNat vs32)))⟩ : NodeT) (⟨(RuleT.kind ((keyRule (⟨vb3_0, vb3_1, vb3_2, vb3_3, vb3_4, vb3_5⟩ : RuleT) (atI (t := .str) vr832 (Int.toNat vs32))).1)), (RuleT.keys ((keyRule (⟨vb3_0, vb3_1, vb3_2, vb3_3, vb3_4, vb3_5⟩ : RuleT) (atI (t := .str) vr832 (Int.toNat vs32))).1)), (RuleT.kids ((keyRule (⟨vb3_0, vb3_1, vb3_2, vb3_3, vb3_4, vb3_5⟩ : RuleT) (atI (t := .str) vr832 (Int.toNat vs32))).1)), (RuleT.need ((keyRule (⟨vb3_0, vb3_1, vb3_2, vb3_3, vb3_4, vb3_5⟩ : RuleT) (atI (t := .str) vr832 (Int.toNat vs32))).1)), (RuleT.low ((keyRule (⟨vb3_0, vb3_1, vb3_2, vb3_3, vb3_4, vb3_5⟩ : RuleT) (atI (t := .str) vr832 (Int.toNat vs32))).1)), (RuleT.high ((keyRule (⟨vb3_0, vb3_1, vb3_2, vb3_3, vb3_4, vb3_5⟩ : RuleT) (atI (t := .str) vr832 (Int.toNat vs32))).1))⟩ : RuleT))), (NodeT.n (prune (⟨(NodeT.kind (atI (t := .node) vr833 (Int.toNat vs32))), (NodeT.n (atI (t := .node) vr833 (Int.toNat vs32))), (NodeT.s (atI (t := .node) vr833 (Int.toNat vs32))), (NodeT.keys (atI (t := .node) vr833 (Int.toNat vs32))), (NodeT.kids (atI (t := .node) vr833 (Int.toNat vs32)))⟩ : NodeT) (⟨(RuleT.kind ((keyRule (⟨vb3_0, vb3_1, vb3_2, vb3_3, vb3_4, vb3_5⟩ : RuleT) (atI (t := .str) vr832 (Int.toNat vs32))).1)), (RuleT.keys ((keyRule (⟨vb3_0, vb3_1, vb3_2, vb3_3, vb3_4, vb3_5⟩ : RuleT) (atI (t := .str) vr832 (Int.toNat vs32))).1)), (RuleT.kids ((keyRule (⟨vb3_0, vb3_1, vb3_2, vb3_3, vb3_4, vb3_5⟩ : RuleT) (atI (t := .str) vr832 (Int.toNat vs32))).1)), (RuleT.need ((keyRule (⟨vb3_0, vb3_1, vb3_2, vb3_3, vb3_4, vb3_5⟩ : RuleT) (atI (t := .str) vr832 (Int.toNat vs32))).1)), (RuleT.low ((keyRule (⟨vb3_0, vb3_1, vb3_2, vb3_3, vb3_4, vb3_5⟩ : RuleT) (atI (t := .str) vr832 (Int.toNat vs32))).1)), (RuleT.high ((keyRule (⟨vb3_0, vb3_1, vb3_2, vb3_3, vb3_4, vb3_5⟩ : RuleT) (atI (t := .str) vr832 (Int.toNat vs32))).1))⟩ : RuleT))), (NodeT.s (prune (⟨(NodeT.kind (atI (t := .node) vr833 (Int.toNat vs32))), (NodeT.n (atI (t := .node) vr833 (Int.toNat vs32))), (NodeT.s (atI (t := .node) vr833 (Int.toNat vs32))), (NodeT.keys (atI (t := .node) vr833 (Int.toNat vs32))), (NodeT.kids (atI (t := .node) vr833 (Int.toNat vs32)))⟩ : NodeT) (⟨(RuleT.kind ((keyRule (⟨vb3_0, vb3_1, vb3_2, vb3_3, vb3_4, vb3_5⟩ : RuleT) (atI (t := .str) vr832 (Int.toNat vs32))).1)), (RuleT.keys ((keyRule (⟨vb3_0, vb3_1, vb3_2, vb3_3, vb3_4, vb3_5⟩ : RuleT) (atI (t := .str) vr832 (Int.toNat vs32))).1)), (RuleT.kids ((keyRule (⟨vb3_0, vb3_1, vb3_2, vb3_3, vb3_4, vb3_5⟩ : RuleT) (atI (t := .str) vr832 (Int.toNat vs32))).1)), (RuleT.need ((keyRule (⟨vb3_0, vb3_1, vb3_2, vb3_3, vb3_4, vb3_5⟩ : RuleT) (atI (t := .str) vr832 (Int.toNat vs32))).1)), (RuleT.low ((keyRule (⟨vb3_0, vb3_1, vb3_2, vb3_3, vb3_4, vb3_5⟩ : RuleT) (atI (t := .str) vr832 (Int.toNat vs32))).1)), (RuleT.high ((keyRule (⟨vb3_0, vb3_1, vb3_2, vb3_3, vb3_4, vb3_5⟩ : RuleT) (atI (t := .str) vr832 (Int.toNat vs32))).1))⟩ : RuleT))), (NodeT.keys (prune (⟨(NodeT.kind (atI (t := .node) vr833 (Int.toNat vs32))), (NodeT.n (atI (t := .node) vr833 (Int.toNat vs32))), (NodeT.s (atI (t := .node) vr833 (Int.toNat vs32))), (NodeT.keys (atI (t := .node) vr833 (Int.toNat vs32))), (NodeT.kids (atI (t := .node) vr833 (Int.toNat vs32)))⟩ : NodeT) (⟨(RuleT.kind ((keyRule (⟨vb3_0, vb3_1, vb3_2, vb3_3, vb3_4, vb3_5⟩ : RuleT) (atI (t := .str) vr832 (Int.toNat vs32))).1)), (RuleT.keys ((keyRule (⟨vb3_0, vb3_1, vb3_2, vb3_3, vb3_4, vb3_5⟩ : RuleT) (atI (t := .str) vr832 (Int.toNat vs32))).1)), (RuleT.kids ((keyRule (⟨vb3_0, vb3_1, vb3_2, vb3_3, vb3_4, vb3_5⟩ : RuleT) (atI (t := .str) vr832 (Int.toNat vs32))).1)), (RuleT.need ((keyRule (⟨vb3_0, vb3_1, vb3_2, vb3_3, vb3_4, vb3_5⟩ : RuleT) (atI (t := .str) vr832 (Int.toNat vs32))).1)), (RuleT.low ((keyRule (⟨vb3_0, vb3_1, vb3_2, vb3_3, vb3_4, vb3_5⟩ : RuleT) (atI (t := .str) vr832 (Int.toNat vs32))).1)), (RuleT.high ((keyRule (⟨vb3_0, vb3_1, vb3_2, vb3_3, vb3_4, vb3_5⟩ : RuleT) (atI (t := .str) vr832 (Int.toNat vs32))).1))⟩ : RuleT))), (NodeT.kids (prune (⟨(NodeT.kind (atI (t := .node) vr833 (Int.toNat vs32))), (NodeT.n (atI (t := .node) vr833 (Int.toNat vs32))), (NodeT.s (atI (t := .node) vr833 (Int.toNat vs32))), (NodeT.keys (atI (t := .node) vr833 (Int.toNat vs32))), (NodeT.kids (atI (t := .node) vr833 (Int.toNat vs32)))⟩ : NodeT) (⟨(RuleT.kind ((keyRule (⟨vb3_0, vb3_1, vb3_2, vb3_3, vb3_4, vb3_5⟩ : RuleT) (atI (t := .str) vr832 (Int.toNat vs32))).1)), (RuleT.keys ((keyRule (⟨vb3_0, vb3_1, vb3_2, vb3_3, vb3_4, vb3_5⟩ : RuleT) (atI (t := .str) vr832 (Int.toNat vs32))).1)), (RuleT.kids ((keyRule (⟨vb3_0, vb3_1, vb3_2, vb3_3, vb3_4, vb3_5⟩ : RuleT) (atI (t := .str) vr832 (Int.toNat vs32))).1)), (RuleT.need ((keyRule (⟨vb3_0, vb3_1, vb3_2, vb3_3, vb3_4, vb3_5⟩ : RuleT) (atI (t := .str) vr832 (Int.toNat vs32))).1)), (RuleT.low ((keyRule (⟨vb3_0, vb3_1, vb3_2, vb3_3, vb3_4, vb3_5⟩ : RuleT) (atI (t := .str) vr832 (Int.toNat vs32))).1)), (RuleT.high ((keyRule (⟨vb3_0, vb3_1, vb3_2, vb3_3, vb3_4, vb3_5⟩ : RuleT) (atI (t := .str) vr832 (Int.toNat vs32))).1))⟩ : RuleT)))⟩ : NodeT)] : List NodeT)))
                    none)
                  none)
                none)
              none)
            (f34L0 N n x0 vs31 vb2_0 vb2_1 vb2_2 vb3_0 vb3_1 vb3_2 vb3_3 vb3_4 vb3_5 vb5_0 vb5_1 vb5_2 vr832 vr833 m (IntKind.wrap .i64 (vs32 + (1 : Int))) vr323 vr324))
          none)
        none)
      (x0 vs32 (decide (vs32 < vs31)) vr323 vr324))
theorem f34L0_b {R : Type} (N : Nat) (n : Nat) (k' : Ex → St → Option R) (vs31 : Int) (vs32 : Int) (vb2_0 : Int) (vb2_1 : Int) (vb2_2 : ByteArray) (vb3_0 : Int) (vb3_1 : List ByteArray) (vb3_2 : List RuleT) (vb3_3 : List Bool) (vb3_4 : Int) (vb3_5 : Int) (vb5_0 : Int) (vb5_1 : Int) (vb5_2 : ByteArray) (vr323 : List ByteArray) (vr324 : List NodeT) (vr832 : List ByteArray) (vr833 : List NodeT) : ev (f34e N) f34k n (cAt [1,1,0,0,1,0,1,0,1,0,0] f34c) ⟨[(2, .c (.one (.pt 2 0))), (3, .c (.one (.pt 3 0))), (4, .c (.one (.pt 4 0))), (5, .c (.one (.pt 5 0))), (30, .c (.one (.h 832 0 0 []))), (31, .c (.one (.v (.int .i64 vs31)))), (32, .c (.one (.v (.int .i64 vs32))))], [(2, ⟨.node, [.v (.int .i64 vb2_0), .v (.int .i64 vb2_1), .v (.string vb2_2), .h 832 0 0 [], .h 833 0 0 []]⟩), (3, ⟨.rule, [.v (.int .i64 vb3_0), .ro .str vb3_1, .ro .rule vb3_2, .ro .bool vb3_3, .v (.int .i64 vb3_4), .v (.int .i64 vb3_5)]⟩), (4, ⟨.node, [.v (.int .i64 (0 : Int)), .v (.int .i64 (0 : Int)), .v (.string ByteArray.empty), .nl, .nl]⟩), (5, ⟨.node, [.v (.int .i64 vb5_0), .v (.int .i64 vb5_1), .v (.string vb5_2), .h 323 0 0 [], .h 324 0 0 []]⟩)], [(323, .live ⟨.str, .deep, 0, [], vr323⟩), (324, .live ⟨.node, .deep, 0, [], vr324⟩), (832, .live ⟨.str, .deep, 0, [], vr832⟩), (833, .live ⟨.node, .deep, 0, [], vr833⟩)]⟩ k' =
    (cond (decide (vs32 < vs31))
    (cond ((decide ((0 : Int) ≤ vs32)) && (decide (vs32 < (vr832.length : Int))))
      (cond (gKR (⟨vb3_0, vb3_1, vb3_2, vb3_3, vb3_4, vb3_5⟩ : RuleT) (atI (t := .str) vr832 (Int.toNat vs32)))
        (cond ((keyRule (⟨vb3_0, vb3_1, vb3_2, vb3_3, vb3_4, vb3_5⟩ : RuleT) (atI (t := .str) vr832 (Int.toNat vs32))).2)
          (cond (Nat.ble (vr323.length + 1) LIM)
            (cond ((decide ((0 : Int) ≤ vs32)) && (decide (vs32 < (vr833.length : Int))))
              (cond ((gPr (⟨(NodeT.kind (atI (t := .node) vr833 (Int.toNat vs32))), (NodeT.n (atI (t := .node) vr833 (Int.toNat vs32))), (NodeT.s (atI (t := .node) vr833 (Int.toNat vs32))), (NodeT.keys (atI (t := .node) vr833 (Int.toNat vs32))), (NodeT.kids (atI (t := .node) vr833 (Int.toNat vs32)))⟩ : NodeT) (⟨(RuleT.kind ((keyRule (⟨vb3_0, vb3_1, vb3_2, vb3_3, vb3_4, vb3_5⟩ : RuleT) (atI (t := .str) vr832 (Int.toNat vs32))).1)), (RuleT.keys ((keyRule (⟨vb3_0, vb3_1, vb3_2, vb3_3, vb3_4, vb3_5⟩ : RuleT) (atI (t := .str) vr832 (Int.toNat vs32))).1)), (RuleT.kids ((keyRule (⟨vb3_0, vb3_1, vb3_2, vb3_3, vb3_4, vb3_5⟩ : RuleT) (atI (t := .str) vr832 (Int.toNat vs32))).1)), (RuleT.need ((keyRule (⟨vb3_0, vb3_1, vb3_2, vb3_3, vb3_4, vb3_5⟩ : RuleT) (atI (t := .str) vr832 (Int.toNat vs32))).1)), (RuleT.low ((keyRule (⟨vb3_0, vb3_1, vb3_2, vb3_3, vb3_4, vb3_5⟩ : RuleT) (atI (t := .str) vr832 (Int.toNat vs32))).1)), (RuleT.high ((keyRule (⟨vb3_0, vb3_1, vb3_2, vb3_3, vb3_4, vb3_5⟩ : RuleT) (atI (t := .str) vr832 (Int.toNat vs32))).1))⟩ : RuleT)) && (Nat.blt ((fun (t : NodeT) (_ : RuleT) => nd_node t) (⟨(NodeT.kind (atI (t := .node) vr833 (Int.toNat vs32))), (NodeT.n (atI (t := .node) vr833 (Int.toNat vs32))), (NodeT.s (atI (t := .node) vr833 (Int.toNat vs32))), (NodeT.keys (atI (t := .node) vr833 (Int.toNat vs32))), (NodeT.kids (atI (t := .node) vr833 (Int.toNat vs32)))⟩ : NodeT) (⟨(RuleT.kind ((keyRule (⟨vb3_0, vb3_1, vb3_2, vb3_3, vb3_4, vb3_5⟩ : RuleT) (atI (t := .str) vr832 (Int.toNat vs32))).1)), (RuleT.keys ((keyRule (⟨vb3_0, vb3_1, vb3_2, vb3_3, vb3_4, vb3_5⟩ : RuleT) (atI (t := .str) vr832 (Int.toNat vs32))).1)), (RuleT.kids ((keyRule (⟨vb3_0, vb3_1, vb3_2, vb3_3, vb3_4, vb3_5⟩ : RuleT) (atI (t := .str) vr832 (Int.toNat vs32))).1)), (RuleT.need ((keyRule (⟨vb3_0, vb3_1, vb3_2, vb3_3, vb3_4, vb3_5⟩ : RuleT) (atI (t := .str) vr832 (Int.toNat vs32))).1)), (RuleT.low ((keyRule (⟨vb3_0, vb3_1, vb3_2, vb3_3, vb3_4, vb3_5⟩ : RuleT) (atI (t := .str) vr832 (Int.toNat vs32))).1)), (RuleT.high ((keyRule (⟨vb3_0, vb3_1, vb3_2, vb3_3, vb3_4, vb3_5⟩ : RuleT) (atI (t := .str) vr832 (Int.toNat vs32))).1))⟩ : RuleT)) N))
                (cond (Nat.ble (vr324.length + 1) LIM)
                  (k' .normal ⟨[(2, .c (.one (.pt 2 0))), (3, .c (.one (.pt 3 0))), (4, .c (.one (.pt 4 0))), (5, .c (.one (.pt 5 0))), (30, .c (.one (.h 832 0 0 []))), (31, .c (.one (.v (.int .i64 vs31)))), (32, .c (.one (.v (.int .i64 (IntKind.wrap .i64 (vs32 + (1 : Int)))))))], [(2, ⟨.node, [.v (.int .i64 vb2_0), .v (.int .i64 vb2_1), .v (.string vb2_2), .h 832 0 0 [], .h 833 0 0 []]⟩), (3, ⟨.rule, [.v (.int .i64 vb3_0), .ro .str vb3_1, .ro .rule vb3_2, .ro .bool vb3_3, .v (.int .i64 vb3_4), .v (.int .i64 vb3_5)]⟩), (4, ⟨.node, [.v (.int .i64 (0 : Int)), .v (.int .i64 (0 : Int)), .v (.string ByteArray.empty), .nl, .nl]⟩), (5, ⟨.node, [.v (.int .i64 vb5_0), .v (.int .i64 vb5_1), .v (.string vb5_2), .h 323 0 0 [], .h 324 0 0 []]⟩)], [(323, .live ⟨.str, .deep, 0, [], (vr323 ++ ([(atI (t := .str) vr832 (Int.toNat vs32))] : List ByteArray))⟩), (324, .live ⟨.node, .deep, 0, [], (vr324 ++ ([(⟨(NodeT.kind (prune (⟨(NodeT.kind (atI (t := .node) vr833 (Int.toNat vs32))), (NodeT.n (atI (t := .node) vr833 (Int.toNat vs32))), (NodeT.s (atI (t := .node) vr833 (Int.toNat vs32))), (NodeT.keys (atI (t := .node) vr833 (Int.toNat vs32))), (NodeT.kids (atI (t := .node) vr833 (Int.toNat vs32)))⟩ : NodeT) (⟨(RuleT.kind ((keyRule (⟨vb3_0, vb3_1, vb3_2, vb3_3, vb3_4, vb3_5⟩ : RuleT) (atI (t := .str) vr832 (Int.toNat vs32))).1)), (RuleT.keys ((keyRule (⟨vb3_0, vb3_1, vb3_2, vb3_3, vb3_4, vb3_5⟩ : RuleT) (atI (t := .str) vr832 (Int.toNat vs32))).1)), (RuleT.kids ((keyRule (⟨vb3_0, vb3_1, vb3_2, vb3_3, vb3_4, vb3_5⟩ : RuleT) (atI (t := .str) vr832 (Int.toNat vs32))).1)), (RuleT.need ((keyRule (⟨vb3_0, vb3_1, vb3_2, vb3_3, vb3_4, vb3_5⟩ : RuleT) (atI (t := .str) vr832 (Int.toNat vs32))).1)), (RuleT.low ((keyRule (⟨vb3_0, vb3_1, vb3_2, vb3_3, vb3_4, vb3_5⟩ : RuleT) (atI (t := .str) vr832 (Int.toNat vs32))).1)), (RuleT.high ((keyRule (⟨vb3_0, vb3_1, vb3_2, vb3_3, vb3_4, vb3_5⟩ : RuleT) (atI (t := .str) vr832 (Int.toNat vs32))).1))⟩ : RuleT))), (NodeT.n (prune (⟨(NodeT.kind (atI (t := .node) vr833 (Int.toNat vs32))), (NodeT.n (atI (t := .node) vr833 (Int.toNat vs32))), (NodeT.s (atI (t := .node) vr833 (Int.toNat vs32))), (NodeT.keys (atI (t := .node) vr833 (Int.toNat vs32))), (NodeT.kids (atI (t := .node) vr833 (Int.toNat vs32)))⟩ : NodeT) (⟨(RuleT.kind ((keyRule (⟨vb3_0, vb3_1, vb3_2, vb3_3, vb3_4, vb3_5⟩ : RuleT) (atI (t := .str) vr832 (Int.toNat vs32))).1)), (RuleT.keys ((keyRule (⟨vb3_0, vb3_1, vb3_2, vb3_3, vb3_4, vb3_5⟩ : RuleT) (atI (t := .str) vr832 (Int.toNat vs32))).1)), (RuleT.kids ((keyRule (⟨vb3_0, vb3_1, vb3_2, vb3_3, vb3_4, vb3_5⟩ : RuleT) (atI (t := .str) vr832 (Int.toNat vs32))).1)), (RuleT.need ((keyRule (⟨vb3_0, vb3_1, vb3_2, vb3_3, vb3_4, vb3_5⟩ : RuleT) (atI (t := .str) vr832 (Int.toNat vs32))).1)), (RuleT.low ((keyRule (⟨vb3_0, vb3_1, vb3_2, vb3_3, vb3_4, vb3_5⟩ : RuleT) (atI (t := .str) vr832 (Int.toNat vs32))).1)), (RuleT.high ((keyRule (⟨vb3_0, vb3_1, vb3_2, vb3_3, vb3_4, vb3_5⟩ : RuleT) (atI (t := .str) vr832 (Int.toNat vs32))).1))⟩ : RuleT))), (NodeT.s (prune (⟨(NodeT.kind (atI (t := .node) vr833 (Int.toNat vs32))), (NodeT.n (atI (t := .node) vr833 (Int.toNat vs32))), (NodeT.s (atI (t := .node) vr833 (Int.toNat vs32))), (NodeT.keys (atI (t := .node) vr833 (Int.toNat vs32))), (NodeT.kids (atI (t := .node) vr833 (Int.toNat vs32)))⟩ : NodeT) (⟨(RuleT.kind ((keyRule (⟨vb3_0, vb3_1, vb3_2, vb3_3, vb3_4, vb3_5⟩ : RuleT) (atI (t := .str) vr832 (Int.toNat vs32))).1)), (RuleT.keys ((keyRule (⟨vb3_0, vb3_1, vb3_2, vb3_3, vb3_4, vb3_5⟩ : RuleT) (atI (t := .str) vr832 (Int.toNat vs32))).1)), (RuleT.kids ((keyRule (⟨vb3_0, vb3_1, vb3_2, vb3_3, vb3_4, vb3_5⟩ : RuleT) (atI (t := .str) vr832 (Int.toNat vs32))).1)), (RuleT.need ((keyRule (⟨vb3_0, vb3_1, vb3_2, vb3_3, vb3_4, vb3_5⟩ : RuleT) (atI (t := .str) vr832 (Int.toNat vs32))).1)), (RuleT.low ((keyRule (⟨vb3_0, vb3_1, vb3_2, vb3_3, vb3_4, vb3_5⟩ : RuleT) (atI (t := .str) vr832 (Int.toNat vs32))).1)), (RuleT.high ((keyRule (⟨vb3_0, vb3_1, vb3_2, vb3_3, vb3_4, vb3_5⟩ : RuleT) (atI (t := .str) vr832 (Int.toNat vs32))).1))⟩ : RuleT))), (NodeT.keys (prune (⟨(NodeT.kind (atI (t := .node) vr833 (Int.toNat vs32))), (NodeT.n (atI (t := .node) vr833 (Int.toNat vs32))), (NodeT.s (atI (t := .node) vr833 (Int.toNat vs32))), (NodeT.keys (atI (t := .node) vr833 (Int.toNat vs32))), (NodeT.kids (atI (t := .node) vr833 (Int.toNat vs32)))⟩ : NodeT) (⟨(RuleT.kind ((keyRule (⟨vb3_0, vb3_1, vb3_2, vb3_3, vb3_4, vb3_5⟩ : RuleT) (atI (t := .str) vr832 (Int.toNat vs32))).1)), (RuleT.keys ((keyRule (⟨vb3_0, vb3_1, vb3_2, vb3_3, vb3_4, vb3_5⟩ : RuleT) (atI (t := .str) vr832 (Int.toNat vs32))).1)), (RuleT.kids ((keyRule (⟨vb3_0, vb3_1, vb3_2, vb3_3, vb3_4, vb3_5⟩ : RuleT) (atI (t := .str) vr832 (Int.toNat vs32))).1)), (RuleT.need ((keyRule (⟨vb3_0, vb3_1, vb3_2, vb3_3, vb3_4, vb3_5⟩ : RuleT) (atI (t := .str) vr832 (Int.toNat vs32))).1)), (RuleT.low ((keyRule (⟨vb3_0, vb3_1, vb3_2, vb3_3, vb3_4, vb3_5⟩ : RuleT) (atI (t := .str) vr832 (Int.toNat vs32))).1)), (RuleT.high ((keyRule (⟨vb3_0, vb3_1, vb3_2, vb3_3, vb3_4, vb3_5⟩ : RuleT) (atI (t := .str) vr832 (Int.toNat vs32))).1))⟩ : RuleT))), (NodeT.kids (prune (⟨(NodeT.kind (atI (t := .node) vr833 (Int.toNat vs32))), (NodeT.n (atI (t := .node) vr833 (Int.toNat vs32))), (NodeT.s (atI (t := .node) vr833 (Int.toNat vs32))), (NodeT.keys (atI (t := .node) vr833 (Int.toNat vs32))), (NodeT.kids (atI (t := .node) vr833 (Int.toNat vs32)))⟩ : NodeT) (⟨(RuleT.kind ((keyRule (⟨vb3_0, vb3_1, vb3_2, vb3_3, vb3_4, vb3_5⟩ : RuleT) (atI (t := .str) vr832 (Int.toNat vs32))).1)), (RuleT.keys ((keyRule (⟨vb3_0, vb3_1, vb3_2, vb3_3, vb3_4, vb3_5⟩ : RuleT) (atI (t := .str) vr832 (Int.toNat vs32))).1)), (RuleT.kids ((keyRule (⟨vb3_0, vb3_1, vb3_2, vb3_3, vb3_4, vb3_5⟩ : RuleT) (atI (t := .str) vr832 (Int.toNat vs32))).1)), (RuleT.need ((keyRule (⟨vb3_0, vb3_1, vb3_2, vb3_3, vb3_4, vb3_5⟩ : RuleT) (atI (t := .str) vr832 (Int.toNat vs32))).1)), (RuleT.low ((keyRule (⟨vb3_0, vb3_1, vb3_2, vb3_3, vb3_4, vb3_5⟩ : RuleT) (atI (t := .str) vr832 (Int.toNat vs32))).1)), (RuleT.high ((keyRule (⟨vb3_0, vb3_1, vb3_2, vb3_3, vb3_4, vb3_5⟩ : RuleT) (atI (t := .str) vr832 (Int.toNat vs32))).1))⟩ : RuleT)))⟩ : NodeT)] : List NodeT))⟩), (832, .live ⟨.str, .deep, 0, [], vr832⟩), (833, .live ⟨.node, .deep, 0, [], vr833⟩)]⟩)
                  none)
                none)
              none)
            none)
          (k' .normal ⟨[(2, .c (.one (.pt 2 0))), (3, .c (.one (.pt 3 0))), (4, .c (.one (.pt 4 0))), (5, .c (.one (.pt 5 0))), (30, .c (.one (.h 832 0 0 []))), (31, .c (.one (.v (.int .i64 vs31)))), (32, .c (.one (.v (.int .i64 (IntKind.wrap .i64 (vs32 + (1 : Int)))))))], [(2, ⟨.node, [.v (.int .i64 vb2_0), .v (.int .i64 vb2_1), .v (.string vb2_2), .h 832 0 0 [], .h 833 0 0 []]⟩), (3, ⟨.rule, [.v (.int .i64 vb3_0), .ro .str vb3_1, .ro .rule vb3_2, .ro .bool vb3_3, .v (.int .i64 vb3_4), .v (.int .i64 vb3_5)]⟩), (4, ⟨.node, [.v (.int .i64 (0 : Int)), .v (.int .i64 (0 : Int)), .v (.string ByteArray.empty), .nl, .nl]⟩), (5, ⟨.node, [.v (.int .i64 vb5_0), .v (.int .i64 vb5_1), .v (.string vb5_2), .h 323 0 0 [], .h 324 0 0 []]⟩)], [(323, .live ⟨.str, .deep, 0, [], vr323⟩), (324, .live ⟨.node, .deep, 0, [], vr324⟩), (832, .live ⟨.str, .deep, 0, [], vr832⟩), (833, .live ⟨.node, .deep, 0, [], vr833⟩)]⟩))
        none)
      none)
    (k' (.exit 1) ⟨[(2, .c (.one (.pt 2 0))), (3, .c (.one (.pt 3 0))), (4, .c (.one (.pt 4 0))), (5, .c (.one (.pt 5 0))), (30, .c (.one (.h 832 0 0 []))), (31, .c (.one (.v (.int .i64 vs31)))), (32, .c (.one (.v (.int .i64 vs32)))), (33, .c (.one (.v (.bool (decide (vs32 < vs31))))))], [(2, ⟨.node, [.v (.int .i64 vb2_0), .v (.int .i64 vb2_1), .v (.string vb2_2), .h 832 0 0 [], .h 833 0 0 []]⟩), (3, ⟨.rule, [.v (.int .i64 vb3_0), .ro .str vb3_1, .ro .rule vb3_2, .ro .bool vb3_3, .v (.int .i64 vb3_4), .v (.int .i64 vb3_5)]⟩), (4, ⟨.node, [.v (.int .i64 (0 : Int)), .v (.int .i64 (0 : Int)), .v (.string ByteArray.empty), .nl, .nl]⟩), (5, ⟨.node, [.v (.int .i64 vb5_0), .v (.int .i64 vb5_1), .v (.string vb5_2), .h 323 0 0 [], .h 324 0 0 []]⟩)], [(323, .live ⟨.str, .deep, 0, [], vr323⟩), (324, .live ⟨.node, .deep, 0, [], vr324⟩), (832, .live ⟨.str, .deep, 0, [], vr832⟩), (833, .live ⟨.node, .deep, 0, [], vr833⟩)]⟩)) := by kernel_rfl
theorem f34L0_eq {R : Type} (N : Nat) (n : Nat) (k' : Ex → St → Option R) (vs31 : Int) (vb2_0 : Int) (vb2_1 : Int) (vb2_2 : ByteArray) (vb3_0 : Int) (vb3_1 : List ByteArray) (vb3_2 : List RuleT) (vb3_3 : List Bool) (vb3_4 : Int) (vb3_5 : Int) (vb5_0 : Int) (vb5_1 : Int) (vb5_2 : ByteArray) (vr832 : List ByteArray) (vr833 : List NodeT) : ∀ (m : Nat) (vs32 : Int) (vr323 : List ByteArray) (vr324 : List NodeT), iter (fun st k => ev (f34e N) f34k n (cAt [1,1,0,0,1,0,1,0,1,0,0] f34c) st k) m ⟨[(2, .c (.one (.pt 2 0))), (3, .c (.one (.pt 3 0))), (4, .c (.one (.pt 4 0))), (5, .c (.one (.pt 5 0))), (30, .c (.one (.h 832 0 0 []))), (31, .c (.one (.v (.int .i64 vs31)))), (32, .c (.one (.v (.int .i64 vs32))))], [(2, ⟨.node, [.v (.int .i64 vb2_0), .v (.int .i64 vb2_1), .v (.string vb2_2), .h 832 0 0 [], .h 833 0 0 []]⟩), (3, ⟨.rule, [.v (.int .i64 vb3_0), .ro .str vb3_1, .ro .rule vb3_2, .ro .bool vb3_3, .v (.int .i64 vb3_4), .v (.int .i64 vb3_5)]⟩), (4, ⟨.node, [.v (.int .i64 (0 : Int)), .v (.int .i64 (0 : Int)), .v (.string ByteArray.empty), .nl, .nl]⟩), (5, ⟨.node, [.v (.int .i64 vb5_0), .v (.int .i64 vb5_1), .v (.string vb5_2), .h 323 0 0 [], .h 324 0 0 []]⟩)], [(323, .live ⟨.str, .deep, 0, [], vr323⟩), (324, .live ⟨.node, .deep, 0, [], vr324⟩), (832, .live ⟨.str, .deep, 0, [], vr832⟩), (833, .live ⟨.node, .deep, 0, [], vr833⟩)]⟩ k' = f34L0 N n (fun (xvs32 : Int) (xvs33 : Bool) (xvr323 : List ByteArray) (xvr324 : List NodeT) => k' (.exit 1) ⟨[(2, .c (.one (.pt 2 0))), (3, .c (.one (.pt 3 0))), (4, .c (.one (.pt 4 0))), (5, .c (.one (.pt 5 0))), (30, .c (.one (.h 832 0 0 []))), (31, .c (.one (.v (.int .i64 vs31)))), (32, .c (.one (.v (.int .i64 xvs32)))), (33, .c (.one (.v (.bool xvs33))))], [(2, ⟨.node, [.v (.int .i64 vb2_0), .v (.int .i64 vb2_1), .v (.string vb2_2), .h 832 0 0 [], .h 833 0 0 []]⟩), (3, ⟨.rule, [.v (.int .i64 vb3_0), .ro .str vb3_1, .ro .rule vb3_2, .ro .bool vb3_3, .v (.int .i64 vb3_4), .v (.int .i64 vb3_5)]⟩), (4, ⟨.node, [.v (.int .i64 (0 : Int)), .v (.int .i64 (0 : Int)), .v (.string ByteArray.empty), .nl, .nl]⟩), (5, ⟨.node, [.v (.int .i64 vb5_0), .v (.int .i64 vb5_1), .v (.string vb5_2), .h 323 0 0 [], .h 324 0 0 []]⟩)], [(323, .live ⟨.str, .deep, 0, [], xvr323⟩), (324, .live ⟨.node, .deep, 0, [], xvr324⟩), (832, .live ⟨.str, .deep, 0, [], vr832⟩), (833, .live ⟨.node, .deep, 0, [], vr833⟩)]⟩) vs31 vb2_0 vb2_1 vb2_2 vb3_0 vb3_1 vb3_2 vb3_3 vb3_4 vb3_5 vb5_0 vb5_1 vb5_2 vr832 vr833 m vs32 vr323 vr324 := by
  intro m; induction m with
  | zero => intros; rfl
  | succ m ih =>
    intro vs32 vr323 vr324
    simp only [iter]
    rw [f34L0_b]
    simp only [ih, f34L0]

noncomputable def f34K0 {R : Type} (N : Nat) (n : Nat) (k' : Ex → St → Option R) : Ex → St → Option R := (blockK 1 (seqK (f34e N) f34k n (cAt [1,1,0,0,1,0,1,1] f34c) (blockK 0 (seqK (f34e N) f34k n (cAt [1,1,1] f34c) k'))))
theorem f34K0_x0 {R : Type} (N : Nat) (n : Nat) (k : List Dt → Option R) (a0 : NodeT) (a1 : RuleT) (vs31 : Int) (vb2_0 : Int) (vb2_1 : Int) (vb2_2 : ByteArray) (vb3_0 : Int) (vb3_1 : List ByteArray) (vb3_2 : List RuleT) (vb3_3 : List Bool) (vb3_4 : Int) (vb3_5 : Int) (vb5_0 : Int) (vb5_1 : Int) (vb5_2 : ByteArray) (vr832 : List ByteArray) (vr833 : List NodeT) (xvs32 : Int) (xvs33 : Bool) (xvr323 : List ByteArray) (xvr324 : List NodeT) : f34K0 N n (exitK (f34e N) [.ro, .ro] [false] true [.cell 4 41] [41] [.d .node a0, .d .rule a1] k) (.exit 1) ⟨[(2, .c (.one (.pt 2 0))), (3, .c (.one (.pt 3 0))), (4, .c (.one (.pt 4 0))), (5, .c (.one (.pt 5 0))), (30, .c (.one (.h 832 0 0 []))), (31, .c (.one (.v (.int .i64 vs31)))), (32, .c (.one (.v (.int .i64 xvs32)))), (33, .c (.one (.v (.bool xvs33))))], [(2, ⟨.node, [.v (.int .i64 vb2_0), .v (.int .i64 vb2_1), .v (.string vb2_2), .h 832 0 0 [], .h 833 0 0 []]⟩), (3, ⟨.rule, [.v (.int .i64 vb3_0), .ro .str vb3_1, .ro .rule vb3_2, .ro .bool vb3_3, .v (.int .i64 vb3_4), .v (.int .i64 vb3_5)]⟩), (4, ⟨.node, [.v (.int .i64 (0 : Int)), .v (.int .i64 (0 : Int)), .v (.string ByteArray.empty), .nl, .nl]⟩), (5, ⟨.node, [.v (.int .i64 vb5_0), .v (.int .i64 vb5_1), .v (.string vb5_2), .h 323 0 0 [], .h 324 0 0 []]⟩)], [(323, .live ⟨.str, .deep, 0, [], xvr323⟩), (324, .live ⟨.node, .deep, 0, [], xvr324⟩), (832, .live ⟨.str, .deep, 0, [], vr832⟩), (833, .live ⟨.node, .deep, 0, [], vr833⟩)]⟩ =
    (k [.d .node (⟨vb5_0, vb5_1, vb5_2, xvr323, xvr324⟩ : NodeT)]) := by kernel_rfl

noncomputable def f34v0 (vr833 : List NodeT) (vs76 : Int) (vb3_2 : List RuleT) : List NodeT :=
  (vr833.set (Int.toNat vs76) (⟨(NodeT.kind (prune (⟨(NodeT.kind (atI (t := .node) vr833 (Int.toNat vs76))), (NodeT.n (atI (t := .node) vr833 (Int.toNat vs76))), (NodeT.s (atI (t := .node) vr833 (Int.toNat vs76))), (NodeT.keys (atI (t := .node) vr833 (Int.toNat vs76))), (NodeT.kids (atI (t := .node) vr833 (Int.toNat vs76)))⟩ : NodeT) (⟨(RuleT.kind (atI (t := .rule) vb3_2 0)), (RuleT.keys (atI (t := .rule) vb3_2 0)), (RuleT.kids (atI (t := .rule) vb3_2 0)), (RuleT.need (atI (t := .rule) vb3_2 0)), (RuleT.low (atI (t := .rule) vb3_2 0)), (RuleT.high (atI (t := .rule) vb3_2 0))⟩ : RuleT))), (NodeT.n (prune (⟨(NodeT.kind (atI (t := .node) vr833 (Int.toNat vs76))), (NodeT.n (atI (t := .node) vr833 (Int.toNat vs76))), (NodeT.s (atI (t := .node) vr833 (Int.toNat vs76))), (NodeT.keys (atI (t := .node) vr833 (Int.toNat vs76))), (NodeT.kids (atI (t := .node) vr833 (Int.toNat vs76)))⟩ : NodeT) (⟨(RuleT.kind (atI (t := .rule) vb3_2 0)), (RuleT.keys (atI (t := .rule) vb3_2 0)), (RuleT.kids (atI (t := .rule) vb3_2 0)), (RuleT.need (atI (t := .rule) vb3_2 0)), (RuleT.low (atI (t := .rule) vb3_2 0)), (RuleT.high (atI (t := .rule) vb3_2 0))⟩ : RuleT))), (NodeT.s (prune (⟨(NodeT.kind (atI (t := .node) vr833 (Int.toNat vs76))), (NodeT.n (atI (t := .node) vr833 (Int.toNat vs76))), (NodeT.s (atI (t := .node) vr833 (Int.toNat vs76))), (NodeT.keys (atI (t := .node) vr833 (Int.toNat vs76))), (NodeT.kids (atI (t := .node) vr833 (Int.toNat vs76)))⟩ : NodeT) (⟨(RuleT.kind (atI (t := .rule) vb3_2 0)), (RuleT.keys (atI (t := .rule) vb3_2 0)), (RuleT.kids (atI (t := .rule) vb3_2 0)), (RuleT.need (atI (t := .rule) vb3_2 0)), (RuleT.low (atI (t := .rule) vb3_2 0)), (RuleT.high (atI (t := .rule) vb3_2 0))⟩ : RuleT))), (NodeT.keys (prune (⟨(NodeT.kind (atI (t := .node) vr833 (Int.toNat vs76))), (NodeT.n (atI (t := .node) vr833 (Int.toNat vs76))), (NodeT.s (atI (t := .node) vr833 (Int.toNat vs76))), (NodeT.keys (atI (t := .node) vr833 (Int.toNat vs76))), (NodeT.kids (atI (t := .node) vr833 (Int.toNat vs76)))⟩ : NodeT) (⟨(RuleT.kind (atI (t := .rule) vb3_2 0)), (RuleT.keys (atI (t := .rule) vb3_2 0)), (RuleT.kids (atI (t := .rule) vb3_2 0)), (RuleT.need (atI (t := .rule) vb3_2 0)), (RuleT.low (atI (t := .rule) vb3_2 0)), (RuleT.high (atI (t := .rule) vb3_2 0))⟩ : RuleT))), (NodeT.kids (prune (⟨(NodeT.kind (atI (t := .node) vr833 (Int.toNat vs76))), (NodeT.n (atI (t := .node) vr833 (Int.toNat vs76))), (NodeT.s (atI (t := .node) vr833 (Int.toNat vs76))), (NodeT.keys (atI (t := .node) vr833 (Int.toNat vs76))), (NodeT.kids (atI (t := .node) vr833 (Int.toNat vs76)))⟩ : NodeT) (⟨(RuleT.kind (atI (t := .rule) vb3_2 0)), (RuleT.keys (atI (t := .rule) vb3_2 0)), (RuleT.kids (atI (t := .rule) vb3_2 0)), (RuleT.need (atI (t := .rule) vb3_2 0)), (RuleT.low (atI (t := .rule) vb3_2 0)), (RuleT.high (atI (t := .rule) vb3_2 0))⟩ : RuleT)))⟩ : NodeT))
noncomputable def f34L1 {R : Type} (N : Nat) (n : Nat) (x0 : Int → Bool → (List NodeT) → Option R) (vs75 : Int) (vb2_0 : Int) (vb2_1 : Int) (vb2_2 : ByteArray) (vb3_0 : Int) (vb3_1 : List ByteArray) (vb3_2 : List RuleT) (vb3_3 : List Bool) (vb3_4 : Int) (vb3_5 : Int) (vr832 : List ByteArray) : Nat → Int → (List NodeT) → Option R
  | 0, _, _ => none
  | m + 1, vs76, vr833 =>
    (cond (decide (vs76 < vs75))
      (cond ((decide ((0 : Int) ≤ vs76)) && (decide (vs76 < (vr833.length : Int))))
        (cond (decide ((0 : Int) < (vb3_2.length : Int)))
          (cond ((gPr (⟨(NodeT.kind (atI (t := .node) vr833 (Int.toNat vs76))), (NodeT.n (atI (t := .node) vr833 (Int.toNat vs76))), (NodeT.s (atI (t := .node) vr833 (Int.toNat vs76))), (NodeT.keys (atI (t := .node) vr833 (Int.toNat vs76))), (NodeT.kids (atI (t := .node) vr833 (Int.toNat vs76)))⟩ : NodeT) (⟨(RuleT.kind (atI (t := .rule) vb3_2 0)), (RuleT.keys (atI (t := .rule) vb3_2 0)), (RuleT.kids (atI (t := .rule) vb3_2 0)), (RuleT.need (atI (t := .rule) vb3_2 0)), (RuleT.low (atI (t := .rule) vb3_2 0)), (RuleT.high (atI (t := .rule) vb3_2 0))⟩ : RuleT)) && (Nat.blt ((fun (t : NodeT) (_ : RuleT) => nd_node t) (⟨(NodeT.kind (atI (t := .node) vr833 (Int.toNat vs76))), (NodeT.n (atI (t := .node) vr833 (Int.toNat vs76))), (NodeT.s (atI (t := .node) vr833 (Int.toNat vs76))), (NodeT.keys (atI (t := .node) vr833 (Int.toNat vs76))), (NodeT.kids (atI (t := .node) vr833 (Int.toNat vs76)))⟩ : NodeT) (⟨(RuleT.kind (atI (t := .rule) vb3_2 0)), (RuleT.keys (atI (t := .rule) vb3_2 0)), (RuleT.kids (atI (t := .rule) vb3_2 0)), (RuleT.need (atI (t := .rule) vb3_2 0)), (RuleT.low (atI (t := .rule) vb3_2 0)), (RuleT.high (atI (t := .rule) vb3_2 0))⟩ : RuleT)) N))
            (cond ((decide ((0 : Int) ≤ vs76)) && (decide (vs76 < (vr833.length : Int))))
              (f34L1 N n x0 vs75 vb2_0 vb2_1 vb2_2 vb3_0 vb3_1 vb3_2 vb3_3 vb3_4 vb3_5 vr832 m (IntKind.wrap .i64 (vs76 + (1 : Int))) (f34v0 vr833 vs76 vb3_2))
              none)
            none)
          none)
        none)
      (x0 vs76 (decide (vs76 < vs75)) vr833))
theorem f34L1_b {R : Type} (N : Nat) (n : Nat) (k' : Ex → St → Option R) (vs75 : Int) (vs76 : Int) (vb2_0 : Int) (vb2_1 : Int) (vb2_2 : ByteArray) (vb3_0 : Int) (vb3_1 : List ByteArray) (vb3_2 : List RuleT) (vb3_3 : List Bool) (vb3_4 : Int) (vb3_5 : Int) (vr832 : List ByteArray) (vr833 : List NodeT) : ev (f34e N) f34k n (cAt [1,1,0,0,1,1,1,0,1,0,0] f34c) ⟨[(2, .c (.one (.pt 2 0))), (3, .c (.one (.pt 3 0))), (4, .c (.one (.pt 4 0))), (74, .c (.one (.h 833 0 0 []))), (75, .c (.one (.v (.int .i64 vs75)))), (76, .c (.one (.v (.int .i64 vs76))))], [(2, ⟨.node, [.v (.int .i64 vb2_0), .v (.int .i64 vb2_1), .v (.string vb2_2), .h 832 0 0 [], .h 833 0 0 []]⟩), (3, ⟨.rule, [.v (.int .i64 vb3_0), .ro .str vb3_1, .ro .rule vb3_2, .ro .bool vb3_3, .v (.int .i64 vb3_4), .v (.int .i64 vb3_5)]⟩), (4, ⟨.node, [.v (.int .i64 (0 : Int)), .v (.int .i64 (0 : Int)), .v (.string ByteArray.empty), .nl, .nl]⟩)], [(832, .live ⟨.str, .deep, 0, [], vr832⟩), (833, .live ⟨.node, .deep, 0, [], vr833⟩)]⟩ k' =
    (cond (decide (vs76 < vs75))
    (cond ((decide ((0 : Int) ≤ vs76)) && (decide (vs76 < (vr833.length : Int))))
      (cond (decide ((0 : Int) < (vb3_2.length : Int)))
        (cond ((gPr (⟨(NodeT.kind (atI (t := .node) vr833 (Int.toNat vs76))), (NodeT.n (atI (t := .node) vr833 (Int.toNat vs76))), (NodeT.s (atI (t := .node) vr833 (Int.toNat vs76))), (NodeT.keys (atI (t := .node) vr833 (Int.toNat vs76))), (NodeT.kids (atI (t := .node) vr833 (Int.toNat vs76)))⟩ : NodeT) (⟨(RuleT.kind (atI (t := .rule) vb3_2 0)), (RuleT.keys (atI (t := .rule) vb3_2 0)), (RuleT.kids (atI (t := .rule) vb3_2 0)), (RuleT.need (atI (t := .rule) vb3_2 0)), (RuleT.low (atI (t := .rule) vb3_2 0)), (RuleT.high (atI (t := .rule) vb3_2 0))⟩ : RuleT)) && (Nat.blt ((fun (t : NodeT) (_ : RuleT) => nd_node t) (⟨(NodeT.kind (atI (t := .node) vr833 (Int.toNat vs76))), (NodeT.n (atI (t := .node) vr833 (Int.toNat vs76))), (NodeT.s (atI (t := .node) vr833 (Int.toNat vs76))), (NodeT.keys (atI (t := .node) vr833 (Int.toNat vs76))), (NodeT.kids (atI (t := .node) vr833 (Int.toNat vs76)))⟩ : NodeT) (⟨(RuleT.kind (atI (t := .rule) vb3_2 0)), (RuleT.keys (atI (t := .rule) vb3_2 0)), (RuleT.kids (atI (t := .rule) vb3_2 0)), (RuleT.need (atI (t := .rule) vb3_2 0)), (RuleT.low (atI (t := .rule) vb3_2 0)), (RuleT.high (atI (t := .rule) vb3_2 0))⟩ : RuleT)) N))
          (cond ((decide ((0 : Int) ≤ vs76)) && (decide (vs76 < (vr833.length : Int))))
            (k' .normal ⟨[(2, .c (.one (.pt 2 0))), (3, .c (.one (.pt 3 0))), (4, .c (.one (.pt 4 0))), (74, .c (.one (.h 833 0 0 []))), (75, .c (.one (.v (.int .i64 vs75)))), (76, .c (.one (.v (.int .i64 (IntKind.wrap .i64 (vs76 + (1 : Int)))))))], [(2, ⟨.node, [.v (.int .i64 vb2_0), .v (.int .i64 vb2_1), .v (.string vb2_2), .h 832 0 0 [], .h 833 0 0 []]⟩), (3, ⟨.rule, [.v (.int .i64 vb3_0), .ro .str vb3_1, .ro .rule vb3_2, .ro .bool vb3_3, .v (.int .i64 vb3_4), .v (.int .i64 vb3_5)]⟩), (4, ⟨.node, [.v (.int .i64 (0 : Int)), .v (.int .i64 (0 : Int)), .v (.string ByteArray.empty), .nl, .nl]⟩)], [(832, .live ⟨.str, .deep, 0, [], vr832⟩), (833, .live ⟨.node, .deep, 0, [], (f34v0 vr833 vs76 vb3_2)⟩)]⟩)
            none)
          none)
        none)
      none)
    (k' (.exit 3) ⟨[(2, .c (.one (.pt 2 0))), (3, .c (.one (.pt 3 0))), (4, .c (.one (.pt 4 0))), (74, .c (.one (.h 833 0 0 []))), (75, .c (.one (.v (.int .i64 vs75)))), (76, .c (.one (.v (.int .i64 vs76)))), (77, .c (.one (.v (.bool (decide (vs76 < vs75))))))], [(2, ⟨.node, [.v (.int .i64 vb2_0), .v (.int .i64 vb2_1), .v (.string vb2_2), .h 832 0 0 [], .h 833 0 0 []]⟩), (3, ⟨.rule, [.v (.int .i64 vb3_0), .ro .str vb3_1, .ro .rule vb3_2, .ro .bool vb3_3, .v (.int .i64 vb3_4), .v (.int .i64 vb3_5)]⟩), (4, ⟨.node, [.v (.int .i64 (0 : Int)), .v (.int .i64 (0 : Int)), .v (.string ByteArray.empty), .nl, .nl]⟩)], [(832, .live ⟨.str, .deep, 0, [], vr832⟩), (833, .live ⟨.node, .deep, 0, [], vr833⟩)]⟩)) := by kernel_rfl
theorem f34L1_eq {R : Type} (N : Nat) (n : Nat) (k' : Ex → St → Option R) (vs75 : Int) (vb2_0 : Int) (vb2_1 : Int) (vb2_2 : ByteArray) (vb3_0 : Int) (vb3_1 : List ByteArray) (vb3_2 : List RuleT) (vb3_3 : List Bool) (vb3_4 : Int) (vb3_5 : Int) (vr832 : List ByteArray) : ∀ (m : Nat) (vs76 : Int) (vr833 : List NodeT), iter (fun st k => ev (f34e N) f34k n (cAt [1,1,0,0,1,1,1,0,1,0,0] f34c) st k) m ⟨[(2, .c (.one (.pt 2 0))), (3, .c (.one (.pt 3 0))), (4, .c (.one (.pt 4 0))), (74, .c (.one (.h 833 0 0 []))), (75, .c (.one (.v (.int .i64 vs75)))), (76, .c (.one (.v (.int .i64 vs76))))], [(2, ⟨.node, [.v (.int .i64 vb2_0), .v (.int .i64 vb2_1), .v (.string vb2_2), .h 832 0 0 [], .h 833 0 0 []]⟩), (3, ⟨.rule, [.v (.int .i64 vb3_0), .ro .str vb3_1, .ro .rule vb3_2, .ro .bool vb3_3, .v (.int .i64 vb3_4), .v (.int .i64 vb3_5)]⟩), (4, ⟨.node, [.v (.int .i64 (0 : Int)), .v (.int .i64 (0 : Int)), .v (.string ByteArray.empty), .nl, .nl]⟩)], [(832, .live ⟨.str, .deep, 0, [], vr832⟩), (833, .live ⟨.node, .deep, 0, [], vr833⟩)]⟩ k' = f34L1 N n (fun (xvs76 : Int) (xvs77 : Bool) (xvr833 : List NodeT) => k' (.exit 3) ⟨[(2, .c (.one (.pt 2 0))), (3, .c (.one (.pt 3 0))), (4, .c (.one (.pt 4 0))), (74, .c (.one (.h 833 0 0 []))), (75, .c (.one (.v (.int .i64 vs75)))), (76, .c (.one (.v (.int .i64 xvs76)))), (77, .c (.one (.v (.bool xvs77))))], [(2, ⟨.node, [.v (.int .i64 vb2_0), .v (.int .i64 vb2_1), .v (.string vb2_2), .h 832 0 0 [], .h 833 0 0 []]⟩), (3, ⟨.rule, [.v (.int .i64 vb3_0), .ro .str vb3_1, .ro .rule vb3_2, .ro .bool vb3_3, .v (.int .i64 vb3_4), .v (.int .i64 vb3_5)]⟩), (4, ⟨.node, [.v (.int .i64 (0 : Int)), .v (.int .i64 (0 : Int)), .v (.string ByteArray.empty), .nl, .nl]⟩)], [(832, .live ⟨.str, .deep, 0, [], vr832⟩), (833, .live ⟨.node, .deep, 0, [], xvr833⟩)]⟩) vs75 vb2_0 vb2_1 vb2_2 vb3_0 vb3_1 vb3_2 vb3_3 vb3_4 vb3_5 vr832 m vs76 vr833 := by
  intro m; induction m with
  | zero => intros; rfl
  | succ m ih =>
    intro vs76 vr833
    simp only [iter]
    rw [f34L1_b]
    simp only [ih, f34L1]

noncomputable def f34K1 {R : Type} (N : Nat) (n : Nat) (k' : Ex → St → Option R) : Ex → St → Option R := (blockK 3 (blockK 0 (seqK (f34e N) f34k n (cAt [1,1,1] f34c) k')))
theorem f34K1_x0 {R : Type} (N : Nat) (n : Nat) (k : List Dt → Option R) (a0 : NodeT) (a1 : RuleT) (vs75 : Int) (vb2_0 : Int) (vb2_1 : Int) (vb2_2 : ByteArray) (vb3_0 : Int) (vb3_1 : List ByteArray) (vb3_2 : List RuleT) (vb3_3 : List Bool) (vb3_4 : Int) (vb3_5 : Int) (vr832 : List ByteArray) (xvs76 : Int) (xvs77 : Bool) (xvr833 : List NodeT) : f34K1 N n (exitK (f34e N) [.ro, .ro] [false] true [.cell 4 41] [41] [.d .node a0, .d .rule a1] k) (.exit 3) ⟨[(2, .c (.one (.pt 2 0))), (3, .c (.one (.pt 3 0))), (4, .c (.one (.pt 4 0))), (74, .c (.one (.h 833 0 0 []))), (75, .c (.one (.v (.int .i64 vs75)))), (76, .c (.one (.v (.int .i64 xvs76)))), (77, .c (.one (.v (.bool xvs77))))], [(2, ⟨.node, [.v (.int .i64 vb2_0), .v (.int .i64 vb2_1), .v (.string vb2_2), .h 832 0 0 [], .h 833 0 0 []]⟩), (3, ⟨.rule, [.v (.int .i64 vb3_0), .ro .str vb3_1, .ro .rule vb3_2, .ro .bool vb3_3, .v (.int .i64 vb3_4), .v (.int .i64 vb3_5)]⟩), (4, ⟨.node, [.v (.int .i64 (0 : Int)), .v (.int .i64 (0 : Int)), .v (.string ByteArray.empty), .nl, .nl]⟩)], [(832, .live ⟨.str, .deep, 0, [], vr832⟩), (833, .live ⟨.node, .deep, 0, [], xvr833⟩)]⟩ =
    (k [.d .node (⟨vb2_0, vb2_1, vb2_2, vr832, xvr833⟩ : NodeT)]) := by kernel_rfl

theorem f34_run {R : Type} (N : Nat) (n : Nat) (k : List Dt → Option R) (a0 : NodeT) (a1 : RuleT) : evFn (f34e N) f34k n f34c [.ro, .ro] [false] true [.cell 4 41] [41] [.d .node a0, .d .rule a1] k =
    (cond (sm_node (⟨(NodeT.kind a0), (NodeT.n a0), (NodeT.s a0), (NodeT.keys a0), (NodeT.kids a0)⟩ : NodeT))
    (cond (isMapN (⟨(NodeT.kind (⟨(NodeT.kind a0), (NodeT.n a0), (NodeT.s a0), (NodeT.keys a0), (NodeT.kids a0)⟩ : NodeT)), (NodeT.n (⟨(NodeT.kind a0), (NodeT.n a0), (NodeT.s a0), (NodeT.keys a0), (NodeT.kids a0)⟩ : NodeT)), (NodeT.s (⟨(NodeT.kind a0), (NodeT.n a0), (NodeT.s a0), (NodeT.keys a0), (NodeT.kids a0)⟩ : NodeT)), (NodeT.keys (⟨(NodeT.kind a0), (NodeT.n a0), (NodeT.s a0), (NodeT.keys a0), (NodeT.kids a0)⟩ : NodeT)), (NodeT.kids (⟨(NodeT.kind a0), (NodeT.n a0), (NodeT.s a0), (NodeT.keys a0), (NodeT.kids a0)⟩ : NodeT))⟩ : NodeT))
      (cond ((RuleT.kind a1) == (5 : Int))
        (f34L0 N n (fun (xvs32 : Int) (xvs33 : Bool) (xvr323 : List ByteArray) (xvr324 : List NodeT) =>
          (k [.d .node (⟨(NodeT.kind (⟨(NodeT.kind a0), (NodeT.n a0), (NodeT.s a0), (NodeT.keys a0), (NodeT.kids a0)⟩ : NodeT)), (NodeT.n (⟨(NodeT.kind a0), (NodeT.n a0), (NodeT.s a0), (NodeT.keys a0), (NodeT.kids a0)⟩ : NodeT)), (NodeT.s (⟨(NodeT.kind a0), (NodeT.n a0), (NodeT.s a0), (NodeT.keys a0), (NodeT.kids a0)⟩ : NodeT)), xvr323, xvr324⟩ : NodeT)])) ((NodeT.keys (⟨(NodeT.kind a0), (NodeT.n a0), (NodeT.s a0), (NodeT.keys a0), (NodeT.kids a0)⟩ : NodeT)).length : Int) (NodeT.kind (⟨(NodeT.kind a0), (NodeT.n a0), (NodeT.s a0), (NodeT.keys a0), (NodeT.kids a0)⟩ : NodeT)) (NodeT.n (⟨(NodeT.kind a0), (NodeT.n a0), (NodeT.s a0), (NodeT.keys a0), (NodeT.kids a0)⟩ : NodeT)) (NodeT.s (⟨(NodeT.kind a0), (NodeT.n a0), (NodeT.s a0), (NodeT.keys a0), (NodeT.kids a0)⟩ : NodeT)) (RuleT.kind a1) (RuleT.keys a1) (RuleT.kids a1) (RuleT.need a1) (RuleT.low a1) (RuleT.high a1) (NodeT.kind (⟨(NodeT.kind a0), (NodeT.n a0), (NodeT.s a0), (NodeT.keys a0), (NodeT.kids a0)⟩ : NodeT)) (NodeT.n (⟨(NodeT.kind a0), (NodeT.n a0), (NodeT.s a0), (NodeT.keys a0), (NodeT.kids a0)⟩ : NodeT)) (NodeT.s (⟨(NodeT.kind a0), (NodeT.n a0), (NodeT.s a0), (NodeT.keys a0), (NodeT.kids a0)⟩ : NodeT)) (NodeT.keys (⟨(NodeT.kind a0), (NodeT.n a0), (NodeT.s a0), (NodeT.keys a0), (NodeT.kids a0)⟩ : NodeT)) (NodeT.kids (⟨(NodeT.kind a0), (NodeT.n a0), (NodeT.s a0), (NodeT.keys a0), (NodeT.kids a0)⟩ : NodeT)) n (0 : Int) ([] : List ByteArray) ([] : List NodeT))
        (cond ((NodeT.kind (⟨(NodeT.kind a0), (NodeT.n a0), (NodeT.s a0), (NodeT.keys a0), (NodeT.kids a0)⟩ : NodeT)) == (4 : Int))
          (cond ((RuleT.kind a1) == (4 : Int))
            (f34L1 N n (fun (xvs76 : Int) (xvs77 : Bool) (xvr833 : List NodeT) =>
              (k [.d .node (⟨(NodeT.kind (⟨(NodeT.kind a0), (NodeT.n a0), (NodeT.s a0), (NodeT.keys a0), (NodeT.kids a0)⟩ : NodeT)), (NodeT.n (⟨(NodeT.kind a0), (NodeT.n a0), (NodeT.s a0), (NodeT.keys a0), (NodeT.kids a0)⟩ : NodeT)), (NodeT.s (⟨(NodeT.kind a0), (NodeT.n a0), (NodeT.s a0), (NodeT.keys a0), (NodeT.kids a0)⟩ : NodeT)), (NodeT.keys (⟨(NodeT.kind a0), (NodeT.n a0), (NodeT.s a0), (NodeT.keys a0), (NodeT.kids a0)⟩ : NodeT)), xvr833⟩ : NodeT)])) ((NodeT.kids (⟨(NodeT.kind a0), (NodeT.n a0), (NodeT.s a0), (NodeT.keys a0), (NodeT.kids a0)⟩ : NodeT)).length : Int) (NodeT.kind (⟨(NodeT.kind a0), (NodeT.n a0), (NodeT.s a0), (NodeT.keys a0), (NodeT.kids a0)⟩ : NodeT)) (NodeT.n (⟨(NodeT.kind a0), (NodeT.n a0), (NodeT.s a0), (NodeT.keys a0), (NodeT.kids a0)⟩ : NodeT)) (NodeT.s (⟨(NodeT.kind a0), (NodeT.n a0), (NodeT.s a0), (NodeT.keys a0), (NodeT.kids a0)⟩ : NodeT)) (RuleT.kind a1) (RuleT.keys a1) (RuleT.kids a1) (RuleT.need a1) (RuleT.low a1) (RuleT.high a1) (NodeT.keys (⟨(NodeT.kind a0), (NodeT.n a0), (NodeT.s a0), (NodeT.keys a0), (NodeT.kids a0)⟩ : NodeT)) n (0 : Int) (NodeT.kids (⟨(NodeT.kind a0), (NodeT.n a0), (NodeT.s a0), (NodeT.keys a0), (NodeT.kids a0)⟩ : NodeT)))
            (k [.d .node (⟨(NodeT.kind (⟨(NodeT.kind a0), (NodeT.n a0), (NodeT.s a0), (NodeT.keys a0), (NodeT.kids a0)⟩ : NodeT)), (NodeT.n (⟨(NodeT.kind a0), (NodeT.n a0), (NodeT.s a0), (NodeT.keys a0), (NodeT.kids a0)⟩ : NodeT)), (NodeT.s (⟨(NodeT.kind a0), (NodeT.n a0), (NodeT.s a0), (NodeT.keys a0), (NodeT.kids a0)⟩ : NodeT)), (NodeT.keys (⟨(NodeT.kind a0), (NodeT.n a0), (NodeT.s a0), (NodeT.keys a0), (NodeT.kids a0)⟩ : NodeT)), (NodeT.kids (⟨(NodeT.kind a0), (NodeT.n a0), (NodeT.s a0), (NodeT.keys a0), (NodeT.kids a0)⟩ : NodeT))⟩ : NodeT)]))
          (k [.d .node (⟨(NodeT.kind (⟨(NodeT.kind a0), (NodeT.n a0), (NodeT.s a0), (NodeT.keys a0), (NodeT.kids a0)⟩ : NodeT)), (NodeT.n (⟨(NodeT.kind a0), (NodeT.n a0), (NodeT.s a0), (NodeT.keys a0), (NodeT.kids a0)⟩ : NodeT)), (NodeT.s (⟨(NodeT.kind a0), (NodeT.n a0), (NodeT.s a0), (NodeT.keys a0), (NodeT.kids a0)⟩ : NodeT)), (NodeT.keys (⟨(NodeT.kind a0), (NodeT.n a0), (NodeT.s a0), (NodeT.keys a0), (NodeT.kids a0)⟩ : NodeT)), (NodeT.kids (⟨(NodeT.kind a0), (NodeT.n a0), (NodeT.s a0), (NodeT.keys a0), (NodeT.kids a0)⟩ : NodeT))⟩ : NodeT)])))
      (cond ((NodeT.kind (⟨(NodeT.kind a0), (NodeT.n a0), (NodeT.s a0), (NodeT.keys a0), (NodeT.kids a0)⟩ : NodeT)) == (4 : Int))
        (cond ((RuleT.kind a1) == (4 : Int))
          (f34L1 N n (fun (xvs76 : Int) (xvs77 : Bool) (xvr833 : List NodeT) =>
            (k [.d .node (⟨(NodeT.kind (⟨(NodeT.kind a0), (NodeT.n a0), (NodeT.s a0), (NodeT.keys a0), (NodeT.kids a0)⟩ : NodeT)), (NodeT.n (⟨(NodeT.kind a0), (NodeT.n a0), (NodeT.s a0), (NodeT.keys a0), (NodeT.kids a0)⟩ : NodeT)), (NodeT.s (⟨(NodeT.kind a0), (NodeT.n a0), (NodeT.s a0), (NodeT.keys a0), (NodeT.kids a0)⟩ : NodeT)), (NodeT.keys (⟨(NodeT.kind a0), (NodeT.n a0), (NodeT.s a0), (NodeT.keys a0), (NodeT.kids a0)⟩ : NodeT)), xvr833⟩ : NodeT)])) ((NodeT.kids (⟨(NodeT.kind a0), (NodeT.n a0), (NodeT.s a0), (NodeT.keys a0), (NodeT.kids a0)⟩ : NodeT)).length : Int) (NodeT.kind (⟨(NodeT.kind a0), (NodeT.n a0), (NodeT.s a0), (NodeT.keys a0), (NodeT.kids a0)⟩ : NodeT)) (NodeT.n (⟨(NodeT.kind a0), (NodeT.n a0), (NodeT.s a0), (NodeT.keys a0), (NodeT.kids a0)⟩ : NodeT)) (NodeT.s (⟨(NodeT.kind a0), (NodeT.n a0), (NodeT.s a0), (NodeT.keys a0), (NodeT.kids a0)⟩ : NodeT)) (RuleT.kind a1) (RuleT.keys a1) (RuleT.kids a1) (RuleT.need a1) (RuleT.low a1) (RuleT.high a1) (NodeT.keys (⟨(NodeT.kind a0), (NodeT.n a0), (NodeT.s a0), (NodeT.keys a0), (NodeT.kids a0)⟩ : NodeT)) n (0 : Int) (NodeT.kids (⟨(NodeT.kind a0), (NodeT.n a0), (NodeT.s a0), (NodeT.keys a0), (NodeT.kids a0)⟩ : NodeT)))
          (k [.d .node (⟨(NodeT.kind (⟨(NodeT.kind a0), (NodeT.n a0), (NodeT.s a0), (NodeT.keys a0), (NodeT.kids a0)⟩ : NodeT)), (NodeT.n (⟨(NodeT.kind a0), (NodeT.n a0), (NodeT.s a0), (NodeT.keys a0), (NodeT.kids a0)⟩ : NodeT)), (NodeT.s (⟨(NodeT.kind a0), (NodeT.n a0), (NodeT.s a0), (NodeT.keys a0), (NodeT.kids a0)⟩ : NodeT)), (NodeT.keys (⟨(NodeT.kind a0), (NodeT.n a0), (NodeT.s a0), (NodeT.keys a0), (NodeT.kids a0)⟩ : NodeT)), (NodeT.kids (⟨(NodeT.kind a0), (NodeT.n a0), (NodeT.s a0), (NodeT.keys a0), (NodeT.kids a0)⟩ : NodeT))⟩ : NodeT)]))
        (k [.d .node (⟨(NodeT.kind (⟨(NodeT.kind a0), (NodeT.n a0), (NodeT.s a0), (NodeT.keys a0), (NodeT.kids a0)⟩ : NodeT)), (NodeT.n (⟨(NodeT.kind a0), (NodeT.n a0), (NodeT.s a0), (NodeT.keys a0), (NodeT.kids a0)⟩ : NodeT)), (NodeT.s (⟨(NodeT.kind a0), (NodeT.n a0), (NodeT.s a0), (NodeT.keys a0), (NodeT.kids a0)⟩ : NodeT)), (NodeT.keys (⟨(NodeT.kind a0), (NodeT.n a0), (NodeT.s a0), (NodeT.keys a0), (NodeT.kids a0)⟩ : NodeT)), (NodeT.kids (⟨(NodeT.kind a0), (NodeT.n a0), (NodeT.s a0), (NodeT.keys a0), (NodeT.kids a0)⟩ : NodeT))⟩ : NodeT)])))
    none) := by
  refine Eq.trans (b := (cond (sm_node (⟨(NodeT.kind a0), (NodeT.n a0), (NodeT.s a0), (NodeT.keys a0), (NodeT.kids a0)⟩ : NodeT))
    (cond (isMapN (⟨(NodeT.kind (⟨(NodeT.kind a0), (NodeT.n a0), (NodeT.s a0), (NodeT.keys a0), (NodeT.kids a0)⟩ : NodeT)), (NodeT.n (⟨(NodeT.kind a0), (NodeT.n a0), (NodeT.s a0), (NodeT.keys a0), (NodeT.kids a0)⟩ : NodeT)), (NodeT.s (⟨(NodeT.kind a0), (NodeT.n a0), (NodeT.s a0), (NodeT.keys a0), (NodeT.kids a0)⟩ : NodeT)), (NodeT.keys (⟨(NodeT.kind a0), (NodeT.n a0), (NodeT.s a0), (NodeT.keys a0), (NodeT.kids a0)⟩ : NodeT)), (NodeT.kids (⟨(NodeT.kind a0), (NodeT.n a0), (NodeT.s a0), (NodeT.keys a0), (NodeT.kids a0)⟩ : NodeT))⟩ : NodeT))
      (cond ((RuleT.kind a1) == (5 : Int))
        (iter (fun st k => ev (f34e N) f34k n (cAt [1,1,0,0,1,0,1,0,1,0,0] f34c) st k) n ⟨[(2, .c (.one (.pt 2 0))), (3, .c (.one (.pt 3 0))), (4, .c (.one (.pt 4 0))), (5, .c (.one (.pt 5 0))), (30, .c (.one (.h 832 0 0 []))), (31, .c (.one (.v (.int .i64 ((NodeT.keys (⟨(NodeT.kind a0), (NodeT.n a0), (NodeT.s a0), (NodeT.keys a0), (NodeT.kids a0)⟩ : NodeT)).length : Int))))), (32, .c (.one (.v (.int .i64 (0 : Int)))))], [(2, ⟨.node, [.v (.int .i64 (NodeT.kind (⟨(NodeT.kind a0), (NodeT.n a0), (NodeT.s a0), (NodeT.keys a0), (NodeT.kids a0)⟩ : NodeT))), .v (.int .i64 (NodeT.n (⟨(NodeT.kind a0), (NodeT.n a0), (NodeT.s a0), (NodeT.keys a0), (NodeT.kids a0)⟩ : NodeT))), .v (.string (NodeT.s (⟨(NodeT.kind a0), (NodeT.n a0), (NodeT.s a0), (NodeT.keys a0), (NodeT.kids a0)⟩ : NodeT))), .h 832 0 0 [], .h 833 0 0 []]⟩), (3, ⟨.rule, [.v (.int .i64 (RuleT.kind a1)), .ro .str (RuleT.keys a1), .ro .rule (RuleT.kids a1), .ro .bool (RuleT.need a1), .v (.int .i64 (RuleT.low a1)), .v (.int .i64 (RuleT.high a1))]⟩), (4, ⟨.node, [.v (.int .i64 (0 : Int)), .v (.int .i64 (0 : Int)), .v (.string ByteArray.empty), .nl, .nl]⟩), (5, ⟨.node, [.v (.int .i64 (NodeT.kind (⟨(NodeT.kind a0), (NodeT.n a0), (NodeT.s a0), (NodeT.keys a0), (NodeT.kids a0)⟩ : NodeT))), .v (.int .i64 (NodeT.n (⟨(NodeT.kind a0), (NodeT.n a0), (NodeT.s a0), (NodeT.keys a0), (NodeT.kids a0)⟩ : NodeT))), .v (.string (NodeT.s (⟨(NodeT.kind a0), (NodeT.n a0), (NodeT.s a0), (NodeT.keys a0), (NodeT.kids a0)⟩ : NodeT))), .h 323 0 0 [], .h 324 0 0 []]⟩)], [(323, .live ⟨.str, .deep, 0, [], ([] : List ByteArray)⟩), (324, .live ⟨.node, .deep, 0, [], ([] : List NodeT)⟩), (832, .live ⟨.str, .deep, 0, [], (NodeT.keys (⟨(NodeT.kind a0), (NodeT.n a0), (NodeT.s a0), (NodeT.keys a0), (NodeT.kids a0)⟩ : NodeT))⟩), (833, .live ⟨.node, .deep, 0, [], (NodeT.kids (⟨(NodeT.kind a0), (NodeT.n a0), (NodeT.s a0), (NodeT.keys a0), (NodeT.kids a0)⟩ : NodeT))⟩)]⟩ (f34K0 N n (exitK (f34e N) [.ro, .ro] [false] true [.cell 4 41] [41] [.d .node a0, .d .rule a1] k)))
        (cond ((NodeT.kind (⟨(NodeT.kind a0), (NodeT.n a0), (NodeT.s a0), (NodeT.keys a0), (NodeT.kids a0)⟩ : NodeT)) == (4 : Int))
          (cond ((RuleT.kind a1) == (4 : Int))
            (iter (fun st k => ev (f34e N) f34k n (cAt [1,1,0,0,1,1,1,0,1,0,0] f34c) st k) n ⟨[(2, .c (.one (.pt 2 0))), (3, .c (.one (.pt 3 0))), (4, .c (.one (.pt 4 0))), (74, .c (.one (.h 833 0 0 []))), (75, .c (.one (.v (.int .i64 ((NodeT.kids (⟨(NodeT.kind a0), (NodeT.n a0), (NodeT.s a0), (NodeT.keys a0), (NodeT.kids a0)⟩ : NodeT)).length : Int))))), (76, .c (.one (.v (.int .i64 (0 : Int)))))], [(2, ⟨.node, [.v (.int .i64 (NodeT.kind (⟨(NodeT.kind a0), (NodeT.n a0), (NodeT.s a0), (NodeT.keys a0), (NodeT.kids a0)⟩ : NodeT))), .v (.int .i64 (NodeT.n (⟨(NodeT.kind a0), (NodeT.n a0), (NodeT.s a0), (NodeT.keys a0), (NodeT.kids a0)⟩ : NodeT))), .v (.string (NodeT.s (⟨(NodeT.kind a0), (NodeT.n a0), (NodeT.s a0), (NodeT.keys a0), (NodeT.kids a0)⟩ : NodeT))), .h 832 0 0 [], .h 833 0 0 []]⟩), (3, ⟨.rule, [.v (.int .i64 (RuleT.kind a1)), .ro .str (RuleT.keys a1), .ro .rule (RuleT.kids a1), .ro .bool (RuleT.need a1), .v (.int .i64 (RuleT.low a1)), .v (.int .i64 (RuleT.high a1))]⟩), (4, ⟨.node, [.v (.int .i64 (0 : Int)), .v (.int .i64 (0 : Int)), .v (.string ByteArray.empty), .nl, .nl]⟩)], [(832, .live ⟨.str, .deep, 0, [], (NodeT.keys (⟨(NodeT.kind a0), (NodeT.n a0), (NodeT.s a0), (NodeT.keys a0), (NodeT.kids a0)⟩ : NodeT))⟩), (833, .live ⟨.node, .deep, 0, [], (NodeT.kids (⟨(NodeT.kind a0), (NodeT.n a0), (NodeT.s a0), (NodeT.keys a0), (NodeT.kids a0)⟩ : NodeT))⟩)]⟩ (f34K1 N n (exitK (f34e N) [.ro, .ro] [false] true [.cell 4 41] [41] [.d .node a0, .d .rule a1] k)))
            (k [.d .node (⟨(NodeT.kind (⟨(NodeT.kind a0), (NodeT.n a0), (NodeT.s a0), (NodeT.keys a0), (NodeT.kids a0)⟩ : NodeT)), (NodeT.n (⟨(NodeT.kind a0), (NodeT.n a0), (NodeT.s a0), (NodeT.keys a0), (NodeT.kids a0)⟩ : NodeT)), (NodeT.s (⟨(NodeT.kind a0), (NodeT.n a0), (NodeT.s a0), (NodeT.keys a0), (NodeT.kids a0)⟩ : NodeT)), (NodeT.keys (⟨(NodeT.kind a0), (NodeT.n a0), (NodeT.s a0), (NodeT.keys a0), (NodeT.kids a0)⟩ : NodeT)), (NodeT.kids (⟨(NodeT.kind a0), (NodeT.n a0), (NodeT.s a0), (NodeT.keys a0), (NodeT.kids a0)⟩ : NodeT))⟩ : NodeT)]))
          (k [.d .node (⟨(NodeT.kind (⟨(NodeT.kind a0), (NodeT.n a0), (NodeT.s a0), (NodeT.keys a0), (NodeT.kids a0)⟩ : NodeT)), (NodeT.n (⟨(NodeT.kind a0), (NodeT.n a0), (NodeT.s a0), (NodeT.keys a0), (NodeT.kids a0)⟩ : NodeT)), (NodeT.s (⟨(NodeT.kind a0), (NodeT.n a0), (NodeT.s a0), (NodeT.keys a0), (NodeT.kids a0)⟩ : NodeT)), (NodeT.keys (⟨(NodeT.kind a0), (NodeT.n a0), (NodeT.s a0), (NodeT.keys a0), (NodeT.kids a0)⟩ : NodeT)), (NodeT.kids (⟨(NodeT.kind a0), (NodeT.n a0), (NodeT.s a0), (NodeT.keys a0), (NodeT.kids a0)⟩ : NodeT))⟩ : NodeT)])))
      (cond ((NodeT.kind (⟨(NodeT.kind a0), (NodeT.n a0), (NodeT.s a0), (NodeT.keys a0), (NodeT.kids a0)⟩ : NodeT)) == (4 : Int))
        (cond ((RuleT.kind a1) == (4 : Int))
          (iter (fun st k => ev (f34e N) f34k n (cAt [1,1,0,0,1,1,1,0,1,0,0] f34c) st k) n ⟨[(2, .c (.one (.pt 2 0))), (3, .c (.one (.pt 3 0))), (4, .c (.one (.pt 4 0))), (74, .c (.one (.h 833 0 0 []))), (75, .c (.one (.v (.int .i64 ((NodeT.kids (⟨(NodeT.kind a0), (NodeT.n a0), (NodeT.s a0), (NodeT.keys a0), (NodeT.kids a0)⟩ : NodeT)).length : Int))))), (76, .c (.one (.v (.int .i64 (0 : Int)))))], [(2, ⟨.node, [.v (.int .i64 (NodeT.kind (⟨(NodeT.kind a0), (NodeT.n a0), (NodeT.s a0), (NodeT.keys a0), (NodeT.kids a0)⟩ : NodeT))), .v (.int .i64 (NodeT.n (⟨(NodeT.kind a0), (NodeT.n a0), (NodeT.s a0), (NodeT.keys a0), (NodeT.kids a0)⟩ : NodeT))), .v (.string (NodeT.s (⟨(NodeT.kind a0), (NodeT.n a0), (NodeT.s a0), (NodeT.keys a0), (NodeT.kids a0)⟩ : NodeT))), .h 832 0 0 [], .h 833 0 0 []]⟩), (3, ⟨.rule, [.v (.int .i64 (RuleT.kind a1)), .ro .str (RuleT.keys a1), .ro .rule (RuleT.kids a1), .ro .bool (RuleT.need a1), .v (.int .i64 (RuleT.low a1)), .v (.int .i64 (RuleT.high a1))]⟩), (4, ⟨.node, [.v (.int .i64 (0 : Int)), .v (.int .i64 (0 : Int)), .v (.string ByteArray.empty), .nl, .nl]⟩)], [(832, .live ⟨.str, .deep, 0, [], (NodeT.keys (⟨(NodeT.kind a0), (NodeT.n a0), (NodeT.s a0), (NodeT.keys a0), (NodeT.kids a0)⟩ : NodeT))⟩), (833, .live ⟨.node, .deep, 0, [], (NodeT.kids (⟨(NodeT.kind a0), (NodeT.n a0), (NodeT.s a0), (NodeT.keys a0), (NodeT.kids a0)⟩ : NodeT))⟩)]⟩ (f34K1 N n (exitK (f34e N) [.ro, .ro] [false] true [.cell 4 41] [41] [.d .node a0, .d .rule a1] k)))
          (k [.d .node (⟨(NodeT.kind (⟨(NodeT.kind a0), (NodeT.n a0), (NodeT.s a0), (NodeT.keys a0), (NodeT.kids a0)⟩ : NodeT)), (NodeT.n (⟨(NodeT.kind a0), (NodeT.n a0), (NodeT.s a0), (NodeT.keys a0), (NodeT.kids a0)⟩ : NodeT)), (NodeT.s (⟨(NodeT.kind a0), (NodeT.n a0), (NodeT.s a0), (NodeT.keys a0), (NodeT.kids a0)⟩ : NodeT)), (NodeT.keys (⟨(NodeT.kind a0), (NodeT.n a0), (NodeT.s a0), (NodeT.keys a0), (NodeT.kids a0)⟩ : NodeT)), (NodeT.kids (⟨(NodeT.kind a0), (NodeT.n a0), (NodeT.s a0), (NodeT.keys a0), (NodeT.kids a0)⟩ : NodeT))⟩ : NodeT)]))
        (k [.d .node (⟨(NodeT.kind (⟨(NodeT.kind a0), (NodeT.n a0), (NodeT.s a0), (NodeT.keys a0), (NodeT.kids a0)⟩ : NodeT)), (NodeT.n (⟨(NodeT.kind a0), (NodeT.n a0), (NodeT.s a0), (NodeT.keys a0), (NodeT.kids a0)⟩ : NodeT)), (NodeT.s (⟨(NodeT.kind a0), (NodeT.n a0), (NodeT.s a0), (NodeT.keys a0), (NodeT.kids a0)⟩ : NodeT)), (NodeT.keys (⟨(NodeT.kind a0), (NodeT.n a0), (NodeT.s a0), (NodeT.keys a0), (NodeT.kids a0)⟩ : NodeT)), (NodeT.kids (⟨(NodeT.kind a0), (NodeT.n a0), (NodeT.s a0), (NodeT.keys a0), (NodeT.kids a0)⟩ : NodeT))⟩ : NodeT)])))
    none)) (by kernel_rfl) ?_
  simp only [f34L0_eq, f34K0_x0, f34L1_eq, f34K1_x0]
theorem f34_spec (N : Nat) (a0 : NodeT) (a1 : RuleT) (hg : gPr a0 a1 = true) (hm : mu34 [.d .node a0, .d .rule a1] = N) : ∃ keep rounds, ∀ {R : Type} (k : List Dt → Option R), evFn (f34e N) keep rounds f34c [.ro, .ro] [false] true [.cell 4 41] [41] [.d .node a0, .d .rule a1] k = k [.d .node (prune a0 a1)] := by
  have hm : nd_node a0 = N := hm
  subst hm
  simp only [gPr, Bool.and_eq_true] at hg
  obtain ⟨hg, hr, hfit⟩ := hg
  have hg0 := hg
  rw [sm_node_def] at hg
  simp only [Bool.and_eq_true] at hg
  obtain ⟨_, _, _, hke, hki⟩ := hg
  have nke := smL_len hke
  have nki := smL_len hki
  have hr0 := hr
  rw [sm_rule_def] at hr
  simp only [Bool.and_eq_true] at hr
  obtain ⟨_, hrk, hrki, _⟩ := hr
  have nrk := smL_len hrk
  have nrki := smL_len hrki
  have hfit0 := hfit
  rw [rFit_def, Bool.and_eq_true] at hfit
  have hhead := hfit.1
  unfold rHead at hhead
  have kid : ∀ x ∈ a0.kids, Nat.blt (nd_node x) (nd_node a0) = true := fun x hx => by
    have := nd_node_kid (x := a0) hx
    rw [Nat.blt_eq]; exact this
  have gp : ∀ x ∈ a0.kids, ∀ q ∈ a1.kids, gPr x q = true := fun x hx q hq => by
    simp only [gPr, Bool.and_eq_true]
    exact ⟨sm_kid hg0 hx, sm_rkid hr0 hq, rFit_kid hfit0 hq⟩
  have limA : ∀ {α : Type} {l : List α}, l.length ≤ 1048576 → Nat.ble (l.length + 1) LIM = true := fun h => limLe1 h
  refine ⟨f34k, a0.keys.length + a0.kids.length + 1, fun {R} k => ?_⟩
  rw [f34_run]
  simp only [eta_node, eta_rule, hg0, cond_true]
  show _ = k [.d .node (prune a0 a1)]
  have hL : (a1.kind == (4 : Int)) = true → ∀ (fin : Int → Bool → List NodeT → Option R), f34L1 (nd_node a0) (a0.keys.length + a0.kids.length + 1) fin (a0.kids.length : Int) a0.kind a0.n a0.s a1.kind a1.keys a1.kids a1.need a1.low a1.high a0.keys (a0.keys.length + a0.kids.length + 1) (0 : Int) a0.kids = fin (a0.kids.length : Int) false (pruneL (atI (t := .rule) a1.kids 0) a0.kids) := by
    intro r4 fin
    have r5 : (a1.kind == (5 : Int)) = false := by rw [eq_of_beq r4]; rfl
    rw [r5, r4] at hhead
    have hk1 : (1 : Int) ≤ (a1.kids.length : Int) := of_decide_eq_true hhead
    have h0l : decide ((0 : Int) < (a1.kids.length : Int)) = true := decide_eq_true (by omega)
    have hq := List.mem_of_getElem? (atI_lt (t := .rule) (xs := a1.kids) (i := 0) (by omega))
    refine Eq.trans (loop_setmap (xs := a0.kids) (f := fun x => prune x (atI (t := .rule) a1.kids 0)) (F := fun m j vr => f34L1 (nd_node a0) (a0.keys.length + a0.kids.length + 1) fin (a0.kids.length : Int) a0.kind a0.n a0.s a1.kind a1.keys a1.kids a1.need a1.low a1.high a0.keys m (j : Int) vr) (good := fun vr => fin (a0.kids.length : Int) false vr)
      (fun m j vr x hx hvl hvx => ?_) (fun m vr hvl => by simp only [f34L1, idxE, cond_false]) a0.kids.length 0 (a0.keys.length + a0.kids.length + 1) (by omega) (by omega)) (by rw [pruneL_eq])
    obtain ⟨h1, h0, hw, ht⟩ := idx (lt_of_get hx) (by omega)
    have hxm := List.mem_of_getElem? hx
    simp only [f34L1, f34v0, h1, h0, hw, ht, hvl, atI_of (t := .node) hvx, eta_node, eta_rule, h0l, gp x hxm _ hq, kid x hxm, Bool.and_self, cond_true]
  have hM : (a1.kind == (5 : Int)) = true → a0.keys.length = a0.kids.length → ∀ (fin : Int → Bool → List ByteArray → List NodeT → Option R), f34L0 (nd_node a0) (a0.keys.length + a0.kids.length + 1) fin (a0.keys.length : Int) a0.kind a0.n a0.s a1.kind a1.keys a1.kids a1.need a1.low a1.high a0.kind a0.n a0.s a0.keys a0.kids (a0.keys.length + a0.kids.length + 1) (0 : Int) [] [] = fin (a0.keys.length : Int) false (pruneM a1 a0.keys a0.kids).1 (pruneM a1 a0.keys a0.kids).2 := by
    intro r5 hlen fin
    rw [r5] at hhead
    have hrl := eq_of_beq (show ((a1.keys.length : Int) == (a1.kids.length : Int)) = true from hhead)
    refine Eq.trans (loop_prune (r := a1) (keys := a0.keys) (kids := a0.kids) hlen (F := fun m j a b => f34L0 (nd_node a0) (a0.keys.length + a0.kids.length + 1) fin (a0.keys.length : Int) a0.kind a0.n a0.s a1.kind a1.keys a1.kids a1.need a1.low a1.high a0.kind a0.n a0.s a0.keys a0.kids m (j : Int) a b) (good := fun a b => fin (a0.keys.length : Int) false a b)
      (fun m j a b key x hk hx ha hb => ?_) (fun m a b => by simp only [f34L0, idxE, cond_false]) a0.keys.length 0 (a0.keys.length + a0.kids.length + 1) [] [] (by omega) (by omega) (Nat.le_refl _) (Nat.le_refl _)) rfl
    obtain ⟨h1, h0, hw, ht⟩ := idx (lt_of_get hk) (by omega)
    obtain ⟨h1', _, _, _⟩ := idx (lt_of_get hx) (by omega)
    have hj := lt_of_get hk
    have hxm := List.mem_of_getElem? hx
    have hgk : gKR a1 key = true := by simp only [gKR, Bool.and_eq_true, decide_eq_true_eq]; exact ⟨hr0, by omega⟩
    have la := limA (l := a) (by omega)
    have lb := limA (l := b) (by omega)
    by_cases hk' : ruleAt a1 key < 0
    · have hge : decide (ruleAt a1 key ≥ (0 : Int)) = false := decide_eq_false (by omega)
      simp only [f34L0, h1, h0, hw, ht, atI_of (t := .str) hk, eta_rule, hgk, hr0, keyRule, hge, decide_eq_true hk', Bool.and_self, cond_true, cond_false]
    · obtain ⟨i, e, hi⟩ := ruleAt_bd hk'
      have hq := List.mem_of_getElem? (atI_lt (t := .rule) (xs := a1.kids) (i := i) (by omega))
      have hge : decide (ruleAt a1 key ≥ (0 : Int)) = true := decide_eq_true (by omega)
      have hge' : decide ((0 : Int) ≤ ruleAt a1 key) = true := hge
      have hlt : decide (ruleAt a1 key < (a1.kids.length : Int)) = true := decide_eq_true (by omega)
      have ei : Int.toNat (ruleAt a1 key) = i := by omega
      simp only [f34L0, h1, h1', h0, hw, ht, atI_of (t := .str) hk, atI_of (t := .node) hx, eta_node, eta_rule, hgk, hr0, keyRule, hge, hge', hlt, ei, gp x hxm _ hq, kid x hxm, la, lb, decide_eq_false hk', Bool.and_self, cond_true, cond_false]
  rw [prune_def]
  cases hmap : isMapN a0
  · cases h4 : a0.kind == (4 : Int) <;> cases r4 : a1.kind == (4 : Int)
    · rfl
    · rfl
    · rfl
    · exact hL r4 _
  · have h4 := isMapN_not4 hmap
    cases r5 : a1.kind == (5 : Int)
    · rw [h4]; rfl
    · exact hM r5 (isMapN_eq hmap).2 _

noncomputable def s34 : Gm.Spec := Gm.Spec.of [.ro, .ro] [false] true q34
theorem good34 : Gm.Good Try.prog (34, s34) := by
  refine ⟨⟨spec_rec mu34 fun N hr => ?_, _, Try.func34, by kernel_rfl, of_decide_eq_true (by kernel_rfl)⟩, Gm.Spec.of_natl _ _ _ _⟩
  have hl : ∀ x ∈ [(33, s33), (34, s34r N), (52, s52), (53, s53)], Gm.Good Try.prog x := List.forall_mem_cons.2 ⟨good33, List.forall_mem_cons.2 ⟨⟨⟨hr, _, Try.func34, by kernel_rfl, of_decide_eq_true (by kernel_rfl)⟩, Gm.Spec.of_natl _ _ _ _⟩, List.forall_mem_cons.2 ⟨good52, List.forall_mem_cons.2 ⟨good53, List.forall_mem_nil _⟩⟩⟩⟩
  intro R
  refine spec_ok (E := f34e N) (tab_ok.env hl) (tab.natl hl) Try.func34 (by kernel_rfl : Try.f34.body = some f34c) [41] (by kernel_rfl) ?_
  intro ds outs h
  obtain ⟨h, hm⟩ := qeq_some h
  unfold q34 at h
  split at h
  · simp only [Option.some.injEq, Prod.mk.injEq] at h; obtain ⟨hg, h⟩ := h; cases h; exact f34_spec N _ _ hg hm
  · cases h
noncomputable def q31 : List Dt → Option (Bool × List Dt)
  | [.d .node a0, .d .rule a1] => some ((gPr a0 a1), [.d .node (prune a0 a1)])
  | _ => none
noncomputable def mu31 : List Dt → Nat
  | [.d .node a0, .d .rule a1] => (fun (t : NodeT) (_ : RuleT) => nd_node t) a0 a1
  | _ => 0
noncomputable def s31r (N : Nat) : Gm.Spec := Gm.Spec.of [.ro, .ro] [false] true (qlt mu31 N q31)
/-! ### loop.example/g00465/spec.l24Prune -/
noncomputable def f31c : Code := (Try.f31.body).getD .skip
def f31k : Nat → Kp := kat [⟨[2, 3, 4], [], [], []⟩, ⟨[2, 3, 4, 5], [], [], []⟩, ⟨[2, 3, 4, 5, 20], [], [], []⟩, ⟨[2, 3, 4, 5, 6], [], [], []⟩, ⟨[2, 3, 4, 5, 6, 25], [], [], []⟩, ⟨[2, 3, 4, 5, 6], [], [], []⟩, ⟨[2, 3, 4, 5, 6], [], [], []⟩, ⟨[2, 3, 4, 5, 49], [], [], []⟩, ⟨[4], [], [], []⟩, ⟨[2, 3, 4, 5, 7], [], [], []⟩, ⟨[2, 3, 4, 5, 7, 8], [], [], []⟩, ⟨[2, 3, 4, 5, 7, 8, 9], [], [], []⟩, ⟨[2, 3, 4, 5, 7, 8, 9, 57], [], [], []⟩, ⟨[2, 3, 4, 5, 7, 8, 9], [], [], []⟩, ⟨[2, 3, 4, 5, 7, 8, 9, 10], [], [], []⟩, ⟨[2, 3, 4, 5, 7, 8, 9, 10, 68], [], [], []⟩, ⟨[2, 3, 4, 5, 7, 8, 9, 10], [], [], []⟩, ⟨[2, 3, 4, 5, 7, 8, 9], [], [], []⟩, ⟨[4, 5, 8], [], [], []⟩, ⟨[4, 5], [], [], []⟩, ⟨[4], [], [], []⟩]
noncomputable def f31e (N : Nat) : Env := tab.env [(30, s30), (31, s31r N), (49, s49), (50, s50)]
noncomputable def f31v0 (vr769 : List NodeT) (vs6 : Int) (vb2_4 : List NodeT) (vb3_2 : List RuleT) : List NodeT :=
  (vr769.set (Int.toNat vs6) (⟨(NodeT.kind (prune (⟨(NodeT.kind (atI (t := .node) vb2_4 (Int.toNat vs6))), (NodeT.n (atI (t := .node) vb2_4 (Int.toNat vs6))), (NodeT.s (atI (t := .node) vb2_4 (Int.toNat vs6))), (NodeT.keys (atI (t := .node) vb2_4 (Int.toNat vs6))), (NodeT.kids (atI (t := .node) vb2_4 (Int.toNat vs6)))⟩ : NodeT) (⟨(RuleT.kind (atI (t := .rule) vb3_2 0)), (RuleT.keys (atI (t := .rule) vb3_2 0)), (RuleT.kids (atI (t := .rule) vb3_2 0)), (RuleT.need (atI (t := .rule) vb3_2 0)), (RuleT.low (atI (t := .rule) vb3_2 0)), (RuleT.high (atI (t := .rule) vb3_2 0))⟩ : RuleT))), (NodeT.n (prune (⟨(NodeT.kind (atI (t := .node) vb2_4 (Int.toNat vs6))), (NodeT.n (atI (t := .node) vb2_4 (Int.toNat vs6))), (NodeT.s (atI (t := .node) vb2_4 (Int.toNat vs6))), (NodeT.keys (atI (t := .node) vb2_4 (Int.toNat vs6))), (NodeT.kids (atI (t := .node) vb2_4 (Int.toNat vs6)))⟩ : NodeT) (⟨(RuleT.kind (atI (t := .rule) vb3_2 0)), (RuleT.keys (atI (t := .rule) vb3_2 0)), (RuleT.kids (atI (t := .rule) vb3_2 0)), (RuleT.need (atI (t := .rule) vb3_2 0)), (RuleT.low (atI (t := .rule) vb3_2 0)), (RuleT.high (atI (t := .rule) vb3_2 0))⟩ : RuleT))), (NodeT.s (prune (⟨(NodeT.kind (atI (t := .node) vb2_4 (Int.toNat vs6))), (NodeT.n (atI (t := .node) vb2_4 (Int.toNat vs6))), (NodeT.s (atI (t := .node) vb2_4 (Int.toNat vs6))), (NodeT.keys (atI (t := .node) vb2_4 (Int.toNat vs6))), (NodeT.kids (atI (t := .node) vb2_4 (Int.toNat vs6)))⟩ : NodeT) (⟨(RuleT.kind (atI (t := .rule) vb3_2 0)), (RuleT.keys (atI (t := .rule) vb3_2 0)), (RuleT.kids (atI (t := .rule) vb3_2 0)), (RuleT.need (atI (t := .rule) vb3_2 0)), (RuleT.low (atI (t := .rule) vb3_2 0)), (RuleT.high (atI (t := .rule) vb3_2 0))⟩ : RuleT))), (NodeT.keys (prune (⟨(NodeT.kind (atI (t := .node) vb2_4 (Int.toNat vs6))), (NodeT.n (atI (t := .node) vb2_4 (Int.toNat vs6))), (NodeT.s (atI (t := .node) vb2_4 (Int.toNat vs6))), (NodeT.keys (atI (t := .node) vb2_4 (Int.toNat vs6))), (NodeT.kids (atI (t := .node) vb2_4 (Int.toNat vs6)))⟩ : NodeT) (⟨(RuleT.kind (atI (t := .rule) vb3_2 0)), (RuleT.keys (atI (t := .rule) vb3_2 0)), (RuleT.kids (atI (t := .rule) vb3_2 0)), (RuleT.need (atI (t := .rule) vb3_2 0)), (RuleT.low (atI (t := .rule) vb3_2 0)), (RuleT.high (atI (t := .rule) vb3_2 0))⟩ : RuleT))), (NodeT.kids (prune (⟨(NodeT.kind (atI (t := .node) vb2_4 (Int.toNat vs6))), (NodeT.n (atI (t := .node) vb2_4 (Int.toNat vs6))), (NodeT.s (atI (t := .node) vb2_4 (Int.toNat vs6))), (NodeT.keys (atI (t := .node) vb2_4 (Int.toNat vs6))), (NodeT.kids (atI (t := .node) vb2_4 (Int.toNat vs6)))⟩ : NodeT) (⟨(RuleT.kind (atI (t := .rule) vb3_2 0)), (RuleT.keys (atI (t := .rule) vb3_2 0)), (RuleT.kids (atI (t := .rule) vb3_2 0)), (RuleT.need (atI (t := .rule) vb3_2 0)), (RuleT.low (atI (t := .rule) vb3_2 0)), (RuleT.high (atI (t := .rule) vb3_2 0))⟩ : RuleT)))⟩ : NodeT))
noncomputable def f31L0 {R : Type} (N : Nat) (n : Nat) (x0 : Int → Bool → (List NodeT) → Option R) (vb2_0 : Int) (vb2_1 : Int) (vb2_2 : ByteArray) (vb2_3 : List ByteArray) (vb2_4 : List NodeT) (vb3_0 : Int) (vb3_1 : List ByteArray) (vb3_2 : List RuleT) (vb3_3 : List Bool) (vb3_4 : Int) (vb3_5 : Int) (vb5_0 : Int) (vb5_1 : Int) (vb5_2 : ByteArray) (vr768 : List ByteArray) : Nat → Int → (List NodeT) → Option R
  | 0, _, _ => none
  | m + 1, vs6, vr769 =>
    (cond (decide (vs6 < (vb2_4.length : Int)))
      (cond ((decide ((0 : Int) ≤ vs6)) && (decide (vs6 < (vb2_4.length : Int))))
        (cond (decide ((0 : Int) < (vb3_2.length : Int)))
          (cond ((gPr (⟨(NodeT.kind (atI (t := .node) vb2_4 (Int.toNat vs6))), (NodeT.n (atI (t := .node) vb2_4 (Int.toNat vs6))), (NodeT.s (atI (t := .node) vb2_4 (Int.toNat vs6))), (NodeT.keys (atI (t := .node) vb2_4 (Int.toNat vs6))), (NodeT.kids (atI (t := .node) vb2_4 (Int.toNat vs6)))⟩ : NodeT) (⟨(RuleT.kind (atI (t := .rule) vb3_2 0)), (RuleT.keys (atI (t := .rule) vb3_2 0)), (RuleT.kids (atI (t := .rule) vb3_2 0)), (RuleT.need (atI (t := .rule) vb3_2 0)), (RuleT.low (atI (t := .rule) vb3_2 0)), (RuleT.high (atI (t := .rule) vb3_2 0))⟩ : RuleT)) && (Nat.blt ((fun (t : NodeT) (_ : RuleT) => nd_node t) (⟨(NodeT.kind (atI (t := .node) vb2_4 (Int.toNat vs6))), (NodeT.n (atI (t := .node) vb2_4 (Int.toNat vs6))), (NodeT.s (atI (t := .node) vb2_4 (Int.toNat vs6))), (NodeT.keys (atI (t := .node) vb2_4 (Int.toNat vs6))), (NodeT.kids (atI (t := .node) vb2_4 (Int.toNat vs6)))⟩ : NodeT) (⟨(RuleT.kind (atI (t := .rule) vb3_2 0)), (RuleT.keys (atI (t := .rule) vb3_2 0)), (RuleT.kids (atI (t := .rule) vb3_2 0)), (RuleT.need (atI (t := .rule) vb3_2 0)), (RuleT.low (atI (t := .rule) vb3_2 0)), (RuleT.high (atI (t := .rule) vb3_2 0))⟩ : RuleT)) N))
            (cond ((decide ((0 : Int) ≤ vs6)) && (decide (vs6 < (vr769.length : Int))))
              (f31L0 N n x0 vb2_0 vb2_1 vb2_2 vb2_3 vb2_4 vb3_0 vb3_1 vb3_2 vb3_3 vb3_4 vb3_5 vb5_0 vb5_1 vb5_2 vr768 m (IntKind.wrap .i64 (vs6 + (1 : Int))) (f31v0 vr769 vs6 vb2_4 vb3_2))
              none)
            none)
          none)
        none)
      (x0 vs6 (decide (vs6 < (vb2_4.length : Int))) vr769))
theorem f31L0_b {R : Type} (N : Nat) (n : Nat) (k' : Ex → St → Option R) (vs6 : Int) (vb2_0 : Int) (vb2_1 : Int) (vb2_2 : ByteArray) (vb2_3 : List ByteArray) (vb2_4 : List NodeT) (vb3_0 : Int) (vb3_1 : List ByteArray) (vb3_2 : List RuleT) (vb3_3 : List Bool) (vb3_4 : Int) (vb3_5 : Int) (vb5_0 : Int) (vb5_1 : Int) (vb5_2 : ByteArray) (vr768 : List ByteArray) (vr769 : List NodeT) : ev (f31e N) f31k n (cAt [1,1,0,1,0,1,0,0] f31c) ⟨[(2, .c (.one (.pt 2 0))), (3, .c (.one (.pt 3 0))), (4, .c (.one (.pt 4 0))), (5, .c (.one (.pt 5 0))), (6, .c (.one (.v (.int .i64 vs6))))], [(2, ⟨.node, [.v (.int .i64 vb2_0), .v (.int .i64 vb2_1), .v (.string vb2_2), .ro .str vb2_3, .ro .node vb2_4]⟩), (3, ⟨.rule, [.v (.int .i64 vb3_0), .ro .str vb3_1, .ro .rule vb3_2, .ro .bool vb3_3, .v (.int .i64 vb3_4), .v (.int .i64 vb3_5)]⟩), (4, ⟨.node, [.v (.int .i64 (0 : Int)), .v (.int .i64 (0 : Int)), .v (.string ByteArray.empty), .nl, .nl]⟩), (5, ⟨.node, [.v (.int .i64 vb5_0), .v (.int .i64 vb5_1), .v (.string vb5_2), .h 768 0 0 [], .h 769 0 0 []]⟩)], [(768, .live ⟨.str, .deep, 0, [], vr768⟩), (769, .live ⟨.node, .deep, 0, [], vr769⟩)]⟩ k' =
    (cond (decide (vs6 < (vb2_4.length : Int)))
    (cond ((decide ((0 : Int) ≤ vs6)) && (decide (vs6 < (vb2_4.length : Int))))
      (cond (decide ((0 : Int) < (vb3_2.length : Int)))
        (cond ((gPr (⟨(NodeT.kind (atI (t := .node) vb2_4 (Int.toNat vs6))), (NodeT.n (atI (t := .node) vb2_4 (Int.toNat vs6))), (NodeT.s (atI (t := .node) vb2_4 (Int.toNat vs6))), (NodeT.keys (atI (t := .node) vb2_4 (Int.toNat vs6))), (NodeT.kids (atI (t := .node) vb2_4 (Int.toNat vs6)))⟩ : NodeT) (⟨(RuleT.kind (atI (t := .rule) vb3_2 0)), (RuleT.keys (atI (t := .rule) vb3_2 0)), (RuleT.kids (atI (t := .rule) vb3_2 0)), (RuleT.need (atI (t := .rule) vb3_2 0)), (RuleT.low (atI (t := .rule) vb3_2 0)), (RuleT.high (atI (t := .rule) vb3_2 0))⟩ : RuleT)) && (Nat.blt ((fun (t : NodeT) (_ : RuleT) => nd_node t) (⟨(NodeT.kind (atI (t := .node) vb2_4 (Int.toNat vs6))), (NodeT.n (atI (t := .node) vb2_4 (Int.toNat vs6))), (NodeT.s (atI (t := .node) vb2_4 (Int.toNat vs6))), (NodeT.keys (atI (t := .node) vb2_4 (Int.toNat vs6))), (NodeT.kids (atI (t := .node) vb2_4 (Int.toNat vs6)))⟩ : NodeT) (⟨(RuleT.kind (atI (t := .rule) vb3_2 0)), (RuleT.keys (atI (t := .rule) vb3_2 0)), (RuleT.kids (atI (t := .rule) vb3_2 0)), (RuleT.need (atI (t := .rule) vb3_2 0)), (RuleT.low (atI (t := .rule) vb3_2 0)), (RuleT.high (atI (t := .rule) vb3_2 0))⟩ : RuleT)) N))
          (cond ((decide ((0 : Int) ≤ vs6)) && (decide (vs6 < (vr769.length : Int))))
            (k' .normal ⟨[(2, .c (.one (.pt 2 0))), (3, .c (.one (.pt 3 0))), (4, .c (.one (.pt 4 0))), (5, .c (.one (.pt 5 0))), (6, .c (.one (.v (.int .i64 (IntKind.wrap .i64 (vs6 + (1 : Int)))))))], [(2, ⟨.node, [.v (.int .i64 vb2_0), .v (.int .i64 vb2_1), .v (.string vb2_2), .ro .str vb2_3, .ro .node vb2_4]⟩), (3, ⟨.rule, [.v (.int .i64 vb3_0), .ro .str vb3_1, .ro .rule vb3_2, .ro .bool vb3_3, .v (.int .i64 vb3_4), .v (.int .i64 vb3_5)]⟩), (4, ⟨.node, [.v (.int .i64 (0 : Int)), .v (.int .i64 (0 : Int)), .v (.string ByteArray.empty), .nl, .nl]⟩), (5, ⟨.node, [.v (.int .i64 vb5_0), .v (.int .i64 vb5_1), .v (.string vb5_2), .h 768 0 0 [], .h 769 0 0 []]⟩)], [(768, .live ⟨.str, .deep, 0, [], vr768⟩), (769, .live ⟨.node, .deep, 0, [], (f31v0 vr769 vs6 vb2_4 vb3_2)⟩)]⟩)
            none)
          none)
        none)
      none)
    (k' (.exit 0) ⟨[(2, .c (.one (.pt 2 0))), (3, .c (.one (.pt 3 0))), (4, .c (.one (.pt 4 0))), (5, .c (.one (.pt 5 0))), (6, .c (.one (.v (.int .i64 vs6)))), (25, .c (.one (.v (.bool (decide (vs6 < (vb2_4.length : Int)))))))], [(2, ⟨.node, [.v (.int .i64 vb2_0), .v (.int .i64 vb2_1), .v (.string vb2_2), .ro .str vb2_3, .ro .node vb2_4]⟩), (3, ⟨.rule, [.v (.int .i64 vb3_0), .ro .str vb3_1, .ro .rule vb3_2, .ro .bool vb3_3, .v (.int .i64 vb3_4), .v (.int .i64 vb3_5)]⟩), (4, ⟨.node, [.v (.int .i64 (0 : Int)), .v (.int .i64 (0 : Int)), .v (.string ByteArray.empty), .nl, .nl]⟩), (5, ⟨.node, [.v (.int .i64 vb5_0), .v (.int .i64 vb5_1), .v (.string vb5_2), .h 768 0 0 [], .h 769 0 0 []]⟩)], [(768, .live ⟨.str, .deep, 0, [], vr768⟩), (769, .live ⟨.node, .deep, 0, [], vr769⟩)]⟩)) := by kernel_rfl
theorem f31L0_eq {R : Type} (N : Nat) (n : Nat) (k' : Ex → St → Option R) (vb2_0 : Int) (vb2_1 : Int) (vb2_2 : ByteArray) (vb2_3 : List ByteArray) (vb2_4 : List NodeT) (vb3_0 : Int) (vb3_1 : List ByteArray) (vb3_2 : List RuleT) (vb3_3 : List Bool) (vb3_4 : Int) (vb3_5 : Int) (vb5_0 : Int) (vb5_1 : Int) (vb5_2 : ByteArray) (vr768 : List ByteArray) : ∀ (m : Nat) (vs6 : Int) (vr769 : List NodeT), iter (fun st k => ev (f31e N) f31k n (cAt [1,1,0,1,0,1,0,0] f31c) st k) m ⟨[(2, .c (.one (.pt 2 0))), (3, .c (.one (.pt 3 0))), (4, .c (.one (.pt 4 0))), (5, .c (.one (.pt 5 0))), (6, .c (.one (.v (.int .i64 vs6))))], [(2, ⟨.node, [.v (.int .i64 vb2_0), .v (.int .i64 vb2_1), .v (.string vb2_2), .ro .str vb2_3, .ro .node vb2_4]⟩), (3, ⟨.rule, [.v (.int .i64 vb3_0), .ro .str vb3_1, .ro .rule vb3_2, .ro .bool vb3_3, .v (.int .i64 vb3_4), .v (.int .i64 vb3_5)]⟩), (4, ⟨.node, [.v (.int .i64 (0 : Int)), .v (.int .i64 (0 : Int)), .v (.string ByteArray.empty), .nl, .nl]⟩), (5, ⟨.node, [.v (.int .i64 vb5_0), .v (.int .i64 vb5_1), .v (.string vb5_2), .h 768 0 0 [], .h 769 0 0 []]⟩)], [(768, .live ⟨.str, .deep, 0, [], vr768⟩), (769, .live ⟨.node, .deep, 0, [], vr769⟩)]⟩ k' = f31L0 N n (fun (xvs6 : Int) (xvs25 : Bool) (xvr769 : List NodeT) => k' (.exit 0) ⟨[(2, .c (.one (.pt 2 0))), (3, .c (.one (.pt 3 0))), (4, .c (.one (.pt 4 0))), (5, .c (.one (.pt 5 0))), (6, .c (.one (.v (.int .i64 xvs6)))), (25, .c (.one (.v (.bool xvs25))))], [(2, ⟨.node, [.v (.int .i64 vb2_0), .v (.int .i64 vb2_1), .v (.string vb2_2), .ro .str vb2_3, .ro .node vb2_4]⟩), (3, ⟨.rule, [.v (.int .i64 vb3_0), .ro .str vb3_1, .ro .rule vb3_2, .ro .bool vb3_3, .v (.int .i64 vb3_4), .v (.int .i64 vb3_5)]⟩), (4, ⟨.node, [.v (.int .i64 (0 : Int)), .v (.int .i64 (0 : Int)), .v (.string ByteArray.empty), .nl, .nl]⟩), (5, ⟨.node, [.v (.int .i64 vb5_0), .v (.int .i64 vb5_1), .v (.string vb5_2), .h 768 0 0 [], .h 769 0 0 []]⟩)], [(768, .live ⟨.str, .deep, 0, [], vr768⟩), (769, .live ⟨.node, .deep, 0, [], xvr769⟩)]⟩) vb2_0 vb2_1 vb2_2 vb2_3 vb2_4 vb3_0 vb3_1 vb3_2 vb3_3 vb3_4 vb3_5 vb5_0 vb5_1 vb5_2 vr768 m vs6 vr769 := by
  intro m; induction m with
  | zero => intros; rfl
  | succ m ih =>
    intro vs6 vr769
    simp only [iter]
    rw [f31L0_b]
    simp only [ih, f31L0]

noncomputable def f31L1 {R : Type} (N : Nat) (n : Nat) (x0 : Int → Bool → (List ByteArray) → (List NodeT) → Option R) (vb2_0 : Int) (vb2_1 : Int) (vb2_2 : ByteArray) (vb2_3 : List ByteArray) (vb2_4 : List NodeT) (vb3_0 : Int) (vb3_1 : List ByteArray) (vb3_2 : List RuleT) (vb3_3 : List Bool) (vb3_4 : Int) (vb3_5 : Int) (vb5_0 : Int) (vb5_1 : Int) (vb5_2 : ByteArray) (vr768 : List ByteArray) (vr769 : List NodeT) : Nat → Int → (List ByteArray) → (List NodeT) → Option R
  | 0, _, _, _ => none
  | m + 1, vs9, vr3264, vr3328 =>
    (cond (decide (vs9 < (vb2_3.length : Int)))
      (cond ((decide ((0 : Int) ≤ vs9)) && (decide (vs9 < (vb2_3.length : Int))))
        (cond ((fun (r : RuleT) (_ : ByteArray) => sm_rule r) (⟨vb3_0, vb3_1, vb3_2, vb3_3, vb3_4, vb3_5⟩ : RuleT) (atI (t := .str) vb2_3 (Int.toNat vs9)))
          (cond (decide ((ruleAt (⟨vb3_0, vb3_1, vb3_2, vb3_3, vb3_4, vb3_5⟩ : RuleT) (atI (t := .str) vb2_3 (Int.toNat vs9))) ≥ (0 : Int)))
            (cond ((decide ((0 : Int) ≤ vs9)) && (decide (vs9 < (vb2_3.length : Int))))
              (cond (Nat.ble (vr3264.length + 1) LIM)
                (cond ((decide ((0 : Int) ≤ vs9)) && (decide (vs9 < (vb2_4.length : Int))))
                  (cond ((decide ((0 : Int) ≤ (ruleAt (⟨vb3_0, vb3_1, vb3_2, vb3_3, vb3_4, vb3_5⟩ : RuleT) (atI (t := .str) vb2_3 (Int.toNat vs9))))) && (decide ((ruleAt (⟨vb3_0, vb3_1, vb3_2, vb3_3, vb3_4, vb3_5⟩ : RuleT) (atI (t := .str) vb2_3 (Int.toNat vs9))) < (vb3_2.length : Int))))
                    (cond ((gPr (⟨(NodeT.kind (atI (t := .node) vb2_4 (Int.toNat vs9))), (NodeT.n (atI (t := .node) vb2_4 (Int.toNat vs9))), (NodeT.s (atI (t := .node) vb2_4 (Int.toNat vs9))), (NodeT.keys (atI (t := .node) vb2_4 (Int.toNat vs9))), (NodeT.kids (atI (t := .node) vb2_4 (Int.toNat vs9)))⟩ : NodeT) (⟨(RuleT.kind (atI (t := .rule) vb3_2 (Int.toNat (ruleAt (⟨vb3_0, vb3_1, vb3_2, vb3_3, vb3_4, vb3_5⟩ : RuleT) (atI (t := .str) vb2_3 (Int.toNat vs9)))))), (RuleT.keys (atI (t := .rule) vb3_2 (Int.toNat (ruleAt (⟨vb3_0, vb3_1, vb3_2, vb3_3, vb3_4, vb3_5⟩ : RuleT) (atI (t := .str) vb2_3 (Int.toNat vs9)))))), (RuleT.kids (atI (t := .rule) vb3_2 (Int.toNat (ruleAt (⟨vb3_0, vb3_1, vb3_2, vb3_3, vb3_4, vb3_5⟩ : RuleT) (atI (t := .str) vb2_3 (Int.toNat vs9)))))), (RuleT.need (atI (t := .rule) vb3_2 (Int.toNat (ruleAt (⟨vb3_0, vb3_1, vb3_2, vb3_3, vb3_4, vb3_5⟩ : RuleT) (atI (t := .str) vb2_3 (Int.toNat vs9)))))), (RuleT.low (atI (t := .rule) vb3_2 (Int.toNat (ruleAt (⟨vb3_0, vb3_1, vb3_2, vb3_3, vb3_4, vb3_5⟩ : RuleT) (atI (t := .str) vb2_3 (Int.toNat vs9)))))), (RuleT.high (atI (t := .rule) vb3_2 (Int.toNat (ruleAt (⟨vb3_0, vb3_1, vb3_2, vb3_3, vb3_4, vb3_5⟩ : RuleT) (atI (t := .str) vb2_3 (Int.toNat vs9))))))⟩ : RuleT)) && (Nat.blt ((fun (t : NodeT) (_ : RuleT) => nd_node t) (⟨(NodeT.kind (atI (t := .node) vb2_4 (Int.toNat vs9))), (NodeT.n (atI (t := .node) vb2_4 (Int.toNat vs9))), (NodeT.s (atI (t := .node) vb2_4 (Int.toNat vs9))), (NodeT.keys (atI (t := .node) vb2_4 (Int.toNat vs9))), (NodeT.kids (atI (t := .node) vb2_4 (Int.toNat vs9)))⟩ : NodeT) (⟨(RuleT.kind (atI (t := .rule) vb3_2 (Int.toNat (ruleAt (⟨vb3_0, vb3_1, vb3_2, vb3_3, vb3_4, vb3_5⟩ : RuleT) (atI (t := .str) vb2_3 (Int.toNat vs9)))))), (RuleT.keys (atI (t := .rule) vb3_2 (Int.toNat (ruleAt (⟨vb3_0, vb3_1, vb3_2, vb3_3, vb3_4, vb3_5⟩ : RuleT) (atI (t := .str) vb2_3 (Int.toNat vs9)))))), (RuleT.kids (atI (t := .rule) vb3_2 (Int.toNat (ruleAt (⟨vb3_0, vb3_1, vb3_2, vb3_3, vb3_4, vb3_5⟩ : RuleT) (atI (t := .str) vb2_3 (Int.toNat vs9)))))), (RuleT.need (atI (t := .rule) vb3_2 (Int.toNat (ruleAt (⟨vb3_0, vb3_1, vb3_2, vb3_3, vb3_4, vb3_5⟩ : RuleT) (atI (t := .str) vb2_3 (Int.toNat vs9)))))), (RuleT.low (atI (t := .rule) vb3_2 (Int.toNat (ruleAt (⟨vb3_0, vb3_1, vb3_2, vb3_3, vb3_4, vb3_5⟩ : RuleT) (atI (t := .str) vb2_3 (Int.toNat vs9)))))), (RuleT.high (atI (t := .rule) vb3_2 (Int.toNat (ruleAt (⟨vb3_0, vb3_1, vb3_2, vb3_3, vb3_4, vb3_5⟩ : RuleT) (atI (t := .str) vb2_3 (Int.toNat vs9))))))⟩ : RuleT)) N))
                      (cond (Nat.ble (vr3328.length + 1) LIM)
                        (f31L1 N n x0 vb2_0 vb2_1 vb2_2 vb2_3 vb2_4 vb3_0 vb3_1 vb3_2 vb3_3 vb3_4 vb3_5 vb5_0 vb5_1 vb5_2 vr768 vr769 m (IntKind.wrap .i64 (vs9 + (1 : Int))) (vr3264 ++ ([(atI (t := .str) vb2_3 (Int.toNat vs9))] : List ByteArray)) (vr3328 ++ ([(⟨(NodeT.kind (prune (⟨(NodeT.kind (atI (t := .node) vb2_4 (Int.toNat vs9))), (NodeT.n (atI (t := .node) vb2_4 (Int.toNat vs9))), (NodeT.s (atI (t := .node) vb2_4 (Int.toNat vs9))), (NodeT.keys (atI (t := .node) vb2_4 (Int.toNat vs9))), (NodeT.kids (atI (t := .node) vb2_4 (Int.toNat vs9)))⟩ : NodeT) (⟨(RuleT.kind (atI (t := .rule) vb3_2 (Int.toNat (ruleAt (⟨vb3_0, vb3_1, vb3_2, vb3_3, vb3_4, vb3_5⟩ : RuleT) (atI (t := .str) vb2_3 (Int.toNat vs9)))))), (RuleT.keys (atI (t := .rule) vb3_2 (Int.toNat (ruleAt (⟨vb3_0, vb3_1, vb3_2, vb3_3, vb3_4, vb3_5⟩ : RuleT) (atI (t := .str) vb2_3 (Int.toNat vs9)))))), (RuleT.kids (atI (t := .rule) vb3_2 (Int.toNat (ruleAt (⟨vb3_0, vb3_1, vb3_2, vb3_3, vb3_4, vb3_5⟩ : RuleT) (atI (t := .str) vb2_3 (Int.toNat vs9)))))), (RuleT.need (atI (t := .rule) vb3_2 (Int.toNat (ruleAt (⟨vb3_0, vb3_1, vb3_2, vb3_3, vb3_4, vb3_5⟩ : RuleT) (atI (t := .str) vb2_3 (Int.toNat vs9)))))), (RuleT.low (atI (t := .rule) vb3_2 (Int.toNat (ruleAt (⟨vb3_0, vb3_1, vb3_2, vb3_3, vb3_4, vb3_5⟩ : RuleT) (atI (t := .str) vb2_3 (Int.toNat vs9)))))), (RuleT.high (atI (t := .rule) vb3_2 (Int.toNat (ruleAt (⟨vb3_0, vb3_1, vb3_2, vb3_3, vb3_4, vb3_5⟩ : RuleT) (atI (t := .str) vb2_3 (Int.toNat vs9))))))⟩ : RuleT))), (NodeT.n (prune (⟨(NodeT.kind (atI (t := .node) vb2_4 (Int.toNat vs9))), (NodeT.n (atI (t := .node) vb2_4 (Int.toNat vs9))), (NodeT.s (atI (t := .node) vb2_4 (Int.toNat vs9))), (NodeT.keys (atI (t := .node) vb2_4 (Int.toNat vs9))), (NodeT.kids (atI (t := .node) vb2_4 (Int.toNat vs9)))⟩ : NodeT) (⟨(RuleT.kind (atI (t := .rule) vb3_2 (Int.toNat (ruleAt (⟨vb3_0, vb3_1, vb3_2, vb3_3, vb3_4, vb3_5⟩ : RuleT) (atI (t := .str) vb2_3 (Int.toNat vs9)))))), (RuleT.keys (atI (t := .rule) vb3_2 (Int.toNat (ruleAt (⟨vb3_0, vb3_1, vb3_2, vb3_3, vb3_4, vb3_5⟩ : RuleT) (atI (t := .str) vb2_3 (Int.toNat vs9)))))), (RuleT.kids (atI (t := .rule) vb3_2 (Int.toNat (ruleAt (⟨vb3_0, vb3_1, vb3_2, vb3_3, vb3_4, vb3_5⟩ : RuleT) (atI (t := .str) vb2_3 (Int.toNat vs9)))))), (RuleT.need (atI (t := .rule) vb3_2 (Int.toNat (ruleAt (⟨vb3_0, vb3_1, vb3_2, vb3_3, vb3_4, vb3_5⟩ : RuleT) (atI (t := .str) vb2_3 (Int.toNat vs9)))))), (RuleT.low (atI (t := .rule) vb3_2 (Int.toNat (ruleAt (⟨vb3_0, vb3_1, vb3_2, vb3_3, vb3_4, vb3_5⟩ : RuleT) (atI (t := .str) vb2_3 (Int.toNat vs9)))))), (RuleT.high (atI (t := .rule) vb3_2 (Int.toNat (ruleAt (⟨vb3_0, vb3_1, vb3_2, vb3_3, vb3_4, vb3_5⟩ : RuleT) (atI (t := .str) vb2_3 (Int.toNat vs9))))))⟩ : RuleT))), (NodeT.s (prune (⟨(NodeT.kind (atI (t := .node) vb2_4 (Int.toNat vs9))), (NodeT.n (atI (t := .node) vb2_4 (Int.toNat vs9))), (NodeT.s (atI (t := .node) vb2_4 (Int.toNat vs9))), (NodeT.keys (atI (t := .node) vb2_4 (Int.toNat vs9))), (NodeT.kids (atI (t := .node) vb2_4 (Int.toNat vs9)))⟩ : NodeT) (⟨(RuleT.kind (atI (t := .rule) vb3_2 (Int.toNat (ruleAt (⟨vb3_0, vb3_1, vb3_2, vb3_3, vb3_4, vb3_5⟩ : RuleT) (atI (t := .str) vb2_3 (Int.toNat vs9)))))), (RuleT.keys (atI (t := .rule) vb3_2 (Int.toNat (ruleAt (⟨vb3_0, vb3_1, vb3_2, vb3_3, vb3_4, vb3_5⟩ : RuleT) (atI (t := .str) vb2_3 (Int.toNat vs9)))))), (RuleT.kids (atI (t := .rule) vb3_2 (Int.toNat (ruleAt (⟨vb3_0, vb3_1, vb3_2, vb3_3, vb3_4, vb3_5⟩ : RuleT) (atI (t := .str) vb2_3 (Int.toNat vs9)))))), (RuleT.need (atI (t := .rule) vb3_2 (Int.toNat (ruleAt (⟨vb3_0, vb3_1, vb3_2, vb3_3, vb3_4, vb3_5⟩ : RuleT) (atI (t := .str) vb2_3 (Int.toNat vs9)))))), (RuleT.low (atI (t := .rule) vb3_2 (Int.toNat (ruleAt (⟨vb3_0, vb3_1, vb3_2, vb3_3, vb3_4, vb3_5⟩ : RuleT) (atI (t := .str) vb2_3 (Int.toNat vs9)))))), (RuleT.high (atI (t := .rule) vb3_2 (Int.toNat (ruleAt (⟨vb3_0, vb3_1, vb3_2, vb3_3, vb3_4, vb3_5⟩ : RuleT) (atI (t := .str) vb2_3 (Int.toNat vs9))))))⟩ : RuleT))), (NodeT.keys (prune (⟨(NodeT.kind (atI (t := .node) vb2_4 (Int.toNat vs9))), (NodeT.n (atI (t := .node) vb2_4 (Int.toNat vs9))), (NodeT.s (atI (t := .node) vb2_4 (Int.toNat vs9))), (NodeT.keys (atI (t := .node) vb2_4 (Int.toNat vs9))), (NodeT.kids (atI (t := .node) vb2_4 (Int.toNat vs9)))⟩ : NodeT) (⟨(RuleT.kind (atI (t := .rule) vb3_2 (Int.toNat (ruleAt (⟨vb3_0, vb3_1, vb3_2, vb3_3, vb3_4, vb3_5⟩ : RuleT) (atI (t := .str) vb2_3 (Int.toNat vs9)))))), (RuleT.keys (atI (t := .rule) vb3_2 (Int.toNat (ruleAt (⟨vb3_0, vb3_1, vb3_2, vb3_3, vb3_4, vb3_5⟩ : RuleT) (atI (t := .str) vb2_3 (Int.toNat vs9)))))), (RuleT.kids (atI (t := .rule) vb3_2 (Int.toNat (ruleAt (⟨vb3_0, vb3_1, vb3_2, vb3_3, vb3_4, vb3_5⟩ : RuleT) (atI (t := .str) vb2_3 (Int.toNat vs9)))))), (RuleT.need (atI (t := .rule) vb3_2 (Int.toNat (ruleAt (⟨vb3_0, vb3_1, vb3_2, vb3_3, vb3_4, vb3_5⟩ : RuleT) (atI (t := .str) vb2_3 (Int.toNat vs9)))))), (RuleT.low (atI (t := .rule) vb3_2 (Int.toNat (ruleAt (⟨vb3_0, vb3_1, vb3_2, vb3_3, vb3_4, vb3_5⟩ : RuleT) (atI (t := .str) vb2_3 (Int.toNat vs9)))))), (RuleT.high (atI (t := .rule) vb3_2 (Int.toNat (ruleAt (⟨vb3_0, vb3_1, vb3_2, vb3_3, vb3_4, vb3_5⟩ : RuleT) (atI (t := .str) vb2_3 (Int.toNat vs9))))))⟩ : RuleT))), (NodeT.kids (prune (⟨(NodeT.kind (atI (t := .node) vb2_4 (Int.toNat vs9))), (NodeT.n (atI (t := .node) vb2_4 (Int.toNat vs9))), (NodeT.s (atI (t := .node) vb2_4 (Int.toNat vs9))), (NodeT.keys (atI (t := .node) vb2_4 (Int.toNat vs9))), (NodeT.kids (atI (t := .node) vb2_4 (Int.toNat vs9)))⟩ : NodeT) (⟨(RuleT.kind (atI (t := .rule) vb3_2 (Int.toNat (ruleAt (⟨vb3_0, vb3_1, vb3_2, vb3_3, vb3_4, vb3_5⟩ : RuleT) (atI (t := .str) vb2_3 (Int.toNat vs9)))))), (RuleT.keys (atI (t := .rule) vb3_2 (Int.toNat (ruleAt (⟨vb3_0, vb3_1, vb3_2, vb3_3, vb3_4, vb3_5⟩ : RuleT) (atI (t := .str) vb2_3 (Int.toNat vs9)))))), (RuleT.kids (atI (t := .rule) vb3_2 (Int.toNat (ruleAt (⟨vb3_0, vb3_1, vb3_2, vb3_3, vb3_4, vb3_5⟩ : RuleT) (atI (t := .str) vb2_3 (Int.toNat vs9)))))), (RuleT.need (atI (t := .rule) vb3_2 (Int.toNat (ruleAt (⟨vb3_0, vb3_1, vb3_2, vb3_3, vb3_4, vb3_5⟩ : RuleT) (atI (t := .str) vb2_3 (Int.toNat vs9)))))), (RuleT.low (atI (t := .rule) vb3_2 (Int.toNat (ruleAt (⟨vb3_0, vb3_1, vb3_2, vb3_3, vb3_4, vb3_5⟩ : RuleT) (atI (t := .str) vb2_3 (Int.toNat vs9)))))), (RuleT.high (atI (t := .rule) vb3_2 (Int.toNat (ruleAt (⟨vb3_0, vb3_1, vb3_2, vb3_3, vb3_4, vb3_5⟩ : RuleT) (atI (t := .str) vb2_3 (Int.toNat vs9))))))⟩ : RuleT)))⟩ : NodeT)] : List NodeT)))
                        none)
                      none)
                    none)
                  none)
                none)
              none)
            (f31L1 N n x0 vb2_0 vb2_1 vb2_2 vb2_3 vb2_4 vb3_0 vb3_1 vb3_2 vb3_3 vb3_4 vb3_5 vb5_0 vb5_1 vb5_2 vr768 vr769 m (IntKind.wrap .i64 (vs9 + (1 : Int))) vr3264 vr3328))
          none)
        none)
      (x0 vs9 (decide (vs9 < (vb2_3.length : Int))) vr3264 vr3328))
theorem f31L1_b {R : Type} (N : Nat) (n : Nat) (k' : Ex → St → Option R) (vs9 : Int) (vb2_0 : Int) (vb2_1 : Int) (vb2_2 : ByteArray) (vb2_3 : List ByteArray) (vb2_4 : List NodeT) (vb3_0 : Int) (vb3_1 : List ByteArray) (vb3_2 : List RuleT) (vb3_3 : List Bool) (vb3_4 : Int) (vb3_5 : Int) (vb5_0 : Int) (vb5_1 : Int) (vb5_2 : ByteArray) (vr768 : List ByteArray) (vr769 : List NodeT) (vr3264 : List ByteArray) (vr3328 : List NodeT) : ev (f31e N) f31k n (cAt [1,1,1,1,1,1,0,1,0,0] f31c) ⟨[(2, .c (.one (.pt 2 0))), (3, .c (.one (.pt 3 0))), (4, .c (.one (.pt 4 0))), (5, .c (.one (.pt 5 0))), (7, .c (.one (.h 3264 0 0 []))), (8, .c (.one (.h 3328 0 0 []))), (9, .c (.one (.v (.int .i64 vs9))))], [(2, ⟨.node, [.v (.int .i64 vb2_0), .v (.int .i64 vb2_1), .v (.string vb2_2), .ro .str vb2_3, .ro .node vb2_4]⟩), (3, ⟨.rule, [.v (.int .i64 vb3_0), .ro .str vb3_1, .ro .rule vb3_2, .ro .bool vb3_3, .v (.int .i64 vb3_4), .v (.int .i64 vb3_5)]⟩), (4, ⟨.node, [.v (.int .i64 (0 : Int)), .v (.int .i64 (0 : Int)), .v (.string ByteArray.empty), .nl, .nl]⟩), (5, ⟨.node, [.v (.int .i64 vb5_0), .v (.int .i64 vb5_1), .v (.string vb5_2), .h 768 0 0 [], .h 769 0 0 []]⟩)], [(768, .live ⟨.str, .deep, 0, [], vr768⟩), (769, .live ⟨.node, .deep, 0, [], vr769⟩), (3264, .live ⟨.str, .deep, 0, [], vr3264⟩), (3328, .live ⟨.node, .deep, 0, [], vr3328⟩)]⟩ k' =
    (cond (decide (vs9 < (vb2_3.length : Int)))
    (cond ((decide ((0 : Int) ≤ vs9)) && (decide (vs9 < (vb2_3.length : Int))))
      (cond ((fun (r : RuleT) (_ : ByteArray) => sm_rule r) (⟨vb3_0, vb3_1, vb3_2, vb3_3, vb3_4, vb3_5⟩ : RuleT) (atI (t := .str) vb2_3 (Int.toNat vs9)))
        (cond (decide ((ruleAt (⟨vb3_0, vb3_1, vb3_2, vb3_3, vb3_4, vb3_5⟩ : RuleT) (atI (t := .str) vb2_3 (Int.toNat vs9))) ≥ (0 : Int)))
          (cond ((decide ((0 : Int) ≤ vs9)) && (decide (vs9 < (vb2_3.length : Int))))
            (cond (Nat.ble (vr3264.length + 1) LIM)
              (cond ((decide ((0 : Int) ≤ vs9)) && (decide (vs9 < (vb2_4.length : Int))))
                (cond ((decide ((0 : Int) ≤ (ruleAt (⟨vb3_0, vb3_1, vb3_2, vb3_3, vb3_4, vb3_5⟩ : RuleT) (atI (t := .str) vb2_3 (Int.toNat vs9))))) && (decide ((ruleAt (⟨vb3_0, vb3_1, vb3_2, vb3_3, vb3_4, vb3_5⟩ : RuleT) (atI (t := .str) vb2_3 (Int.toNat vs9))) < (vb3_2.length : Int))))
                  (cond ((gPr (⟨(NodeT.kind (atI (t := .node) vb2_4 (Int.toNat vs9))), (NodeT.n (atI (t := .node) vb2_4 (Int.toNat vs9))), (NodeT.s (atI (t := .node) vb2_4 (Int.toNat vs9))), (NodeT.keys (atI (t := .node) vb2_4 (Int.toNat vs9))), (NodeT.kids (atI (t := .node) vb2_4 (Int.toNat vs9)))⟩ : NodeT) (⟨(RuleT.kind (atI (t := .rule) vb3_2 (Int.toNat (ruleAt (⟨vb3_0, vb3_1, vb3_2, vb3_3, vb3_4, vb3_5⟩ : RuleT) (atI (t := .str) vb2_3 (Int.toNat vs9)))))), (RuleT.keys (atI (t := .rule) vb3_2 (Int.toNat (ruleAt (⟨vb3_0, vb3_1, vb3_2, vb3_3, vb3_4, vb3_5⟩ : RuleT) (atI (t := .str) vb2_3 (Int.toNat vs9)))))), (RuleT.kids (atI (t := .rule) vb3_2 (Int.toNat (ruleAt (⟨vb3_0, vb3_1, vb3_2, vb3_3, vb3_4, vb3_5⟩ : RuleT) (atI (t := .str) vb2_3 (Int.toNat vs9)))))), (RuleT.need (atI (t := .rule) vb3_2 (Int.toNat (ruleAt (⟨vb3_0, vb3_1, vb3_2, vb3_3, vb3_4, vb3_5⟩ : RuleT) (atI (t := .str) vb2_3 (Int.toNat vs9)))))), (RuleT.low (atI (t := .rule) vb3_2 (Int.toNat (ruleAt (⟨vb3_0, vb3_1, vb3_2, vb3_3, vb3_4, vb3_5⟩ : RuleT) (atI (t := .str) vb2_3 (Int.toNat vs9)))))), (RuleT.high (atI (t := .rule) vb3_2 (Int.toNat (ruleAt (⟨vb3_0, vb3_1, vb3_2, vb3_3, vb3_4, vb3_5⟩ : RuleT) (atI (t := .str) vb2_3 (Int.toNat vs9))))))⟩ : RuleT)) && (Nat.blt ((fun (t : NodeT) (_ : RuleT) => nd_node t) (⟨(NodeT.kind (atI (t := .node) vb2_4 (Int.toNat vs9))), (NodeT.n (atI (t := .node) vb2_4 (Int.toNat vs9))), (NodeT.s (atI (t := .node) vb2_4 (Int.toNat vs9))), (NodeT.keys (atI (t := .node) vb2_4 (Int.toNat vs9))), (NodeT.kids (atI (t := .node) vb2_4 (Int.toNat vs9)))⟩ : NodeT) (⟨(RuleT.kind (atI (t := .rule) vb3_2 (Int.toNat (ruleAt (⟨vb3_0, vb3_1, vb3_2, vb3_3, vb3_4, vb3_5⟩ : RuleT) (atI (t := .str) vb2_3 (Int.toNat vs9)))))), (RuleT.keys (atI (t := .rule) vb3_2 (Int.toNat (ruleAt (⟨vb3_0, vb3_1, vb3_2, vb3_3, vb3_4, vb3_5⟩ : RuleT) (atI (t := .str) vb2_3 (Int.toNat vs9)))))), (RuleT.kids (atI (t := .rule) vb3_2 (Int.toNat (ruleAt (⟨vb3_0, vb3_1, vb3_2, vb3_3, vb3_4, vb3_5⟩ : RuleT) (atI (t := .str) vb2_3 (Int.toNat vs9)))))), (RuleT.need (atI (t := .rule) vb3_2 (Int.toNat (ruleAt (⟨vb3_0, vb3_1, vb3_2, vb3_3, vb3_4, vb3_5⟩ : RuleT) (atI (t := .str) vb2_3 (Int.toNat vs9)))))), (RuleT.low (atI (t := .rule) vb3_2 (Int.toNat (ruleAt (⟨vb3_0, vb3_1, vb3_2, vb3_3, vb3_4, vb3_5⟩ : RuleT) (atI (t := .str) vb2_3 (Int.toNat vs9)))))), (RuleT.high (atI (t := .rule) vb3_2 (Int.toNat (ruleAt (⟨vb3_0, vb3_1, vb3_2, vb3_3, vb3_4, vb3_5⟩ : RuleT) (atI (t := .str) vb2_3 (Int.toNat vs9))))))⟩ : RuleT)) N))
                    (cond (Nat.ble (vr3328.length + 1) LIM)
                      (k' .normal ⟨[(2, .c (.one (.pt 2 0))), (3, .c (.one (.pt 3 0))), (4, .c (.one (.pt 4 0))), (5, .c (.one (.pt 5 0))), (7, .c (.one (.h 3264 0 0 []))), (8, .c (.one (.h 3328 0 0 []))), (9, .c (.one (.v (.int .i64 (IntKind.wrap .i64 (vs9 + (1 : Int)))))))], [(2, ⟨.node, [.v (.int .i64 vb2_0), .v (.int .i64 vb2_1), .v (.string vb2_2), .ro .str vb2_3, .ro .node vb2_4]⟩), (3, ⟨.rule, [.v (.int .i64 vb3_0), .ro .str vb3_1, .ro .rule vb3_2, .ro .bool vb3_3, .v (.int .i64 vb3_4), .v (.int .i64 vb3_5)]⟩), (4, ⟨.node, [.v (.int .i64 (0 : Int)), .v (.int .i64 (0 : Int)), .v (.string ByteArray.empty), .nl, .nl]⟩), (5, ⟨.node, [.v (.int .i64 vb5_0), .v (.int .i64 vb5_1), .v (.string vb5_2), .h 768 0 0 [], .h 769 0 0 []]⟩)], [(768, .live ⟨.str, .deep, 0, [], vr768⟩), (769, .live ⟨.node, .deep, 0, [], vr769⟩), (3264, .live ⟨.str, .deep, 0, [], (vr3264 ++ ([(atI (t := .str) vb2_3 (Int.toNat vs9))] : List ByteArray))⟩), (3328, .live ⟨.node, .deep, 0, [], (vr3328 ++ ([(⟨(NodeT.kind (prune (⟨(NodeT.kind (atI (t := .node) vb2_4 (Int.toNat vs9))), (NodeT.n (atI (t := .node) vb2_4 (Int.toNat vs9))), (NodeT.s (atI (t := .node) vb2_4 (Int.toNat vs9))), (NodeT.keys (atI (t := .node) vb2_4 (Int.toNat vs9))), (NodeT.kids (atI (t := .node) vb2_4 (Int.toNat vs9)))⟩ : NodeT) (⟨(RuleT.kind (atI (t := .rule) vb3_2 (Int.toNat (ruleAt (⟨vb3_0, vb3_1, vb3_2, vb3_3, vb3_4, vb3_5⟩ : RuleT) (atI (t := .str) vb2_3 (Int.toNat vs9)))))), (RuleT.keys (atI (t := .rule) vb3_2 (Int.toNat (ruleAt (⟨vb3_0, vb3_1, vb3_2, vb3_3, vb3_4, vb3_5⟩ : RuleT) (atI (t := .str) vb2_3 (Int.toNat vs9)))))), (RuleT.kids (atI (t := .rule) vb3_2 (Int.toNat (ruleAt (⟨vb3_0, vb3_1, vb3_2, vb3_3, vb3_4, vb3_5⟩ : RuleT) (atI (t := .str) vb2_3 (Int.toNat vs9)))))), (RuleT.need (atI (t := .rule) vb3_2 (Int.toNat (ruleAt (⟨vb3_0, vb3_1, vb3_2, vb3_3, vb3_4, vb3_5⟩ : RuleT) (atI (t := .str) vb2_3 (Int.toNat vs9)))))), (RuleT.low (atI (t := .rule) vb3_2 (Int.toNat (ruleAt (⟨vb3_0, vb3_1, vb3_2, vb3_3, vb3_4, vb3_5⟩ : RuleT) (atI (t := .str) vb2_3 (Int.toNat vs9)))))), (RuleT.high (atI (t := .rule) vb3_2 (Int.toNat (ruleAt (⟨vb3_0, vb3_1, vb3_2, vb3_3, vb3_4, vb3_5⟩ : RuleT) (atI (t := .str) vb2_3 (Int.toNat vs9))))))⟩ : RuleT))), (NodeT.n (prune (⟨(NodeT.kind (atI (t := .node) vb2_4 (Int.toNat vs9))), (NodeT.n (atI (t := .node) vb2_4 (Int.toNat vs9))), (NodeT.s (atI (t := .node) vb2_4 (Int.toNat vs9))), (NodeT.keys (atI (t := .node) vb2_4 (Int.toNat vs9))), (NodeT.kids (atI (t := .node) vb2_4 (Int.toNat vs9)))⟩ : NodeT) (⟨(RuleT.kind (atI (t := .rule) vb3_2 (Int.toNat (ruleAt (⟨vb3_0, vb3_1, vb3_2, vb3_3, vb3_4, vb3_5⟩ : RuleT) (atI (t := .str) vb2_3 (Int.toNat vs9)))))), (RuleT.keys (atI (t := .rule) vb3_2 (Int.toNat (ruleAt (⟨vb3_0, vb3_1, vb3_2, vb3_3, vb3_4, vb3_5⟩ : RuleT) (atI (t := .str) vb2_3 (Int.toNat vs9)))))), (RuleT.kids (atI (t := .rule) vb3_2 (Int.toNat (ruleAt (⟨vb3_0, vb3_1, vb3_2, vb3_3, vb3_4, vb3_5⟩ : RuleT) (atI (t := .str) vb2_3 (Int.toNat vs9)))))), (RuleT.need (atI (t := .rule) vb3_2 (Int.toNat (ruleAt (⟨vb3_0, vb3_1, vb3_2, vb3_3, vb3_4, vb3_5⟩ : RuleT) (atI (t := .str) vb2_3 (Int.toNat vs9)))))), (RuleT.low (atI (t := .rule) vb3_2 (Int.toNat (ruleAt (⟨vb3_0, vb3_1, vb3_2, vb3_3, vb3_4, vb3_5⟩ : RuleT) (atI (t := .str) vb2_3 (Int.toNat vs9)))))), (RuleT.high (atI (t := .rule) vb3_2 (Int.toNat (ruleAt (⟨vb3_0, vb3_1, vb3_2, vb3_3, vb3_4, vb3_5⟩ : RuleT) (atI (t := .str) vb2_3 (Int.toNat vs9))))))⟩ : RuleT))), (NodeT.s (prune (⟨(NodeT.kind (atI (t := .node) vb2_4 (Int.toNat vs9))), (NodeT.n (atI (t := .node) vb2_4 (Int.toNat vs9))), (NodeT.s (atI (t := .node) vb2_4 (Int.toNat vs9))), (NodeT.keys (atI (t := .node) vb2_4 (Int.toNat vs9))), (NodeT.kids (atI (t := .node) vb2_4 (Int.toNat vs9)))⟩ : NodeT) (⟨(RuleT.kind (atI (t := .rule) vb3_2 (Int.toNat (ruleAt (⟨vb3_0, vb3_1, vb3_2, vb3_3, vb3_4, vb3_5⟩ : RuleT) (atI (t := .str) vb2_3 (Int.toNat vs9)))))), (RuleT.keys (atI (t := .rule) vb3_2 (Int.toNat (ruleAt (⟨vb3_0, vb3_1, vb3_2, vb3_3, vb3_4, vb3_5⟩ : RuleT) (atI (t := .str) vb2_3 (Int.toNat vs9)))))), (RuleT.kids (atI (t := .rule) vb3_2 (Int.toNat (ruleAt (⟨vb3_0, vb3_1, vb3_2, vb3_3, vb3_4, vb3_5⟩ : RuleT) (atI (t := .str) vb2_3 (Int.toNat vs9)))))), (RuleT.need (atI (t := .rule) vb3_2 (Int.toNat (ruleAt (⟨vb3_0, vb3_1, vb3_2, vb3_3, vb3_4, vb3_5⟩ : RuleT) (atI (t := .str) vb2_3 (Int.toNat vs9)))))), (RuleT.low (atI (t := .rule) vb3_2 (Int.toNat (ruleAt (⟨vb3_0, vb3_1, vb3_2, vb3_3, vb3_4, vb3_5⟩ : RuleT) (atI (t := .str) vb2_3 (Int.toNat vs9)))))), (RuleT.high (atI (t := .rule) vb3_2 (Int.toNat (ruleAt (⟨vb3_0, vb3_1, vb3_2, vb3_3, vb3_4, vb3_5⟩ : RuleT) (atI (t := .str) vb2_3 (Int.toNat vs9))))))⟩ : RuleT))), (NodeT.keys (prune (⟨(NodeT.kind (atI (t := .node) vb2_4 (Int.toNat vs9))), (NodeT.n (atI (t := .node) vb2_4 (Int.toNat vs9))), (NodeT.s (atI (t := .node) vb2_4 (Int.toNat vs9))), (NodeT.keys (atI (t := .node) vb2_4 (Int.toNat vs9))), (NodeT.kids (atI (t := .node) vb2_4 (Int.toNat vs9)))⟩ : NodeT) (⟨(RuleT.kind (atI (t := .rule) vb3_2 (Int.toNat (ruleAt (⟨vb3_0, vb3_1, vb3_2, vb3_3, vb3_4, vb3_5⟩ : RuleT) (atI (t := .str) vb2_3 (Int.toNat vs9)))))), (RuleT.keys (atI (t := .rule) vb3_2 (Int.toNat (ruleAt (⟨vb3_0, vb3_1, vb3_2, vb3_3, vb3_4, vb3_5⟩ : RuleT) (atI (t := .str) vb2_3 (Int.toNat vs9)))))), (RuleT.kids (atI (t := .rule) vb3_2 (Int.toNat (ruleAt (⟨vb3_0, vb3_1, vb3_2, vb3_3, vb3_4, vb3_5⟩ : RuleT) (atI (t := .str) vb2_3 (Int.toNat vs9)))))), (RuleT.need (atI (t := .rule) vb3_2 (Int.toNat (ruleAt (⟨vb3_0, vb3_1, vb3_2, vb3_3, vb3_4, vb3_5⟩ : RuleT) (atI (t := .str) vb2_3 (Int.toNat vs9)))))), (RuleT.low (atI (t := .rule) vb3_2 (Int.toNat (ruleAt (⟨vb3_0, vb3_1, vb3_2, vb3_3, vb3_4, vb3_5⟩ : RuleT) (atI (t := .str) vb2_3 (Int.toNat vs9)))))), (RuleT.high (atI (t := .rule) vb3_2 (Int.toNat (ruleAt (⟨vb3_0, vb3_1, vb3_2, vb3_3, vb3_4, vb3_5⟩ : RuleT) (atI (t := .str) vb2_3 (Int.toNat vs9))))))⟩ : RuleT))), (NodeT.kids (prune (⟨(NodeT.kind (atI (t := .node) vb2_4 (Int.toNat vs9))), (NodeT.n (atI (t := .node) vb2_4 (Int.toNat vs9))), (NodeT.s (atI (t := .node) vb2_4 (Int.toNat vs9))), (NodeT.keys (atI (t := .node) vb2_4 (Int.toNat vs9))), (NodeT.kids (atI (t := .node) vb2_4 (Int.toNat vs9)))⟩ : NodeT) (⟨(RuleT.kind (atI (t := .rule) vb3_2 (Int.toNat (ruleAt (⟨vb3_0, vb3_1, vb3_2, vb3_3, vb3_4, vb3_5⟩ : RuleT) (atI (t := .str) vb2_3 (Int.toNat vs9)))))), (RuleT.keys (atI (t := .rule) vb3_2 (Int.toNat (ruleAt (⟨vb3_0, vb3_1, vb3_2, vb3_3, vb3_4, vb3_5⟩ : RuleT) (atI (t := .str) vb2_3 (Int.toNat vs9)))))), (RuleT.kids (atI (t := .rule) vb3_2 (Int.toNat (ruleAt (⟨vb3_0, vb3_1, vb3_2, vb3_3, vb3_4, vb3_5⟩ : RuleT) (atI (t := .str) vb2_3 (Int.toNat vs9)))))), (RuleT.need (atI (t := .rule) vb3_2 (Int.toNat (ruleAt (⟨vb3_0, vb3_1, vb3_2, vb3_3, vb3_4, vb3_5⟩ : RuleT) (atI (t := .str) vb2_3 (Int.toNat vs9)))))), (RuleT.low (atI (t := .rule) vb3_2 (Int.toNat (ruleAt (⟨vb3_0, vb3_1, vb3_2, vb3_3, vb3_4, vb3_5⟩ : RuleT) (atI (t := .str) vb2_3 (Int.toNat vs9)))))), (RuleT.high (atI (t := .rule) vb3_2 (Int.toNat (ruleAt (⟨vb3_0, vb3_1, vb3_2, vb3_3, vb3_4, vb3_5⟩ : RuleT) (atI (t := .str) vb2_3 (Int.toNat vs9))))))⟩ : RuleT)))⟩ : NodeT)] : List NodeT))⟩)]⟩)
                      none)
                    none)
                  none)
                none)
              none)
            none)
          (k' .normal ⟨[(2, .c (.one (.pt 2 0))), (3, .c (.one (.pt 3 0))), (4, .c (.one (.pt 4 0))), (5, .c (.one (.pt 5 0))), (7, .c (.one (.h 3264 0 0 []))), (8, .c (.one (.h 3328 0 0 []))), (9, .c (.one (.v (.int .i64 (IntKind.wrap .i64 (vs9 + (1 : Int)))))))], [(2, ⟨.node, [.v (.int .i64 vb2_0), .v (.int .i64 vb2_1), .v (.string vb2_2), .ro .str vb2_3, .ro .node vb2_4]⟩), (3, ⟨.rule, [.v (.int .i64 vb3_0), .ro .str vb3_1, .ro .rule vb3_2, .ro .bool vb3_3, .v (.int .i64 vb3_4), .v (.int .i64 vb3_5)]⟩), (4, ⟨.node, [.v (.int .i64 (0 : Int)), .v (.int .i64 (0 : Int)), .v (.string ByteArray.empty), .nl, .nl]⟩), (5, ⟨.node, [.v (.int .i64 vb5_0), .v (.int .i64 vb5_1), .v (.string vb5_2), .h 768 0 0 [], .h 769 0 0 []]⟩)], [(768, .live ⟨.str, .deep, 0, [], vr768⟩), (769, .live ⟨.node, .deep, 0, [], vr769⟩), (3264, .live ⟨.str, .deep, 0, [], vr3264⟩), (3328, .live ⟨.node, .deep, 0, [], vr3328⟩)]⟩))
        none)
      none)
    (k' (.exit 2) ⟨[(2, .c (.one (.pt 2 0))), (3, .c (.one (.pt 3 0))), (4, .c (.one (.pt 4 0))), (5, .c (.one (.pt 5 0))), (7, .c (.one (.h 3264 0 0 []))), (8, .c (.one (.h 3328 0 0 []))), (9, .c (.one (.v (.int .i64 vs9)))), (57, .c (.one (.v (.bool (decide (vs9 < (vb2_3.length : Int)))))))], [(2, ⟨.node, [.v (.int .i64 vb2_0), .v (.int .i64 vb2_1), .v (.string vb2_2), .ro .str vb2_3, .ro .node vb2_4]⟩), (3, ⟨.rule, [.v (.int .i64 vb3_0), .ro .str vb3_1, .ro .rule vb3_2, .ro .bool vb3_3, .v (.int .i64 vb3_4), .v (.int .i64 vb3_5)]⟩), (4, ⟨.node, [.v (.int .i64 (0 : Int)), .v (.int .i64 (0 : Int)), .v (.string ByteArray.empty), .nl, .nl]⟩), (5, ⟨.node, [.v (.int .i64 vb5_0), .v (.int .i64 vb5_1), .v (.string vb5_2), .h 768 0 0 [], .h 769 0 0 []]⟩)], [(768, .live ⟨.str, .deep, 0, [], vr768⟩), (769, .live ⟨.node, .deep, 0, [], vr769⟩), (3264, .live ⟨.str, .deep, 0, [], vr3264⟩), (3328, .live ⟨.node, .deep, 0, [], vr3328⟩)]⟩)) := by kernel_rfl
theorem f31L1_eq {R : Type} (N : Nat) (n : Nat) (k' : Ex → St → Option R) (vb2_0 : Int) (vb2_1 : Int) (vb2_2 : ByteArray) (vb2_3 : List ByteArray) (vb2_4 : List NodeT) (vb3_0 : Int) (vb3_1 : List ByteArray) (vb3_2 : List RuleT) (vb3_3 : List Bool) (vb3_4 : Int) (vb3_5 : Int) (vb5_0 : Int) (vb5_1 : Int) (vb5_2 : ByteArray) (vr768 : List ByteArray) (vr769 : List NodeT) : ∀ (m : Nat) (vs9 : Int) (vr3264 : List ByteArray) (vr3328 : List NodeT), iter (fun st k => ev (f31e N) f31k n (cAt [1,1,1,1,1,1,0,1,0,0] f31c) st k) m ⟨[(2, .c (.one (.pt 2 0))), (3, .c (.one (.pt 3 0))), (4, .c (.one (.pt 4 0))), (5, .c (.one (.pt 5 0))), (7, .c (.one (.h 3264 0 0 []))), (8, .c (.one (.h 3328 0 0 []))), (9, .c (.one (.v (.int .i64 vs9))))], [(2, ⟨.node, [.v (.int .i64 vb2_0), .v (.int .i64 vb2_1), .v (.string vb2_2), .ro .str vb2_3, .ro .node vb2_4]⟩), (3, ⟨.rule, [.v (.int .i64 vb3_0), .ro .str vb3_1, .ro .rule vb3_2, .ro .bool vb3_3, .v (.int .i64 vb3_4), .v (.int .i64 vb3_5)]⟩), (4, ⟨.node, [.v (.int .i64 (0 : Int)), .v (.int .i64 (0 : Int)), .v (.string ByteArray.empty), .nl, .nl]⟩), (5, ⟨.node, [.v (.int .i64 vb5_0), .v (.int .i64 vb5_1), .v (.string vb5_2), .h 768 0 0 [], .h 769 0 0 []]⟩)], [(768, .live ⟨.str, .deep, 0, [], vr768⟩), (769, .live ⟨.node, .deep, 0, [], vr769⟩), (3264, .live ⟨.str, .deep, 0, [], vr3264⟩), (3328, .live ⟨.node, .deep, 0, [], vr3328⟩)]⟩ k' = f31L1 N n (fun (xvs9 : Int) (xvs57 : Bool) (xvr3264 : List ByteArray) (xvr3328 : List NodeT) => k' (.exit 2) ⟨[(2, .c (.one (.pt 2 0))), (3, .c (.one (.pt 3 0))), (4, .c (.one (.pt 4 0))), (5, .c (.one (.pt 5 0))), (7, .c (.one (.h 3264 0 0 []))), (8, .c (.one (.h 3328 0 0 []))), (9, .c (.one (.v (.int .i64 xvs9)))), (57, .c (.one (.v (.bool xvs57))))], [(2, ⟨.node, [.v (.int .i64 vb2_0), .v (.int .i64 vb2_1), .v (.string vb2_2), .ro .str vb2_3, .ro .node vb2_4]⟩), (3, ⟨.rule, [.v (.int .i64 vb3_0), .ro .str vb3_1, .ro .rule vb3_2, .ro .bool vb3_3, .v (.int .i64 vb3_4), .v (.int .i64 vb3_5)]⟩), (4, ⟨.node, [.v (.int .i64 (0 : Int)), .v (.int .i64 (0 : Int)), .v (.string ByteArray.empty), .nl, .nl]⟩), (5, ⟨.node, [.v (.int .i64 vb5_0), .v (.int .i64 vb5_1), .v (.string vb5_2), .h 768 0 0 [], .h 769 0 0 []]⟩)], [(768, .live ⟨.str, .deep, 0, [], vr768⟩), (769, .live ⟨.node, .deep, 0, [], vr769⟩), (3264, .live ⟨.str, .deep, 0, [], xvr3264⟩), (3328, .live ⟨.node, .deep, 0, [], xvr3328⟩)]⟩) vb2_0 vb2_1 vb2_2 vb2_3 vb2_4 vb3_0 vb3_1 vb3_2 vb3_3 vb3_4 vb3_5 vb5_0 vb5_1 vb5_2 vr768 vr769 m vs9 vr3264 vr3328 := by
  intro m; induction m with
  | zero => intros; rfl
  | succ m ih =>
    intro vs9 vr3264 vr3328
    simp only [iter]
    rw [f31L1_b]
    simp only [ih, f31L1]

noncomputable def f31K1 {R : Type} (N : Nat) (n : Nat) (k' : Ex → St → Option R) : Ex → St → Option R := (blockK 2 (seqK (f31e N) f31k n (cAt [1,1,1,1,1,1,1] f31c) k'))
theorem f31K1_x0 {R : Type} (N : Nat) (n : Nat) (k : List Dt → Option R) (a0 : NodeT) (a1 : RuleT) (vb2_0 : Int) (vb2_1 : Int) (vb2_2 : ByteArray) (vb2_3 : List ByteArray) (vb2_4 : List NodeT) (vb3_0 : Int) (vb3_1 : List ByteArray) (vb3_2 : List RuleT) (vb3_3 : List Bool) (vb3_4 : Int) (vb3_5 : Int) (vb5_0 : Int) (vb5_1 : Int) (vb5_2 : ByteArray) (vr768 : List ByteArray) (vr769 : List NodeT) (xvs9 : Int) (xvs57 : Bool) (xvr3264 : List ByteArray) (xvr3328 : List NodeT) : f31K1 N n (exitK (f31e N) [.ro, .ro] [false] true [.cell 4 41] [41] [.d .node a0, .d .rule a1] k) (.exit 2) ⟨[(2, .c (.one (.pt 2 0))), (3, .c (.one (.pt 3 0))), (4, .c (.one (.pt 4 0))), (5, .c (.one (.pt 5 0))), (7, .c (.one (.h 3264 0 0 []))), (8, .c (.one (.h 3328 0 0 []))), (9, .c (.one (.v (.int .i64 xvs9)))), (57, .c (.one (.v (.bool xvs57))))], [(2, ⟨.node, [.v (.int .i64 vb2_0), .v (.int .i64 vb2_1), .v (.string vb2_2), .ro .str vb2_3, .ro .node vb2_4]⟩), (3, ⟨.rule, [.v (.int .i64 vb3_0), .ro .str vb3_1, .ro .rule vb3_2, .ro .bool vb3_3, .v (.int .i64 vb3_4), .v (.int .i64 vb3_5)]⟩), (4, ⟨.node, [.v (.int .i64 (0 : Int)), .v (.int .i64 (0 : Int)), .v (.string ByteArray.empty), .nl, .nl]⟩), (5, ⟨.node, [.v (.int .i64 vb5_0), .v (.int .i64 vb5_1), .v (.string vb5_2), .h 768 0 0 [], .h 769 0 0 []]⟩)], [(768, .live ⟨.str, .deep, 0, [], vr768⟩), (769, .live ⟨.node, .deep, 0, [], vr769⟩), (3264, .live ⟨.str, .deep, 0, [], xvr3264⟩), (3328, .live ⟨.node, .deep, 0, [], xvr3328⟩)]⟩ =
    (k [.d .node (⟨vb5_0, vb5_1, vb5_2, xvr3264, xvr3328⟩ : NodeT)]) := by kernel_rfl

noncomputable def f31K0 {R : Type} (N : Nat) (n : Nat) (k' : Ex → St → Option R) : Ex → St → Option R := (blockK 0 (seqK (f31e N) f31k n (cAt [1,1,1] f31c) k'))
theorem f31K0_x0 {R : Type} (N : Nat) (n : Nat) (k : List Dt → Option R) (a0 : NodeT) (a1 : RuleT) (vb2_0 : Int) (vb2_1 : Int) (vb2_2 : ByteArray) (vb2_3 : List ByteArray) (vb2_4 : List NodeT) (vb3_0 : Int) (vb3_1 : List ByteArray) (vb3_2 : List RuleT) (vb3_3 : List Bool) (vb3_4 : Int) (vb3_5 : Int) (vb5_0 : Int) (vb5_1 : Int) (vb5_2 : ByteArray) (vr768 : List ByteArray) (xvs6 : Int) (xvs25 : Bool) (xvr769 : List NodeT) : f31K0 N n (exitK (f31e N) [.ro, .ro] [false] true [.cell 4 41] [41] [.d .node a0, .d .rule a1] k) (.exit 0) ⟨[(2, .c (.one (.pt 2 0))), (3, .c (.one (.pt 3 0))), (4, .c (.one (.pt 4 0))), (5, .c (.one (.pt 5 0))), (6, .c (.one (.v (.int .i64 xvs6)))), (25, .c (.one (.v (.bool xvs25))))], [(2, ⟨.node, [.v (.int .i64 vb2_0), .v (.int .i64 vb2_1), .v (.string vb2_2), .ro .str vb2_3, .ro .node vb2_4]⟩), (3, ⟨.rule, [.v (.int .i64 vb3_0), .ro .str vb3_1, .ro .rule vb3_2, .ro .bool vb3_3, .v (.int .i64 vb3_4), .v (.int .i64 vb3_5)]⟩), (4, ⟨.node, [.v (.int .i64 (0 : Int)), .v (.int .i64 (0 : Int)), .v (.string ByteArray.empty), .nl, .nl]⟩), (5, ⟨.node, [.v (.int .i64 vb5_0), .v (.int .i64 vb5_1), .v (.string vb5_2), .h 768 0 0 [], .h 769 0 0 []]⟩)], [(768, .live ⟨.str, .deep, 0, [], vr768⟩), (769, .live ⟨.node, .deep, 0, [], xvr769⟩)]⟩ =
    (cond (vb3_0 != (5 : Int))
    (k [.d .node (⟨vb5_0, vb5_1, vb5_2, vr768, xvr769⟩ : NodeT)])
    (cond (!(isMapN (⟨vb2_0, vb2_1, vb2_2, vb2_3, vb2_4⟩ : NodeT)))
      (k [.d .node (⟨vb5_0, vb5_1, vb5_2, vr768, xvr769⟩ : NodeT)])
      (f31L1 N n (fun (xvs9 : Int) (xvs57 : Bool) (xvr3264 : List ByteArray) (xvr3328 : List NodeT) =>
        (k [.d .node (⟨vb5_0, vb5_1, vb5_2, xvr3264, xvr3328⟩ : NodeT)])) vb2_0 vb2_1 vb2_2 vb2_3 vb2_4 vb3_0 vb3_1 vb3_2 vb3_3 vb3_4 vb3_5 vb5_0 vb5_1 vb5_2 vr768 xvr769 n (0 : Int) ([] : List ByteArray) ([] : List NodeT)))) := by
  refine Eq.trans (b := (cond (vb3_0 != (5 : Int))
    (k [.d .node (⟨vb5_0, vb5_1, vb5_2, vr768, xvr769⟩ : NodeT)])
    (cond (!(isMapN (⟨vb2_0, vb2_1, vb2_2, vb2_3, vb2_4⟩ : NodeT)))
      (k [.d .node (⟨vb5_0, vb5_1, vb5_2, vr768, xvr769⟩ : NodeT)])
      (iter (fun st k => ev (f31e N) f31k n (cAt [1,1,1,1,1,1,0,1,0,0] f31c) st k) n ⟨[(2, .c (.one (.pt 2 0))), (3, .c (.one (.pt 3 0))), (4, .c (.one (.pt 4 0))), (5, .c (.one (.pt 5 0))), (7, .c (.one (.h 3264 0 0 []))), (8, .c (.one (.h 3328 0 0 []))), (9, .c (.one (.v (.int .i64 (0 : Int)))))], [(2, ⟨.node, [.v (.int .i64 vb2_0), .v (.int .i64 vb2_1), .v (.string vb2_2), .ro .str vb2_3, .ro .node vb2_4]⟩), (3, ⟨.rule, [.v (.int .i64 vb3_0), .ro .str vb3_1, .ro .rule vb3_2, .ro .bool vb3_3, .v (.int .i64 vb3_4), .v (.int .i64 vb3_5)]⟩), (4, ⟨.node, [.v (.int .i64 (0 : Int)), .v (.int .i64 (0 : Int)), .v (.string ByteArray.empty), .nl, .nl]⟩), (5, ⟨.node, [.v (.int .i64 vb5_0), .v (.int .i64 vb5_1), .v (.string vb5_2), .h 768 0 0 [], .h 769 0 0 []]⟩)], [(768, .live ⟨.str, .deep, 0, [], vr768⟩), (769, .live ⟨.node, .deep, 0, [], xvr769⟩), (3264, .live ⟨.str, .deep, 0, [], ([] : List ByteArray)⟩), (3328, .live ⟨.node, .deep, 0, [], ([] : List NodeT)⟩)]⟩ (f31K1 N n (exitK (f31e N) [.ro, .ro] [false] true [.cell 4 41] [41] [.d .node a0, .d .rule a1] k)))))) (by kernel_rfl) ?_
  simp only [f31L1_eq, f31K1_x0]

theorem f31_run {R : Type} (N : Nat) (n : Nat) (k : List Dt → Option R) (a0 : NodeT) (a1 : RuleT) : evFn (f31e N) f31k n f31c [.ro, .ro] [false] true [.cell 4 41] [41] [.d .node a0, .d .rule a1] k =
    (cond (sm_node (⟨(NodeT.kind a0), (NodeT.n a0), (NodeT.s a0), (NodeT.keys a0), (NodeT.kids a0)⟩ : NodeT))
    (cond ((RuleT.kind a1) == (4 : Int))
      (cond ((NodeT.kind a0) == (4 : Int))
        (f31L0 N n (fun (xvs6 : Int) (xvs25 : Bool) (xvr769 : List NodeT) =>
          (cond ((RuleT.kind a1) != (5 : Int))
            (k [.d .node (⟨(NodeT.kind (⟨(NodeT.kind a0), (NodeT.n a0), (NodeT.s a0), (NodeT.keys a0), (NodeT.kids a0)⟩ : NodeT)), (NodeT.n (⟨(NodeT.kind a0), (NodeT.n a0), (NodeT.s a0), (NodeT.keys a0), (NodeT.kids a0)⟩ : NodeT)), (NodeT.s (⟨(NodeT.kind a0), (NodeT.n a0), (NodeT.s a0), (NodeT.keys a0), (NodeT.kids a0)⟩ : NodeT)), (NodeT.keys (⟨(NodeT.kind a0), (NodeT.n a0), (NodeT.s a0), (NodeT.keys a0), (NodeT.kids a0)⟩ : NodeT)), xvr769⟩ : NodeT)])
            (cond (!(isMapN (⟨(NodeT.kind a0), (NodeT.n a0), (NodeT.s a0), (NodeT.keys a0), (NodeT.kids a0)⟩ : NodeT)))
              (k [.d .node (⟨(NodeT.kind (⟨(NodeT.kind a0), (NodeT.n a0), (NodeT.s a0), (NodeT.keys a0), (NodeT.kids a0)⟩ : NodeT)), (NodeT.n (⟨(NodeT.kind a0), (NodeT.n a0), (NodeT.s a0), (NodeT.keys a0), (NodeT.kids a0)⟩ : NodeT)), (NodeT.s (⟨(NodeT.kind a0), (NodeT.n a0), (NodeT.s a0), (NodeT.keys a0), (NodeT.kids a0)⟩ : NodeT)), (NodeT.keys (⟨(NodeT.kind a0), (NodeT.n a0), (NodeT.s a0), (NodeT.keys a0), (NodeT.kids a0)⟩ : NodeT)), xvr769⟩ : NodeT)])
              (f31L1 N n (fun (xvs9 : Int) (xvs57 : Bool) (xvr3264 : List ByteArray) (xvr3328 : List NodeT) =>
                (k [.d .node (⟨(NodeT.kind (⟨(NodeT.kind a0), (NodeT.n a0), (NodeT.s a0), (NodeT.keys a0), (NodeT.kids a0)⟩ : NodeT)), (NodeT.n (⟨(NodeT.kind a0), (NodeT.n a0), (NodeT.s a0), (NodeT.keys a0), (NodeT.kids a0)⟩ : NodeT)), (NodeT.s (⟨(NodeT.kind a0), (NodeT.n a0), (NodeT.s a0), (NodeT.keys a0), (NodeT.kids a0)⟩ : NodeT)), xvr3264, xvr3328⟩ : NodeT)])) (NodeT.kind a0) (NodeT.n a0) (NodeT.s a0) (NodeT.keys a0) (NodeT.kids a0) (RuleT.kind a1) (RuleT.keys a1) (RuleT.kids a1) (RuleT.need a1) (RuleT.low a1) (RuleT.high a1) (NodeT.kind (⟨(NodeT.kind a0), (NodeT.n a0), (NodeT.s a0), (NodeT.keys a0), (NodeT.kids a0)⟩ : NodeT)) (NodeT.n (⟨(NodeT.kind a0), (NodeT.n a0), (NodeT.s a0), (NodeT.keys a0), (NodeT.kids a0)⟩ : NodeT)) (NodeT.s (⟨(NodeT.kind a0), (NodeT.n a0), (NodeT.s a0), (NodeT.keys a0), (NodeT.kids a0)⟩ : NodeT)) (NodeT.keys (⟨(NodeT.kind a0), (NodeT.n a0), (NodeT.s a0), (NodeT.keys a0), (NodeT.kids a0)⟩ : NodeT)) xvr769 n (0 : Int) ([] : List ByteArray) ([] : List NodeT))))) (NodeT.kind a0) (NodeT.n a0) (NodeT.s a0) (NodeT.keys a0) (NodeT.kids a0) (RuleT.kind a1) (RuleT.keys a1) (RuleT.kids a1) (RuleT.need a1) (RuleT.low a1) (RuleT.high a1) (NodeT.kind (⟨(NodeT.kind a0), (NodeT.n a0), (NodeT.s a0), (NodeT.keys a0), (NodeT.kids a0)⟩ : NodeT)) (NodeT.n (⟨(NodeT.kind a0), (NodeT.n a0), (NodeT.s a0), (NodeT.keys a0), (NodeT.kids a0)⟩ : NodeT)) (NodeT.s (⟨(NodeT.kind a0), (NodeT.n a0), (NodeT.s a0), (NodeT.keys a0), (NodeT.kids a0)⟩ : NodeT)) (NodeT.keys (⟨(NodeT.kind a0), (NodeT.n a0), (NodeT.s a0), (NodeT.keys a0), (NodeT.kids a0)⟩ : NodeT)) n (0 : Int) (NodeT.kids (⟨(NodeT.kind a0), (NodeT.n a0), (NodeT.s a0), (NodeT.keys a0), (NodeT.kids a0)⟩ : NodeT)))
        (cond ((RuleT.kind a1) != (5 : Int))
          (k [.d .node (⟨(NodeT.kind (⟨(NodeT.kind a0), (NodeT.n a0), (NodeT.s a0), (NodeT.keys a0), (NodeT.kids a0)⟩ : NodeT)), (NodeT.n (⟨(NodeT.kind a0), (NodeT.n a0), (NodeT.s a0), (NodeT.keys a0), (NodeT.kids a0)⟩ : NodeT)), (NodeT.s (⟨(NodeT.kind a0), (NodeT.n a0), (NodeT.s a0), (NodeT.keys a0), (NodeT.kids a0)⟩ : NodeT)), (NodeT.keys (⟨(NodeT.kind a0), (NodeT.n a0), (NodeT.s a0), (NodeT.keys a0), (NodeT.kids a0)⟩ : NodeT)), (NodeT.kids (⟨(NodeT.kind a0), (NodeT.n a0), (NodeT.s a0), (NodeT.keys a0), (NodeT.kids a0)⟩ : NodeT))⟩ : NodeT)])
          (cond (!(isMapN (⟨(NodeT.kind a0), (NodeT.n a0), (NodeT.s a0), (NodeT.keys a0), (NodeT.kids a0)⟩ : NodeT)))
            (k [.d .node (⟨(NodeT.kind (⟨(NodeT.kind a0), (NodeT.n a0), (NodeT.s a0), (NodeT.keys a0), (NodeT.kids a0)⟩ : NodeT)), (NodeT.n (⟨(NodeT.kind a0), (NodeT.n a0), (NodeT.s a0), (NodeT.keys a0), (NodeT.kids a0)⟩ : NodeT)), (NodeT.s (⟨(NodeT.kind a0), (NodeT.n a0), (NodeT.s a0), (NodeT.keys a0), (NodeT.kids a0)⟩ : NodeT)), (NodeT.keys (⟨(NodeT.kind a0), (NodeT.n a0), (NodeT.s a0), (NodeT.keys a0), (NodeT.kids a0)⟩ : NodeT)), (NodeT.kids (⟨(NodeT.kind a0), (NodeT.n a0), (NodeT.s a0), (NodeT.keys a0), (NodeT.kids a0)⟩ : NodeT))⟩ : NodeT)])
            (f31L1 N n (fun (xvs9 : Int) (xvs57 : Bool) (xvr3264 : List ByteArray) (xvr3328 : List NodeT) =>
              (k [.d .node (⟨(NodeT.kind (⟨(NodeT.kind a0), (NodeT.n a0), (NodeT.s a0), (NodeT.keys a0), (NodeT.kids a0)⟩ : NodeT)), (NodeT.n (⟨(NodeT.kind a0), (NodeT.n a0), (NodeT.s a0), (NodeT.keys a0), (NodeT.kids a0)⟩ : NodeT)), (NodeT.s (⟨(NodeT.kind a0), (NodeT.n a0), (NodeT.s a0), (NodeT.keys a0), (NodeT.kids a0)⟩ : NodeT)), xvr3264, xvr3328⟩ : NodeT)])) (NodeT.kind a0) (NodeT.n a0) (NodeT.s a0) (NodeT.keys a0) (NodeT.kids a0) (RuleT.kind a1) (RuleT.keys a1) (RuleT.kids a1) (RuleT.need a1) (RuleT.low a1) (RuleT.high a1) (NodeT.kind (⟨(NodeT.kind a0), (NodeT.n a0), (NodeT.s a0), (NodeT.keys a0), (NodeT.kids a0)⟩ : NodeT)) (NodeT.n (⟨(NodeT.kind a0), (NodeT.n a0), (NodeT.s a0), (NodeT.keys a0), (NodeT.kids a0)⟩ : NodeT)) (NodeT.s (⟨(NodeT.kind a0), (NodeT.n a0), (NodeT.s a0), (NodeT.keys a0), (NodeT.kids a0)⟩ : NodeT)) (NodeT.keys (⟨(NodeT.kind a0), (NodeT.n a0), (NodeT.s a0), (NodeT.keys a0), (NodeT.kids a0)⟩ : NodeT)) (NodeT.kids (⟨(NodeT.kind a0), (NodeT.n a0), (NodeT.s a0), (NodeT.keys a0), (NodeT.kids a0)⟩ : NodeT)) n (0 : Int) ([] : List ByteArray) ([] : List NodeT)))))
      (cond ((RuleT.kind a1) != (5 : Int))
        (k [.d .node (⟨(NodeT.kind (⟨(NodeT.kind a0), (NodeT.n a0), (NodeT.s a0), (NodeT.keys a0), (NodeT.kids a0)⟩ : NodeT)), (NodeT.n (⟨(NodeT.kind a0), (NodeT.n a0), (NodeT.s a0), (NodeT.keys a0), (NodeT.kids a0)⟩ : NodeT)), (NodeT.s (⟨(NodeT.kind a0), (NodeT.n a0), (NodeT.s a0), (NodeT.keys a0), (NodeT.kids a0)⟩ : NodeT)), (NodeT.keys (⟨(NodeT.kind a0), (NodeT.n a0), (NodeT.s a0), (NodeT.keys a0), (NodeT.kids a0)⟩ : NodeT)), (NodeT.kids (⟨(NodeT.kind a0), (NodeT.n a0), (NodeT.s a0), (NodeT.keys a0), (NodeT.kids a0)⟩ : NodeT))⟩ : NodeT)])
        (cond (!(isMapN (⟨(NodeT.kind a0), (NodeT.n a0), (NodeT.s a0), (NodeT.keys a0), (NodeT.kids a0)⟩ : NodeT)))
          (k [.d .node (⟨(NodeT.kind (⟨(NodeT.kind a0), (NodeT.n a0), (NodeT.s a0), (NodeT.keys a0), (NodeT.kids a0)⟩ : NodeT)), (NodeT.n (⟨(NodeT.kind a0), (NodeT.n a0), (NodeT.s a0), (NodeT.keys a0), (NodeT.kids a0)⟩ : NodeT)), (NodeT.s (⟨(NodeT.kind a0), (NodeT.n a0), (NodeT.s a0), (NodeT.keys a0), (NodeT.kids a0)⟩ : NodeT)), (NodeT.keys (⟨(NodeT.kind a0), (NodeT.n a0), (NodeT.s a0), (NodeT.keys a0), (NodeT.kids a0)⟩ : NodeT)), (NodeT.kids (⟨(NodeT.kind a0), (NodeT.n a0), (NodeT.s a0), (NodeT.keys a0), (NodeT.kids a0)⟩ : NodeT))⟩ : NodeT)])
          (f31L1 N n (fun (xvs9 : Int) (xvs57 : Bool) (xvr3264 : List ByteArray) (xvr3328 : List NodeT) =>
            (k [.d .node (⟨(NodeT.kind (⟨(NodeT.kind a0), (NodeT.n a0), (NodeT.s a0), (NodeT.keys a0), (NodeT.kids a0)⟩ : NodeT)), (NodeT.n (⟨(NodeT.kind a0), (NodeT.n a0), (NodeT.s a0), (NodeT.keys a0), (NodeT.kids a0)⟩ : NodeT)), (NodeT.s (⟨(NodeT.kind a0), (NodeT.n a0), (NodeT.s a0), (NodeT.keys a0), (NodeT.kids a0)⟩ : NodeT)), xvr3264, xvr3328⟩ : NodeT)])) (NodeT.kind a0) (NodeT.n a0) (NodeT.s a0) (NodeT.keys a0) (NodeT.kids a0) (RuleT.kind a1) (RuleT.keys a1) (RuleT.kids a1) (RuleT.need a1) (RuleT.low a1) (RuleT.high a1) (NodeT.kind (⟨(NodeT.kind a0), (NodeT.n a0), (NodeT.s a0), (NodeT.keys a0), (NodeT.kids a0)⟩ : NodeT)) (NodeT.n (⟨(NodeT.kind a0), (NodeT.n a0), (NodeT.s a0), (NodeT.keys a0), (NodeT.kids a0)⟩ : NodeT)) (NodeT.s (⟨(NodeT.kind a0), (NodeT.n a0), (NodeT.s a0), (NodeT.keys a0), (NodeT.kids a0)⟩ : NodeT)) (NodeT.keys (⟨(NodeT.kind a0), (NodeT.n a0), (NodeT.s a0), (NodeT.keys a0), (NodeT.kids a0)⟩ : NodeT)) (NodeT.kids (⟨(NodeT.kind a0), (NodeT.n a0), (NodeT.s a0), (NodeT.keys a0), (NodeT.kids a0)⟩ : NodeT)) n (0 : Int) ([] : List ByteArray) ([] : List NodeT)))))
    none) := by
  refine Eq.trans (b := (cond (sm_node (⟨(NodeT.kind a0), (NodeT.n a0), (NodeT.s a0), (NodeT.keys a0), (NodeT.kids a0)⟩ : NodeT))
    (cond ((RuleT.kind a1) == (4 : Int))
      (cond ((NodeT.kind a0) == (4 : Int))
        (iter (fun st k => ev (f31e N) f31k n (cAt [1,1,0,1,0,1,0,0] f31c) st k) n ⟨[(2, .c (.one (.pt 2 0))), (3, .c (.one (.pt 3 0))), (4, .c (.one (.pt 4 0))), (5, .c (.one (.pt 5 0))), (6, .c (.one (.v (.int .i64 (0 : Int)))))], [(2, ⟨.node, [.v (.int .i64 (NodeT.kind a0)), .v (.int .i64 (NodeT.n a0)), .v (.string (NodeT.s a0)), .ro .str (NodeT.keys a0), .ro .node (NodeT.kids a0)]⟩), (3, ⟨.rule, [.v (.int .i64 (RuleT.kind a1)), .ro .str (RuleT.keys a1), .ro .rule (RuleT.kids a1), .ro .bool (RuleT.need a1), .v (.int .i64 (RuleT.low a1)), .v (.int .i64 (RuleT.high a1))]⟩), (4, ⟨.node, [.v (.int .i64 (0 : Int)), .v (.int .i64 (0 : Int)), .v (.string ByteArray.empty), .nl, .nl]⟩), (5, ⟨.node, [.v (.int .i64 (NodeT.kind (⟨(NodeT.kind a0), (NodeT.n a0), (NodeT.s a0), (NodeT.keys a0), (NodeT.kids a0)⟩ : NodeT))), .v (.int .i64 (NodeT.n (⟨(NodeT.kind a0), (NodeT.n a0), (NodeT.s a0), (NodeT.keys a0), (NodeT.kids a0)⟩ : NodeT))), .v (.string (NodeT.s (⟨(NodeT.kind a0), (NodeT.n a0), (NodeT.s a0), (NodeT.keys a0), (NodeT.kids a0)⟩ : NodeT))), .h 768 0 0 [], .h 769 0 0 []]⟩)], [(768, .live ⟨.str, .deep, 0, [], (NodeT.keys (⟨(NodeT.kind a0), (NodeT.n a0), (NodeT.s a0), (NodeT.keys a0), (NodeT.kids a0)⟩ : NodeT))⟩), (769, .live ⟨.node, .deep, 0, [], (NodeT.kids (⟨(NodeT.kind a0), (NodeT.n a0), (NodeT.s a0), (NodeT.keys a0), (NodeT.kids a0)⟩ : NodeT))⟩)]⟩ (f31K0 N n (exitK (f31e N) [.ro, .ro] [false] true [.cell 4 41] [41] [.d .node a0, .d .rule a1] k)))
        (cond ((RuleT.kind a1) != (5 : Int))
          (k [.d .node (⟨(NodeT.kind (⟨(NodeT.kind a0), (NodeT.n a0), (NodeT.s a0), (NodeT.keys a0), (NodeT.kids a0)⟩ : NodeT)), (NodeT.n (⟨(NodeT.kind a0), (NodeT.n a0), (NodeT.s a0), (NodeT.keys a0), (NodeT.kids a0)⟩ : NodeT)), (NodeT.s (⟨(NodeT.kind a0), (NodeT.n a0), (NodeT.s a0), (NodeT.keys a0), (NodeT.kids a0)⟩ : NodeT)), (NodeT.keys (⟨(NodeT.kind a0), (NodeT.n a0), (NodeT.s a0), (NodeT.keys a0), (NodeT.kids a0)⟩ : NodeT)), (NodeT.kids (⟨(NodeT.kind a0), (NodeT.n a0), (NodeT.s a0), (NodeT.keys a0), (NodeT.kids a0)⟩ : NodeT))⟩ : NodeT)])
          (cond (!(isMapN (⟨(NodeT.kind a0), (NodeT.n a0), (NodeT.s a0), (NodeT.keys a0), (NodeT.kids a0)⟩ : NodeT)))
            (k [.d .node (⟨(NodeT.kind (⟨(NodeT.kind a0), (NodeT.n a0), (NodeT.s a0), (NodeT.keys a0), (NodeT.kids a0)⟩ : NodeT)), (NodeT.n (⟨(NodeT.kind a0), (NodeT.n a0), (NodeT.s a0), (NodeT.keys a0), (NodeT.kids a0)⟩ : NodeT)), (NodeT.s (⟨(NodeT.kind a0), (NodeT.n a0), (NodeT.s a0), (NodeT.keys a0), (NodeT.kids a0)⟩ : NodeT)), (NodeT.keys (⟨(NodeT.kind a0), (NodeT.n a0), (NodeT.s a0), (NodeT.keys a0), (NodeT.kids a0)⟩ : NodeT)), (NodeT.kids (⟨(NodeT.kind a0), (NodeT.n a0), (NodeT.s a0), (NodeT.keys a0), (NodeT.kids a0)⟩ : NodeT))⟩ : NodeT)])
            (iter (fun st k => ev (f31e N) f31k n (cAt [1,1,1,1,1,1,0,1,0,0] f31c) st k) n ⟨[(2, .c (.one (.pt 2 0))), (3, .c (.one (.pt 3 0))), (4, .c (.one (.pt 4 0))), (5, .c (.one (.pt 5 0))), (7, .c (.one (.h 3264 0 0 []))), (8, .c (.one (.h 3328 0 0 []))), (9, .c (.one (.v (.int .i64 (0 : Int)))))], [(2, ⟨.node, [.v (.int .i64 (NodeT.kind a0)), .v (.int .i64 (NodeT.n a0)), .v (.string (NodeT.s a0)), .ro .str (NodeT.keys a0), .ro .node (NodeT.kids a0)]⟩), (3, ⟨.rule, [.v (.int .i64 (RuleT.kind a1)), .ro .str (RuleT.keys a1), .ro .rule (RuleT.kids a1), .ro .bool (RuleT.need a1), .v (.int .i64 (RuleT.low a1)), .v (.int .i64 (RuleT.high a1))]⟩), (4, ⟨.node, [.v (.int .i64 (0 : Int)), .v (.int .i64 (0 : Int)), .v (.string ByteArray.empty), .nl, .nl]⟩), (5, ⟨.node, [.v (.int .i64 (NodeT.kind (⟨(NodeT.kind a0), (NodeT.n a0), (NodeT.s a0), (NodeT.keys a0), (NodeT.kids a0)⟩ : NodeT))), .v (.int .i64 (NodeT.n (⟨(NodeT.kind a0), (NodeT.n a0), (NodeT.s a0), (NodeT.keys a0), (NodeT.kids a0)⟩ : NodeT))), .v (.string (NodeT.s (⟨(NodeT.kind a0), (NodeT.n a0), (NodeT.s a0), (NodeT.keys a0), (NodeT.kids a0)⟩ : NodeT))), .h 768 0 0 [], .h 769 0 0 []]⟩)], [(768, .live ⟨.str, .deep, 0, [], (NodeT.keys (⟨(NodeT.kind a0), (NodeT.n a0), (NodeT.s a0), (NodeT.keys a0), (NodeT.kids a0)⟩ : NodeT))⟩), (769, .live ⟨.node, .deep, 0, [], (NodeT.kids (⟨(NodeT.kind a0), (NodeT.n a0), (NodeT.s a0), (NodeT.keys a0), (NodeT.kids a0)⟩ : NodeT))⟩), (3264, .live ⟨.str, .deep, 0, [], ([] : List ByteArray)⟩), (3328, .live ⟨.node, .deep, 0, [], ([] : List NodeT)⟩)]⟩ (f31K1 N n (exitK (f31e N) [.ro, .ro] [false] true [.cell 4 41] [41] [.d .node a0, .d .rule a1] k))))))
      (cond ((RuleT.kind a1) != (5 : Int))
        (k [.d .node (⟨(NodeT.kind (⟨(NodeT.kind a0), (NodeT.n a0), (NodeT.s a0), (NodeT.keys a0), (NodeT.kids a0)⟩ : NodeT)), (NodeT.n (⟨(NodeT.kind a0), (NodeT.n a0), (NodeT.s a0), (NodeT.keys a0), (NodeT.kids a0)⟩ : NodeT)), (NodeT.s (⟨(NodeT.kind a0), (NodeT.n a0), (NodeT.s a0), (NodeT.keys a0), (NodeT.kids a0)⟩ : NodeT)), (NodeT.keys (⟨(NodeT.kind a0), (NodeT.n a0), (NodeT.s a0), (NodeT.keys a0), (NodeT.kids a0)⟩ : NodeT)), (NodeT.kids (⟨(NodeT.kind a0), (NodeT.n a0), (NodeT.s a0), (NodeT.keys a0), (NodeT.kids a0)⟩ : NodeT))⟩ : NodeT)])
        (cond (!(isMapN (⟨(NodeT.kind a0), (NodeT.n a0), (NodeT.s a0), (NodeT.keys a0), (NodeT.kids a0)⟩ : NodeT)))
          (k [.d .node (⟨(NodeT.kind (⟨(NodeT.kind a0), (NodeT.n a0), (NodeT.s a0), (NodeT.keys a0), (NodeT.kids a0)⟩ : NodeT)), (NodeT.n (⟨(NodeT.kind a0), (NodeT.n a0), (NodeT.s a0), (NodeT.keys a0), (NodeT.kids a0)⟩ : NodeT)), (NodeT.s (⟨(NodeT.kind a0), (NodeT.n a0), (NodeT.s a0), (NodeT.keys a0), (NodeT.kids a0)⟩ : NodeT)), (NodeT.keys (⟨(NodeT.kind a0), (NodeT.n a0), (NodeT.s a0), (NodeT.keys a0), (NodeT.kids a0)⟩ : NodeT)), (NodeT.kids (⟨(NodeT.kind a0), (NodeT.n a0), (NodeT.s a0), (NodeT.keys a0), (NodeT.kids a0)⟩ : NodeT))⟩ : NodeT)])
          (iter (fun st k => ev (f31e N) f31k n (cAt [1,1,1,1,1,1,0,1,0,0] f31c) st k) n ⟨[(2, .c (.one (.pt 2 0))), (3, .c (.one (.pt 3 0))), (4, .c (.one (.pt 4 0))), (5, .c (.one (.pt 5 0))), (7, .c (.one (.h 3264 0 0 []))), (8, .c (.one (.h 3328 0 0 []))), (9, .c (.one (.v (.int .i64 (0 : Int)))))], [(2, ⟨.node, [.v (.int .i64 (NodeT.kind a0)), .v (.int .i64 (NodeT.n a0)), .v (.string (NodeT.s a0)), .ro .str (NodeT.keys a0), .ro .node (NodeT.kids a0)]⟩), (3, ⟨.rule, [.v (.int .i64 (RuleT.kind a1)), .ro .str (RuleT.keys a1), .ro .rule (RuleT.kids a1), .ro .bool (RuleT.need a1), .v (.int .i64 (RuleT.low a1)), .v (.int .i64 (RuleT.high a1))]⟩), (4, ⟨.node, [.v (.int .i64 (0 : Int)), .v (.int .i64 (0 : Int)), .v (.string ByteArray.empty), .nl, .nl]⟩), (5, ⟨.node, [.v (.int .i64 (NodeT.kind (⟨(NodeT.kind a0), (NodeT.n a0), (NodeT.s a0), (NodeT.keys a0), (NodeT.kids a0)⟩ : NodeT))), .v (.int .i64 (NodeT.n (⟨(NodeT.kind a0), (NodeT.n a0), (NodeT.s a0), (NodeT.keys a0), (NodeT.kids a0)⟩ : NodeT))), .v (.string (NodeT.s (⟨(NodeT.kind a0), (NodeT.n a0), (NodeT.s a0), (NodeT.keys a0), (NodeT.kids a0)⟩ : NodeT))), .h 768 0 0 [], .h 769 0 0 []]⟩)], [(768, .live ⟨.str, .deep, 0, [], (NodeT.keys (⟨(NodeT.kind a0), (NodeT.n a0), (NodeT.s a0), (NodeT.keys a0), (NodeT.kids a0)⟩ : NodeT))⟩), (769, .live ⟨.node, .deep, 0, [], (NodeT.kids (⟨(NodeT.kind a0), (NodeT.n a0), (NodeT.s a0), (NodeT.keys a0), (NodeT.kids a0)⟩ : NodeT))⟩), (3264, .live ⟨.str, .deep, 0, [], ([] : List ByteArray)⟩), (3328, .live ⟨.node, .deep, 0, [], ([] : List NodeT)⟩)]⟩ (f31K1 N n (exitK (f31e N) [.ro, .ro] [false] true [.cell 4 41] [41] [.d .node a0, .d .rule a1] k))))))
    none)) (by kernel_rfl) ?_
  simp only [f31L0_eq, f31K0_x0, f31L1_eq, f31K1_x0]
theorem f31_spec (N : Nat) (a0 : NodeT) (a1 : RuleT) (hg : gPr a0 a1 = true) (hm : mu31 [.d .node a0, .d .rule a1] = N) : ∃ keep rounds, ∀ {R : Type} (k : List Dt → Option R), evFn (f31e N) keep rounds f31c [.ro, .ro] [false] true [.cell 4 41] [41] [.d .node a0, .d .rule a1] k = k [.d .node (prune a0 a1)] := by
  have hm : nd_node a0 = N := hm
  subst hm
  simp only [gPr, Bool.and_eq_true] at hg
  obtain ⟨hg, hr, hfit⟩ := hg
  have hg0 := hg
  rw [sm_node_def] at hg
  simp only [Bool.and_eq_true] at hg
  obtain ⟨_, _, _, hke, hki⟩ := hg
  have nke := smL_len hke
  have nki := smL_len hki
  have hr0 := hr
  rw [sm_rule_def] at hr
  simp only [Bool.and_eq_true] at hr
  obtain ⟨_, hrk, hrki, _⟩ := hr
  have nrk := smL_len hrk
  have nrki := smL_len hrki
  have hfit0 := hfit
  rw [rFit_def, Bool.and_eq_true] at hfit
  have hhead := hfit.1
  unfold rHead at hhead
  have kid : ∀ x ∈ a0.kids, Nat.blt (nd_node x) (nd_node a0) = true := fun x hx => by
    have := nd_node_kid (x := a0) hx
    rw [Nat.blt_eq]; exact this
  have gp : ∀ x ∈ a0.kids, ∀ q ∈ a1.kids, gPr x q = true := fun x hx q hq => by
    simp only [gPr, Bool.and_eq_true]
    exact ⟨sm_kid hg0 hx, sm_rkid hr0 hq, rFit_kid hfit0 hq⟩
  have limA : ∀ {α : Type} {l : List α}, l.length ≤ 1048576 → Nat.ble (l.length + 1) LIM = true := fun h => limLe1 h
  refine ⟨f31k, a0.keys.length + a0.kids.length + 1, fun {R} k => ?_⟩
  rw [f31_run]
  simp only [eta_node, eta_rule, hg0, cond_true]
  show _ = k [.d .node (prune a0 a1)]
  have hL : (a1.kind == (4 : Int)) = true → ∀ (fin : Int → Bool → List NodeT → Option R), f31L0 (nd_node a0) (a0.keys.length + a0.kids.length + 1) fin a0.kind a0.n a0.s a0.keys a0.kids a1.kind a1.keys a1.kids a1.need a1.low a1.high a0.kind a0.n a0.s a0.keys (a0.keys.length + a0.kids.length + 1) (0 : Int) a0.kids = fin (a0.kids.length : Int) false (pruneL (atI (t := .rule) a1.kids 0) a0.kids) := by
    intro r4 fin
    have r5 : (a1.kind == (5 : Int)) = false := by rw [eq_of_beq r4]; rfl
    rw [r5, r4] at hhead
    have hk1 : (1 : Int) ≤ (a1.kids.length : Int) := of_decide_eq_true hhead
    have h0l : decide ((0 : Int) < (a1.kids.length : Int)) = true := decide_eq_true (by omega)
    have hq := List.mem_of_getElem? (atI_lt (t := .rule) (xs := a1.kids) (i := 0) (by omega))
    refine Eq.trans (loop_setmap (xs := a0.kids) (f := fun x => prune x (atI (t := .rule) a1.kids 0)) (F := fun m j vr => f31L0 (nd_node a0) (a0.keys.length + a0.kids.length + 1) fin a0.kind a0.n a0.s a0.keys a0.kids a1.kind a1.keys a1.kids a1.need a1.low a1.high a0.kind a0.n a0.s a0.keys m (j : Int) vr) (good := fun vr => fin (a0.kids.length : Int) false vr)
      (fun m j vr x hx hvl hvx => ?_) (fun m vr hvl => by simp only [f31L0, idxE, cond_false]) a0.kids.length 0 (a0.keys.length + a0.kids.length + 1) (by omega) (by omega)) (by rw [pruneL_eq])
    obtain ⟨h1, h0, hw, ht⟩ := idx (lt_of_get hx) (by omega)
    have hxm := List.mem_of_getElem? hx
    simp only [f31L0, f31v0, h1, h0, hw, ht, hvl, atI_of (t := .node) hx, eta_node, eta_rule, h0l, gp x hxm _ hq, kid x hxm, Bool.and_self, cond_true]
  have hM : (a1.kind == (5 : Int)) = true → a0.keys.length = a0.kids.length → ∀ (fin : Int → Bool → List ByteArray → List NodeT → Option R), f31L1 (nd_node a0) (a0.keys.length + a0.kids.length + 1) fin a0.kind a0.n a0.s a0.keys a0.kids a1.kind a1.keys a1.kids a1.need a1.low a1.high a0.kind a0.n a0.s a0.keys a0.kids (a0.keys.length + a0.kids.length + 1) (0 : Int) [] [] = fin (a0.keys.length : Int) false (pruneM a1 a0.keys a0.kids).1 (pruneM a1 a0.keys a0.kids).2 := by
    intro r5 hlen fin
    rw [r5] at hhead
    have hrl := eq_of_beq (show ((a1.keys.length : Int) == (a1.kids.length : Int)) = true from hhead)
    refine Eq.trans (loop_prune (r := a1) (keys := a0.keys) (kids := a0.kids) hlen (F := fun m j a b => f31L1 (nd_node a0) (a0.keys.length + a0.kids.length + 1) fin a0.kind a0.n a0.s a0.keys a0.kids a1.kind a1.keys a1.kids a1.need a1.low a1.high a0.kind a0.n a0.s a0.keys a0.kids m (j : Int) a b) (good := fun a b => fin (a0.keys.length : Int) false a b)
      (fun m j a b key x hk hx ha hb => ?_) (fun m a b => by simp only [f31L1, idxE, cond_false]) a0.keys.length 0 (a0.keys.length + a0.kids.length + 1) [] [] (by omega) (by omega) (Nat.le_refl _) (Nat.le_refl _)) rfl
    obtain ⟨h1, h0, hw, ht⟩ := idx (lt_of_get hk) (by omega)
    obtain ⟨h1', _, _, _⟩ := idx (lt_of_get hx) (by omega)
    have hj := lt_of_get hk
    have hxm := List.mem_of_getElem? hx
    have hgk : gKR a1 key = true := by simp only [gKR, Bool.and_eq_true, decide_eq_true_eq]; exact ⟨hr0, by omega⟩
    have la := limA (l := a) (by omega)
    have lb := limA (l := b) (by omega)
    by_cases hk' : ruleAt a1 key < 0
    · have hge : decide (ruleAt a1 key ≥ (0 : Int)) = false := decide_eq_false (by omega)
      simp only [f31L1, h1, h0, hw, ht, atI_of (t := .str) hk, eta_rule, hgk, hr0, keyRule, hge, decide_eq_true hk', Bool.and_self, cond_true, cond_false]
    · obtain ⟨i, e, hi⟩ := ruleAt_bd hk'
      have hq := List.mem_of_getElem? (atI_lt (t := .rule) (xs := a1.kids) (i := i) (by omega))
      have hge : decide (ruleAt a1 key ≥ (0 : Int)) = true := decide_eq_true (by omega)
      have hge' : decide ((0 : Int) ≤ ruleAt a1 key) = true := hge
      have hlt : decide (ruleAt a1 key < (a1.kids.length : Int)) = true := decide_eq_true (by omega)
      have ei : Int.toNat (ruleAt a1 key) = i := by omega
      simp only [f31L1, h1, h1', h0, hw, ht, atI_of (t := .str) hk, atI_of (t := .node) hx, eta_node, eta_rule, hgk, hr0, keyRule, hge, hge', hlt, ei, gp x hxm _ hq, kid x hxm, la, lb, decide_eq_false hk', Bool.and_self, cond_true, cond_false]
  rw [prune_def]
  cases r4 : a1.kind == (4 : Int)
  · cases r5 : a1.kind == (5 : Int)
    · have e5 : (a1.kind != (5 : Int)) = true := by simp only [bne, r5]; rfl
      rw [e5]
      cases isMapN a0 <;> cases a0.kind == (4 : Int) <;> rfl
    · have e5 : (a1.kind != (5 : Int)) = false := by simp only [bne, r5]; rfl
      rw [e5]
      cases hmap : isMapN a0
      · cases a0.kind == (4 : Int) <;> rfl
      · exact hM r5 (isMapN_eq hmap).2 _
  · have r5 : (a1.kind == (5 : Int)) = false := by rw [eq_of_beq r4]; rfl
    have e5 : (a1.kind != (5 : Int)) = true := by simp only [bne, r5]; rfl
    rw [e5, r5]
    cases h4 : a0.kind == (4 : Int)
    · cases isMapN a0 <;> rfl
    · simp only [cond_true]
      rw [hL r4]
      cases isMapN a0 <;> rfl

noncomputable def s31 : Gm.Spec := Gm.Spec.of [.ro, .ro] [false] true q31
theorem good31 : Gm.Good Try.prog (31, s31) := by
  refine ⟨⟨spec_rec mu31 fun N hr => ?_, _, Try.func31, by kernel_rfl, of_decide_eq_true (by kernel_rfl)⟩, Gm.Spec.of_natl _ _ _ _⟩
  have hl : ∀ x ∈ [(30, s30), (31, s31r N), (49, s49), (50, s50)], Gm.Good Try.prog x := List.forall_mem_cons.2 ⟨good30, List.forall_mem_cons.2 ⟨⟨⟨hr, _, Try.func31, by kernel_rfl, of_decide_eq_true (by kernel_rfl)⟩, Gm.Spec.of_natl _ _ _ _⟩, List.forall_mem_cons.2 ⟨good49, List.forall_mem_cons.2 ⟨good50, List.forall_mem_nil _⟩⟩⟩⟩
  intro R
  refine spec_ok (E := f31e N) (tab_ok.env hl) (tab.natl hl) Try.func31 (by kernel_rfl : Try.f31.body = some f31c) [41] (by kernel_rfl) ?_
  intro ds outs h
  obtain ⟨h, hm⟩ := qeq_some h
  unfold q31 at h
  split at h
  · simp only [Option.some.injEq, Prod.mk.injEq] at h; obtain ⟨hg, h⟩ := h; cases h; exact f31_spec N _ _ hg hm
  · cases h
end Go.Proofs.Ytglijihijmkpaaa

/- x -/
namespace Go.Proofs.Ytglijihijmkpaaa
open Go Go.Gm
/-! ### loop.example/g00465/spec.l1In -/
noncomputable def f42c : Code := (Try.f42.body).getD .skip
def f42k : Nat → Kp := kat [⟨[0, 1, 2], [], [], []⟩, ⟨[6], [], [], []⟩]
noncomputable def f42e : Env := tab.env []
theorem f42_run {R : Type} (n : Nat) (k : List Dt → Option R) (a0 : Int) (a1 : Int) (a2 : Int) : evFn f42e f42k n f42c [.ro, .ro, .ro] [false] true [.tmp 6] [4] [.d (.i .i64) a0, .d (.i .i64) a1, .d (.i .i64) a2] k =
    (cond (decide (a0 ≥ a1))
    (k [.d .bool (decide (a0 ≤ a2))])
    (k [.d .bool false])) := by kernel_rfl
theorem f42_spec (a0 : Int) (a1 : Int) (a2 : Int) : ∃ keep rounds, ∀ {R : Type} (k : List Dt → Option R), evFn f42e keep rounds f42c [.ro, .ro, .ro] [false] true [.tmp 6] [4] [.d (.i .i64) a0, .d (.i .i64) a1, .d (.i .i64) a2] k = k [.d .bool (inR a0 a1 a2)] := by
  refine ⟨f42k, 0, fun k => ?_⟩
  rw [f42_run]; unfold inR
  cases decide (a0 ≥ a1) <;> rfl

noncomputable def q42 : List Dt → Option (Bool × List Dt)
  | [.d (.i .i64) a0, .d (.i .i64) a1, .d (.i .i64) a2] => some (true, [.d .bool (inR a0 a1 a2)])
  | _ => none
noncomputable def s42 : Gm.Spec := Gm.Spec.of [.ro, .ro, .ro] [false] true q42
theorem good42 : Gm.Good Try.prog (42, s42) := by
  have hl : ∀ x ∈ ([] : List (Nat × Gm.Spec)), Gm.Good Try.prog x := fun _ h => by cases h
  refine ⟨⟨spec_ok (tab_ok.env hl) (tab.natl hl) Try.func42 (by kernel_rfl : Try.f42.body = some f42c) [4] (by kernel_rfl) ?_, _, Try.func42, by kernel_rfl, of_decide_eq_true (by kernel_rfl)⟩, Gm.Spec.of_natl _ _ _ _⟩
  intro ds outs h
  unfold q42 at h
  split at h
  · cases h; exact f42_spec _ _ _
  · cases h
/-! ### loop.example/g00465/impl.from -/
noncomputable def f45c : Code := (Try.f45.body).getD .skip
def f45k : Nat → Kp := kat [⟨[0, 1, 2], [], [], []⟩, ⟨[6], [], [], []⟩]
noncomputable def f45e : Env := tab.env []
theorem f45_run {R : Type} (n : Nat) (k : List Dt → Option R) (a0 : Int) (a1 : Int) (a2 : Int) : evFn f45e f45k n f45c [.ro, .ro, .ro] [false] true [.tmp 6] [4] [.d (.i .i64) a0, .d (.i .i64) a1, .d (.i .i64) a2] k =
    (cond (decide (a0 ≥ a1))
    (k [.d .bool (decide (a0 ≤ a2))])
    (k [.d .bool false])) := by kernel_rfl
theorem f45_spec (a0 : Int) (a1 : Int) (a2 : Int) : ∃ keep rounds, ∀ {R : Type} (k : List Dt → Option R), evFn f45e keep rounds f45c [.ro, .ro, .ro] [false] true [.tmp 6] [4] [.d (.i .i64) a0, .d (.i .i64) a1, .d (.i .i64) a2] k = k [.d .bool (inR a0 a1 a2)] := by
  refine ⟨f45k, 0, fun k => ?_⟩
  rw [f45_run]; unfold inR
  cases decide (a0 ≥ a1) <;> rfl

noncomputable def q45 : List Dt → Option (Bool × List Dt)
  | [.d (.i .i64) a0, .d (.i .i64) a1, .d (.i .i64) a2] => some (true, [.d .bool (inR a0 a1 a2)])
  | _ => none
noncomputable def s45 : Gm.Spec := Gm.Spec.of [.ro, .ro, .ro] [false] true q45
theorem good45 : Gm.Good Try.prog (45, s45) := by
  have hl : ∀ x ∈ ([] : List (Nat × Gm.Spec)), Gm.Good Try.prog x := fun _ h => by cases h
  refine ⟨⟨spec_ok (tab_ok.env hl) (tab.natl hl) Try.func45 (by kernel_rfl : Try.f45.body = some f45c) [4] (by kernel_rfl) ?_, _, Try.func45, by kernel_rfl, of_decide_eq_true (by kernel_rfl)⟩, Gm.Spec.of_natl _ _ _ _⟩
  intro ds outs h
  unfold q45 at h
  split at h
  · cases h; exact f45_spec _ _ _
  · cases h
/-! ### loop.example/g00465/spec.TextOk -/
noncomputable def f55c : Code := (Try.f55.body).getD .skip
def f55k : Nat → Kp := kat [⟨[0], [], [], []⟩, ⟨[0, 3], [], [], []⟩, ⟨[0, 3, 7], [], [], []⟩, ⟨[0, 3], [], [], []⟩, ⟨[0, 3, 19], [], [], []⟩, ⟨[2], [], [], []⟩, ⟨[2], [], [], []⟩]
noncomputable def f55e : Env := tab.env []
noncomputable def f55L0 {R : Type} (n : Nat) (x0 : Option R) (x1 : Int → Bool → Option R) (vs0 : ByteArray) : Nat → Int → Option R
  | 0, _ => none
  | m + 1, vs3 =>
    (cond (decide (vs3 < (ByteArray.size vs0 : Int)))
      (cond ((decide ((0 : Int) ≤ vs3)) && (decide (vs3 < (ByteArray.size vs0 : Int))))
        (cond (decide ((((ByteArray.data vs0).getD (Int.toNat vs3) 0).toNat : Int) < (32 : Int)))
          (x0)
          (cond ((decide ((0 : Int) ≤ vs3)) && (decide (vs3 < (ByteArray.size vs0 : Int))))
            (cond (decide ((((ByteArray.data vs0).getD (Int.toNat vs3) 0).toNat : Int) > (126 : Int)))
              (x0)
              (f55L0 n x0 x1 vs0 m (IntKind.wrap .i64 (vs3 + (1 : Int)))))
            none))
        none)
      (x1 vs3 (decide (vs3 < (ByteArray.size vs0 : Int)))))
theorem f55L0_b {R : Type} (n : Nat) (k' : Ex → St → Option R) (vs0 : ByteArray) (vs3 : Int) : ev f55e f55k n (cAt [1,0,1,0,0] f55c) ⟨[(0, .c (.one (.v (.string vs0)))), (3, .c (.one (.v (.int .i64 vs3))))], [], []⟩ k' =
    (cond (decide (vs3 < (ByteArray.size vs0 : Int)))
    (cond ((decide ((0 : Int) ≤ vs3)) && (decide (vs3 < (ByteArray.size vs0 : Int))))
      (cond (decide ((((ByteArray.data vs0).getD (Int.toNat vs3) 0).toNat : Int) < (32 : Int)))
        (k' .ret ⟨[(2, .c (.one (.v (.bool false))))], [], []⟩)
        (cond ((decide ((0 : Int) ≤ vs3)) && (decide (vs3 < (ByteArray.size vs0 : Int))))
          (cond (decide ((((ByteArray.data vs0).getD (Int.toNat vs3) 0).toNat : Int) > (126 : Int)))
            (k' .ret ⟨[(2, .c (.one (.v (.bool false))))], [], []⟩)
            (k' .normal ⟨[(0, .c (.one (.v (.string vs0)))), (3, .c (.one (.v (.int .i64 (IntKind.wrap .i64 (vs3 + (1 : Int)))))))], [], []⟩))
          none))
      none)
    (k' (.exit 0) ⟨[(0, .c (.one (.v (.string vs0)))), (3, .c (.one (.v (.int .i64 vs3)))), (7, .c (.one (.v (.bool (decide (vs3 < (ByteArray.size vs0 : Int)))))))], [], []⟩)) := by kernel_rfl
theorem f55L0_eq {R : Type} (n : Nat) (k' : Ex → St → Option R) (vs0 : ByteArray) : ∀ (m : Nat) (vs3 : Int), iter (fun st k => ev f55e f55k n (cAt [1,0,1,0,0] f55c) st k) m ⟨[(0, .c (.one (.v (.string vs0)))), (3, .c (.one (.v (.int .i64 vs3))))], [], []⟩ k' = f55L0 n (k' .ret ⟨[(2, .c (.one (.v (.bool false))))], [], []⟩) (fun (xvs3 : Int) (xvs7 : Bool) => k' (.exit 0) ⟨[(0, .c (.one (.v (.string vs0)))), (3, .c (.one (.v (.int .i64 xvs3)))), (7, .c (.one (.v (.bool xvs7))))], [], []⟩) vs0 m vs3 := by
  intro m; induction m with
  | zero => intros; rfl
  | succ m ih =>
    intro vs3
    simp only [iter]
    rw [f55L0_b]
    simp only [ih, f55L0]

noncomputable def f55K0 {R : Type} (n : Nat) (k' : Ex → St → Option R) : Ex → St → Option R := (blockK 0 (seqK f55e f55k n (cAt [1,1] f55c) k'))
theorem f55K0_x0 {R : Type} (n : Nat) (k : List Dt → Option R) (a0 : ByteArray)  : f55K0 n (exitK f55e [.ro] [false] true [.tmp 2] [4] [.d .str a0] k) .ret ⟨[(2, .c (.one (.v (.bool false))))], [], []⟩ =
    (k [.d .bool false]) := by kernel_rfl
theorem f55K0_x1 {R : Type} (n : Nat) (k : List Dt → Option R) (a0 : ByteArray) (vs0 : ByteArray) (xvs3 : Int) (xvs7 : Bool) : f55K0 n (exitK f55e [.ro] [false] true [.tmp 2] [4] [.d .str a0] k) (.exit 0) ⟨[(0, .c (.one (.v (.string vs0)))), (3, .c (.one (.v (.int .i64 xvs3)))), (7, .c (.one (.v (.bool xvs7))))], [], []⟩ =
    (k [.d .bool (decide ((ByteArray.size vs0 : Int) ≤ (400 : Int)))]) := by kernel_rfl

theorem f55_run {R : Type} (n : Nat) (k : List Dt → Option R) (a0 : ByteArray) : evFn f55e f55k n f55c [.ro] [false] true [.tmp 2] [4] [.d .str a0] k =
    (f55L0 n (k [.d .bool false]) (fun (xvs3 : Int) (xvs7 : Bool) =>
    (k [.d .bool (decide ((ByteArray.size a0 : Int) ≤ (400 : Int)))])) a0 n (0 : Int)) := by
  refine Eq.trans (b := (iter (fun st k => ev f55e f55k n (cAt [1,0,1,0,0] f55c) st k) n ⟨[(0, .c (.one (.v (.string a0)))), (3, .c (.one (.v (.int .i64 (0 : Int)))))], [], []⟩ (f55K0 n (exitK f55e [.ro] [false] true [.tmp 2] [4] [.d .str a0] k)))) (by kernel_rfl) ?_
  simp only [f55L0_eq, f55K0_x0, f55K0_x1]
theorem f55_spec (a0 : ByteArray) (hg : okStr a0 = true) : ∃ keep rounds, ∀ {R : Type} (k : List Dt → Option R), evFn f55e keep rounds f55c [.ro] [false] true [.tmp 2] [4] [.d .str a0] k = k [.d .bool (textOk a0)] := by
  have hl : a0.size ≤ 9223372036854775807 := bleN hg
  refine ⟨f55k, a0.size + 1, fun {R} k => ?_⟩
  rw [f55_run]
  refine Eq.trans (loop_idx (n := a0.size) (F := fun m i => f55L0 (a0.size + 1) _ _ a0 m i) (p := fun j => inR (byteAt a0 j) 32 126) (good := _) (bad := k [.d .bool false])
    (fun m j hj => ?_) (fun m => by simp only [f55L0, idxE, cond_false]; rfl) a0.size 0 (a0.size + 1) (by omega) (by omega)) ?_
  · obtain ⟨h1, h0, hw, ht⟩ := idx hj (by omega)
    have hc : 0 ≤ byteAt a0 j ∧ byteAt a0 j < 256 := by
      unfold byteAt
      have := UInt8.toNat_lt (a0.data.getD j 0)
      omega
    simp only [f55L0, h1, h0, hw, ht, Bool.and_self, cond_true]
    change 0 ≤ (((ByteArray.data a0).getD j 0).toNat : Int) ∧ (((ByteArray.data a0).getD j 0).toNat : Int) < 256 at hc
    show _ = cond (inR (((ByteArray.data a0).getD j 0).toNat : Int) 32 126) _ _
    generalize (((ByteArray.data a0).getD j 0).toNat : Int) = c at *
    unfold inR
    rw [show decide (c < 32) = !(decide (c ≥ 32)) by rw [Bool.eq_iff_iff]; simp, show decide (c > 126) = !(decide (c ≤ 126)) by rw [Bool.eq_iff_iff]; simp]
    cases decide (c ≥ 32) <;> cases decide (c ≤ 126) <;> rfl
  · unfold textOk
    cases allN (fun j => inR (byteAt a0 j) 32 126) 0 a0.size <;> rfl

noncomputable def q55 : List Dt → Option (Bool × List Dt)
  | [.d .str a0] => some ((okStr a0), [.d .bool (textOk a0)])
  | _ => none
noncomputable def s55 : Gm.Spec := Gm.Spec.of [.ro] [false] true q55
theorem good55 : Gm.Good Try.prog (55, s55) := by
  have hl : ∀ x ∈ ([] : List (Nat × Gm.Spec)), Gm.Good Try.prog x := fun _ h => by cases h
  refine ⟨⟨spec_ok (tab_ok.env hl) (tab.natl hl) Try.func55 (by kernel_rfl : Try.f55.body = some f55c) [4] (by kernel_rfl) ?_, _, Try.func55, by kernel_rfl, of_decide_eq_true (by kernel_rfl)⟩, Gm.Spec.of_natl _ _ _ _⟩
  intro ds outs h
  unfold q55 at h
  split at h
  · simp only [Option.some.injEq, Prod.mk.injEq] at h; obtain ⟨hg, h⟩ := h; cases h; exact f55_spec _ hg
  · cases h
/-! ### loop.example/g00465/impl.TextOk -/
noncomputable def f46c : Code := (Try.f46.body).getD .skip
def f46k : Nat → Kp := kat [⟨[0], [], [], []⟩, ⟨[0, 5, 6], [], [], []⟩, ⟨[0, 5, 6, 7], [], [], []⟩, ⟨[0, 3, 5, 6], [], [], []⟩, ⟨[0, 5, 6, 14], [], [], []⟩, ⟨[2], [], [], []⟩, ⟨[0, 5, 6], [], [], []⟩, ⟨[2], [], [], []⟩]
noncomputable def f46e : Env := tab.env [(45, s45)]
noncomputable def f46L0 {R : Type} (n : Nat) (x0 : Option R) (x1 : Int → Bool → Option R) (vs0 : ByteArray) (vs5 : Int) : Nat → Int → Option R
  | 0, _ => none
  | m + 1, vs6 =>
    (cond (decide (vs6 < vs5))
      (cond ((decide ((0 : Int) ≤ vs6)) && (decide (vs6 < (ByteArray.size vs0 : Int))))
        (cond (!(inR (IntKind.wrap .i64 (((ByteArray.data vs0).getD (Int.toNat vs6) 0).toNat : Int)) (32 : Int) (126 : Int)))
          (x0)
          (f46L0 n x0 x1 vs0 vs5 m (IntKind.wrap .i64 (vs6 + (1 : Int)))))
        none)
      (x1 vs6 (decide (vs6 < vs5))))
theorem f46L0_b {R : Type} (n : Nat) (k' : Ex → St → Option R) (vs0 : ByteArray) (vs5 : Int) (vs6 : Int) : ev f46e f46k n (cAt [1,0,1,0,0] f46c) ⟨[(0, .c (.one (.v (.string vs0)))), (5, .c (.one (.v (.int .i64 vs5)))), (6, .c (.one (.v (.int .i64 vs6))))], [], []⟩ k' =
    (cond (decide (vs6 < vs5))
    (cond ((decide ((0 : Int) ≤ vs6)) && (decide (vs6 < (ByteArray.size vs0 : Int))))
      (cond (!(inR (IntKind.wrap .i64 (((ByteArray.data vs0).getD (Int.toNat vs6) 0).toNat : Int)) (32 : Int) (126 : Int)))
        (k' .ret ⟨[(2, .c (.one (.v (.bool false))))], [], []⟩)
        (k' .normal ⟨[(0, .c (.one (.v (.string vs0)))), (5, .c (.one (.v (.int .i64 vs5)))), (6, .c (.one (.v (.int .i64 (IntKind.wrap .i64 (vs6 + (1 : Int)))))))], [], []⟩))
      none)
    (k' (.exit 0) ⟨[(0, .c (.one (.v (.string vs0)))), (5, .c (.one (.v (.int .i64 vs5)))), (6, .c (.one (.v (.int .i64 vs6)))), (7, .c (.one (.v (.bool (decide (vs6 < vs5))))))], [], []⟩)) := by kernel_rfl
theorem f46L0_eq {R : Type} (n : Nat) (k' : Ex → St → Option R) (vs0 : ByteArray) (vs5 : Int) : ∀ (m : Nat) (vs6 : Int), iter (fun st k => ev f46e f46k n (cAt [1,0,1,0,0] f46c) st k) m ⟨[(0, .c (.one (.v (.string vs0)))), (5, .c (.one (.v (.int .i64 vs5)))), (6, .c (.one (.v (.int .i64 vs6))))], [], []⟩ k' = f46L0 n (k' .ret ⟨[(2, .c (.one (.v (.bool false))))], [], []⟩) (fun (xvs6 : Int) (xvs7 : Bool) => k' (.exit 0) ⟨[(0, .c (.one (.v (.string vs0)))), (5, .c (.one (.v (.int .i64 vs5)))), (6, .c (.one (.v (.int .i64 xvs6)))), (7, .c (.one (.v (.bool xvs7))))], [], []⟩) vs0 vs5 m vs6 := by
  intro m; induction m with
  | zero => intros; rfl
  | succ m ih =>
    intro vs6
    simp only [iter]
    rw [f46L0_b]
    simp only [ih, f46L0]

noncomputable def f46K0 {R : Type} (n : Nat) (k' : Ex → St → Option R) : Ex → St → Option R := (blockK 0 (seqK f46e f46k n (cAt [1,1] f46c) k'))
theorem f46K0_x0 {R : Type} (n : Nat) (k : List Dt → Option R) (a0 : ByteArray)  : f46K0 n (exitK f46e [.ro] [false] true [.tmp 2] [4] [.d .str a0] k) .ret ⟨[(2, .c (.one (.v (.bool false))))], [], []⟩ =
    (k [.d .bool false]) := by kernel_rfl
theorem f46K0_x1 {R : Type} (n : Nat) (k : List Dt → Option R) (a0 : ByteArray) (vs0 : ByteArray) (vs5 : Int) (xvs6 : Int) (xvs7 : Bool) : f46K0 n (exitK f46e [.ro] [false] true [.tmp 2] [4] [.d .str a0] k) (.exit 0) ⟨[(0, .c (.one (.v (.string vs0)))), (5, .c (.one (.v (.int .i64 vs5)))), (6, .c (.one (.v (.int .i64 xvs6)))), (7, .c (.one (.v (.bool xvs7))))], [], []⟩ =
    (k [.d .bool (decide ((ByteArray.size vs0 : Int) ≤ (400 : Int)))]) := by kernel_rfl

theorem f46_run {R : Type} (n : Nat) (k : List Dt → Option R) (a0 : ByteArray) : evFn f46e f46k n f46c [.ro] [false] true [.tmp 2] [4] [.d .str a0] k =
    (f46L0 n (k [.d .bool false]) (fun (xvs6 : Int) (xvs7 : Bool) =>
    (k [.d .bool (decide ((ByteArray.size a0 : Int) ≤ (400 : Int)))])) a0 (ByteArray.size a0 : Int) n (0 : Int)) := by
  refine Eq.trans (b := (iter (fun st k => ev f46e f46k n (cAt [1,0,1,0,0] f46c) st k) n ⟨[(0, .c (.one (.v (.string a0)))), (5, .c (.one (.v (.int .i64 (ByteArray.size a0 : Int))))), (6, .c (.one (.v (.int .i64 (0 : Int)))))], [], []⟩ (f46K0 n (exitK f46e [.ro] [false] true [.tmp 2] [4] [.d .str a0] k)))) (by kernel_rfl) ?_
  simp only [f46L0_eq, f46K0_x0, f46K0_x1]
theorem f46_spec (a0 : ByteArray) (hg : okStr a0 = true) : ∃ keep rounds, ∀ {R : Type} (k : List Dt → Option R), evFn f46e keep rounds f46c [.ro] [false] true [.tmp 2] [4] [.d .str a0] k = k [.d .bool (textOk a0)] := by
  have hl : a0.size ≤ 9223372036854775807 := bleN hg
  refine ⟨f46k, a0.size + 1, fun {R} k => ?_⟩
  rw [f46_run]
  refine Eq.trans (loop_idx (n := a0.size) (F := fun m i => f46L0 (a0.size + 1) _ _ a0 (a0.size : Int) m i) (p := fun j => inR (byteAt a0 j) 32 126) (good := _) (bad := k [.d .bool false])
    (fun m j hj => ?_) (fun m => by simp only [f46L0, idxE, cond_false]; rfl) a0.size 0 (a0.size + 1) (by omega) (by omega)) ?_
  · obtain ⟨h1, h0, hw, ht⟩ := idx hj (by omega)
    have hc : 0 ≤ byteAt a0 j ∧ byteAt a0 j < 256 := by
      unfold byteAt
      have := UInt8.toNat_lt (a0.data.getD j 0)
      omega
    simp only [f46L0, h1, h0, hw, ht, Bool.and_self, cond_true]
    change 0 ≤ (((ByteArray.data a0).getD j 0).toNat : Int) ∧ (((ByteArray.data a0).getD j 0).toNat : Int) < 256 at hc
    show _ = cond (inR (((ByteArray.data a0).getD j 0).toNat : Int) 32 126) _ _
    generalize (((ByteArray.data a0).getD j 0).toNat : Int) = c at *
    rw [wrap_id (by omega) (by omega)]
    cases inR c 32 126 <;> rfl
  · unfold textOk
    cases allN (fun j => inR (byteAt a0 j) 32 126) 0 a0.size <;> rfl

noncomputable def q46 : List Dt → Option (Bool × List Dt)
  | [.d .str a0] => some ((okStr a0), [.d .bool (textOk a0)])
  | _ => none
noncomputable def s46 : Gm.Spec := Gm.Spec.of [.ro] [false] true q46
theorem good46 : Gm.Good Try.prog (46, s46) := by
  have hl : ∀ x ∈ [(45, s45)], Gm.Good Try.prog x := List.forall_mem_cons.2 ⟨good45, List.forall_mem_nil _⟩
  refine ⟨⟨spec_ok (tab_ok.env hl) (tab.natl hl) Try.func46 (by kernel_rfl : Try.f46.body = some f46c) [4] (by kernel_rfl) ?_, _, Try.func46, by kernel_rfl, of_decide_eq_true (by kernel_rfl)⟩, Gm.Spec.of_natl _ _ _ _⟩
  intro ds outs h
  unfold q46 at h
  split at h
  · simp only [Option.some.injEq, Prod.mk.injEq] at h; obtain ⟨hg, h⟩ := h; cases h; exact f46_spec _ hg
  · cases h
/-! ### loop.example/g00465/spec.l1Bit -/
noncomputable def f44c : Code := (Try.f44.body).getD .skip
def f44k : Nat → Kp := kat [⟨[0], [], [], []⟩, ⟨[3], [], [], []⟩, ⟨[2], [], [], []⟩, ⟨[2], [], [], []⟩]
noncomputable def f44e : Env := tab.env []
theorem f44_run {R : Type} (n : Nat) (k : List Dt → Option R) (a0 : Bool) : evFn f44e f44k n f44c [.ro] [false] true [.tmp 2] [3] [.d .bool a0] k =
    (cond a0
    (k [.d (.i .i64) (1 : Int)])
    (k [.d (.i .i64) (0 : Int)])) := by kernel_rfl
theorem f44_spec (a0 : Bool) : ∃ keep rounds, ∀ {R : Type} (k : List Dt → Option R), evFn f44e keep rounds f44c [.ro] [false] true [.tmp 2] [3] [.d .bool a0] k = k [.d (.i .i64) (bitI a0)] := by
  refine ⟨f44k, 0, fun k => ?_⟩
  rw [f44_run]; unfold bitI; cases a0 <;> rfl

noncomputable def q44 : List Dt → Option (Bool × List Dt)
  | [.d .bool a0] => some (true, [.d (.i .i64) (bitI a0)])
  | _ => none
noncomputable def s44 : Gm.Spec := Gm.Spec.of [.ro] [false] true q44
theorem good44 : Gm.Good Try.prog (44, s44) := by
  have hl : ∀ x ∈ ([] : List (Nat × Gm.Spec)), Gm.Good Try.prog x := fun _ h => by cases h
  refine ⟨⟨spec_ok (tab_ok.env hl) (tab.natl hl) Try.func44 (by kernel_rfl : Try.f44.body = some f44c) [3] (by kernel_rfl) ?_, _, Try.func44, by kernel_rfl, of_decide_eq_true (by kernel_rfl)⟩, Gm.Spec.of_natl _ _ _ _⟩
  intro ds outs h
  unfold q44 at h
  split at h
  · cases h; exact f44_spec _
  · cases h
/-! ### loop.example/g00465/spec.l3Keys -/
noncomputable def f43c : Code := (Try.f43.body).getD .skip
def f43k : Nat → Kp := kat [⟨[0], [], [], []⟩, ⟨[0, 3], [], [], []⟩, ⟨[0, 3, 7], [], [], []⟩, ⟨[0, 3], [], [], []⟩, ⟨[0, 3, 31], [], [], []⟩, ⟨[2], [], [], []⟩, ⟨[2], [], [], []⟩]
noncomputable def f43e : Env := tab.env [(55, s55)]
noncomputable def f43L0 {R : Type} (n : Nat) (x0 : Option R) (x1 : Int → Bool → Option R) (vs0 : List ByteArray) : Nat → Int → Option R
  | 0, _ => none
  | m + 1, vs3 =>
    (cond (decide (vs3 < (vs0.length : Int)))
      (cond ((decide ((0 : Int) ≤ vs3)) && (decide (vs3 < (vs0.length : Int))))
        (cond (okStr (atI (t := .str) vs0 (Int.toNat vs3)))
          (cond (!(textOk (atI (t := .str) vs0 (Int.toNat vs3))))
            (x0)
            (cond (decide (vs3 > (0 : Int)))
              (cond ((decide ((0 : Int) ≤ (IntKind.wrap .i64 (vs3 - (1 : Int))))) && (decide ((IntKind.wrap .i64 (vs3 - (1 : Int))) < (vs0.length : Int))))
                (cond ((decide ((0 : Int) ≤ vs3)) && (decide (vs3 < (vs0.length : Int))))
                  (cond (!(sLt (atI (t := .str) vs0 (Int.toNat (IntKind.wrap .i64 (vs3 - (1 : Int))))) (atI (t := .str) vs0 (Int.toNat vs3))))
                    (x0)
                    (f43L0 n x0 x1 vs0 m (IntKind.wrap .i64 (vs3 + (1 : Int)))))
                  none)
                none)
              (f43L0 n x0 x1 vs0 m (IntKind.wrap .i64 (vs3 + (1 : Int))))))
          none)
        none)
      (x1 vs3 (decide (vs3 < (vs0.length : Int)))))
theorem f43L0_b {R : Type} (n : Nat) (k' : Ex → St → Option R) (vs0 : List ByteArray) (vs3 : Int) : ev f43e f43k n (cAt [1,0,1,0,0] f43c) ⟨[(0, .c (.one (.ro .str vs0))), (3, .c (.one (.v (.int .i64 vs3))))], [], []⟩ k' =
    (cond (decide (vs3 < (vs0.length : Int)))
    (cond ((decide ((0 : Int) ≤ vs3)) && (decide (vs3 < (vs0.length : Int))))
      (cond (okStr (atI (t := .str) vs0 (Int.toNat vs3)))
        (cond (!(textOk (atI (t := .str) vs0 (Int.toNat vs3))))
          (k' .ret ⟨[(2, .c (.one (.v (.bool false))))], [], []⟩)
          (cond (decide (vs3 > (0 : Int)))
            (cond ((decide ((0 : Int) ≤ (IntKind.wrap .i64 (vs3 - (1 : Int))))) && (decide ((IntKind.wrap .i64 (vs3 - (1 : Int))) < (vs0.length : Int))))
              (cond ((decide ((0 : Int) ≤ vs3)) && (decide (vs3 < (vs0.length : Int))))
                (cond (!(sLt (atI (t := .str) vs0 (Int.toNat (IntKind.wrap .i64 (vs3 - (1 : Int))))) (atI (t := .str) vs0 (Int.toNat vs3))))
                  (k' .ret ⟨[(2, .c (.one (.v (.bool false))))], [], []⟩)
                  (k' .normal ⟨[(0, .c (.one (.ro .str vs0))), (3, .c (.one (.v (.int .i64 (IntKind.wrap .i64 (vs3 + (1 : Int)))))))], [], []⟩))
                none)
              none)
            (k' .normal ⟨[(0, .c (.one (.ro .str vs0))), (3, .c (.one (.v (.int .i64 (IntKind.wrap .i64 (vs3 + (1 : Int)))))))], [], []⟩)))
        none)
      none)
    (k' (.exit 0) ⟨[(0, .c (.one (.ro .str vs0))), (3, .c (.one (.v (.int .i64 vs3)))), (7, .c (.one (.v (.bool (decide (vs3 < (vs0.length : Int)))))))], [], []⟩)) := by kernel_rfl
theorem f43L0_eq {R : Type} (n : Nat) (k' : Ex → St → Option R) (vs0 : List ByteArray) : ∀ (m : Nat) (vs3 : Int), iter (fun st k => ev f43e f43k n (cAt [1,0,1,0,0] f43c) st k) m ⟨[(0, .c (.one (.ro .str vs0))), (3, .c (.one (.v (.int .i64 vs3))))], [], []⟩ k' = f43L0 n (k' .ret ⟨[(2, .c (.one (.v (.bool false))))], [], []⟩) (fun (xvs3 : Int) (xvs7 : Bool) => k' (.exit 0) ⟨[(0, .c (.one (.ro .str vs0))), (3, .c (.one (.v (.int .i64 xvs3)))), (7, .c (.one (.v (.bool xvs7))))], [], []⟩) vs0 m vs3 := by
  intro m; induction m with
  | zero => intros; rfl
  | succ m ih =>
    intro vs3
    simp only [iter]
    rw [f43L0_b]
    simp only [ih, f43L0]

noncomputable def f43K0 {R : Type} (n : Nat) (k' : Ex → St → Option R) : Ex → St → Option R := (blockK 0 (seqK f43e f43k n (cAt [1,1] f43c) k'))
theorem f43K0_x0 {R : Type} (n : Nat) (k : List Dt → Option R) (a0 : List ByteArray)  : f43K0 n (exitK f43e [.ro] [false] true [.tmp 2] [4] [.d (.sl .str) a0] k) .ret ⟨[(2, .c (.one (.v (.bool false))))], [], []⟩ =
    (k [.d .bool false]) := by kernel_rfl
theorem f43K0_x1 {R : Type} (n : Nat) (k : List Dt → Option R) (a0 : List ByteArray) (vs0 : List ByteArray) (xvs3 : Int) (xvs7 : Bool) : f43K0 n (exitK f43e [.ro] [false] true [.tmp 2] [4] [.d (.sl .str) a0] k) (.exit 0) ⟨[(0, .c (.one (.ro .str vs0))), (3, .c (.one (.v (.int .i64 xvs3)))), (7, .c (.one (.v (.bool xvs7))))], [], []⟩ =
    (k [.d .bool true]) := by kernel_rfl

theorem f43_run {R : Type} (n : Nat) (k : List Dt → Option R) (a0 : List ByteArray) : evFn f43e f43k n f43c [.ro] [false] true [.tmp 2] [4] [.d (.sl .str) a0] k =
    (f43L0 n (k [.d .bool false]) (fun (xvs3 : Int) (xvs7 : Bool) =>
    (k [.d .bool true])) a0 n (0 : Int)) := by
  refine Eq.trans (b := (iter (fun st k => ev f43e f43k n (cAt [1,0,1,0,0] f43c) st k) n ⟨[(0, .c (.one (.ro .str a0))), (3, .c (.one (.v (.int .i64 (0 : Int)))))], [], []⟩ (f43K0 n (exitK f43e [.ro] [false] true [.tmp 2] [4] [.d (.sl .str) a0] k)))) (by kernel_rfl) ?_
  simp only [f43L0_eq, f43K0_x0, f43K0_x1]
theorem f43_spec (a0 : List ByteArray) (hg : gNames a0 = true) : ∃ keep rounds, ∀ {R : Type} (k : List Dt → Option R), evFn f43e keep rounds f43c [.ro] [false] true [.tmp 2] [4] [.d (.sl .str) a0] k = k [.d .bool (keysOk a0)] := by
  simp only [gNames, okL, Bool.and_eq_true] at hg
  obtain ⟨hl, hs⟩ := hg
  have hl : a0.length ≤ 9223372036854775807 := bleN hl
  refine ⟨f43k, a0.length + 1, fun {R} k => ?_⟩
  rw [f43_run]
  refine Eq.trans (loop_idx (n := a0.length) (F := fun m i => f43L0 (a0.length + 1) _ _ a0 m i) (p := keyC a0) (good := k [.d .bool true]) (bad := k [.d .bool false])
    (fun m j hj => ?_) (fun m => by simp only [f43L0, idxE, cond_false]) a0.length 0 (a0.length + 1) (by omega) (by omega)) ?_
  · obtain ⟨h1, h0, hw, ht⟩ := idx hj (by omega)
    simp only [f43L0, h1, h0, hw, ht, okStr_at hs hj, Bool.and_self, cond_true]
    unfold keyC
    cases textOk (atI (t := .str) a0 j)
    · rfl
    · by_cases hz : (j : Int) > 0
      · obtain ⟨h2, h3, _, h5⟩ := idx (show j - 1 < a0.length by omega) (by omega)
        simp only [hz, decide_true, cond_true, idxM hj (by omega) (by omega), h2, h3, h5, Bool.and_self]
        cases sLt (atI (t := .str) a0 (j - 1)) (atI (t := .str) a0 j) <;> rfl
      · simp only [hz, decide_false, cond_false]; rfl
  · unfold keysOk
    cases allN (keyC a0) 0 a0.length <;> rfl

noncomputable def q43 : List Dt → Option (Bool × List Dt)
  | [.d (.sl .str) a0] => some ((gNames a0), [.d .bool (keysOk a0)])
  | _ => none
noncomputable def s43 : Gm.Spec := Gm.Spec.of [.ro] [false] true q43
theorem good43 : Gm.Good Try.prog (43, s43) := by
  have hl : ∀ x ∈ [(55, s55)], Gm.Good Try.prog x := List.forall_mem_cons.2 ⟨good55, List.forall_mem_nil _⟩
  refine ⟨⟨spec_ok (tab_ok.env hl) (tab.natl hl) Try.func43 (by kernel_rfl : Try.f43.body = some f43c) [4] (by kernel_rfl) ?_, _, Try.func43, by kernel_rfl, of_decide_eq_true (by kernel_rfl)⟩, Gm.Spec.of_natl _ _ _ _⟩
  intro ds outs h
  unfold q43 at h
  split at h
  · simp only [Option.some.injEq, Prod.mk.injEq] at h; obtain ⟨hg, h⟩ := h; cases h; exact f43_spec _ hg
  · cases h
end Go.Proofs.Ytglijihijmkpaaa

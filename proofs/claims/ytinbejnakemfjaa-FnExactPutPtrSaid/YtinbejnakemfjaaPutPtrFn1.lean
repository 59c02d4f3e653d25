/- What the functions compute, part 1. No conditions. -/
import Derived.Test.YtinbejnakemfjaaGm4
import Derived.Test.YtinbejnakemfjaaRows
import Derived.Lib.Strings
import Derived.Lib.Slices
import Derived.Lib.SliceRun
import Derived.Lib.Walk
import Derived.WalkKit
import Derived.Deep.RegionLaw
import Derived.Lib.AppendZeros
import Derived.Laws.Externs
/- The table of types of the program, and that it is the program's. Printed by gev.py of this session. -/
namespace Go.Proofs.Ytinbejnakemfjaa
open Go Go.Gm
def tab : Tab := { code := [(2, (.i .i64)), (3, (.i .i64)), (4, .bool), (5, (.i .u8)), (6, (.i .u8)), (9, .str), (10, .str), (11, .str), (12, (.i .u64)), (21, (.i .i32)), (22, (.sl .str)), (23, (.sl .node)), (25, .node), (27, (.sl (.sl .str))), (29, (.sl .node)), (31, .node), (46, (.sl (.i .u8))), (84, .cur), (89, (.sl (.i .i64))), (100, (.i .u64)), (109, (.i .u32)), (110, (.i .u8)), (111, (.i .u8)), (114, (.i .i32)), (115, (.i .i32))], eqs := [], fld := [(25, [(0, 3), (1, 3), (2, 9), (3, 22), (4, 23)]), (31, [(0, 3), (1, 3), (2, 9), (3, 22), (4, 29)]), (84, [(0, 46), (1, 3), (2, 3)])] }
theorem und2 : UndOk (tab.env []) Try.prog 2 (.i .i64) := (by kernel_rfl : Try.prog.underlying 2 = some (.int .i64))
theorem und3 : UndOk (tab.env []) Try.prog 3 (.i .i64) := (by kernel_rfl : Try.prog.underlying 3 = some (.int .i64))
theorem und4 : UndOk (tab.env []) Try.prog 4 .bool := (by kernel_rfl : Try.prog.underlying 4 = some .bool)
theorem und5 : UndOk (tab.env []) Try.prog 5 (.i .u8) := (by kernel_rfl : Try.prog.underlying 5 = some (.int .u8))
theorem und6 : UndOk (tab.env []) Try.prog 6 (.i .u8) := (by kernel_rfl : Try.prog.underlying 6 = some (.int .u8))
theorem und9 : UndOk (tab.env []) Try.prog 9 .str := (by kernel_rfl : Try.prog.underlying 9 = some .string)
theorem und10 : UndOk (tab.env []) Try.prog 10 .str := (by kernel_rfl : Try.prog.underlying 10 = some .string)
theorem und11 : UndOk (tab.env []) Try.prog 11 .str := (by kernel_rfl : Try.prog.underlying 11 = some .string)
theorem und12 : UndOk (tab.env []) Try.prog 12 (.i .u64) := (by kernel_rfl : Try.prog.underlying 12 = some (.int .u64))
theorem und21 : UndOk (tab.env []) Try.prog 21 (.i .i32) := (by kernel_rfl : Try.prog.underlying 21 = some (.int .i32))
theorem und22 : UndOk (tab.env []) Try.prog 22 (.sl .str) := ⟨9, by kernel_rfl, by kernel_rfl⟩
theorem und23 : UndOk (tab.env []) Try.prog 23 (.sl .node) := ⟨25, by kernel_rfl, by kernel_rfl⟩
theorem und25 : UndOk (tab.env []) Try.prog 25 .node := ⟨_, Try.underlying25⟩
theorem und27 : UndOk (tab.env []) Try.prog 27 (.sl (.sl .str)) := ⟨22, by kernel_rfl, by kernel_rfl⟩
theorem und29 : UndOk (tab.env []) Try.prog 29 (.sl .node) := ⟨31, by kernel_rfl, by kernel_rfl⟩
theorem und31 : UndOk (tab.env []) Try.prog 31 .node := ⟨_, Try.underlying31⟩
theorem und46 : UndOk (tab.env []) Try.prog 46 (.sl (.i .u8)) := ⟨5, by kernel_rfl, by kernel_rfl⟩
theorem und84 : UndOk (tab.env []) Try.prog 84 .cur := ⟨_, Try.underlying84⟩
theorem und89 : UndOk (tab.env []) Try.prog 89 (.sl (.i .i64)) := ⟨3, by kernel_rfl, by kernel_rfl⟩
theorem und100 : UndOk (tab.env []) Try.prog 100 (.i .u64) := (by kernel_rfl : Try.prog.underlying 100 = some (.int .u64))
theorem und109 : UndOk (tab.env []) Try.prog 109 (.i .u32) := (by kernel_rfl : Try.prog.underlying 109 = some (.int .u32))
theorem und110 : UndOk (tab.env []) Try.prog 110 (.i .u8) := (by kernel_rfl : Try.prog.underlying 110 = some (.int .u8))
theorem und111 : UndOk (tab.env []) Try.prog 111 (.i .u8) := (by kernel_rfl : Try.prog.underlying 111 = some (.int .u8))
theorem und114 : UndOk (tab.env []) Try.prog 114 (.i .i32) := (by kernel_rfl : Try.prog.underlying 114 = some (.int .i32))
theorem und115 : UndOk (tab.env []) Try.prog 115 (.i .i32) := (by kernel_rfl : Try.prog.underlying 115 = some (.int .i32))
theorem fld25 : ∃ fs : Array Field, Try.prog.underlying 25 = some (.struct fs) ∧ [(0, 3), (1, 3), (2, 9), (3, 22), (4, 23)] = fs.toList.map (fun f => (f.offset, f.type)) ∧ (∀ y ∈ ([(0, 3), (1, 3), (2, 9), (3, 22), (4, 23)] : List (Nat × Nat)), (aget tab.code y.2).isSome) ∧ (fs.toList.mapM (fun f => (Try.prog.info? f.type).map fun i => (f.offset, i.size))).isSome :=
  ⟨_, Try.underlying25, by kernel_rfl, List.all_eq_true.1 (by kernel_rfl), by kernel_rfl⟩
theorem fld31 : ∃ fs : Array Field, Try.prog.underlying 31 = some (.struct fs) ∧ [(0, 3), (1, 3), (2, 9), (3, 22), (4, 29)] = fs.toList.map (fun f => (f.offset, f.type)) ∧ (∀ y ∈ ([(0, 3), (1, 3), (2, 9), (3, 22), (4, 29)] : List (Nat × Nat)), (aget tab.code y.2).isSome) ∧ (fs.toList.mapM (fun f => (Try.prog.info? f.type).map fun i => (f.offset, i.size))).isSome :=
  ⟨_, Try.underlying31, by kernel_rfl, List.all_eq_true.1 (by kernel_rfl), by kernel_rfl⟩
theorem fld84 : ∃ fs : Array Field, Try.prog.underlying 84 = some (.struct fs) ∧ [(0, 46), (1, 3), (2, 3)] = fs.toList.map (fun f => (f.offset, f.type)) ∧ (∀ y ∈ ([(0, 46), (1, 3), (2, 3)] : List (Nat × Nat)), (aget tab.code y.2).isSome) ∧ (fs.toList.mapM (fun f => (Try.prog.info? f.type).map fun i => (f.offset, i.size))).isSome :=
  ⟨_, Try.underlying84, by kernel_rfl, List.all_eq_true.1 (by kernel_rfl), by kernel_rfl⟩
theorem tab_ok : tab.Ok Try.prog := {
  info := infoChk_ok (by kernel_rfl)
  und := List.forall_mem_cons.2 ⟨und2, List.forall_mem_cons.2 ⟨und3, List.forall_mem_cons.2 ⟨und4, List.forall_mem_cons.2 ⟨und5, List.forall_mem_cons.2 ⟨und6, List.forall_mem_cons.2 ⟨und9, List.forall_mem_cons.2 ⟨und10, List.forall_mem_cons.2 ⟨und11, List.forall_mem_cons.2 ⟨und12, List.forall_mem_cons.2 ⟨und21, List.forall_mem_cons.2 ⟨und22, List.forall_mem_cons.2 ⟨und23, List.forall_mem_cons.2 ⟨und25, List.forall_mem_cons.2 ⟨und27, List.forall_mem_cons.2 ⟨und29, List.forall_mem_cons.2 ⟨und31, List.forall_mem_cons.2 ⟨und46, List.forall_mem_cons.2 ⟨und84, List.forall_mem_cons.2 ⟨und89, List.forall_mem_cons.2 ⟨und100, List.forall_mem_cons.2 ⟨und109, List.forall_mem_cons.2 ⟨und110, List.forall_mem_cons.2 ⟨und111, List.forall_mem_cons.2 ⟨und114, List.forall_mem_cons.2 ⟨und115, List.forall_mem_nil _⟩⟩⟩⟩⟩⟩⟩⟩⟩⟩⟩⟩⟩⟩⟩⟩⟩⟩⟩⟩⟩⟩⟩⟩⟩
  fld := List.forall_mem_cons.2 ⟨fld25, List.forall_mem_cons.2 ⟨fld31, List.forall_mem_cons.2 ⟨fld84, List.forall_mem_nil _⟩⟩⟩
  sts := List.forall_mem_cons.2 ⟨fun h => by first | (cases h; done) | (simp; done), List.forall_mem_cons.2 ⟨fun h => by first | (cases h; done) | (simp; done), List.forall_mem_cons.2 ⟨fun h => by first | (cases h; done) | (simp; done), List.forall_mem_cons.2 ⟨fun h => by first | (cases h; done) | (simp; done), List.forall_mem_cons.2 ⟨fun h => by first | (cases h; done) | (simp; done), List.forall_mem_cons.2 ⟨fun h => by first | (cases h; done) | (simp; done), List.forall_mem_cons.2 ⟨fun h => by first | (cases h; done) | (simp; done), List.forall_mem_cons.2 ⟨fun h => by first | (cases h; done) | (simp; done), List.forall_mem_cons.2 ⟨fun h => by first | (cases h; done) | (simp; done), List.forall_mem_cons.2 ⟨fun h => by first | (cases h; done) | (simp; done), List.forall_mem_cons.2 ⟨fun h => by first | (cases h; done) | (simp; done), List.forall_mem_cons.2 ⟨fun h => by first | (cases h; done) | (simp; done), List.forall_mem_cons.2 ⟨fun _ => by simp [tab], List.forall_mem_cons.2 ⟨fun h => by first | (cases h; done) | (simp; done), List.forall_mem_cons.2 ⟨fun h => by first | (cases h; done) | (simp; done), List.forall_mem_cons.2 ⟨fun _ => by simp [tab], List.forall_mem_cons.2 ⟨fun h => by first | (cases h; done) | (simp; done), List.forall_mem_cons.2 ⟨fun _ => by simp [tab], List.forall_mem_cons.2 ⟨fun h => by first | (cases h; done) | (simp; done), List.forall_mem_cons.2 ⟨fun h => by first | (cases h; done) | (simp; done), List.forall_mem_cons.2 ⟨fun h => by first | (cases h; done) | (simp; done), List.forall_mem_cons.2 ⟨fun h => by first | (cases h; done) | (simp; done), List.forall_mem_cons.2 ⟨fun h => by first | (cases h; done) | (simp; done), List.forall_mem_cons.2 ⟨fun h => by first | (cases h; done) | (simp; done), List.forall_mem_cons.2 ⟨fun h => by first | (cases h; done) | (simp; done), List.forall_mem_nil _⟩⟩⟩⟩⟩⟩⟩⟩⟩⟩⟩⟩⟩⟩⟩⟩⟩⟩⟩⟩⟩⟩⟩⟩⟩
  eqs := List.forall_mem_nil _
  ord := by kernel_rfl }
end Go.Proofs.Ytinbejnakemfjaa

/- x -/
namespace Go.Proofs.Ytinbejnakemfjaa
open Go Go.Gm
/-! ### loop.example/g00465/impl.isMap -/
noncomputable def f56c : Code := (Try.f56.body).getD .skip
def f56k : Nat → Kp := kat [⟨[1], [], [], []⟩, ⟨[2], [], [], []⟩]
noncomputable def f56e : Env := tab.env []
theorem f56_run {R : Type} (n : Nat) (k : List Dt → Option R) (a0 : NodeT) : evFn f56e f56k n f56c [.ro] [false] true [.tmp 2] [4] [.d .node a0] k =
    (cond ((NodeT.kind a0) == (5 : Int))
    (k [.d .bool (((NodeT.keys a0).length : Int) == ((NodeT.kids a0).length : Int))])
    (k [.d .bool false])) := by kernel_rfl
theorem f56_spec (a0 : NodeT) : ∃ keep rounds, ∀ {R : Type} (k : List Dt → Option R), evFn f56e keep rounds f56c [.ro] [false] true [.tmp 2] [4] [.d .node a0] k = k [.d .bool (isMapN a0)] := by
  refine ⟨f56k, 0, fun k => ?_⟩
  rw [f56_run]; unfold isMapN
  cases a0.kind == (5 : Int) <;> rfl

noncomputable def q56 : List Dt → Option (Bool × List Dt)
  | [.d .node a0] => some (true, [.d .bool (isMapN a0)])
  | _ => none
noncomputable def s56 : Gm.Spec := Gm.Spec.of [.ro] [false] true q56
theorem good56 : Gm.Good Try.prog (56, s56) := by
  have hl : ∀ x ∈ ([] : List (Nat × Gm.Spec)), Gm.Good Try.prog x := fun _ h => by cases h
  refine ⟨⟨spec_ok (tab_ok.env hl) (tab.natl hl) Try.func56 (by kernel_rfl : Try.f56.body = some f56c) [4] (by kernel_rfl) ?_, _, Try.func56, by kernel_rfl, of_decide_eq_true (by kernel_rfl)⟩, Gm.Spec.of_natl _ _ _ _⟩
  intro ds outs h
  unfold q56 at h
  split at h
  · cases h; exact f56_spec _
  · cases h
end Go.Proofs.Ytinbejnakemfjaa

/- x -/
namespace Go.Proofs.Ytinbejnakemfjaa
open Go Go.Gm
/-! ### loop.example/g00465/impl.from -/
noncomputable def f90c : Code := (Try.f90.body).getD .skip
def f90k : Nat → Kp := kat [⟨[0, 1, 2], [], [], []⟩, ⟨[6], [], [], []⟩]
noncomputable def f90e : Env := tab.env []
theorem f90_run {R : Type} (n : Nat) (k : List Dt → Option R) (a0 : Int) (a1 : Int) (a2 : Int) : evFn f90e f90k n f90c [.ro, .ro, .ro] [false] true [.tmp 6] [4] [.d (.i .i64) a0, .d (.i .i64) a1, .d (.i .i64) a2] k =
    (cond (decide (a0 ≥ a1))
    (k [.d .bool (decide (a0 ≤ a2))])
    (k [.d .bool false])) := by kernel_rfl
theorem f90_spec (a0 : Int) (a1 : Int) (a2 : Int) : ∃ keep rounds, ∀ {R : Type} (k : List Dt → Option R), evFn f90e keep rounds f90c [.ro, .ro, .ro] [false] true [.tmp 6] [4] [.d (.i .i64) a0, .d (.i .i64) a1, .d (.i .i64) a2] k = k [.d .bool (inR a0 a1 a2)] := by
  refine ⟨f90k, 0, fun k => ?_⟩
  rw [f90_run]; unfold inR
  cases decide (a0 ≥ a1) <;> rfl

noncomputable def q90 : List Dt → Option (Bool × List Dt)
  | [.d (.i .i64) a0, .d (.i .i64) a1, .d (.i .i64) a2] => some (true, [.d .bool (inR a0 a1 a2)])
  | _ => none
noncomputable def s90 : Gm.Spec := Gm.Spec.of [.ro, .ro, .ro] [false] true q90
theorem good90 : Gm.Good Try.prog (90, s90) := by
  have hl : ∀ x ∈ ([] : List (Nat × Gm.Spec)), Gm.Good Try.prog x := fun _ h => by cases h
  refine ⟨⟨spec_ok (tab_ok.env hl) (tab.natl hl) Try.func90 (by kernel_rfl : Try.f90.body = some f90c) [4] (by kernel_rfl) ?_, _, Try.func90, by kernel_rfl, of_decide_eq_true (by kernel_rfl)⟩, Gm.Spec.of_natl _ _ _ _⟩
  intro ds outs h
  unfold q90 at h
  split at h
  · cases h; exact f90_spec _ _ _
  · cases h
/-! ### slices.Index[[]string,string] -/
noncomputable def f67c : Code := (Try.f67.body).getD .skip
def f67k : Nat → Kp := kat [⟨[0, 1], [], [], []⟩, ⟨[0, 1, 7, 8], [], [], []⟩, ⟨[0, 1, 7, 8, 9], [], [], []⟩, ⟨[0, 1, 5, 7, 8], [], [], []⟩, ⟨[0, 1, 5, 7, 8, 16], [], [], []⟩, ⟨[4], [], [], []⟩, ⟨[0, 1, 7, 8], [], [], []⟩, ⟨[4], [], [], []⟩]
noncomputable def f67e : Env := tab.env []
noncomputable def f67L0 {R : Type} (n : Nat) (x0 : Int → Option R) (x1 : Int → Bool → Option R) (vs0 : List ByteArray) (vs1 : ByteArray) (vs7 : Int) : Nat → Int → Option R
  | 0, _ => none
  | m + 1, vs8 =>
    (cond (decide (vs8 < vs7))
      (cond ((decide ((0 : Int) ≤ vs8)) && (decide (vs8 < (vs0.length : Int))))
        (cond (sEq vs1 (atI (t := .str) vs0 (Int.toNat vs8)))
          (x0 vs8)
          (f67L0 n x0 x1 vs0 vs1 vs7 m (IntKind.wrap .i64 (vs8 + (1 : Int)))))
        none)
      (x1 vs8 (decide (vs8 < vs7))))
theorem f67L0_b {R : Type} (n : Nat) (k' : Ex → St → Option R) (vs0 : List ByteArray) (vs1 : ByteArray) (vs7 : Int) (vs8 : Int) : ev f67e f67k n (cAt [1,0,1,0,0] f67c) ⟨[(0, .c (.one (.ro .str vs0))), (1, .c (.one (.v (.string vs1)))), (7, .c (.one (.v (.int .i64 vs7)))), (8, .c (.one (.v (.int .i64 vs8))))], [], []⟩ k' =
    (cond (decide (vs8 < vs7))
    (cond ((decide ((0 : Int) ≤ vs8)) && (decide (vs8 < (vs0.length : Int))))
      (cond (sEq vs1 (atI (t := .str) vs0 (Int.toNat vs8)))
        (k' .ret ⟨[(4, .c (.one (.v (.int .i64 vs8))))], [], []⟩)
        (k' .normal ⟨[(0, .c (.one (.ro .str vs0))), (1, .c (.one (.v (.string vs1)))), (7, .c (.one (.v (.int .i64 vs7)))), (8, .c (.one (.v (.int .i64 (IntKind.wrap .i64 (vs8 + (1 : Int)))))))], [], []⟩))
      none)
    (k' (.exit 0) ⟨[(0, .c (.one (.ro .str vs0))), (1, .c (.one (.v (.string vs1)))), (7, .c (.one (.v (.int .i64 vs7)))), (8, .c (.one (.v (.int .i64 vs8)))), (9, .c (.one (.v (.bool (decide (vs8 < vs7))))))], [], []⟩)) := by kernel_rfl
theorem f67L0_eq {R : Type} (n : Nat) (k' : Ex → St → Option R) (vs0 : List ByteArray) (vs1 : ByteArray) (vs7 : Int) : ∀ (m : Nat) (vs8 : Int), iter (fun st k => ev f67e f67k n (cAt [1,0,1,0,0] f67c) st k) m ⟨[(0, .c (.one (.ro .str vs0))), (1, .c (.one (.v (.string vs1)))), (7, .c (.one (.v (.int .i64 vs7)))), (8, .c (.one (.v (.int .i64 vs8))))], [], []⟩ k' = f67L0 n (fun (xvs4 : Int) => k' .ret ⟨[(4, .c (.one (.v (.int .i64 xvs4))))], [], []⟩) (fun (xvs8 : Int) (xvs9 : Bool) => k' (.exit 0) ⟨[(0, .c (.one (.ro .str vs0))), (1, .c (.one (.v (.string vs1)))), (7, .c (.one (.v (.int .i64 vs7)))), (8, .c (.one (.v (.int .i64 xvs8)))), (9, .c (.one (.v (.bool xvs9))))], [], []⟩) vs0 vs1 vs7 m vs8 := by
  intro m; induction m with
  | zero => intros; rfl
  | succ m ih =>
    intro vs8
    simp only [iter]
    rw [f67L0_b]
    simp only [ih, f67L0]

noncomputable def f67K0 {R : Type} (n : Nat) (k' : Ex → St → Option R) : Ex → St → Option R := (blockK 0 (seqK f67e f67k n (cAt [1,1] f67c) k'))
theorem f67K0_x0 {R : Type} (n : Nat) (k : List Dt → Option R) (a0 : List ByteArray) (a1 : ByteArray) (xvs4 : Int) : f67K0 n (exitK f67e [.ro, .ro] [false] true [.tmp 4] [3] [.d (.sl .str) a0, .d .str a1] k) .ret ⟨[(4, .c (.one (.v (.int .i64 xvs4))))], [], []⟩ =
    (k [.d (.i .i64) xvs4]) := by kernel_rfl
theorem f67K0_x1 {R : Type} (n : Nat) (k : List Dt → Option R) (a0 : List ByteArray) (a1 : ByteArray) (vs0 : List ByteArray) (vs1 : ByteArray) (vs7 : Int) (xvs8 : Int) (xvs9 : Bool) : f67K0 n (exitK f67e [.ro, .ro] [false] true [.tmp 4] [3] [.d (.sl .str) a0, .d .str a1] k) (.exit 0) ⟨[(0, .c (.one (.ro .str vs0))), (1, .c (.one (.v (.string vs1)))), (7, .c (.one (.v (.int .i64 vs7)))), (8, .c (.one (.v (.int .i64 xvs8)))), (9, .c (.one (.v (.bool xvs9))))], [], []⟩ =
    (k [.d (.i .i64) (-1 : Int)]) := by kernel_rfl

theorem f67_run {R : Type} (n : Nat) (k : List Dt → Option R) (a0 : List ByteArray) (a1 : ByteArray) : evFn f67e f67k n f67c [.ro, .ro] [false] true [.tmp 4] [3] [.d (.sl .str) a0, .d .str a1] k =
    (f67L0 n (fun (xvs4 : Int) =>
    (k [.d (.i .i64) xvs4])) (fun (xvs8 : Int) (xvs9 : Bool) =>
    (k [.d (.i .i64) (-1 : Int)])) a0 a1 (a0.length : Int) n (0 : Int)) := by
  refine Eq.trans (b := (iter (fun st k => ev f67e f67k n (cAt [1,0,1,0,0] f67c) st k) n ⟨[(0, .c (.one (.ro .str a0))), (1, .c (.one (.v (.string a1)))), (7, .c (.one (.v (.int .i64 (a0.length : Int))))), (8, .c (.one (.v (.int .i64 (0 : Int)))))], [], []⟩ (f67K0 n (exitK f67e [.ro, .ro] [false] true [.tmp 4] [3] [.d (.sl .str) a0, .d .str a1] k)))) (by kernel_rfl) ?_
  simp only [f67L0_eq, f67K0_x0, f67K0_x1]
theorem f67_spec (a0 : List ByteArray) (a1 : ByteArray) (hg : gLenW a0 = true) : ∃ keep rounds, ∀ {R : Type} (k : List Dt → Option R), evFn f67e keep rounds f67c [.ro, .ro] [false] true [.tmp 4] [3] [.d (.sl .str) a0, .d .str a1] k = k [.d (.i .i64) (idxS a0 a1)] := by
  have hl := gLenW_le hg
  refine ⟨f67k, a0.length + 1, fun k => ?_⟩
  rw [f67_run]
  refine Eq.trans (loop_find (n := a0.length) (F := fun m i => f67L0 (a0.length + 1) _ _ a0 a1 (a0.length : Int) m i) (p := fun j => sEq a1 (atI (t := .str) a0 j)) (hit := fun i => k [.d (.i .i64) i]) (miss := k [.d (.i .i64) (-1 : Int)])
    (fun m j hj => ?_) (fun m => by simp only [f67L0, idxE, cond_false]) a0.length 0 (a0.length + 1) (by omega) (by omega)) ?_
  · obtain ⟨h1, h0, hw, ht⟩ := idx hj (by omega)
    simp only [f67L0, h1, h0, hw, ht, Bool.and_self, cond_true]
  · show _ = k [.d (.i .i64) (plc _)]
    cases firstN (fun j => sEq a1 (atI (t := .str) a0 j)) 0 a0.length <;> rfl

noncomputable def q67 : List Dt → Option (Bool × List Dt)
  | [.d (.sl .str) a0, .d .str a1] => some (((fun (x : List ByteArray) (_ : ByteArray) => gLenW x) a0 a1), [.d (.i .i64) (idxS a0 a1)])
  | _ => none
noncomputable def s67 : Gm.Spec := Gm.Spec.of [.ro, .ro] [false] true q67
theorem good67 : Gm.Good Try.prog (67, s67) := by
  have hl : ∀ x ∈ ([] : List (Nat × Gm.Spec)), Gm.Good Try.prog x := fun _ h => by cases h
  refine ⟨⟨spec_ok (tab_ok.env hl) (tab.natl hl) Try.func67 (by kernel_rfl : Try.f67.body = some f67c) [3] (by kernel_rfl) ?_, _, Try.func67, by kernel_rfl, of_decide_eq_true (by kernel_rfl)⟩, Gm.Spec.of_natl _ _ _ _⟩
  intro ds outs h
  unfold q67 at h
  split at h
  · simp only [Option.some.injEq, Prod.mk.injEq] at h; obtain ⟨hg, h⟩ := h; cases h; exact f67_spec _ _ hg
  · cases h
/-! ### loop.example/g00465/spec.Digits -/
noncomputable def f37c : Code := (Try.f37.body).getD .skip
def f37k : Nat → Kp := kat [⟨[0], [], [], []⟩, ⟨[0, 7], [], [], []⟩, ⟨[2], [], [], []⟩, ⟨[0, 3], [], [], []⟩, ⟨[0, 3, 4], [], [], []⟩, ⟨[0, 3, 4, 11], [], [], []⟩, ⟨[0, 3, 4, 5], [], [], []⟩, ⟨[0, 3, 4, 5, 15], [], [], []⟩, ⟨[0, 3, 4, 5], [], [], []⟩, ⟨[0, 3, 4], [], [], []⟩, ⟨[0, 3, 4], [], [], []⟩, ⟨[4, 27], [], [], []⟩, ⟨[2], [], [], []⟩, ⟨[2], [], [], []⟩]
noncomputable def f37e : Env := tab.env []
noncomputable def f37L0 {R : Type} (n : Nat) (x0 : Int → ByteArray → Bool → Option R) (vs3 : Bool) : Nat → Int → ByteArray → Option R
  | 0, _, _ => none
  | m + 1, vs0, vs4 =>
    (cond (vs0 != (0 : Int))
      (cond (decide ((Int.tmod vs0 (10 : Int)) < (0 : Int)))
        (cond (decide (ByteArray.size (bytesOf ([(IntKind.wrap .u8 (IntKind.wrap .i64 ((48 : Int) + (IntKind.wrap .i64 ((0 : Int) - (Int.tmod vs0 (10 : Int)))))))] : List Int)) + ByteArray.size vs4 ≤ 9223372036854775807))
          (f37L0 n x0 vs3 m (IntKind.wrap .i64 (Int.tdiv vs0 (10 : Int))) ((bytesOf ([(IntKind.wrap .u8 (IntKind.wrap .i64 ((48 : Int) + (IntKind.wrap .i64 ((0 : Int) - (Int.tmod vs0 (10 : Int)))))))] : List Int)) ++ vs4))
          none)
        (cond (decide (ByteArray.size (bytesOf ([(IntKind.wrap .u8 (IntKind.wrap .i64 ((48 : Int) + (Int.tmod vs0 (10 : Int)))))] : List Int)) + ByteArray.size vs4 ≤ 9223372036854775807))
          (f37L0 n x0 vs3 m (IntKind.wrap .i64 (Int.tdiv vs0 (10 : Int))) ((bytesOf ([(IntKind.wrap .u8 (IntKind.wrap .i64 ((48 : Int) + (Int.tmod vs0 (10 : Int)))))] : List Int)) ++ vs4))
          none))
      (x0 vs0 vs4 (vs0 != (0 : Int))))
theorem f37L0_b {R : Type} (n : Nat) (k' : Ex → St → Option R) (vs0 : Int) (vs3 : Bool) (vs4 : ByteArray) : ev f37e f37k n (cAt [1,1,1,1,0,0,0] f37c) ⟨[(0, .c (.one (.v (.int .i64 vs0)))), (3, .c (.one (.v (.bool vs3)))), (4, .c (.one (.v (.string vs4))))], [], []⟩ k' =
    (cond (vs0 != (0 : Int))
    (cond (decide ((Int.tmod vs0 (10 : Int)) < (0 : Int)))
      (cond (decide (ByteArray.size (bytesOf ([(IntKind.wrap .u8 (IntKind.wrap .i64 ((48 : Int) + (IntKind.wrap .i64 ((0 : Int) - (Int.tmod vs0 (10 : Int)))))))] : List Int)) + ByteArray.size vs4 ≤ 9223372036854775807))
        (k' .normal ⟨[(0, .c (.one (.v (.int .i64 (IntKind.wrap .i64 (Int.tdiv vs0 (10 : Int))))))), (3, .c (.one (.v (.bool vs3)))), (4, .c (.one (.v (.string ((bytesOf ([(IntKind.wrap .u8 (IntKind.wrap .i64 ((48 : Int) + (IntKind.wrap .i64 ((0 : Int) - (Int.tmod vs0 (10 : Int)))))))] : List Int)) ++ vs4)))))], [], []⟩)
        none)
      (cond (decide (ByteArray.size (bytesOf ([(IntKind.wrap .u8 (IntKind.wrap .i64 ((48 : Int) + (Int.tmod vs0 (10 : Int)))))] : List Int)) + ByteArray.size vs4 ≤ 9223372036854775807))
        (k' .normal ⟨[(0, .c (.one (.v (.int .i64 (IntKind.wrap .i64 (Int.tdiv vs0 (10 : Int))))))), (3, .c (.one (.v (.bool vs3)))), (4, .c (.one (.v (.string ((bytesOf ([(IntKind.wrap .u8 (IntKind.wrap .i64 ((48 : Int) + (Int.tmod vs0 (10 : Int)))))] : List Int)) ++ vs4)))))], [], []⟩)
        none))
    (k' (.exit 0) ⟨[(0, .c (.one (.v (.int .i64 vs0)))), (3, .c (.one (.v (.bool vs3)))), (4, .c (.one (.v (.string vs4)))), (11, .c (.one (.v (.bool (vs0 != (0 : Int))))))], [], []⟩)) := by kernel_rfl
theorem f37L0_eq {R : Type} (n : Nat) (k' : Ex → St → Option R) (vs3 : Bool) : ∀ (m : Nat) (vs0 : Int) (vs4 : ByteArray), iter (fun st k => ev f37e f37k n (cAt [1,1,1,1,0,0,0] f37c) st k) m ⟨[(0, .c (.one (.v (.int .i64 vs0)))), (3, .c (.one (.v (.bool vs3)))), (4, .c (.one (.v (.string vs4))))], [], []⟩ k' = f37L0 n (fun (xvs0 : Int) (xvs4 : ByteArray) (xvs11 : Bool) => k' (.exit 0) ⟨[(0, .c (.one (.v (.int .i64 xvs0)))), (3, .c (.one (.v (.bool vs3)))), (4, .c (.one (.v (.string xvs4)))), (11, .c (.one (.v (.bool xvs11))))], [], []⟩) vs3 m vs0 vs4 := by
  intro m; induction m with
  | zero => intros; rfl
  | succ m ih =>
    intro vs0 vs4
    simp only [iter]
    rw [f37L0_b]
    simp only [ih, f37L0]

noncomputable def f37K0 {R : Type} (n : Nat) (k' : Ex → St → Option R) : Ex → St → Option R := (blockK 0 (seqK f37e f37k n (cAt [1,1,1,1,1] f37c) k'))
theorem f37K0_x0 {R : Type} (n : Nat) (k : List Dt → Option R) (a0 : Int) (vs3 : Bool) (xvs0 : Int) (xvs4 : ByteArray) (xvs11 : Bool) : f37K0 n (exitK f37e [.ro] [false] true [.tmp 2] [9] [.d (.i .i64) a0] k) (.exit 0) ⟨[(0, .c (.one (.v (.int .i64 xvs0)))), (3, .c (.one (.v (.bool vs3)))), (4, .c (.one (.v (.string xvs4)))), (11, .c (.one (.v (.bool xvs11))))], [], []⟩ =
    (cond vs3
    (cond (decide (ByteArray.size (bs [45]) + ByteArray.size xvs4 ≤ 9223372036854775807))
      (k [.d .str ((bs [45]) ++ xvs4)])
      none)
    (k [.d .str xvs4])) := by kernel_rfl

theorem f37_run {R : Type} (n : Nat) (k : List Dt → Option R) (a0 : Int) : evFn f37e f37k n f37c [.ro] [false] true [.tmp 2] [9] [.d (.i .i64) a0] k =
    (cond (a0 == (0 : Int))
    (k [.d .str (bs [48])])
    (f37L0 n (fun (xvs0 : Int) (xvs4 : ByteArray) (xvs11 : Bool) =>
      (cond (decide (a0 < (0 : Int)))
        (cond (decide (ByteArray.size (bs [45]) + ByteArray.size xvs4 ≤ 9223372036854775807))
          (k [.d .str ((bs [45]) ++ xvs4)])
          none)
        (k [.d .str xvs4]))) (decide (a0 < (0 : Int))) n a0 ByteArray.empty)) := by
  refine Eq.trans (b := (cond (a0 == (0 : Int))
    (k [.d .str (bs [48])])
    (iter (fun st k => ev f37e f37k n (cAt [1,1,1,1,0,0,0] f37c) st k) n ⟨[(0, .c (.one (.v (.int .i64 a0)))), (3, .c (.one (.v (.bool (decide (a0 < (0 : Int))))))), (4, .c (.one (.v (.string ByteArray.empty))))], [], []⟩ (f37K0 n (exitK f37e [.ro] [false] true [.tmp 2] [9] [.d (.i .i64) a0] k))))) (by kernel_rfl) ?_
  simp only [f37L0_eq, f37K0_x0]
theorem f37_spec (a0 : Int) (hg : okI a0 = true) : ∃ keep rounds, ∀ {R : Type} (k : List Dt → Option R), evFn f37e keep rounds f37c [.ro] [false] true [.tmp 2] [9] [.d (.i .i64) a0] k = k [.d .str (digS a0)] := by
  have hg0 := hg
  rw [okI_iff] at hg
  refine ⟨f37k, 25, fun {R} k => ?_⟩
  rw [f37_run]
  by_cases hz : a0 = 0
  · subst hz
    have e : digS 0 = bs [48] := by rw [show (0 : Int) = ((0 : Nat) : Int) from rfl, digS_nat, natDig_lt (by omega)]; rfl
    rw [e]; rfl
  have hz' : (a0 == (0 : Int)) = false := by rw [beq_eq_false_iff_ne]; exact hz
  rw [hz', cond_false]
  have key : ∀ (d m : Nat) (n : Int) (out : ByteArray), n.natAbs < 10 ^ d → d ≤ 20 → d < m → (n ≤ 9223372036854775807 ∧ -9223372036854775808 ≤ n) → out.size + d ≤ 100 → ∀ X : Int → ByteArray → Bool → Option R, (∀ o b, X 0 o b = X 0 o false) →
      f37L0 25 X (decide (a0 < (0 : Int))) m n out = X 0 (digR n.natAbs out) false := by
    intro d
    induction d with
    | zero =>
      intro m n out hn hd hm hw hs X hX
      obtain ⟨m, rfl⟩ : ∃ m', m = m' + 1 := ⟨m - 1, by omega⟩
      have : n = 0 := by omega
      subst this
      simp only [f37L0]
      rfl
    | succ d ih =>
      intro m n out hn hd hm hw hs X hX
      obtain ⟨m, rfl⟩ : ∃ m', m = m' + 1 := ⟨m - 1, by omega⟩
      by_cases h0 : n = 0
      · subst h0
        simp only [f37L0]
        rfl
      have h0' : (n != (0 : Int)) = true := by rw [bne_iff_ne]; exact h0
      have hn2 : n.natAbs / 10 < 10 ^ d := by rw [Nat.pow_succ] at hn; omega
      have hb := byte_dig (n.natAbs % 10) (by omega)
      have hsz : ByteArray.size ⟨#[UInt8.ofNat (48 + n.natAbs % 10)]⟩ = 1 := rfl
      simp only [f37L0, h0', cond_true]
      by_cases h1 : n < 0
      · have t1 : IntKind.wrap .i64 (Int.tdiv n 10) = -((n.natAbs / 10 : Nat) : Int) := by rw [tdiv_neg h1]; exact wrap_id (by omega) (by omega)
        have t2 : Int.tmod n 10 = -((n.natAbs % 10 : Nat) : Int) := tmod_neg h1
        have e1 : IntKind.wrap .i64 ((0 : Int) - -((n.natAbs % 10 : Nat) : Int)) = ((n.natAbs % 10 : Nat) : Int) := by rw [wrap_id (by omega) (by omega)]; omega
        rw [t1, t2, e1, hb]
        have fin := ih m (-((n.natAbs / 10 : Nat) : Int)) (⟨#[UInt8.ofNat (48 + n.natAbs % 10)]⟩ ++ out) (by omega) (by omega) (by omega) (by omega) (by rw [ByteArray.size_append]; omega) X hX
        rw [show (-((n.natAbs / 10 : Nat) : Int)).natAbs = n.natAbs / 10 by omega, digR_step (by omega)] at fin
        rw [← fin]
        have hle := app_le (a := ⟨#[UInt8.ofNat (48 + n.natAbs % 10)]⟩) (b := out) (by omega)
        by_cases h2 : -((n.natAbs % 10 : Nat) : Int) < 0
        · simp only [h2, decide_true, cond_true, hle]
        · have h3 : n.natAbs % 10 = 0 := by omega
          simp only [h2, decide_false, cond_false]
          have hb0 : bytesOf [IntKind.wrap .u8 (IntKind.wrap .i64 ((48 : Int) + -((n.natAbs % 10 : Nat) : Int)))] = ⟨#[UInt8.ofNat (48 + n.natAbs % 10)]⟩ := by rw [h3]; rfl
          rw [hb0, hle, cond_true]
      · have t1 : IntKind.wrap .i64 (Int.tdiv n 10) = ((n.natAbs / 10 : Nat) : Int) := by rw [tdiv_pos (by omega)]; exact wrap_id (by omega) (by omega)
        have t2 : Int.tmod n 10 = ((n.natAbs % 10 : Nat) : Int) := tmod_pos (by omega)
        rw [t1, t2, hb]
        have fin := ih m (((n.natAbs / 10 : Nat) : Int)) (⟨#[UInt8.ofNat (48 + n.natAbs % 10)]⟩ ++ out) (by omega) (by omega) (by omega) (by omega) (by rw [ByteArray.size_append]; omega) X hX
        rw [show (((n.natAbs / 10 : Nat) : Int)).natAbs = n.natAbs / 10 by omega, digR_step (by omega)] at fin
        rw [← fin]
        have hle := app_le (a := ⟨#[UInt8.ofNat (48 + n.natAbs % 10)]⟩) (b := out) (by omega)
        have h2 : ¬ ((n.natAbs % 10 : Nat) : Int) < 0 := by omega
        simp only [h2, decide_false, cond_false, cond_true, hle]
  refine Eq.trans (key 20 25 a0 ByteArray.empty (by have : (10 : Nat) ^ 20 = 100000000000000000000 := rfl; omega) (by omega) (by omega) (by omega) (by show 0 + 20 ≤ 100; omega) _ (fun _ _ => rfl)) ?_
  have e : digR a0.natAbs ByteArray.empty = ⟨(natDig a0.natAbs).toArray⟩ := by
    unfold digR; rw [if_neg (by omega)]; apply ba_ext; simp
  rw [e]
  by_cases h1 : a0 < 0
  · have hs := digS_size hg0
    have ed : digS a0 = bs [45] ++ ⟨(natDig a0.natAbs).toArray⟩ := by
      unfold digS; rw [if_pos h1]; apply ba_ext; rw [ba_app]; simp [bs]
    have hs2 : (bs [45]).size + ByteArray.size ⟨(natDig a0.natAbs).toArray⟩ ≤ 9223372036854775807 := by
      rw [ed, ByteArray.size_append] at hs; omega
    simp only [h1, decide_true, cond_true, app_le hs2, ed]
  · have ed : digS a0 = ⟨(natDig a0.natAbs).toArray⟩ := by
      unfold digS; rw [if_neg h1]; simp
    simp only [h1, decide_false, cond_false, ed]

noncomputable def q37 : List Dt → Option (Bool × List Dt)
  | [.d (.i .i64) a0] => some ((okI a0), [.d .str (digS a0)])
  | _ => none
noncomputable def s37 : Gm.Spec := Gm.Spec.of [.ro] [false] true q37
theorem good37 : Gm.Good Try.prog (37, s37) := by
  have hl : ∀ x ∈ ([] : List (Nat × Gm.Spec)), Gm.Good Try.prog x := fun _ h => by cases h
  refine ⟨⟨spec_ok (tab_ok.env hl) (tab.natl hl) Try.func37 (by kernel_rfl : Try.f37.body = some f37c) [9] (by kernel_rfl) ?_, _, Try.func37, by kernel_rfl, of_decide_eq_true (by kernel_rfl)⟩, Gm.Spec.of_natl _ _ _ _⟩
  intro ds outs h
  unfold q37 at h
  split at h
  · simp only [Option.some.injEq, Prod.mk.injEq] at h; obtain ⟨hg, h⟩ := h; cases h; exact f37_spec _ hg
  · cases h
noncomputable def q39 : List Dt → Option (Bool × List Dt)
  | [.d (.i .i64) a0] => some ((okI a0), [.d .str (digS a0)])
  | _ => none
noncomputable def mu39 : List Dt → Nat
  | [.d (.i .i64) a0] => muDig a0
  | _ => 0
noncomputable def s39r (N : Nat) : Gm.Spec := Gm.Spec.of [.ro] [false] true (qlt mu39 N q39)
/-! ### loop.example/g00465/impl.Digits -/
noncomputable def f39c : Code := (Try.f39.body).getD .skip
def f39k : Nat → Kp := kat [⟨[0], [], [], []⟩, ⟨[0, 3], [], [], []⟩, ⟨[2], [], [], []⟩, ⟨[0, 14], [], [], []⟩, ⟨[2], [], [], []⟩, ⟨[0, 25], [], [], []⟩, ⟨[2], [], [], []⟩, ⟨[2], [], [], []⟩]
noncomputable def f39e (N : Nat) : Env := tab.env [(39, s39r N)]
theorem f39_run {R : Type} (N : Nat) (n : Nat) (k : List Dt → Option R) (a0 : Int) : evFn (f39e N) f39k n f39c [.ro] [false] true [.tmp 2] [9] [.d (.i .i64) a0] k =
    (cond (decide (a0 < (0 : Int)))
    (cond (decide (a0 > (-10 : Int)))
      (cond ((okI (IntKind.wrap .i64 (0 - a0))) && (Nat.blt (muDig (IntKind.wrap .i64 (0 - a0))) N))
        (cond (decide (ByteArray.size (bs [45]) + ByteArray.size (digS (IntKind.wrap .i64 (0 - a0))) ≤ 9223372036854775807))
          (k [.d .str ((bs [45]) ++ (digS (IntKind.wrap .i64 (0 - a0))))])
          none)
        none)
      (cond (decide (a0 < (0 : Int)))
        (cond ((okI (IntKind.wrap .i64 (Int.tdiv a0 (10 : Int)))) && (Nat.blt (muDig (IntKind.wrap .i64 (Int.tdiv a0 (10 : Int)))) N))
          (cond ((okI (IntKind.wrap .i64 (0 - (Int.tmod a0 (10 : Int))))) && (Nat.blt (muDig (IntKind.wrap .i64 (0 - (Int.tmod a0 (10 : Int))))) N))
            (cond (decide (ByteArray.size (digS (IntKind.wrap .i64 (Int.tdiv a0 (10 : Int)))) + ByteArray.size (digS (IntKind.wrap .i64 (0 - (Int.tmod a0 (10 : Int))))) ≤ 9223372036854775807))
              (k [.d .str ((digS (IntKind.wrap .i64 (Int.tdiv a0 (10 : Int)))) ++ (digS (IntKind.wrap .i64 (0 - (Int.tmod a0 (10 : Int))))))])
              none)
            none)
          none)
        (cond (decide (a0 < (10 : Int)))
          (k [.d .str (Utf8.encode (IntKind.wrap .i32 (IntKind.wrap .i64 ((48 : Int) + a0))))])
          (cond ((okI (IntKind.wrap .i64 (Int.tdiv a0 (10 : Int)))) && (Nat.blt (muDig (IntKind.wrap .i64 (Int.tdiv a0 (10 : Int)))) N))
            (cond (decide (ByteArray.size (digS (IntKind.wrap .i64 (Int.tdiv a0 (10 : Int)))) + ByteArray.size (Utf8.encode (IntKind.wrap .i32 (IntKind.wrap .i64 ((48 : Int) + (Int.tmod a0 (10 : Int)))))) ≤ 9223372036854775807))
              (k [.d .str ((digS (IntKind.wrap .i64 (Int.tdiv a0 (10 : Int)))) ++ (Utf8.encode (IntKind.wrap .i32 (IntKind.wrap .i64 ((48 : Int) + (Int.tmod a0 (10 : Int)))))))])
              none)
            none))))
    (cond (decide (a0 < (0 : Int)))
      (cond ((okI (IntKind.wrap .i64 (Int.tdiv a0 (10 : Int)))) && (Nat.blt (muDig (IntKind.wrap .i64 (Int.tdiv a0 (10 : Int)))) N))
        (cond ((okI (IntKind.wrap .i64 (0 - (Int.tmod a0 (10 : Int))))) && (Nat.blt (muDig (IntKind.wrap .i64 (0 - (Int.tmod a0 (10 : Int))))) N))
          (cond (decide (ByteArray.size (digS (IntKind.wrap .i64 (Int.tdiv a0 (10 : Int)))) + ByteArray.size (digS (IntKind.wrap .i64 (0 - (Int.tmod a0 (10 : Int))))) ≤ 9223372036854775807))
            (k [.d .str ((digS (IntKind.wrap .i64 (Int.tdiv a0 (10 : Int)))) ++ (digS (IntKind.wrap .i64 (0 - (Int.tmod a0 (10 : Int))))))])
            none)
          none)
        none)
      (cond (decide (a0 < (10 : Int)))
        (k [.d .str (Utf8.encode (IntKind.wrap .i32 (IntKind.wrap .i64 ((48 : Int) + a0))))])
        (cond ((okI (IntKind.wrap .i64 (Int.tdiv a0 (10 : Int)))) && (Nat.blt (muDig (IntKind.wrap .i64 (Int.tdiv a0 (10 : Int)))) N))
          (cond (decide (ByteArray.size (digS (IntKind.wrap .i64 (Int.tdiv a0 (10 : Int)))) + ByteArray.size (Utf8.encode (IntKind.wrap .i32 (IntKind.wrap .i64 ((48 : Int) + (Int.tmod a0 (10 : Int)))))) ≤ 9223372036854775807))
            (k [.d .str ((digS (IntKind.wrap .i64 (Int.tdiv a0 (10 : Int)))) ++ (Utf8.encode (IntKind.wrap .i32 (IntKind.wrap .i64 ((48 : Int) + (Int.tmod a0 (10 : Int)))))))])
            none)
          none)))) := by kernel_rfl
theorem f39_spec (N : Nat) (a0 : Int) (hg : okI a0 = true) (hm : mu39 [.d (.i .i64) a0] = N) : ∃ keep rounds, ∀ {R : Type} (k : List Dt → Option R), evFn (f39e N) keep rounds f39c [.ro] [false] true [.tmp 2] [9] [.d (.i .i64) a0] k = k [.d .str (digS a0)] := by
  refine ⟨f39k, 0, fun k => ?_⟩
  rw [f39_run]
  have hm : muDig a0 = N := hm
  subst hm
  have hg0 := hg
  rw [okI_iff] at hg
  by_cases h1 : a0 < 0
  · by_cases h2 : a0 > -10
    · have o1 : okI (IntKind.wrap .i64 (0 - a0)) = true := by rw [wrap_id (by omega) (by omega), okI_iff]; omega
      have m1 : Nat.blt (muDig (IntKind.wrap .i64 (0 - a0))) (muDig a0) = true := by
        rw [wrap_id (by omega) (by omega), Nat.blt_eq]; unfold muDig; rw [if_pos h1, if_neg (by omega)]; omega
      have s1 := digS_size o1
      have b1 : (bs [45]).size = 1 := rfl
      simp only [h1, h2, o1, m1, decide_true, cond_true, Bool.and_self, app_le (show (bs [45]).size + (digS (IntKind.wrap .i64 (0 - a0))).size ≤ 9223372036854775807 by omega), digS_negone h1 h2]
    · have t1 : IntKind.wrap .i64 (Int.tdiv a0 10) = Int.tdiv a0 10 := by rw [tdiv_neg h1]; exact wrap_id (by omega) (by omega)
      have o1 : okI (Int.tdiv a0 10) = true := by rw [tdiv_neg h1, okI_iff]; omega
      have m1 : Nat.blt (muDig (Int.tdiv a0 10)) (muDig a0) = true := by
        rw [tdiv_neg h1, Nat.blt_eq]; unfold muDig; rw [if_pos h1]; split <;> omega
      have e2 : IntKind.wrap .i64 (0 - (Int.tmod a0 10)) = ((a0.natAbs % 10 : Nat) : Int) := by
        rw [tmod_neg h1, wrap_id (by omega) (by omega)]; omega
      have o2 : okI (IntKind.wrap .i64 (0 - (Int.tmod a0 10))) = true := by rw [e2, okI_iff]; omega
      have m2 : Nat.blt (muDig (IntKind.wrap .i64 (0 - (Int.tmod a0 10)))) (muDig a0) = true := by
        rw [e2, Nat.blt_eq]; unfold muDig; rw [if_pos h1, if_neg (by omega)]; omega
      have s1 := digS_size o1
      have s2 := digS_size o2
      simp only [h1, h2, t1, o1, m1, o2, m2, decide_true, decide_false, cond_true, cond_false, Bool.and_self, app_le (show (digS (Int.tdiv a0 10)).size + (digS (IntKind.wrap .i64 (0 - (Int.tmod a0 10)))).size ≤ 9223372036854775807 by omega), digS_le h2]
  · by_cases h2 : a0 < 10
    · simp only [h1, h2, decide_true, decide_false, cond_true, cond_false, digS_one (show 0 ≤ a0 by omega) h2]
    · have t1 : IntKind.wrap .i64 (Int.tdiv a0 10) = Int.tdiv a0 10 := by rw [tdiv_pos (by omega)]; exact wrap_id (by omega) (by omega)
      have o1 : okI (Int.tdiv a0 10) = true := by rw [tdiv_pos (by omega), okI_iff]; omega
      have m1 : Nat.blt (muDig (Int.tdiv a0 10)) (muDig a0) = true := by
        rw [tdiv_pos (by omega), Nat.blt_eq]; unfold muDig; rw [if_neg h1, if_neg (by omega)]; omega
      have s1 := digS_size o1
      have s2 : (Utf8.encode (IntKind.wrap .i32 (IntKind.wrap .i64 ((48 : Int) + (Int.tmod a0 10))))).size ≤ 4 := encode_size_le _
      simp only [h1, h2, t1, o1, m1, decide_true, decide_false, cond_true, cond_false, Bool.and_self, app_le (show (digS (Int.tdiv a0 10)).size + (Utf8.encode (IntKind.wrap .i32 (IntKind.wrap .i64 ((48 : Int) + (Int.tmod a0 10))))).size ≤ 9223372036854775807 by omega), digS_ge h2]

noncomputable def s39 : Gm.Spec := Gm.Spec.of [.ro] [false] true q39
theorem good39 : Gm.Good Try.prog (39, s39) := by
  refine ⟨⟨spec_rec mu39 fun N hr => ?_, _, Try.func39, by kernel_rfl, of_decide_eq_true (by kernel_rfl)⟩, Gm.Spec.of_natl _ _ _ _⟩
  have hl : ∀ x ∈ [(39, s39r N)], Gm.Good Try.prog x := List.forall_mem_cons.2 ⟨⟨⟨hr, _, Try.func39, by kernel_rfl, of_decide_eq_true (by kernel_rfl)⟩, Gm.Spec.of_natl _ _ _ _⟩, List.forall_mem_nil _⟩
  intro R
  refine spec_ok (E := f39e N) (tab_ok.env hl) (tab.natl hl) Try.func39 (by kernel_rfl : Try.f39.body = some f39c) [9] (by kernel_rfl) ?_
  intro ds outs h
  obtain ⟨h, hm⟩ := qeq_some h
  unfold q39 at h
  split at h
  · simp only [Option.some.injEq, Prod.mk.injEq] at h; obtain ⟨hg, h⟩ := h; cases h; exact f39_spec N _ hg hm
  · cases h
/-! ### loop.example/g00465/impl.Number -/
noncomputable def f76c : Code := (Try.f76.body).getD .skip
def f76k : Nat → Kp := kat [⟨[0], [], [], []⟩, ⟨[0, 4], [], [], []⟩, ⟨[0, 4, 14], [], [], []⟩, ⟨[0, 4], [], [], []⟩, ⟨[0, 4, 23], [], [], []⟩, ⟨[2, 3], [], [], []⟩, ⟨[0, 4, 5], [], [], []⟩, ⟨[0, 4, 5, 25, 26], [], [], []⟩, ⟨[0, 4, 5, 25, 26, 27], [], [], []⟩, ⟨[0, 4, 5, 6, 25, 26], [], [], []⟩, ⟨[0, 4, 5, 6, 25, 26, 38], [], [], []⟩, ⟨[2, 3], [], [], []⟩, ⟨[0, 4, 5, 25, 26], [], [], []⟩, ⟨[0, 4, 5, 25, 26], [], [], []⟩, ⟨[0, 5, 52], [], [], []⟩, ⟨[0, 5], [], [], []⟩, ⟨[5, 63], [], [], []⟩, ⟨[2, 3], [], [], []⟩, ⟨[2, 3], [], [], []⟩]
noncomputable def f76e : Env := tab.env [(39, s39), (90, s90)]
noncomputable def f76L0 {R : Type} (n : Nat) (x0 : Option R) (x1 : Int → Int → Bool → Option R) (vs0 : ByteArray) (vs4 : ByteArray) (vs25 : Int) : Nat → Int → Int → Option R
  | 0, _, _ => none
  | m + 1, vs5, vs26 =>
    (cond (decide (vs26 < vs25))
      (cond ((decide ((0 : Int) ≤ vs26)) && (decide (vs26 < (ByteArray.size vs4 : Int))))
        (cond (decide ((((ByteArray.data vs4).getD (Int.toNat vs26) 0).toNat : Int) < (48 : Int)))
          (x0)
          (cond ((decide ((0 : Int) ≤ vs26)) && (decide (vs26 < (ByteArray.size vs4 : Int))))
            (cond (decide ((((ByteArray.data vs4).getD (Int.toNat vs26) 0).toNat : Int) > (57 : Int)))
              (x0)
              (cond ((decide ((0 : Int) ≤ vs26)) && (decide (vs26 < (ByteArray.size vs4 : Int))))
                (f76L0 n x0 x1 vs0 vs4 vs25 m (IntKind.wrap .i64 ((IntKind.wrap .i64 ((10 : Int) * vs5)) + (IntKind.wrap .i64 (IntKind.wrap .u8 ((((ByteArray.data vs4).getD (Int.toNat vs26) 0).toNat : Int) - (48 : Int)))))) (IntKind.wrap .i64 (vs26 + (1 : Int))))
                none))
            none))
        none)
      (x1 vs5 vs26 (decide (vs26 < vs25))))
theorem f76L0_b {R : Type} (n : Nat) (k' : Ex → St → Option R) (vs0 : ByteArray) (vs4 : ByteArray) (vs5 : Int) (vs25 : Int) (vs26 : Int) : ev f76e f76k n (cAt [1,1,1,1,1,0,1,0,0] f76c) ⟨[(0, .c (.one (.v (.string vs0)))), (4, .c (.one (.v (.string vs4)))), (5, .c (.one (.v (.int .i64 vs5)))), (25, .c (.one (.v (.int .i64 vs25)))), (26, .c (.one (.v (.int .i64 vs26))))], [], []⟩ k' =
    (cond (decide (vs26 < vs25))
    (cond ((decide ((0 : Int) ≤ vs26)) && (decide (vs26 < (ByteArray.size vs4 : Int))))
      (cond (decide ((((ByteArray.data vs4).getD (Int.toNat vs26) 0).toNat : Int) < (48 : Int)))
        (k' .ret ⟨[(2, .c (.one (.v (.int .i64 (0 : Int))))), (3, .c (.one (.v (.bool false))))], [], []⟩)
        (cond ((decide ((0 : Int) ≤ vs26)) && (decide (vs26 < (ByteArray.size vs4 : Int))))
          (cond (decide ((((ByteArray.data vs4).getD (Int.toNat vs26) 0).toNat : Int) > (57 : Int)))
            (k' .ret ⟨[(2, .c (.one (.v (.int .i64 (0 : Int))))), (3, .c (.one (.v (.bool false))))], [], []⟩)
            (cond ((decide ((0 : Int) ≤ vs26)) && (decide (vs26 < (ByteArray.size vs4 : Int))))
              (k' .normal ⟨[(0, .c (.one (.v (.string vs0)))), (4, .c (.one (.v (.string vs4)))), (5, .c (.one (.v (.int .i64 (IntKind.wrap .i64 ((IntKind.wrap .i64 ((10 : Int) * vs5)) + (IntKind.wrap .i64 (IntKind.wrap .u8 ((((ByteArray.data vs4).getD (Int.toNat vs26) 0).toNat : Int) - (48 : Int)))))))))), (25, .c (.one (.v (.int .i64 vs25)))), (26, .c (.one (.v (.int .i64 (IntKind.wrap .i64 (vs26 + (1 : Int)))))))], [], []⟩)
              none))
          none))
      none)
    (k' (.exit 0) ⟨[(0, .c (.one (.v (.string vs0)))), (4, .c (.one (.v (.string vs4)))), (5, .c (.one (.v (.int .i64 vs5)))), (25, .c (.one (.v (.int .i64 vs25)))), (26, .c (.one (.v (.int .i64 vs26)))), (27, .c (.one (.v (.bool (decide (vs26 < vs25))))))], [], []⟩)) := by kernel_rfl
theorem f76L0_eq {R : Type} (n : Nat) (k' : Ex → St → Option R) (vs0 : ByteArray) (vs4 : ByteArray) (vs25 : Int) : ∀ (m : Nat) (vs5 : Int) (vs26 : Int), iter (fun st k => ev f76e f76k n (cAt [1,1,1,1,1,0,1,0,0] f76c) st k) m ⟨[(0, .c (.one (.v (.string vs0)))), (4, .c (.one (.v (.string vs4)))), (5, .c (.one (.v (.int .i64 vs5)))), (25, .c (.one (.v (.int .i64 vs25)))), (26, .c (.one (.v (.int .i64 vs26))))], [], []⟩ k' = f76L0 n (k' .ret ⟨[(2, .c (.one (.v (.int .i64 (0 : Int))))), (3, .c (.one (.v (.bool false))))], [], []⟩) (fun (xvs5 : Int) (xvs26 : Int) (xvs27 : Bool) => k' (.exit 0) ⟨[(0, .c (.one (.v (.string vs0)))), (4, .c (.one (.v (.string vs4)))), (5, .c (.one (.v (.int .i64 xvs5)))), (25, .c (.one (.v (.int .i64 vs25)))), (26, .c (.one (.v (.int .i64 xvs26)))), (27, .c (.one (.v (.bool xvs27))))], [], []⟩) vs0 vs4 vs25 m vs5 vs26 := by
  intro m; induction m with
  | zero => intros; rfl
  | succ m ih =>
    intro vs5 vs26
    simp only [iter]
    rw [f76L0_b]
    simp only [ih, f76L0]

noncomputable def f76K0 {R : Type} (n : Nat) (k' : Ex → St → Option R) : Ex → St → Option R := (blockK 0 (seqK f76e f76k n (cAt [1,1,1,1,1,1] f76c) k'))
theorem f76K0_x0 {R : Type} (n : Nat) (k : List Dt → Option R) (a0 : ByteArray)  : f76K0 n (exitK f76e [.ro] [false, false] true [.tmp 2, .tmp 3] [3, 4] [.d .str a0] k) .ret ⟨[(2, .c (.one (.v (.int .i64 (0 : Int))))), (3, .c (.one (.v (.bool false))))], [], []⟩ =
    (k [.d (.i .i64) (0 : Int), .d .bool false]) := by kernel_rfl
theorem f76K0_x1 {R : Type} (n : Nat) (k : List Dt → Option R) (a0 : ByteArray) (vs0 : ByteArray) (vs4 : ByteArray) (vs25 : Int) (xvs5 : Int) (xvs26 : Int) (xvs27 : Bool) : f76K0 n (exitK f76e [.ro] [false, false] true [.tmp 2, .tmp 3] [3, 4] [.d .str a0] k) (.exit 0) ⟨[(0, .c (.one (.v (.string vs0)))), (4, .c (.one (.v (.string vs4)))), (5, .c (.one (.v (.int .i64 xvs5)))), (25, .c (.one (.v (.int .i64 vs25)))), (26, .c (.one (.v (.int .i64 xvs26)))), (27, .c (.one (.v (.bool xvs27))))], [], []⟩ =
    (cond (decide ((ByteArray.size vs4 : Int) < (ByteArray.size vs0 : Int)))
    (cond (!(inR (IntKind.wrap .i64 (0 - xvs5)) (-1000000000000 : Int) (1000000000000 : Int)))
      (k [.d (.i .i64) (0 : Int), .d .bool false])
      (cond (okI (IntKind.wrap .i64 (0 - xvs5)))
        (cond (!(sEq (digS (IntKind.wrap .i64 (0 - xvs5))) vs0))
          (k [.d (.i .i64) (0 : Int), .d .bool false])
          (k [.d (.i .i64) (IntKind.wrap .i64 (0 - xvs5)), .d .bool true]))
        none))
    (cond (!(inR xvs5 (-1000000000000 : Int) (1000000000000 : Int)))
      (k [.d (.i .i64) (0 : Int), .d .bool false])
      (cond (okI xvs5)
        (cond (!(sEq (digS xvs5) vs0))
          (k [.d (.i .i64) (0 : Int), .d .bool false])
          (k [.d (.i .i64) xvs5, .d .bool true]))
        none))) := by kernel_rfl

theorem f76_run {R : Type} (n : Nat) (k : List Dt → Option R) (a0 : ByteArray) : evFn f76e f76k n f76c [.ro] [false, false] true [.tmp 2, .tmp 3] [3, 4] [.d .str a0] k =
    (cond (!(sEq a0 ByteArray.empty))
    (cond (decide ((0 : Int) < (ByteArray.size a0 : Int)))
      (cond ((((ByteArray.data a0).getD 0 0).toNat : Int) == (45 : Int))
        (cond ((decide ((1 : Int) ≤ (ByteArray.size a0 : Int))) && (decide ((ByteArray.size a0 : Int) ≤ (ByteArray.size a0 : Int))))
          (cond (sEq (ByteArray.extract a0 1 (Int.toNat (ByteArray.size a0 : Int))) ByteArray.empty)
            (k [.d (.i .i64) (0 : Int), .d .bool false])
            (cond (decide ((ByteArray.size (ByteArray.extract a0 1 (Int.toNat (ByteArray.size a0 : Int))) : Int) > (13 : Int)))
              (k [.d (.i .i64) (0 : Int), .d .bool false])
              (f76L0 n (k [.d (.i .i64) (0 : Int), .d .bool false]) (fun (xvs5 : Int) (xvs26 : Int) (xvs27 : Bool) =>
                (cond (decide ((ByteArray.size (ByteArray.extract a0 1 (Int.toNat (ByteArray.size a0 : Int))) : Int) < (ByteArray.size a0 : Int)))
                  (cond (!(inR (IntKind.wrap .i64 (0 - xvs5)) (-1000000000000 : Int) (1000000000000 : Int)))
                    (k [.d (.i .i64) (0 : Int), .d .bool false])
                    (cond (okI (IntKind.wrap .i64 (0 - xvs5)))
                      (cond (!(sEq (digS (IntKind.wrap .i64 (0 - xvs5))) a0))
                        (k [.d (.i .i64) (0 : Int), .d .bool false])
                        (k [.d (.i .i64) (IntKind.wrap .i64 (0 - xvs5)), .d .bool true]))
                      none))
                  (cond (!(inR xvs5 (-1000000000000 : Int) (1000000000000 : Int)))
                    (k [.d (.i .i64) (0 : Int), .d .bool false])
                    (cond (okI xvs5)
                      (cond (!(sEq (digS xvs5) a0))
                        (k [.d (.i .i64) (0 : Int), .d .bool false])
                        (k [.d (.i .i64) xvs5, .d .bool true]))
                      none)))) a0 (ByteArray.extract a0 1 (Int.toNat (ByteArray.size a0 : Int))) (ByteArray.size (ByteArray.extract a0 1 (Int.toNat (ByteArray.size a0 : Int))) : Int) n (0 : Int) (0 : Int))))
          none)
        (cond (sEq a0 ByteArray.empty)
          (k [.d (.i .i64) (0 : Int), .d .bool false])
          (cond (decide ((ByteArray.size a0 : Int) > (13 : Int)))
            (k [.d (.i .i64) (0 : Int), .d .bool false])
            (f76L0 n (k [.d (.i .i64) (0 : Int), .d .bool false]) (fun (xvs5 : Int) (xvs26 : Int) (xvs27 : Bool) =>
              (cond (decide ((ByteArray.size a0 : Int) < (ByteArray.size a0 : Int)))
                (cond (!(inR (IntKind.wrap .i64 (0 - xvs5)) (-1000000000000 : Int) (1000000000000 : Int)))
                  (k [.d (.i .i64) (0 : Int), .d .bool false])
                  (cond (okI (IntKind.wrap .i64 (0 - xvs5)))
                    (cond (!(sEq (digS (IntKind.wrap .i64 (0 - xvs5))) a0))
                      (k [.d (.i .i64) (0 : Int), .d .bool false])
                      (k [.d (.i .i64) (IntKind.wrap .i64 (0 - xvs5)), .d .bool true]))
                    none))
                (cond (!(inR xvs5 (-1000000000000 : Int) (1000000000000 : Int)))
                  (k [.d (.i .i64) (0 : Int), .d .bool false])
                  (cond (okI xvs5)
                    (cond (!(sEq (digS xvs5) a0))
                      (k [.d (.i .i64) (0 : Int), .d .bool false])
                      (k [.d (.i .i64) xvs5, .d .bool true]))
                    none)))) a0 a0 (ByteArray.size a0 : Int) n (0 : Int) (0 : Int)))))
      none)
    (cond (sEq a0 ByteArray.empty)
      (k [.d (.i .i64) (0 : Int), .d .bool false])
      (cond (decide ((ByteArray.size a0 : Int) > (13 : Int)))
        (k [.d (.i .i64) (0 : Int), .d .bool false])
        (f76L0 n (k [.d (.i .i64) (0 : Int), .d .bool false]) (fun (xvs5 : Int) (xvs26 : Int) (xvs27 : Bool) =>
          (cond (decide ((ByteArray.size a0 : Int) < (ByteArray.size a0 : Int)))
            (cond (!(inR (IntKind.wrap .i64 (0 - xvs5)) (-1000000000000 : Int) (1000000000000 : Int)))
              (k [.d (.i .i64) (0 : Int), .d .bool false])
              (cond (okI (IntKind.wrap .i64 (0 - xvs5)))
                (cond (!(sEq (digS (IntKind.wrap .i64 (0 - xvs5))) a0))
                  (k [.d (.i .i64) (0 : Int), .d .bool false])
                  (k [.d (.i .i64) (IntKind.wrap .i64 (0 - xvs5)), .d .bool true]))
                none))
            (cond (!(inR xvs5 (-1000000000000 : Int) (1000000000000 : Int)))
              (k [.d (.i .i64) (0 : Int), .d .bool false])
              (cond (okI xvs5)
                (cond (!(sEq (digS xvs5) a0))
                  (k [.d (.i .i64) (0 : Int), .d .bool false])
                  (k [.d (.i .i64) xvs5, .d .bool true]))
                none)))) a0 a0 (ByteArray.size a0 : Int) n (0 : Int) (0 : Int))))) := by
  refine Eq.trans (b := (cond (!(sEq a0 ByteArray.empty))
    (cond (decide ((0 : Int) < (ByteArray.size a0 : Int)))
      (cond ((((ByteArray.data a0).getD 0 0).toNat : Int) == (45 : Int))
        (cond ((decide ((1 : Int) ≤ (ByteArray.size a0 : Int))) && (decide ((ByteArray.size a0 : Int) ≤ (ByteArray.size a0 : Int))))
          (cond (sEq (ByteArray.extract a0 1 (Int.toNat (ByteArray.size a0 : Int))) ByteArray.empty)
            (k [.d (.i .i64) (0 : Int), .d .bool false])
            (cond (decide ((ByteArray.size (ByteArray.extract a0 1 (Int.toNat (ByteArray.size a0 : Int))) : Int) > (13 : Int)))
              (k [.d (.i .i64) (0 : Int), .d .bool false])
              (iter (fun st k => ev f76e f76k n (cAt [1,1,1,1,1,0,1,0,0] f76c) st k) n ⟨[(0, .c (.one (.v (.string a0)))), (4, .c (.one (.v (.string (ByteArray.extract a0 1 (Int.toNat (ByteArray.size a0 : Int))))))), (5, .c (.one (.v (.int .i64 (0 : Int))))), (25, .c (.one (.v (.int .i64 (ByteArray.size (ByteArray.extract a0 1 (Int.toNat (ByteArray.size a0 : Int))) : Int))))), (26, .c (.one (.v (.int .i64 (0 : Int)))))], [], []⟩ (f76K0 n (exitK f76e [.ro] [false, false] true [.tmp 2, .tmp 3] [3, 4] [.d .str a0] k)))))
          none)
        (cond (sEq a0 ByteArray.empty)
          (k [.d (.i .i64) (0 : Int), .d .bool false])
          (cond (decide ((ByteArray.size a0 : Int) > (13 : Int)))
            (k [.d (.i .i64) (0 : Int), .d .bool false])
            (iter (fun st k => ev f76e f76k n (cAt [1,1,1,1,1,0,1,0,0] f76c) st k) n ⟨[(0, .c (.one (.v (.string a0)))), (4, .c (.one (.v (.string a0)))), (5, .c (.one (.v (.int .i64 (0 : Int))))), (25, .c (.one (.v (.int .i64 (ByteArray.size a0 : Int))))), (26, .c (.one (.v (.int .i64 (0 : Int)))))], [], []⟩ (f76K0 n (exitK f76e [.ro] [false, false] true [.tmp 2, .tmp 3] [3, 4] [.d .str a0] k))))))
      none)
    (cond (sEq a0 ByteArray.empty)
      (k [.d (.i .i64) (0 : Int), .d .bool false])
      (cond (decide ((ByteArray.size a0 : Int) > (13 : Int)))
        (k [.d (.i .i64) (0 : Int), .d .bool false])
        (iter (fun st k => ev f76e f76k n (cAt [1,1,1,1,1,0,1,0,0] f76c) st k) n ⟨[(0, .c (.one (.v (.string a0)))), (4, .c (.one (.v (.string a0)))), (5, .c (.one (.v (.int .i64 (0 : Int))))), (25, .c (.one (.v (.int .i64 (ByteArray.size a0 : Int))))), (26, .c (.one (.v (.int .i64 (0 : Int)))))], [], []⟩ (f76K0 n (exitK f76e [.ro] [false, false] true [.tmp 2, .tmp 3] [3, 4] [.d .str a0] k))))))) (by kernel_rfl) ?_
  simp only [f76L0_eq, f76K0_x0, f76K0_x1]
theorem f76_spec (a0 : ByteArray) : ∃ keep rounds, ∀ {R : Type} (k : List Dt → Option R), evFn f76e keep rounds f76c [.ro] [false, false] true [.tmp 2, .tmp 3] [3, 4] [.d .str a0] k = k [.d (.i .i64) ((numS a0).1), .d .bool ((numS a0).2)] := by
  refine ⟨f76k, 14, fun {R} k => ?_⟩
  rw [f76_run]
  show _ = k [.d (.i .i64) (numS a0).1, .d .bool (numS a0).2]
  have key : ∀ (t : ByteArray) (bad : Option R) (fin : Int → Int → Bool → Option R), t.size ≤ 13 → f76L0 14 bad fin a0 t (t.size : Int) 14 (0 : Int) (0 : Int) = Sum.elim (fun _ => bad) (fun n => fin n (t.size : Int) false) (foldE numStep t.data.toList 0) := by
    intro t bad fin ht
    have hlen : t.data.toList.length = t.size := rfl
    refine Eq.trans (loop_fold (xs := t.data.toList) (F := fun m j a => f76L0 14 bad fin a0 t (t.size : Int) m a (j : Int)) (step := numStep) (out := fun _ => bad) (good := fun n => fin n (t.size : Int) false) (fun _ => True) (fun _ _ _ _ _ _ => trivial) (fun m j a x hx _ => ?_) (fun m a _ => ?_) t.size 0 14 0 (by omega) (by omega) trivial) (by rw [List.drop_zero])
    · have hj : j < t.size := by have := lt_of_get hx; omega
      obtain ⟨h1, h0, hw, htt⟩ := idx hj (by omega)
      have hc : (ByteArray.data t).getD j 0 = x := by
        rw [Array.getElem?_toList] at hx
        rw [Array.getD_eq_getD_getElem?, hx]; rfl
      simp only [f76L0, h1, h0, hw, htt, hc, Bool.and_self, cond_true]
      unfold numStep
      cases decide ((x.toNat : Int) < (48 : Int)) <;> cases decide ((x.toNat : Int) > (57 : Int)) <;> rfl
    · simp only [f76L0, hlen, idxE, cond_false]
  have fin : ∀ t : ByteArray, cond (sEq t ByteArray.empty) (k [.d (.i .i64) (0 : Int), .d .bool false]) (cond (decide ((ByteArray.size t : Int) > (13 : Int))) (k [.d (.i .i64) (0 : Int), .d .bool false])
      (f76L0 14 (k [.d (.i .i64) (0 : Int), .d .bool false]) (fun (xvs5 : Int) (xvs26 : Int) (xvs27 : Bool) =>
        (cond (decide ((ByteArray.size t : Int) < (ByteArray.size a0 : Int)))
          (cond (!(inR (IntKind.wrap .i64 (0 - xvs5)) (-1000000000000 : Int) (1000000000000 : Int)))
            (k [.d (.i .i64) (0 : Int), .d .bool false])
            (cond (okI (IntKind.wrap .i64 (0 - xvs5)))
              (cond (!(sEq (digS (IntKind.wrap .i64 (0 - xvs5))) a0))
                (k [.d (.i .i64) (0 : Int), .d .bool false])
                (k [.d (.i .i64) (IntKind.wrap .i64 (0 - xvs5)), .d .bool true]))
              none))
          (cond (!(inR xvs5 (-1000000000000 : Int) (1000000000000 : Int)))
            (k [.d (.i .i64) (0 : Int), .d .bool false])
            (cond (okI xvs5)
              (cond (!(sEq (digS xvs5) a0))
                (k [.d (.i .i64) (0 : Int), .d .bool false])
                (k [.d (.i .i64) xvs5, .d .bool true]))
              none)))) a0 t (ByteArray.size t : Int) 14 (0 : Int) (0 : Int))) =
      (fun r : Int × Bool => k [.d (.i .i64) r.1, .d .bool r.2]) (cond (sEq t ByteArray.empty) ((0 : Int), false) (cond (decide ((t.size : Int) > 13)) ((0 : Int), false) (Sum.elim (fun _ => ((0 : Int), false)) (numEnd a0 t) (foldE numStep t.data.toList 0)))) := by
    intro t
    cases sEq t ByteArray.empty
    rotate_left
    · rfl
    by_cases h13 : (ByteArray.size t : Int) > (13 : Int)
    · rw [decide_eq_true h13]; rfl
    rw [decide_eq_false h13, key t _ _ (by omega)]
    simp only [cond_false]
    have one : ∀ n : Int, (cond (!(inR n (-1000000000000 : Int) (1000000000000 : Int)))
            (k [.d (.i .i64) (0 : Int), .d .bool false])
            (cond (okI n)
              (cond (!(sEq (digS n) a0))
                (k [.d (.i .i64) (0 : Int), .d .bool false])
                (k [.d (.i .i64) n, .d .bool true]))
              none)) = (fun r : Int × Bool => k [.d (.i .i64) r.1, .d .bool r.2]) (cond (inR n (-1000000000000) 1000000000000) (cond (sEq (digS n) a0) (n, true) ((0 : Int), false)) ((0 : Int), false)) := by
      intro n
      cases hin : inR n (-1000000000000 : Int) (1000000000000 : Int)
      · rfl
      have := inR_iff.1 hin
      rw [okI_of (n := n) (by omega) (by omega)]
      cases sEq (digS n) a0 <;> rfl
    cases foldE numStep t.data.toList 0 with
    | inl _ => rfl
    | inr m =>
      simp only [Sum.elim_inr, numEnd]
      cases decide ((ByteArray.size t : Int) < (ByteArray.size a0 : Int))
      · exact one m
      · exact one (IntKind.wrap .i64 (0 - m))
  cases he : sEq a0 ByteArray.empty
  rotate_left
  · have hT : numT a0 = a0 := by unfold numT; rw [he]; rfl
    unfold numS
    rw [hT]
    simp only [Bool.not_true, cond_false]
    have f := fin a0
    rw [he] at f
    rw [he]
    exact f
  have hpos : 0 < a0.size := by
    rcases Nat.eq_zero_or_pos a0.size with h | h
    · exact absurd (sEq_iff.2 (size_zero h)) (by rw [he]; decide)
    · exact h
  have d1 : decide ((0 : Int) < (ByteArray.size a0 : Int)) = true := decide_eq_true (by omega)
  have d2 : decide ((1 : Int) ≤ (ByteArray.size a0 : Int)) = true := decide_eq_true (by omega)
  have d3 : decide ((ByteArray.size a0 : Int) ≤ (ByteArray.size a0 : Int)) = true := decide_eq_true (by omega)
  simp only [d1, d2, d3, Bool.not_false, Bool.and_self, cond_true, Int.toNat_natCast]
  cases hb : ((((ByteArray.data a0).getD 0 0).toNat : Int) == (45 : Int))
  · have hT : numT a0 = a0 := by unfold numT; rw [he, hb]; rfl
    unfold numS
    rw [hT]
    simp only [cond_false]
    have f := fin a0
    rw [he] at f
    rw [he]
    exact f
  · have hT : numT a0 = ByteArray.extract a0 1 a0.size := by unfold numT; rw [he, hb]; rfl
    unfold numS
    rw [hT]
    simp only [cond_true]
    exact fin _

noncomputable def q76 : List Dt → Option (Bool × List Dt)
  | [.d .str a0] => some (true, [.d (.i .i64) ((numS a0).1), .d .bool ((numS a0).2)])
  | _ => none
noncomputable def s76 : Gm.Spec := Gm.Spec.of [.ro] [false, false] true q76
theorem good76 : Gm.Good Try.prog (76, s76) := by
  have hl : ∀ x ∈ [(39, s39), (90, s90)], Gm.Good Try.prog x := List.forall_mem_cons.2 ⟨good39, List.forall_mem_cons.2 ⟨good90, List.forall_mem_nil _⟩⟩
  refine ⟨⟨spec_ok (tab_ok.env hl) (tab.natl hl) Try.func76 (by kernel_rfl : Try.f76.body = some f76c) [3, 4] (by kernel_rfl) ?_, _, Try.func76, by kernel_rfl, of_decide_eq_true (by kernel_rfl)⟩, Gm.Spec.of_natl _ _ _ _⟩
  intro ds outs h
  unfold q76 at h
  split at h
  · cases h; exact f76_spec _
  · cases h
/-! ### loop.example/g00465/impl.natural -/
noncomputable def f58c : Code := (Try.f58.body).getD .skip
def f58k : Nat → Kp := kat [⟨[0], [], [], []⟩, ⟨[4, 5], [], [], []⟩, ⟨[2, 3], [], [], []⟩]
noncomputable def f58e : Env := tab.env [(76, s76)]
theorem f58_run {R : Type} (n : Nat) (k : List Dt → Option R) (a0 : ByteArray) : evFn f58e f58k n f58c [.ro] [false, false] true [.tmp 2, .tmp 3] [3, 4] [.d .str a0] k =
    (cond ((numS a0).2)
    (k [.d (.i .i64) ((numS a0).1), .d .bool (decide (((numS a0).1) ≥ (0 : Int)))])
    (k [.d (.i .i64) ((numS a0).1), .d .bool false])) := by kernel_rfl
theorem f58_spec (a0 : ByteArray) : ∃ keep rounds, ∀ {R : Type} (k : List Dt → Option R), evFn f58e keep rounds f58c [.ro] [false, false] true [.tmp 2, .tmp 3] [3, 4] [.d .str a0] k = k [.d (.i .i64) ((natS a0).1), .d .bool ((natS a0).2)] := by
  refine ⟨f58k, 0, fun {R} k => ?_⟩
  rw [f58_run]
  show _ = k [.d (.i .i64) (natS a0).1, .d .bool (natS a0).2]
  unfold natS
  cases (numS a0).2 <;> rfl

noncomputable def q58 : List Dt → Option (Bool × List Dt)
  | [.d .str a0] => some (true, [.d (.i .i64) ((natS a0).1), .d .bool ((natS a0).2)])
  | _ => none
noncomputable def s58 : Gm.Spec := Gm.Spec.of [.ro] [false, false] true q58
theorem good58 : Gm.Good Try.prog (58, s58) := by
  have hl : ∀ x ∈ [(76, s76)], Gm.Good Try.prog x := List.forall_mem_cons.2 ⟨good76, List.forall_mem_nil _⟩
  refine ⟨⟨spec_ok (tab_ok.env hl) (tab.natl hl) Try.func58 (by kernel_rfl : Try.f58.body = some f58c) [3, 4] (by kernel_rfl) ?_, _, Try.func58, by kernel_rfl, of_decide_eq_true (by kernel_rfl)⟩, Gm.Spec.of_natl _ _ _ _⟩
  intro ds outs h
  unfold q58 at h
  split at h
  · cases h; exact f58_spec _
  · cases h
/-! ### loop.example/g00465/impl.kidAt -/
noncomputable def f45c : Code := (Try.f45.body).getD .skip
def f45k : Nat → Kp := kat [⟨[1, 2], [], [], []⟩, ⟨[1, 2, 10], [], [], []⟩, ⟨[2, 5], [], [], []⟩, ⟨[5, 19], [], [], []⟩, ⟨[4], [], [], []⟩, ⟨[4], [], [], []⟩, ⟨[2, 6, 7], [], [], []⟩, ⟨[6, 39], [], [], []⟩, ⟨[4], [], [], []⟩, ⟨[4], [], [], []⟩]
noncomputable def f45e : Env := tab.env [(58, s58), (67, s67)]
theorem f45_run {R : Type} (n : Nat) (k : List Dt → Option R) (a0 : NodeT) (a1 : ByteArray) : evFn f45e f45k n f45c [.ro, .ro] [false] true [.tmp 4] [3] [.d .node a0, .d .str a1] k =
    (cond ((NodeT.kind a0) == (5 : Int))
    (cond ((fun (x : List ByteArray) (_ : ByteArray) => gLenW x) (NodeT.keys a0) a1)
      (cond (decide ((idxS (NodeT.keys a0) a1) ≥ ((NodeT.kids a0).length : Int)))
        (k [.d (.i .i64) (-1 : Int)])
        (k [.d (.i .i64) (idxS (NodeT.keys a0) a1)]))
      none)
    (cond ((NodeT.kind a0) != (4 : Int))
      (k [.d (.i .i64) (-1 : Int)])
      (cond (!((natS a1).2))
        (k [.d (.i .i64) (-1 : Int)])
        (cond (decide (((natS a1).1) ≥ ((NodeT.kids a0).length : Int)))
          (k [.d (.i .i64) (-1 : Int)])
          (k [.d (.i .i64) ((natS a1).1)]))))) := by kernel_rfl
theorem f45_spec (a0 : NodeT) (a1 : ByteArray) (hg : sm_node a0 = true) : ∃ keep rounds, ∀ {R : Type} (k : List Dt → Option R), evFn f45e keep rounds f45c [.ro, .ro] [false] true [.tmp 4] [3] [.d .node a0, .d .str a1] k = k [.d (.i .i64) (kidAt a0 a1)] := by
  have hg0 := hg
  rw [sm_node_def] at hg
  simp only [Bool.and_eq_true] at hg
  obtain ⟨_, _, _, hke, hki⟩ := hg
  have nke := smL_len hke
  have nki := smL_len hki
  refine ⟨f45k, 0, fun {R} k => ?_⟩
  rw [f45_run]
  simp only [gLenW_sm hke, cond_true]
  cases h5 : a0.kind == (5 : Int)
  · have e : kidAt a0 a1 = cond (a0.kind == (4 : Int)) (plc (firstN (fun j => sEq (digS (j : Int)) a1) 0 a0.kids.length)) (-1) := by unfold kidAt; rw [h5]; rfl
    rw [e, ← natS_first nki]
    simp only [bne, cond_false]
    cases a0.kind == (4 : Int)
    · rfl
    cases (natS a1).2
    · rfl
    cases decide ((natS a1).1 ≥ (a0.kids.length : Int)) <;> rfl
  · have e : kidAt a0 a1 = keyAt a0 a1 := by unfold kidAt; rw [h5]; rfl
    rw [e, ← idxS_keyAt h5]
    simp only [cond_true]
    cases decide (idxS a0.keys a1 ≥ (a0.kids.length : Int)) <;> rfl

noncomputable def q45 : List Dt → Option (Bool × List Dt)
  | [.d .node a0, .d .str a1] => some (((fun (x : NodeT) (_ : ByteArray) => sm_node x) a0 a1), [.d (.i .i64) (kidAt a0 a1)])
  | _ => none
noncomputable def s45 : Gm.Spec := Gm.Spec.of [.ro, .ro] [false] true q45
theorem good45 : Gm.Good Try.prog (45, s45) := by
  have hl : ∀ x ∈ [(58, s58), (67, s67)], Gm.Good Try.prog x := List.forall_mem_cons.2 ⟨good58, List.forall_mem_cons.2 ⟨good67, List.forall_mem_nil _⟩⟩
  refine ⟨⟨spec_ok (tab_ok.env hl) (tab.natl hl) Try.func45 (by kernel_rfl : Try.f45.body = some f45c) [3] (by kernel_rfl) ?_, _, Try.func45, by kernel_rfl, of_decide_eq_true (by kernel_rfl)⟩, Gm.Spec.of_natl _ _ _ _⟩
  intro ds outs h
  unfold q45 at h
  split at h
  · simp only [Option.some.injEq, Prod.mk.injEq] at h; obtain ⟨hg, h⟩ := h; cases h; exact f45_spec _ _ hg
  · cases h
/-! ### loop.example/g00465/spec.l3At -/
noncomputable def f66c : Code := (Try.f66.body).getD .skip
def f66k : Nat → Kp := kat [⟨[1, 2], [], [], []⟩, ⟨[1, 2, 5], [], [], []⟩, ⟨[1, 2, 5, 22], [], [], []⟩, ⟨[1, 2, 5], [], [], []⟩, ⟨[1, 2, 5, 31], [], [], []⟩, ⟨[4], [], [], []⟩, ⟨[4], [], [], []⟩]
noncomputable def f66e : Env := tab.env []
noncomputable def f66L0 {R : Type} (n : Nat) (x0 : Int → Option R) (x1 : Int → Bool → Option R) (x2 : Int → Option R) (vs1 : ByteArray) (vb2_0 : Int) (vb2_1 : Int) (vb2_2 : ByteArray) (vb2_3 : List ByteArray) (vb2_4 : List NodeT) : Nat → Int → Option R
  | 0, _ => none
  | m + 1, vs5 =>
    (cond (decide (vs5 < (vb2_3.length : Int)))
      (cond (decide (vs5 < (vb2_4.length : Int)))
        (cond (vb2_0 == (5 : Int))
          (cond ((decide ((0 : Int) ≤ vs5)) && (decide (vs5 < (vb2_3.length : Int))))
            (cond (sEq (atI (t := .str) vb2_3 (Int.toNat vs5)) vs1)
              (x0 vs5)
              (f66L0 n x0 x1 x2 vs1 vb2_0 vb2_1 vb2_2 vb2_3 vb2_4 m (IntKind.wrap .i64 (vs5 + (1 : Int)))))
            none)
          (x1 vs5 (vb2_0 == (5 : Int))))
        (x2 vs5))
      (x2 vs5))
theorem f66L0_b {R : Type} (n : Nat) (k' : Ex → St → Option R) (vs1 : ByteArray) (vs5 : Int) (vb2_0 : Int) (vb2_1 : Int) (vb2_2 : ByteArray) (vb2_3 : List ByteArray) (vb2_4 : List NodeT) : ev f66e f66k n (cAt [1,0,1,0,0] f66c) ⟨[(1, .c (.one (.v (.string vs1)))), (2, .c (.one (.pt 2 0))), (5, .c (.one (.v (.int .i64 vs5))))], [(2, ⟨.node, [.v (.int .i64 vb2_0), .v (.int .i64 vb2_1), .v (.string vb2_2), .ro .str vb2_3, .ro .node vb2_4]⟩)], []⟩ k' =
    (cond (decide (vs5 < (vb2_3.length : Int)))
    (cond (decide (vs5 < (vb2_4.length : Int)))
      (cond (vb2_0 == (5 : Int))
        (cond ((decide ((0 : Int) ≤ vs5)) && (decide (vs5 < (vb2_3.length : Int))))
          (cond (sEq (atI (t := .str) vb2_3 (Int.toNat vs5)) vs1)
            (k' .ret ⟨[(4, .c (.one (.v (.int .i64 vs5))))], [], []⟩)
            (k' .normal ⟨[(1, .c (.one (.v (.string vs1)))), (2, .c (.one (.pt 2 0))), (5, .c (.one (.v (.int .i64 (IntKind.wrap .i64 (vs5 + (1 : Int)))))))], [(2, ⟨.node, [.v (.int .i64 vb2_0), .v (.int .i64 vb2_1), .v (.string vb2_2), .ro .str vb2_3, .ro .node vb2_4]⟩)], []⟩))
          none)
        (k' (.exit 0) ⟨[(1, .c (.one (.v (.string vs1)))), (2, .c (.one (.pt 2 0))), (5, .c (.one (.v (.int .i64 vs5)))), (22, .c (.one (.v (.bool (vb2_0 == (5 : Int))))))], [(2, ⟨.node, [.v (.int .i64 vb2_0), .v (.int .i64 vb2_1), .v (.string vb2_2), .ro .str vb2_3, .ro .node vb2_4]⟩)], []⟩))
      (k' (.exit 0) ⟨[(1, .c (.one (.v (.string vs1)))), (2, .c (.one (.pt 2 0))), (5, .c (.one (.v (.int .i64 vs5)))), (22, .c (.one (.v (.bool false))))], [(2, ⟨.node, [.v (.int .i64 vb2_0), .v (.int .i64 vb2_1), .v (.string vb2_2), .ro .str vb2_3, .ro .node vb2_4]⟩)], []⟩))
    (k' (.exit 0) ⟨[(1, .c (.one (.v (.string vs1)))), (2, .c (.one (.pt 2 0))), (5, .c (.one (.v (.int .i64 vs5)))), (22, .c (.one (.v (.bool false))))], [(2, ⟨.node, [.v (.int .i64 vb2_0), .v (.int .i64 vb2_1), .v (.string vb2_2), .ro .str vb2_3, .ro .node vb2_4]⟩)], []⟩)) := by kernel_rfl
theorem f66L0_eq {R : Type} (n : Nat) (k' : Ex → St → Option R) (vs1 : ByteArray) (vb2_0 : Int) (vb2_1 : Int) (vb2_2 : ByteArray) (vb2_3 : List ByteArray) (vb2_4 : List NodeT) : ∀ (m : Nat) (vs5 : Int), iter (fun st k => ev f66e f66k n (cAt [1,0,1,0,0] f66c) st k) m ⟨[(1, .c (.one (.v (.string vs1)))), (2, .c (.one (.pt 2 0))), (5, .c (.one (.v (.int .i64 vs5))))], [(2, ⟨.node, [.v (.int .i64 vb2_0), .v (.int .i64 vb2_1), .v (.string vb2_2), .ro .str vb2_3, .ro .node vb2_4]⟩)], []⟩ k' = f66L0 n (fun (xvs4 : Int) => k' .ret ⟨[(4, .c (.one (.v (.int .i64 xvs4))))], [], []⟩) (fun (xvs5 : Int) (xvs22 : Bool) => k' (.exit 0) ⟨[(1, .c (.one (.v (.string vs1)))), (2, .c (.one (.pt 2 0))), (5, .c (.one (.v (.int .i64 xvs5)))), (22, .c (.one (.v (.bool xvs22))))], [(2, ⟨.node, [.v (.int .i64 vb2_0), .v (.int .i64 vb2_1), .v (.string vb2_2), .ro .str vb2_3, .ro .node vb2_4]⟩)], []⟩) (fun (xvs5 : Int) => k' (.exit 0) ⟨[(1, .c (.one (.v (.string vs1)))), (2, .c (.one (.pt 2 0))), (5, .c (.one (.v (.int .i64 xvs5)))), (22, .c (.one (.v (.bool false))))], [(2, ⟨.node, [.v (.int .i64 vb2_0), .v (.int .i64 vb2_1), .v (.string vb2_2), .ro .str vb2_3, .ro .node vb2_4]⟩)], []⟩) vs1 vb2_0 vb2_1 vb2_2 vb2_3 vb2_4 m vs5 := by
  intro m; induction m with
  | zero => intros; rfl
  | succ m ih =>
    intro vs5
    simp only [iter]
    rw [f66L0_b]
    simp only [ih, f66L0]

noncomputable def f66K0 {R : Type} (n : Nat) (k' : Ex → St → Option R) : Ex → St → Option R := (blockK 0 (seqK f66e f66k n (cAt [1,1] f66c) k'))
theorem f66K0_x0 {R : Type} (n : Nat) (k : List Dt → Option R) (a0 : NodeT) (a1 : ByteArray) (xvs4 : Int) : f66K0 n (exitK f66e [.ro, .ro] [false] true [.tmp 4] [3] [.d .node a0, .d .str a1] k) .ret ⟨[(4, .c (.one (.v (.int .i64 xvs4))))], [], []⟩ =
    (k [.d (.i .i64) xvs4]) := by kernel_rfl
theorem f66K0_x1 {R : Type} (n : Nat) (k : List Dt → Option R) (a0 : NodeT) (a1 : ByteArray) (vs1 : ByteArray) (vb2_0 : Int) (vb2_1 : Int) (vb2_2 : ByteArray) (vb2_3 : List ByteArray) (vb2_4 : List NodeT) (xvs5 : Int) (xvs22 : Bool) : f66K0 n (exitK f66e [.ro, .ro] [false] true [.tmp 4] [3] [.d .node a0, .d .str a1] k) (.exit 0) ⟨[(1, .c (.one (.v (.string vs1)))), (2, .c (.one (.pt 2 0))), (5, .c (.one (.v (.int .i64 xvs5)))), (22, .c (.one (.v (.bool xvs22))))], [(2, ⟨.node, [.v (.int .i64 vb2_0), .v (.int .i64 vb2_1), .v (.string vb2_2), .ro .str vb2_3, .ro .node vb2_4]⟩)], []⟩ =
    (k [.d (.i .i64) (-1 : Int)]) := by kernel_rfl
theorem f66K0_x2 {R : Type} (n : Nat) (k : List Dt → Option R) (a0 : NodeT) (a1 : ByteArray) (vs1 : ByteArray) (vb2_0 : Int) (vb2_1 : Int) (vb2_2 : ByteArray) (vb2_3 : List ByteArray) (vb2_4 : List NodeT) (xvs5 : Int) : f66K0 n (exitK f66e [.ro, .ro] [false] true [.tmp 4] [3] [.d .node a0, .d .str a1] k) (.exit 0) ⟨[(1, .c (.one (.v (.string vs1)))), (2, .c (.one (.pt 2 0))), (5, .c (.one (.v (.int .i64 xvs5)))), (22, .c (.one (.v (.bool false))))], [(2, ⟨.node, [.v (.int .i64 vb2_0), .v (.int .i64 vb2_1), .v (.string vb2_2), .ro .str vb2_3, .ro .node vb2_4]⟩)], []⟩ =
    (k [.d (.i .i64) (-1 : Int)]) := by kernel_rfl

theorem f66_run {R : Type} (n : Nat) (k : List Dt → Option R) (a0 : NodeT) (a1 : ByteArray) : evFn f66e f66k n f66c [.ro, .ro] [false] true [.tmp 4] [3] [.d .node a0, .d .str a1] k =
    (f66L0 n (fun (xvs4 : Int) =>
    (k [.d (.i .i64) xvs4])) (fun (xvs5 : Int) (xvs22 : Bool) =>
    (k [.d (.i .i64) (-1 : Int)])) (fun (xvs5 : Int) =>
    (k [.d (.i .i64) (-1 : Int)])) a1 (NodeT.kind a0) (NodeT.n a0) (NodeT.s a0) (NodeT.keys a0) (NodeT.kids a0) n (0 : Int)) := by
  refine Eq.trans (b := (iter (fun st k => ev f66e f66k n (cAt [1,0,1,0,0] f66c) st k) n ⟨[(1, .c (.one (.v (.string a1)))), (2, .c (.one (.pt 2 0))), (5, .c (.one (.v (.int .i64 (0 : Int)))))], [(2, ⟨.node, [.v (.int .i64 (NodeT.kind a0)), .v (.int .i64 (NodeT.n a0)), .v (.string (NodeT.s a0)), .ro .str (NodeT.keys a0), .ro .node (NodeT.kids a0)]⟩)], []⟩ (f66K0 n (exitK f66e [.ro, .ro] [false] true [.tmp 4] [3] [.d .node a0, .d .str a1] k)))) (by kernel_rfl) ?_
  simp only [f66L0_eq, f66K0_x0, f66K0_x1, f66K0_x2]
theorem f66_spec (a0 : NodeT) (a1 : ByteArray) (hg : sm_node a0 = true) : ∃ keep rounds, ∀ {R : Type} (k : List Dt → Option R), evFn f66e keep rounds f66c [.ro, .ro] [false] true [.tmp 4] [3] [.d .node a0, .d .str a1] k = k [.d (.i .i64) (keyAt a0 a1)] := by
  have hg0 := hg
  rw [sm_node_def] at hg
  simp only [Bool.and_eq_true] at hg
  obtain ⟨_, _, _, hke, hki⟩ := hg
  have nke := smL_len hke
  have nki := smL_len hki
  refine ⟨f66k, a0.keys.length + 1, fun {R} k => ?_⟩
  rw [f66_run]
  show _ = k [.d (.i .i64) (keyAt a0 a1)]
  unfold keyAt
  cases h5 : a0.kind == (5 : Int)
  · rw [f66L0]
    simp only [h5, cond_false]
    cases decide ((0 : Int) < (a0.keys.length : Int)) <;> cases decide ((0 : Int) < (a0.kids.length : Int)) <;> rfl
  refine Eq.trans (loop_find (n := min a0.keys.length a0.kids.length) (F := fun m i => f66L0 (a0.keys.length + 1) _ _ _ a1 a0.kind a0.n a0.s a0.keys a0.kids m i) (p := fun j => sEq (atI (t := .str) a0.keys j) a1) (hit := fun i => k [.d (.i .i64) i]) (miss := k [.d (.i .i64) (-1 : Int)])
    (fun m j hj => ?_) (fun m => ?_) (min a0.keys.length a0.kids.length) 0 (a0.keys.length + 1) (by omega) (by omega)) ?_
  · obtain ⟨h1, h0, hw, ht⟩ := idx (show j < a0.keys.length by omega) (by omega)
    have h2 : decide ((j : Int) < (a0.kids.length : Int)) = true := decide_eq_true (by omega)
    simp only [f66L0, h1, h0, h2, hw, ht, h5, Bool.and_self, cond_true]
  · by_cases hle : a0.keys.length ≤ a0.kids.length
    · rw [Nat.min_eq_left hle]
      simp only [f66L0, idxE, cond_false]
    · rw [Nat.min_eq_right (by omega)]
      have h2 : decide ((a0.kids.length : Int) < (a0.keys.length : Int)) = true := decide_eq_true (by omega)
      simp only [f66L0, h2, idxE, cond_false, cond_true]
  · simp only [cond_true]
    show _ = k [.d (.i .i64) (plc _)]
    cases firstN (fun j => sEq (atI (t := .str) a0.keys j) a1) 0 (min a0.keys.length a0.kids.length) <;> rfl

noncomputable def q66 : List Dt → Option (Bool × List Dt)
  | [.d .node a0, .d .str a1] => some (((fun (x : NodeT) (_ : ByteArray) => sm_node x) a0 a1), [.d (.i .i64) (keyAt a0 a1)])
  | _ => none
noncomputable def s66 : Gm.Spec := Gm.Spec.of [.ro, .ro] [false] true q66
theorem good66 : Gm.Good Try.prog (66, s66) := by
  have hl : ∀ x ∈ ([] : List (Nat × Gm.Spec)), Gm.Good Try.prog x := fun _ h => by cases h
  refine ⟨⟨spec_ok (tab_ok.env hl) (tab.natl hl) Try.func66 (by kernel_rfl : Try.f66.body = some f66c) [3] (by kernel_rfl) ?_, _, Try.func66, by kernel_rfl, of_decide_eq_true (by kernel_rfl)⟩, Gm.Spec.of_natl _ _ _ _⟩
  intro ds outs h
  unfold q66 at h
  split at h
  · simp only [Option.some.injEq, Prod.mk.injEq] at h; obtain ⟨hg, h⟩ := h; cases h; exact f66_spec _ _ hg
  · cases h
/-! ### loop.example/g00465/spec.l22Index -/
noncomputable def f43c : Code := (Try.f43.body).getD .skip
def f43k : Nat → Kp := kat [⟨[1, 2], [], [], []⟩, ⟨[1, 2, 8], [], [], []⟩, ⟨[1, 2, 8, 9], [], [], []⟩, ⟨[5], [], [], []⟩, ⟨[4], [], [], []⟩, ⟨[1, 2, 15], [], [], []⟩, ⟨[1, 2, 6], [], [], []⟩, ⟨[1, 2, 6, 21], [], [], []⟩, ⟨[1, 2, 6], [], [], []⟩, ⟨[1, 2, 6, 27], [], [], []⟩, ⟨[4], [], [], []⟩, ⟨[4], [], [], []⟩]
noncomputable def f43e : Env := tab.env [(37, s37), (66, s66)]
noncomputable def f43L0 {R : Type} (n : Nat) (x0 : Int → Option R) (x1 : Int → Bool → Option R) (vs1 : ByteArray) (vb2_0 : Int) (vb2_1 : Int) (vb2_2 : ByteArray) (vb2_3 : List ByteArray) (vb2_4 : List NodeT) : Nat → Int → Option R
  | 0, _ => none
  | m + 1, vs6 =>
    (cond (decide (vs6 < (vb2_4.length : Int)))
      (cond (okI vs6)
        (cond (sEq (digS vs6) vs1)
          (x0 vs6)
          (f43L0 n x0 x1 vs1 vb2_0 vb2_1 vb2_2 vb2_3 vb2_4 m (IntKind.wrap .i64 (vs6 + (1 : Int)))))
        none)
      (x1 vs6 (decide (vs6 < (vb2_4.length : Int)))))
theorem f43L0_b {R : Type} (n : Nat) (k' : Ex → St → Option R) (vs1 : ByteArray) (vs6 : Int) (vb2_0 : Int) (vb2_1 : Int) (vb2_2 : ByteArray) (vb2_3 : List ByteArray) (vb2_4 : List NodeT) : ev f43e f43k n (cAt [1,0,1,0,1,1,1,0,1,0,0] f43c) ⟨[(1, .c (.one (.v (.string vs1)))), (2, .c (.one (.pt 2 0))), (6, .c (.one (.v (.int .i64 vs6))))], [(2, ⟨.node, [.v (.int .i64 vb2_0), .v (.int .i64 vb2_1), .v (.string vb2_2), .ro .str vb2_3, .ro .node vb2_4]⟩)], []⟩ k' =
    (cond (decide (vs6 < (vb2_4.length : Int)))
    (cond (okI vs6)
      (cond (sEq (digS vs6) vs1)
        (k' .ret ⟨[(4, .c (.one (.v (.int .i64 vs6))))], [], []⟩)
        (k' .normal ⟨[(1, .c (.one (.v (.string vs1)))), (2, .c (.one (.pt 2 0))), (6, .c (.one (.v (.int .i64 (IntKind.wrap .i64 (vs6 + (1 : Int)))))))], [(2, ⟨.node, [.v (.int .i64 vb2_0), .v (.int .i64 vb2_1), .v (.string vb2_2), .ro .str vb2_3, .ro .node vb2_4]⟩)], []⟩))
      none)
    (k' (.exit 1) ⟨[(1, .c (.one (.v (.string vs1)))), (2, .c (.one (.pt 2 0))), (6, .c (.one (.v (.int .i64 vs6)))), (21, .c (.one (.v (.bool (decide (vs6 < (vb2_4.length : Int)))))))], [(2, ⟨.node, [.v (.int .i64 vb2_0), .v (.int .i64 vb2_1), .v (.string vb2_2), .ro .str vb2_3, .ro .node vb2_4]⟩)], []⟩)) := by kernel_rfl
theorem f43L0_eq {R : Type} (n : Nat) (k' : Ex → St → Option R) (vs1 : ByteArray) (vb2_0 : Int) (vb2_1 : Int) (vb2_2 : ByteArray) (vb2_3 : List ByteArray) (vb2_4 : List NodeT) : ∀ (m : Nat) (vs6 : Int), iter (fun st k => ev f43e f43k n (cAt [1,0,1,0,1,1,1,0,1,0,0] f43c) st k) m ⟨[(1, .c (.one (.v (.string vs1)))), (2, .c (.one (.pt 2 0))), (6, .c (.one (.v (.int .i64 vs6))))], [(2, ⟨.node, [.v (.int .i64 vb2_0), .v (.int .i64 vb2_1), .v (.string vb2_2), .ro .str vb2_3, .ro .node vb2_4]⟩)], []⟩ k' = f43L0 n (fun (xvs4 : Int) => k' .ret ⟨[(4, .c (.one (.v (.int .i64 xvs4))))], [], []⟩) (fun (xvs6 : Int) (xvs21 : Bool) => k' (.exit 1) ⟨[(1, .c (.one (.v (.string vs1)))), (2, .c (.one (.pt 2 0))), (6, .c (.one (.v (.int .i64 xvs6)))), (21, .c (.one (.v (.bool xvs21))))], [(2, ⟨.node, [.v (.int .i64 vb2_0), .v (.int .i64 vb2_1), .v (.string vb2_2), .ro .str vb2_3, .ro .node vb2_4]⟩)], []⟩) vs1 vb2_0 vb2_1 vb2_2 vb2_3 vb2_4 m vs6 := by
  intro m; induction m with
  | zero => intros; rfl
  | succ m ih =>
    intro vs6
    simp only [iter]
    rw [f43L0_b]
    simp only [ih, f43L0]

noncomputable def f43K0 {R : Type} (n : Nat) (k' : Ex → St → Option R) : Ex → St → Option R := (blockK 1 (blockK 0 (seqK f43e f43k n (cAt [1,1] f43c) k')))
theorem f43K0_x0 {R : Type} (n : Nat) (k : List Dt → Option R) (a0 : NodeT) (a1 : ByteArray) (xvs4 : Int) : f43K0 n (exitK f43e [.ro, .ro] [false] true [.tmp 4] [3] [.d .node a0, .d .str a1] k) .ret ⟨[(4, .c (.one (.v (.int .i64 xvs4))))], [], []⟩ =
    (k [.d (.i .i64) xvs4]) := by kernel_rfl
theorem f43K0_x1 {R : Type} (n : Nat) (k : List Dt → Option R) (a0 : NodeT) (a1 : ByteArray) (vs1 : ByteArray) (vb2_0 : Int) (vb2_1 : Int) (vb2_2 : ByteArray) (vb2_3 : List ByteArray) (vb2_4 : List NodeT) (xvs6 : Int) (xvs21 : Bool) : f43K0 n (exitK f43e [.ro, .ro] [false] true [.tmp 4] [3] [.d .node a0, .d .str a1] k) (.exit 1) ⟨[(1, .c (.one (.v (.string vs1)))), (2, .c (.one (.pt 2 0))), (6, .c (.one (.v (.int .i64 xvs6)))), (21, .c (.one (.v (.bool xvs21))))], [(2, ⟨.node, [.v (.int .i64 vb2_0), .v (.int .i64 vb2_1), .v (.string vb2_2), .ro .str vb2_3, .ro .node vb2_4]⟩)], []⟩ =
    (k [.d (.i .i64) (-1 : Int)]) := by kernel_rfl

theorem f43_run {R : Type} (n : Nat) (k : List Dt → Option R) (a0 : NodeT) (a1 : ByteArray) : evFn f43e f43k n f43c [.ro, .ro] [false] true [.tmp 4] [3] [.d .node a0, .d .str a1] k =
    (cond ((NodeT.kind a0) == (5 : Int))
    (cond ((fun (x : NodeT) (_ : ByteArray) => sm_node x) (eN a0) a1)
      (k [.d (.i .i64) (keyAt (eN a0) a1)])
      none)
    (cond ((NodeT.kind a0) == (4 : Int))
      (f43L0 n (fun (xvs4 : Int) =>
        (k [.d (.i .i64) xvs4])) (fun (xvs6 : Int) (xvs21 : Bool) =>
        (k [.d (.i .i64) (-1 : Int)])) a1 (NodeT.kind a0) (NodeT.n a0) (NodeT.s a0) (NodeT.keys a0) (NodeT.kids a0) n (0 : Int))
      (k [.d (.i .i64) (-1 : Int)]))) := by
  refine Eq.trans (b := (cond ((NodeT.kind a0) == (5 : Int))
    (cond ((fun (x : NodeT) (_ : ByteArray) => sm_node x) (eN a0) a1)
      (k [.d (.i .i64) (keyAt (eN a0) a1)])
      none)
    (cond ((NodeT.kind a0) == (4 : Int))
      (iter (fun st k => ev f43e f43k n (cAt [1,0,1,0,1,1,1,0,1,0,0] f43c) st k) n ⟨[(1, .c (.one (.v (.string a1)))), (2, .c (.one (.pt 2 0))), (6, .c (.one (.v (.int .i64 (0 : Int)))))], [(2, ⟨.node, [.v (.int .i64 (NodeT.kind a0)), .v (.int .i64 (NodeT.n a0)), .v (.string (NodeT.s a0)), .ro .str (NodeT.keys a0), .ro .node (NodeT.kids a0)]⟩)], []⟩ (f43K0 n (exitK f43e [.ro, .ro] [false] true [.tmp 4] [3] [.d .node a0, .d .str a1] k)))
      (k [.d (.i .i64) (-1 : Int)])))) (by kernel_rfl) ?_
  simp only [f43L0_eq, f43K0_x0, f43K0_x1]
theorem f43_spec (a0 : NodeT) (a1 : ByteArray) (hg : sm_node a0 = true) : ∃ keep rounds, ∀ {R : Type} (k : List Dt → Option R), evFn f43e keep rounds f43c [.ro, .ro] [false] true [.tmp 4] [3] [.d .node a0, .d .str a1] k = k [.d (.i .i64) (kidAt a0 a1)] := by
  have hg0 := hg
  rw [sm_node_def] at hg
  simp only [Bool.and_eq_true] at hg
  obtain ⟨_, _, _, hke, hki⟩ := hg
  have nke := smL_len hke
  have nki := smL_len hki
  refine ⟨f43k, a0.kids.length + 1, fun {R} k => ?_⟩
  rw [f43_run]
  show _ = k [.d (.i .i64) (kidAt a0 a1)]
  simp only [eta_node, eN_eq, hg0, cond_true]
  unfold kidAt
  cases h5 : a0.kind == (5 : Int)
  rotate_left
  · rfl
  simp only [cond_false]
  cases h4 : a0.kind == (4 : Int)
  · rfl
  simp only [cond_true]
  refine Eq.trans (loop_find (n := a0.kids.length) (F := fun m i => f43L0 (a0.kids.length + 1) _ _ a1 a0.kind a0.n a0.s a0.keys a0.kids m i) (p := fun j => sEq (digS (j : Int)) a1) (hit := fun i => k [.d (.i .i64) i]) (miss := k [.d (.i .i64) (-1 : Int)])
    (fun m j hj => ?_) (fun m => by simp only [f43L0, idxE, cond_false]) a0.kids.length 0 (a0.kids.length + 1) (by omega) (by omega)) ?_
  · obtain ⟨h1, h0, hw, ht⟩ := idx hj (by omega)
    simp only [f43L0, h1, hw, okI_of (n := (j : Int)) (by omega) (by omega), cond_true]
  · show _ = k [.d (.i .i64) (plc _)]
    cases firstN (fun j => sEq (digS (j : Int)) a1) 0 a0.kids.length <;> rfl

noncomputable def q43 : List Dt → Option (Bool × List Dt)
  | [.d .node a0, .d .str a1] => some (((fun (x : NodeT) (_ : ByteArray) => sm_node x) a0 a1), [.d (.i .i64) (kidAt a0 a1)])
  | _ => none
noncomputable def s43 : Gm.Spec := Gm.Spec.of [.ro, .ro] [false] true q43
theorem good43 : Gm.Good Try.prog (43, s43) := by
  have hl : ∀ x ∈ [(37, s37), (66, s66)], Gm.Good Try.prog x := List.forall_mem_cons.2 ⟨good37, List.forall_mem_cons.2 ⟨good66, List.forall_mem_nil _⟩⟩
  refine ⟨⟨spec_ok (tab_ok.env hl) (tab.natl hl) Try.func43 (by kernel_rfl : Try.f43.body = some f43c) [3] (by kernel_rfl) ?_, _, Try.func43, by kernel_rfl, of_decide_eq_true (by kernel_rfl)⟩, Gm.Spec.of_natl _ _ _ _⟩
  intro ds outs h
  unfold q43 at h
  split at h
  · simp only [Option.some.injEq, Prod.mk.injEq] at h; obtain ⟨hg, h⟩ := h; cases h; exact f43_spec _ _ hg
  · cases h
end Go.Proofs.Ytinbejnakemfjaa

/- x -/
namespace Go.Proofs.Ytinbejnakemfjaa
open Go Go.Gm
/-! ### slices.Clone[[]string,string] -/
noncomputable def f68ac : Code := (Try.f68.body).getD .skip
def f68ak : Nat → Kp := kat [⟨[0], [], [], []⟩, ⟨[0, 4], [], [], []⟩, ⟨[2], [], [], []⟩, ⟨[2], [], [], []⟩]
noncomputable def f68ae : Env := tab.env []
theorem f68a_run {R : Type} (n : Nat) (k : List Dt → Option R) (a0 : List ByteArray) : evFn f68ae f68ak n f68ac [.ro] [false] true [.tmp 2] [22] [.d (.sl .str) a0] k =
    (cond (List.isEmpty a0)
    none
    (cond (Nat.ble (0 + a0.length) LIM)
      (k [.d (.sl .str) (([] : List ByteArray) ++ a0)])
      none)) := by kernel_rfl
theorem f68a_spec (a0 : List ByteArray) (hg : (fun (x : List ByteArray) => !(x.isEmpty) && Nat.ble x.length LIM) a0 = true) : ∃ keep rounds, ∀ {R : Type} (k : List Dt → Option R), evFn f68ae keep rounds f68ac [.ro] [false] true [.tmp 2] [22] [.d (.sl .str) a0] k = k [.d (.sl .str) a0] := by
  simp only [Bool.and_eq_true, Bool.not_eq_true'] at hg
  obtain ⟨h1, h2⟩ := hg
  refine ⟨f68ak, 0, fun {R} k => ?_⟩
  rw [f68a_run, h1, Nat.zero_add, h2]
  simp only [cond_true, cond_false, List.nil_append]

noncomputable def q68a : List Dt → Option (Bool × List Dt)
  | [.d (.sl .str) a0] => some (((fun (x : List ByteArray) => !(x.isEmpty) && Nat.ble x.length LIM) a0), [.d (.sl .str) a0])
  | _ => none
noncomputable def s68a : Gm.Spec := Gm.Spec.of [.ro] [false] true q68a
theorem good68a : Gm.Good Try.prog (68, s68a) := by
  have hl : ∀ x ∈ ([] : List (Nat × Gm.Spec)), Gm.Good Try.prog x := fun _ h => by cases h
  refine ⟨⟨spec_ok (tab_ok.env hl) (tab.natl hl) Try.func68 (by kernel_rfl : Try.f68.body = some f68ac) [22] (by kernel_rfl) ?_, _, Try.func68, by kernel_rfl, of_decide_eq_true (by kernel_rfl)⟩, Gm.Spec.of_natl _ _ _ _⟩
  intro ds outs h
  unfold q68a at h
  split at h
  · simp only [Option.some.injEq, Prod.mk.injEq] at h; obtain ⟨hg, h⟩ := h; cases h; exact f68a_spec _ hg
  · cases h
set_option maxHeartbeats 1000000 in
set_option maxRecDepth 100000 in
theorem clE68 : CloneE Try.prog 68 := by
  intro a c w
  cases a with
  | none =>
    have q22 : ∀ (w : World) (n c n' c' : Nat), (binOp .eql 22 (.slice none n c) (.slice none n' c')).run Try.prog w = .ok (.bool true) w := fun w n c n' c' => Lib.run_eql_slice_nil w _ _ none n c n' c' Try.underlying22
    go_enter Try.func68, Try.ntmps68
    go_wp2
    go_ret
    exact .inl ⟨rfl, rfl⟩
  | some a =>
    have q22 : ∀ (w : World) (n c n' c' : Nat), (binOp .eql 22 (.slice (some a) n c) (.slice none n' c')).run Try.prog w = .ok (.bool false) w := fun w n c n' c' => Lib.run_eql_slice_nil w _ _ (some a) n c n' c' Try.underlying22
    go_enter Try.func68, Try.ntmps68
    go_wp2
    go_ret
    exact .inr ⟨_, rfl, rfl⟩
noncomputable def q68b : List Dt → Option (Bool × List Dt)
  | [.d (.sl .str) []] => some (true, [.d (.sl .str) []])
  | _ => none
noncomputable def q68 : List Dt → Option (Bool × List Dt)
  | [.d (.sl .str) a0] => some (Nat.ble a0.length LIM, [.d (.sl .str) a0])
  | _ => none
noncomputable def s68 : Gm.Spec := Gm.Spec.of [.ro] [false] true q68
theorem good68 : Gm.Good Try.prog (68, s68) := by
  refine ⟨⟨spec_clone (q := q68) (qb := q68b) good68a.1.1 (spec_cloneE (t := .str) clE68 fun ds outs h => ?_) fun ds outs h => ?_, _, Try.func68, by kernel_rfl, of_decide_eq_true (by kernel_rfl)⟩, Gm.Spec.of_natl _ _ _ _⟩
  · unfold q68b at h
    split at h
    · simp only [Option.some.injEq, Prod.mk.injEq, true_and] at h
      exact ⟨rfl, h.symm⟩
    · cases h
  · unfold q68 at h
    split at h
    · rename_i a0
      simp only [Option.some.injEq, Prod.mk.injEq] at h
      obtain ⟨hg, rfl⟩ := h
      cases a0 with
      | nil => exact .inr rfl
      | cons x r => refine .inl ?_; simp only [q68a, List.isEmpty_cons, Bool.not_false, Bool.true_and, hg]
    · cases h
noncomputable def q46 : List Dt → Option (Bool × List Dt)
  | [.d .node a0] => some ((sm_node a0), [.d .node a0])
  | _ => none
noncomputable def mu46 : List Dt → Nat
  | [.d .node a0] => nd_node a0
  | _ => 0
noncomputable def s46r (N : Nat) : Gm.Spec := Gm.Spec.of [.ro] [false] true (qlt mu46 N q46)
/-! ### loop.example/g00465/impl.copyTree -/
noncomputable def f46c : Code := (Try.f46.body).getD .skip
def f46k : Nat → Kp := kat [⟨[1, 2], [], [], []⟩, ⟨[1, 2], [], [], []⟩, ⟨[1, 2, 3], [], [], []⟩, ⟨[1, 2, 3, 12, 13, 14], [], [], []⟩, ⟨[1, 2, 3, 12, 13, 14, 15], [], [], []⟩, ⟨[1, 2, 3, 5, 12, 13, 14], [], [], []⟩, ⟨[1, 2, 3, 12, 13, 14], [], [], []⟩, ⟨[1, 2, 3, 12, 13, 14], [], [], []⟩, ⟨[1, 2], [], [], []⟩, ⟨[2], [], [], []⟩]
noncomputable def f46e (N : Nat) : Env := tab.env [(46, s46r N), (68, s68)]
noncomputable def f46L0 {R : Type} (N : Nat) (n : Nat) (x0 : Int → Bool → (List NodeT) → Option R) (vs12 : List NodeT) (vs13 : Int) (vb1_0 : Int) (vb1_1 : Int) (vb1_2 : ByteArray) (vb1_4 : List NodeT) (vr512 : List ByteArray) : Nat → Int → (List NodeT) → Option R
  | 0, _, _ => none
  | m + 1, vs14, vr640 =>
    (cond (decide (vs14 < vs13))
      (cond ((decide ((0 : Int) ≤ vs14)) && (decide (vs14 < (vs12.length : Int))))
        (cond ((sm_node (eN (atI (t := .node) vs12 (Int.toNat vs14)))) && (Nat.blt (nd_node (eN (atI (t := .node) vs12 (Int.toNat vs14)))) N))
          (cond (Nat.ble (vr640.length + 1) LIM)
            (f46L0 N n x0 vs12 vs13 vb1_0 vb1_1 vb1_2 vb1_4 vr512 m (IntKind.wrap .i64 (vs14 + (1 : Int))) (vr640 ++ ([(eN (atI (t := .node) vs12 (Int.toNat vs14)))] : List NodeT)))
            none)
          none)
        none)
      (x0 vs14 (decide (vs14 < vs13)) vr640))
theorem f46L0_b {R : Type} (N : Nat) (n : Nat) (k' : Ex → St → Option R) (vs12 : List NodeT) (vs13 : Int) (vs14 : Int) (vb1_0 : Int) (vb1_1 : Int) (vb1_2 : ByteArray) (vb1_4 : List NodeT) (vr512 : List ByteArray) (vr640 : List NodeT) : ev (f46e N) f46k n (cAt [1,1,1,0,1,0,0] f46c) ⟨[(1, .c (.one (.pt 1 0))), (2, .c (.one (.pt 2 0))), (3, .c (.one (.h 640 0 0 []))), (12, .c (.one (.ro .node vs12))), (13, .c (.one (.v (.int .i64 vs13)))), (14, .c (.one (.v (.int .i64 vs14))))], [(1, ⟨.node, [.v (.int .i64 vb1_0), .v (.int .i64 vb1_1), .v (.string vb1_2), .h 512 0 0 [], .ro .node vb1_4]⟩), (2, ⟨.node, [.v (.int .i64 (0 : Int)), .v (.int .i64 (0 : Int)), .v (.string ByteArray.empty), .nl, .nl]⟩)], [(512, .live ⟨.str, .deep, 0, [], vr512⟩), (640, .live ⟨.node, .deep, 0, [], vr640⟩)]⟩ k' =
    (cond (decide (vs14 < vs13))
    (cond ((decide ((0 : Int) ≤ vs14)) && (decide (vs14 < (vs12.length : Int))))
      (cond ((sm_node (eN (atI (t := .node) vs12 (Int.toNat vs14)))) && (Nat.blt (nd_node (eN (atI (t := .node) vs12 (Int.toNat vs14)))) N))
        (cond (Nat.ble (vr640.length + 1) LIM)
          (k' .normal ⟨[(1, .c (.one (.pt 1 0))), (2, .c (.one (.pt 2 0))), (3, .c (.one (.h 640 0 0 []))), (12, .c (.one (.ro .node vs12))), (13, .c (.one (.v (.int .i64 vs13)))), (14, .c (.one (.v (.int .i64 (IntKind.wrap .i64 (vs14 + (1 : Int)))))))], [(1, ⟨.node, [.v (.int .i64 vb1_0), .v (.int .i64 vb1_1), .v (.string vb1_2), .h 512 0 0 [], .ro .node vb1_4]⟩), (2, ⟨.node, [.v (.int .i64 (0 : Int)), .v (.int .i64 (0 : Int)), .v (.string ByteArray.empty), .nl, .nl]⟩)], [(512, .live ⟨.str, .deep, 0, [], vr512⟩), (640, .live ⟨.node, .deep, 0, [], (vr640 ++ ([(eN (atI (t := .node) vs12 (Int.toNat vs14)))] : List NodeT))⟩)]⟩)
          none)
        none)
      none)
    (k' (.exit 0) ⟨[(1, .c (.one (.pt 1 0))), (2, .c (.one (.pt 2 0))), (3, .c (.one (.h 640 0 0 []))), (12, .c (.one (.ro .node vs12))), (13, .c (.one (.v (.int .i64 vs13)))), (14, .c (.one (.v (.int .i64 vs14)))), (15, .c (.one (.v (.bool (decide (vs14 < vs13))))))], [(1, ⟨.node, [.v (.int .i64 vb1_0), .v (.int .i64 vb1_1), .v (.string vb1_2), .h 512 0 0 [], .ro .node vb1_4]⟩), (2, ⟨.node, [.v (.int .i64 (0 : Int)), .v (.int .i64 (0 : Int)), .v (.string ByteArray.empty), .nl, .nl]⟩)], [(512, .live ⟨.str, .deep, 0, [], vr512⟩), (640, .live ⟨.node, .deep, 0, [], vr640⟩)]⟩)) := by kernel_rfl
theorem f46L0_eq {R : Type} (N : Nat) (n : Nat) (k' : Ex → St → Option R) (vs12 : List NodeT) (vs13 : Int) (vb1_0 : Int) (vb1_1 : Int) (vb1_2 : ByteArray) (vb1_4 : List NodeT) (vr512 : List ByteArray) : ∀ (m : Nat) (vs14 : Int) (vr640 : List NodeT), iter (fun st k => ev (f46e N) f46k n (cAt [1,1,1,0,1,0,0] f46c) st k) m ⟨[(1, .c (.one (.pt 1 0))), (2, .c (.one (.pt 2 0))), (3, .c (.one (.h 640 0 0 []))), (12, .c (.one (.ro .node vs12))), (13, .c (.one (.v (.int .i64 vs13)))), (14, .c (.one (.v (.int .i64 vs14))))], [(1, ⟨.node, [.v (.int .i64 vb1_0), .v (.int .i64 vb1_1), .v (.string vb1_2), .h 512 0 0 [], .ro .node vb1_4]⟩), (2, ⟨.node, [.v (.int .i64 (0 : Int)), .v (.int .i64 (0 : Int)), .v (.string ByteArray.empty), .nl, .nl]⟩)], [(512, .live ⟨.str, .deep, 0, [], vr512⟩), (640, .live ⟨.node, .deep, 0, [], vr640⟩)]⟩ k' = f46L0 N n (fun (xvs14 : Int) (xvs15 : Bool) (xvr640 : List NodeT) => k' (.exit 0) ⟨[(1, .c (.one (.pt 1 0))), (2, .c (.one (.pt 2 0))), (3, .c (.one (.h 640 0 0 []))), (12, .c (.one (.ro .node vs12))), (13, .c (.one (.v (.int .i64 vs13)))), (14, .c (.one (.v (.int .i64 xvs14)))), (15, .c (.one (.v (.bool xvs15))))], [(1, ⟨.node, [.v (.int .i64 vb1_0), .v (.int .i64 vb1_1), .v (.string vb1_2), .h 512 0 0 [], .ro .node vb1_4]⟩), (2, ⟨.node, [.v (.int .i64 (0 : Int)), .v (.int .i64 (0 : Int)), .v (.string ByteArray.empty), .nl, .nl]⟩)], [(512, .live ⟨.str, .deep, 0, [], vr512⟩), (640, .live ⟨.node, .deep, 0, [], xvr640⟩)]⟩) vs12 vs13 vb1_0 vb1_1 vb1_2 vb1_4 vr512 m vs14 vr640 := by
  intro m; induction m with
  | zero => intros; rfl
  | succ m ih =>
    intro vs14 vr640
    simp only [iter]
    rw [f46L0_b]
    simp only [ih, f46L0]

noncomputable def f46K0 {R : Type} (N : Nat) (n : Nat) (k' : Ex → St → Option R) : Ex → St → Option R := (blockK 0 (seqK (f46e N) f46k n (cAt [1,1,1,1] f46c) k'))
theorem f46K0_x0 {R : Type} (N : Nat) (n : Nat) (k : List Dt → Option R) (a0 : NodeT) (vs12 : List NodeT) (vs13 : Int) (vb1_0 : Int) (vb1_1 : Int) (vb1_2 : ByteArray) (vb1_4 : List NodeT) (vr512 : List ByteArray) (xvs14 : Int) (xvs15 : Bool) (xvr640 : List NodeT) : f46K0 N n (exitK (f46e N) [.ro] [false] true [.cell 2 31] [31] [.d .node a0] k) (.exit 0) ⟨[(1, .c (.one (.pt 1 0))), (2, .c (.one (.pt 2 0))), (3, .c (.one (.h 640 0 0 []))), (12, .c (.one (.ro .node vs12))), (13, .c (.one (.v (.int .i64 vs13)))), (14, .c (.one (.v (.int .i64 xvs14)))), (15, .c (.one (.v (.bool xvs15))))], [(1, ⟨.node, [.v (.int .i64 vb1_0), .v (.int .i64 vb1_1), .v (.string vb1_2), .h 512 0 0 [], .ro .node vb1_4]⟩), (2, ⟨.node, [.v (.int .i64 (0 : Int)), .v (.int .i64 (0 : Int)), .v (.string ByteArray.empty), .nl, .nl]⟩)], [(512, .live ⟨.str, .deep, 0, [], vr512⟩), (640, .live ⟨.node, .deep, 0, [], xvr640⟩)]⟩ =
    (k [.d .node (⟨vb1_0, vb1_1, vb1_2, vr512, xvr640⟩ : NodeT)]) := by kernel_rfl

theorem f46_run {R : Type} (N : Nat) (n : Nat) (k : List Dt → Option R) (a0 : NodeT) : evFn (f46e N) f46k n f46c [.ro] [false] true [.cell 2 31] [31] [.d .node a0] k =
    (cond ((fun (x : List ByteArray) => Nat.ble x.length LIM) (NodeT.keys a0))
    (f46L0 N n (fun (xvs14 : Int) (xvs15 : Bool) (xvr640 : List NodeT) =>
      (k [.d .node (⟨(NodeT.kind a0), (NodeT.n a0), (NodeT.s a0), (NodeT.keys a0), xvr640⟩ : NodeT)])) (NodeT.kids a0) ((NodeT.kids a0).length : Int) (NodeT.kind a0) (NodeT.n a0) (NodeT.s a0) (NodeT.kids a0) (NodeT.keys a0) n (0 : Int) ([] : List NodeT))
    none) := by
  refine Eq.trans (b := (cond ((fun (x : List ByteArray) => Nat.ble x.length LIM) (NodeT.keys a0))
    (iter (fun st k => ev (f46e N) f46k n (cAt [1,1,1,0,1,0,0] f46c) st k) n ⟨[(1, .c (.one (.pt 1 0))), (2, .c (.one (.pt 2 0))), (3, .c (.one (.h 640 0 0 []))), (12, .c (.one (.ro .node (NodeT.kids a0)))), (13, .c (.one (.v (.int .i64 ((NodeT.kids a0).length : Int))))), (14, .c (.one (.v (.int .i64 (0 : Int)))))], [(1, ⟨.node, [.v (.int .i64 (NodeT.kind a0)), .v (.int .i64 (NodeT.n a0)), .v (.string (NodeT.s a0)), .h 512 0 0 [], .ro .node (NodeT.kids a0)]⟩), (2, ⟨.node, [.v (.int .i64 (0 : Int)), .v (.int .i64 (0 : Int)), .v (.string ByteArray.empty), .nl, .nl]⟩)], [(512, .live ⟨.str, .deep, 0, [], (NodeT.keys a0)⟩), (640, .live ⟨.node, .deep, 0, [], ([] : List NodeT)⟩)]⟩ (f46K0 N n (exitK (f46e N) [.ro] [false] true [.cell 2 31] [31] [.d .node a0] k)))
    none)) (by kernel_rfl) ?_
  simp only [f46L0_eq, f46K0_x0]
theorem f46_spec (N : Nat) (a0 : NodeT) (hg : sm_node a0 = true) (hm : mu46 [.d .node a0] = N) : ∃ keep rounds, ∀ {R : Type} (k : List Dt → Option R), evFn (f46e N) keep rounds f46c [.ro] [false] true [.cell 2 31] [31] [.d .node a0] k = k [.d .node a0] := by
  have hm : nd_node a0 = N := hm
  subst hm
  have hg0 := hg
  rw [sm_node_def] at hg
  simp only [Bool.and_eq_true] at hg
  obtain ⟨_, _, _, hke, hki⟩ := hg
  have nke := smL_len hke
  have nki := smL_len hki
  refine ⟨f46k, a0.kids.length + 1, fun {R} k => ?_⟩
  rw [f46_run]
  simp only [Nat.zero_add, limLe nke, cond_true, List.nil_append]
  refine Eq.trans (loop_acc (xs := a0.kids) (F := fun m j out => f46L0 (nd_node a0) (a0.kids.length + 1) _ a0.kids (a0.kids.length : Int) a0.kind a0.n a0.s a0.kids a0.keys m (j : Int) out) (f := fun out x => out ++ [x]) (good := fun out => k [.d .node ⟨a0.kind, a0.n, a0.s, a0.keys, out⟩]) (fun j out => out.length ≤ j)
    (fun j out x hx hi => by simp only [List.length_append, List.length_cons, List.length_nil]; omega) (fun m j out x hx hi => ?_) (fun m out hi => by simp only [f46L0, idxE, cond_false]) a0.kids.length 0 (a0.kids.length + 1) [] (by omega) (by omega) (by simp)) ?_
  · obtain ⟨h1, h0, hw, ht⟩ := idx (lt_of_get hx) (by omega)
    have hj := lt_of_get hx
    have hs := List.all_eq_true.1 (smL_all hki) x (List.mem_of_getElem? hx)
    have hlim : Nat.ble (out.length + 1) LIM = true := Nat.ble_eq_true_of_le (by have : (LIM : Nat) = 4294967296 := rfl; omega)
    have hb : Nat.blt (nd_node x) (nd_node a0) = true := by
      have := nd_node_kid (x := a0) (List.mem_of_getElem? hx)
      rw [Nat.blt_eq]; exact this
    simp only [f46L0, h1, h0, hw, ht, atI_of (t := .node) hx, Bool.and_self, cond_true, hlim, eta_node, eN_eq, hs, hb]
  · rw [List.drop_zero, foldl_snoc, List.nil_append, eta_node]

noncomputable def s46 : Gm.Spec := Gm.Spec.of [.ro] [false] true q46
theorem good46 : Gm.Good Try.prog (46, s46) := by
  refine ⟨⟨spec_rec mu46 fun N hr => ?_, _, Try.func46, by kernel_rfl, of_decide_eq_true (by kernel_rfl)⟩, Gm.Spec.of_natl _ _ _ _⟩
  have hl : ∀ x ∈ [(46, s46r N), (68, s68)], Gm.Good Try.prog x := List.forall_mem_cons.2 ⟨⟨⟨hr, _, Try.func46, by kernel_rfl, of_decide_eq_true (by kernel_rfl)⟩, Gm.Spec.of_natl _ _ _ _⟩, List.forall_mem_cons.2 ⟨good68, List.forall_mem_nil _⟩⟩
  intro R
  refine spec_ok (E := f46e N) (tab_ok.env hl) (tab.natl hl) Try.func46 (by kernel_rfl : Try.f46.body = some f46c) [31] (by kernel_rfl) ?_
  intro ds outs h
  obtain ⟨h, hm⟩ := qeq_some h
  unfold q46 at h
  split at h
  · simp only [Option.some.injEq, Prod.mk.injEq] at h; obtain ⟨hg, h⟩ := h; cases h; exact f46_spec N _ hg hm
  · cases h
noncomputable def q44 : List Dt → Option (Bool × List Dt)
  | [.d .node a0] => some ((sm_node a0), [.d .node a0])
  | _ => none
noncomputable def mu44 : List Dt → Nat
  | [.d .node a0] => nd_node a0
  | _ => 0
noncomputable def s44r (N : Nat) : Gm.Spec := Gm.Spec.of [.ro] [false] true (qlt mu44 N q44)
/-! ### loop.example/g00465/spec.l3Copy -/
noncomputable def f44c : Code := (Try.f44.body).getD .skip
def f44k : Nat → Kp := kat [⟨[1, 2], [], [], []⟩, ⟨[1, 2, 3], [], [], []⟩, ⟨[1, 2, 3, 4], [⟨true, false, 3, 4, .node⟩], [], []⟩, ⟨[1, 2, 3, 4, 20], [], [], []⟩, ⟨[1, 2, 3, 4], [], [], []⟩, ⟨[1, 2, 3, 4], [], [], []⟩, ⟨[2], [], [], []⟩]
noncomputable def f44e (N : Nat) : Env := tab.env [(44, s44r N)]
noncomputable def f44L0 {R : Type} (N : Nat) (n : Nat) (x0 : Int → Bool → (List NodeT) → Option R) (vb1_0 : Int) (vb1_1 : Int) (vb1_2 : ByteArray) (vb1_3 : List ByteArray) (vb1_4 : List NodeT) (vb3_0 : Int) (vb3_1 : Int) (vb3_2 : ByteArray) (vr704 : List ByteArray) : Nat → Int → (List NodeT) → Option R
  | 0, _, _ => none
  | m + 1, vs4, vr196 =>
    (cond (decide (vs4 < (vb1_4.length : Int)))
      (cond ((decide ((0 : Int) ≤ vs4)) && (decide (vs4 < (vb1_4.length : Int))))
        (cond ((sm_node (eN (atI (t := .node) vb1_4 (Int.toNat vs4)))) && (Nat.blt (nd_node (eN (atI (t := .node) vb1_4 (Int.toNat vs4)))) N))
          (cond (Nat.ble (vr196.length + 1) LIM)
            (f44L0 N n x0 vb1_0 vb1_1 vb1_2 vb1_3 vb1_4 vb3_0 vb3_1 vb3_2 vr704 m (IntKind.wrap .i64 (vs4 + (1 : Int))) (vr196 ++ ([(eN (atI (t := .node) vb1_4 (Int.toNat vs4)))] : List NodeT)))
            none)
          none)
        none)
      (x0 vs4 (decide (vs4 < (vb1_4.length : Int))) vr196))
theorem f44L0_b {R : Type} (N : Nat) (n : Nat) (k' : Ex → St → Option R) (vs4 : Int) (vb1_0 : Int) (vb1_1 : Int) (vb1_2 : ByteArray) (vb1_3 : List ByteArray) (vb1_4 : List NodeT) (vb3_0 : Int) (vb3_1 : Int) (vb3_2 : ByteArray) (vr196 : List NodeT) (vr704 : List ByteArray) : ev (f44e N) f44k n (cAt [1,1,0,1,0,0] f44c) ⟨[(1, .c (.one (.pt 1 0))), (2, .c (.one (.pt 2 0))), (3, .c (.one (.pt 3 0))), (4, .c (.one (.v (.int .i64 vs4))))], [(1, ⟨.node, [.v (.int .i64 vb1_0), .v (.int .i64 vb1_1), .v (.string vb1_2), .ro .str vb1_3, .ro .node vb1_4]⟩), (2, ⟨.node, [.v (.int .i64 (0 : Int)), .v (.int .i64 (0 : Int)), .v (.string ByteArray.empty), .nl, .nl]⟩), (3, ⟨.node, [.v (.int .i64 vb3_0), .v (.int .i64 vb3_1), .v (.string vb3_2), .h 704 0 0 [], .h 196 0 0 []]⟩)], [(196, .live ⟨.node, .deep, 0, [], vr196⟩), (704, .live ⟨.str, .deep, 0, [], vr704⟩)]⟩ k' =
    (cond (decide (vs4 < (vb1_4.length : Int)))
    (cond ((decide ((0 : Int) ≤ vs4)) && (decide (vs4 < (vb1_4.length : Int))))
      (cond ((sm_node (eN (atI (t := .node) vb1_4 (Int.toNat vs4)))) && (Nat.blt (nd_node (eN (atI (t := .node) vb1_4 (Int.toNat vs4)))) N))
        (cond (Nat.ble (vr196.length + 1) LIM)
          (k' .normal ⟨[(1, .c (.one (.pt 1 0))), (2, .c (.one (.pt 2 0))), (3, .c (.one (.pt 3 0))), (4, .c (.one (.v (.int .i64 (IntKind.wrap .i64 (vs4 + (1 : Int)))))))], [(1, ⟨.node, [.v (.int .i64 vb1_0), .v (.int .i64 vb1_1), .v (.string vb1_2), .ro .str vb1_3, .ro .node vb1_4]⟩), (2, ⟨.node, [.v (.int .i64 (0 : Int)), .v (.int .i64 (0 : Int)), .v (.string ByteArray.empty), .nl, .nl]⟩), (3, ⟨.node, [.v (.int .i64 vb3_0), .v (.int .i64 vb3_1), .v (.string vb3_2), .h 704 0 0 [], .h 196 0 0 []]⟩)], [(196, .live ⟨.node, .deep, 0, [], (vr196 ++ ([(eN (atI (t := .node) vb1_4 (Int.toNat vs4)))] : List NodeT))⟩), (704, .live ⟨.str, .deep, 0, [], vr704⟩)]⟩)
          none)
        none)
      none)
    (k' (.exit 0) ⟨[(1, .c (.one (.pt 1 0))), (2, .c (.one (.pt 2 0))), (3, .c (.one (.pt 3 0))), (4, .c (.one (.v (.int .i64 vs4)))), (20, .c (.one (.v (.bool (decide (vs4 < (vb1_4.length : Int)))))))], [(1, ⟨.node, [.v (.int .i64 vb1_0), .v (.int .i64 vb1_1), .v (.string vb1_2), .ro .str vb1_3, .ro .node vb1_4]⟩), (2, ⟨.node, [.v (.int .i64 (0 : Int)), .v (.int .i64 (0 : Int)), .v (.string ByteArray.empty), .nl, .nl]⟩), (3, ⟨.node, [.v (.int .i64 vb3_0), .v (.int .i64 vb3_1), .v (.string vb3_2), .h 704 0 0 [], .h 196 0 0 []]⟩)], [(196, .live ⟨.node, .deep, 0, [], vr196⟩), (704, .live ⟨.str, .deep, 0, [], vr704⟩)]⟩)) := by kernel_rfl
theorem f44L0_eq {R : Type} (N : Nat) (n : Nat) (k' : Ex → St → Option R) (vb1_0 : Int) (vb1_1 : Int) (vb1_2 : ByteArray) (vb1_3 : List ByteArray) (vb1_4 : List NodeT) (vb3_0 : Int) (vb3_1 : Int) (vb3_2 : ByteArray) (vr704 : List ByteArray) : ∀ (m : Nat) (vs4 : Int) (vr196 : List NodeT), iter (fun st k => ev (f44e N) f44k n (cAt [1,1,0,1,0,0] f44c) st k) m ⟨[(1, .c (.one (.pt 1 0))), (2, .c (.one (.pt 2 0))), (3, .c (.one (.pt 3 0))), (4, .c (.one (.v (.int .i64 vs4))))], [(1, ⟨.node, [.v (.int .i64 vb1_0), .v (.int .i64 vb1_1), .v (.string vb1_2), .ro .str vb1_3, .ro .node vb1_4]⟩), (2, ⟨.node, [.v (.int .i64 (0 : Int)), .v (.int .i64 (0 : Int)), .v (.string ByteArray.empty), .nl, .nl]⟩), (3, ⟨.node, [.v (.int .i64 vb3_0), .v (.int .i64 vb3_1), .v (.string vb3_2), .h 704 0 0 [], .h 196 0 0 []]⟩)], [(196, .live ⟨.node, .deep, 0, [], vr196⟩), (704, .live ⟨.str, .deep, 0, [], vr704⟩)]⟩ k' = f44L0 N n (fun (xvs4 : Int) (xvs20 : Bool) (xvr196 : List NodeT) => k' (.exit 0) ⟨[(1, .c (.one (.pt 1 0))), (2, .c (.one (.pt 2 0))), (3, .c (.one (.pt 3 0))), (4, .c (.one (.v (.int .i64 xvs4)))), (20, .c (.one (.v (.bool xvs20))))], [(1, ⟨.node, [.v (.int .i64 vb1_0), .v (.int .i64 vb1_1), .v (.string vb1_2), .ro .str vb1_3, .ro .node vb1_4]⟩), (2, ⟨.node, [.v (.int .i64 (0 : Int)), .v (.int .i64 (0 : Int)), .v (.string ByteArray.empty), .nl, .nl]⟩), (3, ⟨.node, [.v (.int .i64 vb3_0), .v (.int .i64 vb3_1), .v (.string vb3_2), .h 704 0 0 [], .h 196 0 0 []]⟩)], [(196, .live ⟨.node, .deep, 0, [], xvr196⟩), (704, .live ⟨.str, .deep, 0, [], vr704⟩)]⟩) vb1_0 vb1_1 vb1_2 vb1_3 vb1_4 vb3_0 vb3_1 vb3_2 vr704 m vs4 vr196 := by
  intro m; induction m with
  | zero => intros; rfl
  | succ m ih =>
    intro vs4 vr196
    simp only [iter]
    rw [f44L0_b]
    simp only [ih, f44L0]

noncomputable def f44K0 {R : Type} (N : Nat) (n : Nat) (k' : Ex → St → Option R) : Ex → St → Option R := (blockK 0 (seqK (f44e N) f44k n (cAt [1,1,1] f44c) k'))
theorem f44K0_x0 {R : Type} (N : Nat) (n : Nat) (k : List Dt → Option R) (a0 : NodeT) (vb1_0 : Int) (vb1_1 : Int) (vb1_2 : ByteArray) (vb1_3 : List ByteArray) (vb1_4 : List NodeT) (vb3_0 : Int) (vb3_1 : Int) (vb3_2 : ByteArray) (vr704 : List ByteArray) (xvs4 : Int) (xvs20 : Bool) (xvr196 : List NodeT) : f44K0 N n (exitK (f44e N) [.ro] [false] true [.cell 2 31] [31] [.d .node a0] k) (.exit 0) ⟨[(1, .c (.one (.pt 1 0))), (2, .c (.one (.pt 2 0))), (3, .c (.one (.pt 3 0))), (4, .c (.one (.v (.int .i64 xvs4)))), (20, .c (.one (.v (.bool xvs20))))], [(1, ⟨.node, [.v (.int .i64 vb1_0), .v (.int .i64 vb1_1), .v (.string vb1_2), .ro .str vb1_3, .ro .node vb1_4]⟩), (2, ⟨.node, [.v (.int .i64 (0 : Int)), .v (.int .i64 (0 : Int)), .v (.string ByteArray.empty), .nl, .nl]⟩), (3, ⟨.node, [.v (.int .i64 vb3_0), .v (.int .i64 vb3_1), .v (.string vb3_2), .h 704 0 0 [], .h 196 0 0 []]⟩)], [(196, .live ⟨.node, .deep, 0, [], xvr196⟩), (704, .live ⟨.str, .deep, 0, [], vr704⟩)]⟩ =
    (k [.d .node (⟨vb3_0, vb3_1, vb3_2, vr704, xvr196⟩ : NodeT)]) := by kernel_rfl

theorem f44_run {R : Type} (N : Nat) (n : Nat) (k : List Dt → Option R) (a0 : NodeT) : evFn (f44e N) f44k n f44c [.ro] [false] true [.cell 2 31] [31] [.d .node a0] k =
    (cond (Nat.ble (0 + (NodeT.keys a0).length) LIM)
    (f44L0 N n (fun (xvs4 : Int) (xvs20 : Bool) (xvr196 : List NodeT) =>
      (k [.d .node (⟨(NodeT.kind a0), (NodeT.n a0), (NodeT.s a0), (([] : List ByteArray) ++ (NodeT.keys a0)), xvr196⟩ : NodeT)])) (NodeT.kind a0) (NodeT.n a0) (NodeT.s a0) (NodeT.keys a0) (NodeT.kids a0) (NodeT.kind a0) (NodeT.n a0) (NodeT.s a0) (([] : List ByteArray) ++ (NodeT.keys a0)) n (0 : Int) ([] : List NodeT))
    none) := by
  refine Eq.trans (b := (cond (Nat.ble (0 + (NodeT.keys a0).length) LIM)
    (iter (fun st k => ev (f44e N) f44k n (cAt [1,1,0,1,0,0] f44c) st k) n ⟨[(1, .c (.one (.pt 1 0))), (2, .c (.one (.pt 2 0))), (3, .c (.one (.pt 3 0))), (4, .c (.one (.v (.int .i64 (0 : Int)))))], [(1, ⟨.node, [.v (.int .i64 (NodeT.kind a0)), .v (.int .i64 (NodeT.n a0)), .v (.string (NodeT.s a0)), .ro .str (NodeT.keys a0), .ro .node (NodeT.kids a0)]⟩), (2, ⟨.node, [.v (.int .i64 (0 : Int)), .v (.int .i64 (0 : Int)), .v (.string ByteArray.empty), .nl, .nl]⟩), (3, ⟨.node, [.v (.int .i64 (NodeT.kind a0)), .v (.int .i64 (NodeT.n a0)), .v (.string (NodeT.s a0)), .h 704 0 0 [], .h 196 0 0 []]⟩)], [(196, .live ⟨.node, .deep, 0, [], ([] : List NodeT)⟩), (704, .live ⟨.str, .deep, 0, [], (([] : List ByteArray) ++ (NodeT.keys a0))⟩)]⟩ (f44K0 N n (exitK (f44e N) [.ro] [false] true [.cell 2 31] [31] [.d .node a0] k)))
    none)) (by kernel_rfl) ?_
  simp only [f44L0_eq, f44K0_x0]
theorem f44_spec (N : Nat) (a0 : NodeT) (hg : sm_node a0 = true) (hm : mu44 [.d .node a0] = N) : ∃ keep rounds, ∀ {R : Type} (k : List Dt → Option R), evFn (f44e N) keep rounds f44c [.ro] [false] true [.cell 2 31] [31] [.d .node a0] k = k [.d .node a0] := by
  have hm : nd_node a0 = N := hm
  subst hm
  have hg0 := hg
  rw [sm_node_def] at hg
  simp only [Bool.and_eq_true] at hg
  obtain ⟨_, _, _, hke, hki⟩ := hg
  have nke := smL_len hke
  have nki := smL_len hki
  refine ⟨f44k, a0.kids.length + 1, fun {R} k => ?_⟩
  rw [f44_run]
  simp only [Nat.zero_add, limLe nke, cond_true, List.nil_append]
  refine Eq.trans (loop_acc (xs := a0.kids) (F := fun m j out => f44L0 (nd_node a0) (a0.kids.length + 1) _ a0.kind a0.n a0.s a0.keys a0.kids a0.kind a0.n a0.s a0.keys m (j : Int) out) (f := fun out x => out ++ [x]) (good := fun out => k [.d .node ⟨a0.kind, a0.n, a0.s, a0.keys, out⟩]) (fun j out => out.length ≤ j)
    (fun j out x hx hi => by simp only [List.length_append, List.length_cons, List.length_nil]; omega) (fun m j out x hx hi => ?_) (fun m out hi => by simp only [f44L0, idxE, cond_false]) a0.kids.length 0 (a0.kids.length + 1) [] (by omega) (by omega) (by simp)) ?_
  · obtain ⟨h1, h0, hw, ht⟩ := idx (lt_of_get hx) (by omega)
    have hj := lt_of_get hx
    have hs := List.all_eq_true.1 (smL_all hki) x (List.mem_of_getElem? hx)
    have hlim : Nat.ble (out.length + 1) LIM = true := Nat.ble_eq_true_of_le (by have : (LIM : Nat) = 4294967296 := rfl; omega)
    have hb : Nat.blt (nd_node x) (nd_node a0) = true := by
      have := nd_node_kid (x := a0) (List.mem_of_getElem? hx)
      rw [Nat.blt_eq]; exact this
    simp only [f44L0, h1, h0, hw, ht, atI_of (t := .node) hx, Bool.and_self, cond_true, hlim, eta_node, eN_eq, hs, hb]
  · rw [List.drop_zero, foldl_snoc, List.nil_append, eta_node]

noncomputable def s44 : Gm.Spec := Gm.Spec.of [.ro] [false] true q44
theorem good44 : Gm.Good Try.prog (44, s44) := by
  refine ⟨⟨spec_rec mu44 fun N hr => ?_, _, Try.func44, by kernel_rfl, of_decide_eq_true (by kernel_rfl)⟩, Gm.Spec.of_natl _ _ _ _⟩
  have hl : ∀ x ∈ [(44, s44r N)], Gm.Good Try.prog x := List.forall_mem_cons.2 ⟨⟨⟨hr, _, Try.func44, by kernel_rfl, of_decide_eq_true (by kernel_rfl)⟩, Gm.Spec.of_natl _ _ _ _⟩, List.forall_mem_nil _⟩
  intro R
  refine spec_ok (E := f44e N) (tab_ok.env hl) (tab.natl hl) Try.func44 (by kernel_rfl : Try.f44.body = some f44c) [31] (by kernel_rfl) ?_
  intro ds outs h
  obtain ⟨h, hm⟩ := qeq_some h
  unfold q44 at h
  split at h
  · simp only [Option.some.injEq, Prod.mk.injEq] at h; obtain ⟨hg, h⟩ := h; cases h; exact f44_spec N _ hg hm
  · cases h
end Go.Proofs.Ytinbejnakemfjaa

/- x -/
namespace Go.Proofs.Ytinbejnakemfjaa
open Go Go.Gm
open Go.RowKit in
set_option maxHeartbeats 4000000 in
set_option maxRecDepth 1000000 in
theorem delE70 : DelE Try.prog 70 1 := by
  refine ⟨fun a n cap i w hi hn => ?_, fun b o n cap i j cs el w hij hj hn hb hs h1 => ?_⟩
  · have hic : i ≤ cap := by omega
    go_enter Try.func70, Try.ntmps70
    go_wp2
    all_goals (go_ret; exact ⟨rfl, rfl⟩)
  · obtain ⟨eT, ii, news, W1, W2, hu, hi, hsz, hlen, hone, hsrc, hfit, hW1, hclr, hend⟩ := del_pack (E := tab.env []) (tab_ok.env (fun _ h => by simp at h)) (T := 22) (e := .str) rfl (sz := 1) rfl hij hj hn hb hs h1
    obtain ⟨A, hA, hsrc2⟩ : ∃ A : Addr, (if cap = j then (some ⟨b, o, none⟩ : Option Addr) else some ⟨b, o + j, none⟩) = some A ∧ Hid (∀ t u, news[t]? = some u → w.drew.cell? (A.add t) = some u) := by
      by_cases h : cap = j
      · exact ⟨⟨b, o, none⟩, by simp [h], hsrc _ (.inr (by omega))⟩
      · exact ⟨⟨b, o + j, none⟩, by simp [h], hsrc _ (.inl (by simp))⟩
    have hcl : ∀ ty, (Builtin.clear_ #[22] ty #[.slice (some ⟨b, o + (i + (n - j)), none⟩) (n - (i + (n - j))) (cap - (i + (n - j)))]).run Try.prog W1 = .ok (.tuple #[]) W2 := fun ty => by have := hclr ty; simpa only [Nat.mul_one] using this
    have s5 : Hid (Try.prog.underlying 22 = some (.slice eT)) := hu
    have s6 : Hid (Try.prog.info? eT = some ii) := hi
    have s1 : Hid (news.length = (n - j) * 1) := hlen
    have s2 : Hid (∀ u ∈ news, u.oneCell' = true) := hone
    have s3 : Hid (o + i * 1 + news.length ≤ cs.size) := hfit
    have s4 : Hid (w.heap[b]? = some (.cells cs el (0, 0))) := hb
    have hW : Hid (W1 = w.drew.setRow b (putAt cs (o + i * 1) news.toArray)) := hW1
    have hE : Hid (DelEnd w W2 b o n i j 1 cs el) := hend
    have mixed : Try.prog.follows .mixedOrders = true := tab_ok.ord
    have hic : i ≤ cap := by omega
    have hjc : j ≤ cap := by omega
    have hne : i ≠ j := by omega
    clear hu hi hlen hone hsrc hfit hW1 hclr hend hb h1 hs
    go_enter Try.func70, Try.ntmps70
    go_wp2_with fail
    go_region_law_o (refine step_append_at rfl (.tmp 22) (.tmp 25) 22 rfl eT ii 1 s5 s6 hsz b o i cap (by simp [Act.eval, Act.put]) A (n - j) (cap - j) news (by simp [Act.eval, Act.put]) s1 hsrc2 s2 (by omega) cs el s4 s3 ?_; rw [← show W1 = _ from hW])
    go_wp2
    go_ret
    exact ⟨by rw [show n - (j - i) = i + (n - j) by omega]; rfl, hE⟩
noncomputable def q70 : List Dt → Option (Bool × List Dt)
  | [.d (.sl .str) a0, .d (.i .i64) a1, .d (.i .i64) a2] => some (gDel a0 a1 a2, [.d (.sl .str) (delL a0 a1 a2)])
  | _ => none
noncomputable def s70 : Gm.Spec := Gm.Spec.of [.mov, .ro, .ro] [false] true q70
theorem good70 : Gm.Good Try.prog (70, s70) := by
  refine ⟨⟨spec_del (t := .str) (sz := 1) rfl delE70 fun ds outs h => ?_, _, Try.func70, by kernel_rfl, of_decide_eq_true (by kernel_rfl)⟩, Gm.Spec.of_natl _ _ _ _⟩
  unfold q70 at h
  split at h
  · rename_i a0 a1 a2
    simp only [Option.some.injEq, Prod.mk.injEq] at h
    obtain ⟨hg, rfl⟩ := h
    simp only [gDel, Bool.and_eq_true, decide_eq_true_eq] at hg
    exact ⟨a0, a1.toNat, a2.toNat, by rw [Int.toNat_of_nonneg (by omega), Int.toNat_of_nonneg (by omega)], by omega, by omega, rfl⟩
  · cases h
open Go.RowKit in
set_option maxHeartbeats 4000000 in
set_option maxRecDepth 1000000 in
theorem delE53 : DelE Try.prog 53 5 := by
  refine ⟨fun a n cap i w hi hn => ?_, fun b o n cap i j cs el w hij hj hn hb hs h1 => ?_⟩
  · have hic : i ≤ cap := by omega
    go_enter Try.func53, Try.ntmps53
    go_wp2
    all_goals (go_ret; exact ⟨rfl, rfl⟩)
  · obtain ⟨eT, ii, news, W1, W2, hu, hi, hsz, hlen, hone, hsrc, hfit, hW1, hclr, hend⟩ := del_pack (E := tab.env []) (tab_ok.env (fun _ h => by simp at h)) (T := 29) (e := .node) rfl (sz := 5) rfl hij hj hn hb hs h1
    obtain ⟨A, hA, hsrc2⟩ : ∃ A : Addr, (if cap = j then (some ⟨b, o, none⟩ : Option Addr) else some ⟨b, o + j * 5, none⟩) = some A ∧ Hid (∀ t u, news[t]? = some u → w.drew.cell? (A.add t) = some u) := by
      by_cases h : cap = j
      · exact ⟨⟨b, o, none⟩, by simp [h], hsrc _ (.inr (by omega))⟩
      · exact ⟨⟨b, o + j * 5, none⟩, by simp [h], hsrc _ (.inl (by simp))⟩
    have hcl : ∀ ty, (Builtin.clear_ #[29] ty #[.slice (some ⟨b, o + (i + (n - j)) * 5, none⟩) (n - (i + (n - j))) (cap - (i + (n - j)))]).run Try.prog W1 = .ok (.tuple #[]) W2 := fun ty => hclr ty
    have s5 : Hid (Try.prog.underlying 29 = some (.slice eT)) := hu
    have s6 : Hid (Try.prog.info? eT = some ii) := hi
    have s1 : Hid (news.length = (n - j) * 5) := hlen
    have s2 : Hid (∀ u ∈ news, u.oneCell' = true) := hone
    have s3 : Hid (o + i * 5 + news.length ≤ cs.size) := hfit
    have s4 : Hid (w.heap[b]? = some (.cells cs el (0, 0))) := hb
    have hW : Hid (W1 = w.drew.setRow b (putAt cs (o + i * 5) news.toArray)) := hW1
    have hE : Hid (DelEnd w W2 b o n i j 5 cs el) := hend
    have mixed : Try.prog.follows .mixedOrders = true := tab_ok.ord
    have hic : i ≤ cap := by omega
    have hjc : j ≤ cap := by omega
    have hne : i ≠ j := by omega
    clear hu hi hlen hone hsrc hfit hW1 hclr hend hb h1 hs
    go_enter Try.func53, Try.ntmps53
    go_wp2_with fail
    go_region_law_o (refine step_append_at rfl (.tmp 22) (.tmp 25) 29 rfl eT ii 5 s5 s6 hsz b o i cap (by simp [Act.eval, Act.put]) A (n - j) (cap - j) news (by simp [Act.eval, Act.put]) s1 hsrc2 s2 (by omega) cs el s4 s3 ?_; rw [← show W1 = _ from hW])
    go_wp2
    go_ret
    exact ⟨by rw [show n - (j - i) = i + (n - j) by omega]; rfl, hE⟩
noncomputable def q53 : List Dt → Option (Bool × List Dt)
  | [.d (.sl .node) a0, .d (.i .i64) a1, .d (.i .i64) a2] => some (gDel a0 a1 a2, [.d (.sl .node) (delL a0 a1 a2)])
  | _ => none
noncomputable def s53 : Gm.Spec := Gm.Spec.of [.mov, .ro, .ro] [false] true q53
theorem good53 : Gm.Good Try.prog (53, s53) := by
  refine ⟨⟨spec_del (t := .node) (sz := 5) rfl delE53 fun ds outs h => ?_, _, Try.func53, by kernel_rfl, of_decide_eq_true (by kernel_rfl)⟩, Gm.Spec.of_natl _ _ _ _⟩
  unfold q53 at h
  split at h
  · rename_i a0 a1 a2
    simp only [Option.some.injEq, Prod.mk.injEq] at h
    obtain ⟨hg, rfl⟩ := h
    simp only [gDel, Bool.and_eq_true, decide_eq_true_eq] at hg
    exact ⟨a0, a1.toNat, a2.toNat, by rw [Int.toNat_of_nonneg (by omega), Int.toNat_of_nonneg (by omega)], by omega, by omega, rfl⟩
  · cases h
end Go.Proofs.Ytinbejnakemfjaa

/- x -/
namespace Go.Proofs.Ytinbejnakemfjaa
open Go Go.Gm
/-! ### loop.example/g00465/impl.Unset -/
noncomputable def f52c : Code := (Try.f52.body).getD .skip
def f52k : Nat → Kp := kat [⟨[1, 2, 4], [], [], []⟩, ⟨[1, 2, 4], [], [], []⟩, ⟨[2, 4, 5], [], [], []⟩, ⟨[2, 4, 5, 18], [], [], []⟩, ⟨[4], [], [], []⟩, ⟨[2, 4, 5], [], [], []⟩, ⟨[2, 4], [], [], []⟩, ⟨[4], [], [], []⟩]
noncomputable def f52e : Env := tab.env [(46, s46), (53, s53), (56, s56), (67, s67), (70, s70)]
theorem f52_run {R : Type} (n : Nat) (k : List Dt → Option R) (a0 : NodeT) (a1 : ByteArray) : evFn f52e f52k n f52c [.ro, .ro] [false] true [.cell 4 31] [31] [.d .node a0, .d .str a1] k =
    (cond (sm_node (eN a0))
    (cond ((fun (x : List ByteArray) (_ : ByteArray) => gLenW x) (NodeT.keys a0) a1)
      (cond (!(isMapN (eN a0)))
        (k [.d .node (eN a0)])
        (cond (decide ((idxS (NodeT.keys a0) a1) < (0 : Int)))
          (k [.d .node (eN a0)])
          (cond (gDel (NodeT.keys a0) (idxS (NodeT.keys a0) a1) (IntKind.wrap .i64 ((idxS (NodeT.keys a0) a1) + (1 : Int))))
            (cond (gDel (NodeT.kids a0) (idxS (NodeT.keys a0) a1) (IntKind.wrap .i64 ((idxS (NodeT.keys a0) a1) + (1 : Int))))
              (k [.d .node (⟨(NodeT.kind a0), (NodeT.n a0), (NodeT.s a0), (delL (NodeT.keys a0) (idxS (NodeT.keys a0) a1) (IntKind.wrap .i64 ((idxS (NodeT.keys a0) a1) + (1 : Int)))), (delL (NodeT.kids a0) (idxS (NodeT.keys a0) a1) (IntKind.wrap .i64 ((idxS (NodeT.keys a0) a1) + (1 : Int))))⟩ : NodeT)])
              none)
            none)))
      none)
    none) := by kernel_rfl
theorem f52_spec (a0 : NodeT) (a1 : ByteArray) (hg : sm_node a0 = true) : ∃ keep rounds, ∀ {R : Type} (k : List Dt → Option R), evFn f52e keep rounds f52c [.ro, .ro] [false] true [.cell 4 31] [31] [.d .node a0, .d .str a1] k = k [.d .node (unset a0 a1)] := by
  have hg0 := hg
  rw [sm_node_def] at hg
  simp only [Bool.and_eq_true] at hg
  obtain ⟨_, _, _, hke, hki⟩ := hg
  have nke := smL_len hke
  have nki := smL_len hki
  refine ⟨f52k, 0, fun k => ?_⟩
  rw [f52_run]
  simp only [eta_node, eN_eq, hg0, gLenW_sm hke, cond_true]
  cases hm : isMapN a0
  · unfold unset; rw [hm]; rfl
  simp only [idxS_map hm a1, Bool.not_true, cond_false]
  by_cases hk : keyAt a0 a1 < 0
  · rw [unset_neg hk, decide_eq_true hk]; rfl
  · have hb := keyAt_bd a0 a1 hk
    have e0 : unset a0 a1 = cutKey a0 (keyAt a0 a1) := by unfold unset; rw [hm, decide_eq_false hk]; rfl
    obtain ⟨i, e, h1, h2⟩ := hb
    obtain ⟨_, _, hw, _⟩ := idx h1 (by omega)
    rw [e0, decide_eq_false hk, e, hw, gDel_one h1, gDel_one h2]
    rfl

noncomputable def q52 : List Dt → Option (Bool × List Dt)
  | [.d .node a0, .d .str a1] => some (((fun (x : NodeT) (_ : ByteArray) => sm_node x) a0 a1), [.d .node (unset a0 a1)])
  | _ => none
noncomputable def s52 : Gm.Spec := Gm.Spec.of [.ro, .ro] [false] true q52
theorem good52 : Gm.Good Try.prog (52, s52) := by
  have hl : ∀ x ∈ [(46, s46), (53, s53), (56, s56), (67, s67), (70, s70)], Gm.Good Try.prog x := List.forall_mem_cons.2 ⟨good46, List.forall_mem_cons.2 ⟨good53, List.forall_mem_cons.2 ⟨good56, List.forall_mem_cons.2 ⟨good67, List.forall_mem_cons.2 ⟨good70, List.forall_mem_nil _⟩⟩⟩⟩⟩
  refine ⟨⟨spec_ok (tab_ok.env hl) (tab.natl hl) Try.func52 (by kernel_rfl : Try.f52.body = some f52c) [31] (by kernel_rfl) ?_, _, Try.func52, by kernel_rfl, of_decide_eq_true (by kernel_rfl)⟩, Gm.Spec.of_natl _ _ _ _⟩
  intro ds outs h
  unfold q52 at h
  split at h
  · simp only [Option.some.injEq, Prod.mk.injEq] at h; obtain ⟨hg, h⟩ := h; cases h; exact f52_spec _ _ hg
  · cases h
/-! ### loop.example/g00465/impl.CutPtr$1 -/
noncomputable def f51c : Code := (Try.f51.body).getD .skip
def f51k : Nat → Kp := kat [⟨[1, 2, 4], [], [], []⟩, ⟨[1, 2, 4, 6], [], [], []⟩, ⟨[1, 2, 4, 6, 11], [], [], []⟩, ⟨[4, 5], [], [], []⟩, ⟨[1, 2, 4, 6, 15], [], [], []⟩, ⟨[4, 5], [], [], []⟩, ⟨[2, 4, 6], [], [], []⟩, ⟨[2, 4], [], [], []⟩, ⟨[4, 5], [], [], []⟩]
noncomputable def f51e : Env := tab.env [(45, s45), (46, s46), (52, s52), (53, s53)]
theorem f51_run {R : Type} (n : Nat) (k : List Dt → Option R) (a0 : NodeT) (a1 : ByteArray) : evFn f51e f51k n f51c [.ro, .ro] [false, false] true [.cell 4 31, .tmp 5] [31, 4] [.d .node a0, .d .str a1] k =
    (cond ((fun (x : NodeT) (_ : ByteArray) => sm_node x) (eN a0) a1)
    (cond (decide ((kidAt (eN a0) a1) < (0 : Int)))
      (k [.d .node (⟨(0 : Int), (0 : Int), ByteArray.empty, ([] : List ByteArray), ([] : List NodeT)⟩ : NodeT), .d .bool false])
      (cond ((NodeT.kind a0) == (5 : Int))
        (cond ((fun (x : NodeT) (_ : ByteArray) => sm_node x) (eN a0) a1)
          (k [.d .node (eN (unset (eN a0) a1)), .d .bool true])
          none)
        (cond (sm_node (eN a0))
          (cond (gDel (NodeT.kids a0) (kidAt (eN a0) a1) (IntKind.wrap .i64 ((kidAt (eN a0) a1) + (1 : Int))))
            (k [.d .node (⟨(NodeT.kind a0), (NodeT.n a0), (NodeT.s a0), (NodeT.keys a0), (delL (NodeT.kids a0) (kidAt (eN a0) a1) (IntKind.wrap .i64 ((kidAt (eN a0) a1) + (1 : Int))))⟩ : NodeT), .d .bool true])
            none)
          none)))
    none) := by kernel_rfl
theorem f51_spec (a0 : NodeT) (a1 : ByteArray) (hg : sm_node a0 = true) : ∃ keep rounds, ∀ {R : Type} (k : List Dt → Option R), evFn f51e keep rounds f51c [.ro, .ro] [false, false] true [.cell 4 31, .tmp 5] [31, 4] [.d .node a0, .d .str a1] k = k [.d .node ((cutLast a0 a1).1), .d .bool ((cutLast a0 a1).2)] := by
  have hg0 := hg
  rw [sm_node_def] at hg
  simp only [Bool.and_eq_true] at hg
  obtain ⟨_, _, _, hke, hki⟩ := hg
  have nke := smL_len hke
  have nki := smL_len hki
  refine ⟨f51k, 0, fun k => ?_⟩
  rw [f51_run]
  simp only [eta_node, eN_eq, hg0, cond_true]
  show _ = k [.d .node (cutLast a0 a1).1, .d .bool (cutLast a0 a1).2]
  unfold cutLast
  by_cases hk : kidAt a0 a1 < 0
  · rw [decide_eq_true hk]; rfl
  obtain ⟨i, e, h1⟩ := kidAt_bd hk
  obtain ⟨_, _, hw, _⟩ := idx h1 (by omega)
  rw [decide_eq_false hk, e, hw, gDel_one h1]
  cases a0.kind == (5 : Int) <;> rfl

noncomputable def q51 : List Dt → Option (Bool × List Dt)
  | [.d .node a0, .d .str a1] => some (((fun (x : NodeT) (_ : ByteArray) => sm_node x) a0 a1), [.d .node ((cutLast a0 a1).1), .d .bool ((cutLast a0 a1).2)])
  | _ => none
noncomputable def s51 : Gm.Spec := Gm.Spec.of [.ro, .ro] [false, false] true q51
theorem good51 : Gm.Good Try.prog (51, s51) := by
  have hl : ∀ x ∈ [(45, s45), (46, s46), (52, s52), (53, s53)], Gm.Good Try.prog x := List.forall_mem_cons.2 ⟨good45, List.forall_mem_cons.2 ⟨good46, List.forall_mem_cons.2 ⟨good52, List.forall_mem_cons.2 ⟨good53, List.forall_mem_nil _⟩⟩⟩⟩
  refine ⟨⟨spec_ok (tab_ok.env hl) (tab.natl hl) Try.func51 (by kernel_rfl : Try.f51.body = some f51c) [31, 4] (by kernel_rfl) ?_, _, Try.func51, by kernel_rfl, of_decide_eq_true (by kernel_rfl)⟩, Gm.Spec.of_natl _ _ _ _⟩
  intro ds outs h
  unfold q51 at h
  split at h
  · simp only [Option.some.injEq, Prod.mk.injEq] at h; obtain ⟨hg, h⟩ := h; cases h; exact f51_spec _ _ hg
  · cases h
end Go.Proofs.Ytinbejnakemfjaa

/- x -/
namespace Go.Proofs.Ytinbejnakemfjaa
open Go Go.Gm
open Go.RowKit in
set_option maxHeartbeats 4000000 in
set_option maxRecDepth 1000000 in
theorem insE75 : InsE Try.prog 75 1 := by
  intro base n cap i vb vo m vc olds news w h
  have hE : (tab.env []).Ok Try.prog := tab_ok.env (fun _ h => by simp at h)
  have hm := h.hm
  have hin := h.hi
  have hnc := h.hn
  have hlim : n + m ≤ 4294967296 := h.lim
  have hz1 : ¬ ((m : Int) = 0) := by omega
  have mixed : Try.prog.follows .mixedOrders = true := tab_ok.ord
  have hw1 : IntKind.i64.wrap ((i : Int) + (m : Int)) = (i : Int) + (m : Int) := by rw [IntKind.wrap_i64]; omega
  have hb1 : (0 : Int) ≤ (i : Int) + (m : Int) := by omega
  have htn : ((i : Int) + (m : Int)).toNat = i + m := by omega
  by_cases hi : i = n
  · subst hi
    obtain ⟨b', o', cap', W, hrun, hend⟩ := ins_end hE (T := 22) (e := .str) rfl (sz := 1) rfl h vc
    have hend : Hid (InsEnd w W base b' o' (i + m) cap' 1 (olds.take (i * 1) ++ news ++ olds.drop (i * 1))) := hend
    cases base with
    | none =>
      obtain ⟨rfl, rfl⟩ := h.nil rfl
      clear h
      go_enter Try.func75, Try.ntmps75
      go_wp2_with (at_builtin; refine Lib.wpList_append_run _ rfl _ _ _ _ rfl _ _ rfl rfl _ _ (hrun _) ?_)
      go_ret
      exact ⟨b', o', cap', by rw [Nat.zero_add]; rfl, hend⟩
    | some a =>
      obtain ⟨b, o, cs, el, rfl, _⟩ := h.is _ rfl
      clear h
      go_enter Try.func75, Try.ntmps75
      go_wp2_with (at_builtin; refine Lib.wpList_append_run _ rfl _ _ _ _ rfl _ _ rfl rfl _ _ (hrun _) ?_)
      all_goals (go_ret; exact ⟨_, _, _, rfl, hend⟩)
  · have hlt : i < n := by omega
    have hz2 : ¬ ((i : Int) = (n : Int)) := by omega
    cases base with
    | none => have := (h.nil rfl).1; omega
    | some a =>
      obtain ⟨b, o, cs, el, rfl, _⟩ := h.is _ rfl
      have hb4 : ¬ (cap = i) := by omega
      by_cases hroom : n + m ≤ cap
      · obtain ⟨W1, cs1, hov, hcp1, hcp2, hend, e1, e2, e3⟩ := ins_room hE (T := 22) (e := .str) rfl (sz := 1) rfl h hlt hroom
        have hovc : ∀ lb cb, (callFunc 88 #[.slice (some ⟨vb, vo, none⟩) m vc, .slice (some ⟨b, o + (i + m), none⟩) lb cb]).run Try.prog w = .ok (.value (.bool false)) w := fun lb cb => by
          rw [run_callFunc_extern Try.func88 (by kernel_rfl) (by kernel_rfl) (by kernel_rfl) (e := Extern.SlicesOverlaps.overlaps #[22, 22] #[4]) (by kernel_rfl), hov 4 _ lb cb vc (by simp)]
          rfl
        have hcp1' : ∀ ty dc sc, (Builtin.copy_ #[22, 22] ty #[.slice (some ⟨b, o + (i + m), none⟩) (n + m - (i + m)) dc, .slice (some ⟨b, o + i, none⟩) (n + m - i) sc]).run Try.prog w.drew = .ok (goInt (n - i : Nat)) W1 := fun ty dc sc => by simpa only [Nat.mul_one] using hcp1 ty dc sc
        have hcp2' : ∀ W : World, W.heap = W1.heap → ∀ ty dc vc, (Builtin.copy_ #[22, 22] ty #[.slice (some ⟨b, o + i, none⟩) (n + m - i) dc, .slice (some ⟨vb, vo, none⟩) m vc]).run Try.prog W = .ok (goInt m) (W.setRow b (putAt cs1 (o + i) news.toArray)) := fun W hW ty dc vc => by simpa only [Nat.mul_one] using hcp2 W hW ty dc vc
        have hend' : Hid (∀ W : World, W.heap = W1.heap → W.os = w.os → W.tape = w.tape → W.output = w.output → InsEnd w (W.setRow b (putAt cs1 (o + i) news.toArray)) (some ⟨b, o, none⟩) b o (n + m) cap 1 (olds.take (i * 1) ++ news ++ olds.drop (i * 1))) := fun W a1 a2 a3 a4 => by simpa only [Nat.mul_one] using hend W a1 a2 a3 a4
        have hb2 : ¬ (cap = i + m) := by omega
        have hb3 : (i : Int) ≤ (n : Int) + (m : Int) := by omega
        have hin2 : i ≤ n := by omega
        clear h hov hcp1 hcp2 hend
        go_enter Try.func75, Try.ntmps75
        go_wp2_with (simp only [hovc])
        go_region_law_o (refine step_copy_by rfl _ _ 22 22 rfl _ _ (by simp [Act.eval, Act.put]) (by simp [Act.eval, Act.put]) (hcp1' _ _ _) ?_)
        go_wp2_with (at_builtin; refine wpList_copy_by rfl _ _ 22 22 rfl _ _ rfl rfl (hcp2' _ rfl _ _ _) ?_)
        go_ret
        exact ⟨_, _, _, rfl, hend' _ rfl e1 e2 e3⟩
      · have hgr : cap < n + m := by omega
        obtain ⟨W1, G, row, hrz, hG, hcpA, hcpB, hend, e1, e2, e3⟩ := ins_grow hE (T := 22) (Ti := 3) (e := .str) rfl (by kernel_rfl) (sz := 1) rfl h hlt hgr
        have hend' : Hid (∀ W0 W : World, W0.heap = W1.heap → W.heap = (W0.setRow w.heap.size (putAt row (i) news.toArray)).heap → W.os = w.os → W.tape = w.tape → W.output = w.output →
          InsEnd w (W.setRow w.heap.size (putAt (putAt row (i) news.toArray) ((i + m)) (olds.drop (i * 1)).toArray)) (some ⟨b, o, none⟩) w.heap.size 0 (n + m) G 1 (olds.take (i * 1) ++ news ++ olds.drop (i * 1))) := fun W0 W a1 a2 a3 a4 a5 => by simpa only [Nat.mul_one] using hend W0 W a1 (by simpa only [Nat.mul_one] using a2) a3 a4 a5
        have hcpA' : ∀ W : World, W.heap = W1.heap → ∀ ty dc vc, (Builtin.copy_ #[22, 22] ty #[.slice (some ⟨w.heap.size, i, none⟩) (n + m - i) dc, .slice (some ⟨vb, vo, none⟩) m vc]).run Try.prog W = .ok (goInt m) (W.setRow w.heap.size (putAt row (i) news.toArray)) := fun W hW ty dc vc => by simpa only [Nat.mul_one] using hcpA W hW ty dc vc
        have hcpB' : ∀ W0 W : World, W0.heap = W1.heap → W.heap = (W0.setRow w.heap.size (putAt row (i) news.toArray)).heap → ∀ ty dc sc, (Builtin.copy_ #[22, 22] ty #[.slice (some ⟨w.heap.size, (i + m), none⟩) (n + m - (i + m)) dc, .slice (some ⟨b, o + i, none⟩) (n - i) sc]).run Try.prog W =
          .ok (goInt (n - i : Nat)) (W.setRow w.heap.size (putAt (putAt row (i) news.toArray) ((i + m)) (olds.drop (i * 1)).toArray)) := fun W0 W a1 a2 ty dc sc => by simpa only [Nat.mul_one] using hcpB W0 W a1 (by simpa only [Nat.mul_one] using a2) ty dc sc
        have hz3 : (cap : Int) < (n : Int) + (m : Int) := by omega
        have hGi : ¬ (G = i) := by omega
        have hGim : ¬ (G = i + m) := by omega
        have hb3 : (i : Int) ≤ (n : Int) := by omega
        have hin2 : i ≤ n := by omega
        clear h hcpA hcpB hend
        go_enter Try.func75, Try.ntmps75
        go_wp2_with (first
          | (at_builtin; refine Lib.wpList_append_run _ rfl _ _ _ _ rfl _ _ rfl rfl _ _ (hrz _) ?_)
          | (at_builtin; refine wpList_copy_by rfl _ _ 22 22 rfl _ _ rfl rfl (hcpA' _ rfl _ _ _) ?_)
          | (at_builtin; refine wpList_copy_by rfl _ _ 22 22 rfl _ _ rfl rfl (hcpB' _ _ rfl rfl _ _ _) ?_))
        go_region_law_o (refine step_copy_by rfl _ _ 22 22 rfl (.slice (some ⟨w.heap.size, (i + m), none⟩) (n + m - (i + m)) (G - (i + m))) (.slice (some ⟨b, o + i, none⟩) (n - i) (cap - i)) (by simp [Act.eval, Act.put]) (by simp [Act.eval, Act.put]) (hcpB' W1 ((W1.setRow w.heap.size (putAt row (i) news.toArray)).drew) rfl rfl 3 (G - (i + m)) (cap - i)) ?_)
        go_wp2
        go_ret
        have hfin := hend' W1 ((W1.setRow w.heap.size (putAt row (i) news.toArray)).drew) rfl rfl e1 e2 e3
        first
          | exact ⟨_, _, _, rfl, hfin⟩
          | (simp only [Nat.mul_one] at hfin; exact ⟨_, _, _, rfl, by simpa only [Nat.mul_one] using hfin⟩)
noncomputable def q75 : List Dt → Option (Bool × List Dt)
  | [.d (.sl .str) a0, .d (.i .i64) a1, .d (.sl .str) a2] => some (gIns a0 a1 a2, [.d (.sl .str) (insL a0 a1 a2)])
  | _ => none
noncomputable def s75 : Gm.Spec := Gm.Spec.of [.mov, .ro, .mov] [false] true q75
theorem good75 : Gm.Good Try.prog (75, s75) := by
  refine ⟨⟨spec_ins (t := .str) (sz := 1) rfl insE75 fun ds outs h => ?_, _, Try.func75, by kernel_rfl, of_decide_eq_true (by kernel_rfl)⟩, Gm.Spec.of_natl _ _ _ _⟩
  unfold q75 at h
  split at h
  · rename_i a0 a1 a2
    simp only [Option.some.injEq, Prod.mk.injEq] at h
    obtain ⟨hg, rfl⟩ := h
    obtain ⟨h1, h2, h3, h4⟩ := gIns_iff.1 hg
    exact ⟨a0, a2, a1.toNat, by rw [Int.toNat_of_nonneg h1], by omega, h3, h4, rfl⟩
  · cases h
end Go.Proofs.Ytinbejnakemfjaa

/- x -/
namespace Go.Proofs.Ytinbejnakemfjaa
open Go Go.Gm
open Go.RowKit in
set_option maxHeartbeats 4000000 in
set_option maxRecDepth 1000000 in
theorem insE59 : InsE Try.prog 59 5 := by
  intro base n cap i vb vo m vc olds news w h
  have hE : (tab.env []).Ok Try.prog := tab_ok.env (fun _ h => by simp at h)
  have hm := h.hm
  have hin := h.hi
  have hnc := h.hn
  have hlim : n + m ≤ 4294967296 := h.lim
  have hz1 : ¬ ((m : Int) = 0) := by omega
  have mixed : Try.prog.follows .mixedOrders = true := tab_ok.ord
  have hw1 : IntKind.i64.wrap ((i : Int) + (m : Int)) = (i : Int) + (m : Int) := by rw [IntKind.wrap_i64]; omega
  have hb1 : (0 : Int) ≤ (i : Int) + (m : Int) := by omega
  have htn : ((i : Int) + (m : Int)).toNat = i + m := by omega
  by_cases hi : i = n
  · subst hi
    obtain ⟨b', o', cap', W, hrun, hend⟩ := ins_end hE (T := 29) (e := .node) rfl (sz := 5) rfl h vc
    have hend : Hid (InsEnd w W base b' o' (i + m) cap' 5 (olds.take (i * 5) ++ news ++ olds.drop (i * 5))) := hend
    cases base with
    | none =>
      obtain ⟨rfl, rfl⟩ := h.nil rfl
      clear h
      go_enter Try.func59, Try.ntmps59
      go_wp2_with (at_builtin; refine Lib.wpList_append_run _ rfl _ _ _ _ rfl _ _ rfl rfl _ _ (hrun _) ?_)
      go_ret
      exact ⟨b', o', cap', by rw [Nat.zero_add]; rfl, hend⟩
    | some a =>
      obtain ⟨b, o, cs, el, rfl, _⟩ := h.is _ rfl
      clear h
      go_enter Try.func59, Try.ntmps59
      go_wp2_with (at_builtin; refine Lib.wpList_append_run _ rfl _ _ _ _ rfl _ _ rfl rfl _ _ (hrun _) ?_)
      all_goals (go_ret; exact ⟨_, _, _, rfl, hend⟩)
  · have hlt : i < n := by omega
    have hz2 : ¬ ((i : Int) = (n : Int)) := by omega
    cases base with
    | none => have := (h.nil rfl).1; omega
    | some a =>
      obtain ⟨b, o, cs, el, rfl, _⟩ := h.is _ rfl
      have hb4 : ¬ (cap = i) := by omega
      by_cases hroom : n + m ≤ cap
      · obtain ⟨W1, cs1, hov, hcp1, hcp2, hend, e1, e2, e3⟩ := ins_room hE (T := 29) (e := .node) rfl (sz := 5) rfl h hlt hroom
        have hovc : ∀ lb cb, (callFunc 77 #[.slice (some ⟨vb, vo, none⟩) m vc, .slice (some ⟨b, o + (i + m) * 5, none⟩) lb cb]).run Try.prog w = .ok (.value (.bool false)) w := fun lb cb => by
          rw [run_callFunc_extern Try.func77 (by kernel_rfl) (by kernel_rfl) (by kernel_rfl) (e := Extern.SlicesOverlaps.overlaps #[29, 29] #[4]) (by kernel_rfl), hov 4 _ lb cb vc (by simp)]
          rfl
        have hcp1' : ∀ ty dc sc, (Builtin.copy_ #[29, 29] ty #[.slice (some ⟨b, o + (i + m) * 5, none⟩) (n + m - (i + m)) dc, .slice (some ⟨b, o + i * 5, none⟩) (n + m - i) sc]).run Try.prog w.drew = .ok (goInt (n - i : Nat)) W1 := fun ty dc sc => by simpa only [Nat.mul_one] using hcp1 ty dc sc
        have hcp2' : ∀ W : World, W.heap = W1.heap → ∀ ty dc vc, (Builtin.copy_ #[29, 29] ty #[.slice (some ⟨b, o + i * 5, none⟩) (n + m - i) dc, .slice (some ⟨vb, vo, none⟩) m vc]).run Try.prog W = .ok (goInt m) (W.setRow b (putAt cs1 (o + i * 5) news.toArray)) := fun W hW ty dc vc => by simpa only [Nat.mul_one] using hcp2 W hW ty dc vc
        have hend' : Hid (∀ W : World, W.heap = W1.heap → W.os = w.os → W.tape = w.tape → W.output = w.output → InsEnd w (W.setRow b (putAt cs1 (o + i * 5) news.toArray)) (some ⟨b, o, none⟩) b o (n + m) cap 5 (olds.take (i * 5) ++ news ++ olds.drop (i * 5))) := fun W a1 a2 a3 a4 => by simpa only [Nat.mul_one] using hend W a1 a2 a3 a4
        have hb2 : ¬ (cap = i + m) := by omega
        have hb3 : (i : Int) ≤ (n : Int) + (m : Int) := by omega
        have hin2 : i ≤ n := by omega
        clear h hov hcp1 hcp2 hend
        go_enter Try.func59, Try.ntmps59
        go_wp2_with (simp only [hovc])
        go_region_law_o (refine step_copy_by rfl _ _ 29 29 rfl _ _ (by simp [Act.eval, Act.put]) (by simp [Act.eval, Act.put]) (hcp1' _ _ _) ?_)
        go_wp2_with (at_builtin; refine wpList_copy_by rfl _ _ 29 29 rfl _ _ rfl rfl (hcp2' _ rfl _ _ _) ?_)
        go_ret
        exact ⟨_, _, _, rfl, hend' _ rfl e1 e2 e3⟩
      · have hgr : cap < n + m := by omega
        obtain ⟨W1, G, row, hrz, hG, hcpA, hcpB, hend, e1, e2, e3⟩ := ins_grow hE (T := 29) (Ti := 3) (e := .node) rfl (by kernel_rfl) (sz := 5) rfl h hlt hgr
        have hend' : Hid (∀ W0 W : World, W0.heap = W1.heap → W.heap = (W0.setRow w.heap.size (putAt row (i * 5) news.toArray)).heap → W.os = w.os → W.tape = w.tape → W.output = w.output →
          InsEnd w (W.setRow w.heap.size (putAt (putAt row (i * 5) news.toArray) ((i + m) * 5) (olds.drop (i * 5)).toArray)) (some ⟨b, o, none⟩) w.heap.size 0 (n + m) G 5 (olds.take (i * 5) ++ news ++ olds.drop (i * 5))) := fun W0 W a1 a2 a3 a4 a5 => by simpa only [Nat.mul_one] using hend W0 W a1 (by simpa only [Nat.mul_one] using a2) a3 a4 a5
        have hcpA' : ∀ W : World, W.heap = W1.heap → ∀ ty dc vc, (Builtin.copy_ #[29, 29] ty #[.slice (some ⟨w.heap.size, i * 5, none⟩) (n + m - i) dc, .slice (some ⟨vb, vo, none⟩) m vc]).run Try.prog W = .ok (goInt m) (W.setRow w.heap.size (putAt row (i * 5) news.toArray)) := fun W hW ty dc vc => by simpa only [Nat.mul_one] using hcpA W hW ty dc vc
        have hcpB' : ∀ W0 W : World, W0.heap = W1.heap → W.heap = (W0.setRow w.heap.size (putAt row (i * 5) news.toArray)).heap → ∀ ty dc sc, (Builtin.copy_ #[29, 29] ty #[.slice (some ⟨w.heap.size, (i + m) * 5, none⟩) (n + m - (i + m)) dc, .slice (some ⟨b, o + i * 5, none⟩) (n - i) sc]).run Try.prog W =
          .ok (goInt (n - i : Nat)) (W.setRow w.heap.size (putAt (putAt row (i * 5) news.toArray) ((i + m) * 5) (olds.drop (i * 5)).toArray)) := fun W0 W a1 a2 ty dc sc => by simpa only [Nat.mul_one] using hcpB W0 W a1 (by simpa only [Nat.mul_one] using a2) ty dc sc
        have hz3 : (cap : Int) < (n : Int) + (m : Int) := by omega
        have hGi : ¬ (G = i) := by omega
        have hGim : ¬ (G = i + m) := by omega
        have hb3 : (i : Int) ≤ (n : Int) := by omega
        have hin2 : i ≤ n := by omega
        clear h hcpA hcpB hend
        go_enter Try.func59, Try.ntmps59
        go_wp2_with (first
          | (at_builtin; refine Lib.wpList_append_run _ rfl _ _ _ _ rfl _ _ rfl rfl _ _ (hrz _) ?_)
          | (at_builtin; refine wpList_copy_by rfl _ _ 29 29 rfl _ _ rfl rfl (hcpA' _ rfl _ _ _) ?_)
          | (at_builtin; refine wpList_copy_by rfl _ _ 29 29 rfl _ _ rfl rfl (hcpB' _ _ rfl rfl _ _ _) ?_))
        go_region_law_o (refine step_copy_by rfl _ _ 29 29 rfl (.slice (some ⟨w.heap.size, (i + m) * 5, none⟩) (n + m - (i + m)) (G - (i + m))) (.slice (some ⟨b, o + i * 5, none⟩) (n - i) (cap - i)) (by simp [Act.eval, Act.put]) (by simp [Act.eval, Act.put]) (hcpB' W1 ((W1.setRow w.heap.size (putAt row (i * 5) news.toArray)).drew) rfl rfl 3 (G - (i + m)) (cap - i)) ?_)
        go_wp2
        go_ret
        have hfin := hend' W1 ((W1.setRow w.heap.size (putAt row (i * 5) news.toArray)).drew) rfl rfl e1 e2 e3
        first
          | exact ⟨_, _, _, rfl, hfin⟩
          | (simp only [Nat.mul_one] at hfin; exact ⟨_, _, _, rfl, by simpa only [Nat.mul_one] using hfin⟩)
noncomputable def q59 : List Dt → Option (Bool × List Dt)
  | [.d (.sl .node) a0, .d (.i .i64) a1, .d (.sl .node) a2] => some (gIns a0 a1 a2, [.d (.sl .node) (insL a0 a1 a2)])
  | _ => none
noncomputable def s59 : Gm.Spec := Gm.Spec.of [.mov, .ro, .mov] [false] true q59
theorem good59 : Gm.Good Try.prog (59, s59) := by
  refine ⟨⟨spec_ins (t := .node) (sz := 5) rfl insE59 fun ds outs h => ?_, _, Try.func59, by kernel_rfl, of_decide_eq_true (by kernel_rfl)⟩, Gm.Spec.of_natl _ _ _ _⟩
  unfold q59 at h
  split at h
  · rename_i a0 a1 a2
    simp only [Option.some.injEq, Prod.mk.injEq] at h
    obtain ⟨hg, rfl⟩ := h
    obtain ⟨h1, h2, h3, h4⟩ := gIns_iff.1 hg
    exact ⟨a0, a2, a1.toNat, by rw [Int.toNat_of_nonneg h1], by omega, h3, h4, rfl⟩
  · cases h
end Go.Proofs.Ytinbejnakemfjaa

/- x -/
namespace Go.Proofs.Ytinbejnakemfjaa
open Go Go.Gm
/-! ### loop.example/g00465/impl.Set$1 -/
noncomputable def f74c : Code := (Try.f74.body).getD .skip
def f74k : Nat → Kp := kat [⟨[0, 1], [], [], []⟩, ⟨[3], [], [], []⟩]
noncomputable def f74e : Env := tab.env []
theorem f74_run {R : Type} (n : Nat) (k : List Dt → Option R) (a0 : ByteArray) (a1 : ByteArray) : evFn f74e f74k n f74c [.ro, .pro] [false] true [.tmp 3] [4] [.d .str a0, .d .str a1] k =
    (k [.d .bool (!((sLt a0 a1) || (sEq a0 a1)))]) := by kernel_rfl
theorem f74_spec (a0 : ByteArray) (a1 : ByteArray) : ∃ keep rounds, ∀ {R : Type} (k : List Dt → Option R), evFn f74e keep rounds f74c [.ro, .pro] [false] true [.tmp 3] [4] [.d .str a0, .d .str a1] k = k [.d .bool (gtKey a0 a1)] := by
  exact ⟨f74k, 0, fun k => f74_run 0 k a0 a1⟩

noncomputable def q74 : List Dt → Option (Bool × List Dt)
  | [.d .str a0, .d .str a1] => some (true, [.d .bool (gtKey a0 a1)])
  | _ => none
noncomputable def s74 : Gm.Spec := Gm.Spec.of [.ro, .pro] [false] true q74
theorem good74 : Gm.Good Try.prog (74, s74) := by
  have hl : ∀ x ∈ ([] : List (Nat × Gm.Spec)), Gm.Good Try.prog x := fun _ h => by cases h
  refine ⟨⟨spec_ok (tab_ok.env hl) (tab.natl hl) Try.func74 (by kernel_rfl : Try.f74.body = some f74c) [4] (by kernel_rfl) ?_, _, Try.func74, by kernel_rfl, of_decide_eq_true (by kernel_rfl)⟩, Gm.Spec.of_natl _ _ _ _⟩
  intro ds outs h
  unfold q74 at h
  split at h
  · cases h; exact f74_spec _ _
  · cases h
/-! ### slices.IndexFunc[[]string,string] -/
noncomputable def f73c : Code := (Try.f73.body).getD .skip
def f73k : Nat → Kp := kat [⟨[0, 1], [], [], []⟩, ⟨[0, 1, 7, 8], [], [], []⟩, ⟨[0, 1, 7, 8, 9], [], [], []⟩, ⟨[0, 1, 5, 7, 8], [], [], []⟩, ⟨[0, 1, 5, 7, 8, 16], [], [], []⟩, ⟨[4], [], [], []⟩, ⟨[0, 1, 7, 8], [], [], []⟩, ⟨[4], [], [], []⟩]
noncomputable def f73e : Env := tab.env [(74, s74)]
noncomputable def f73L0 {R : Type} (n : Nat) (x0 : Int → Option R) (x1 : Int → Bool → Option R) (vs0 : List ByteArray) (vs1c0 : ByteArray) (vs7 : Int) : Nat → Int → Option R
  | 0, _ => none
  | m + 1, vs8 =>
    (cond (decide (vs8 < vs7))
      (cond ((decide ((0 : Int) ≤ vs8)) && (decide (vs8 < (vs0.length : Int))))
        (cond (gtKey (atI (t := .str) vs0 (Int.toNat vs8)) vs1c0)
          (x0 vs8)
          (f73L0 n x0 x1 vs0 vs1c0 vs7 m (IntKind.wrap .i64 (vs8 + (1 : Int)))))
        none)
      (x1 vs8 (decide (vs8 < vs7))))
theorem f73L0_b {R : Type} (n : Nat) (k' : Ex → St → Option R) (vs0 : List ByteArray) (vs1c0 : ByteArray) (vs7 : Int) (vs8 : Int) : ev f73e f73k n (cAt [1,0,1,0,0] f73c) ⟨[(0, .c (.one (.ro .str vs0))), (1, .c (.one (.cloR 74 [⟨.str, vs1c0⟩]))), (7, .c (.one (.v (.int .i64 vs7)))), (8, .c (.one (.v (.int .i64 vs8))))], [], []⟩ k' =
    (cond (decide (vs8 < vs7))
    (cond ((decide ((0 : Int) ≤ vs8)) && (decide (vs8 < (vs0.length : Int))))
      (cond (gtKey (atI (t := .str) vs0 (Int.toNat vs8)) vs1c0)
        (k' .ret ⟨[(4, .c (.one (.v (.int .i64 vs8))))], [], []⟩)
        (k' .normal ⟨[(0, .c (.one (.ro .str vs0))), (1, .c (.one (.cloR 74 [⟨.str, vs1c0⟩]))), (7, .c (.one (.v (.int .i64 vs7)))), (8, .c (.one (.v (.int .i64 (IntKind.wrap .i64 (vs8 + (1 : Int)))))))], [], []⟩))
      none)
    (k' (.exit 0) ⟨[(0, .c (.one (.ro .str vs0))), (1, .c (.one (.cloR 74 [⟨.str, vs1c0⟩]))), (7, .c (.one (.v (.int .i64 vs7)))), (8, .c (.one (.v (.int .i64 vs8)))), (9, .c (.one (.v (.bool (decide (vs8 < vs7))))))], [], []⟩)) := by kernel_rfl
theorem f73L0_eq {R : Type} (n : Nat) (k' : Ex → St → Option R) (vs0 : List ByteArray) (vs1c0 : ByteArray) (vs7 : Int) : ∀ (m : Nat) (vs8 : Int), iter (fun st k => ev f73e f73k n (cAt [1,0,1,0,0] f73c) st k) m ⟨[(0, .c (.one (.ro .str vs0))), (1, .c (.one (.cloR 74 [⟨.str, vs1c0⟩]))), (7, .c (.one (.v (.int .i64 vs7)))), (8, .c (.one (.v (.int .i64 vs8))))], [], []⟩ k' = f73L0 n (fun (xvs4 : Int) => k' .ret ⟨[(4, .c (.one (.v (.int .i64 xvs4))))], [], []⟩) (fun (xvs8 : Int) (xvs9 : Bool) => k' (.exit 0) ⟨[(0, .c (.one (.ro .str vs0))), (1, .c (.one (.cloR 74 [⟨.str, vs1c0⟩]))), (7, .c (.one (.v (.int .i64 vs7)))), (8, .c (.one (.v (.int .i64 xvs8)))), (9, .c (.one (.v (.bool xvs9))))], [], []⟩) vs0 vs1c0 vs7 m vs8 := by
  intro m; induction m with
  | zero => intros; rfl
  | succ m ih =>
    intro vs8
    simp only [iter]
    rw [f73L0_b]
    simp only [ih, f73L0]

noncomputable def f73K0 {R : Type} (n : Nat) (k' : Ex → St → Option R) : Ex → St → Option R := (blockK 0 (seqK f73e f73k n (cAt [1,1] f73c) k'))
theorem f73K0_x0 {R : Type} (n : Nat) (k : List Dt → Option R) (a0 : List ByteArray) (a1 : ByteArray) (xvs4 : Int) : f73K0 n (exitK f73e [.ro, .fn] [false] true [.tmp 4] [3] [.d (.sl .str) a0, .clo 74 [⟨.str, a1⟩]] k) .ret ⟨[(4, .c (.one (.v (.int .i64 xvs4))))], [], []⟩ =
    (k [.d (.i .i64) xvs4]) := by kernel_rfl
theorem f73K0_x1 {R : Type} (n : Nat) (k : List Dt → Option R) (a0 : List ByteArray) (a1 : ByteArray) (vs0 : List ByteArray) (vs1c0 : ByteArray) (vs7 : Int) (xvs8 : Int) (xvs9 : Bool) : f73K0 n (exitK f73e [.ro, .fn] [false] true [.tmp 4] [3] [.d (.sl .str) a0, .clo 74 [⟨.str, a1⟩]] k) (.exit 0) ⟨[(0, .c (.one (.ro .str vs0))), (1, .c (.one (.cloR 74 [⟨.str, vs1c0⟩]))), (7, .c (.one (.v (.int .i64 vs7)))), (8, .c (.one (.v (.int .i64 xvs8)))), (9, .c (.one (.v (.bool xvs9))))], [], []⟩ =
    (k [.d (.i .i64) (-1 : Int)]) := by kernel_rfl

theorem f73_run {R : Type} (n : Nat) (k : List Dt → Option R) (a0 : List ByteArray) (a1 : ByteArray) : evFn f73e f73k n f73c [.ro, .fn] [false] true [.tmp 4] [3] [.d (.sl .str) a0, .clo 74 [⟨.str, a1⟩]] k =
    (f73L0 n (fun (xvs4 : Int) =>
    (k [.d (.i .i64) xvs4])) (fun (xvs8 : Int) (xvs9 : Bool) =>
    (k [.d (.i .i64) (-1 : Int)])) a0 a1 (a0.length : Int) n (0 : Int)) := by
  refine Eq.trans (b := (iter (fun st k => ev f73e f73k n (cAt [1,0,1,0,0] f73c) st k) n ⟨[(0, .c (.one (.ro .str a0))), (1, .c (.one (.cloR 74 [⟨.str, a1⟩]))), (7, .c (.one (.v (.int .i64 (a0.length : Int))))), (8, .c (.one (.v (.int .i64 (0 : Int)))))], [], []⟩ (f73K0 n (exitK f73e [.ro, .fn] [false] true [.tmp 4] [3] [.d (.sl .str) a0, .clo 74 [⟨.str, a1⟩]] k)))) (by kernel_rfl) ?_
  simp only [f73L0_eq, f73K0_x0, f73K0_x1]
theorem f73_spec (a0 : List ByteArray) (a1 : ByteArray) (hg : gLenW a0 = true) : ∃ keep rounds, ∀ {R : Type} (k : List Dt → Option R), evFn f73e keep rounds f73c [.ro, .fn] [false] true [.tmp 4] [3] [.d (.sl .str) a0, .clo 74 [⟨.str, a1⟩]] k = k [.d (.i .i64) (gtAt a0 a1)] := by
  have hl := gLenW_le hg
  refine ⟨f73k, a0.length + 1, fun k => ?_⟩
  rw [f73_run]
  refine Eq.trans (loop_find (n := a0.length) (F := fun m i => f73L0 (a0.length + 1) _ _ a0 a1 (a0.length : Int) m i) (p := fun j => gtKey (atI (t := .str) a0 j) a1) (hit := fun i => k [.d (.i .i64) i]) (miss := k [.d (.i .i64) (-1 : Int)])
    (fun m j hj => ?_) (fun m => by simp only [f73L0, idxE, cond_false]) a0.length 0 (a0.length + 1) (by omega) (by omega)) ?_
  · obtain ⟨h1, h0, hw, ht⟩ := idx hj (by omega)
    simp only [f73L0, h1, h0, hw, ht, Bool.and_self, cond_true]
  · show _ = k [.d (.i .i64) (plc _)]
    cases firstN (fun j => gtKey (atI (t := .str) a0 j) a1) 0 a0.length <;> rfl

noncomputable def q73 : List Dt → Option (Bool × List Dt)
  | [.d (.sl .str) a0, .clo 74 [⟨.str, a1⟩]] => some (((fun (x : List ByteArray) (_ : ByteArray) => gLenW x) a0 a1), [.d (.i .i64) (gtAt a0 a1)])
  | _ => none
noncomputable def s73 : Gm.Spec := Gm.Spec.of [.ro, .fn] [false] true q73
theorem good73 : Gm.Good Try.prog (73, s73) := by
  have hl : ∀ x ∈ [(74, s74)], Gm.Good Try.prog x := List.forall_mem_cons.2 ⟨good74, List.forall_mem_nil _⟩
  refine ⟨⟨spec_ok (tab_ok.env hl) (tab.natl hl) Try.func73 (by kernel_rfl : Try.f73.body = some f73c) [3] (by kernel_rfl) ?_, _, Try.func73, by kernel_rfl, of_decide_eq_true (by kernel_rfl)⟩, Gm.Spec.of_natl _ _ _ _⟩
  intro ds outs h
  unfold q73 at h
  split at h
  · simp only [Option.some.injEq, Prod.mk.injEq] at h; obtain ⟨hg, h⟩ := h; cases h; exact f73_spec _ _ hg
  · cases h
/-! ### loop.example/g00465/impl.Set -/
noncomputable def f57c : Code := (Try.f57.body).getD .skip
def f57k : Nat → Kp := kat [⟨[3, 4, 5, 6], [], [], []⟩, ⟨[3, 4, 5, 6], [], [], []⟩, ⟨[3, 4, 5, 6, 13], [], [], []⟩, ⟨[6], [], [], []⟩, ⟨[3, 4, 5, 6, 7], [], [], []⟩, ⟨[3, 4, 5, 6, 7, 20], [], [], []⟩, ⟨[3, 6], [], [], []⟩, ⟨[6], [], [], []⟩, ⟨[3, 4, 5, 6, 8], [], [], []⟩, ⟨[3, 4, 5, 6, 8, 33], [], [], []⟩, ⟨[3, 4, 5, 6, 8], [], [], []⟩, ⟨[3, 5, 6, 8], [], [], []⟩, ⟨[3, 6], [], [], []⟩, ⟨[6], [], [], []⟩]
noncomputable def f57e : Env := tab.env [(46, s46), (56, s56), (59, s59), (67, s67), (73, s73), (74, s74), (75, s75)]
theorem f57_run {R : Type} (n : Nat) (k : List Dt → Option R) (a0 : NodeT) (a1 : ByteArray) (a2 : NodeT) : evFn f57e f57k n f57c [.ro, .ro, .ro] [false] true [.cell 6 31] [31] [.d .node a0, .d .str a1, .d .node a2] k =
    (cond (sm_node (eN a0))
    (cond (!(isMapN (eN a0)))
      (k [.d .node (eN a0)])
      (cond ((fun (x : List ByteArray) (_ : ByteArray) => gLenW x) (NodeT.keys a0) a1)
        (cond (decide ((idxS (NodeT.keys a0) a1) ≥ (0 : Int)))
          (cond (sm_node (eN a2))
            (cond ((decide ((0 : Int) ≤ (idxS (NodeT.keys a0) a1))) && (decide ((idxS (NodeT.keys a0) a1) < ((NodeT.kids a0).length : Int))))
              (k [.d .node (⟨(NodeT.kind a0), (NodeT.n a0), (NodeT.s a0), (NodeT.keys a0), ((NodeT.kids a0).set (Int.toNat (idxS (NodeT.keys a0) a1)) (eN a2))⟩ : NodeT)])
              none)
            none)
          (cond ((fun (x : List ByteArray) (_ : ByteArray) => gLenW x) (NodeT.keys a0) a1)
            (cond (decide ((gtAt (NodeT.keys a0) a1) < (0 : Int)))
              (cond (gIns (NodeT.keys a0) ((NodeT.keys a0).length : Int) ([a1] : List ByteArray))
                (cond (sm_node (eN a2))
                  (cond (gIns (NodeT.kids a0) ((NodeT.keys a0).length : Int) ([(eN a2)] : List NodeT))
                    (k [.d .node (⟨(NodeT.kind a0), (NodeT.n a0), (NodeT.s a0), (insL (NodeT.keys a0) ((NodeT.keys a0).length : Int) ([a1] : List ByteArray)), (insL (NodeT.kids a0) ((NodeT.keys a0).length : Int) ([(eN a2)] : List NodeT))⟩ : NodeT)])
                    none)
                  none)
                none)
              (cond (gIns (NodeT.keys a0) (gtAt (NodeT.keys a0) a1) ([a1] : List ByteArray))
                (cond (sm_node (eN a2))
                  (cond (gIns (NodeT.kids a0) (gtAt (NodeT.keys a0) a1) ([(eN a2)] : List NodeT))
                    (k [.d .node (⟨(NodeT.kind a0), (NodeT.n a0), (NodeT.s a0), (insL (NodeT.keys a0) (gtAt (NodeT.keys a0) a1) ([a1] : List ByteArray)), (insL (NodeT.kids a0) (gtAt (NodeT.keys a0) a1) ([(eN a2)] : List NodeT))⟩ : NodeT)])
                    none)
                  none)
                none))
            none))
        none))
    none) := by kernel_rfl
theorem f57_spec (a0 : NodeT) (a1 : ByteArray) (a2 : NodeT) (hg : gS3 a0 a1 a2 = true) : ∃ keep rounds, ∀ {R : Type} (k : List Dt → Option R), evFn f57e keep rounds f57c [.ro, .ro, .ro] [false] true [.cell 6 31] [31] [.d .node a0, .d .str a1, .d .node a2] k = k [.d .node (setK a0 a1 a2)] := by
  have hg3 := hg
  simp only [gS3, Bool.and_eq_true] at hg
  obtain ⟨hg, hs1, hx2⟩ := hg
  have hg0 := hg
  rw [sm_node_def] at hg
  simp only [Bool.and_eq_true] at hg
  obtain ⟨_, _, _, hke, hki⟩ := hg
  have nke := smL_len hke
  have nki := smL_len hki
  refine ⟨f57k, 0, fun {R} k => ?_⟩
  rw [f57_run]
  simp only [eta_node, eN_eq, hg0, hx2, gLenW_sm hke, cond_true]
  show _ = k [.d .node (setK a0 a1 a2)]
  cases hm : isMapN a0
  · unfold setK; rw [hm]; rfl
  obtain ⟨h5, hl⟩ := isMapN_eq hm
  simp only [idxS_map hm a1, Bool.not_true, cond_false, cond_true]
  by_cases hk : keyAt a0 a1 < 0
  · rw [setK_neg hm hk, decide_eq_false (show ¬ (keyAt a0 a1 ≥ 0) by omega)]
    simp only [cond_false]
    have ha := gtAt_comes hm hk
    obtain ⟨i, e, hi⟩ := comesAt_bd a0.keys a1
    have g1 : gIns a0.keys (comesAt a0.keys a1) [a1] = true := gIns_one e hi nke
    have g2 : gIns a0.kids (comesAt a0.keys a1) [a2] = true := gIns_one e (by omega) nki
    cases hc : decide (gtAt a0.keys a1 < (0 : Int))
    · rw [hc] at ha; simp only [cond_false] at ha
      simp only [cond_false, ha, g1, g2, cond_true]; rfl
    · rw [hc] at ha; simp only [cond_true] at ha
      simp only [cond_true, ha, g1, g2]; rfl
  · rw [setK_pos hm hk, decide_eq_true (show keyAt a0 a1 ≥ 0 by omega)]
    obtain ⟨i, e, h1, h2⟩ := keyAt_bd a0 a1 hk
    obtain ⟨i1, i0, _, _⟩ := idx h2 (by omega)
    simp only [eta_node, eN_eq, idxS_map hm a1, e, i0, i1, Bool.and_self, cond_true]
    rfl

noncomputable def q57 : List Dt → Option (Bool × List Dt)
  | [.d .node a0, .d .str a1, .d .node a2] => some ((gS3 a0 a1 a2), [.d .node (setK a0 a1 a2)])
  | _ => none
noncomputable def s57 : Gm.Spec := Gm.Spec.of [.ro, .ro, .ro] [false] true q57
theorem good57 : Gm.Good Try.prog (57, s57) := by
  have hl : ∀ x ∈ [(46, s46), (56, s56), (59, s59), (67, s67), (73, s73), (74, s74), (75, s75)], Gm.Good Try.prog x := List.forall_mem_cons.2 ⟨good46, List.forall_mem_cons.2 ⟨good56, List.forall_mem_cons.2 ⟨good59, List.forall_mem_cons.2 ⟨good67, List.forall_mem_cons.2 ⟨good73, List.forall_mem_cons.2 ⟨good74, List.forall_mem_cons.2 ⟨good75, List.forall_mem_nil _⟩⟩⟩⟩⟩⟩⟩
  refine ⟨⟨spec_ok (tab_ok.env hl) (tab.natl hl) Try.func57 (by kernel_rfl : Try.f57.body = some f57c) [31] (by kernel_rfl) ?_, _, Try.func57, by kernel_rfl, of_decide_eq_true (by kernel_rfl)⟩, Gm.Spec.of_natl _ _ _ _⟩
  intro ds outs h
  unfold q57 at h
  split at h
  · simp only [Option.some.injEq, Prod.mk.injEq] at h; obtain ⟨hg, h⟩ := h; cases h; exact f57_spec _ _ _ hg
  · cases h
/-! ### loop.example/g00465/impl.PutPtr$1 -/
noncomputable def f55c : Code := (Try.f55.body).getD .skip
def f55k : Nat → Kp := kat [⟨[1, 2, 3, 5], [], [], []⟩, ⟨[1, 2, 3, 5, 10], [], [], []⟩, ⟨[5, 6], [], [], []⟩, ⟨[1, 2, 3, 5, 7, 8], [], [], []⟩, ⟨[2, 3, 5, 7, 8, 21], [], [], []⟩, ⟨[2, 3, 5, 7, 8], [], [], []⟩, ⟨[2, 3, 5, 7, 38], [], [], []⟩, ⟨[5, 6], [], [], []⟩, ⟨[2, 3, 5, 7], [], [], []⟩, ⟨[3, 5], [], [], []⟩, ⟨[5, 6], [], [], []⟩]
noncomputable def f55e : Env := tab.env [(46, s46), (56, s56), (57, s57), (58, s58), (59, s59)]
theorem f55_run {R : Type} (n : Nat) (k : List Dt → Option R) (a0 : NodeT) (a1 : ByteArray) (a2 : NodeT) : evFn f55e f55k n f55c [.ro, .ro, .pro] [false, false] true [.cell 5 31, .tmp 6] [31, 4] [.d .node a0, .d .str a1, .d .node a2] k =
    (cond (isMapN (eN a0))
    (cond (gS3 (eN a0) a1 (eN a2))
      (k [.d .node (eN (setK (eN a0) a1 (eN a2))), .d .bool true])
      none)
    (cond (sEq a1 (bs [45]))
      (cond ((NodeT.kind a0) != (4 : Int))
        (k [.d .node (⟨(0 : Int), (0 : Int), ByteArray.empty, ([] : List ByteArray), ([] : List NodeT)⟩ : NodeT), .d .bool false])
        (cond (decide (((NodeT.kids a0).length : Int) > ((NodeT.kids a0).length : Int)))
          (k [.d .node (⟨(0 : Int), (0 : Int), ByteArray.empty, ([] : List ByteArray), ([] : List NodeT)⟩ : NodeT), .d .bool false])
          (cond (sm_node (eN a0))
            (cond (sm_node (eN a2))
              (cond (gIns (NodeT.kids a0) ((NodeT.kids a0).length : Int) ([(eN a2)] : List NodeT))
                (k [.d .node (⟨(NodeT.kind a0), (NodeT.n a0), (NodeT.s a0), (NodeT.keys a0), (insL (NodeT.kids a0) ((NodeT.kids a0).length : Int) ([(eN a2)] : List NodeT))⟩ : NodeT), .d .bool true])
                none)
              none)
            none)))
      (cond ((NodeT.kind a0) != (4 : Int))
        (k [.d .node (⟨(0 : Int), (0 : Int), ByteArray.empty, ([] : List ByteArray), ([] : List NodeT)⟩ : NodeT), .d .bool false])
        (cond (!((natS a1).2))
          (k [.d .node (⟨(0 : Int), (0 : Int), ByteArray.empty, ([] : List ByteArray), ([] : List NodeT)⟩ : NodeT), .d .bool false])
          (cond (decide (((natS a1).1) > ((NodeT.kids a0).length : Int)))
            (k [.d .node (⟨(0 : Int), (0 : Int), ByteArray.empty, ([] : List ByteArray), ([] : List NodeT)⟩ : NodeT), .d .bool false])
            (cond (sm_node (eN a0))
              (cond (sm_node (eN a2))
                (cond (gIns (NodeT.kids a0) ((natS a1).1) ([(eN a2)] : List NodeT))
                  (k [.d .node (⟨(NodeT.kind a0), (NodeT.n a0), (NodeT.s a0), (NodeT.keys a0), (insL (NodeT.kids a0) ((natS a1).1) ([(eN a2)] : List NodeT))⟩ : NodeT), .d .bool true])
                  none)
                none)
              none)))))) := by kernel_rfl
theorem f55_spec (a0 : NodeT) (a1 : ByteArray) (a2 : NodeT) (hg : gS3 a0 a1 a2 = true) : ∃ keep rounds, ∀ {R : Type} (k : List Dt → Option R), evFn f55e keep rounds f55c [.ro, .ro, .pro] [false, false] true [.cell 5 31, .tmp 6] [31, 4] [.d .node a0, .d .str a1, .d .node a2] k = k [.d .node ((putLast a0 a1 a2).1), .d .bool ((putLast a0 a1 a2).2)] := by
  have hg3 := hg
  simp only [gS3, Bool.and_eq_true] at hg
  obtain ⟨hg, hs1, hx2⟩ := hg
  have hg0 := hg
  rw [sm_node_def] at hg
  simp only [Bool.and_eq_true] at hg
  obtain ⟨_, _, _, hke, hki⟩ := hg
  have nke := smL_len hke
  have nki := smL_len hki
  refine ⟨f55k, 0, fun {R} k => ?_⟩
  rw [f55_run]
  simp only [eta_node, eN_eq, hg0, hx2, hg3, cond_true]
  show _ = k [.d .node (putLast a0 a1 a2).1, .d .bool (putLast a0 a1 a2).2]
  unfold putLast
  cases hm : isMapN a0
  rotate_left
  · rfl
  simp only [cond_false]
  cases h4 : a0.kind == (4 : Int)
  · rw [show (a0.kind != (4 : Int)) = true by simp only [bne, h4]; rfl]
    simp only [cond_true, cond_false]
    cases sEq a1 (bs [45]) <;> rfl
  rw [show (a0.kind != (4 : Int)) = false by simp only [bne, h4]; rfl]
  simp only [cond_true, cond_false]
  cases hd : sEq a1 dash
  · have hs := slot_impl (t := a0) (p := a1) nki hd
    rw [show sEq a1 (bs [45]) = false from hd]
    simp only [cond_false]
    cases h1 : (natS a1).2
    · rw [h1] at hs; simp only [Bool.not_false, cond_true] at hs ⊢
      rw [← hs]; rfl
    · rw [h1] at hs; simp only [Bool.not_true, cond_false] at hs ⊢
      by_cases h2 : (natS a1).1 > (a0.kids.length : Int)
      · rw [decide_eq_true h2] at hs ⊢; simp only [cond_true] at hs ⊢
        rw [← hs]; rfl
      · rw [decide_eq_false h2] at hs ⊢; simp only [cond_false] at hs ⊢
        have h0 := natS_nonneg h1
        obtain ⟨i, ei⟩ := Int.eq_ofNat_of_zero_le h0
        have g : gIns a0.kids (natS a1).1 [a2] = true := gIns_one ei (by omega) nki
        rw [← hs, decide_eq_false (show ¬ (natS a1).1 < 0 by omega)]
        simp only [g, cond_true, cond_false]; rfl
  · rw [show sEq a1 (bs [45]) = true from hd]
    have hs : slotAt a0 a1 = (a0.kids.length : Int) := by unfold slotAt; rw [slot_dash hd]; rfl
    have g : gIns a0.kids (a0.kids.length : Int) [a2] = true := gIns_one rfl (Nat.le_refl _) nki
    rw [hs, decide_eq_false (show ¬ ((a0.kids.length : Int) > (a0.kids.length : Int)) by omega), decide_eq_false (show ¬ ((a0.kids.length : Int) < 0) by omega)]
    simp only [g, cond_true, cond_false]; rfl

noncomputable def q55 : List Dt → Option (Bool × List Dt)
  | [.d .node a0, .d .str a1, .d .node a2] => some ((gS3 a0 a1 a2), [.d .node ((putLast a0 a1 a2).1), .d .bool ((putLast a0 a1 a2).2)])
  | _ => none
noncomputable def s55 : Gm.Spec := Gm.Spec.of [.ro, .ro, .pro] [false, false] true q55
theorem good55 : Gm.Good Try.prog (55, s55) := by
  have hl : ∀ x ∈ [(46, s46), (56, s56), (57, s57), (58, s58), (59, s59)], Gm.Good Try.prog x := List.forall_mem_cons.2 ⟨good46, List.forall_mem_cons.2 ⟨good56, List.forall_mem_cons.2 ⟨good57, List.forall_mem_cons.2 ⟨good58, List.forall_mem_cons.2 ⟨good59, List.forall_mem_nil _⟩⟩⟩⟩⟩
  refine ⟨⟨spec_ok (tab_ok.env hl) (tab.natl hl) Try.func55 (by kernel_rfl : Try.f55.body = some f55c) [31, 4] (by kernel_rfl) ?_, _, Try.func55, by kernel_rfl, of_decide_eq_true (by kernel_rfl)⟩, Gm.Spec.of_natl _ _ _ _⟩
  intro ds outs h
  unfold q55 at h
  split at h
  · simp only [Option.some.injEq, Prod.mk.injEq] at h; obtain ⟨hg, h⟩ := h; cases h; exact f55_spec _ _ _ hg
  · cases h
end Go.Proofs.Ytinbejnakemfjaa

/- x -/
namespace Go.Proofs.Ytinbejnakemfjaa
open Go Go.Gm
noncomputable def q69a : List Dt → Option (Bool × List Dt)
  | [.d .node a0, .d (.sl .str) a1, .clo 51 []] => some ((gW a0 a1), [.d .node ((cutIn a0 a1).1), .d .bool ((cutIn a0 a1).2)])
  | _ => none
noncomputable def mu69a : List Dt → Nat
  | [.d .node a0, .d (.sl .str) a1, .clo 51 []] => (fun (_ : NodeT) (p : List ByteArray) => p.length) a0 a1
  | _ => 0
noncomputable def s69ar (N : Nat) : Gm.Spec := Gm.Spec.of [.ro, .ro, .fn] [false, false] true (qlt mu69a N q69a)
/-! ### loop.example/g00465/impl.within -/
noncomputable def f69ac : Code := (Try.f69.body).getD .skip
def f69ak : Nat → Kp := kat [⟨[1, 2, 3, 6], [], [], []⟩, ⟨[1, 2, 3, 6, 13], [], [], []⟩, ⟨[6, 7], [], [], []⟩, ⟨[1, 2, 3, 6, 8], [], [], []⟩, ⟨[1, 2, 3, 6, 8, 28], [], [], []⟩, ⟨[6, 7], [], [], []⟩, ⟨[3, 6, 8, 9, 10], [], [], []⟩, ⟨[3, 6, 8, 9, 43], [], [], []⟩, ⟨[6, 7], [], [], []⟩, ⟨[3, 6, 8, 9], [], [], []⟩, ⟨[3, 6], [], [], []⟩, ⟨[6, 7], [], [], []⟩]
noncomputable def f69ae (N : Nat) : Env := tab.env [(45, s45), (46, s46), (51, s51), (69, s69ar N)]
noncomputable def f69av0 (a0 : NodeT) (a1 : List ByteArray) : List NodeT :=
  ((NodeT.kids a0).set (Int.toNat (kidAt (eN a0) (atI (t := .str) a1 0))) (eN ((cutIn (eN (atI (t := .node) (NodeT.kids a0) (Int.toNat (kidAt (eN a0) (atI (t := .str) a1 0))))) ((a1.take (Int.toNat (a1.length : Int))).drop 1)).1)))
theorem f69a_run {R : Type} (N : Nat) (n : Nat) (k : List Dt → Option R) (a0 : NodeT) (a1 : List ByteArray) : evFn (f69ae N) f69ak n f69ac [.ro, .ro, .fn] [false, false] true [.cell 6 31, .tmp 7] [31, 4] [.d .node a0, .d (.sl .str) a1, .clo 51 []] k =
    (cond ((a1.length : Int) == (1 : Int))
    (cond (decide ((0 : Int) < (a1.length : Int)))
      (cond ((fun (x : NodeT) (_ : ByteArray) => sm_node x) (eN a0) (atI (t := .str) a1 0))
        (k [.d .node (eN ((cutLast (eN a0) (atI (t := .str) a1 0)).1)), .d .bool ((cutLast (eN a0) (atI (t := .str) a1 0)).2)])
        none)
      none)
    (cond (decide ((0 : Int) < (a1.length : Int)))
      (cond ((fun (x : NodeT) (_ : ByteArray) => sm_node x) (eN a0) (atI (t := .str) a1 0))
        (cond (decide ((kidAt (eN a0) (atI (t := .str) a1 0)) < (0 : Int)))
          (k [.d .node (⟨(0 : Int), (0 : Int), ByteArray.empty, ([] : List ByteArray), ([] : List NodeT)⟩ : NodeT), .d .bool false])
          (cond ((decide ((0 : Int) ≤ (kidAt (eN a0) (atI (t := .str) a1 0)))) && (decide ((kidAt (eN a0) (atI (t := .str) a1 0)) < ((NodeT.kids a0).length : Int))))
            (cond ((decide ((1 : Int) ≤ (a1.length : Int))) && (decide ((a1.length : Int) ≤ (a1.length : Int))))
              (cond ((gW (eN (atI (t := .node) (NodeT.kids a0) (Int.toNat (kidAt (eN a0) (atI (t := .str) a1 0))))) ((a1.take (Int.toNat (a1.length : Int))).drop 1)) && (Nat.blt ((fun (_ : NodeT) (p : List ByteArray) => p.length) (eN (atI (t := .node) (NodeT.kids a0) (Int.toNat (kidAt (eN a0) (atI (t := .str) a1 0))))) ((a1.take (Int.toNat (a1.length : Int))).drop 1)) N))
                (cond (!((cutIn (eN (atI (t := .node) (NodeT.kids a0) (Int.toNat (kidAt (eN a0) (atI (t := .str) a1 0))))) ((a1.take (Int.toNat (a1.length : Int))).drop 1)).2))
                  (k [.d .node (⟨(0 : Int), (0 : Int), ByteArray.empty, ([] : List ByteArray), ([] : List NodeT)⟩ : NodeT), .d .bool false])
                  (cond (sm_node (eN a0))
                    (cond ((decide ((0 : Int) ≤ (kidAt (eN a0) (atI (t := .str) a1 0)))) && (decide ((kidAt (eN a0) (atI (t := .str) a1 0)) < ((NodeT.kids a0).length : Int))))
                      (k [.d .node (⟨(NodeT.kind a0), (NodeT.n a0), (NodeT.s a0), (NodeT.keys a0), (f69av0 a0 a1)⟩ : NodeT), .d .bool true])
                      none)
                    none))
                none)
              none)
            none))
        none)
      none)) := by kernel_rfl
theorem f69a_spec (N : Nat) (a0 : NodeT) (a1 : List ByteArray) (hg : gW a0 a1 = true) (hm : mu69a [.d .node a0, .d (.sl .str) a1, .clo 51 []] = N) : ∃ keep rounds, ∀ {R : Type} (k : List Dt → Option R), evFn (f69ae N) keep rounds f69ac [.ro, .ro, .fn] [false, false] true [.cell 6 31, .tmp 7] [31, 4] [.d .node a0, .d (.sl .str) a1, .clo 51 []] k = k [.d .node ((cutIn a0 a1).1), .d .bool ((cutIn a0 a1).2)] := by
  have hm : a1.length = N := hm
  subst hm
  simp only [gW, Bool.and_eq_true] at hg
  obtain ⟨hg, hpa, hne⟩ := hg
  have hg0 := hg
  rw [sm_node_def] at hg
  simp only [Bool.and_eq_true] at hg
  obtain ⟨_, _, _, hke, hki⟩ := hg
  have nke := smL_len hke
  have nki := smL_len hki
  refine ⟨f69ak, 0, fun {R} k => ?_⟩
  rw [f69a_run]
  show _ = k [.d .node (cutIn a0 a1).1, .d .bool (cutIn a0 a1).2]
  match a1, hpa, hne with
  | [], _, hne => cases hne
  | [p], _, _ =>
    simp only [eta_node, eN_eq, hg0, cutIn]
    rfl
  | p :: q :: r, hpa, _ =>
    have l0 : decide ((0 : Int) < ((p :: q :: r).length : Int)) = true := decide_eq_true (by simp only [List.length_cons]; omega)
    have l1 : (((p :: q :: r).length : Int) == (1 : Int)) = false := by rw [beq_eq_false_iff_ne]; simp only [List.length_cons]; omega
    have l2 : decide ((1 : Int) ≤ ((p :: q :: r).length : Int)) = true := decide_eq_true (by simp only [List.length_cons]; omega)
    have l3 : decide (((p :: q :: r).length : Int) ≤ ((p :: q :: r).length : Int)) = true := decide_eq_true (Int.le_refl _)
    have l4 : ((p :: q :: r).take (Int.toNat ((p :: q :: r).length : Int))).drop 1 = q :: r := by rw [Int.toNat_natCast, List.take_length]; rfl
    have l5 : atI (t := .str) (p :: q :: r) 0 = p := rfl
    have l6 : Nat.blt (q :: r).length (p :: q :: r).length = true := by rw [Nat.blt_eq]; simp only [List.length_cons]; omega
    have l7 : (((p :: q :: r).length : Int) == (0 : Int)) = false := by rw [beq_eq_false_iff_ne]; simp only [List.length_cons]; omega
    have l8 : decide (((p :: q :: r).length : Int) > (1 : Int)) = true := decide_eq_true (by simp only [List.length_cons]; omega)
    have hqr : smL smStr (q :: r) = true := smL_tail hpa
    simp only [eta_node, eN_eq, hg0, l0, l1, l5, cond_true, cond_false]
    rw [cutIn]
    by_cases hk : kidAt a0 p < 0
    · rw [decide_eq_true hk]; rfl
    obtain ⟨i, e, h1⟩ := kidAt_bd hk
    obtain ⟨i1, i0, _, it⟩ := idx h1 (by omega)
    have hx := atI_lt (t := .node) h1
    have hgk : gW (atI (t := .node) a0.kids i) (q :: r) = true := by
      simp only [gW, Bool.and_eq_true]
      exact ⟨sm_kid hg0 (List.mem_of_getElem? hx), hqr, rfl⟩
    simp only [decide_eq_false hk, f69av0, eta_node, eN_eq, l2, l3, l4, l5, l6, hgk, e, i1, i0, it, Bool.and_self, cond_true, cond_false]
    cases (cutIn (atI (t := .node) a0.kids i) (q :: r)).2 <;> rfl

noncomputable def s69a : Gm.Spec := Gm.Spec.of [.ro, .ro, .fn] [false, false] true q69a
theorem good69a : Gm.Good Try.prog (69, s69a) := by
  refine ⟨⟨spec_rec mu69a fun N hr => ?_, _, Try.func69, by kernel_rfl, of_decide_eq_true (by kernel_rfl)⟩, Gm.Spec.of_natl _ _ _ _⟩
  have hl : ∀ x ∈ [(45, s45), (46, s46), (51, s51), (69, s69ar N)], Gm.Good Try.prog x := List.forall_mem_cons.2 ⟨good45, List.forall_mem_cons.2 ⟨good46, List.forall_mem_cons.2 ⟨good51, List.forall_mem_cons.2 ⟨⟨⟨hr, _, Try.func69, by kernel_rfl, of_decide_eq_true (by kernel_rfl)⟩, Gm.Spec.of_natl _ _ _ _⟩, List.forall_mem_nil _⟩⟩⟩⟩
  intro R
  refine spec_ok (E := f69ae N) (tab_ok.env hl) (tab.natl hl) Try.func69 (by kernel_rfl : Try.f69.body = some f69ac) [31, 4] (by kernel_rfl) ?_
  intro ds outs h
  obtain ⟨h, hm⟩ := qeq_some h
  unfold q69a at h
  split at h
  · simp only [Option.some.injEq, Prod.mk.injEq] at h; obtain ⟨hg, h⟩ := h; cases h; exact f69a_spec N _ _ hg hm
  · cases h

noncomputable def q69b : List Dt → Option (Bool × List Dt)
  | [.d .node a0, .d (.sl .str) a1, .clo 55 [⟨.node, a2⟩]] => some ((gPW a0 a1 a2), [.d .node ((putIn a0 a1 a2).1), .d .bool ((putIn a0 a1 a2).2)])
  | _ => none
noncomputable def mu69b : List Dt → Nat
  | [.d .node a0, .d (.sl .str) a1, .clo 55 [⟨.node, a2⟩]] => (fun (_ : NodeT) (p : List ByteArray) (_ : NodeT) => p.length) a0 a1 a2
  | _ => 0
noncomputable def s69br (N : Nat) : Gm.Spec := Gm.Spec.of [.ro, .ro, .fn] [false, false] true (qlt mu69b N q69b)
/-! ### loop.example/g00465/impl.within -/
noncomputable def f69bc : Code := (Try.f69.body).getD .skip
def f69bk : Nat → Kp := kat [⟨[1, 2, 3, 6], [], [], []⟩, ⟨[1, 2, 3, 6, 13], [], [], []⟩, ⟨[6, 7], [], [], []⟩, ⟨[1, 2, 3, 6, 8], [], [], []⟩, ⟨[1, 2, 3, 6, 8, 28], [], [], []⟩, ⟨[6, 7], [], [], []⟩, ⟨[3, 6, 8, 9, 10], [], [], []⟩, ⟨[3, 6, 8, 9, 43], [], [], []⟩, ⟨[6, 7], [], [], []⟩, ⟨[3, 6, 8, 9], [], [], []⟩, ⟨[3, 6], [], [], []⟩, ⟨[6, 7], [], [], []⟩]
noncomputable def f69be (N : Nat) : Env := tab.env [(45, s45), (46, s46), (55, s55), (69, s69br N)]
noncomputable def f69bv0 (a0 : NodeT) (a1 : List ByteArray) (a2 : NodeT) : List NodeT :=
  ((NodeT.kids a0).set (Int.toNat (kidAt (eN a0) (atI (t := .str) a1 0))) (eN ((putIn (eN (atI (t := .node) (NodeT.kids a0) (Int.toNat (kidAt (eN a0) (atI (t := .str) a1 0))))) ((a1.take (Int.toNat (a1.length : Int))).drop 1) a2).1)))
theorem f69b_run {R : Type} (N : Nat) (n : Nat) (k : List Dt → Option R) (a0 : NodeT) (a1 : List ByteArray) (a2 : NodeT) : evFn (f69be N) f69bk n f69bc [.ro, .ro, .fn] [false, false] true [.cell 6 31, .tmp 7] [31, 4] [.d .node a0, .d (.sl .str) a1, .clo 55 [⟨.node, a2⟩]] k =
    (cond ((a1.length : Int) == (1 : Int))
    (cond (decide ((0 : Int) < (a1.length : Int)))
      (cond (gS3 (eN a0) (atI (t := .str) a1 0) a2)
        (k [.d .node (eN ((putLast (eN a0) (atI (t := .str) a1 0) a2).1)), .d .bool ((putLast (eN a0) (atI (t := .str) a1 0) a2).2)])
        none)
      none)
    (cond (decide ((0 : Int) < (a1.length : Int)))
      (cond ((fun (x : NodeT) (_ : ByteArray) => sm_node x) (eN a0) (atI (t := .str) a1 0))
        (cond (decide ((kidAt (eN a0) (atI (t := .str) a1 0)) < (0 : Int)))
          (k [.d .node (⟨(0 : Int), (0 : Int), ByteArray.empty, ([] : List ByteArray), ([] : List NodeT)⟩ : NodeT), .d .bool false])
          (cond ((decide ((0 : Int) ≤ (kidAt (eN a0) (atI (t := .str) a1 0)))) && (decide ((kidAt (eN a0) (atI (t := .str) a1 0)) < ((NodeT.kids a0).length : Int))))
            (cond ((decide ((1 : Int) ≤ (a1.length : Int))) && (decide ((a1.length : Int) ≤ (a1.length : Int))))
              (cond ((gPW (eN (atI (t := .node) (NodeT.kids a0) (Int.toNat (kidAt (eN a0) (atI (t := .str) a1 0))))) ((a1.take (Int.toNat (a1.length : Int))).drop 1) a2) && (Nat.blt ((fun (_ : NodeT) (p : List ByteArray) (_ : NodeT) => p.length) (eN (atI (t := .node) (NodeT.kids a0) (Int.toNat (kidAt (eN a0) (atI (t := .str) a1 0))))) ((a1.take (Int.toNat (a1.length : Int))).drop 1) a2) N))
                (cond (!((putIn (eN (atI (t := .node) (NodeT.kids a0) (Int.toNat (kidAt (eN a0) (atI (t := .str) a1 0))))) ((a1.take (Int.toNat (a1.length : Int))).drop 1) a2).2))
                  (k [.d .node (⟨(0 : Int), (0 : Int), ByteArray.empty, ([] : List ByteArray), ([] : List NodeT)⟩ : NodeT), .d .bool false])
                  (cond (sm_node (eN a0))
                    (cond ((decide ((0 : Int) ≤ (kidAt (eN a0) (atI (t := .str) a1 0)))) && (decide ((kidAt (eN a0) (atI (t := .str) a1 0)) < ((NodeT.kids a0).length : Int))))
                      (k [.d .node (⟨(NodeT.kind a0), (NodeT.n a0), (NodeT.s a0), (NodeT.keys a0), (f69bv0 a0 a1 a2)⟩ : NodeT), .d .bool true])
                      none)
                    none))
                none)
              none)
            none))
        none)
      none)) := by kernel_rfl
theorem f69b_spec (N : Nat) (a0 : NodeT) (a1 : List ByteArray) (a2 : NodeT) (hg : gPW a0 a1 a2 = true) (hm : mu69b [.d .node a0, .d (.sl .str) a1, .clo 55 [⟨.node, a2⟩]] = N) : ∃ keep rounds, ∀ {R : Type} (k : List Dt → Option R), evFn (f69be N) keep rounds f69bc [.ro, .ro, .fn] [false, false] true [.cell 6 31, .tmp 7] [31, 4] [.d .node a0, .d (.sl .str) a1, .clo 55 [⟨.node, a2⟩]] k = k [.d .node ((putIn a0 a1 a2).1), .d .bool ((putIn a0 a1 a2).2)] := by
  have hm : a1.length = N := hm
  subst hm
  simp only [gPW, gP, Bool.and_eq_true] at hg
  obtain ⟨⟨hg, hpa, hx2⟩, hne⟩ := hg
  have hg0 := hg
  rw [sm_node_def] at hg
  simp only [Bool.and_eq_true] at hg
  obtain ⟨_, _, _, hke, hki⟩ := hg
  have nke := smL_len hke
  have nki := smL_len hki
  refine ⟨f69bk, 0, fun {R} k => ?_⟩
  rw [f69b_run]
  show _ = k [.d .node (putIn a0 a1 a2).1, .d .bool (putIn a0 a1 a2).2]
  match a1, hpa, hne with
  | [], _, hne => cases hne
  | [p], hpa, _ =>
    have hg3 : gS3 a0 p a2 = true := by simp only [gS3, Bool.and_eq_true]; exact ⟨hg0, smL_head hpa, hx2⟩
    have e5 : atI (t := .str) [p] 0 = p := rfl
    simp only [eta_node, eN_eq, e5, hg3, putIn]
    rfl
  | p :: q :: r, hpa, _ =>
    have l0 : decide ((0 : Int) < ((p :: q :: r).length : Int)) = true := decide_eq_true (by simp only [List.length_cons]; omega)
    have l1 : (((p :: q :: r).length : Int) == (1 : Int)) = false := by rw [beq_eq_false_iff_ne]; simp only [List.length_cons]; omega
    have l2 : decide ((1 : Int) ≤ ((p :: q :: r).length : Int)) = true := decide_eq_true (by simp only [List.length_cons]; omega)
    have l3 : decide (((p :: q :: r).length : Int) ≤ ((p :: q :: r).length : Int)) = true := decide_eq_true (Int.le_refl _)
    have l4 : ((p :: q :: r).take (Int.toNat ((p :: q :: r).length : Int))).drop 1 = q :: r := by rw [Int.toNat_natCast, List.take_length]; rfl
    have l5 : atI (t := .str) (p :: q :: r) 0 = p := rfl
    have l6 : Nat.blt (q :: r).length (p :: q :: r).length = true := by rw [Nat.blt_eq]; simp only [List.length_cons]; omega
    have l7 : (((p :: q :: r).length : Int) == (0 : Int)) = false := by rw [beq_eq_false_iff_ne]; simp only [List.length_cons]; omega
    have l8 : decide (((p :: q :: r).length : Int) > (1 : Int)) = true := decide_eq_true (by simp only [List.length_cons]; omega)
    have hqr : smL smStr (q :: r) = true := smL_tail hpa
    simp only [eta_node, eN_eq, hg0, l0, l1, l5, cond_true, cond_false]
    rw [putIn]
    by_cases hk : kidAt a0 p < 0
    · rw [decide_eq_true hk]; rfl
    obtain ⟨i, e, h1⟩ := kidAt_bd hk
    obtain ⟨i1, i0, _, it⟩ := idx h1 (by omega)
    have hx := atI_lt (t := .node) h1
    have hgk : gPW (atI (t := .node) a0.kids i) (q :: r) a2 = true := by
      simp only [gPW, gP, Bool.and_eq_true]
      exact ⟨⟨sm_kid hg0 (List.mem_of_getElem? hx), hqr, hx2⟩, rfl⟩
    simp only [decide_eq_false hk, f69bv0, eta_node, eN_eq, l2, l3, l4, l5, l6, hgk, e, i1, i0, it, Bool.and_self, cond_true, cond_false]
    cases (putIn (atI (t := .node) a0.kids i) (q :: r) a2).2 <;> rfl

noncomputable def s69b : Gm.Spec := Gm.Spec.of [.ro, .ro, .fn] [false, false] true q69b
theorem good69b : Gm.Good Try.prog (69, s69b) := by
  refine ⟨⟨spec_rec mu69b fun N hr => ?_, _, Try.func69, by kernel_rfl, of_decide_eq_true (by kernel_rfl)⟩, Gm.Spec.of_natl _ _ _ _⟩
  have hl : ∀ x ∈ [(45, s45), (46, s46), (55, s55), (69, s69br N)], Gm.Good Try.prog x := List.forall_mem_cons.2 ⟨good45, List.forall_mem_cons.2 ⟨good46, List.forall_mem_cons.2 ⟨good55, List.forall_mem_cons.2 ⟨⟨⟨hr, _, Try.func69, by kernel_rfl, of_decide_eq_true (by kernel_rfl)⟩, Gm.Spec.of_natl _ _ _ _⟩, List.forall_mem_nil _⟩⟩⟩⟩
  intro R
  refine spec_ok (E := f69be N) (tab_ok.env hl) (tab.natl hl) Try.func69 (by kernel_rfl : Try.f69.body = some f69bc) [31, 4] (by kernel_rfl) ?_
  intro ds outs h
  obtain ⟨h, hm⟩ := qeq_some h
  unfold q69b at h
  split at h
  · simp only [Option.some.injEq, Prod.mk.injEq] at h; obtain ⟨hg, h⟩ := h; cases h; exact f69b_spec N _ _ _ hg hm
  · cases h

noncomputable def q69 : List Dt → Option (Bool × List Dt) := fun ds => (match q69a ds with | some r => some r | none => (match q69b ds with | some r => some r | none => none))
noncomputable def s69 : Gm.Spec := Gm.Spec.of [.ro, .ro, .fn] [false, false] true q69
theorem good69 : Gm.Good Try.prog (69, s69) := by
  refine ⟨⟨spec_part (q := q69) ?_, good69a.1.2⟩, Gm.Spec.of_natl _ _ _ _⟩
  intro ds outs h
  unfold q69 at h
  cases ha : q69a ds with
  | some r =>
    simp only [ha] at h
    exact ⟨q69a, good69a.1.1, by rw [ha]; exact h⟩
  | none =>
  simp only [ha] at h
  cases hb : q69b ds with
  | some r =>
    simp only [hb] at h
    exact ⟨q69b, good69b.1.1, by rw [hb]; exact h⟩
  | none =>
  simp only [hb] at h
  cases h
/-! ### loop.example/g00465/impl.changedAt -/
noncomputable def f50ac : Code := (Try.f50.body).getD .skip
def f50ak : Nat → Kp := kat [⟨[1, 2, 3, 6], [], [], []⟩, ⟨[3, 6, 8, 9], [], [], []⟩, ⟨[3, 6, 8, 18], [], [], []⟩, ⟨[6, 7], [], [], []⟩, ⟨[6, 7], [], [], []⟩]
noncomputable def f50ae : Env := tab.env [(46, s46), (51, s51), (69, s69)]
theorem f50a_run {R : Type} (n : Nat) (k : List Dt → Option R) (a0 : NodeT) (a1 : List ByteArray) : evFn f50ae f50ak n f50ac [.ro, .ro, .fn] [false, false] true [.cell 6 31, .tmp 7] [31, 4] [.d .node a0, .d (.sl .str) a1, .clo 51 []] k =
    (cond (gW (eN a0) a1)
    (cond (!((cutIn (eN a0) a1).2))
      (cond (sm_node (eN a0))
        (k [.d .node (eN a0), .d .bool false])
        none)
      (k [.d .node (eN ((cutIn (eN a0) a1).1)), .d .bool true]))
    none) := by kernel_rfl
theorem f50a_spec (a0 : NodeT) (a1 : List ByteArray) (hg : gW a0 a1 = true) : ∃ keep rounds, ∀ {R : Type} (k : List Dt → Option R), evFn f50ae keep rounds f50ac [.ro, .ro, .fn] [false, false] true [.cell 6 31, .tmp 7] [31, 4] [.d .node a0, .d (.sl .str) a1, .clo 51 []] k = k [.d .node ((cutAt a0 a1).1), .d .bool ((cutAt a0 a1).2)] := by
  refine ⟨f50ak, 0, fun {R} k => ?_⟩
  rw [f50a_run]
  have hs : sm_node a0 = true := by simp only [gW, Bool.and_eq_true] at hg; exact hg.1
  simp only [eta_node, eN_eq, hg, hs, cond_true]
  show _ = k [.d .node (cutAt a0 a1).1, .d .bool (cutAt a0 a1).2]
  unfold cutAt
  cases (cutIn a0 a1).2 <;> rfl

noncomputable def q50a : List Dt → Option (Bool × List Dt)
  | [.d .node a0, .d (.sl .str) a1, .clo 51 []] => some ((gW a0 a1), [.d .node ((cutAt a0 a1).1), .d .bool ((cutAt a0 a1).2)])
  | _ => none
noncomputable def s50a : Gm.Spec := Gm.Spec.of [.ro, .ro, .fn] [false, false] true q50a
theorem good50a : Gm.Good Try.prog (50, s50a) := by
  have hl : ∀ x ∈ [(46, s46), (51, s51), (69, s69)], Gm.Good Try.prog x := List.forall_mem_cons.2 ⟨good46, List.forall_mem_cons.2 ⟨good51, List.forall_mem_cons.2 ⟨good69, List.forall_mem_nil _⟩⟩⟩
  refine ⟨⟨spec_ok (tab_ok.env hl) (tab.natl hl) Try.func50 (by kernel_rfl : Try.f50.body = some f50ac) [31, 4] (by kernel_rfl) ?_, _, Try.func50, by kernel_rfl, of_decide_eq_true (by kernel_rfl)⟩, Gm.Spec.of_natl _ _ _ _⟩
  intro ds outs h
  unfold q50a at h
  split at h
  · simp only [Option.some.injEq, Prod.mk.injEq] at h; obtain ⟨hg, h⟩ := h; cases h; exact f50a_spec _ _ hg
  · cases h

/-! ### loop.example/g00465/impl.changedAt -/
noncomputable def f50bc : Code := (Try.f50.body).getD .skip
def f50bk : Nat → Kp := kat [⟨[1, 2, 3, 6], [], [], []⟩, ⟨[3, 6, 8, 9], [], [], []⟩, ⟨[3, 6, 8, 18], [], [], []⟩, ⟨[6, 7], [], [], []⟩, ⟨[6, 7], [], [], []⟩]
noncomputable def f50be : Env := tab.env [(46, s46), (55, s55), (69, s69)]
theorem f50b_run {R : Type} (n : Nat) (k : List Dt → Option R) (a0 : NodeT) (a1 : List ByteArray) (a2 : NodeT) : evFn f50be f50bk n f50bc [.ro, .ro, .fn] [false, false] true [.cell 6 31, .tmp 7] [31, 4] [.d .node a0, .d (.sl .str) a1, .clo 55 [⟨.node, a2⟩]] k =
    (cond (gPW (eN a0) a1 a2)
    (cond (!((putIn (eN a0) a1 a2).2))
      (cond (sm_node (eN a0))
        (k [.d .node (eN a0), .d .bool false])
        none)
      (k [.d .node (eN ((putIn (eN a0) a1 a2).1)), .d .bool true]))
    none) := by kernel_rfl
theorem f50b_spec (a0 : NodeT) (a1 : List ByteArray) (a2 : NodeT) (hg : gPW a0 a1 a2 = true) : ∃ keep rounds, ∀ {R : Type} (k : List Dt → Option R), evFn f50be keep rounds f50bc [.ro, .ro, .fn] [false, false] true [.cell 6 31, .tmp 7] [31, 4] [.d .node a0, .d (.sl .str) a1, .clo 55 [⟨.node, a2⟩]] k = k [.d .node ((putAtW a0 a1 a2).1), .d .bool ((putAtW a0 a1 a2).2)] := by
  refine ⟨f50bk, 0, fun {R} k => ?_⟩
  rw [f50b_run]
  have hs : sm_node a0 = true := by simp only [gPW, gP, Bool.and_eq_true] at hg; exact hg.1.1
  simp only [eta_node, eN_eq, hg, hs, cond_true]
  show _ = k [.d .node (putAtW a0 a1 a2).1, .d .bool (putAtW a0 a1 a2).2]
  unfold putAtW
  cases (putIn a0 a1 a2).2 <;> rfl

noncomputable def q50b : List Dt → Option (Bool × List Dt)
  | [.d .node a0, .d (.sl .str) a1, .clo 55 [⟨.node, a2⟩]] => some ((gPW a0 a1 a2), [.d .node ((putAtW a0 a1 a2).1), .d .bool ((putAtW a0 a1 a2).2)])
  | _ => none
noncomputable def s50b : Gm.Spec := Gm.Spec.of [.ro, .ro, .fn] [false, false] true q50b
theorem good50b : Gm.Good Try.prog (50, s50b) := by
  have hl : ∀ x ∈ [(46, s46), (55, s55), (69, s69)], Gm.Good Try.prog x := List.forall_mem_cons.2 ⟨good46, List.forall_mem_cons.2 ⟨good55, List.forall_mem_cons.2 ⟨good69, List.forall_mem_nil _⟩⟩⟩
  refine ⟨⟨spec_ok (tab_ok.env hl) (tab.natl hl) Try.func50 (by kernel_rfl : Try.f50.body = some f50bc) [31, 4] (by kernel_rfl) ?_, _, Try.func50, by kernel_rfl, of_decide_eq_true (by kernel_rfl)⟩, Gm.Spec.of_natl _ _ _ _⟩
  intro ds outs h
  unfold q50b at h
  split at h
  · simp only [Option.some.injEq, Prod.mk.injEq] at h; obtain ⟨hg, h⟩ := h; cases h; exact f50b_spec _ _ _ hg
  · cases h

noncomputable def q50 : List Dt → Option (Bool × List Dt) := fun ds => (match q50a ds with | some r => some r | none => (match q50b ds with | some r => some r | none => none))
noncomputable def s50 : Gm.Spec := Gm.Spec.of [.ro, .ro, .fn] [false, false] true q50
theorem good50 : Gm.Good Try.prog (50, s50) := by
  refine ⟨⟨spec_part (q := q50) ?_, good50a.1.2⟩, Gm.Spec.of_natl _ _ _ _⟩
  intro ds outs h
  unfold q50 at h
  cases ha : q50a ds with
  | some r =>
    simp only [ha] at h
    exact ⟨q50a, good50a.1.1, by rw [ha]; exact h⟩
  | none =>
  simp only [ha] at h
  cases hb : q50b ds with
  | some r =>
    simp only [hb] at h
    exact ⟨q50b, good50b.1.1, by rw [hb]; exact h⟩
  | none =>
  simp only [hb] at h
  cases h
end Go.Proofs.Ytinbejnakemfjaa

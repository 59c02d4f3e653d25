/- What the functions compute, part 1. No conditions. -/
import Derived.Test.YtalnkjjnohgjkaaGm4
import Derived.Test.YtalnkjjnohgjkaaRows
import Derived.Lib.Strings
import Derived.Lib.Slices
import Derived.Lib.SliceRun
import Derived.Lib.Walk
import Derived.WalkKit
import Derived.Deep.RegionLaw
import Derived.Lib.AppendZeros
import Derived.Laws.Externs
/- The table of types of the program, and that it is the program's. Printed by gev.py of this session. -/
namespace Go.Proofs.Ytalnkjjnohgjkaa
open Go Go.Gm
def tab : Tab := { code := [(2, (.i .i64)), (3, (.i .i64)), (4, .bool), (5, (.i .u8)), (6, (.i .u8)), (9, .str), (10, .str), (11, .str), (12, (.i .u64)), (21, (.i .i32)), (22, (.sl (.i .u8))), (24, (.sl .str)), (25, (.sl .node)), (27, .node), (35, .pop), (38, (.sl .pop)), (43, (.sl .node)), (45, .node), (54, .pop), (60, (.sl .pop)), (90, .cur), (94, (.sl (.i .i64))), (98, (.sl (.sl .str))), (115, (.i .u64)), (125, (.i .i64)), (133, (.i .u32)), (135, (.i .u64)), (137, (.i .u64)), (154, (.i .u8)), (155, (.i .u8)), (158, (.i .i32)), (159, (.i .i32))], eqs := [], fld := [(27, [(0, 3), (1, 3), (2, 9), (3, 24), (4, 25)]), (35, [(0, 3), (1, 24), (2, 24), (3, 27)]), (45, [(0, 3), (1, 3), (2, 9), (3, 24), (4, 43)]), (54, [(0, 3), (1, 24), (2, 24), (3, 45)]), (90, [(0, 22), (1, 3), (2, 3)])] }
theorem und2 : UndOk (tab.env []) Try.prog 2 (.i .i64) := (by kernel_rfl : Try.prog.underlying 2 = some (.int .i64))
theorem und3 : UndOk (tab.env []) Try.prog 3 (.i .i64) := (by kernel_rfl : Try.prog.underlying 3 = some (.int .i64))
theorem und4 : UndOk (tab.env []) Try.prog 4 .bool := (by kernel_rfl : Try.prog.underlying 4 = some .bool)
theorem und5 : UndOk (tab.env []) Try.prog 5 (.i .u8) := (by kernel_rfl : Try.prog.underlying 5 = some (.int .u8))
theorem und6 : UndOk (tab.env []) Try.prog 6 (.i .u8) := (by kernel_rfl : Try.prog.underlying 6 = some (.int .u8))
theorem und9 : UndOk (tab.env []) Try.prog 9 .str := (by kernel_rfl : Try.prog.underlying 9 = some .string)
theorem und10 : UndOk (tab.env []) Try.prog 10 .str := (by kernel_rfl : Try.prog.underlying 10 = some .string)
theorem und11 : UndOk (tab.env []) Try.prog 11 .str := (by kernel_rfl : Try.prog.underlying 11 = some .string)
theorem und12 : UndOk (tab.env []) Try.prog 12 (.i .u64) := (by kernel_rfl : Try.prog.underlying 12 = some (.int .u64))
theorem und21 : UndOk (tab.env []) Try.prog 21 (.i .i32) := (by kernel_rfl : Try.prog.underlying 21 = some (.int .i32))
theorem und22 : UndOk (tab.env []) Try.prog 22 (.sl (.i .u8)) := ⟨5, by kernel_rfl, by kernel_rfl⟩
theorem und24 : UndOk (tab.env []) Try.prog 24 (.sl .str) := ⟨9, by kernel_rfl, by kernel_rfl⟩
theorem und25 : UndOk (tab.env []) Try.prog 25 (.sl .node) := ⟨27, by kernel_rfl, by kernel_rfl⟩
theorem und27 : UndOk (tab.env []) Try.prog 27 .node := ⟨_, Try.underlying27⟩
theorem und35 : UndOk (tab.env []) Try.prog 35 .pop := ⟨_, Try.underlying35⟩
theorem und38 : UndOk (tab.env []) Try.prog 38 (.sl .pop) := ⟨35, by kernel_rfl, by kernel_rfl⟩
theorem und43 : UndOk (tab.env []) Try.prog 43 (.sl .node) := ⟨45, by kernel_rfl, by kernel_rfl⟩
theorem und45 : UndOk (tab.env []) Try.prog 45 .node := ⟨_, Try.underlying45⟩
theorem und54 : UndOk (tab.env []) Try.prog 54 .pop := ⟨_, Try.underlying54⟩
theorem und60 : UndOk (tab.env []) Try.prog 60 (.sl .pop) := ⟨54, by kernel_rfl, by kernel_rfl⟩
theorem und90 : UndOk (tab.env []) Try.prog 90 .cur := ⟨_, Try.underlying90⟩
theorem und94 : UndOk (tab.env []) Try.prog 94 (.sl (.i .i64)) := ⟨3, by kernel_rfl, by kernel_rfl⟩
theorem und98 : UndOk (tab.env []) Try.prog 98 (.sl (.sl .str)) := ⟨24, by kernel_rfl, by kernel_rfl⟩
theorem und115 : UndOk (tab.env []) Try.prog 115 (.i .u64) := (by kernel_rfl : Try.prog.underlying 115 = some (.int .u64))
theorem und125 : UndOk (tab.env []) Try.prog 125 (.i .i64) := (by kernel_rfl : Try.prog.underlying 125 = some (.int .i64))
theorem und133 : UndOk (tab.env []) Try.prog 133 (.i .u32) := (by kernel_rfl : Try.prog.underlying 133 = some (.int .u32))
theorem und135 : UndOk (tab.env []) Try.prog 135 (.i .u64) := (by kernel_rfl : Try.prog.underlying 135 = some (.int .u64))
theorem und137 : UndOk (tab.env []) Try.prog 137 (.i .u64) := (by kernel_rfl : Try.prog.underlying 137 = some (.int .u64))
theorem und154 : UndOk (tab.env []) Try.prog 154 (.i .u8) := (by kernel_rfl : Try.prog.underlying 154 = some (.int .u8))
theorem und155 : UndOk (tab.env []) Try.prog 155 (.i .u8) := (by kernel_rfl : Try.prog.underlying 155 = some (.int .u8))
theorem und158 : UndOk (tab.env []) Try.prog 158 (.i .i32) := (by kernel_rfl : Try.prog.underlying 158 = some (.int .i32))
theorem und159 : UndOk (tab.env []) Try.prog 159 (.i .i32) := (by kernel_rfl : Try.prog.underlying 159 = some (.int .i32))
theorem fld27 : ∃ fs : Array Field, Try.prog.underlying 27 = some (.struct fs) ∧ [(0, 3), (1, 3), (2, 9), (3, 24), (4, 25)] = fs.toList.map (fun f => (f.offset, f.type)) ∧ (∀ y ∈ ([(0, 3), (1, 3), (2, 9), (3, 24), (4, 25)] : List (Nat × Nat)), (aget tab.code y.2).isSome) ∧ (fs.toList.mapM (fun f => (Try.prog.info? f.type).map fun i => (f.offset, i.size))).isSome :=
  ⟨_, Try.underlying27, by kernel_rfl, List.all_eq_true.1 (by kernel_rfl), by kernel_rfl⟩
theorem fld35 : ∃ fs : Array Field, Try.prog.underlying 35 = some (.struct fs) ∧ [(0, 3), (1, 24), (2, 24), (3, 27)] = fs.toList.map (fun f => (f.offset, f.type)) ∧ (∀ y ∈ ([(0, 3), (1, 24), (2, 24), (3, 27)] : List (Nat × Nat)), (aget tab.code y.2).isSome) ∧ (fs.toList.mapM (fun f => (Try.prog.info? f.type).map fun i => (f.offset, i.size))).isSome :=
  ⟨_, Try.underlying35, by kernel_rfl, List.all_eq_true.1 (by kernel_rfl), by kernel_rfl⟩
theorem fld45 : ∃ fs : Array Field, Try.prog.underlying 45 = some (.struct fs) ∧ [(0, 3), (1, 3), (2, 9), (3, 24), (4, 43)] = fs.toList.map (fun f => (f.offset, f.type)) ∧ (∀ y ∈ ([(0, 3), (1, 3), (2, 9), (3, 24), (4, 43)] : List (Nat × Nat)), (aget tab.code y.2).isSome) ∧ (fs.toList.mapM (fun f => (Try.prog.info? f.type).map fun i => (f.offset, i.size))).isSome :=
  ⟨_, Try.underlying45, by kernel_rfl, List.all_eq_true.1 (by kernel_rfl), by kernel_rfl⟩
theorem fld54 : ∃ fs : Array Field, Try.prog.underlying 54 = some (.struct fs) ∧ [(0, 3), (1, 24), (2, 24), (3, 45)] = fs.toList.map (fun f => (f.offset, f.type)) ∧ (∀ y ∈ ([(0, 3), (1, 24), (2, 24), (3, 45)] : List (Nat × Nat)), (aget tab.code y.2).isSome) ∧ (fs.toList.mapM (fun f => (Try.prog.info? f.type).map fun i => (f.offset, i.size))).isSome :=
  ⟨_, Try.underlying54, by kernel_rfl, List.all_eq_true.1 (by kernel_rfl), by kernel_rfl⟩
theorem fld90 : ∃ fs : Array Field, Try.prog.underlying 90 = some (.struct fs) ∧ [(0, 22), (1, 3), (2, 3)] = fs.toList.map (fun f => (f.offset, f.type)) ∧ (∀ y ∈ ([(0, 22), (1, 3), (2, 3)] : List (Nat × Nat)), (aget tab.code y.2).isSome) ∧ (fs.toList.mapM (fun f => (Try.prog.info? f.type).map fun i => (f.offset, i.size))).isSome :=
  ⟨_, Try.underlying90, by kernel_rfl, List.all_eq_true.1 (by kernel_rfl), by kernel_rfl⟩
theorem tab_ok : tab.Ok Try.prog := {
  info := infoChk_ok (by kernel_rfl)
  und := List.forall_mem_cons.2 ⟨und2, List.forall_mem_cons.2 ⟨und3, List.forall_mem_cons.2 ⟨und4, List.forall_mem_cons.2 ⟨und5, List.forall_mem_cons.2 ⟨und6, List.forall_mem_cons.2 ⟨und9, List.forall_mem_cons.2 ⟨und10, List.forall_mem_cons.2 ⟨und11, List.forall_mem_cons.2 ⟨und12, List.forall_mem_cons.2 ⟨und21, List.forall_mem_cons.2 ⟨und22, List.forall_mem_cons.2 ⟨und24, List.forall_mem_cons.2 ⟨und25, List.forall_mem_cons.2 ⟨und27, List.forall_mem_cons.2 ⟨und35, List.forall_mem_cons.2 ⟨und38, List.forall_mem_cons.2 ⟨und43, List.forall_mem_cons.2 ⟨und45, List.forall_mem_cons.2 ⟨und54, List.forall_mem_cons.2 ⟨und60, List.forall_mem_cons.2 ⟨und90, List.forall_mem_cons.2 ⟨und94, List.forall_mem_cons.2 ⟨und98, List.forall_mem_cons.2 ⟨und115, List.forall_mem_cons.2 ⟨und125, List.forall_mem_cons.2 ⟨und133, List.forall_mem_cons.2 ⟨und135, List.forall_mem_cons.2 ⟨und137, List.forall_mem_cons.2 ⟨und154, List.forall_mem_cons.2 ⟨und155, List.forall_mem_cons.2 ⟨und158, List.forall_mem_cons.2 ⟨und159, List.forall_mem_nil _⟩⟩⟩⟩⟩⟩⟩⟩⟩⟩⟩⟩⟩⟩⟩⟩⟩⟩⟩⟩⟩⟩⟩⟩⟩⟩⟩⟩⟩⟩⟩⟩
  fld := List.forall_mem_cons.2 ⟨fld27, List.forall_mem_cons.2 ⟨fld35, List.forall_mem_cons.2 ⟨fld45, List.forall_mem_cons.2 ⟨fld54, List.forall_mem_cons.2 ⟨fld90, List.forall_mem_nil _⟩⟩⟩⟩⟩
  sts := List.forall_mem_cons.2 ⟨fun h => by first | (cases h; done) | (simp; done), List.forall_mem_cons.2 ⟨fun h => by first | (cases h; done) | (simp; done), List.forall_mem_cons.2 ⟨fun h => by first | (cases h; done) | (simp; done), List.forall_mem_cons.2 ⟨fun h => by first | (cases h; done) | (simp; done), List.forall_mem_cons.2 ⟨fun h => by first | (cases h; done) | (simp; done), List.forall_mem_cons.2 ⟨fun h => by first | (cases h; done) | (simp; done), List.forall_mem_cons.2 ⟨fun h => by first | (cases h; done) | (simp; done), List.forall_mem_cons.2 ⟨fun h => by first | (cases h; done) | (simp; done), List.forall_mem_cons.2 ⟨fun h => by first | (cases h; done) | (simp; done), List.forall_mem_cons.2 ⟨fun h => by first | (cases h; done) | (simp; done), List.forall_mem_cons.2 ⟨fun h => by first | (cases h; done) | (simp; done), List.forall_mem_cons.2 ⟨fun h => by first | (cases h; done) | (simp; done), List.forall_mem_cons.2 ⟨fun h => by first | (cases h; done) | (simp; done), List.forall_mem_cons.2 ⟨fun _ => by simp [tab], List.forall_mem_cons.2 ⟨fun _ => by simp [tab], List.forall_mem_cons.2 ⟨fun h => by first | (cases h; done) | (simp; done), List.forall_mem_cons.2 ⟨fun h => by first | (cases h; done) | (simp; done), List.forall_mem_cons.2 ⟨fun _ => by simp [tab], List.forall_mem_cons.2 ⟨fun _ => by simp [tab], List.forall_mem_cons.2 ⟨fun h => by first | (cases h; done) | (simp; done), List.forall_mem_cons.2 ⟨fun _ => by simp [tab], List.forall_mem_cons.2 ⟨fun h => by first | (cases h; done) | (simp; done), List.forall_mem_cons.2 ⟨fun h => by first | (cases h; done) | (simp; done), List.forall_mem_cons.2 ⟨fun h => by first | (cases h; done) | (simp; done), List.forall_mem_cons.2 ⟨fun h => by first | (cases h; done) | (simp; done), List.forall_mem_cons.2 ⟨fun h => by first | (cases h; done) | (simp; done), List.forall_mem_cons.2 ⟨fun h => by first | (cases h; done) | (simp; done), List.forall_mem_cons.2 ⟨fun h => by first | (cases h; done) | (simp; done), List.forall_mem_cons.2 ⟨fun h => by first | (cases h; done) | (simp; done), List.forall_mem_cons.2 ⟨fun h => by first | (cases h; done) | (simp; done), List.forall_mem_cons.2 ⟨fun h => by first | (cases h; done) | (simp; done), List.forall_mem_cons.2 ⟨fun h => by first | (cases h; done) | (simp; done), List.forall_mem_nil _⟩⟩⟩⟩⟩⟩⟩⟩⟩⟩⟩⟩⟩⟩⟩⟩⟩⟩⟩⟩⟩⟩⟩⟩⟩⟩⟩⟩⟩⟩⟩⟩
  eqs := List.forall_mem_nil _
  ord := by kernel_rfl }
end Go.Proofs.Ytalnkjjnohgjkaa

/- x -/
namespace Go.Proofs.Ytalnkjjnohgjkaa
open Go Go.Gm
/-! ### slices.Equal[[]string,string] -/
noncomputable def f42c : Code := (Try.f42.body).getD .skip
def f42k : Nat → Kp := kat [⟨[0, 1], [], [], []⟩, ⟨[0, 1, 10], [], [], []⟩, ⟨[4], [], [], []⟩, ⟨[0, 1, 12, 13], [], [], []⟩, ⟨[0, 1, 12, 13, 14], [], [], []⟩, ⟨[0, 1, 5, 12, 13], [], [], []⟩, ⟨[0, 1, 12, 13, 24], [], [], []⟩, ⟨[4], [], [], []⟩, ⟨[0, 1, 12, 13], [], [], []⟩, ⟨[4], [], [], []⟩]
noncomputable def f42e : Env := tab.env []
noncomputable def f42L0 {R : Type} (n : Nat) (x0 : Option R) (x1 : Int → Bool → Option R) (vs0 : List ByteArray) (vs1 : List ByteArray) (vs12 : Int) : Nat → Int → Option R
  | 0, _ => none
  | m + 1, vs13 =>
    (cond (decide (vs13 < vs12))
      (cond ((decide ((0 : Int) ≤ vs13)) && (decide (vs13 < (vs0.length : Int))))
        (cond ((decide ((0 : Int) ≤ vs13)) && (decide (vs13 < (vs1.length : Int))))
          (cond (!(sEq (atI (t := .str) vs0 (Int.toNat vs13)) (atI (t := .str) vs1 (Int.toNat vs13))))
            (x0)
            (f42L0 n x0 x1 vs0 vs1 vs12 m (IntKind.wrap .i64 (vs13 + (1 : Int)))))
          none)
        none)
      (x1 vs13 (decide (vs13 < vs12))))
theorem f42L0_b {R : Type} (n : Nat) (k' : Ex → St → Option R) (vs0 : List ByteArray) (vs1 : List ByteArray) (vs12 : Int) (vs13 : Int) : ev f42e f42k n (cAt [1,1,0,1,0,0] f42c) ⟨[(0, .c (.one (.ro .str vs0))), (1, .c (.one (.ro .str vs1))), (12, .c (.one (.v (.int .i64 vs12)))), (13, .c (.one (.v (.int .i64 vs13))))], [], []⟩ k' =
    (cond (decide (vs13 < vs12))
    (cond ((decide ((0 : Int) ≤ vs13)) && (decide (vs13 < (vs0.length : Int))))
      (cond ((decide ((0 : Int) ≤ vs13)) && (decide (vs13 < (vs1.length : Int))))
        (cond (!(sEq (atI (t := .str) vs0 (Int.toNat vs13)) (atI (t := .str) vs1 (Int.toNat vs13))))
          (k' .ret ⟨[(4, .c (.one (.v (.bool false))))], [], []⟩)
          (k' .normal ⟨[(0, .c (.one (.ro .str vs0))), (1, .c (.one (.ro .str vs1))), (12, .c (.one (.v (.int .i64 vs12)))), (13, .c (.one (.v (.int .i64 (IntKind.wrap .i64 (vs13 + (1 : Int)))))))], [], []⟩))
        none)
      none)
    (k' (.exit 0) ⟨[(0, .c (.one (.ro .str vs0))), (1, .c (.one (.ro .str vs1))), (12, .c (.one (.v (.int .i64 vs12)))), (13, .c (.one (.v (.int .i64 vs13)))), (14, .c (.one (.v (.bool (decide (vs13 < vs12))))))], [], []⟩)) := by kernel_rfl
theorem f42L0_eq {R : Type} (n : Nat) (k' : Ex → St → Option R) (vs0 : List ByteArray) (vs1 : List ByteArray) (vs12 : Int) : ∀ (m : Nat) (vs13 : Int), iter (fun st k => ev f42e f42k n (cAt [1,1,0,1,0,0] f42c) st k) m ⟨[(0, .c (.one (.ro .str vs0))), (1, .c (.one (.ro .str vs1))), (12, .c (.one (.v (.int .i64 vs12)))), (13, .c (.one (.v (.int .i64 vs13))))], [], []⟩ k' = f42L0 n (k' .ret ⟨[(4, .c (.one (.v (.bool false))))], [], []⟩) (fun (xvs13 : Int) (xvs14 : Bool) => k' (.exit 0) ⟨[(0, .c (.one (.ro .str vs0))), (1, .c (.one (.ro .str vs1))), (12, .c (.one (.v (.int .i64 vs12)))), (13, .c (.one (.v (.int .i64 xvs13)))), (14, .c (.one (.v (.bool xvs14))))], [], []⟩) vs0 vs1 vs12 m vs13 := by
  intro m; induction m with
  | zero => intros; rfl
  | succ m ih =>
    intro vs13
    simp only [iter]
    rw [f42L0_b]
    simp only [ih, f42L0]

noncomputable def f42K0 {R : Type} (n : Nat) (k' : Ex → St → Option R) : Ex → St → Option R := (blockK 0 (seqK f42e f42k n (cAt [1,1,1] f42c) k'))
theorem f42K0_x0 {R : Type} (n : Nat) (k : List Dt → Option R) (a0 : List ByteArray) (a1 : List ByteArray)  : f42K0 n (exitK f42e [.ro, .ro] [false] true [.tmp 4] [4] [.d (.sl .str) a0, .d (.sl .str) a1] k) .ret ⟨[(4, .c (.one (.v (.bool false))))], [], []⟩ =
    (k [.d .bool false]) := by kernel_rfl
theorem f42K0_x1 {R : Type} (n : Nat) (k : List Dt → Option R) (a0 : List ByteArray) (a1 : List ByteArray) (vs0 : List ByteArray) (vs1 : List ByteArray) (vs12 : Int) (xvs13 : Int) (xvs14 : Bool) : f42K0 n (exitK f42e [.ro, .ro] [false] true [.tmp 4] [4] [.d (.sl .str) a0, .d (.sl .str) a1] k) (.exit 0) ⟨[(0, .c (.one (.ro .str vs0))), (1, .c (.one (.ro .str vs1))), (12, .c (.one (.v (.int .i64 vs12)))), (13, .c (.one (.v (.int .i64 xvs13)))), (14, .c (.one (.v (.bool xvs14))))], [], []⟩ =
    (k [.d .bool true]) := by kernel_rfl

theorem f42_run {R : Type} (n : Nat) (k : List Dt → Option R) (a0 : List ByteArray) (a1 : List ByteArray) : evFn f42e f42k n f42c [.ro, .ro] [false] true [.tmp 4] [4] [.d (.sl .str) a0, .d (.sl .str) a1] k =
    (cond ((a0.length : Int) != (a1.length : Int))
    (k [.d .bool false])
    (f42L0 n (k [.d .bool false]) (fun (xvs13 : Int) (xvs14 : Bool) =>
      (k [.d .bool true])) a0 a1 (a0.length : Int) n (0 : Int))) := by
  refine Eq.trans (b := (cond ((a0.length : Int) != (a1.length : Int))
    (k [.d .bool false])
    (iter (fun st k => ev f42e f42k n (cAt [1,1,0,1,0,0] f42c) st k) n ⟨[(0, .c (.one (.ro .str a0))), (1, .c (.one (.ro .str a1))), (12, .c (.one (.v (.int .i64 (a0.length : Int))))), (13, .c (.one (.v (.int .i64 (0 : Int)))))], [], []⟩ (f42K0 n (exitK f42e [.ro, .ro] [false] true [.tmp 4] [4] [.d (.sl .str) a0, .d (.sl .str) a1] k))))) (by kernel_rfl) ?_
  simp only [f42L0_eq, f42K0_x0, f42K0_x1]
theorem f42_spec (a0 : List ByteArray) (a1 : List ByteArray) (hg : gLenW a0 = true) : ∃ keep rounds, ∀ {R : Type} (k : List Dt → Option R), evFn f42e keep rounds f42c [.ro, .ro] [false] true [.tmp 4] [4] [.d (.sl .str) a0, .d (.sl .str) a1] k = k [.d .bool (eqD a0 a1)] := by
  have hl := gLenW_le hg
  refine ⟨f42k, a0.length + 1, fun k => ?_⟩
  rw [f42_run]
  by_cases hc : a0.length = a1.length
  · have hc' : ((a0.length : Int) != (a1.length : Int)) = false := by simp [hc]
    simp only [hc', cond_false]
    refine Eq.trans (loop_idx (n := a0.length) (F := fun m i => f42L0 (a0.length + 1) _ _ a0 a1 (a0.length : Int) m i) (p := fun j => sEq (atI (t := .str) a0 j) (atI (t := .str) a1 j)) (good := k [.d .bool true]) (bad := k [.d .bool false])
      (fun m j hj => ?_) (fun m => by simp only [f42L0, idxE, cond_false]) a0.length 0 (a0.length + 1) (by omega) (by omega)) ?_
    · obtain ⟨h1, h0, hw, ht⟩ := idx hj (by omega)
      obtain ⟨h2, _, _, _⟩ := idx (show j < a1.length by omega) (by omega)
      simp only [f42L0, h1, h0, h2, hw, ht, Bool.and_self, cond_true]
      cases sEq (atI (t := .str) a0 j) (atI (t := .str) a1 j) <;> rfl
    · rw [allN_eq hc (fun j x y hx hy => by rw [atI_of (t := .str) hx, atI_of (t := .str) hy, ← eqD_str])]
      cases eqD a0 a1 <;> rfl
  · simp only [bneLen hc, cond_true]
    rw [eqD_ne (fun e => hc (by rw [e]))]

noncomputable def q42 : List Dt → Option (Bool × List Dt)
  | [.d (.sl .str) a0, .d (.sl .str) a1] => some (((fun (x y : List ByteArray) => gLenW x) a0 a1), [.d .bool (eqD a0 a1)])
  | _ => none
noncomputable def s42 : Gm.Spec := Gm.Spec.of [.ro, .ro] [false] true q42
theorem good42 : Gm.Good Try.prog (42, s42) := by
  have hl : ∀ x ∈ ([] : List (Nat × Gm.Spec)), Gm.Good Try.prog x := fun _ h => by cases h
  refine ⟨⟨spec_ok (tab_ok.env hl) (tab.natl hl) Try.func42 (by kernel_rfl : Try.f42.body = some f42c) [4] (by kernel_rfl) ?_, _, Try.func42, by kernel_rfl, of_decide_eq_true (by kernel_rfl)⟩, Gm.Spec.of_natl _ _ _ _⟩
  intro ds outs h
  unfold q42 at h
  split at h
  · simp only [Option.some.injEq, Prod.mk.injEq] at h; obtain ⟨hg, h⟩ := h; cases h; exact f42_spec _ _ hg
  · cases h
noncomputable def q12 : List Dt → Option (Bool × List Dt)
  | [.d .node a0, .d .node a1] => some ((sm2 sm_node a0 a1), [.d .bool (eqD a0 a1)])
  | _ => none
noncomputable def mu12 : List Dt → Nat
  | [.d .node a0, .d .node a1] => me_node a0 a1
  | _ => 0
noncomputable def s12r (N : Nat) : Gm.Spec := Gm.Spec.of [.ro, .ro] [false] true (qlt mu12 N q12)
noncomputable def s12 : Gm.Spec := Gm.Spec.of [.ro, .ro] [false] true q12
noncomputable def q43 : List Dt → Option (Bool × List Dt)
  | [.d (.sl .node) a0, .d (.sl .node) a1, .clo 12 []] => some ((sm2 (smL sm_node) a0 a1), [.d .bool (eqD a0 a1)])
  | _ => none
noncomputable def mu43 : List Dt → Nat
  | [.d (.sl .node) a0, .d (.sl .node) a1, .clo 12 []] => meL_node a0 a1
  | _ => 0
noncomputable def s43r (N : Nat) : Gm.Spec := Gm.Spec.of [.ro, .ro, .fn] [false] true (qlt mu43 N q43)
/-! ### loop.example/g00465/impl.TreeSame -/
noncomputable def f12c : Code := (Try.f12.body).getD .skip
def f12k : Nat → Kp := kat [⟨[2, 3], [], [], []⟩, ⟨[4], [], [], []⟩]
noncomputable def f12e (N : Nat) : Env := tab.env [(12, s12r N), (42, s42), (43, s43r N)]
theorem f12_run {R : Type} (N : Nat) (n : Nat) (k : List Dt → Option R) (a0 : NodeT) (a1 : NodeT) : evFn (f12e N) f12k n f12c [.ro, .ro] [false] true [.tmp 4] [4] [.d .node a0, .d .node a1] k =
    (cond ((NodeT.kind a0) == (NodeT.kind a1))
    (cond ((NodeT.n a0) == (NodeT.n a1))
      (cond (sEq (NodeT.s a0) (NodeT.s a1))
        (cond ((fun (x y : List ByteArray) => gLenW x) (NodeT.keys a0) (NodeT.keys a1))
          (cond (eqD (NodeT.keys a0) (NodeT.keys a1))
            (cond ((sm2 (smL sm_node) (NodeT.kids a0) (NodeT.kids a1)) && (Nat.blt (meL_node (NodeT.kids a0) (NodeT.kids a1)) N))
              (k [.d .bool (eqD (NodeT.kids a0) (NodeT.kids a1))])
              none)
            (k [.d .bool false]))
          none)
        (k [.d .bool false]))
      (k [.d .bool false]))
    (k [.d .bool false])) := by kernel_rfl
theorem f12_spec (N : Nat) (a0 : NodeT) (a1 : NodeT) (hg : sm2 sm_node a0 a1 = true) (hm : mu12 [.d .node a0, .d .node a1] = N) : ∃ keep rounds, ∀ {R : Type} (k : List Dt → Option R), evFn (f12e N) keep rounds f12c [.ro, .ro] [false] true [.tmp 4] [4] [.d .node a0, .d .node a1] k = k [.d .bool (eqD a0 a1)] := by
  have hm : me_node a0 a1 = N := hm
  subst hm
  have m1 : Nat.blt (meL_node a0.kids a1.kids) (me_node a0 a1) = true := by rw [Nat.blt_eq]; simp only [meL_node, me_node, nd_node_def]; omega
  simp only [sm2, sm_node_def, Bool.and_eq_true] at hg
  have gk : gLenW a0.keys = true := gLenW_sm hg.1.2.2.2.1
  refine ⟨f12k, 0, fun {R} k => ?_⟩
  rw [f12_run, eqD_node]
  simp only [sm2, gk, hg, m1, Bool.and_self, Bool.true_and, cond_true]
  cases (a0.kind == a1.kind) <;> cases (a0.n == a1.n) <;> cases sEq a0.s a1.s <;> cases eqD a0.keys a1.keys <;> rfl


/-! ### slices.EqualFunc[[]loop.example/g00465/impl.Node,[]loop.example/g00465/impl.Node,loop.example/g00465/impl.Node,loop.example/g00465/impl.Node] -/
noncomputable def f43c : Code := (Try.f43.body).getD .skip
def f43k : Nat → Kp := kat [⟨[0, 1, 2], [], [], []⟩, ⟨[0, 1, 2, 14], [], [], []⟩, ⟨[6], [], [], []⟩, ⟨[1, 2, 15, 16, 17], [], [], []⟩, ⟨[1, 2, 15, 16, 17, 18], [], [], []⟩, ⟨[1, 2, 7, 8, 15, 16, 17], [], [], []⟩, ⟨[1, 2, 8, 9, 15, 16, 17], [], [], []⟩, ⟨[1, 2, 15, 16, 17, 30], [], [], []⟩, ⟨[6], [], [], []⟩, ⟨[1, 2, 15, 16, 17], [], [], []⟩, ⟨[6], [], [], []⟩]
noncomputable def f43e (N : Nat) : Env := tab.env [(12, s12r N)]
noncomputable def f43L0 {R : Type} (N : Nat) (n : Nat) (x0 : Option R) (x1 : Int → Bool → Option R) (vs1 : List NodeT) (vs15 : List NodeT) (vs16 : Int) : Nat → Int → Option R
  | 0, _ => none
  | m + 1, vs17 =>
    (cond (decide (vs17 < vs16))
      (cond ((decide ((0 : Int) ≤ vs17)) && (decide (vs17 < (vs15.length : Int))))
        (cond ((decide ((0 : Int) ≤ vs17)) && (decide (vs17 < (vs1.length : Int))))
          (cond ((sm2 sm_node (eN (atI (t := .node) vs15 (Int.toNat vs17))) (eN (atI (t := .node) vs1 (Int.toNat vs17)))) && (Nat.blt (me_node (eN (atI (t := .node) vs15 (Int.toNat vs17))) (eN (atI (t := .node) vs1 (Int.toNat vs17)))) N))
            (cond (!(eqD (eN (atI (t := .node) vs15 (Int.toNat vs17))) (eN (atI (t := .node) vs1 (Int.toNat vs17)))))
              (x0)
              (f43L0 N n x0 x1 vs1 vs15 vs16 m (IntKind.wrap .i64 (vs17 + (1 : Int)))))
            none)
          none)
        none)
      (x1 vs17 (decide (vs17 < vs16))))
theorem f43L0_b {R : Type} (N : Nat) (n : Nat) (k' : Ex → St → Option R) (vs1 : List NodeT) (vs15 : List NodeT) (vs16 : Int) (vs17 : Int) : ev (f43e N) f43k n (cAt [1,1,0,1,0,0] f43c) ⟨[(1, .c (.one (.ro .node vs1))), (2, .c (.one (.cloR 12 []))), (15, .c (.one (.ro .node vs15))), (16, .c (.one (.v (.int .i64 vs16)))), (17, .c (.one (.v (.int .i64 vs17))))], [], []⟩ k' =
    (cond (decide (vs17 < vs16))
    (cond ((decide ((0 : Int) ≤ vs17)) && (decide (vs17 < (vs15.length : Int))))
      (cond ((decide ((0 : Int) ≤ vs17)) && (decide (vs17 < (vs1.length : Int))))
        (cond ((sm2 sm_node (eN (atI (t := .node) vs15 (Int.toNat vs17))) (eN (atI (t := .node) vs1 (Int.toNat vs17)))) && (Nat.blt (me_node (eN (atI (t := .node) vs15 (Int.toNat vs17))) (eN (atI (t := .node) vs1 (Int.toNat vs17)))) N))
          (cond (!(eqD (eN (atI (t := .node) vs15 (Int.toNat vs17))) (eN (atI (t := .node) vs1 (Int.toNat vs17)))))
            (k' .ret ⟨[(6, .c (.one (.v (.bool false))))], [], []⟩)
            (k' .normal ⟨[(1, .c (.one (.ro .node vs1))), (2, .c (.one (.cloR 12 []))), (15, .c (.one (.ro .node vs15))), (16, .c (.one (.v (.int .i64 vs16)))), (17, .c (.one (.v (.int .i64 (IntKind.wrap .i64 (vs17 + (1 : Int)))))))], [], []⟩))
          none)
        none)
      none)
    (k' (.exit 0) ⟨[(1, .c (.one (.ro .node vs1))), (2, .c (.one (.cloR 12 []))), (15, .c (.one (.ro .node vs15))), (16, .c (.one (.v (.int .i64 vs16)))), (17, .c (.one (.v (.int .i64 vs17)))), (18, .c (.one (.v (.bool (decide (vs17 < vs16))))))], [], []⟩)) := by kernel_rfl
theorem f43L0_eq {R : Type} (N : Nat) (n : Nat) (k' : Ex → St → Option R) (vs1 : List NodeT) (vs15 : List NodeT) (vs16 : Int) : ∀ (m : Nat) (vs17 : Int), iter (fun st k => ev (f43e N) f43k n (cAt [1,1,0,1,0,0] f43c) st k) m ⟨[(1, .c (.one (.ro .node vs1))), (2, .c (.one (.cloR 12 []))), (15, .c (.one (.ro .node vs15))), (16, .c (.one (.v (.int .i64 vs16)))), (17, .c (.one (.v (.int .i64 vs17))))], [], []⟩ k' = f43L0 N n (k' .ret ⟨[(6, .c (.one (.v (.bool false))))], [], []⟩) (fun (xvs17 : Int) (xvs18 : Bool) => k' (.exit 0) ⟨[(1, .c (.one (.ro .node vs1))), (2, .c (.one (.cloR 12 []))), (15, .c (.one (.ro .node vs15))), (16, .c (.one (.v (.int .i64 vs16)))), (17, .c (.one (.v (.int .i64 xvs17)))), (18, .c (.one (.v (.bool xvs18))))], [], []⟩) vs1 vs15 vs16 m vs17 := by
  intro m; induction m with
  | zero => intros; rfl
  | succ m ih =>
    intro vs17
    simp only [iter]
    rw [f43L0_b]
    simp only [ih, f43L0]

noncomputable def f43K0 {R : Type} (N : Nat) (n : Nat) (k' : Ex → St → Option R) : Ex → St → Option R := (blockK 0 (seqK (f43e N) f43k n (cAt [1,1,1] f43c) k'))
theorem f43K0_x0 {R : Type} (N : Nat) (n : Nat) (k : List Dt → Option R) (a0 : List NodeT) (a1 : List NodeT)  : f43K0 N n (exitK (f43e N) [.ro, .ro, .fn] [false] true [.tmp 6] [4] [.d (.sl .node) a0, .d (.sl .node) a1, .clo 12 []] k) .ret ⟨[(6, .c (.one (.v (.bool false))))], [], []⟩ =
    (k [.d .bool false]) := by kernel_rfl
theorem f43K0_x1 {R : Type} (N : Nat) (n : Nat) (k : List Dt → Option R) (a0 : List NodeT) (a1 : List NodeT) (vs1 : List NodeT) (vs15 : List NodeT) (vs16 : Int) (xvs17 : Int) (xvs18 : Bool) : f43K0 N n (exitK (f43e N) [.ro, .ro, .fn] [false] true [.tmp 6] [4] [.d (.sl .node) a0, .d (.sl .node) a1, .clo 12 []] k) (.exit 0) ⟨[(1, .c (.one (.ro .node vs1))), (2, .c (.one (.cloR 12 []))), (15, .c (.one (.ro .node vs15))), (16, .c (.one (.v (.int .i64 vs16)))), (17, .c (.one (.v (.int .i64 xvs17)))), (18, .c (.one (.v (.bool xvs18))))], [], []⟩ =
    (k [.d .bool true]) := by kernel_rfl

theorem f43_run {R : Type} (N : Nat) (n : Nat) (k : List Dt → Option R) (a0 : List NodeT) (a1 : List NodeT) : evFn (f43e N) f43k n f43c [.ro, .ro, .fn] [false] true [.tmp 6] [4] [.d (.sl .node) a0, .d (.sl .node) a1, .clo 12 []] k =
    (cond ((a0.length : Int) != (a1.length : Int))
    (k [.d .bool false])
    (f43L0 N n (k [.d .bool false]) (fun (xvs17 : Int) (xvs18 : Bool) =>
      (k [.d .bool true])) a1 a0 (a0.length : Int) n (0 : Int))) := by
  refine Eq.trans (b := (cond ((a0.length : Int) != (a1.length : Int))
    (k [.d .bool false])
    (iter (fun st k => ev (f43e N) f43k n (cAt [1,1,0,1,0,0] f43c) st k) n ⟨[(1, .c (.one (.ro .node a1))), (2, .c (.one (.cloR 12 []))), (15, .c (.one (.ro .node a0))), (16, .c (.one (.v (.int .i64 (a0.length : Int))))), (17, .c (.one (.v (.int .i64 (0 : Int)))))], [], []⟩ (f43K0 N n (exitK (f43e N) [.ro, .ro, .fn] [false] true [.tmp 6] [4] [.d (.sl .node) a0, .d (.sl .node) a1, .clo 12 []] k))))) (by kernel_rfl) ?_
  simp only [f43L0_eq, f43K0_x0, f43K0_x1]
theorem f43_spec (N : Nat) (a0 : List NodeT) (a1 : List NodeT) (hg : sm2 (smL sm_node) a0 a1 = true) (hm : mu43 [.d (.sl .node) a0, .d (.sl .node) a1, .clo 12 []] = N) : ∃ keep rounds, ∀ {R : Type} (k : List Dt → Option R), evFn (f43e N) keep rounds f43c [.ro, .ro, .fn] [false] true [.tmp 6] [4] [.d (.sl .node) a0, .d (.sl .node) a1, .clo 12 []] k = k [.d .bool (eqD a0 a1)] := by
  have hm : meL_node a0 a1 = N := hm
  subst hm
  simp only [sm2, Bool.and_eq_true] at hg
  obtain ⟨hg0, hg1⟩ := hg
  have hl : a0.length ≤ 1048576 := smL_len hg0
  refine ⟨f43k, a0.length + 1, fun {R} k => ?_⟩
  rw [f43_run]
  by_cases hc : a0.length = a1.length
  · have hc' : ((a0.length : Int) != (a1.length : Int)) = false := by simp [hc]
    simp only [hc', cond_false]
    refine Eq.trans (loop_idx (n := a0.length) (F := fun m i => f43L0 (meL_node a0 a1) (a0.length + 1) _ _ a1 a0 (a0.length : Int) m i) (p := fun j => eqD (atI (t := .node) a0 j) (atI (t := .node) a1 j)) (good := k [.d .bool true]) (bad := k [.d .bool false])
      (fun m j hj => ?_) (fun m => by simp only [f43L0, idxE, cond_false]) a0.length 0 (a0.length + 1) (by omega) (by omega)) ?_
    · obtain ⟨h1, h0, hw, ht⟩ := idx hj (by omega)
      obtain ⟨h2, _, _, _⟩ := idx (show j < a1.length by omega) (by omega)
      have ha := smL_at (t := .node) hg0 hj
      have hb := smL_at (t := .node) hg1 (show j < a1.length by omega)
      have hm1 : Nat.blt (me_node (atI (t := .node) a0 j) (atI (t := .node) a1 j)) (meL_node a0 a1) = true := by
        obtain ⟨x, hx, _⟩ := drop_get hj
        have := ndL_mem (f := nd_node) (List.mem_of_getElem? hx)
        rw [atI_of (t := .node) hx, Nat.blt_eq]; simp only [me_node, meL_node]; omega
      simp only [f43L0, h1, h0, h2, hw, ht, Bool.and_self, cond_true, sm2, eta_node, eN_eq, ha, hb, hm1]
      cases eqD (atI (t := .node) a0 j) (atI (t := .node) a1 j) <;> rfl
    · rw [allN_eq hc (fun j x y hx hy => by rw [atI_of (t := .node) hx, atI_of (t := .node) hy])]
      cases eqD a0 a1 <;> rfl
  · simp only [bneLen hc, cond_true]
    rw [eqD_ne (fun e => hc (by rw [e]))]


theorem goods12 : ∀ x ∈ ([⟨12, [.ro, .ro], [false], true, mu12, q12⟩, ⟨43, [.ro, .ro, .fn], [false], true, mu43, q43⟩] : List Rc), Gm.SpecOk Try.prog x.f (Gm.Spec.of x.ms x.rs x.ow x.q) := by
  refine spec_recs _ fun N hr => ?_
  have hr1 : Gm.SpecOk Try.prog 12 (Gm.Spec.of [.ro, .ro] [false] true (qlt mu12 N q12)) := fun {R} => hr _ (.head _)
  have hr2 : Gm.SpecOk Try.prog 43 (Gm.Spec.of [.ro, .ro, .fn] [false] true (qlt mu43 N q43)) := fun {R} => hr _ (.tail _ (.head _))
  refine List.forall_mem_cons.2 ⟨?_, List.forall_mem_cons.2 ⟨?_, List.forall_mem_nil _⟩⟩
  · have hl : ∀ x ∈ ([(12, s12r N), (42, s42), (43, s43r N)] : List (Nat × Gm.Spec)), Gm.Good Try.prog x := List.forall_mem_cons.2 ⟨⟨⟨hr1, _, Try.func12, by kernel_rfl, of_decide_eq_true (by kernel_rfl)⟩, Gm.Spec.of_natl _ _ _ _⟩, List.forall_mem_cons.2 ⟨good42, List.forall_mem_cons.2 ⟨⟨⟨hr2, _, Try.func43, by kernel_rfl, of_decide_eq_true (by kernel_rfl)⟩, Gm.Spec.of_natl _ _ _ _⟩, List.forall_mem_nil _⟩⟩⟩
    show Gm.SpecOk Try.prog 12 (Gm.Spec.of [.ro, .ro] [false] true (qeq mu12 N q12))
    intro R
    refine spec_ok (E := f12e N) (tab_ok.env hl) (tab.natl hl) Try.func12 (by kernel_rfl : Try.f12.body = some f12c) [4] (by kernel_rfl) ?_
    intro ds outs h
    obtain ⟨h, hm⟩ := qeq_some h
    unfold q12 at h
    split at h
    · simp only [Option.some.injEq, Prod.mk.injEq] at h; obtain ⟨hg, h⟩ := h; cases h; exact f12_spec N _ _ hg hm
    · cases h
  · have hl : ∀ x ∈ ([(12, s12r N)] : List (Nat × Gm.Spec)), Gm.Good Try.prog x := List.forall_mem_cons.2 ⟨⟨⟨hr1, _, Try.func12, by kernel_rfl, of_decide_eq_true (by kernel_rfl)⟩, Gm.Spec.of_natl _ _ _ _⟩, List.forall_mem_nil _⟩
    show Gm.SpecOk Try.prog 43 (Gm.Spec.of [.ro, .ro, .fn] [false] true (qeq mu43 N q43))
    intro R
    refine spec_ok (E := f43e N) (tab_ok.env hl) (tab.natl hl) Try.func43 (by kernel_rfl : Try.f43.body = some f43c) [4] (by kernel_rfl) ?_
    intro ds outs h
    obtain ⟨h, hm⟩ := qeq_some h
    unfold q43 at h
    split at h
    · simp only [Option.some.injEq, Prod.mk.injEq] at h; obtain ⟨hg, h⟩ := h; cases h; exact f43_spec N _ _ hg hm
    · cases h
theorem good12 : Gm.Good Try.prog (12, s12) := ⟨⟨fun {R} => goods12 _ (.head _), _, Try.func12, by kernel_rfl, of_decide_eq_true (by kernel_rfl)⟩, Gm.Spec.of_natl _ _ _ _⟩
noncomputable def q50 : List Dt → Option (Bool × List Dt)
  | [.d .node a0, .d .node a1] => some ((sm2 sm_node a0 a1), [.d .bool (eqD a0 a1)])
  | _ => none
noncomputable def mu50 : List Dt → Nat
  | [.d .node a0, .d .node a1] => me_node a0 a1
  | _ => 0
noncomputable def s50r (N : Nat) : Gm.Spec := Gm.Spec.of [.ro, .ro] [false] true (qlt mu50 N q50)
/-! ### loop.example/g00465/spec.TreeSame -/
noncomputable def f50c : Code := (Try.f50.body).getD .skip
def f50k : Nat → Kp := kat [⟨[2, 3], [], [], []⟩, ⟨[2, 3, 43], [], [], []⟩, ⟨[4], [], [], []⟩, ⟨[2, 3, 5], [], [], []⟩, ⟨[2, 3, 5, 48], [], [], []⟩, ⟨[2, 3, 5], [], [], []⟩, ⟨[2, 3, 5, 61], [], [], []⟩, ⟨[4], [], [], []⟩, ⟨[2, 3, 6], [], [], []⟩, ⟨[2, 3, 6, 66], [], [], []⟩, ⟨[2, 3, 6], [], [], []⟩, ⟨[2, 3, 6, 80], [], [], []⟩, ⟨[4], [], [], []⟩, ⟨[4], [], [], []⟩]
noncomputable def f50e (N : Nat) : Env := tab.env [(50, s50r N)]
noncomputable def f50L0 {R : Type} (N : Nat) (n : Nat) (x0 : Option R) (x1 : Int → Bool → Option R) (vb2_0 : Int) (vb2_1 : Int) (vb2_2 : ByteArray) (vb2_3 : List ByteArray) (vb2_4 : List NodeT) (vb3_0 : Int) (vb3_1 : Int) (vb3_2 : ByteArray) (vb3_3 : List ByteArray) (vb3_4 : List NodeT) : Nat → Int → Option R
  | 0, _ => none
  | m + 1, vs5 =>
    (cond (decide (vs5 < (vb2_3.length : Int)))
      (cond ((decide ((0 : Int) ≤ vs5)) && (decide (vs5 < (vb2_3.length : Int))))
        (cond ((decide ((0 : Int) ≤ vs5)) && (decide (vs5 < (vb3_3.length : Int))))
          (cond (!(sEq (atI (t := .str) vb2_3 (Int.toNat vs5)) (atI (t := .str) vb3_3 (Int.toNat vs5))))
            (x0)
            (f50L0 N n x0 x1 vb2_0 vb2_1 vb2_2 vb2_3 vb2_4 vb3_0 vb3_1 vb3_2 vb3_3 vb3_4 m (IntKind.wrap .i64 (vs5 + (1 : Int)))))
          none)
        none)
      (x1 vs5 (decide (vs5 < (vb2_3.length : Int)))))
theorem f50L0_b {R : Type} (N : Nat) (n : Nat) (k' : Ex → St → Option R) (vs5 : Int) (vb2_0 : Int) (vb2_1 : Int) (vb2_2 : ByteArray) (vb2_3 : List ByteArray) (vb2_4 : List NodeT) (vb3_0 : Int) (vb3_1 : Int) (vb3_2 : ByteArray) (vb3_3 : List ByteArray) (vb3_4 : List NodeT) : ev (f50e N) f50k n (cAt [1,1,0,1,0,0] f50c) ⟨[(2, .c (.one (.pt 2 0))), (3, .c (.one (.pt 3 0))), (5, .c (.one (.v (.int .i64 vs5))))], [(2, ⟨.node, [.v (.int .i64 vb2_0), .v (.int .i64 vb2_1), .v (.string vb2_2), .ro .str vb2_3, .ro .node vb2_4]⟩), (3, ⟨.node, [.v (.int .i64 vb3_0), .v (.int .i64 vb3_1), .v (.string vb3_2), .ro .str vb3_3, .ro .node vb3_4]⟩)], []⟩ k' =
    (cond (decide (vs5 < (vb2_3.length : Int)))
    (cond ((decide ((0 : Int) ≤ vs5)) && (decide (vs5 < (vb2_3.length : Int))))
      (cond ((decide ((0 : Int) ≤ vs5)) && (decide (vs5 < (vb3_3.length : Int))))
        (cond (!(sEq (atI (t := .str) vb2_3 (Int.toNat vs5)) (atI (t := .str) vb3_3 (Int.toNat vs5))))
          (k' .ret ⟨[(4, .c (.one (.v (.bool false))))], [], []⟩)
          (k' .normal ⟨[(2, .c (.one (.pt 2 0))), (3, .c (.one (.pt 3 0))), (5, .c (.one (.v (.int .i64 (IntKind.wrap .i64 (vs5 + (1 : Int)))))))], [(2, ⟨.node, [.v (.int .i64 vb2_0), .v (.int .i64 vb2_1), .v (.string vb2_2), .ro .str vb2_3, .ro .node vb2_4]⟩), (3, ⟨.node, [.v (.int .i64 vb3_0), .v (.int .i64 vb3_1), .v (.string vb3_2), .ro .str vb3_3, .ro .node vb3_4]⟩)], []⟩))
        none)
      none)
    (k' (.exit 0) ⟨[(2, .c (.one (.pt 2 0))), (3, .c (.one (.pt 3 0))), (5, .c (.one (.v (.int .i64 vs5)))), (48, .c (.one (.v (.bool (decide (vs5 < (vb2_3.length : Int)))))))], [(2, ⟨.node, [.v (.int .i64 vb2_0), .v (.int .i64 vb2_1), .v (.string vb2_2), .ro .str vb2_3, .ro .node vb2_4]⟩), (3, ⟨.node, [.v (.int .i64 vb3_0), .v (.int .i64 vb3_1), .v (.string vb3_2), .ro .str vb3_3, .ro .node vb3_4]⟩)], []⟩)) := by kernel_rfl
theorem f50L0_eq {R : Type} (N : Nat) (n : Nat) (k' : Ex → St → Option R) (vb2_0 : Int) (vb2_1 : Int) (vb2_2 : ByteArray) (vb2_3 : List ByteArray) (vb2_4 : List NodeT) (vb3_0 : Int) (vb3_1 : Int) (vb3_2 : ByteArray) (vb3_3 : List ByteArray) (vb3_4 : List NodeT) : ∀ (m : Nat) (vs5 : Int), iter (fun st k => ev (f50e N) f50k n (cAt [1,1,0,1,0,0] f50c) st k) m ⟨[(2, .c (.one (.pt 2 0))), (3, .c (.one (.pt 3 0))), (5, .c (.one (.v (.int .i64 vs5))))], [(2, ⟨.node, [.v (.int .i64 vb2_0), .v (.int .i64 vb2_1), .v (.string vb2_2), .ro .str vb2_3, .ro .node vb2_4]⟩), (3, ⟨.node, [.v (.int .i64 vb3_0), .v (.int .i64 vb3_1), .v (.string vb3_2), .ro .str vb3_3, .ro .node vb3_4]⟩)], []⟩ k' = f50L0 N n (k' .ret ⟨[(4, .c (.one (.v (.bool false))))], [], []⟩) (fun (xvs5 : Int) (xvs48 : Bool) => k' (.exit 0) ⟨[(2, .c (.one (.pt 2 0))), (3, .c (.one (.pt 3 0))), (5, .c (.one (.v (.int .i64 xvs5)))), (48, .c (.one (.v (.bool xvs48))))], [(2, ⟨.node, [.v (.int .i64 vb2_0), .v (.int .i64 vb2_1), .v (.string vb2_2), .ro .str vb2_3, .ro .node vb2_4]⟩), (3, ⟨.node, [.v (.int .i64 vb3_0), .v (.int .i64 vb3_1), .v (.string vb3_2), .ro .str vb3_3, .ro .node vb3_4]⟩)], []⟩) vb2_0 vb2_1 vb2_2 vb2_3 vb2_4 vb3_0 vb3_1 vb3_2 vb3_3 vb3_4 m vs5 := by
  intro m; induction m with
  | zero => intros; rfl
  | succ m ih =>
    intro vs5
    simp only [iter]
    rw [f50L0_b]
    simp only [ih, f50L0]

noncomputable def f50L1 {R : Type} (N : Nat) (n : Nat) (x0 : Option R) (x1 : Int → Bool → Option R) (vb2_0 : Int) (vb2_1 : Int) (vb2_2 : ByteArray) (vb2_3 : List ByteArray) (vb2_4 : List NodeT) (vb3_0 : Int) (vb3_1 : Int) (vb3_2 : ByteArray) (vb3_3 : List ByteArray) (vb3_4 : List NodeT) : Nat → Int → Option R
  | 0, _ => none
  | m + 1, vs6 =>
    (cond (decide (vs6 < (vb2_4.length : Int)))
      (cond ((decide ((0 : Int) ≤ vs6)) && (decide (vs6 < (vb2_4.length : Int))))
        (cond ((decide ((0 : Int) ≤ vs6)) && (decide (vs6 < (vb3_4.length : Int))))
          (cond ((sm2 sm_node (eN (atI (t := .node) vb2_4 (Int.toNat vs6))) (eN (atI (t := .node) vb3_4 (Int.toNat vs6)))) && (Nat.blt (me_node (eN (atI (t := .node) vb2_4 (Int.toNat vs6))) (eN (atI (t := .node) vb3_4 (Int.toNat vs6)))) N))
            (cond (!(eqD (eN (atI (t := .node) vb2_4 (Int.toNat vs6))) (eN (atI (t := .node) vb3_4 (Int.toNat vs6)))))
              (x0)
              (f50L1 N n x0 x1 vb2_0 vb2_1 vb2_2 vb2_3 vb2_4 vb3_0 vb3_1 vb3_2 vb3_3 vb3_4 m (IntKind.wrap .i64 (vs6 + (1 : Int)))))
            none)
          none)
        none)
      (x1 vs6 (decide (vs6 < (vb2_4.length : Int)))))
theorem f50L1_b {R : Type} (N : Nat) (n : Nat) (k' : Ex → St → Option R) (vs6 : Int) (vb2_0 : Int) (vb2_1 : Int) (vb2_2 : ByteArray) (vb2_3 : List ByteArray) (vb2_4 : List NodeT) (vb3_0 : Int) (vb3_1 : Int) (vb3_2 : ByteArray) (vb3_3 : List ByteArray) (vb3_4 : List NodeT) : ev (f50e N) f50k n (cAt [1,1,1,0,1,0,0] f50c) ⟨[(2, .c (.one (.pt 2 0))), (3, .c (.one (.pt 3 0))), (6, .c (.one (.v (.int .i64 vs6))))], [(2, ⟨.node, [.v (.int .i64 vb2_0), .v (.int .i64 vb2_1), .v (.string vb2_2), .ro .str vb2_3, .ro .node vb2_4]⟩), (3, ⟨.node, [.v (.int .i64 vb3_0), .v (.int .i64 vb3_1), .v (.string vb3_2), .ro .str vb3_3, .ro .node vb3_4]⟩)], []⟩ k' =
    (cond (decide (vs6 < (vb2_4.length : Int)))
    (cond ((decide ((0 : Int) ≤ vs6)) && (decide (vs6 < (vb2_4.length : Int))))
      (cond ((decide ((0 : Int) ≤ vs6)) && (decide (vs6 < (vb3_4.length : Int))))
        (cond ((sm2 sm_node (eN (atI (t := .node) vb2_4 (Int.toNat vs6))) (eN (atI (t := .node) vb3_4 (Int.toNat vs6)))) && (Nat.blt (me_node (eN (atI (t := .node) vb2_4 (Int.toNat vs6))) (eN (atI (t := .node) vb3_4 (Int.toNat vs6)))) N))
          (cond (!(eqD (eN (atI (t := .node) vb2_4 (Int.toNat vs6))) (eN (atI (t := .node) vb3_4 (Int.toNat vs6)))))
            (k' .ret ⟨[(4, .c (.one (.v (.bool false))))], [], []⟩)
            (k' .normal ⟨[(2, .c (.one (.pt 2 0))), (3, .c (.one (.pt 3 0))), (6, .c (.one (.v (.int .i64 (IntKind.wrap .i64 (vs6 + (1 : Int)))))))], [(2, ⟨.node, [.v (.int .i64 vb2_0), .v (.int .i64 vb2_1), .v (.string vb2_2), .ro .str vb2_3, .ro .node vb2_4]⟩), (3, ⟨.node, [.v (.int .i64 vb3_0), .v (.int .i64 vb3_1), .v (.string vb3_2), .ro .str vb3_3, .ro .node vb3_4]⟩)], []⟩))
          none)
        none)
      none)
    (k' (.exit 2) ⟨[(2, .c (.one (.pt 2 0))), (3, .c (.one (.pt 3 0))), (6, .c (.one (.v (.int .i64 vs6)))), (66, .c (.one (.v (.bool (decide (vs6 < (vb2_4.length : Int)))))))], [(2, ⟨.node, [.v (.int .i64 vb2_0), .v (.int .i64 vb2_1), .v (.string vb2_2), .ro .str vb2_3, .ro .node vb2_4]⟩), (3, ⟨.node, [.v (.int .i64 vb3_0), .v (.int .i64 vb3_1), .v (.string vb3_2), .ro .str vb3_3, .ro .node vb3_4]⟩)], []⟩)) := by kernel_rfl
theorem f50L1_eq {R : Type} (N : Nat) (n : Nat) (k' : Ex → St → Option R) (vb2_0 : Int) (vb2_1 : Int) (vb2_2 : ByteArray) (vb2_3 : List ByteArray) (vb2_4 : List NodeT) (vb3_0 : Int) (vb3_1 : Int) (vb3_2 : ByteArray) (vb3_3 : List ByteArray) (vb3_4 : List NodeT) : ∀ (m : Nat) (vs6 : Int), iter (fun st k => ev (f50e N) f50k n (cAt [1,1,1,0,1,0,0] f50c) st k) m ⟨[(2, .c (.one (.pt 2 0))), (3, .c (.one (.pt 3 0))), (6, .c (.one (.v (.int .i64 vs6))))], [(2, ⟨.node, [.v (.int .i64 vb2_0), .v (.int .i64 vb2_1), .v (.string vb2_2), .ro .str vb2_3, .ro .node vb2_4]⟩), (3, ⟨.node, [.v (.int .i64 vb3_0), .v (.int .i64 vb3_1), .v (.string vb3_2), .ro .str vb3_3, .ro .node vb3_4]⟩)], []⟩ k' = f50L1 N n (k' .ret ⟨[(4, .c (.one (.v (.bool false))))], [], []⟩) (fun (xvs6 : Int) (xvs66 : Bool) => k' (.exit 2) ⟨[(2, .c (.one (.pt 2 0))), (3, .c (.one (.pt 3 0))), (6, .c (.one (.v (.int .i64 xvs6)))), (66, .c (.one (.v (.bool xvs66))))], [(2, ⟨.node, [.v (.int .i64 vb2_0), .v (.int .i64 vb2_1), .v (.string vb2_2), .ro .str vb2_3, .ro .node vb2_4]⟩), (3, ⟨.node, [.v (.int .i64 vb3_0), .v (.int .i64 vb3_1), .v (.string vb3_2), .ro .str vb3_3, .ro .node vb3_4]⟩)], []⟩) vb2_0 vb2_1 vb2_2 vb2_3 vb2_4 vb3_0 vb3_1 vb3_2 vb3_3 vb3_4 m vs6 := by
  intro m; induction m with
  | zero => intros; rfl
  | succ m ih =>
    intro vs6
    simp only [iter]
    rw [f50L1_b]
    simp only [ih, f50L1]

noncomputable def f50K1 {R : Type} (N : Nat) (n : Nat) (k' : Ex → St → Option R) : Ex → St → Option R := (blockK 2 (seqK (f50e N) f50k n (cAt [1,1,1,1] f50c) k'))
theorem f50K1_x0 {R : Type} (N : Nat) (n : Nat) (k : List Dt → Option R) (a0 : NodeT) (a1 : NodeT)  : f50K1 N n (exitK (f50e N) [.ro, .ro] [false] true [.tmp 4] [4] [.d .node a0, .d .node a1] k) .ret ⟨[(4, .c (.one (.v (.bool false))))], [], []⟩ =
    (k [.d .bool false]) := by kernel_rfl
theorem f50K1_x1 {R : Type} (N : Nat) (n : Nat) (k : List Dt → Option R) (a0 : NodeT) (a1 : NodeT) (vb2_0 : Int) (vb2_1 : Int) (vb2_2 : ByteArray) (vb2_3 : List ByteArray) (vb2_4 : List NodeT) (vb3_0 : Int) (vb3_1 : Int) (vb3_2 : ByteArray) (vb3_3 : List ByteArray) (vb3_4 : List NodeT) (xvs6 : Int) (xvs66 : Bool) : f50K1 N n (exitK (f50e N) [.ro, .ro] [false] true [.tmp 4] [4] [.d .node a0, .d .node a1] k) (.exit 2) ⟨[(2, .c (.one (.pt 2 0))), (3, .c (.one (.pt 3 0))), (6, .c (.one (.v (.int .i64 xvs6)))), (66, .c (.one (.v (.bool xvs66))))], [(2, ⟨.node, [.v (.int .i64 vb2_0), .v (.int .i64 vb2_1), .v (.string vb2_2), .ro .str vb2_3, .ro .node vb2_4]⟩), (3, ⟨.node, [.v (.int .i64 vb3_0), .v (.int .i64 vb3_1), .v (.string vb3_2), .ro .str vb3_3, .ro .node vb3_4]⟩)], []⟩ =
    (k [.d .bool true]) := by kernel_rfl

noncomputable def f50K0 {R : Type} (N : Nat) (n : Nat) (k' : Ex → St → Option R) : Ex → St → Option R := (blockK 0 (seqK (f50e N) f50k n (cAt [1,1,1] f50c) k'))
theorem f50K0_x0 {R : Type} (N : Nat) (n : Nat) (k : List Dt → Option R) (a0 : NodeT) (a1 : NodeT)  : f50K0 N n (exitK (f50e N) [.ro, .ro] [false] true [.tmp 4] [4] [.d .node a0, .d .node a1] k) .ret ⟨[(4, .c (.one (.v (.bool false))))], [], []⟩ =
    (k [.d .bool false]) := by kernel_rfl
theorem f50K0_x1 {R : Type} (N : Nat) (n : Nat) (k : List Dt → Option R) (a0 : NodeT) (a1 : NodeT) (vb2_0 : Int) (vb2_1 : Int) (vb2_2 : ByteArray) (vb2_3 : List ByteArray) (vb2_4 : List NodeT) (vb3_0 : Int) (vb3_1 : Int) (vb3_2 : ByteArray) (vb3_3 : List ByteArray) (vb3_4 : List NodeT) (xvs5 : Int) (xvs48 : Bool) : f50K0 N n (exitK (f50e N) [.ro, .ro] [false] true [.tmp 4] [4] [.d .node a0, .d .node a1] k) (.exit 0) ⟨[(2, .c (.one (.pt 2 0))), (3, .c (.one (.pt 3 0))), (5, .c (.one (.v (.int .i64 xvs5)))), (48, .c (.one (.v (.bool xvs48))))], [(2, ⟨.node, [.v (.int .i64 vb2_0), .v (.int .i64 vb2_1), .v (.string vb2_2), .ro .str vb2_3, .ro .node vb2_4]⟩), (3, ⟨.node, [.v (.int .i64 vb3_0), .v (.int .i64 vb3_1), .v (.string vb3_2), .ro .str vb3_3, .ro .node vb3_4]⟩)], []⟩ =
    (f50L1 N n (k [.d .bool false]) (fun (xvs6 : Int) (xvs66 : Bool) =>
    (k [.d .bool true])) vb2_0 vb2_1 vb2_2 vb2_3 vb2_4 vb3_0 vb3_1 vb3_2 vb3_3 vb3_4 n (0 : Int)) := by
  refine Eq.trans (b := (iter (fun st k => ev (f50e N) f50k n (cAt [1,1,1,0,1,0,0] f50c) st k) n ⟨[(2, .c (.one (.pt 2 0))), (3, .c (.one (.pt 3 0))), (6, .c (.one (.v (.int .i64 (0 : Int)))))], [(2, ⟨.node, [.v (.int .i64 vb2_0), .v (.int .i64 vb2_1), .v (.string vb2_2), .ro .str vb2_3, .ro .node vb2_4]⟩), (3, ⟨.node, [.v (.int .i64 vb3_0), .v (.int .i64 vb3_1), .v (.string vb3_2), .ro .str vb3_3, .ro .node vb3_4]⟩)], []⟩ (f50K1 N n (exitK (f50e N) [.ro, .ro] [false] true [.tmp 4] [4] [.d .node a0, .d .node a1] k)))) (by kernel_rfl) ?_
  simp only [f50L1_eq, f50K1_x0, f50K1_x1]

theorem f50_run {R : Type} (N : Nat) (n : Nat) (k : List Dt → Option R) (a0 : NodeT) (a1 : NodeT) : evFn (f50e N) f50k n f50c [.ro, .ro] [false] true [.tmp 4] [4] [.d .node a0, .d .node a1] k =
    (cond ((NodeT.kind a0) != (NodeT.kind a1))
    (k [.d .bool false])
    (cond ((NodeT.n a0) != (NodeT.n a1))
      (k [.d .bool false])
      (cond (!(sEq (NodeT.s a0) (NodeT.s a1)))
        (k [.d .bool false])
        (cond (((NodeT.keys a0).length : Int) != ((NodeT.keys a1).length : Int))
          (k [.d .bool false])
          (cond (((NodeT.kids a0).length : Int) != ((NodeT.kids a1).length : Int))
            (k [.d .bool false])
            (f50L0 N n (k [.d .bool false]) (fun (xvs5 : Int) (xvs48 : Bool) =>
              (f50L1 N n (k [.d .bool false]) (fun (xvs6 : Int) (xvs66 : Bool) =>
                (k [.d .bool true])) (NodeT.kind a0) (NodeT.n a0) (NodeT.s a0) (NodeT.keys a0) (NodeT.kids a0) (NodeT.kind a1) (NodeT.n a1) (NodeT.s a1) (NodeT.keys a1) (NodeT.kids a1) n (0 : Int))) (NodeT.kind a0) (NodeT.n a0) (NodeT.s a0) (NodeT.keys a0) (NodeT.kids a0) (NodeT.kind a1) (NodeT.n a1) (NodeT.s a1) (NodeT.keys a1) (NodeT.kids a1) n (0 : Int))))))) := by
  refine Eq.trans (b := (cond ((NodeT.kind a0) != (NodeT.kind a1))
    (k [.d .bool false])
    (cond ((NodeT.n a0) != (NodeT.n a1))
      (k [.d .bool false])
      (cond (!(sEq (NodeT.s a0) (NodeT.s a1)))
        (k [.d .bool false])
        (cond (((NodeT.keys a0).length : Int) != ((NodeT.keys a1).length : Int))
          (k [.d .bool false])
          (cond (((NodeT.kids a0).length : Int) != ((NodeT.kids a1).length : Int))
            (k [.d .bool false])
            (iter (fun st k => ev (f50e N) f50k n (cAt [1,1,0,1,0,0] f50c) st k) n ⟨[(2, .c (.one (.pt 2 0))), (3, .c (.one (.pt 3 0))), (5, .c (.one (.v (.int .i64 (0 : Int)))))], [(2, ⟨.node, [.v (.int .i64 (NodeT.kind a0)), .v (.int .i64 (NodeT.n a0)), .v (.string (NodeT.s a0)), .ro .str (NodeT.keys a0), .ro .node (NodeT.kids a0)]⟩), (3, ⟨.node, [.v (.int .i64 (NodeT.kind a1)), .v (.int .i64 (NodeT.n a1)), .v (.string (NodeT.s a1)), .ro .str (NodeT.keys a1), .ro .node (NodeT.kids a1)]⟩)], []⟩ (f50K0 N n (exitK (f50e N) [.ro, .ro] [false] true [.tmp 4] [4] [.d .node a0, .d .node a1] k))))))))) (by kernel_rfl) ?_
  simp only [f50L0_eq, f50K0_x0, f50K0_x1, f50L1_eq, f50K1_x0, f50K1_x1]
theorem f50_spec (N : Nat) (a0 : NodeT) (a1 : NodeT) (hg : sm2 sm_node a0 a1 = true) (hm : mu50 [.d .node a0, .d .node a1] = N) : ∃ keep rounds, ∀ {R : Type} (k : List Dt → Option R), evFn (f50e N) keep rounds f50c [.ro, .ro] [false] true [.tmp 4] [4] [.d .node a0, .d .node a1] k = k [.d .bool (eqD a0 a1)] := by
  have hm : me_node a0 a1 = N := hm
  subst hm
  simp only [sm2, Bool.and_eq_true] at hg
  obtain ⟨hg0, hg1⟩ := hg
  have hq0 := hg0
  have hq1 := hg1
  rw [sm_node_def] at hq0 hq1
  simp only [Bool.and_eq_true] at hq0 hq1
  have lk := smL_len hq0.2.2.2.1
  have li := smL_len hq0.2.2.2.2
  refine ⟨f50k, a0.keys.length + a0.kids.length + 1, fun {R} k => ?_⟩
  rw [f50_run, eqD_node]
  by_cases hk : a0.keys.length = a1.keys.length
  rotate_left
  · rw [eqD_ne (x := a0.keys) (y := a1.keys) (fun e => hk (by rw [e])), bneLen hk]
    simp only [bne]
    cases (a0.kind == a1.kind) <;> cases (a0.n == a1.n) <;> cases sEq a0.s a1.s <;> rfl
  by_cases hi : a0.kids.length = a1.kids.length
  rotate_left
  · rw [eqD_ne (x := a0.kids) (y := a1.kids) (fun e => hi (by rw [e])), bneLen hi, show ((a0.keys.length : Int) != (a1.keys.length : Int)) = false by simp [hk]]
    simp only [bne]
    cases (a0.kind == a1.kind) <;> cases (a0.n == a1.n) <;> cases sEq a0.s a1.s <;> cases eqD a0.keys a1.keys <;> rfl
  rw [show ((a0.keys.length : Int) != (a1.keys.length : Int)) = false by simp [hk], show ((a0.kids.length : Int) != (a1.kids.length : Int)) = false by simp [hi]]
  simp only [bne, cond_false]
  cases (a0.kind == a1.kind)
  · rfl
  cases (a0.n == a1.n)
  · rfl
  cases sEq a0.s a1.s
  · rfl
  simp only [Bool.not_true, cond_false, Bool.true_and]
  refine Eq.trans (loop_idx (n := a0.keys.length) (F := fun m i => f50L0 (me_node a0 a1) (a0.keys.length + a0.kids.length + 1) _ _ _ _ _ a0.keys _ _ _ _ a1.keys _ m i) (p := fun j => sEq (atI (t := .str) a0.keys j) (atI (t := .str) a1.keys j)) (good := _) (bad := k [.d .bool false])
    (fun m j hj => ?_) (fun m => by simp only [f50L0, idxE, cond_false]; rfl) a0.keys.length 0 (a0.keys.length + a0.kids.length + 1) (by omega) (by omega)) ?_
  · obtain ⟨h1, h0, hw, ht⟩ := idx hj (by omega)
    obtain ⟨h2, _, _, _⟩ := idx (show j < a1.keys.length by omega) (by omega)
    simp only [f50L0, h1, h0, h2, hw, ht, Bool.and_self, cond_true]
    cases sEq (atI (t := .str) a0.keys j) (atI (t := .str) a1.keys j) <;> rfl
  rw [allN_eq hk (fun j x y hx hy => by rw [atI_of (t := .str) hx, atI_of (t := .str) hy, ← eqD_str])]
  cases eqD a0.keys a1.keys
  · rfl
  simp only [cond_true, Bool.true_and]
  refine Eq.trans (loop_idx (n := a0.kids.length) (F := fun m i => f50L1 (me_node a0 a1) (a0.keys.length + a0.kids.length + 1) _ _ _ _ _ _ a0.kids _ _ _ _ a1.kids m i) (p := fun j => eqD (atI (t := .node) a0.kids j) (atI (t := .node) a1.kids j)) (good := k [.d .bool true]) (bad := k [.d .bool false])
    (fun m j hj => ?_) (fun m => by simp only [f50L1, idxE, cond_false]) a0.kids.length 0 (a0.keys.length + a0.kids.length + 1) (by omega) (by omega)) ?_
  · obtain ⟨h1, h0, hw, ht⟩ := idx hj (by omega)
    obtain ⟨h2, _, _, _⟩ := idx (show j < a1.kids.length by omega) (by omega)
    have ha := smL_at (t := .node) hq0.2.2.2.2 hj
    have hb := smL_at (t := .node) hq1.2.2.2.2 (show j < a1.kids.length by omega)
    have hm1 : Nat.blt (me_node (atI (t := .node) a0.kids j) (atI (t := .node) a1.kids j)) (me_node a0 a1) = true := by
      obtain ⟨x, hx, _⟩ := drop_get hj
      have := ndL_mem (f := nd_node) (List.mem_of_getElem? hx)
      rw [atI_of (t := .node) hx, Nat.blt_eq]; simp only [me_node, nd_node_def a0]; omega
    simp only [f50L1, h1, h0, h2, hw, ht, Bool.and_self, cond_true, sm2, eta_node, eN_eq, ha, hb, hm1]
    cases eqD (atI (t := .node) a0.kids j) (atI (t := .node) a1.kids j) <;> rfl
  · rw [allN_eq hi (fun j x y hx hy => by rw [atI_of (t := .node) hx, atI_of (t := .node) hy])]
    cases eqD a0.kids a1.kids <;> rfl

noncomputable def s50 : Gm.Spec := Gm.Spec.of [.ro, .ro] [false] true q50
theorem good50 : Gm.Good Try.prog (50, s50) := by
  refine ⟨⟨spec_rec mu50 fun N hr => ?_, _, Try.func50, by kernel_rfl, of_decide_eq_true (by kernel_rfl)⟩, Gm.Spec.of_natl _ _ _ _⟩
  have hl : ∀ x ∈ [(50, s50r N)], Gm.Good Try.prog x := List.forall_mem_cons.2 ⟨⟨⟨hr, _, Try.func50, by kernel_rfl, of_decide_eq_true (by kernel_rfl)⟩, Gm.Spec.of_natl _ _ _ _⟩, List.forall_mem_nil _⟩
  intro R
  refine spec_ok (E := f50e N) (tab_ok.env hl) (tab.natl hl) Try.func50 (by kernel_rfl : Try.f50.body = some f50c) [4] (by kernel_rfl) ?_
  intro ds outs h
  obtain ⟨h, hm⟩ := qeq_some h
  unfold q50 at h
  split at h
  · simp only [Option.some.injEq, Prod.mk.injEq] at h; obtain ⟨hg, h⟩ := h; cases h; exact f50_spec N _ _ hg hm
  · cases h
/-! ### loop.example/g00465/spec.l23Front -/
noncomputable def f51c : Code := (Try.f51.body).getD .skip
def f51k : Nat → Kp := kat [⟨[0, 1], [], [], []⟩, ⟨[0, 1, 5], [], [], []⟩, ⟨[0, 1, 5, 15], [], [], []⟩, ⟨[0, 1, 5], [], [], []⟩, ⟨[0, 1, 5, 26], [], [], []⟩, ⟨[4], [], [], []⟩, ⟨[4], [], [], []⟩]
noncomputable def f51e : Env := tab.env []
noncomputable def f51L0 {R : Type} (n : Nat) (x0 : Option R) (x1 : Int → Bool → Option R) (x2 : Int → Option R) (vs0 : List ByteArray) (vs1 : List ByteArray) : Nat → Int → Option R
  | 0, _ => none
  | m + 1, vs5 =>
    (cond (decide (vs5 < (vs0.length : Int)))
      (cond (decide (vs5 < (vs1.length : Int)))
        (cond ((decide ((0 : Int) ≤ vs5)) && (decide (vs5 < (vs0.length : Int))))
          (cond ((decide ((0 : Int) ≤ vs5)) && (decide (vs5 < (vs1.length : Int))))
            (cond (!(sEq (atI (t := .str) vs0 (Int.toNat vs5)) (atI (t := .str) vs1 (Int.toNat vs5))))
              (x0)
              (f51L0 n x0 x1 x2 vs0 vs1 m (IntKind.wrap .i64 (vs5 + (1 : Int)))))
            none)
          none)
        (x1 vs5 (decide (vs5 < (vs1.length : Int)))))
      (x2 vs5))
theorem f51L0_b {R : Type} (n : Nat) (k' : Ex → St → Option R) (vs0 : List ByteArray) (vs1 : List ByteArray) (vs5 : Int) : ev f51e f51k n (cAt [1,0,1,0,0] f51c) ⟨[(0, .c (.one (.ro .str vs0))), (1, .c (.one (.ro .str vs1))), (5, .c (.one (.v (.int .i64 vs5))))], [], []⟩ k' =
    (cond (decide (vs5 < (vs0.length : Int)))
    (cond (decide (vs5 < (vs1.length : Int)))
      (cond ((decide ((0 : Int) ≤ vs5)) && (decide (vs5 < (vs0.length : Int))))
        (cond ((decide ((0 : Int) ≤ vs5)) && (decide (vs5 < (vs1.length : Int))))
          (cond (!(sEq (atI (t := .str) vs0 (Int.toNat vs5)) (atI (t := .str) vs1 (Int.toNat vs5))))
            (k' .ret ⟨[(4, .c (.one (.v (.bool false))))], [], []⟩)
            (k' .normal ⟨[(0, .c (.one (.ro .str vs0))), (1, .c (.one (.ro .str vs1))), (5, .c (.one (.v (.int .i64 (IntKind.wrap .i64 (vs5 + (1 : Int)))))))], [], []⟩))
          none)
        none)
      (k' (.exit 0) ⟨[(0, .c (.one (.ro .str vs0))), (1, .c (.one (.ro .str vs1))), (5, .c (.one (.v (.int .i64 vs5)))), (15, .c (.one (.v (.bool (decide (vs5 < (vs1.length : Int)))))))], [], []⟩))
    (k' (.exit 0) ⟨[(0, .c (.one (.ro .str vs0))), (1, .c (.one (.ro .str vs1))), (5, .c (.one (.v (.int .i64 vs5)))), (15, .c (.one (.v (.bool false))))], [], []⟩)) := by kernel_rfl
theorem f51L0_eq {R : Type} (n : Nat) (k' : Ex → St → Option R) (vs0 : List ByteArray) (vs1 : List ByteArray) : ∀ (m : Nat) (vs5 : Int), iter (fun st k => ev f51e f51k n (cAt [1,0,1,0,0] f51c) st k) m ⟨[(0, .c (.one (.ro .str vs0))), (1, .c (.one (.ro .str vs1))), (5, .c (.one (.v (.int .i64 vs5))))], [], []⟩ k' = f51L0 n (k' .ret ⟨[(4, .c (.one (.v (.bool false))))], [], []⟩) (fun (xvs5 : Int) (xvs15 : Bool) => k' (.exit 0) ⟨[(0, .c (.one (.ro .str vs0))), (1, .c (.one (.ro .str vs1))), (5, .c (.one (.v (.int .i64 xvs5)))), (15, .c (.one (.v (.bool xvs15))))], [], []⟩) (fun (xvs5 : Int) => k' (.exit 0) ⟨[(0, .c (.one (.ro .str vs0))), (1, .c (.one (.ro .str vs1))), (5, .c (.one (.v (.int .i64 xvs5)))), (15, .c (.one (.v (.bool false))))], [], []⟩) vs0 vs1 m vs5 := by
  intro m; induction m with
  | zero => intros; rfl
  | succ m ih =>
    intro vs5
    simp only [iter]
    rw [f51L0_b]
    simp only [ih, f51L0]

noncomputable def f51K0 {R : Type} (n : Nat) (k' : Ex → St → Option R) : Ex → St → Option R := (blockK 0 (seqK f51e f51k n (cAt [1,1] f51c) k'))
theorem f51K0_x0 {R : Type} (n : Nat) (k : List Dt → Option R) (a0 : List ByteArray) (a1 : List ByteArray)  : f51K0 n (exitK f51e [.ro, .ro] [false] true [.tmp 4] [4] [.d (.sl .str) a0, .d (.sl .str) a1] k) .ret ⟨[(4, .c (.one (.v (.bool false))))], [], []⟩ =
    (k [.d .bool false]) := by kernel_rfl
theorem f51K0_x1 {R : Type} (n : Nat) (k : List Dt → Option R) (a0 : List ByteArray) (a1 : List ByteArray) (vs0 : List ByteArray) (vs1 : List ByteArray) (xvs5 : Int) (xvs15 : Bool) : f51K0 n (exitK f51e [.ro, .ro] [false] true [.tmp 4] [4] [.d (.sl .str) a0, .d (.sl .str) a1] k) (.exit 0) ⟨[(0, .c (.one (.ro .str vs0))), (1, .c (.one (.ro .str vs1))), (5, .c (.one (.v (.int .i64 xvs5)))), (15, .c (.one (.v (.bool xvs15))))], [], []⟩ =
    (k [.d .bool (decide ((vs0.length : Int) < (vs1.length : Int)))]) := by kernel_rfl
theorem f51K0_x2 {R : Type} (n : Nat) (k : List Dt → Option R) (a0 : List ByteArray) (a1 : List ByteArray) (vs0 : List ByteArray) (vs1 : List ByteArray) (xvs5 : Int) : f51K0 n (exitK f51e [.ro, .ro] [false] true [.tmp 4] [4] [.d (.sl .str) a0, .d (.sl .str) a1] k) (.exit 0) ⟨[(0, .c (.one (.ro .str vs0))), (1, .c (.one (.ro .str vs1))), (5, .c (.one (.v (.int .i64 xvs5)))), (15, .c (.one (.v (.bool false))))], [], []⟩ =
    (k [.d .bool (decide ((vs0.length : Int) < (vs1.length : Int)))]) := by kernel_rfl

theorem f51_run {R : Type} (n : Nat) (k : List Dt → Option R) (a0 : List ByteArray) (a1 : List ByteArray) : evFn f51e f51k n f51c [.ro, .ro] [false] true [.tmp 4] [4] [.d (.sl .str) a0, .d (.sl .str) a1] k =
    (f51L0 n (k [.d .bool false]) (fun (xvs5 : Int) (xvs15 : Bool) =>
    (k [.d .bool (decide ((a0.length : Int) < (a1.length : Int)))])) (fun (xvs5 : Int) =>
    (k [.d .bool (decide ((a0.length : Int) < (a1.length : Int)))])) a0 a1 n (0 : Int)) := by
  refine Eq.trans (b := (iter (fun st k => ev f51e f51k n (cAt [1,0,1,0,0] f51c) st k) n ⟨[(0, .c (.one (.ro .str a0))), (1, .c (.one (.ro .str a1))), (5, .c (.one (.v (.int .i64 (0 : Int)))))], [], []⟩ (f51K0 n (exitK f51e [.ro, .ro] [false] true [.tmp 4] [4] [.d (.sl .str) a0, .d (.sl .str) a1] k)))) (by kernel_rfl) ?_
  simp only [f51L0_eq, f51K0_x0, f51K0_x1, f51K0_x2]
theorem f51_spec (a0 : List ByteArray) (a1 : List ByteArray) (hg : gFr a0 a1 = true) : ∃ keep rounds, ∀ {R : Type} (k : List Dt → Option R), evFn f51e keep rounds f51c [.ro, .ro] [false] true [.tmp 4] [4] [.d (.sl .str) a0, .d (.sl .str) a1] k = k [.d .bool (frontOf a0 a1)] := by
  simp only [gFr, Bool.and_eq_true] at hg
  have l0 := gLenW_le hg.1
  have l1 := gLenW_le hg.2
  refine ⟨f51k, a0.length + a1.length + 1, fun {R} k => ?_⟩
  rw [f51_run]
  unfold frontOf
  by_cases hlt : a0.length < a1.length
  · rw [decide_eq_true (show (a0.length : Int) < (a1.length : Int) by omega)]
    refine Eq.trans (loop_idx (n := a0.length) (F := fun m i => f51L0 (a0.length + a1.length + 1) _ _ _ a0 a1 m i) (p := fun j => sEq (atI (t := .str) a0 j) (atI (t := .str) a1 j)) (good := k [.d .bool true]) (bad := k [.d .bool false])
      (fun m j hj => ?_) (fun m => by simp only [f51L0, idxE, cond_false]) a0.length 0 (a0.length + a1.length + 1) (by omega) (by omega)) ?_
    · obtain ⟨h1, h0, hw, ht⟩ := idx hj (by omega)
      obtain ⟨h2, _, _, _⟩ := idx (show j < a1.length by omega) (by omega)
      simp only [f51L0, h1, h0, h2, hw, ht, Bool.and_self, cond_true]
      cases sEq (atI (t := .str) a0 j) (atI (t := .str) a1 j) <;> rfl
    · rw [allN_front (by omega)]
      cases eqD (a1.take a0.length) a0 <;> rfl
  · rw [decide_eq_false (show ¬ ((a0.length : Int) < (a1.length : Int)) by omega)]
    refine Eq.trans (loop_idx (n := a1.length) (F := fun m i => f51L0 (a0.length + a1.length + 1) _ _ _ a0 a1 m i) (p := fun j => sEq (atI (t := .str) a0 j) (atI (t := .str) a1 j)) (good := k [.d .bool false]) (bad := k [.d .bool false])
      (fun m j hj => ?_) (fun m => ?_) a1.length 0 (a0.length + a1.length + 1) (by omega) (by omega)) ?_
    · obtain ⟨h1, h0, hw, ht⟩ := idx hj (by omega)
      obtain ⟨h2, _, _, _⟩ := idx (show j < a0.length by omega) (by omega)
      simp only [f51L0, h1, h0, h2, hw, ht, Bool.and_self, cond_true]
      cases sEq (atI (t := .str) a0 j) (atI (t := .str) a1 j) <;> rfl
    · have hn : decide ((a1.length : Int) < (a1.length : Int)) = false := decide_eq_false (by omega)
      simp only [f51L0, hn, cond_false]
      cases decide ((a1.length : Int) < (a0.length : Int)) <;> rfl
    · cases allN (fun j => sEq (atI (t := .str) a0 j) (atI (t := .str) a1 j)) 0 a1.length <;> rfl

noncomputable def q51 : List Dt → Option (Bool × List Dt)
  | [.d (.sl .str) a0, .d (.sl .str) a1] => some ((gFr a0 a1), [.d .bool (frontOf a0 a1)])
  | _ => none
noncomputable def s51 : Gm.Spec := Gm.Spec.of [.ro, .ro] [false] true q51
theorem good51 : Gm.Good Try.prog (51, s51) := by
  have hl : ∀ x ∈ ([] : List (Nat × Gm.Spec)), Gm.Good Try.prog x := fun _ h => by cases h
  refine ⟨⟨spec_ok (tab_ok.env hl) (tab.natl hl) Try.func51 (by kernel_rfl : Try.f51.body = some f51c) [4] (by kernel_rfl) ?_, _, Try.func51, by kernel_rfl, of_decide_eq_true (by kernel_rfl)⟩, Gm.Spec.of_natl _ _ _ _⟩
  intro ds outs h
  unfold q51 at h
  split at h
  · simp only [Option.some.injEq, Prod.mk.injEq] at h; obtain ⟨hg, h⟩ := h; cases h; exact f51_spec _ _ hg
  · cases h
end Go.Proofs.Ytalnkjjnohgjkaa

/- x -/
namespace Go.Proofs.Ytalnkjjnohgjkaa
open Go Go.Gm
/-! ### loop.example/g00465/impl.isMap -/
noncomputable def f98c : Code := (Try.f98.body).getD .skip
def f98k : Nat → Kp := kat [⟨[1], [], [], []⟩, ⟨[2], [], [], []⟩]
noncomputable def f98e : Env := tab.env []
theorem f98_run {R : Type} (n : Nat) (k : List Dt → Option R) (a0 : NodeT) : evFn f98e f98k n f98c [.ro] [false] true [.tmp 2] [4] [.d .node a0] k =
    (cond ((NodeT.kind a0) == (5 : Int))
    (k [.d .bool (((NodeT.keys a0).length : Int) == ((NodeT.kids a0).length : Int))])
    (k [.d .bool false])) := by kernel_rfl
theorem f98_spec (a0 : NodeT) : ∃ keep rounds, ∀ {R : Type} (k : List Dt → Option R), evFn f98e keep rounds f98c [.ro] [false] true [.tmp 2] [4] [.d .node a0] k = k [.d .bool (isMapN a0)] := by
  refine ⟨f98k, 0, fun k => ?_⟩
  rw [f98_run]; unfold isMapN
  cases a0.kind == (5 : Int) <;> rfl

noncomputable def q98 : List Dt → Option (Bool × List Dt)
  | [.d .node a0] => some (true, [.d .bool (isMapN a0)])
  | _ => none
noncomputable def s98 : Gm.Spec := Gm.Spec.of [.ro] [false] true q98
theorem good98 : Gm.Good Try.prog (98, s98) := by
  have hl : ∀ x ∈ ([] : List (Nat × Gm.Spec)), Gm.Good Try.prog x := fun _ h => by cases h
  refine ⟨⟨spec_ok (tab_ok.env hl) (tab.natl hl) Try.func98 (by kernel_rfl : Try.f98.body = some f98c) [4] (by kernel_rfl) ?_, _, Try.func98, by kernel_rfl, of_decide_eq_true (by kernel_rfl)⟩, Gm.Spec.of_natl _ _ _ _⟩
  intro ds outs h
  unfold q98 at h
  split at h
  · cases h; exact f98_spec _
  · cases h
end Go.Proofs.Ytalnkjjnohgjkaa

/- x -/
namespace Go.Proofs.Ytalnkjjnohgjkaa
open Go Go.Gm
/-! ### loop.example/g00465/impl.from -/
noncomputable def f107c : Code := (Try.f107.body).getD .skip
def f107k : Nat → Kp := kat [⟨[0, 1, 2], [], [], []⟩, ⟨[6], [], [], []⟩]
noncomputable def f107e : Env := tab.env []
theorem f107_run {R : Type} (n : Nat) (k : List Dt → Option R) (a0 : Int) (a1 : Int) (a2 : Int) : evFn f107e f107k n f107c [.ro, .ro, .ro] [false] true [.tmp 6] [4] [.d (.i .i64) a0, .d (.i .i64) a1, .d (.i .i64) a2] k =
    (cond (decide (a0 ≥ a1))
    (k [.d .bool (decide (a0 ≤ a2))])
    (k [.d .bool false])) := by kernel_rfl
theorem f107_spec (a0 : Int) (a1 : Int) (a2 : Int) : ∃ keep rounds, ∀ {R : Type} (k : List Dt → Option R), evFn f107e keep rounds f107c [.ro, .ro, .ro] [false] true [.tmp 6] [4] [.d (.i .i64) a0, .d (.i .i64) a1, .d (.i .i64) a2] k = k [.d .bool (inR a0 a1 a2)] := by
  refine ⟨f107k, 0, fun k => ?_⟩
  rw [f107_run]; unfold inR
  cases decide (a0 ≥ a1) <;> rfl

noncomputable def q107 : List Dt → Option (Bool × List Dt)
  | [.d (.i .i64) a0, .d (.i .i64) a1, .d (.i .i64) a2] => some (true, [.d .bool (inR a0 a1 a2)])
  | _ => none
noncomputable def s107 : Gm.Spec := Gm.Spec.of [.ro, .ro, .ro] [false] true q107
theorem good107 : Gm.Good Try.prog (107, s107) := by
  have hl : ∀ x ∈ ([] : List (Nat × Gm.Spec)), Gm.Good Try.prog x := fun _ h => by cases h
  refine ⟨⟨spec_ok (tab_ok.env hl) (tab.natl hl) Try.func107 (by kernel_rfl : Try.f107.body = some f107c) [4] (by kernel_rfl) ?_, _, Try.func107, by kernel_rfl, of_decide_eq_true (by kernel_rfl)⟩, Gm.Spec.of_natl _ _ _ _⟩
  intro ds outs h
  unfold q107 at h
  split at h
  · cases h; exact f107_spec _ _ _
  · cases h
/-! ### slices.Index[[]string,string] -/
noncomputable def f82c : Code := (Try.f82.body).getD .skip
def f82k : Nat → Kp := kat [⟨[0, 1], [], [], []⟩, ⟨[0, 1, 7, 8], [], [], []⟩, ⟨[0, 1, 7, 8, 9], [], [], []⟩, ⟨[0, 1, 5, 7, 8], [], [], []⟩, ⟨[0, 1, 5, 7, 8, 16], [], [], []⟩, ⟨[4], [], [], []⟩, ⟨[0, 1, 7, 8], [], [], []⟩, ⟨[4], [], [], []⟩]
noncomputable def f82e : Env := tab.env []
noncomputable def f82L0 {R : Type} (n : Nat) (x0 : Int → Option R) (x1 : Int → Bool → Option R) (vs0 : List ByteArray) (vs1 : ByteArray) (vs7 : Int) : Nat → Int → Option R
  | 0, _ => none
  | m + 1, vs8 =>
    (cond (decide (vs8 < vs7))
      (cond ((decide ((0 : Int) ≤ vs8)) && (decide (vs8 < (vs0.length : Int))))
        (cond (sEq vs1 (atI (t := .str) vs0 (Int.toNat vs8)))
          (x0 vs8)
          (f82L0 n x0 x1 vs0 vs1 vs7 m (IntKind.wrap .i64 (vs8 + (1 : Int)))))
        none)
      (x1 vs8 (decide (vs8 < vs7))))
theorem f82L0_b {R : Type} (n : Nat) (k' : Ex → St → Option R) (vs0 : List ByteArray) (vs1 : ByteArray) (vs7 : Int) (vs8 : Int) : ev f82e f82k n (cAt [1,0,1,0,0] f82c) ⟨[(0, .c (.one (.ro .str vs0))), (1, .c (.one (.v (.string vs1)))), (7, .c (.one (.v (.int .i64 vs7)))), (8, .c (.one (.v (.int .i64 vs8))))], [], []⟩ k' =
    (cond (decide (vs8 < vs7))
    (cond ((decide ((0 : Int) ≤ vs8)) && (decide (vs8 < (vs0.length : Int))))
      (cond (sEq vs1 (atI (t := .str) vs0 (Int.toNat vs8)))
        (k' .ret ⟨[(4, .c (.one (.v (.int .i64 vs8))))], [], []⟩)
        (k' .normal ⟨[(0, .c (.one (.ro .str vs0))), (1, .c (.one (.v (.string vs1)))), (7, .c (.one (.v (.int .i64 vs7)))), (8, .c (.one (.v (.int .i64 (IntKind.wrap .i64 (vs8 + (1 : Int)))))))], [], []⟩))
      none)
    (k' (.exit 0) ⟨[(0, .c (.one (.ro .str vs0))), (1, .c (.one (.v (.string vs1)))), (7, .c (.one (.v (.int .i64 vs7)))), (8, .c (.one (.v (.int .i64 vs8)))), (9, .c (.one (.v (.bool (decide (vs8 < vs7))))))], [], []⟩)) := by kernel_rfl
theorem f82L0_eq {R : Type} (n : Nat) (k' : Ex → St → Option R) (vs0 : List ByteArray) (vs1 : ByteArray) (vs7 : Int) : ∀ (m : Nat) (vs8 : Int), iter (fun st k => ev f82e f82k n (cAt [1,0,1,0,0] f82c) st k) m ⟨[(0, .c (.one (.ro .str vs0))), (1, .c (.one (.v (.string vs1)))), (7, .c (.one (.v (.int .i64 vs7)))), (8, .c (.one (.v (.int .i64 vs8))))], [], []⟩ k' = f82L0 n (fun (xvs4 : Int) => k' .ret ⟨[(4, .c (.one (.v (.int .i64 xvs4))))], [], []⟩) (fun (xvs8 : Int) (xvs9 : Bool) => k' (.exit 0) ⟨[(0, .c (.one (.ro .str vs0))), (1, .c (.one (.v (.string vs1)))), (7, .c (.one (.v (.int .i64 vs7)))), (8, .c (.one (.v (.int .i64 xvs8)))), (9, .c (.one (.v (.bool xvs9))))], [], []⟩) vs0 vs1 vs7 m vs8 := by
  intro m; induction m with
  | zero => intros; rfl
  | succ m ih =>
    intro vs8
    simp only [iter]
    rw [f82L0_b]
    simp only [ih, f82L0]

noncomputable def f82K0 {R : Type} (n : Nat) (k' : Ex → St → Option R) : Ex → St → Option R := (blockK 0 (seqK f82e f82k n (cAt [1,1] f82c) k'))
theorem f82K0_x0 {R : Type} (n : Nat) (k : List Dt → Option R) (a0 : List ByteArray) (a1 : ByteArray) (xvs4 : Int) : f82K0 n (exitK f82e [.ro, .ro] [false] true [.tmp 4] [3] [.d (.sl .str) a0, .d .str a1] k) .ret ⟨[(4, .c (.one (.v (.int .i64 xvs4))))], [], []⟩ =
    (k [.d (.i .i64) xvs4]) := by kernel_rfl
theorem f82K0_x1 {R : Type} (n : Nat) (k : List Dt → Option R) (a0 : List ByteArray) (a1 : ByteArray) (vs0 : List ByteArray) (vs1 : ByteArray) (vs7 : Int) (xvs8 : Int) (xvs9 : Bool) : f82K0 n (exitK f82e [.ro, .ro] [false] true [.tmp 4] [3] [.d (.sl .str) a0, .d .str a1] k) (.exit 0) ⟨[(0, .c (.one (.ro .str vs0))), (1, .c (.one (.v (.string vs1)))), (7, .c (.one (.v (.int .i64 vs7)))), (8, .c (.one (.v (.int .i64 xvs8)))), (9, .c (.one (.v (.bool xvs9))))], [], []⟩ =
    (k [.d (.i .i64) (-1 : Int)]) := by kernel_rfl

theorem f82_run {R : Type} (n : Nat) (k : List Dt → Option R) (a0 : List ByteArray) (a1 : ByteArray) : evFn f82e f82k n f82c [.ro, .ro] [false] true [.tmp 4] [3] [.d (.sl .str) a0, .d .str a1] k =
    (f82L0 n (fun (xvs4 : Int) =>
    (k [.d (.i .i64) xvs4])) (fun (xvs8 : Int) (xvs9 : Bool) =>
    (k [.d (.i .i64) (-1 : Int)])) a0 a1 (a0.length : Int) n (0 : Int)) := by
  refine Eq.trans (b := (iter (fun st k => ev f82e f82k n (cAt [1,0,1,0,0] f82c) st k) n ⟨[(0, .c (.one (.ro .str a0))), (1, .c (.one (.v (.string a1)))), (7, .c (.one (.v (.int .i64 (a0.length : Int))))), (8, .c (.one (.v (.int .i64 (0 : Int)))))], [], []⟩ (f82K0 n (exitK f82e [.ro, .ro] [false] true [.tmp 4] [3] [.d (.sl .str) a0, .d .str a1] k)))) (by kernel_rfl) ?_
  simp only [f82L0_eq, f82K0_x0, f82K0_x1]
theorem f82_spec (a0 : List ByteArray) (a1 : ByteArray) (hg : gLenW a0 = true) : ∃ keep rounds, ∀ {R : Type} (k : List Dt → Option R), evFn f82e keep rounds f82c [.ro, .ro] [false] true [.tmp 4] [3] [.d (.sl .str) a0, .d .str a1] k = k [.d (.i .i64) (idxS a0 a1)] := by
  have hl := gLenW_le hg
  refine ⟨f82k, a0.length + 1, fun k => ?_⟩
  rw [f82_run]
  refine Eq.trans (loop_find (n := a0.length) (F := fun m i => f82L0 (a0.length + 1) _ _ a0 a1 (a0.length : Int) m i) (p := fun j => sEq a1 (atI (t := .str) a0 j)) (hit := fun i => k [.d (.i .i64) i]) (miss := k [.d (.i .i64) (-1 : Int)])
    (fun m j hj => ?_) (fun m => by simp only [f82L0, idxE, cond_false]) a0.length 0 (a0.length + 1) (by omega) (by omega)) ?_
  · obtain ⟨h1, h0, hw, ht⟩ := idx hj (by omega)
    simp only [f82L0, h1, h0, hw, ht, Bool.and_self, cond_true]
  · show _ = k [.d (.i .i64) (plc _)]
    cases firstN (fun j => sEq a1 (atI (t := .str) a0 j)) 0 a0.length <;> rfl

noncomputable def q82 : List Dt → Option (Bool × List Dt)
  | [.d (.sl .str) a0, .d .str a1] => some (((fun (x : List ByteArray) (_ : ByteArray) => gLenW x) a0 a1), [.d (.i .i64) (idxS a0 a1)])
  | _ => none
noncomputable def s82 : Gm.Spec := Gm.Spec.of [.ro, .ro] [false] true q82
theorem good82 : Gm.Good Try.prog (82, s82) := by
  have hl : ∀ x ∈ ([] : List (Nat × Gm.Spec)), Gm.Good Try.prog x := fun _ h => by cases h
  refine ⟨⟨spec_ok (tab_ok.env hl) (tab.natl hl) Try.func82 (by kernel_rfl : Try.f82.body = some f82c) [3] (by kernel_rfl) ?_, _, Try.func82, by kernel_rfl, of_decide_eq_true (by kernel_rfl)⟩, Gm.Spec.of_natl _ _ _ _⟩
  intro ds outs h
  unfold q82 at h
  split at h
  · simp only [Option.some.injEq, Prod.mk.injEq] at h; obtain ⟨hg, h⟩ := h; cases h; exact f82_spec _ _ hg
  · cases h
/-! ### loop.example/g00465/spec.Digits -/
noncomputable def f59c : Code := (Try.f59.body).getD .skip
def f59k : Nat → Kp := kat [⟨[0], [], [], []⟩, ⟨[0, 7], [], [], []⟩, ⟨[2], [], [], []⟩, ⟨[0, 3], [], [], []⟩, ⟨[0, 3, 4], [], [], []⟩, ⟨[0, 3, 4, 11], [], [], []⟩, ⟨[0, 3, 4, 5], [], [], []⟩, ⟨[0, 3, 4, 5, 15], [], [], []⟩, ⟨[0, 3, 4, 5], [], [], []⟩, ⟨[0, 3, 4], [], [], []⟩, ⟨[0, 3, 4], [], [], []⟩, ⟨[4, 27], [], [], []⟩, ⟨[2], [], [], []⟩, ⟨[2], [], [], []⟩]
noncomputable def f59e : Env := tab.env []
noncomputable def f59L0 {R : Type} (n : Nat) (x0 : Int → ByteArray → Bool → Option R) (vs3 : Bool) : Nat → Int → ByteArray → Option R
  | 0, _, _ => none
  | m + 1, vs0, vs4 =>
    (cond (vs0 != (0 : Int))
      (cond (decide ((Int.tmod vs0 (10 : Int)) < (0 : Int)))
        (cond (decide (ByteArray.size (bytesOf ([(IntKind.wrap .u8 (IntKind.wrap .i64 ((48 : Int) + (IntKind.wrap .i64 ((0 : Int) - (Int.tmod vs0 (10 : Int)))))))] : List Int)) + ByteArray.size vs4 ≤ 9223372036854775807))
          (f59L0 n x0 vs3 m (IntKind.wrap .i64 (Int.tdiv vs0 (10 : Int))) ((bytesOf ([(IntKind.wrap .u8 (IntKind.wrap .i64 ((48 : Int) + (IntKind.wrap .i64 ((0 : Int) - (Int.tmod vs0 (10 : Int)))))))] : List Int)) ++ vs4))
          none)
        (cond (decide (ByteArray.size (bytesOf ([(IntKind.wrap .u8 (IntKind.wrap .i64 ((48 : Int) + (Int.tmod vs0 (10 : Int)))))] : List Int)) + ByteArray.size vs4 ≤ 9223372036854775807))
          (f59L0 n x0 vs3 m (IntKind.wrap .i64 (Int.tdiv vs0 (10 : Int))) ((bytesOf ([(IntKind.wrap .u8 (IntKind.wrap .i64 ((48 : Int) + (Int.tmod vs0 (10 : Int)))))] : List Int)) ++ vs4))
          none))
      (x0 vs0 vs4 (vs0 != (0 : Int))))
theorem f59L0_b {R : Type} (n : Nat) (k' : Ex → St → Option R) (vs0 : Int) (vs3 : Bool) (vs4 : ByteArray) : ev f59e f59k n (cAt [1,1,1,1,0,0,0] f59c) ⟨[(0, .c (.one (.v (.int .i64 vs0)))), (3, .c (.one (.v (.bool vs3)))), (4, .c (.one (.v (.string vs4))))], [], []⟩ k' =
    (cond (vs0 != (0 : Int))
    (cond (decide ((Int.tmod vs0 (10 : Int)) < (0 : Int)))
      (cond (decide (ByteArray.size (bytesOf ([(IntKind.wrap .u8 (IntKind.wrap .i64 ((48 : Int) + (IntKind.wrap .i64 ((0 : Int) - (Int.tmod vs0 (10 : Int)))))))] : List Int)) + ByteArray.size vs4 ≤ 9223372036854775807))
        (k' .normal ⟨[(0, .c (.one (.v (.int .i64 (IntKind.wrap .i64 (Int.tdiv vs0 (10 : Int))))))), (3, .c (.one (.v (.bool vs3)))), (4, .c (.one (.v (.string ((bytesOf ([(IntKind.wrap .u8 (IntKind.wrap .i64 ((48 : Int) + (IntKind.wrap .i64 ((0 : Int) - (Int.tmod vs0 (10 : Int)))))))] : List Int)) ++ vs4)))))], [], []⟩)
        none)
      (cond (decide (ByteArray.size (bytesOf ([(IntKind.wrap .u8 (IntKind.wrap .i64 ((48 : Int) + (Int.tmod vs0 (10 : Int)))))] : List Int)) + ByteArray.size vs4 ≤ 9223372036854775807))
        (k' .normal ⟨[(0, .c (.one (.v (.int .i64 (IntKind.wrap .i64 (Int.tdiv vs0 (10 : Int))))))), (3, .c (.one (.v (.bool vs3)))), (4, .c (.one (.v (.string ((bytesOf ([(IntKind.wrap .u8 (IntKind.wrap .i64 ((48 : Int) + (Int.tmod vs0 (10 : Int)))))] : List Int)) ++ vs4)))))], [], []⟩)
        none))
    (k' (.exit 0) ⟨[(0, .c (.one (.v (.int .i64 vs0)))), (3, .c (.one (.v (.bool vs3)))), (4, .c (.one (.v (.string vs4)))), (11, .c (.one (.v (.bool (vs0 != (0 : Int))))))], [], []⟩)) := by kernel_rfl
theorem f59L0_eq {R : Type} (n : Nat) (k' : Ex → St → Option R) (vs3 : Bool) : ∀ (m : Nat) (vs0 : Int) (vs4 : ByteArray), iter (fun st k => ev f59e f59k n (cAt [1,1,1,1,0,0,0] f59c) st k) m ⟨[(0, .c (.one (.v (.int .i64 vs0)))), (3, .c (.one (.v (.bool vs3)))), (4, .c (.one (.v (.string vs4))))], [], []⟩ k' = f59L0 n (fun (xvs0 : Int) (xvs4 : ByteArray) (xvs11 : Bool) => k' (.exit 0) ⟨[(0, .c (.one (.v (.int .i64 xvs0)))), (3, .c (.one (.v (.bool vs3)))), (4, .c (.one (.v (.string xvs4)))), (11, .c (.one (.v (.bool xvs11))))], [], []⟩) vs3 m vs0 vs4 := by
  intro m; induction m with
  | zero => intros; rfl
  | succ m ih =>
    intro vs0 vs4
    simp only [iter]
    rw [f59L0_b]
    simp only [ih, f59L0]

noncomputable def f59K0 {R : Type} (n : Nat) (k' : Ex → St → Option R) : Ex → St → Option R := (blockK 0 (seqK f59e f59k n (cAt [1,1,1,1,1] f59c) k'))
theorem f59K0_x0 {R : Type} (n : Nat) (k : List Dt → Option R) (a0 : Int) (vs3 : Bool) (xvs0 : Int) (xvs4 : ByteArray) (xvs11 : Bool) : f59K0 n (exitK f59e [.ro] [false] true [.tmp 2] [9] [.d (.i .i64) a0] k) (.exit 0) ⟨[(0, .c (.one (.v (.int .i64 xvs0)))), (3, .c (.one (.v (.bool vs3)))), (4, .c (.one (.v (.string xvs4)))), (11, .c (.one (.v (.bool xvs11))))], [], []⟩ =
    (cond vs3
    (cond (decide (ByteArray.size (bs [45]) + ByteArray.size xvs4 ≤ 9223372036854775807))
      (k [.d .str ((bs [45]) ++ xvs4)])
      none)
    (k [.d .str xvs4])) := by kernel_rfl

theorem f59_run {R : Type} (n : Nat) (k : List Dt → Option R) (a0 : Int) : evFn f59e f59k n f59c [.ro] [false] true [.tmp 2] [9] [.d (.i .i64) a0] k =
    (cond (a0 == (0 : Int))
    (k [.d .str (bs [48])])
    (f59L0 n (fun (xvs0 : Int) (xvs4 : ByteArray) (xvs11 : Bool) =>
      (cond (decide (a0 < (0 : Int)))
        (cond (decide (ByteArray.size (bs [45]) + ByteArray.size xvs4 ≤ 9223372036854775807))
          (k [.d .str ((bs [45]) ++ xvs4)])
          none)
        (k [.d .str xvs4]))) (decide (a0 < (0 : Int))) n a0 ByteArray.empty)) := by
  refine Eq.trans (b := (cond (a0 == (0 : Int))
    (k [.d .str (bs [48])])
    (iter (fun st k => ev f59e f59k n (cAt [1,1,1,1,0,0,0] f59c) st k) n ⟨[(0, .c (.one (.v (.int .i64 a0)))), (3, .c (.one (.v (.bool (decide (a0 < (0 : Int))))))), (4, .c (.one (.v (.string ByteArray.empty))))], [], []⟩ (f59K0 n (exitK f59e [.ro] [false] true [.tmp 2] [9] [.d (.i .i64) a0] k))))) (by kernel_rfl) ?_
  simp only [f59L0_eq, f59K0_x0]
theorem f59_spec (a0 : Int) (hg : okI a0 = true) : ∃ keep rounds, ∀ {R : Type} (k : List Dt → Option R), evFn f59e keep rounds f59c [.ro] [false] true [.tmp 2] [9] [.d (.i .i64) a0] k = k [.d .str (digS a0)] := by
  have hg0 := hg
  rw [okI_iff] at hg
  refine ⟨f59k, 25, fun {R} k => ?_⟩
  rw [f59_run]
  by_cases hz : a0 = 0
  · subst hz
    have e : digS 0 = bs [48] := by rw [show (0 : Int) = ((0 : Nat) : Int) from rfl, digS_nat, natDig_lt (by omega)]; rfl
    rw [e]; rfl
  have hz' : (a0 == (0 : Int)) = false := by rw [beq_eq_false_iff_ne]; exact hz
  rw [hz', cond_false]
  have key : ∀ (d m : Nat) (n : Int) (out : ByteArray), n.natAbs < 10 ^ d → d ≤ 20 → d < m → (n ≤ 9223372036854775807 ∧ -9223372036854775808 ≤ n) → out.size + d ≤ 100 → ∀ X : Int → ByteArray → Bool → Option R, (∀ o b, X 0 o b = X 0 o false) →
      f59L0 25 X (decide (a0 < (0 : Int))) m n out = X 0 (digR n.natAbs out) false := by
    intro d
    induction d with
    | zero =>
      intro m n out hn hd hm hw hs X hX
      obtain ⟨m, rfl⟩ : ∃ m', m = m' + 1 := ⟨m - 1, by omega⟩
      have : n = 0 := by omega
      subst this
      simp only [f59L0]
      rfl
    | succ d ih =>
      intro m n out hn hd hm hw hs X hX
      obtain ⟨m, rfl⟩ : ∃ m', m = m' + 1 := ⟨m - 1, by omega⟩
      by_cases h0 : n = 0
      · subst h0
        simp only [f59L0]
        rfl
      have h0' : (n != (0 : Int)) = true := by rw [bne_iff_ne]; exact h0
      have hn2 : n.natAbs / 10 < 10 ^ d := by rw [Nat.pow_succ] at hn; omega
      have hb := byte_dig (n.natAbs % 10) (by omega)
      have hsz : ByteArray.size ⟨#[UInt8.ofNat (48 + n.natAbs % 10)]⟩ = 1 := rfl
      simp only [f59L0, h0', cond_true]
      by_cases h1 : n < 0
      · have t1 : IntKind.wrap .i64 (Int.tdiv n 10) = -((n.natAbs / 10 : Nat) : Int) := by rw [tdiv_neg h1]; exact wrap_id (by omega) (by omega)
        have t2 : Int.tmod n 10 = -((n.natAbs % 10 : Nat) : Int) := tmod_neg h1
        have e1 : IntKind.wrap .i64 ((0 : Int) - -((n.natAbs % 10 : Nat) : Int)) = ((n.natAbs % 10 : Nat) : Int) := by rw [wrap_id (by omega) (by omega)]; omega
        rw [t1, t2, e1, hb]
        have fin := ih m (-((n.natAbs / 10 : Nat) : Int)) (⟨#[UInt8.ofNat (48 + n.natAbs % 10)]⟩ ++ out) (by omega) (by omega) (by omega) (by omega) (by rw [ByteArray.size_append]; omega) X hX
        rw [show (-((n.natAbs / 10 : Nat) : Int)).natAbs = n.natAbs / 10 by omega, digR_step (by omega)] at fin
        rw [← fin]
        have hle := app_le (a := ⟨#[UInt8.ofNat (48 + n.natAbs % 10)]⟩) (b := out) (by omega)
        by_cases h2 : -((n.natAbs % 10 : Nat) : Int) < 0
        · simp only [h2, decide_true, cond_true, hle]
        · have h3 : n.natAbs % 10 = 0 := by omega
          simp only [h2, decide_false, cond_false]
          have hb0 : bytesOf [IntKind.wrap .u8 (IntKind.wrap .i64 ((48 : Int) + -((n.natAbs % 10 : Nat) : Int)))] = ⟨#[UInt8.ofNat (48 + n.natAbs % 10)]⟩ := by rw [h3]; rfl
          rw [hb0, hle, cond_true]
      · have t1 : IntKind.wrap .i64 (Int.tdiv n 10) = ((n.natAbs / 10 : Nat) : Int) := by rw [tdiv_pos (by omega)]; exact wrap_id (by omega) (by omega)
        have t2 : Int.tmod n 10 = ((n.natAbs % 10 : Nat) : Int) := tmod_pos (by omega)
        rw [t1, t2, hb]
        have fin := ih m (((n.natAbs / 10 : Nat) : Int)) (⟨#[UInt8.ofNat (48 + n.natAbs % 10)]⟩ ++ out) (by omega) (by omega) (by omega) (by omega) (by rw [ByteArray.size_append]; omega) X hX
        rw [show (((n.natAbs / 10 : Nat) : Int)).natAbs = n.natAbs / 10 by omega, digR_step (by omega)] at fin
        rw [← fin]
        have hle := app_le (a := ⟨#[UInt8.ofNat (48 + n.natAbs % 10)]⟩) (b := out) (by omega)
        have h2 : ¬ ((n.natAbs % 10 : Nat) : Int) < 0 := by omega
        simp only [h2, decide_false, cond_false, cond_true, hle]
  refine Eq.trans (key 20 25 a0 ByteArray.empty (by have : (10 : Nat) ^ 20 = 100000000000000000000 := rfl; omega) (by omega) (by omega) (by omega) (by show 0 + 20 ≤ 100; omega) _ (fun _ _ => rfl)) ?_
  have e : digR a0.natAbs ByteArray.empty = ⟨(natDig a0.natAbs).toArray⟩ := by
    unfold digR; rw [if_neg (by omega)]; apply ba_ext; simp
  rw [e]
  by_cases h1 : a0 < 0
  · have hs := digS_size hg0
    have ed : digS a0 = bs [45] ++ ⟨(natDig a0.natAbs).toArray⟩ := by
      unfold digS; rw [if_pos h1]; apply ba_ext; rw [ba_app]; simp [bs]
    have hs2 : (bs [45]).size + ByteArray.size ⟨(natDig a0.natAbs).toArray⟩ ≤ 9223372036854775807 := by
      rw [ed, ByteArray.size_append] at hs; omega
    simp only [h1, decide_true, cond_true, app_le hs2, ed]
  · have ed : digS a0 = ⟨(natDig a0.natAbs).toArray⟩ := by
      unfold digS; rw [if_neg h1]; simp
    simp only [h1, decide_false, cond_false, ed]

noncomputable def q59 : List Dt → Option (Bool × List Dt)
  | [.d (.i .i64) a0] => some ((okI a0), [.d .str (digS a0)])
  | _ => none
noncomputable def s59 : Gm.Spec := Gm.Spec.of [.ro] [false] true q59
theorem good59 : Gm.Good Try.prog (59, s59) := by
  have hl : ∀ x ∈ ([] : List (Nat × Gm.Spec)), Gm.Good Try.prog x := fun _ h => by cases h
  refine ⟨⟨spec_ok (tab_ok.env hl) (tab.natl hl) Try.func59 (by kernel_rfl : Try.f59.body = some f59c) [9] (by kernel_rfl) ?_, _, Try.func59, by kernel_rfl, of_decide_eq_true (by kernel_rfl)⟩, Gm.Spec.of_natl _ _ _ _⟩
  intro ds outs h
  unfold q59 at h
  split at h
  · simp only [Option.some.injEq, Prod.mk.injEq] at h; obtain ⟨hg, h⟩ := h; cases h; exact f59_spec _ hg
  · cases h
noncomputable def q65 : List Dt → Option (Bool × List Dt)
  | [.d (.i .i64) a0] => some ((okI a0), [.d .str (digS a0)])
  | _ => none
noncomputable def mu65 : List Dt → Nat
  | [.d (.i .i64) a0] => muDig a0
  | _ => 0
noncomputable def s65r (N : Nat) : Gm.Spec := Gm.Spec.of [.ro] [false] true (qlt mu65 N q65)
/-! ### loop.example/g00465/impl.Digits -/
noncomputable def f65c : Code := (Try.f65.body).getD .skip
def f65k : Nat → Kp := kat [⟨[0], [], [], []⟩, ⟨[0, 3], [], [], []⟩, ⟨[2], [], [], []⟩, ⟨[0, 14], [], [], []⟩, ⟨[2], [], [], []⟩, ⟨[0, 25], [], [], []⟩, ⟨[2], [], [], []⟩, ⟨[2], [], [], []⟩]
noncomputable def f65e (N : Nat) : Env := tab.env [(65, s65r N)]
theorem f65_run {R : Type} (N : Nat) (n : Nat) (k : List Dt → Option R) (a0 : Int) : evFn (f65e N) f65k n f65c [.ro] [false] true [.tmp 2] [9] [.d (.i .i64) a0] k =
    (cond (decide (a0 < (0 : Int)))
    (cond (decide (a0 > (-10 : Int)))
      (cond ((okI (IntKind.wrap .i64 (0 - a0))) && (Nat.blt (muDig (IntKind.wrap .i64 (0 - a0))) N))
        (cond (decide (ByteArray.size (bs [45]) + ByteArray.size (digS (IntKind.wrap .i64 (0 - a0))) ≤ 9223372036854775807))
          (k [.d .str ((bs [45]) ++ (digS (IntKind.wrap .i64 (0 - a0))))])
          none)
        none)
      (cond (decide (a0 < (0 : Int)))
        (cond ((okI (IntKind.wrap .i64 (Int.tdiv a0 (10 : Int)))) && (Nat.blt (muDig (IntKind.wrap .i64 (Int.tdiv a0 (10 : Int)))) N))
          (cond ((okI (IntKind.wrap .i64 (0 - (Int.tmod a0 (10 : Int))))) && (Nat.blt (muDig (IntKind.wrap .i64 (0 - (Int.tmod a0 (10 : Int))))) N))
            (cond (decide (ByteArray.size (digS (IntKind.wrap .i64 (Int.tdiv a0 (10 : Int)))) + ByteArray.size (digS (IntKind.wrap .i64 (0 - (Int.tmod a0 (10 : Int))))) ≤ 9223372036854775807))
              (k [.d .str ((digS (IntKind.wrap .i64 (Int.tdiv a0 (10 : Int)))) ++ (digS (IntKind.wrap .i64 (0 - (Int.tmod a0 (10 : Int))))))])
              none)
            none)
          none)
        (cond (decide (a0 < (10 : Int)))
          (k [.d .str (Utf8.encode (IntKind.wrap .i32 (IntKind.wrap .i64 ((48 : Int) + a0))))])
          (cond ((okI (IntKind.wrap .i64 (Int.tdiv a0 (10 : Int)))) && (Nat.blt (muDig (IntKind.wrap .i64 (Int.tdiv a0 (10 : Int)))) N))
            (cond (decide (ByteArray.size (digS (IntKind.wrap .i64 (Int.tdiv a0 (10 : Int)))) + ByteArray.size (Utf8.encode (IntKind.wrap .i32 (IntKind.wrap .i64 ((48 : Int) + (Int.tmod a0 (10 : Int)))))) ≤ 9223372036854775807))
              (k [.d .str ((digS (IntKind.wrap .i64 (Int.tdiv a0 (10 : Int)))) ++ (Utf8.encode (IntKind.wrap .i32 (IntKind.wrap .i64 ((48 : Int) + (Int.tmod a0 (10 : Int)))))))])
              none)
            none))))
    (cond (decide (a0 < (0 : Int)))
      (cond ((okI (IntKind.wrap .i64 (Int.tdiv a0 (10 : Int)))) && (Nat.blt (muDig (IntKind.wrap .i64 (Int.tdiv a0 (10 : Int)))) N))
        (cond ((okI (IntKind.wrap .i64 (0 - (Int.tmod a0 (10 : Int))))) && (Nat.blt (muDig (IntKind.wrap .i64 (0 - (Int.tmod a0 (10 : Int))))) N))
          (cond (decide (ByteArray.size (digS (IntKind.wrap .i64 (Int.tdiv a0 (10 : Int)))) + ByteArray.size (digS (IntKind.wrap .i64 (0 - (Int.tmod a0 (10 : Int))))) ≤ 9223372036854775807))
            (k [.d .str ((digS (IntKind.wrap .i64 (Int.tdiv a0 (10 : Int)))) ++ (digS (IntKind.wrap .i64 (0 - (Int.tmod a0 (10 : Int))))))])
            none)
          none)
        none)
      (cond (decide (a0 < (10 : Int)))
        (k [.d .str (Utf8.encode (IntKind.wrap .i32 (IntKind.wrap .i64 ((48 : Int) + a0))))])
        (cond ((okI (IntKind.wrap .i64 (Int.tdiv a0 (10 : Int)))) && (Nat.blt (muDig (IntKind.wrap .i64 (Int.tdiv a0 (10 : Int)))) N))
          (cond (decide (ByteArray.size (digS (IntKind.wrap .i64 (Int.tdiv a0 (10 : Int)))) + ByteArray.size (Utf8.encode (IntKind.wrap .i32 (IntKind.wrap .i64 ((48 : Int) + (Int.tmod a0 (10 : Int)))))) ≤ 9223372036854775807))
            (k [.d .str ((digS (IntKind.wrap .i64 (Int.tdiv a0 (10 : Int)))) ++ (Utf8.encode (IntKind.wrap .i32 (IntKind.wrap .i64 ((48 : Int) + (Int.tmod a0 (10 : Int)))))))])
            none)
          none)))) := by kernel_rfl
theorem f65_spec (N : Nat) (a0 : Int) (hg : okI a0 = true) (hm : mu65 [.d (.i .i64) a0] = N) : ∃ keep rounds, ∀ {R : Type} (k : List Dt → Option R), evFn (f65e N) keep rounds f65c [.ro] [false] true [.tmp 2] [9] [.d (.i .i64) a0] k = k [.d .str (digS a0)] := by
  refine ⟨f65k, 0, fun k => ?_⟩
  rw [f65_run]
  have hm : muDig a0 = N := hm
  subst hm
  have hg0 := hg
  rw [okI_iff] at hg
  by_cases h1 : a0 < 0
  · by_cases h2 : a0 > -10
    · have o1 : okI (IntKind.wrap .i64 (0 - a0)) = true := by rw [wrap_id (by omega) (by omega), okI_iff]; omega
      have m1 : Nat.blt (muDig (IntKind.wrap .i64 (0 - a0))) (muDig a0) = true := by
        rw [wrap_id (by omega) (by omega), Nat.blt_eq]; unfold muDig; rw [if_pos h1, if_neg (by omega)]; omega
      have s1 := digS_size o1
      have b1 : (bs [45]).size = 1 := rfl
      simp only [h1, h2, o1, m1, decide_true, cond_true, Bool.and_self, app_le (show (bs [45]).size + (digS (IntKind.wrap .i64 (0 - a0))).size ≤ 9223372036854775807 by omega), digS_negone h1 h2]
    · have t1 : IntKind.wrap .i64 (Int.tdiv a0 10) = Int.tdiv a0 10 := by rw [tdiv_neg h1]; exact wrap_id (by omega) (by omega)
      have o1 : okI (Int.tdiv a0 10) = true := by rw [tdiv_neg h1, okI_iff]; omega
      have m1 : Nat.blt (muDig (Int.tdiv a0 10)) (muDig a0) = true := by
        rw [tdiv_neg h1, Nat.blt_eq]; unfold muDig; rw [if_pos h1]; split <;> omega
      have e2 : IntKind.wrap .i64 (0 - (Int.tmod a0 10)) = ((a0.natAbs % 10 : Nat) : Int) := by
        rw [tmod_neg h1, wrap_id (by omega) (by omega)]; omega
      have o2 : okI (IntKind.wrap .i64 (0 - (Int.tmod a0 10))) = true := by rw [e2, okI_iff]; omega
      have m2 : Nat.blt (muDig (IntKind.wrap .i64 (0 - (Int.tmod a0 10)))) (muDig a0) = true := by
        rw [e2, Nat.blt_eq]; unfold muDig; rw [if_pos h1, if_neg (by omega)]; omega
      have s1 := digS_size o1
      have s2 := digS_size o2
      simp only [h1, h2, t1, o1, m1, o2, m2, decide_true, decide_false, cond_true, cond_false, Bool.and_self, app_le (show (digS (Int.tdiv a0 10)).size + (digS (IntKind.wrap .i64 (0 - (Int.tmod a0 10)))).size ≤ 9223372036854775807 by omega), digS_le h2]
  · by_cases h2 : a0 < 10
    · simp only [h1, h2, decide_true, decide_false, cond_true, cond_false, digS_one (show 0 ≤ a0 by omega) h2]
    · have t1 : IntKind.wrap .i64 (Int.tdiv a0 10) = Int.tdiv a0 10 := by rw [tdiv_pos (by omega)]; exact wrap_id (by omega) (by omega)
      have o1 : okI (Int.tdiv a0 10) = true := by rw [tdiv_pos (by omega), okI_iff]; omega
      have m1 : Nat.blt (muDig (Int.tdiv a0 10)) (muDig a0) = true := by
        rw [tdiv_pos (by omega), Nat.blt_eq]; unfold muDig; rw [if_neg h1, if_neg (by omega)]; omega
      have s1 := digS_size o1
      have s2 : (Utf8.encode (IntKind.wrap .i32 (IntKind.wrap .i64 ((48 : Int) + (Int.tmod a0 10))))).size ≤ 4 := encode_size_le _
      simp only [h1, h2, t1, o1, m1, decide_true, decide_false, cond_true, cond_false, Bool.and_self, app_le (show (digS (Int.tdiv a0 10)).size + (Utf8.encode (IntKind.wrap .i32 (IntKind.wrap .i64 ((48 : Int) + (Int.tmod a0 10))))).size ≤ 9223372036854775807 by omega), digS_ge h2]

noncomputable def s65 : Gm.Spec := Gm.Spec.of [.ro] [false] true q65
theorem good65 : Gm.Good Try.prog (65, s65) := by
  refine ⟨⟨spec_rec mu65 fun N hr => ?_, _, Try.func65, by kernel_rfl, of_decide_eq_true (by kernel_rfl)⟩, Gm.Spec.of_natl _ _ _ _⟩
  have hl : ∀ x ∈ [(65, s65r N)], Gm.Good Try.prog x := List.forall_mem_cons.2 ⟨⟨⟨hr, _, Try.func65, by kernel_rfl, of_decide_eq_true (by kernel_rfl)⟩, Gm.Spec.of_natl _ _ _ _⟩, List.forall_mem_nil _⟩
  intro R
  refine spec_ok (E := f65e N) (tab_ok.env hl) (tab.natl hl) Try.func65 (by kernel_rfl : Try.f65.body = some f65c) [9] (by kernel_rfl) ?_
  intro ds outs h
  obtain ⟨h, hm⟩ := qeq_some h
  unfold q65 at h
  split at h
  · simp only [Option.some.injEq, Prod.mk.injEq] at h; obtain ⟨hg, h⟩ := h; cases h; exact f65_spec N _ hg hm
  · cases h
/-! ### loop.example/g00465/impl.Number -/
noncomputable def f95c : Code := (Try.f95.body).getD .skip
def f95k : Nat → Kp := kat [⟨[0], [], [], []⟩, ⟨[0, 4], [], [], []⟩, ⟨[0, 4, 14], [], [], []⟩, ⟨[0, 4], [], [], []⟩, ⟨[0, 4, 23], [], [], []⟩, ⟨[2, 3], [], [], []⟩, ⟨[0, 4, 5], [], [], []⟩, ⟨[0, 4, 5, 25, 26], [], [], []⟩, ⟨[0, 4, 5, 25, 26, 27], [], [], []⟩, ⟨[0, 4, 5, 6, 25, 26], [], [], []⟩, ⟨[0, 4, 5, 6, 25, 26, 38], [], [], []⟩, ⟨[2, 3], [], [], []⟩, ⟨[0, 4, 5, 25, 26], [], [], []⟩, ⟨[0, 4, 5, 25, 26], [], [], []⟩, ⟨[0, 5, 52], [], [], []⟩, ⟨[0, 5], [], [], []⟩, ⟨[5, 63], [], [], []⟩, ⟨[2, 3], [], [], []⟩, ⟨[2, 3], [], [], []⟩]
noncomputable def f95e : Env := tab.env [(65, s65), (107, s107)]
noncomputable def f95L0 {R : Type} (n : Nat) (x0 : Option R) (x1 : Int → Int → Bool → Option R) (vs0 : ByteArray) (vs4 : ByteArray) (vs25 : Int) : Nat → Int → Int → Option R
  | 0, _, _ => none
  | m + 1, vs5, vs26 =>
    (cond (decide (vs26 < vs25))
      (cond ((decide ((0 : Int) ≤ vs26)) && (decide (vs26 < (ByteArray.size vs4 : Int))))
        (cond (decide ((((ByteArray.data vs4).getD (Int.toNat vs26) 0).toNat : Int) < (48 : Int)))
          (x0)
          (cond ((decide ((0 : Int) ≤ vs26)) && (decide (vs26 < (ByteArray.size vs4 : Int))))
            (cond (decide ((((ByteArray.data vs4).getD (Int.toNat vs26) 0).toNat : Int) > (57 : Int)))
              (x0)
              (cond ((decide ((0 : Int) ≤ vs26)) && (decide (vs26 < (ByteArray.size vs4 : Int))))
                (f95L0 n x0 x1 vs0 vs4 vs25 m (IntKind.wrap .i64 ((IntKind.wrap .i64 ((10 : Int) * vs5)) + (IntKind.wrap .i64 (IntKind.wrap .u8 ((((ByteArray.data vs4).getD (Int.toNat vs26) 0).toNat : Int) - (48 : Int)))))) (IntKind.wrap .i64 (vs26 + (1 : Int))))
                none))
            none))
        none)
      (x1 vs5 vs26 (decide (vs26 < vs25))))
theorem f95L0_b {R : Type} (n : Nat) (k' : Ex → St → Option R) (vs0 : ByteArray) (vs4 : ByteArray) (vs5 : Int) (vs25 : Int) (vs26 : Int) : ev f95e f95k n (cAt [1,1,1,1,1,0,1,0,0] f95c) ⟨[(0, .c (.one (.v (.string vs0)))), (4, .c (.one (.v (.string vs4)))), (5, .c (.one (.v (.int .i64 vs5)))), (25, .c (.one (.v (.int .i64 vs25)))), (26, .c (.one (.v (.int .i64 vs26))))], [], []⟩ k' =
    (cond (decide (vs26 < vs25))
    (cond ((decide ((0 : Int) ≤ vs26)) && (decide (vs26 < (ByteArray.size vs4 : Int))))
      (cond (decide ((((ByteArray.data vs4).getD (Int.toNat vs26) 0).toNat : Int) < (48 : Int)))
        (k' .ret ⟨[(2, .c (.one (.v (.int .i64 (0 : Int))))), (3, .c (.one (.v (.bool false))))], [], []⟩)
        (cond ((decide ((0 : Int) ≤ vs26)) && (decide (vs26 < (ByteArray.size vs4 : Int))))
          (cond (decide ((((ByteArray.data vs4).getD (Int.toNat vs26) 0).toNat : Int) > (57 : Int)))
            (k' .ret ⟨[(2, .c (.one (.v (.int .i64 (0 : Int))))), (3, .c (.one (.v (.bool false))))], [], []⟩)
            (cond ((decide ((0 : Int) ≤ vs26)) && (decide (vs26 < (ByteArray.size vs4 : Int))))
              (k' .normal ⟨[(0, .c (.one (.v (.string vs0)))), (4, .c (.one (.v (.string vs4)))), (5, .c (.one (.v (.int .i64 (IntKind.wrap .i64 ((IntKind.wrap .i64 ((10 : Int) * vs5)) + (IntKind.wrap .i64 (IntKind.wrap .u8 ((((ByteArray.data vs4).getD (Int.toNat vs26) 0).toNat : Int) - (48 : Int)))))))))), (25, .c (.one (.v (.int .i64 vs25)))), (26, .c (.one (.v (.int .i64 (IntKind.wrap .i64 (vs26 + (1 : Int)))))))], [], []⟩)
              none))
          none))
      none)
    (k' (.exit 0) ⟨[(0, .c (.one (.v (.string vs0)))), (4, .c (.one (.v (.string vs4)))), (5, .c (.one (.v (.int .i64 vs5)))), (25, .c (.one (.v (.int .i64 vs25)))), (26, .c (.one (.v (.int .i64 vs26)))), (27, .c (.one (.v (.bool (decide (vs26 < vs25))))))], [], []⟩)) := by kernel_rfl
theorem f95L0_eq {R : Type} (n : Nat) (k' : Ex → St → Option R) (vs0 : ByteArray) (vs4 : ByteArray) (vs25 : Int) : ∀ (m : Nat) (vs5 : Int) (vs26 : Int), iter (fun st k => ev f95e f95k n (cAt [1,1,1,1,1,0,1,0,0] f95c) st k) m ⟨[(0, .c (.one (.v (.string vs0)))), (4, .c (.one (.v (.string vs4)))), (5, .c (.one (.v (.int .i64 vs5)))), (25, .c (.one (.v (.int .i64 vs25)))), (26, .c (.one (.v (.int .i64 vs26))))], [], []⟩ k' = f95L0 n (k' .ret ⟨[(2, .c (.one (.v (.int .i64 (0 : Int))))), (3, .c (.one (.v (.bool false))))], [], []⟩) (fun (xvs5 : Int) (xvs26 : Int) (xvs27 : Bool) => k' (.exit 0) ⟨[(0, .c (.one (.v (.string vs0)))), (4, .c (.one (.v (.string vs4)))), (5, .c (.one (.v (.int .i64 xvs5)))), (25, .c (.one (.v (.int .i64 vs25)))), (26, .c (.one (.v (.int .i64 xvs26)))), (27, .c (.one (.v (.bool xvs27))))], [], []⟩) vs0 vs4 vs25 m vs5 vs26 := by
  intro m; induction m with
  | zero => intros; rfl
  | succ m ih =>
    intro vs5 vs26
    simp only [iter]
    rw [f95L0_b]
    simp only [ih, f95L0]

noncomputable def f95K0 {R : Type} (n : Nat) (k' : Ex → St → Option R) : Ex → St → Option R := (blockK 0 (seqK f95e f95k n (cAt [1,1,1,1,1,1] f95c) k'))
theorem f95K0_x0 {R : Type} (n : Nat) (k : List Dt → Option R) (a0 : ByteArray)  : f95K0 n (exitK f95e [.ro] [false, false] true [.tmp 2, .tmp 3] [3, 4] [.d .str a0] k) .ret ⟨[(2, .c (.one (.v (.int .i64 (0 : Int))))), (3, .c (.one (.v (.bool false))))], [], []⟩ =
    (k [.d (.i .i64) (0 : Int), .d .bool false]) := by kernel_rfl
theorem f95K0_x1 {R : Type} (n : Nat) (k : List Dt → Option R) (a0 : ByteArray) (vs0 : ByteArray) (vs4 : ByteArray) (vs25 : Int) (xvs5 : Int) (xvs26 : Int) (xvs27 : Bool) : f95K0 n (exitK f95e [.ro] [false, false] true [.tmp 2, .tmp 3] [3, 4] [.d .str a0] k) (.exit 0) ⟨[(0, .c (.one (.v (.string vs0)))), (4, .c (.one (.v (.string vs4)))), (5, .c (.one (.v (.int .i64 xvs5)))), (25, .c (.one (.v (.int .i64 vs25)))), (26, .c (.one (.v (.int .i64 xvs26)))), (27, .c (.one (.v (.bool xvs27))))], [], []⟩ =
    (cond (decide ((ByteArray.size vs4 : Int) < (ByteArray.size vs0 : Int)))
    (cond (!(inR (IntKind.wrap .i64 (0 - xvs5)) (-1000000000000 : Int) (1000000000000 : Int)))
      (k [.d (.i .i64) (0 : Int), .d .bool false])
      (cond (okI (IntKind.wrap .i64 (0 - xvs5)))
        (cond (!(sEq (digS (IntKind.wrap .i64 (0 - xvs5))) vs0))
          (k [.d (.i .i64) (0 : Int), .d .bool false])
          (k [.d (.i .i64) (IntKind.wrap .i64 (0 - xvs5)), .d .bool true]))
        none))
    (cond (!(inR xvs5 (-1000000000000 : Int) (1000000000000 : Int)))
      (k [.d (.i .i64) (0 : Int), .d .bool false])
      (cond (okI xvs5)
        (cond (!(sEq (digS xvs5) vs0))
          (k [.d (.i .i64) (0 : Int), .d .bool false])
          (k [.d (.i .i64) xvs5, .d .bool true]))
        none))) := by kernel_rfl

theorem f95_run {R : Type} (n : Nat) (k : List Dt → Option R) (a0 : ByteArray) : evFn f95e f95k n f95c [.ro] [false, false] true [.tmp 2, .tmp 3] [3, 4] [.d .str a0] k =
    (cond (!(sEq a0 ByteArray.empty))
    (cond (decide ((0 : Int) < (ByteArray.size a0 : Int)))
      (cond ((((ByteArray.data a0).getD 0 0).toNat : Int) == (45 : Int))
        (cond ((decide ((1 : Int) ≤ (ByteArray.size a0 : Int))) && (decide ((ByteArray.size a0 : Int) ≤ (ByteArray.size a0 : Int))))
          (cond (sEq (ByteArray.extract a0 1 (Int.toNat (ByteArray.size a0 : Int))) ByteArray.empty)
            (k [.d (.i .i64) (0 : Int), .d .bool false])
            (cond (decide ((ByteArray.size (ByteArray.extract a0 1 (Int.toNat (ByteArray.size a0 : Int))) : Int) > (13 : Int)))
              (k [.d (.i .i64) (0 : Int), .d .bool false])
              (f95L0 n (k [.d (.i .i64) (0 : Int), .d .bool false]) (fun (xvs5 : Int) (xvs26 : Int) (xvs27 : Bool) =>
                (cond (decide ((ByteArray.size (ByteArray.extract a0 1 (Int.toNat (ByteArray.size a0 : Int))) : Int) < (ByteArray.size a0 : Int)))
                  (cond (!(inR (IntKind.wrap .i64 (0 - xvs5)) (-1000000000000 : Int) (1000000000000 : Int)))
                    (k [.d (.i .i64) (0 : Int), .d .bool false])
                    (cond (okI (IntKind.wrap .i64 (0 - xvs5)))
                      (cond (!(sEq (digS (IntKind.wrap .i64 (0 - xvs5))) a0))
                        (k [.d (.i .i64) (0 : Int), .d .bool false])
                        (k [.d (.i .i64) (IntKind.wrap .i64 (0 - xvs5)), .d .bool true]))
                      none))
                  (cond (!(inR xvs5 (-1000000000000 : Int) (1000000000000 : Int)))
                    (k [.d (.i .i64) (0 : Int), .d .bool false])
                    (cond (okI xvs5)
                      (cond (!(sEq (digS xvs5) a0))
                        (k [.d (.i .i64) (0 : Int), .d .bool false])
                        (k [.d (.i .i64) xvs5, .d .bool true]))
                      none)))) a0 (ByteArray.extract a0 1 (Int.toNat (ByteArray.size a0 : Int))) (ByteArray.size (ByteArray.extract a0 1 (Int.toNat (ByteArray.size a0 : Int))) : Int) n (0 : Int) (0 : Int))))
          none)
        (cond (sEq a0 ByteArray.empty)
          (k [.d (.i .i64) (0 : Int), .d .bool false])
          (cond (decide ((ByteArray.size a0 : Int) > (13 : Int)))
            (k [.d (.i .i64) (0 : Int), .d .bool false])
            (f95L0 n (k [.d (.i .i64) (0 : Int), .d .bool false]) (fun (xvs5 : Int) (xvs26 : Int) (xvs27 : Bool) =>
              (cond (decide ((ByteArray.size a0 : Int) < (ByteArray.size a0 : Int)))
                (cond (!(inR (IntKind.wrap .i64 (0 - xvs5)) (-1000000000000 : Int) (1000000000000 : Int)))
                  (k [.d (.i .i64) (0 : Int), .d .bool false])
                  (cond (okI (IntKind.wrap .i64 (0 - xvs5)))
                    (cond (!(sEq (digS (IntKind.wrap .i64 (0 - xvs5))) a0))
                      (k [.d (.i .i64) (0 : Int), .d .bool false])
                      (k [.d (.i .i64) (IntKind.wrap .i64 (0 - xvs5)), .d .bool true]))
                    none))
                (cond (!(inR xvs5 (-1000000000000 : Int) (1000000000000 : Int)))
                  (k [.d (.i .i64) (0 : Int), .d .bool false])
                  (cond (okI xvs5)
                    (cond (!(sEq (digS xvs5) a0))
                      (k [.d (.i .i64) (0 : Int), .d .bool false])
                      (k [.d (.i .i64) xvs5, .d .bool true]))
                    none)))) a0 a0 (ByteArray.size a0 : Int) n (0 : Int) (0 : Int)))))
      none)
    (cond (sEq a0 ByteArray.empty)
      (k [.d (.i .i64) (0 : Int), .d .bool false])
      (cond (decide ((ByteArray.size a0 : Int) > (13 : Int)))
        (k [.d (.i .i64) (0 : Int), .d .bool false])
        (f95L0 n (k [.d (.i .i64) (0 : Int), .d .bool false]) (fun (xvs5 : Int) (xvs26 : Int) (xvs27 : Bool) =>
          (cond (decide ((ByteArray.size a0 : Int) < (ByteArray.size a0 : Int)))
            (cond (!(inR (IntKind.wrap .i64 (0 - xvs5)) (-1000000000000 : Int) (1000000000000 : Int)))
              (k [.d (.i .i64) (0 : Int), .d .bool false])
              (cond (okI (IntKind.wrap .i64 (0 - xvs5)))
                (cond (!(sEq (digS (IntKind.wrap .i64 (0 - xvs5))) a0))
                  (k [.d (.i .i64) (0 : Int), .d .bool false])
                  (k [.d (.i .i64) (IntKind.wrap .i64 (0 - xvs5)), .d .bool true]))
                none))
            (cond (!(inR xvs5 (-1000000000000 : Int) (1000000000000 : Int)))
              (k [.d (.i .i64) (0 : Int), .d .bool false])
              (cond (okI xvs5)
                (cond (!(sEq (digS xvs5) a0))
                  (k [.d (.i .i64) (0 : Int), .d .bool false])
                  (k [.d (.i .i64) xvs5, .d .bool true]))
                none)))) a0 a0 (ByteArray.size a0 : Int) n (0 : Int) (0 : Int))))) := by
  refine Eq.trans (b := (cond (!(sEq a0 ByteArray.empty))
    (cond (decide ((0 : Int) < (ByteArray.size a0 : Int)))
      (cond ((((ByteArray.data a0).getD 0 0).toNat : Int) == (45 : Int))
        (cond ((decide ((1 : Int) ≤ (ByteArray.size a0 : Int))) && (decide ((ByteArray.size a0 : Int) ≤ (ByteArray.size a0 : Int))))
          (cond (sEq (ByteArray.extract a0 1 (Int.toNat (ByteArray.size a0 : Int))) ByteArray.empty)
            (k [.d (.i .i64) (0 : Int), .d .bool false])
            (cond (decide ((ByteArray.size (ByteArray.extract a0 1 (Int.toNat (ByteArray.size a0 : Int))) : Int) > (13 : Int)))
              (k [.d (.i .i64) (0 : Int), .d .bool false])
              (iter (fun st k => ev f95e f95k n (cAt [1,1,1,1,1,0,1,0,0] f95c) st k) n ⟨[(0, .c (.one (.v (.string a0)))), (4, .c (.one (.v (.string (ByteArray.extract a0 1 (Int.toNat (ByteArray.size a0 : Int))))))), (5, .c (.one (.v (.int .i64 (0 : Int))))), (25, .c (.one (.v (.int .i64 (ByteArray.size (ByteArray.extract a0 1 (Int.toNat (ByteArray.size a0 : Int))) : Int))))), (26, .c (.one (.v (.int .i64 (0 : Int)))))], [], []⟩ (f95K0 n (exitK f95e [.ro] [false, false] true [.tmp 2, .tmp 3] [3, 4] [.d .str a0] k)))))
          none)
        (cond (sEq a0 ByteArray.empty)
          (k [.d (.i .i64) (0 : Int), .d .bool false])
          (cond (decide ((ByteArray.size a0 : Int) > (13 : Int)))
            (k [.d (.i .i64) (0 : Int), .d .bool false])
            (iter (fun st k => ev f95e f95k n (cAt [1,1,1,1,1,0,1,0,0] f95c) st k) n ⟨[(0, .c (.one (.v (.string a0)))), (4, .c (.one (.v (.string a0)))), (5, .c (.one (.v (.int .i64 (0 : Int))))), (25, .c (.one (.v (.int .i64 (ByteArray.size a0 : Int))))), (26, .c (.one (.v (.int .i64 (0 : Int)))))], [], []⟩ (f95K0 n (exitK f95e [.ro] [false, false] true [.tmp 2, .tmp 3] [3, 4] [.d .str a0] k))))))
      none)
    (cond (sEq a0 ByteArray.empty)
      (k [.d (.i .i64) (0 : Int), .d .bool false])
      (cond (decide ((ByteArray.size a0 : Int) > (13 : Int)))
        (k [.d (.i .i64) (0 : Int), .d .bool false])
        (iter (fun st k => ev f95e f95k n (cAt [1,1,1,1,1,0,1,0,0] f95c) st k) n ⟨[(0, .c (.one (.v (.string a0)))), (4, .c (.one (.v (.string a0)))), (5, .c (.one (.v (.int .i64 (0 : Int))))), (25, .c (.one (.v (.int .i64 (ByteArray.size a0 : Int))))), (26, .c (.one (.v (.int .i64 (0 : Int)))))], [], []⟩ (f95K0 n (exitK f95e [.ro] [false, false] true [.tmp 2, .tmp 3] [3, 4] [.d .str a0] k))))))) (by kernel_rfl) ?_
  simp only [f95L0_eq, f95K0_x0, f95K0_x1]
theorem f95_spec (a0 : ByteArray) : ∃ keep rounds, ∀ {R : Type} (k : List Dt → Option R), evFn f95e keep rounds f95c [.ro] [false, false] true [.tmp 2, .tmp 3] [3, 4] [.d .str a0] k = k [.d (.i .i64) ((numS a0).1), .d .bool ((numS a0).2)] := by
  refine ⟨f95k, 14, fun {R} k => ?_⟩
  rw [f95_run]
  show _ = k [.d (.i .i64) (numS a0).1, .d .bool (numS a0).2]
  have key : ∀ (t : ByteArray) (bad : Option R) (fin : Int → Int → Bool → Option R), t.size ≤ 13 → f95L0 14 bad fin a0 t (t.size : Int) 14 (0 : Int) (0 : Int) = Sum.elim (fun _ => bad) (fun n => fin n (t.size : Int) false) (foldE numStep t.data.toList 0) := by
    intro t bad fin ht
    have hlen : t.data.toList.length = t.size := rfl
    refine Eq.trans (loop_fold (xs := t.data.toList) (F := fun m j a => f95L0 14 bad fin a0 t (t.size : Int) m a (j : Int)) (step := numStep) (out := fun _ => bad) (good := fun n => fin n (t.size : Int) false) (fun _ => True) (fun _ _ _ _ _ _ => trivial) (fun m j a x hx _ => ?_) (fun m a _ => ?_) t.size 0 14 0 (by omega) (by omega) trivial) (by rw [List.drop_zero])
    · have hj : j < t.size := by have := lt_of_get hx; omega
      obtain ⟨h1, h0, hw, htt⟩ := idx hj (by omega)
      have hc : (ByteArray.data t).getD j 0 = x := by
        rw [Array.getElem?_toList] at hx
        rw [Array.getD_eq_getD_getElem?, hx]; rfl
      simp only [f95L0, h1, h0, hw, htt, hc, Bool.and_self, cond_true]
      unfold numStep
      cases decide ((x.toNat : Int) < (48 : Int)) <;> cases decide ((x.toNat : Int) > (57 : Int)) <;> rfl
    · simp only [f95L0, hlen, idxE, cond_false]
  have fin : ∀ t : ByteArray, cond (sEq t ByteArray.empty) (k [.d (.i .i64) (0 : Int), .d .bool false]) (cond (decide ((ByteArray.size t : Int) > (13 : Int))) (k [.d (.i .i64) (0 : Int), .d .bool false])
      (f95L0 14 (k [.d (.i .i64) (0 : Int), .d .bool false]) (fun (xvs5 : Int) (xvs26 : Int) (xvs27 : Bool) =>
        (cond (decide ((ByteArray.size t : Int) < (ByteArray.size a0 : Int)))
          (cond (!(inR (IntKind.wrap .i64 (0 - xvs5)) (-1000000000000 : Int) (1000000000000 : Int)))
            (k [.d (.i .i64) (0 : Int), .d .bool false])
            (cond (okI (IntKind.wrap .i64 (0 - xvs5)))
              (cond (!(sEq (digS (IntKind.wrap .i64 (0 - xvs5))) a0))
                (k [.d (.i .i64) (0 : Int), .d .bool false])
                (k [.d (.i .i64) (IntKind.wrap .i64 (0 - xvs5)), .d .bool true]))
              none))
          (cond (!(inR xvs5 (-1000000000000 : Int) (1000000000000 : Int)))
            (k [.d (.i .i64) (0 : Int), .d .bool false])
            (cond (okI xvs5)
              (cond (!(sEq (digS xvs5) a0))
                (k [.d (.i .i64) (0 : Int), .d .bool false])
                (k [.d (.i .i64) xvs5, .d .bool true]))
              none)))) a0 t (ByteArray.size t : Int) 14 (0 : Int) (0 : Int))) =
      (fun r : Int × Bool => k [.d (.i .i64) r.1, .d .bool r.2]) (cond (sEq t ByteArray.empty) ((0 : Int), false) (cond (decide ((t.size : Int) > 13)) ((0 : Int), false) (Sum.elim (fun _ => ((0 : Int), false)) (numEnd a0 t) (foldE numStep t.data.toList 0)))) := by
    intro t
    cases sEq t ByteArray.empty
    rotate_left
    · rfl
    by_cases h13 : (ByteArray.size t : Int) > (13 : Int)
    · rw [decide_eq_true h13]; rfl
    rw [decide_eq_false h13, key t _ _ (by omega)]
    simp only [cond_false]
    have one : ∀ n : Int, (cond (!(inR n (-1000000000000 : Int) (1000000000000 : Int)))
            (k [.d (.i .i64) (0 : Int), .d .bool false])
            (cond (okI n)
              (cond (!(sEq (digS n) a0))
                (k [.d (.i .i64) (0 : Int), .d .bool false])
                (k [.d (.i .i64) n, .d .bool true]))
              none)) = (fun r : Int × Bool => k [.d (.i .i64) r.1, .d .bool r.2]) (cond (inR n (-1000000000000) 1000000000000) (cond (sEq (digS n) a0) (n, true) ((0 : Int), false)) ((0 : Int), false)) := by
      intro n
      cases hin : inR n (-1000000000000 : Int) (1000000000000 : Int)
      · rfl
      have := inR_iff.1 hin
      rw [okI_of (n := n) (by omega) (by omega)]
      cases sEq (digS n) a0 <;> rfl
    cases foldE numStep t.data.toList 0 with
    | inl _ => rfl
    | inr m =>
      simp only [Sum.elim_inr, numEnd]
      cases decide ((ByteArray.size t : Int) < (ByteArray.size a0 : Int))
      · exact one m
      · exact one (IntKind.wrap .i64 (0 - m))
  cases he : sEq a0 ByteArray.empty
  rotate_left
  · have hT : numT a0 = a0 := by unfold numT; rw [he]; rfl
    unfold numS
    rw [hT]
    simp only [Bool.not_true, cond_false]
    have f := fin a0
    rw [he] at f
    rw [he]
    exact f
  have hpos : 0 < a0.size := by
    rcases Nat.eq_zero_or_pos a0.size with h | h
    · exact absurd (sEq_iff.2 (size_zero h)) (by rw [he]; decide)
    · exact h
  have d1 : decide ((0 : Int) < (ByteArray.size a0 : Int)) = true := decide_eq_true (by omega)
  have d2 : decide ((1 : Int) ≤ (ByteArray.size a0 : Int)) = true := decide_eq_true (by omega)
  have d3 : decide ((ByteArray.size a0 : Int) ≤ (ByteArray.size a0 : Int)) = true := decide_eq_true (by omega)
  simp only [d1, d2, d3, Bool.not_false, Bool.and_self, cond_true, Int.toNat_natCast]
  cases hb : ((((ByteArray.data a0).getD 0 0).toNat : Int) == (45 : Int))
  · have hT : numT a0 = a0 := by unfold numT; rw [he, hb]; rfl
    unfold numS
    rw [hT]
    simp only [cond_false]
    have f := fin a0
    rw [he] at f
    rw [he]
    exact f
  · have hT : numT a0 = ByteArray.extract a0 1 a0.size := by unfold numT; rw [he, hb]; rfl
    unfold numS
    rw [hT]
    simp only [cond_true]
    exact fin _

noncomputable def q95 : List Dt → Option (Bool × List Dt)
  | [.d .str a0] => some (true, [.d (.i .i64) ((numS a0).1), .d .bool ((numS a0).2)])
  | _ => none
noncomputable def s95 : Gm.Spec := Gm.Spec.of [.ro] [false, false] true q95
theorem good95 : Gm.Good Try.prog (95, s95) := by
  have hl : ∀ x ∈ [(65, s65), (107, s107)], Gm.Good Try.prog x := List.forall_mem_cons.2 ⟨good65, List.forall_mem_cons.2 ⟨good107, List.forall_mem_nil _⟩⟩
  refine ⟨⟨spec_ok (tab_ok.env hl) (tab.natl hl) Try.func95 (by kernel_rfl : Try.f95.body = some f95c) [3, 4] (by kernel_rfl) ?_, _, Try.func95, by kernel_rfl, of_decide_eq_true (by kernel_rfl)⟩, Gm.Spec.of_natl _ _ _ _⟩
  intro ds outs h
  unfold q95 at h
  split at h
  · cases h; exact f95_spec _
  · cases h
/-! ### loop.example/g00465/impl.natural -/
noncomputable def f83c : Code := (Try.f83.body).getD .skip
def f83k : Nat → Kp := kat [⟨[0], [], [], []⟩, ⟨[4, 5], [], [], []⟩, ⟨[2, 3], [], [], []⟩]
noncomputable def f83e : Env := tab.env [(95, s95)]
theorem f83_run {R : Type} (n : Nat) (k : List Dt → Option R) (a0 : ByteArray) : evFn f83e f83k n f83c [.ro] [false, false] true [.tmp 2, .tmp 3] [3, 4] [.d .str a0] k =
    (cond ((numS a0).2)
    (k [.d (.i .i64) ((numS a0).1), .d .bool (decide (((numS a0).1) ≥ (0 : Int)))])
    (k [.d (.i .i64) ((numS a0).1), .d .bool false])) := by kernel_rfl
theorem f83_spec (a0 : ByteArray) : ∃ keep rounds, ∀ {R : Type} (k : List Dt → Option R), evFn f83e keep rounds f83c [.ro] [false, false] true [.tmp 2, .tmp 3] [3, 4] [.d .str a0] k = k [.d (.i .i64) ((natS a0).1), .d .bool ((natS a0).2)] := by
  refine ⟨f83k, 0, fun {R} k => ?_⟩
  rw [f83_run]
  show _ = k [.d (.i .i64) (natS a0).1, .d .bool (natS a0).2]
  unfold natS
  cases (numS a0).2 <;> rfl

noncomputable def q83 : List Dt → Option (Bool × List Dt)
  | [.d .str a0] => some (true, [.d (.i .i64) ((natS a0).1), .d .bool ((natS a0).2)])
  | _ => none
noncomputable def s83 : Gm.Spec := Gm.Spec.of [.ro] [false, false] true q83
theorem good83 : Gm.Good Try.prog (83, s83) := by
  have hl : ∀ x ∈ [(95, s95)], Gm.Good Try.prog x := List.forall_mem_cons.2 ⟨good95, List.forall_mem_nil _⟩
  refine ⟨⟨spec_ok (tab_ok.env hl) (tab.natl hl) Try.func83 (by kernel_rfl : Try.f83.body = some f83c) [3, 4] (by kernel_rfl) ?_, _, Try.func83, by kernel_rfl, of_decide_eq_true (by kernel_rfl)⟩, Gm.Spec.of_natl _ _ _ _⟩
  intro ds outs h
  unfold q83 at h
  split at h
  · cases h; exact f83_spec _
  · cases h
/-! ### loop.example/g00465/impl.kidAt -/
noncomputable def f38c : Code := (Try.f38.body).getD .skip
def f38k : Nat → Kp := kat [⟨[1, 2], [], [], []⟩, ⟨[1, 2, 10], [], [], []⟩, ⟨[2, 5], [], [], []⟩, ⟨[5, 19], [], [], []⟩, ⟨[4], [], [], []⟩, ⟨[4], [], [], []⟩, ⟨[2, 6, 7], [], [], []⟩, ⟨[6, 39], [], [], []⟩, ⟨[4], [], [], []⟩, ⟨[4], [], [], []⟩]
noncomputable def f38e : Env := tab.env [(82, s82), (83, s83)]
theorem f38_run {R : Type} (n : Nat) (k : List Dt → Option R) (a0 : NodeT) (a1 : ByteArray) : evFn f38e f38k n f38c [.ro, .ro] [false] true [.tmp 4] [3] [.d .node a0, .d .str a1] k =
    (cond ((NodeT.kind a0) == (5 : Int))
    (cond ((fun (x : List ByteArray) (_ : ByteArray) => gLenW x) (NodeT.keys a0) a1)
      (cond (decide ((idxS (NodeT.keys a0) a1) ≥ ((NodeT.kids a0).length : Int)))
        (k [.d (.i .i64) (-1 : Int)])
        (k [.d (.i .i64) (idxS (NodeT.keys a0) a1)]))
      none)
    (cond ((NodeT.kind a0) != (4 : Int))
      (k [.d (.i .i64) (-1 : Int)])
      (cond (!((natS a1).2))
        (k [.d (.i .i64) (-1 : Int)])
        (cond (decide (((natS a1).1) ≥ ((NodeT.kids a0).length : Int)))
          (k [.d (.i .i64) (-1 : Int)])
          (k [.d (.i .i64) ((natS a1).1)]))))) := by kernel_rfl
theorem f38_spec (a0 : NodeT) (a1 : ByteArray) (hg : sm_node a0 = true) : ∃ keep rounds, ∀ {R : Type} (k : List Dt → Option R), evFn f38e keep rounds f38c [.ro, .ro] [false] true [.tmp 4] [3] [.d .node a0, .d .str a1] k = k [.d (.i .i64) (kidAt a0 a1)] := by
  have hg0 := hg
  rw [sm_node_def] at hg
  simp only [Bool.and_eq_true] at hg
  obtain ⟨_, _, _, hke, hki⟩ := hg
  have nke := smL_len hke
  have nki := smL_len hki
  refine ⟨f38k, 0, fun {R} k => ?_⟩
  rw [f38_run]
  simp only [gLenW_sm hke, cond_true]
  cases h5 : a0.kind == (5 : Int)
  · have e : kidAt a0 a1 = cond (a0.kind == (4 : Int)) (plc (firstN (fun j => sEq (digS (j : Int)) a1) 0 a0.kids.length)) (-1) := by unfold kidAt; rw [h5]; rfl
    rw [e, ← natS_first nki]
    simp only [bne, cond_false]
    cases a0.kind == (4 : Int)
    · rfl
    cases (natS a1).2
    · rfl
    cases decide ((natS a1).1 ≥ (a0.kids.length : Int)) <;> rfl
  · have e : kidAt a0 a1 = keyAt a0 a1 := by unfold kidAt; rw [h5]; rfl
    rw [e, ← idxS_keyAt h5]
    simp only [cond_true]
    cases decide (idxS a0.keys a1 ≥ (a0.kids.length : Int)) <;> rfl

noncomputable def q38 : List Dt → Option (Bool × List Dt)
  | [.d .node a0, .d .str a1] => some (((fun (x : NodeT) (_ : ByteArray) => sm_node x) a0 a1), [.d (.i .i64) (kidAt a0 a1)])
  | _ => none
noncomputable def s38 : Gm.Spec := Gm.Spec.of [.ro, .ro] [false] true q38
theorem good38 : Gm.Good Try.prog (38, s38) := by
  have hl : ∀ x ∈ [(82, s82), (83, s83)], Gm.Good Try.prog x := List.forall_mem_cons.2 ⟨good82, List.forall_mem_cons.2 ⟨good83, List.forall_mem_nil _⟩⟩
  refine ⟨⟨spec_ok (tab_ok.env hl) (tab.natl hl) Try.func38 (by kernel_rfl : Try.f38.body = some f38c) [3] (by kernel_rfl) ?_, _, Try.func38, by kernel_rfl, of_decide_eq_true (by kernel_rfl)⟩, Gm.Spec.of_natl _ _ _ _⟩
  intro ds outs h
  unfold q38 at h
  split at h
  · simp only [Option.some.injEq, Prod.mk.injEq] at h; obtain ⟨hg, h⟩ := h; cases h; exact f38_spec _ _ hg
  · cases h
/-! ### loop.example/g00465/spec.l3At -/
noncomputable def f85c : Code := (Try.f85.body).getD .skip
def f85k : Nat → Kp := kat [⟨[1, 2], [], [], []⟩, ⟨[1, 2, 5], [], [], []⟩, ⟨[1, 2, 5, 22], [], [], []⟩, ⟨[1, 2, 5], [], [], []⟩, ⟨[1, 2, 5, 31], [], [], []⟩, ⟨[4], [], [], []⟩, ⟨[4], [], [], []⟩]
noncomputable def f85e : Env := tab.env []
noncomputable def f85L0 {R : Type} (n : Nat) (x0 : Int → Option R) (x1 : Int → Bool → Option R) (x2 : Int → Option R) (vs1 : ByteArray) (vb2_0 : Int) (vb2_1 : Int) (vb2_2 : ByteArray) (vb2_3 : List ByteArray) (vb2_4 : List NodeT) : Nat → Int → Option R
  | 0, _ => none
  | m + 1, vs5 =>
    (cond (decide (vs5 < (vb2_3.length : Int)))
      (cond (decide (vs5 < (vb2_4.length : Int)))
        (cond (vb2_0 == (5 : Int))
          (cond ((decide ((0 : Int) ≤ vs5)) && (decide (vs5 < (vb2_3.length : Int))))
            (cond (sEq (atI (t := .str) vb2_3 (Int.toNat vs5)) vs1)
              (x0 vs5)
              (f85L0 n x0 x1 x2 vs1 vb2_0 vb2_1 vb2_2 vb2_3 vb2_4 m (IntKind.wrap .i64 (vs5 + (1 : Int)))))
            none)
          (x1 vs5 (vb2_0 == (5 : Int))))
        (x2 vs5))
      (x2 vs5))
theorem f85L0_b {R : Type} (n : Nat) (k' : Ex → St → Option R) (vs1 : ByteArray) (vs5 : Int) (vb2_0 : Int) (vb2_1 : Int) (vb2_2 : ByteArray) (vb2_3 : List ByteArray) (vb2_4 : List NodeT) : ev f85e f85k n (cAt [1,0,1,0,0] f85c) ⟨[(1, .c (.one (.v (.string vs1)))), (2, .c (.one (.pt 2 0))), (5, .c (.one (.v (.int .i64 vs5))))], [(2, ⟨.node, [.v (.int .i64 vb2_0), .v (.int .i64 vb2_1), .v (.string vb2_2), .ro .str vb2_3, .ro .node vb2_4]⟩)], []⟩ k' =
    (cond (decide (vs5 < (vb2_3.length : Int)))
    (cond (decide (vs5 < (vb2_4.length : Int)))
      (cond (vb2_0 == (5 : Int))
        (cond ((decide ((0 : Int) ≤ vs5)) && (decide (vs5 < (vb2_3.length : Int))))
          (cond (sEq (atI (t := .str) vb2_3 (Int.toNat vs5)) vs1)
            (k' .ret ⟨[(4, .c (.one (.v (.int .i64 vs5))))], [], []⟩)
            (k' .normal ⟨[(1, .c (.one (.v (.string vs1)))), (2, .c (.one (.pt 2 0))), (5, .c (.one (.v (.int .i64 (IntKind.wrap .i64 (vs5 + (1 : Int)))))))], [(2, ⟨.node, [.v (.int .i64 vb2_0), .v (.int .i64 vb2_1), .v (.string vb2_2), .ro .str vb2_3, .ro .node vb2_4]⟩)], []⟩))
          none)
        (k' (.exit 0) ⟨[(1, .c (.one (.v (.string vs1)))), (2, .c (.one (.pt 2 0))), (5, .c (.one (.v (.int .i64 vs5)))), (22, .c (.one (.v (.bool (vb2_0 == (5 : Int))))))], [(2, ⟨.node, [.v (.int .i64 vb2_0), .v (.int .i64 vb2_1), .v (.string vb2_2), .ro .str vb2_3, .ro .node vb2_4]⟩)], []⟩))
      (k' (.exit 0) ⟨[(1, .c (.one (.v (.string vs1)))), (2, .c (.one (.pt 2 0))), (5, .c (.one (.v (.int .i64 vs5)))), (22, .c (.one (.v (.bool false))))], [(2, ⟨.node, [.v (.int .i64 vb2_0), .v (.int .i64 vb2_1), .v (.string vb2_2), .ro .str vb2_3, .ro .node vb2_4]⟩)], []⟩))
    (k' (.exit 0) ⟨[(1, .c (.one (.v (.string vs1)))), (2, .c (.one (.pt 2 0))), (5, .c (.one (.v (.int .i64 vs5)))), (22, .c (.one (.v (.bool false))))], [(2, ⟨.node, [.v (.int .i64 vb2_0), .v (.int .i64 vb2_1), .v (.string vb2_2), .ro .str vb2_3, .ro .node vb2_4]⟩)], []⟩)) := by kernel_rfl
theorem f85L0_eq {R : Type} (n : Nat) (k' : Ex → St → Option R) (vs1 : ByteArray) (vb2_0 : Int) (vb2_1 : Int) (vb2_2 : ByteArray) (vb2_3 : List ByteArray) (vb2_4 : List NodeT) : ∀ (m : Nat) (vs5 : Int), iter (fun st k => ev f85e f85k n (cAt [1,0,1,0,0] f85c) st k) m ⟨[(1, .c (.one (.v (.string vs1)))), (2, .c (.one (.pt 2 0))), (5, .c (.one (.v (.int .i64 vs5))))], [(2, ⟨.node, [.v (.int .i64 vb2_0), .v (.int .i64 vb2_1), .v (.string vb2_2), .ro .str vb2_3, .ro .node vb2_4]⟩)], []⟩ k' = f85L0 n (fun (xvs4 : Int) => k' .ret ⟨[(4, .c (.one (.v (.int .i64 xvs4))))], [], []⟩) (fun (xvs5 : Int) (xvs22 : Bool) => k' (.exit 0) ⟨[(1, .c (.one (.v (.string vs1)))), (2, .c (.one (.pt 2 0))), (5, .c (.one (.v (.int .i64 xvs5)))), (22, .c (.one (.v (.bool xvs22))))], [(2, ⟨.node, [.v (.int .i64 vb2_0), .v (.int .i64 vb2_1), .v (.string vb2_2), .ro .str vb2_3, .ro .node vb2_4]⟩)], []⟩) (fun (xvs5 : Int) => k' (.exit 0) ⟨[(1, .c (.one (.v (.string vs1)))), (2, .c (.one (.pt 2 0))), (5, .c (.one (.v (.int .i64 xvs5)))), (22, .c (.one (.v (.bool false))))], [(2, ⟨.node, [.v (.int .i64 vb2_0), .v (.int .i64 vb2_1), .v (.string vb2_2), .ro .str vb2_3, .ro .node vb2_4]⟩)], []⟩) vs1 vb2_0 vb2_1 vb2_2 vb2_3 vb2_4 m vs5 := by
  intro m; induction m with
  | zero => intros; rfl
  | succ m ih =>
    intro vs5
    simp only [iter]
    rw [f85L0_b]
    simp only [ih, f85L0]

noncomputable def f85K0 {R : Type} (n : Nat) (k' : Ex → St → Option R) : Ex → St → Option R := (blockK 0 (seqK f85e f85k n (cAt [1,1] f85c) k'))
theorem f85K0_x0 {R : Type} (n : Nat) (k : List Dt → Option R) (a0 : NodeT) (a1 : ByteArray) (xvs4 : Int) : f85K0 n (exitK f85e [.ro, .ro] [false] true [.tmp 4] [3] [.d .node a0, .d .str a1] k) .ret ⟨[(4, .c (.one (.v (.int .i64 xvs4))))], [], []⟩ =
    (k [.d (.i .i64) xvs4]) := by kernel_rfl
theorem f85K0_x1 {R : Type} (n : Nat) (k : List Dt → Option R) (a0 : NodeT) (a1 : ByteArray) (vs1 : ByteArray) (vb2_0 : Int) (vb2_1 : Int) (vb2_2 : ByteArray) (vb2_3 : List ByteArray) (vb2_4 : List NodeT) (xvs5 : Int) (xvs22 : Bool) : f85K0 n (exitK f85e [.ro, .ro] [false] true [.tmp 4] [3] [.d .node a0, .d .str a1] k) (.exit 0) ⟨[(1, .c (.one (.v (.string vs1)))), (2, .c (.one (.pt 2 0))), (5, .c (.one (.v (.int .i64 xvs5)))), (22, .c (.one (.v (.bool xvs22))))], [(2, ⟨.node, [.v (.int .i64 vb2_0), .v (.int .i64 vb2_1), .v (.string vb2_2), .ro .str vb2_3, .ro .node vb2_4]⟩)], []⟩ =
    (k [.d (.i .i64) (-1 : Int)]) := by kernel_rfl
theorem f85K0_x2 {R : Type} (n : Nat) (k : List Dt → Option R) (a0 : NodeT) (a1 : ByteArray) (vs1 : ByteArray) (vb2_0 : Int) (vb2_1 : Int) (vb2_2 : ByteArray) (vb2_3 : List ByteArray) (vb2_4 : List NodeT) (xvs5 : Int) : f85K0 n (exitK f85e [.ro, .ro] [false] true [.tmp 4] [3] [.d .node a0, .d .str a1] k) (.exit 0) ⟨[(1, .c (.one (.v (.string vs1)))), (2, .c (.one (.pt 2 0))), (5, .c (.one (.v (.int .i64 xvs5)))), (22, .c (.one (.v (.bool false))))], [(2, ⟨.node, [.v (.int .i64 vb2_0), .v (.int .i64 vb2_1), .v (.string vb2_2), .ro .str vb2_3, .ro .node vb2_4]⟩)], []⟩ =
    (k [.d (.i .i64) (-1 : Int)]) := by kernel_rfl

theorem f85_run {R : Type} (n : Nat) (k : List Dt → Option R) (a0 : NodeT) (a1 : ByteArray) : evFn f85e f85k n f85c [.ro, .ro] [false] true [.tmp 4] [3] [.d .node a0, .d .str a1] k =
    (f85L0 n (fun (xvs4 : Int) =>
    (k [.d (.i .i64) xvs4])) (fun (xvs5 : Int) (xvs22 : Bool) =>
    (k [.d (.i .i64) (-1 : Int)])) (fun (xvs5 : Int) =>
    (k [.d (.i .i64) (-1 : Int)])) a1 (NodeT.kind a0) (NodeT.n a0) (NodeT.s a0) (NodeT.keys a0) (NodeT.kids a0) n (0 : Int)) := by
  refine Eq.trans (b := (iter (fun st k => ev f85e f85k n (cAt [1,0,1,0,0] f85c) st k) n ⟨[(1, .c (.one (.v (.string a1)))), (2, .c (.one (.pt 2 0))), (5, .c (.one (.v (.int .i64 (0 : Int)))))], [(2, ⟨.node, [.v (.int .i64 (NodeT.kind a0)), .v (.int .i64 (NodeT.n a0)), .v (.string (NodeT.s a0)), .ro .str (NodeT.keys a0), .ro .node (NodeT.kids a0)]⟩)], []⟩ (f85K0 n (exitK f85e [.ro, .ro] [false] true [.tmp 4] [3] [.d .node a0, .d .str a1] k)))) (by kernel_rfl) ?_
  simp only [f85L0_eq, f85K0_x0, f85K0_x1, f85K0_x2]
theorem f85_spec (a0 : NodeT) (a1 : ByteArray) (hg : sm_node a0 = true) : ∃ keep rounds, ∀ {R : Type} (k : List Dt → Option R), evFn f85e keep rounds f85c [.ro, .ro] [false] true [.tmp 4] [3] [.d .node a0, .d .str a1] k = k [.d (.i .i64) (keyAt a0 a1)] := by
  have hg0 := hg
  rw [sm_node_def] at hg
  simp only [Bool.and_eq_true] at hg
  obtain ⟨_, _, _, hke, hki⟩ := hg
  have nke := smL_len hke
  have nki := smL_len hki
  refine ⟨f85k, a0.keys.length + 1, fun {R} k => ?_⟩
  rw [f85_run]
  show _ = k [.d (.i .i64) (keyAt a0 a1)]
  unfold keyAt
  cases h5 : a0.kind == (5 : Int)
  · rw [f85L0]
    simp only [h5, cond_false]
    cases decide ((0 : Int) < (a0.keys.length : Int)) <;> cases decide ((0 : Int) < (a0.kids.length : Int)) <;> rfl
  refine Eq.trans (loop_find (n := min a0.keys.length a0.kids.length) (F := fun m i => f85L0 (a0.keys.length + 1) _ _ _ a1 a0.kind a0.n a0.s a0.keys a0.kids m i) (p := fun j => sEq (atI (t := .str) a0.keys j) a1) (hit := fun i => k [.d (.i .i64) i]) (miss := k [.d (.i .i64) (-1 : Int)])
    (fun m j hj => ?_) (fun m => ?_) (min a0.keys.length a0.kids.length) 0 (a0.keys.length + 1) (by omega) (by omega)) ?_
  · obtain ⟨h1, h0, hw, ht⟩ := idx (show j < a0.keys.length by omega) (by omega)
    have h2 : decide ((j : Int) < (a0.kids.length : Int)) = true := decide_eq_true (by omega)
    simp only [f85L0, h1, h0, h2, hw, ht, h5, Bool.and_self, cond_true]
  · by_cases hle : a0.keys.length ≤ a0.kids.length
    · rw [Nat.min_eq_left hle]
      simp only [f85L0, idxE, cond_false]
    · rw [Nat.min_eq_right (by omega)]
      have h2 : decide ((a0.kids.length : Int) < (a0.keys.length : Int)) = true := decide_eq_true (by omega)
      simp only [f85L0, h2, idxE, cond_false, cond_true]
  · simp only [cond_true]
    show _ = k [.d (.i .i64) (plc _)]
    cases firstN (fun j => sEq (atI (t := .str) a0.keys j) a1) 0 (min a0.keys.length a0.kids.length) <;> rfl

noncomputable def q85 : List Dt → Option (Bool × List Dt)
  | [.d .node a0, .d .str a1] => some (((fun (x : NodeT) (_ : ByteArray) => sm_node x) a0 a1), [.d (.i .i64) (keyAt a0 a1)])
  | _ => none
noncomputable def s85 : Gm.Spec := Gm.Spec.of [.ro, .ro] [false] true q85
theorem good85 : Gm.Good Try.prog (85, s85) := by
  have hl : ∀ x ∈ ([] : List (Nat × Gm.Spec)), Gm.Good Try.prog x := fun _ h => by cases h
  refine ⟨⟨spec_ok (tab_ok.env hl) (tab.natl hl) Try.func85 (by kernel_rfl : Try.f85.body = some f85c) [3] (by kernel_rfl) ?_, _, Try.func85, by kernel_rfl, of_decide_eq_true (by kernel_rfl)⟩, Gm.Spec.of_natl _ _ _ _⟩
  intro ds outs h
  unfold q85 at h
  split at h
  · simp only [Option.some.injEq, Prod.mk.injEq] at h; obtain ⟨hg, h⟩ := h; cases h; exact f85_spec _ _ hg
  · cases h
/-! ### loop.example/g00465/spec.l22Index -/
noncomputable def f40c : Code := (Try.f40.body).getD .skip
def f40k : Nat → Kp := kat [⟨[1, 2], [], [], []⟩, ⟨[1, 2, 8], [], [], []⟩, ⟨[1, 2, 8, 9], [], [], []⟩, ⟨[5], [], [], []⟩, ⟨[4], [], [], []⟩, ⟨[1, 2, 15], [], [], []⟩, ⟨[1, 2, 6], [], [], []⟩, ⟨[1, 2, 6, 21], [], [], []⟩, ⟨[1, 2, 6], [], [], []⟩, ⟨[1, 2, 6, 27], [], [], []⟩, ⟨[4], [], [], []⟩, ⟨[4], [], [], []⟩]
noncomputable def f40e : Env := tab.env [(59, s59), (85, s85)]
noncomputable def f40L0 {R : Type} (n : Nat) (x0 : Int → Option R) (x1 : Int → Bool → Option R) (vs1 : ByteArray) (vb2_0 : Int) (vb2_1 : Int) (vb2_2 : ByteArray) (vb2_3 : List ByteArray) (vb2_4 : List NodeT) : Nat → Int → Option R
  | 0, _ => none
  | m + 1, vs6 =>
    (cond (decide (vs6 < (vb2_4.length : Int)))
      (cond (okI vs6)
        (cond (sEq (digS vs6) vs1)
          (x0 vs6)
          (f40L0 n x0 x1 vs1 vb2_0 vb2_1 vb2_2 vb2_3 vb2_4 m (IntKind.wrap .i64 (vs6 + (1 : Int)))))
        none)
      (x1 vs6 (decide (vs6 < (vb2_4.length : Int)))))
theorem f40L0_b {R : Type} (n : Nat) (k' : Ex → St → Option R) (vs1 : ByteArray) (vs6 : Int) (vb2_0 : Int) (vb2_1 : Int) (vb2_2 : ByteArray) (vb2_3 : List ByteArray) (vb2_4 : List NodeT) : ev f40e f40k n (cAt [1,0,1,0,1,1,1,0,1,0,0] f40c) ⟨[(1, .c (.one (.v (.string vs1)))), (2, .c (.one (.pt 2 0))), (6, .c (.one (.v (.int .i64 vs6))))], [(2, ⟨.node, [.v (.int .i64 vb2_0), .v (.int .i64 vb2_1), .v (.string vb2_2), .ro .str vb2_3, .ro .node vb2_4]⟩)], []⟩ k' =
    (cond (decide (vs6 < (vb2_4.length : Int)))
    (cond (okI vs6)
      (cond (sEq (digS vs6) vs1)
        (k' .ret ⟨[(4, .c (.one (.v (.int .i64 vs6))))], [], []⟩)
        (k' .normal ⟨[(1, .c (.one (.v (.string vs1)))), (2, .c (.one (.pt 2 0))), (6, .c (.one (.v (.int .i64 (IntKind.wrap .i64 (vs6 + (1 : Int)))))))], [(2, ⟨.node, [.v (.int .i64 vb2_0), .v (.int .i64 vb2_1), .v (.string vb2_2), .ro .str vb2_3, .ro .node vb2_4]⟩)], []⟩))
      none)
    (k' (.exit 1) ⟨[(1, .c (.one (.v (.string vs1)))), (2, .c (.one (.pt 2 0))), (6, .c (.one (.v (.int .i64 vs6)))), (21, .c (.one (.v (.bool (decide (vs6 < (vb2_4.length : Int)))))))], [(2, ⟨.node, [.v (.int .i64 vb2_0), .v (.int .i64 vb2_1), .v (.string vb2_2), .ro .str vb2_3, .ro .node vb2_4]⟩)], []⟩)) := by kernel_rfl
theorem f40L0_eq {R : Type} (n : Nat) (k' : Ex → St → Option R) (vs1 : ByteArray) (vb2_0 : Int) (vb2_1 : Int) (vb2_2 : ByteArray) (vb2_3 : List ByteArray) (vb2_4 : List NodeT) : ∀ (m : Nat) (vs6 : Int), iter (fun st k => ev f40e f40k n (cAt [1,0,1,0,1,1,1,0,1,0,0] f40c) st k) m ⟨[(1, .c (.one (.v (.string vs1)))), (2, .c (.one (.pt 2 0))), (6, .c (.one (.v (.int .i64 vs6))))], [(2, ⟨.node, [.v (.int .i64 vb2_0), .v (.int .i64 vb2_1), .v (.string vb2_2), .ro .str vb2_3, .ro .node vb2_4]⟩)], []⟩ k' = f40L0 n (fun (xvs4 : Int) => k' .ret ⟨[(4, .c (.one (.v (.int .i64 xvs4))))], [], []⟩) (fun (xvs6 : Int) (xvs21 : Bool) => k' (.exit 1) ⟨[(1, .c (.one (.v (.string vs1)))), (2, .c (.one (.pt 2 0))), (6, .c (.one (.v (.int .i64 xvs6)))), (21, .c (.one (.v (.bool xvs21))))], [(2, ⟨.node, [.v (.int .i64 vb2_0), .v (.int .i64 vb2_1), .v (.string vb2_2), .ro .str vb2_3, .ro .node vb2_4]⟩)], []⟩) vs1 vb2_0 vb2_1 vb2_2 vb2_3 vb2_4 m vs6 := by
  intro m; induction m with
  | zero => intros; rfl
  | succ m ih =>
    intro vs6
    simp only [iter]
    rw [f40L0_b]
    simp only [ih, f40L0]

noncomputable def f40K0 {R : Type} (n : Nat) (k' : Ex → St → Option R) : Ex → St → Option R := (blockK 1 (blockK 0 (seqK f40e f40k n (cAt [1,1] f40c) k')))
theorem f40K0_x0 {R : Type} (n : Nat) (k : List Dt → Option R) (a0 : NodeT) (a1 : ByteArray) (xvs4 : Int) : f40K0 n (exitK f40e [.ro, .ro] [false] true [.tmp 4] [3] [.d .node a0, .d .str a1] k) .ret ⟨[(4, .c (.one (.v (.int .i64 xvs4))))], [], []⟩ =
    (k [.d (.i .i64) xvs4]) := by kernel_rfl
theorem f40K0_x1 {R : Type} (n : Nat) (k : List Dt → Option R) (a0 : NodeT) (a1 : ByteArray) (vs1 : ByteArray) (vb2_0 : Int) (vb2_1 : Int) (vb2_2 : ByteArray) (vb2_3 : List ByteArray) (vb2_4 : List NodeT) (xvs6 : Int) (xvs21 : Bool) : f40K0 n (exitK f40e [.ro, .ro] [false] true [.tmp 4] [3] [.d .node a0, .d .str a1] k) (.exit 1) ⟨[(1, .c (.one (.v (.string vs1)))), (2, .c (.one (.pt 2 0))), (6, .c (.one (.v (.int .i64 xvs6)))), (21, .c (.one (.v (.bool xvs21))))], [(2, ⟨.node, [.v (.int .i64 vb2_0), .v (.int .i64 vb2_1), .v (.string vb2_2), .ro .str vb2_3, .ro .node vb2_4]⟩)], []⟩ =
    (k [.d (.i .i64) (-1 : Int)]) := by kernel_rfl

theorem f40_run {R : Type} (n : Nat) (k : List Dt → Option R) (a0 : NodeT) (a1 : ByteArray) : evFn f40e f40k n f40c [.ro, .ro] [false] true [.tmp 4] [3] [.d .node a0, .d .str a1] k =
    (cond ((NodeT.kind a0) == (5 : Int))
    (cond ((fun (x : NodeT) (_ : ByteArray) => sm_node x) (eN a0) a1)
      (k [.d (.i .i64) (keyAt (eN a0) a1)])
      none)
    (cond ((NodeT.kind a0) == (4 : Int))
      (f40L0 n (fun (xvs4 : Int) =>
        (k [.d (.i .i64) xvs4])) (fun (xvs6 : Int) (xvs21 : Bool) =>
        (k [.d (.i .i64) (-1 : Int)])) a1 (NodeT.kind a0) (NodeT.n a0) (NodeT.s a0) (NodeT.keys a0) (NodeT.kids a0) n (0 : Int))
      (k [.d (.i .i64) (-1 : Int)]))) := by
  refine Eq.trans (b := (cond ((NodeT.kind a0) == (5 : Int))
    (cond ((fun (x : NodeT) (_ : ByteArray) => sm_node x) (eN a0) a1)
      (k [.d (.i .i64) (keyAt (eN a0) a1)])
      none)
    (cond ((NodeT.kind a0) == (4 : Int))
      (iter (fun st k => ev f40e f40k n (cAt [1,0,1,0,1,1,1,0,1,0,0] f40c) st k) n ⟨[(1, .c (.one (.v (.string a1)))), (2, .c (.one (.pt 2 0))), (6, .c (.one (.v (.int .i64 (0 : Int)))))], [(2, ⟨.node, [.v (.int .i64 (NodeT.kind a0)), .v (.int .i64 (NodeT.n a0)), .v (.string (NodeT.s a0)), .ro .str (NodeT.keys a0), .ro .node (NodeT.kids a0)]⟩)], []⟩ (f40K0 n (exitK f40e [.ro, .ro] [false] true [.tmp 4] [3] [.d .node a0, .d .str a1] k)))
      (k [.d (.i .i64) (-1 : Int)])))) (by kernel_rfl) ?_
  simp only [f40L0_eq, f40K0_x0, f40K0_x1]
theorem f40_spec (a0 : NodeT) (a1 : ByteArray) (hg : sm_node a0 = true) : ∃ keep rounds, ∀ {R : Type} (k : List Dt → Option R), evFn f40e keep rounds f40c [.ro, .ro] [false] true [.tmp 4] [3] [.d .node a0, .d .str a1] k = k [.d (.i .i64) (kidAt a0 a1)] := by
  have hg0 := hg
  rw [sm_node_def] at hg
  simp only [Bool.and_eq_true] at hg
  obtain ⟨_, _, _, hke, hki⟩ := hg
  have nke := smL_len hke
  have nki := smL_len hki
  refine ⟨f40k, a0.kids.length + 1, fun {R} k => ?_⟩
  rw [f40_run]
  show _ = k [.d (.i .i64) (kidAt a0 a1)]
  simp only [eta_node, eN_eq, hg0, cond_true]
  unfold kidAt
  cases h5 : a0.kind == (5 : Int)
  rotate_left
  · rfl
  simp only [cond_false]
  cases h4 : a0.kind == (4 : Int)
  · rfl
  simp only [cond_true]
  refine Eq.trans (loop_find (n := a0.kids.length) (F := fun m i => f40L0 (a0.kids.length + 1) _ _ a1 a0.kind a0.n a0.s a0.keys a0.kids m i) (p := fun j => sEq (digS (j : Int)) a1) (hit := fun i => k [.d (.i .i64) i]) (miss := k [.d (.i .i64) (-1 : Int)])
    (fun m j hj => ?_) (fun m => by simp only [f40L0, idxE, cond_false]) a0.kids.length 0 (a0.kids.length + 1) (by omega) (by omega)) ?_
  · obtain ⟨h1, h0, hw, ht⟩ := idx hj (by omega)
    simp only [f40L0, h1, hw, okI_of (n := (j : Int)) (by omega) (by omega), cond_true]
  · show _ = k [.d (.i .i64) (plc _)]
    cases firstN (fun j => sEq (digS (j : Int)) a1) 0 a0.kids.length <;> rfl

noncomputable def q40 : List Dt → Option (Bool × List Dt)
  | [.d .node a0, .d .str a1] => some (((fun (x : NodeT) (_ : ByteArray) => sm_node x) a0 a1), [.d (.i .i64) (kidAt a0 a1)])
  | _ => none
noncomputable def s40 : Gm.Spec := Gm.Spec.of [.ro, .ro] [false] true q40
theorem good40 : Gm.Good Try.prog (40, s40) := by
  have hl : ∀ x ∈ [(59, s59), (85, s85)], Gm.Good Try.prog x := List.forall_mem_cons.2 ⟨good59, List.forall_mem_cons.2 ⟨good85, List.forall_mem_nil _⟩⟩
  refine ⟨⟨spec_ok (tab_ok.env hl) (tab.natl hl) Try.func40 (by kernel_rfl : Try.f40.body = some f40c) [3] (by kernel_rfl) ?_, _, Try.func40, by kernel_rfl, of_decide_eq_true (by kernel_rfl)⟩, Gm.Spec.of_natl _ _ _ _⟩
  intro ds outs h
  unfold q40 at h
  split at h
  · simp only [Option.some.injEq, Prod.mk.injEq] at h; obtain ⟨hg, h⟩ := h; cases h; exact f40_spec _ _ hg
  · cases h
end Go.Proofs.Ytalnkjjnohgjkaa

/- x -/
namespace Go.Proofs.Ytalnkjjnohgjkaa
open Go Go.Gm
/-! ### slices.Clone[[]string,string] -/
noncomputable def f84ac : Code := (Try.f84.body).getD .skip
def f84ak : Nat → Kp := kat [⟨[0], [], [], []⟩, ⟨[0, 4], [], [], []⟩, ⟨[2], [], [], []⟩, ⟨[2], [], [], []⟩]
noncomputable def f84ae : Env := tab.env []
theorem f84a_run {R : Type} (n : Nat) (k : List Dt → Option R) (a0 : List ByteArray) : evFn f84ae f84ak n f84ac [.ro] [false] true [.tmp 2] [24] [.d (.sl .str) a0] k =
    (cond (List.isEmpty a0)
    none
    (cond (Nat.ble (0 + a0.length) LIM)
      (k [.d (.sl .str) (([] : List ByteArray) ++ a0)])
      none)) := by kernel_rfl
theorem f84a_spec (a0 : List ByteArray) (hg : (fun (x : List ByteArray) => !(x.isEmpty) && Nat.ble x.length LIM) a0 = true) : ∃ keep rounds, ∀ {R : Type} (k : List Dt → Option R), evFn f84ae keep rounds f84ac [.ro] [false] true [.tmp 2] [24] [.d (.sl .str) a0] k = k [.d (.sl .str) a0] := by
  simp only [Bool.and_eq_true, Bool.not_eq_true'] at hg
  obtain ⟨h1, h2⟩ := hg
  refine ⟨f84ak, 0, fun {R} k => ?_⟩
  rw [f84a_run, h1, Nat.zero_add, h2]
  simp only [cond_true, cond_false, List.nil_append]

noncomputable def q84a : List Dt → Option (Bool × List Dt)
  | [.d (.sl .str) a0] => some (((fun (x : List ByteArray) => !(x.isEmpty) && Nat.ble x.length LIM) a0), [.d (.sl .str) a0])
  | _ => none
noncomputable def s84a : Gm.Spec := Gm.Spec.of [.ro] [false] true q84a
theorem good84a : Gm.Good Try.prog (84, s84a) := by
  have hl : ∀ x ∈ ([] : List (Nat × Gm.Spec)), Gm.Good Try.prog x := fun _ h => by cases h
  refine ⟨⟨spec_ok (tab_ok.env hl) (tab.natl hl) Try.func84 (by kernel_rfl : Try.f84.body = some f84ac) [24] (by kernel_rfl) ?_, _, Try.func84, by kernel_rfl, of_decide_eq_true (by kernel_rfl)⟩, Gm.Spec.of_natl _ _ _ _⟩
  intro ds outs h
  unfold q84a at h
  split at h
  · simp only [Option.some.injEq, Prod.mk.injEq] at h; obtain ⟨hg, h⟩ := h; cases h; exact f84a_spec _ hg
  · cases h
set_option maxHeartbeats 1000000 in
set_option maxRecDepth 100000 in
theorem clE84 : CloneE Try.prog 84 := by
  intro a c w
  cases a with
  | none =>
    have q22 : ∀ (w : World) (n c n' c' : Nat), (binOp .eql 24 (.slice none n c) (.slice none n' c')).run Try.prog w = .ok (.bool true) w := fun w n c n' c' => Lib.run_eql_slice_nil w _ _ none n c n' c' Try.underlying24
    go_enter Try.func84, Try.ntmps84
    go_wp2
    go_ret
    exact .inl ⟨rfl, rfl⟩
  | some a =>
    have q22 : ∀ (w : World) (n c n' c' : Nat), (binOp .eql 24 (.slice (some a) n c) (.slice none n' c')).run Try.prog w = .ok (.bool false) w := fun w n c n' c' => Lib.run_eql_slice_nil w _ _ (some a) n c n' c' Try.underlying24
    go_enter Try.func84, Try.ntmps84
    go_wp2
    go_ret
    exact .inr ⟨_, rfl, rfl⟩
noncomputable def q84b : List Dt → Option (Bool × List Dt)
  | [.d (.sl .str) []] => some (true, [.d (.sl .str) []])
  | _ => none
noncomputable def q84 : List Dt → Option (Bool × List Dt)
  | [.d (.sl .str) a0] => some (Nat.ble a0.length LIM, [.d (.sl .str) a0])
  | _ => none
noncomputable def s84 : Gm.Spec := Gm.Spec.of [.ro] [false] true q84
theorem good84 : Gm.Good Try.prog (84, s84) := by
  refine ⟨⟨spec_clone (q := q84) (qb := q84b) good84a.1.1 (spec_cloneE (t := .str) clE84 fun ds outs h => ?_) fun ds outs h => ?_, _, Try.func84, by kernel_rfl, of_decide_eq_true (by kernel_rfl)⟩, Gm.Spec.of_natl _ _ _ _⟩
  · unfold q84b at h
    split at h
    · simp only [Option.some.injEq, Prod.mk.injEq, true_and] at h
      exact ⟨rfl, h.symm⟩
    · cases h
  · unfold q84 at h
    split at h
    · rename_i a0
      simp only [Option.some.injEq, Prod.mk.injEq] at h
      obtain ⟨hg, rfl⟩ := h
      cases a0 with
      | nil => exact .inr rfl
      | cons x r => refine .inl ?_; simp only [q84a, List.isEmpty_cons, Bool.not_false, Bool.true_and, hg]
    · cases h
noncomputable def q39 : List Dt → Option (Bool × List Dt)
  | [.d .node a0] => some ((sm_node a0), [.d .node a0])
  | _ => none
noncomputable def mu39 : List Dt → Nat
  | [.d .node a0] => nd_node a0
  | _ => 0
noncomputable def s39r (N : Nat) : Gm.Spec := Gm.Spec.of [.ro] [false] true (qlt mu39 N q39)
/-! ### loop.example/g00465/impl.copyTree -/
noncomputable def f39c : Code := (Try.f39.body).getD .skip
def f39k : Nat → Kp := kat [⟨[1, 2], [], [], []⟩, ⟨[1, 2], [], [], []⟩, ⟨[1, 2, 3], [], [], []⟩, ⟨[1, 2, 3, 12, 13, 14], [], [], []⟩, ⟨[1, 2, 3, 12, 13, 14, 15], [], [], []⟩, ⟨[1, 2, 3, 5, 12, 13, 14], [], [], []⟩, ⟨[1, 2, 3, 12, 13, 14], [], [], []⟩, ⟨[1, 2, 3, 12, 13, 14], [], [], []⟩, ⟨[1, 2], [], [], []⟩, ⟨[2], [], [], []⟩]
noncomputable def f39e (N : Nat) : Env := tab.env [(39, s39r N), (84, s84)]
noncomputable def f39L0 {R : Type} (N : Nat) (n : Nat) (x0 : Int → Bool → (List NodeT) → Option R) (vs12 : List NodeT) (vs13 : Int) (vb1_0 : Int) (vb1_1 : Int) (vb1_2 : ByteArray) (vb1_4 : List NodeT) (vr512 : List ByteArray) : Nat → Int → (List NodeT) → Option R
  | 0, _, _ => none
  | m + 1, vs14, vr640 =>
    (cond (decide (vs14 < vs13))
      (cond ((decide ((0 : Int) ≤ vs14)) && (decide (vs14 < (vs12.length : Int))))
        (cond ((sm_node (eN (atI (t := .node) vs12 (Int.toNat vs14)))) && (Nat.blt (nd_node (eN (atI (t := .node) vs12 (Int.toNat vs14)))) N))
          (cond (Nat.ble (vr640.length + 1) LIM)
            (f39L0 N n x0 vs12 vs13 vb1_0 vb1_1 vb1_2 vb1_4 vr512 m (IntKind.wrap .i64 (vs14 + (1 : Int))) (vr640 ++ ([(eN (atI (t := .node) vs12 (Int.toNat vs14)))] : List NodeT)))
            none)
          none)
        none)
      (x0 vs14 (decide (vs14 < vs13)) vr640))
theorem f39L0_b {R : Type} (N : Nat) (n : Nat) (k' : Ex → St → Option R) (vs12 : List NodeT) (vs13 : Int) (vs14 : Int) (vb1_0 : Int) (vb1_1 : Int) (vb1_2 : ByteArray) (vb1_4 : List NodeT) (vr512 : List ByteArray) (vr640 : List NodeT) : ev (f39e N) f39k n (cAt [1,1,1,0,1,0,0] f39c) ⟨[(1, .c (.one (.pt 1 0))), (2, .c (.one (.pt 2 0))), (3, .c (.one (.h 640 0 0 []))), (12, .c (.one (.ro .node vs12))), (13, .c (.one (.v (.int .i64 vs13)))), (14, .c (.one (.v (.int .i64 vs14))))], [(1, ⟨.node, [.v (.int .i64 vb1_0), .v (.int .i64 vb1_1), .v (.string vb1_2), .h 512 0 0 [], .ro .node vb1_4]⟩), (2, ⟨.node, [.v (.int .i64 (0 : Int)), .v (.int .i64 (0 : Int)), .v (.string ByteArray.empty), .nl, .nl]⟩)], [(512, .live ⟨.str, .deep, 0, [], vr512⟩), (640, .live ⟨.node, .deep, 0, [], vr640⟩)]⟩ k' =
    (cond (decide (vs14 < vs13))
    (cond ((decide ((0 : Int) ≤ vs14)) && (decide (vs14 < (vs12.length : Int))))
      (cond ((sm_node (eN (atI (t := .node) vs12 (Int.toNat vs14)))) && (Nat.blt (nd_node (eN (atI (t := .node) vs12 (Int.toNat vs14)))) N))
        (cond (Nat.ble (vr640.length + 1) LIM)
          (k' .normal ⟨[(1, .c (.one (.pt 1 0))), (2, .c (.one (.pt 2 0))), (3, .c (.one (.h 640 0 0 []))), (12, .c (.one (.ro .node vs12))), (13, .c (.one (.v (.int .i64 vs13)))), (14, .c (.one (.v (.int .i64 (IntKind.wrap .i64 (vs14 + (1 : Int)))))))], [(1, ⟨.node, [.v (.int .i64 vb1_0), .v (.int .i64 vb1_1), .v (.string vb1_2), .h 512 0 0 [], .ro .node vb1_4]⟩), (2, ⟨.node, [.v (.int .i64 (0 : Int)), .v (.int .i64 (0 : Int)), .v (.string ByteArray.empty), .nl, .nl]⟩)], [(512, .live ⟨.str, .deep, 0, [], vr512⟩), (640, .live ⟨.node, .deep, 0, [], (vr640 ++ ([(eN (atI (t := .node) vs12 (Int.toNat vs14)))] : List NodeT))⟩)]⟩)
          none)
        none)
      none)
    (k' (.exit 0) ⟨[(1, .c (.one (.pt 1 0))), (2, .c (.one (.pt 2 0))), (3, .c (.one (.h 640 0 0 []))), (12, .c (.one (.ro .node vs12))), (13, .c (.one (.v (.int .i64 vs13)))), (14, .c (.one (.v (.int .i64 vs14)))), (15, .c (.one (.v (.bool (decide (vs14 < vs13))))))], [(1, ⟨.node, [.v (.int .i64 vb1_0), .v (.int .i64 vb1_1), .v (.string vb1_2), .h 512 0 0 [], .ro .node vb1_4]⟩), (2, ⟨.node, [.v (.int .i64 (0 : Int)), .v (.int .i64 (0 : Int)), .v (.string ByteArray.empty), .nl, .nl]⟩)], [(512, .live ⟨.str, .deep, 0, [], vr512⟩), (640, .live ⟨.node, .deep, 0, [], vr640⟩)]⟩)) := by kernel_rfl
theorem f39L0_eq {R : Type} (N : Nat) (n : Nat) (k' : Ex → St → Option R) (vs12 : List NodeT) (vs13 : Int) (vb1_0 : Int) (vb1_1 : Int) (vb1_2 : ByteArray) (vb1_4 : List NodeT) (vr512 : List ByteArray) : ∀ (m : Nat) (vs14 : Int) (vr640 : List NodeT), iter (fun st k => ev (f39e N) f39k n (cAt [1,1,1,0,1,0,0] f39c) st k) m ⟨[(1, .c (.one (.pt 1 0))), (2, .c (.one (.pt 2 0))), (3, .c (.one (.h 640 0 0 []))), (12, .c (.one (.ro .node vs12))), (13, .c (.one (.v (.int .i64 vs13)))), (14, .c (.one (.v (.int .i64 vs14))))], [(1, ⟨.node, [.v (.int .i64 vb1_0), .v (.int .i64 vb1_1), .v (.string vb1_2), .h 512 0 0 [], .ro .node vb1_4]⟩), (2, ⟨.node, [.v (.int .i64 (0 : Int)), .v (.int .i64 (0 : Int)), .v (.string ByteArray.empty), .nl, .nl]⟩)], [(512, .live ⟨.str, .deep, 0, [], vr512⟩), (640, .live ⟨.node, .deep, 0, [], vr640⟩)]⟩ k' = f39L0 N n (fun (xvs14 : Int) (xvs15 : Bool) (xvr640 : List NodeT) => k' (.exit 0) ⟨[(1, .c (.one (.pt 1 0))), (2, .c (.one (.pt 2 0))), (3, .c (.one (.h 640 0 0 []))), (12, .c (.one (.ro .node vs12))), (13, .c (.one (.v (.int .i64 vs13)))), (14, .c (.one (.v (.int .i64 xvs14)))), (15, .c (.one (.v (.bool xvs15))))], [(1, ⟨.node, [.v (.int .i64 vb1_0), .v (.int .i64 vb1_1), .v (.string vb1_2), .h 512 0 0 [], .ro .node vb1_4]⟩), (2, ⟨.node, [.v (.int .i64 (0 : Int)), .v (.int .i64 (0 : Int)), .v (.string ByteArray.empty), .nl, .nl]⟩)], [(512, .live ⟨.str, .deep, 0, [], vr512⟩), (640, .live ⟨.node, .deep, 0, [], xvr640⟩)]⟩) vs12 vs13 vb1_0 vb1_1 vb1_2 vb1_4 vr512 m vs14 vr640 := by
  intro m; induction m with
  | zero => intros; rfl
  | succ m ih =>
    intro vs14 vr640
    simp only [iter]
    rw [f39L0_b]
    simp only [ih, f39L0]

noncomputable def f39K0 {R : Type} (N : Nat) (n : Nat) (k' : Ex → St → Option R) : Ex → St → Option R := (blockK 0 (seqK (f39e N) f39k n (cAt [1,1,1,1] f39c) k'))
theorem f39K0_x0 {R : Type} (N : Nat) (n : Nat) (k : List Dt → Option R) (a0 : NodeT) (vs12 : List NodeT) (vs13 : Int) (vb1_0 : Int) (vb1_1 : Int) (vb1_2 : ByteArray) (vb1_4 : List NodeT) (vr512 : List ByteArray) (xvs14 : Int) (xvs15 : Bool) (xvr640 : List NodeT) : f39K0 N n (exitK (f39e N) [.ro] [false] true [.cell 2 27] [27] [.d .node a0] k) (.exit 0) ⟨[(1, .c (.one (.pt 1 0))), (2, .c (.one (.pt 2 0))), (3, .c (.one (.h 640 0 0 []))), (12, .c (.one (.ro .node vs12))), (13, .c (.one (.v (.int .i64 vs13)))), (14, .c (.one (.v (.int .i64 xvs14)))), (15, .c (.one (.v (.bool xvs15))))], [(1, ⟨.node, [.v (.int .i64 vb1_0), .v (.int .i64 vb1_1), .v (.string vb1_2), .h 512 0 0 [], .ro .node vb1_4]⟩), (2, ⟨.node, [.v (.int .i64 (0 : Int)), .v (.int .i64 (0 : Int)), .v (.string ByteArray.empty), .nl, .nl]⟩)], [(512, .live ⟨.str, .deep, 0, [], vr512⟩), (640, .live ⟨.node, .deep, 0, [], xvr640⟩)]⟩ =
    (k [.d .node (⟨vb1_0, vb1_1, vb1_2, vr512, xvr640⟩ : NodeT)]) := by kernel_rfl

theorem f39_run {R : Type} (N : Nat) (n : Nat) (k : List Dt → Option R) (a0 : NodeT) : evFn (f39e N) f39k n f39c [.ro] [false] true [.cell 2 27] [27] [.d .node a0] k =
    (cond ((fun (x : List ByteArray) => Nat.ble x.length LIM) (NodeT.keys a0))
    (f39L0 N n (fun (xvs14 : Int) (xvs15 : Bool) (xvr640 : List NodeT) =>
      (k [.d .node (⟨(NodeT.kind a0), (NodeT.n a0), (NodeT.s a0), (NodeT.keys a0), xvr640⟩ : NodeT)])) (NodeT.kids a0) ((NodeT.kids a0).length : Int) (NodeT.kind a0) (NodeT.n a0) (NodeT.s a0) (NodeT.kids a0) (NodeT.keys a0) n (0 : Int) ([] : List NodeT))
    none) := by
  refine Eq.trans (b := (cond ((fun (x : List ByteArray) => Nat.ble x.length LIM) (NodeT.keys a0))
    (iter (fun st k => ev (f39e N) f39k n (cAt [1,1,1,0,1,0,0] f39c) st k) n ⟨[(1, .c (.one (.pt 1 0))), (2, .c (.one (.pt 2 0))), (3, .c (.one (.h 640 0 0 []))), (12, .c (.one (.ro .node (NodeT.kids a0)))), (13, .c (.one (.v (.int .i64 ((NodeT.kids a0).length : Int))))), (14, .c (.one (.v (.int .i64 (0 : Int)))))], [(1, ⟨.node, [.v (.int .i64 (NodeT.kind a0)), .v (.int .i64 (NodeT.n a0)), .v (.string (NodeT.s a0)), .h 512 0 0 [], .ro .node (NodeT.kids a0)]⟩), (2, ⟨.node, [.v (.int .i64 (0 : Int)), .v (.int .i64 (0 : Int)), .v (.string ByteArray.empty), .nl, .nl]⟩)], [(512, .live ⟨.str, .deep, 0, [], (NodeT.keys a0)⟩), (640, .live ⟨.node, .deep, 0, [], ([] : List NodeT)⟩)]⟩ (f39K0 N n (exitK (f39e N) [.ro] [false] true [.cell 2 27] [27] [.d .node a0] k)))
    none)) (by kernel_rfl) ?_
  simp only [f39L0_eq, f39K0_x0]
theorem f39_spec (N : Nat) (a0 : NodeT) (hg : sm_node a0 = true) (hm : mu39 [.d .node a0] = N) : ∃ keep rounds, ∀ {R : Type} (k : List Dt → Option R), evFn (f39e N) keep rounds f39c [.ro] [false] true [.cell 2 27] [27] [.d .node a0] k = k [.d .node a0] := by
  have hm : nd_node a0 = N := hm
  subst hm
  have hg0 := hg
  rw [sm_node_def] at hg
  simp only [Bool.and_eq_true] at hg
  obtain ⟨_, _, _, hke, hki⟩ := hg
  have nke := smL_len hke
  have nki := smL_len hki
  refine ⟨f39k, a0.kids.length + 1, fun {R} k => ?_⟩
  rw [f39_run]
  simp only [Nat.zero_add, limLe nke, cond_true, List.nil_append]
  refine Eq.trans (loop_acc (xs := a0.kids) (F := fun m j out => f39L0 (nd_node a0) (a0.kids.length + 1) _ a0.kids (a0.kids.length : Int) a0.kind a0.n a0.s a0.kids a0.keys m (j : Int) out) (f := fun out x => out ++ [x]) (good := fun out => k [.d .node ⟨a0.kind, a0.n, a0.s, a0.keys, out⟩]) (fun j out => out.length ≤ j)
    (fun j out x hx hi => by simp only [List.length_append, List.length_cons, List.length_nil]; omega) (fun m j out x hx hi => ?_) (fun m out hi => by simp only [f39L0, idxE, cond_false]) a0.kids.length 0 (a0.kids.length + 1) [] (by omega) (by omega) (by simp)) ?_
  · obtain ⟨h1, h0, hw, ht⟩ := idx (lt_of_get hx) (by omega)
    have hj := lt_of_get hx
    have hs := List.all_eq_true.1 (smL_all hki) x (List.mem_of_getElem? hx)
    have hlim : Nat.ble (out.length + 1) LIM = true := Nat.ble_eq_true_of_le (by have : (LIM : Nat) = 4294967296 := rfl; omega)
    have hb : Nat.blt (nd_node x) (nd_node a0) = true := by
      have := nd_node_kid (x := a0) (List.mem_of_getElem? hx)
      rw [Nat.blt_eq]; exact this
    simp only [f39L0, h1, h0, hw, ht, atI_of (t := .node) hx, Bool.and_self, cond_true, hlim, eta_node, eN_eq, hs, hb]
  · rw [List.drop_zero, foldl_snoc, List.nil_append, eta_node]

noncomputable def s39 : Gm.Spec := Gm.Spec.of [.ro] [false] true q39
theorem good39 : Gm.Good Try.prog (39, s39) := by
  refine ⟨⟨spec_rec mu39 fun N hr => ?_, _, Try.func39, by kernel_rfl, of_decide_eq_true (by kernel_rfl)⟩, Gm.Spec.of_natl _ _ _ _⟩
  have hl : ∀ x ∈ [(39, s39r N), (84, s84)], Gm.Good Try.prog x := List.forall_mem_cons.2 ⟨⟨⟨hr, _, Try.func39, by kernel_rfl, of_decide_eq_true (by kernel_rfl)⟩, Gm.Spec.of_natl _ _ _ _⟩, List.forall_mem_cons.2 ⟨good84, List.forall_mem_nil _⟩⟩
  intro R
  refine spec_ok (E := f39e N) (tab_ok.env hl) (tab.natl hl) Try.func39 (by kernel_rfl : Try.f39.body = some f39c) [27] (by kernel_rfl) ?_
  intro ds outs h
  obtain ⟨h, hm⟩ := qeq_some h
  unfold q39 at h
  split at h
  · simp only [Option.some.injEq, Prod.mk.injEq] at h; obtain ⟨hg, h⟩ := h; cases h; exact f39_spec N _ hg hm
  · cases h
noncomputable def q41 : List Dt → Option (Bool × List Dt)
  | [.d .node a0] => some ((sm_node a0), [.d .node a0])
  | _ => none
noncomputable def mu41 : List Dt → Nat
  | [.d .node a0] => nd_node a0
  | _ => 0
noncomputable def s41r (N : Nat) : Gm.Spec := Gm.Spec.of [.ro] [false] true (qlt mu41 N q41)
/-! ### loop.example/g00465/spec.l3Copy -/
noncomputable def f41c : Code := (Try.f41.body).getD .skip
def f41k : Nat → Kp := kat [⟨[1, 2], [], [], []⟩, ⟨[1, 2, 3], [], [], []⟩, ⟨[1, 2, 3, 4], [⟨true, false, 3, 4, .node⟩], [], []⟩, ⟨[1, 2, 3, 4, 20], [], [], []⟩, ⟨[1, 2, 3, 4], [], [], []⟩, ⟨[1, 2, 3, 4], [], [], []⟩, ⟨[2], [], [], []⟩]
noncomputable def f41e (N : Nat) : Env := tab.env [(41, s41r N)]
noncomputable def f41L0 {R : Type} (N : Nat) (n : Nat) (x0 : Int → Bool → (List NodeT) → Option R) (vb1_0 : Int) (vb1_1 : Int) (vb1_2 : ByteArray) (vb1_3 : List ByteArray) (vb1_4 : List NodeT) (vb3_0 : Int) (vb3_1 : Int) (vb3_2 : ByteArray) (vr704 : List ByteArray) : Nat → Int → (List NodeT) → Option R
  | 0, _, _ => none
  | m + 1, vs4, vr196 =>
    (cond (decide (vs4 < (vb1_4.length : Int)))
      (cond ((decide ((0 : Int) ≤ vs4)) && (decide (vs4 < (vb1_4.length : Int))))
        (cond ((sm_node (eN (atI (t := .node) vb1_4 (Int.toNat vs4)))) && (Nat.blt (nd_node (eN (atI (t := .node) vb1_4 (Int.toNat vs4)))) N))
          (cond (Nat.ble (vr196.length + 1) LIM)
            (f41L0 N n x0 vb1_0 vb1_1 vb1_2 vb1_3 vb1_4 vb3_0 vb3_1 vb3_2 vr704 m (IntKind.wrap .i64 (vs4 + (1 : Int))) (vr196 ++ ([(eN (atI (t := .node) vb1_4 (Int.toNat vs4)))] : List NodeT)))
            none)
          none)
        none)
      (x0 vs4 (decide (vs4 < (vb1_4.length : Int))) vr196))
theorem f41L0_b {R : Type} (N : Nat) (n : Nat) (k' : Ex → St → Option R) (vs4 : Int) (vb1_0 : Int) (vb1_1 : Int) (vb1_2 : ByteArray) (vb1_3 : List ByteArray) (vb1_4 : List NodeT) (vb3_0 : Int) (vb3_1 : Int) (vb3_2 : ByteArray) (vr196 : List NodeT) (vr704 : List ByteArray) : ev (f41e N) f41k n (cAt [1,1,0,1,0,0] f41c) ⟨[(1, .c (.one (.pt 1 0))), (2, .c (.one (.pt 2 0))), (3, .c (.one (.pt 3 0))), (4, .c (.one (.v (.int .i64 vs4))))], [(1, ⟨.node, [.v (.int .i64 vb1_0), .v (.int .i64 vb1_1), .v (.string vb1_2), .ro .str vb1_3, .ro .node vb1_4]⟩), (2, ⟨.node, [.v (.int .i64 (0 : Int)), .v (.int .i64 (0 : Int)), .v (.string ByteArray.empty), .nl, .nl]⟩), (3, ⟨.node, [.v (.int .i64 vb3_0), .v (.int .i64 vb3_1), .v (.string vb3_2), .h 704 0 0 [], .h 196 0 0 []]⟩)], [(196, .live ⟨.node, .deep, 0, [], vr196⟩), (704, .live ⟨.str, .deep, 0, [], vr704⟩)]⟩ k' =
    (cond (decide (vs4 < (vb1_4.length : Int)))
    (cond ((decide ((0 : Int) ≤ vs4)) && (decide (vs4 < (vb1_4.length : Int))))
      (cond ((sm_node (eN (atI (t := .node) vb1_4 (Int.toNat vs4)))) && (Nat.blt (nd_node (eN (atI (t := .node) vb1_4 (Int.toNat vs4)))) N))
        (cond (Nat.ble (vr196.length + 1) LIM)
          (k' .normal ⟨[(1, .c (.one (.pt 1 0))), (2, .c (.one (.pt 2 0))), (3, .c (.one (.pt 3 0))), (4, .c (.one (.v (.int .i64 (IntKind.wrap .i64 (vs4 + (1 : Int)))))))], [(1, ⟨.node, [.v (.int .i64 vb1_0), .v (.int .i64 vb1_1), .v (.string vb1_2), .ro .str vb1_3, .ro .node vb1_4]⟩), (2, ⟨.node, [.v (.int .i64 (0 : Int)), .v (.int .i64 (0 : Int)), .v (.string ByteArray.empty), .nl, .nl]⟩), (3, ⟨.node, [.v (.int .i64 vb3_0), .v (.int .i64 vb3_1), .v (.string vb3_2), .h 704 0 0 [], .h 196 0 0 []]⟩)], [(196, .live ⟨.node, .deep, 0, [], (vr196 ++ ([(eN (atI (t := .node) vb1_4 (Int.toNat vs4)))] : List NodeT))⟩), (704, .live ⟨.str, .deep, 0, [], vr704⟩)]⟩)
          none)
        none)
      none)
    (k' (.exit 0) ⟨[(1, .c (.one (.pt 1 0))), (2, .c (.one (.pt 2 0))), (3, .c (.one (.pt 3 0))), (4, .c (.one (.v (.int .i64 vs4)))), (20, .c (.one (.v (.bool (decide (vs4 < (vb1_4.length : Int)))))))], [(1, ⟨.node, [.v (.int .i64 vb1_0), .v (.int .i64 vb1_1), .v (.string vb1_2), .ro .str vb1_3, .ro .node vb1_4]⟩), (2, ⟨.node, [.v (.int .i64 (0 : Int)), .v (.int .i64 (0 : Int)), .v (.string ByteArray.empty), .nl, .nl]⟩), (3, ⟨.node, [.v (.int .i64 vb3_0), .v (.int .i64 vb3_1), .v (.string vb3_2), .h 704 0 0 [], .h 196 0 0 []]⟩)], [(196, .live ⟨.node, .deep, 0, [], vr196⟩), (704, .live ⟨.str, .deep, 0, [], vr704⟩)]⟩)) := by kernel_rfl
theorem f41L0_eq {R : Type} (N : Nat) (n : Nat) (k' : Ex → St → Option R) (vb1_0 : Int) (vb1_1 : Int) (vb1_2 : ByteArray) (vb1_3 : List ByteArray) (vb1_4 : List NodeT) (vb3_0 : Int) (vb3_1 : Int) (vb3_2 : ByteArray) (vr704 : List ByteArray) : ∀ (m : Nat) (vs4 : Int) (vr196 : List NodeT), iter (fun st k => ev (f41e N) f41k n (cAt [1,1,0,1,0,0] f41c) st k) m ⟨[(1, .c (.one (.pt 1 0))), (2, .c (.one (.pt 2 0))), (3, .c (.one (.pt 3 0))), (4, .c (.one (.v (.int .i64 vs4))))], [(1, ⟨.node, [.v (.int .i64 vb1_0), .v (.int .i64 vb1_1), .v (.string vb1_2), .ro .str vb1_3, .ro .node vb1_4]⟩), (2, ⟨.node, [.v (.int .i64 (0 : Int)), .v (.int .i64 (0 : Int)), .v (.string ByteArray.empty), .nl, .nl]⟩), (3, ⟨.node, [.v (.int .i64 vb3_0), .v (.int .i64 vb3_1), .v (.string vb3_2), .h 704 0 0 [], .h 196 0 0 []]⟩)], [(196, .live ⟨.node, .deep, 0, [], vr196⟩), (704, .live ⟨.str, .deep, 0, [], vr704⟩)]⟩ k' = f41L0 N n (fun (xvs4 : Int) (xvs20 : Bool) (xvr196 : List NodeT) => k' (.exit 0) ⟨[(1, .c (.one (.pt 1 0))), (2, .c (.one (.pt 2 0))), (3, .c (.one (.pt 3 0))), (4, .c (.one (.v (.int .i64 xvs4)))), (20, .c (.one (.v (.bool xvs20))))], [(1, ⟨.node, [.v (.int .i64 vb1_0), .v (.int .i64 vb1_1), .v (.string vb1_2), .ro .str vb1_3, .ro .node vb1_4]⟩), (2, ⟨.node, [.v (.int .i64 (0 : Int)), .v (.int .i64 (0 : Int)), .v (.string ByteArray.empty), .nl, .nl]⟩), (3, ⟨.node, [.v (.int .i64 vb3_0), .v (.int .i64 vb3_1), .v (.string vb3_2), .h 704 0 0 [], .h 196 0 0 []]⟩)], [(196, .live ⟨.node, .deep, 0, [], xvr196⟩), (704, .live ⟨.str, .deep, 0, [], vr704⟩)]⟩) vb1_0 vb1_1 vb1_2 vb1_3 vb1_4 vb3_0 vb3_1 vb3_2 vr704 m vs4 vr196 := by
  intro m; induction m with
  | zero => intros; rfl
  | succ m ih =>
    intro vs4 vr196
    simp only [iter]
    rw [f41L0_b]
    simp only [ih, f41L0]

noncomputable def f41K0 {R : Type} (N : Nat) (n : Nat) (k' : Ex → St → Option R) : Ex → St → Option R := (blockK 0 (seqK (f41e N) f41k n (cAt [1,1,1] f41c) k'))
theorem f41K0_x0 {R : Type} (N : Nat) (n : Nat) (k : List Dt → Option R) (a0 : NodeT) (vb1_0 : Int) (vb1_1 : Int) (vb1_2 : ByteArray) (vb1_3 : List ByteArray) (vb1_4 : List NodeT) (vb3_0 : Int) (vb3_1 : Int) (vb3_2 : ByteArray) (vr704 : List ByteArray) (xvs4 : Int) (xvs20 : Bool) (xvr196 : List NodeT) : f41K0 N n (exitK (f41e N) [.ro] [false] true [.cell 2 27] [27] [.d .node a0] k) (.exit 0) ⟨[(1, .c (.one (.pt 1 0))), (2, .c (.one (.pt 2 0))), (3, .c (.one (.pt 3 0))), (4, .c (.one (.v (.int .i64 xvs4)))), (20, .c (.one (.v (.bool xvs20))))], [(1, ⟨.node, [.v (.int .i64 vb1_0), .v (.int .i64 vb1_1), .v (.string vb1_2), .ro .str vb1_3, .ro .node vb1_4]⟩), (2, ⟨.node, [.v (.int .i64 (0 : Int)), .v (.int .i64 (0 : Int)), .v (.string ByteArray.empty), .nl, .nl]⟩), (3, ⟨.node, [.v (.int .i64 vb3_0), .v (.int .i64 vb3_1), .v (.string vb3_2), .h 704 0 0 [], .h 196 0 0 []]⟩)], [(196, .live ⟨.node, .deep, 0, [], xvr196⟩), (704, .live ⟨.str, .deep, 0, [], vr704⟩)]⟩ =
    (k [.d .node (⟨vb3_0, vb3_1, vb3_2, vr704, xvr196⟩ : NodeT)]) := by kernel_rfl

theorem f41_run {R : Type} (N : Nat) (n : Nat) (k : List Dt → Option R) (a0 : NodeT) : evFn (f41e N) f41k n f41c [.ro] [false] true [.cell 2 27] [27] [.d .node a0] k =
    (cond (Nat.ble (0 + (NodeT.keys a0).length) LIM)
    (f41L0 N n (fun (xvs4 : Int) (xvs20 : Bool) (xvr196 : List NodeT) =>
      (k [.d .node (⟨(NodeT.kind a0), (NodeT.n a0), (NodeT.s a0), (([] : List ByteArray) ++ (NodeT.keys a0)), xvr196⟩ : NodeT)])) (NodeT.kind a0) (NodeT.n a0) (NodeT.s a0) (NodeT.keys a0) (NodeT.kids a0) (NodeT.kind a0) (NodeT.n a0) (NodeT.s a0) (([] : List ByteArray) ++ (NodeT.keys a0)) n (0 : Int) ([] : List NodeT))
    none) := by
  refine Eq.trans (b := (cond (Nat.ble (0 + (NodeT.keys a0).length) LIM)
    (iter (fun st k => ev (f41e N) f41k n (cAt [1,1,0,1,0,0] f41c) st k) n ⟨[(1, .c (.one (.pt 1 0))), (2, .c (.one (.pt 2 0))), (3, .c (.one (.pt 3 0))), (4, .c (.one (.v (.int .i64 (0 : Int)))))], [(1, ⟨.node, [.v (.int .i64 (NodeT.kind a0)), .v (.int .i64 (NodeT.n a0)), .v (.string (NodeT.s a0)), .ro .str (NodeT.keys a0), .ro .node (NodeT.kids a0)]⟩), (2, ⟨.node, [.v (.int .i64 (0 : Int)), .v (.int .i64 (0 : Int)), .v (.string ByteArray.empty), .nl, .nl]⟩), (3, ⟨.node, [.v (.int .i64 (NodeT.kind a0)), .v (.int .i64 (NodeT.n a0)), .v (.string (NodeT.s a0)), .h 704 0 0 [], .h 196 0 0 []]⟩)], [(196, .live ⟨.node, .deep, 0, [], ([] : List NodeT)⟩), (704, .live ⟨.str, .deep, 0, [], (([] : List ByteArray) ++ (NodeT.keys a0))⟩)]⟩ (f41K0 N n (exitK (f41e N) [.ro] [false] true [.cell 2 27] [27] [.d .node a0] k)))
    none)) (by kernel_rfl) ?_
  simp only [f41L0_eq, f41K0_x0]
theorem f41_spec (N : Nat) (a0 : NodeT) (hg : sm_node a0 = true) (hm : mu41 [.d .node a0] = N) : ∃ keep rounds, ∀ {R : Type} (k : List Dt → Option R), evFn (f41e N) keep rounds f41c [.ro] [false] true [.cell 2 27] [27] [.d .node a0] k = k [.d .node a0] := by
  have hm : nd_node a0 = N := hm
  subst hm
  have hg0 := hg
  rw [sm_node_def] at hg
  simp only [Bool.and_eq_true] at hg
  obtain ⟨_, _, _, hke, hki⟩ := hg
  have nke := smL_len hke
  have nki := smL_len hki
  refine ⟨f41k, a0.kids.length + 1, fun {R} k => ?_⟩
  rw [f41_run]
  simp only [Nat.zero_add, limLe nke, cond_true, List.nil_append]
  refine Eq.trans (loop_acc (xs := a0.kids) (F := fun m j out => f41L0 (nd_node a0) (a0.kids.length + 1) _ a0.kind a0.n a0.s a0.keys a0.kids a0.kind a0.n a0.s a0.keys m (j : Int) out) (f := fun out x => out ++ [x]) (good := fun out => k [.d .node ⟨a0.kind, a0.n, a0.s, a0.keys, out⟩]) (fun j out => out.length ≤ j)
    (fun j out x hx hi => by simp only [List.length_append, List.length_cons, List.length_nil]; omega) (fun m j out x hx hi => ?_) (fun m out hi => by simp only [f41L0, idxE, cond_false]) a0.kids.length 0 (a0.kids.length + 1) [] (by omega) (by omega) (by simp)) ?_
  · obtain ⟨h1, h0, hw, ht⟩ := idx (lt_of_get hx) (by omega)
    have hj := lt_of_get hx
    have hs := List.all_eq_true.1 (smL_all hki) x (List.mem_of_getElem? hx)
    have hlim : Nat.ble (out.length + 1) LIM = true := Nat.ble_eq_true_of_le (by have : (LIM : Nat) = 4294967296 := rfl; omega)
    have hb : Nat.blt (nd_node x) (nd_node a0) = true := by
      have := nd_node_kid (x := a0) (List.mem_of_getElem? hx)
      rw [Nat.blt_eq]; exact this
    simp only [f41L0, h1, h0, hw, ht, atI_of (t := .node) hx, Bool.and_self, cond_true, hlim, eta_node, eN_eq, hs, hb]
  · rw [List.drop_zero, foldl_snoc, List.nil_append, eta_node]

noncomputable def s41 : Gm.Spec := Gm.Spec.of [.ro] [false] true q41
theorem good41 : Gm.Good Try.prog (41, s41) := by
  refine ⟨⟨spec_rec mu41 fun N hr => ?_, _, Try.func41, by kernel_rfl, of_decide_eq_true (by kernel_rfl)⟩, Gm.Spec.of_natl _ _ _ _⟩
  have hl : ∀ x ∈ [(41, s41r N)], Gm.Good Try.prog x := List.forall_mem_cons.2 ⟨⟨⟨hr, _, Try.func41, by kernel_rfl, of_decide_eq_true (by kernel_rfl)⟩, Gm.Spec.of_natl _ _ _ _⟩, List.forall_mem_nil _⟩
  intro R
  refine spec_ok (E := f41e N) (tab_ok.env hl) (tab.natl hl) Try.func41 (by kernel_rfl : Try.f41.body = some f41c) [27] (by kernel_rfl) ?_
  intro ds outs h
  obtain ⟨h, hm⟩ := qeq_some h
  unfold q41 at h
  split at h
  · simp only [Option.some.injEq, Prod.mk.injEq] at h; obtain ⟨hg, h⟩ := h; cases h; exact f41_spec N _ hg hm
  · cases h
/-! ### loop.example/g00465/spec.AtPtr -/
noncomputable def f11c : Code := (Try.f11.body).getD .skip
def f11k : Nat → Kp := kat [⟨[1, 2, 4], [], [], []⟩, ⟨[1, 2, 4, 6], [], [], []⟩, ⟨[1, 2, 4, 6, 11], [], [], []⟩, ⟨[1, 2, 4, 6], [], [], []⟩, ⟨[1, 2, 4, 6, 7], [], [], []⟩, ⟨[1, 2, 4, 6, 7, 28], [], [], []⟩, ⟨[4, 5], [], [], []⟩, ⟨[1, 2, 4, 6], [], [], []⟩, ⟨[4, 5], [], [], []⟩]
noncomputable def f11e : Env := tab.env [(40, s40), (41, s41)]
noncomputable def f11L0 {R : Type} (n : Nat) (x0 : Option R) (x1 : Int → Bool → Int → Int → ByteArray → (List ByteArray) → (List NodeT) → Option R) (vs1 : List ByteArray) : Nat → Int → Int → Int → ByteArray → (List ByteArray) → (List NodeT) → Option R
  | 0, _, _, _, _, _, _ => none
  | m + 1, vs6, vb2_0, vb2_1, vb2_2, vb2_3, vb2_4 =>
    (cond (decide (vs6 < (vs1.length : Int)))
      (cond ((decide ((0 : Int) ≤ vs6)) && (decide (vs6 < (vs1.length : Int))))
        (cond ((fun (x : NodeT) (_ : ByteArray) => sm_node x) (⟨vb2_0, vb2_1, vb2_2, vb2_3, vb2_4⟩ : NodeT) (atI (t := .str) vs1 (Int.toNat vs6)))
          (cond (decide ((kidAt (⟨vb2_0, vb2_1, vb2_2, vb2_3, vb2_4⟩ : NodeT) (atI (t := .str) vs1 (Int.toNat vs6))) < (0 : Int)))
            (x0)
            (cond (decide ((kidAt (⟨vb2_0, vb2_1, vb2_2, vb2_3, vb2_4⟩ : NodeT) (atI (t := .str) vs1 (Int.toNat vs6))) ≥ (vb2_4.length : Int)))
              (x0)
              (cond ((decide ((0 : Int) ≤ (kidAt (⟨vb2_0, vb2_1, vb2_2, vb2_3, vb2_4⟩ : NodeT) (atI (t := .str) vs1 (Int.toNat vs6))))) && (decide ((kidAt (⟨vb2_0, vb2_1, vb2_2, vb2_3, vb2_4⟩ : NodeT) (atI (t := .str) vs1 (Int.toNat vs6))) < (vb2_4.length : Int))))
                (f11L0 n x0 x1 vs1 m (IntKind.wrap .i64 (vs6 + (1 : Int))) (NodeT.kind (atI (t := .node) vb2_4 (Int.toNat (kidAt (⟨vb2_0, vb2_1, vb2_2, vb2_3, vb2_4⟩ : NodeT) (atI (t := .str) vs1 (Int.toNat vs6)))))) (NodeT.n (atI (t := .node) vb2_4 (Int.toNat (kidAt (⟨vb2_0, vb2_1, vb2_2, vb2_3, vb2_4⟩ : NodeT) (atI (t := .str) vs1 (Int.toNat vs6)))))) (NodeT.s (atI (t := .node) vb2_4 (Int.toNat (kidAt (⟨vb2_0, vb2_1, vb2_2, vb2_3, vb2_4⟩ : NodeT) (atI (t := .str) vs1 (Int.toNat vs6)))))) (NodeT.keys (atI (t := .node) vb2_4 (Int.toNat (kidAt (⟨vb2_0, vb2_1, vb2_2, vb2_3, vb2_4⟩ : NodeT) (atI (t := .str) vs1 (Int.toNat vs6)))))) (NodeT.kids (atI (t := .node) vb2_4 (Int.toNat (kidAt (⟨vb2_0, vb2_1, vb2_2, vb2_3, vb2_4⟩ : NodeT) (atI (t := .str) vs1 (Int.toNat vs6)))))))
                none)))
          none)
        none)
      (x1 vs6 (decide (vs6 < (vs1.length : Int))) vb2_0 vb2_1 vb2_2 vb2_3 vb2_4))
theorem f11L0_b {R : Type} (n : Nat) (k' : Ex → St → Option R) (vs1 : List ByteArray) (vs6 : Int) (vb2_0 : Int) (vb2_1 : Int) (vb2_2 : ByteArray) (vb2_3 : List ByteArray) (vb2_4 : List NodeT) : ev f11e f11k n (cAt [1,0,1,0,0] f11c) ⟨[(1, .c (.one (.ro .str vs1))), (2, .c (.one (.pt 2 0))), (4, .c (.one (.pt 4 0))), (6, .c (.one (.v (.int .i64 vs6))))], [(2, ⟨.node, [.v (.int .i64 vb2_0), .v (.int .i64 vb2_1), .v (.string vb2_2), .ro .str vb2_3, .ro .node vb2_4]⟩), (4, ⟨.node, [.v (.int .i64 (0 : Int)), .v (.int .i64 (0 : Int)), .v (.string ByteArray.empty), .nl, .nl]⟩)], []⟩ k' =
    (cond (decide (vs6 < (vs1.length : Int)))
    (cond ((decide ((0 : Int) ≤ vs6)) && (decide (vs6 < (vs1.length : Int))))
      (cond ((fun (x : NodeT) (_ : ByteArray) => sm_node x) (⟨vb2_0, vb2_1, vb2_2, vb2_3, vb2_4⟩ : NodeT) (atI (t := .str) vs1 (Int.toNat vs6)))
        (cond (decide ((kidAt (⟨vb2_0, vb2_1, vb2_2, vb2_3, vb2_4⟩ : NodeT) (atI (t := .str) vs1 (Int.toNat vs6))) < (0 : Int)))
          (k' .ret ⟨[(4, .c (.one (.pt 4 0))), (5, .c (.one (.v (.bool false))))], [(4, ⟨.node, [.v (.int .i64 (0 : Int)), .v (.int .i64 (0 : Int)), .v (.string ByteArray.empty), .nl, .nl]⟩)], []⟩)
          (cond (decide ((kidAt (⟨vb2_0, vb2_1, vb2_2, vb2_3, vb2_4⟩ : NodeT) (atI (t := .str) vs1 (Int.toNat vs6))) ≥ (vb2_4.length : Int)))
            (k' .ret ⟨[(4, .c (.one (.pt 4 0))), (5, .c (.one (.v (.bool false))))], [(4, ⟨.node, [.v (.int .i64 (0 : Int)), .v (.int .i64 (0 : Int)), .v (.string ByteArray.empty), .nl, .nl]⟩)], []⟩)
            (cond ((decide ((0 : Int) ≤ (kidAt (⟨vb2_0, vb2_1, vb2_2, vb2_3, vb2_4⟩ : NodeT) (atI (t := .str) vs1 (Int.toNat vs6))))) && (decide ((kidAt (⟨vb2_0, vb2_1, vb2_2, vb2_3, vb2_4⟩ : NodeT) (atI (t := .str) vs1 (Int.toNat vs6))) < (vb2_4.length : Int))))
              (k' .normal ⟨[(1, .c (.one (.ro .str vs1))), (2, .c (.one (.pt 2 0))), (4, .c (.one (.pt 4 0))), (6, .c (.one (.v (.int .i64 (IntKind.wrap .i64 (vs6 + (1 : Int)))))))], [(2, ⟨.node, [.v (.int .i64 (NodeT.kind (atI (t := .node) vb2_4 (Int.toNat (kidAt (⟨vb2_0, vb2_1, vb2_2, vb2_3, vb2_4⟩ : NodeT) (atI (t := .str) vs1 (Int.toNat vs6))))))), .v (.int .i64 (NodeT.n (atI (t := .node) vb2_4 (Int.toNat (kidAt (⟨vb2_0, vb2_1, vb2_2, vb2_3, vb2_4⟩ : NodeT) (atI (t := .str) vs1 (Int.toNat vs6))))))), .v (.string (NodeT.s (atI (t := .node) vb2_4 (Int.toNat (kidAt (⟨vb2_0, vb2_1, vb2_2, vb2_3, vb2_4⟩ : NodeT) (atI (t := .str) vs1 (Int.toNat vs6))))))), .ro .str (NodeT.keys (atI (t := .node) vb2_4 (Int.toNat (kidAt (⟨vb2_0, vb2_1, vb2_2, vb2_3, vb2_4⟩ : NodeT) (atI (t := .str) vs1 (Int.toNat vs6)))))), .ro .node (NodeT.kids (atI (t := .node) vb2_4 (Int.toNat (kidAt (⟨vb2_0, vb2_1, vb2_2, vb2_3, vb2_4⟩ : NodeT) (atI (t := .str) vs1 (Int.toNat vs6))))))]⟩), (4, ⟨.node, [.v (.int .i64 (0 : Int)), .v (.int .i64 (0 : Int)), .v (.string ByteArray.empty), .nl, .nl]⟩)], []⟩)
              none)))
        none)
      none)
    (k' (.exit 0) ⟨[(1, .c (.one (.ro .str vs1))), (2, .c (.one (.pt 2 0))), (4, .c (.one (.pt 4 0))), (6, .c (.one (.v (.int .i64 vs6)))), (11, .c (.one (.v (.bool (decide (vs6 < (vs1.length : Int)))))))], [(2, ⟨.node, [.v (.int .i64 vb2_0), .v (.int .i64 vb2_1), .v (.string vb2_2), .ro .str vb2_3, .ro .node vb2_4]⟩), (4, ⟨.node, [.v (.int .i64 (0 : Int)), .v (.int .i64 (0 : Int)), .v (.string ByteArray.empty), .nl, .nl]⟩)], []⟩)) := by kernel_rfl
theorem f11L0_eq {R : Type} (n : Nat) (k' : Ex → St → Option R) (vs1 : List ByteArray) : ∀ (m : Nat) (vs6 : Int) (vb2_0 : Int) (vb2_1 : Int) (vb2_2 : ByteArray) (vb2_3 : List ByteArray) (vb2_4 : List NodeT), iter (fun st k => ev f11e f11k n (cAt [1,0,1,0,0] f11c) st k) m ⟨[(1, .c (.one (.ro .str vs1))), (2, .c (.one (.pt 2 0))), (4, .c (.one (.pt 4 0))), (6, .c (.one (.v (.int .i64 vs6))))], [(2, ⟨.node, [.v (.int .i64 vb2_0), .v (.int .i64 vb2_1), .v (.string vb2_2), .ro .str vb2_3, .ro .node vb2_4]⟩), (4, ⟨.node, [.v (.int .i64 (0 : Int)), .v (.int .i64 (0 : Int)), .v (.string ByteArray.empty), .nl, .nl]⟩)], []⟩ k' = f11L0 n (k' .ret ⟨[(4, .c (.one (.pt 4 0))), (5, .c (.one (.v (.bool false))))], [(4, ⟨.node, [.v (.int .i64 (0 : Int)), .v (.int .i64 (0 : Int)), .v (.string ByteArray.empty), .nl, .nl]⟩)], []⟩) (fun (xvs6 : Int) (xvs11 : Bool) (xvb2_0 : Int) (xvb2_1 : Int) (xvb2_2 : ByteArray) (xvb2_3 : List ByteArray) (xvb2_4 : List NodeT) => k' (.exit 0) ⟨[(1, .c (.one (.ro .str vs1))), (2, .c (.one (.pt 2 0))), (4, .c (.one (.pt 4 0))), (6, .c (.one (.v (.int .i64 xvs6)))), (11, .c (.one (.v (.bool xvs11))))], [(2, ⟨.node, [.v (.int .i64 xvb2_0), .v (.int .i64 xvb2_1), .v (.string xvb2_2), .ro .str xvb2_3, .ro .node xvb2_4]⟩), (4, ⟨.node, [.v (.int .i64 (0 : Int)), .v (.int .i64 (0 : Int)), .v (.string ByteArray.empty), .nl, .nl]⟩)], []⟩) vs1 m vs6 vb2_0 vb2_1 vb2_2 vb2_3 vb2_4 := by
  intro m; induction m with
  | zero => intros; rfl
  | succ m ih =>
    intro vs6 vb2_0 vb2_1 vb2_2 vb2_3 vb2_4
    simp only [iter]
    rw [f11L0_b]
    simp only [ih, f11L0]

noncomputable def f11K0 {R : Type} (n : Nat) (k' : Ex → St → Option R) : Ex → St → Option R := (blockK 0 (seqK f11e f11k n (cAt [1,1] f11c) k'))
theorem f11K0_x0 {R : Type} (n : Nat) (k : List Dt → Option R) (a0 : NodeT) (a1 : List ByteArray)  : f11K0 n (exitK f11e [.ro, .ro] [false, false] true [.cell 4 27, .tmp 5] [27, 4] [.d .node a0, .d (.sl .str) a1] k) .ret ⟨[(4, .c (.one (.pt 4 0))), (5, .c (.one (.v (.bool false))))], [(4, ⟨.node, [.v (.int .i64 (0 : Int)), .v (.int .i64 (0 : Int)), .v (.string ByteArray.empty), .nl, .nl]⟩)], []⟩ =
    (k [.d .node (⟨(0 : Int), (0 : Int), ByteArray.empty, ([] : List ByteArray), ([] : List NodeT)⟩ : NodeT), .d .bool false]) := by kernel_rfl
theorem f11K0_x1 {R : Type} (n : Nat) (k : List Dt → Option R) (a0 : NodeT) (a1 : List ByteArray) (vs1 : List ByteArray) (xvs6 : Int) (xvs11 : Bool) (xvb2_0 : Int) (xvb2_1 : Int) (xvb2_2 : ByteArray) (xvb2_3 : List ByteArray) (xvb2_4 : List NodeT) : f11K0 n (exitK f11e [.ro, .ro] [false, false] true [.cell 4 27, .tmp 5] [27, 4] [.d .node a0, .d (.sl .str) a1] k) (.exit 0) ⟨[(1, .c (.one (.ro .str vs1))), (2, .c (.one (.pt 2 0))), (4, .c (.one (.pt 4 0))), (6, .c (.one (.v (.int .i64 xvs6)))), (11, .c (.one (.v (.bool xvs11))))], [(2, ⟨.node, [.v (.int .i64 xvb2_0), .v (.int .i64 xvb2_1), .v (.string xvb2_2), .ro .str xvb2_3, .ro .node xvb2_4]⟩), (4, ⟨.node, [.v (.int .i64 (0 : Int)), .v (.int .i64 (0 : Int)), .v (.string ByteArray.empty), .nl, .nl]⟩)], []⟩ =
    (cond (sm_node (⟨xvb2_0, xvb2_1, xvb2_2, xvb2_3, xvb2_4⟩ : NodeT))
    (k [.d .node (⟨xvb2_0, xvb2_1, xvb2_2, xvb2_3, xvb2_4⟩ : NodeT), .d .bool true])
    none) := by kernel_rfl

theorem f11_run {R : Type} (n : Nat) (k : List Dt → Option R) (a0 : NodeT) (a1 : List ByteArray) : evFn f11e f11k n f11c [.ro, .ro] [false, false] true [.cell 4 27, .tmp 5] [27, 4] [.d .node a0, .d (.sl .str) a1] k =
    (f11L0 n (k [.d .node (⟨(0 : Int), (0 : Int), ByteArray.empty, ([] : List ByteArray), ([] : List NodeT)⟩ : NodeT), .d .bool false]) (fun (xvs6 : Int) (xvs11 : Bool) (xvb2_0 : Int) (xvb2_1 : Int) (xvb2_2 : ByteArray) (xvb2_3 : List ByteArray) (xvb2_4 : List NodeT) =>
    (cond (sm_node (⟨xvb2_0, xvb2_1, xvb2_2, xvb2_3, xvb2_4⟩ : NodeT))
      (k [.d .node (⟨xvb2_0, xvb2_1, xvb2_2, xvb2_3, xvb2_4⟩ : NodeT), .d .bool true])
      none)) a1 n (0 : Int) (NodeT.kind a0) (NodeT.n a0) (NodeT.s a0) (NodeT.keys a0) (NodeT.kids a0)) := by
  refine Eq.trans (b := (iter (fun st k => ev f11e f11k n (cAt [1,0,1,0,0] f11c) st k) n ⟨[(1, .c (.one (.ro .str a1))), (2, .c (.one (.pt 2 0))), (4, .c (.one (.pt 4 0))), (6, .c (.one (.v (.int .i64 (0 : Int)))))], [(2, ⟨.node, [.v (.int .i64 (NodeT.kind a0)), .v (.int .i64 (NodeT.n a0)), .v (.string (NodeT.s a0)), .ro .str (NodeT.keys a0), .ro .node (NodeT.kids a0)]⟩), (4, ⟨.node, [.v (.int .i64 (0 : Int)), .v (.int .i64 (0 : Int)), .v (.string ByteArray.empty), .nl, .nl]⟩)], []⟩ (f11K0 n (exitK f11e [.ro, .ro] [false, false] true [.cell 4 27, .tmp 5] [27, 4] [.d .node a0, .d (.sl .str) a1] k)))) (by kernel_rfl) ?_
  simp only [f11L0_eq, f11K0_x0, f11K0_x1]
theorem f11_spec (a0 : NodeT) (a1 : List ByteArray) (hg : (sm_node a0 && smL smStr a1) = true) : ∃ keep rounds, ∀ {R : Type} (k : List Dt → Option R), evFn f11e keep rounds f11c [.ro, .ro] [false, false] true [.cell 4 27, .tmp 5] [27, 4] [.d .node a0, .d (.sl .str) a1] k = k [.d .node ((atPtr a0 a1).1), .d .bool ((atPtr a0 a1).2)] := by
  simp only [Bool.and_eq_true] at hg
  obtain ⟨hg, hpa⟩ := hg
  have nl := smL_len hpa
  refine ⟨f11k, a1.length + 1, fun {R} k => ?_⟩
  rw [f11_run]
  show _ = k [.d .node (atPtr a0 a1).1, .d .bool (atPtr a0 a1).2]
  unfold atPtr
  refine Eq.trans (loop_fold (xs := a1) (F := fun m j (t : NodeT) => f11L0 (a1.length + 1) _ _ a1 m (j : Int) t.kind t.n t.s t.keys t.kids) (step := atStep) (out := fun _ => k [.d .node noNode, .d .bool false]) (good := fun t => k [.d .node t, .d .bool true]) (fun t => sm_node t = true)
    (fun x t t' _ ht e => sm_kid ht (atStep_in e)) (fun m j t x hx hst => ?_) (fun m t hst => by simp only [f11L0, idxE, cond_false, eta_node, eN_eq, hst, cond_true]) a1.length 0 (a1.length + 1) a0 (by omega) (by omega) hg) ?_
  · obtain ⟨h1, h0, hw, ht⟩ := idx (lt_of_get hx) (by omega)
    unfold atStep
    by_cases hk : kidAt t x < 0
    · simp only [f11L0, h1, h0, hw, ht, atI_of (t := .str) hx, Bool.and_self, cond_true, eta_node, eN_eq, hst, decide_eq_true hk]
      rfl
    · have hlt := kidAt_lt hk
      simp only [f11L0, h1, h0, hw, ht, atI_of (t := .str) hx, Bool.and_self, cond_true, cond_false, eta_node, eN_eq, hst, decide_eq_false hk, decide_eq_true (show (0 : Int) ≤ kidAt t x by omega), decide_eq_true hlt, decide_eq_false (show ¬ (kidAt t x ≥ (t.kids.length : Int)) by omega)]
      rfl
  · rw [List.drop_zero]
    cases foldE atStep a1 a0 <;> rfl

noncomputable def q11 : List Dt → Option (Bool × List Dt)
  | [.d .node a0, .d (.sl .str) a1] => some (((fun (x : NodeT) (y : List ByteArray) => sm_node x && smL smStr y) a0 a1), [.d .node ((atPtr a0 a1).1), .d .bool ((atPtr a0 a1).2)])
  | _ => none
noncomputable def s11 : Gm.Spec := Gm.Spec.of [.ro, .ro] [false, false] true q11
theorem good11 : Gm.Good Try.prog (11, s11) := by
  have hl : ∀ x ∈ [(40, s40), (41, s41)], Gm.Good Try.prog x := List.forall_mem_cons.2 ⟨good40, List.forall_mem_cons.2 ⟨good41, List.forall_mem_nil _⟩⟩
  refine ⟨⟨spec_ok (tab_ok.env hl) (tab.natl hl) Try.func11 (by kernel_rfl : Try.f11.body = some f11c) [27, 4] (by kernel_rfl) ?_, _, Try.func11, by kernel_rfl, of_decide_eq_true (by kernel_rfl)⟩, Gm.Spec.of_natl _ _ _ _⟩
  intro ds outs h
  unfold q11 at h
  split at h
  · simp only [Option.some.injEq, Prod.mk.injEq] at h; obtain ⟨hg, h⟩ := h; cases h; exact f11_spec _ _ hg
  · cases h
/-! ### loop.example/g00465/impl.AtPtr -/
noncomputable def f10c : Code := (Try.f10.body).getD .skip
def f10k : Nat → Kp := kat [⟨[1, 2, 4], [], [], []⟩, ⟨[2, 4, 9, 10, 11], [], [], []⟩, ⟨[2, 4, 9, 10, 11, 12], [], [], []⟩, ⟨[2, 4, 7, 9, 10, 11], [], [], []⟩, ⟨[2, 4, 8, 9, 10, 11], [], [], []⟩, ⟨[2, 4, 8, 9, 10, 11, 19], [], [], []⟩, ⟨[4, 5], [], [], []⟩, ⟨[2, 4, 9, 10, 11], [], [], []⟩, ⟨[2, 4, 9, 10, 11], [], [], []⟩, ⟨[4, 5], [], [], []⟩]
noncomputable def f10e : Env := tab.env [(38, s38), (39, s39)]
noncomputable def f10L0 {R : Type} (n : Nat) (x0 : Option R) (x1 : Int → Bool → Int → Int → ByteArray → (List ByteArray) → (List NodeT) → Option R) (vs9 : List ByteArray) (vs10 : Int) : Nat → Int → Int → Int → ByteArray → (List ByteArray) → (List NodeT) → Option R
  | 0, _, _, _, _, _, _ => none
  | m + 1, vs11, vb2_0, vb2_1, vb2_2, vb2_3, vb2_4 =>
    (cond (decide (vs11 < vs10))
      (cond ((decide ((0 : Int) ≤ vs11)) && (decide (vs11 < (vs9.length : Int))))
        (cond ((fun (x : NodeT) (_ : ByteArray) => sm_node x) (⟨vb2_0, vb2_1, vb2_2, vb2_3, vb2_4⟩ : NodeT) (atI (t := .str) vs9 (Int.toNat vs11)))
          (cond (decide ((kidAt (⟨vb2_0, vb2_1, vb2_2, vb2_3, vb2_4⟩ : NodeT) (atI (t := .str) vs9 (Int.toNat vs11))) < (0 : Int)))
            (x0)
            (cond ((decide ((0 : Int) ≤ (kidAt (⟨vb2_0, vb2_1, vb2_2, vb2_3, vb2_4⟩ : NodeT) (atI (t := .str) vs9 (Int.toNat vs11))))) && (decide ((kidAt (⟨vb2_0, vb2_1, vb2_2, vb2_3, vb2_4⟩ : NodeT) (atI (t := .str) vs9 (Int.toNat vs11))) < (vb2_4.length : Int))))
              (f10L0 n x0 x1 vs9 vs10 m (IntKind.wrap .i64 (vs11 + (1 : Int))) (NodeT.kind (atI (t := .node) vb2_4 (Int.toNat (kidAt (⟨vb2_0, vb2_1, vb2_2, vb2_3, vb2_4⟩ : NodeT) (atI (t := .str) vs9 (Int.toNat vs11)))))) (NodeT.n (atI (t := .node) vb2_4 (Int.toNat (kidAt (⟨vb2_0, vb2_1, vb2_2, vb2_3, vb2_4⟩ : NodeT) (atI (t := .str) vs9 (Int.toNat vs11)))))) (NodeT.s (atI (t := .node) vb2_4 (Int.toNat (kidAt (⟨vb2_0, vb2_1, vb2_2, vb2_3, vb2_4⟩ : NodeT) (atI (t := .str) vs9 (Int.toNat vs11)))))) (NodeT.keys (atI (t := .node) vb2_4 (Int.toNat (kidAt (⟨vb2_0, vb2_1, vb2_2, vb2_3, vb2_4⟩ : NodeT) (atI (t := .str) vs9 (Int.toNat vs11)))))) (NodeT.kids (atI (t := .node) vb2_4 (Int.toNat (kidAt (⟨vb2_0, vb2_1, vb2_2, vb2_3, vb2_4⟩ : NodeT) (atI (t := .str) vs9 (Int.toNat vs11)))))))
              none))
          none)
        none)
      (x1 vs11 (decide (vs11 < vs10)) vb2_0 vb2_1 vb2_2 vb2_3 vb2_4))
theorem f10L0_b {R : Type} (n : Nat) (k' : Ex → St → Option R) (vs9 : List ByteArray) (vs10 : Int) (vs11 : Int) (vb2_0 : Int) (vb2_1 : Int) (vb2_2 : ByteArray) (vb2_3 : List ByteArray) (vb2_4 : List NodeT) : ev f10e f10k n (cAt [1,0,1,0,0] f10c) ⟨[(2, .c (.one (.pt 2 0))), (4, .c (.one (.pt 4 0))), (9, .c (.one (.ro .str vs9))), (10, .c (.one (.v (.int .i64 vs10)))), (11, .c (.one (.v (.int .i64 vs11))))], [(2, ⟨.node, [.v (.int .i64 vb2_0), .v (.int .i64 vb2_1), .v (.string vb2_2), .ro .str vb2_3, .ro .node vb2_4]⟩), (4, ⟨.node, [.v (.int .i64 (0 : Int)), .v (.int .i64 (0 : Int)), .v (.string ByteArray.empty), .nl, .nl]⟩)], []⟩ k' =
    (cond (decide (vs11 < vs10))
    (cond ((decide ((0 : Int) ≤ vs11)) && (decide (vs11 < (vs9.length : Int))))
      (cond ((fun (x : NodeT) (_ : ByteArray) => sm_node x) (⟨vb2_0, vb2_1, vb2_2, vb2_3, vb2_4⟩ : NodeT) (atI (t := .str) vs9 (Int.toNat vs11)))
        (cond (decide ((kidAt (⟨vb2_0, vb2_1, vb2_2, vb2_3, vb2_4⟩ : NodeT) (atI (t := .str) vs9 (Int.toNat vs11))) < (0 : Int)))
          (k' .ret ⟨[(4, .c (.one (.pt 4 0))), (5, .c (.one (.v (.bool false))))], [(4, ⟨.node, [.v (.int .i64 (0 : Int)), .v (.int .i64 (0 : Int)), .v (.string ByteArray.empty), .nl, .nl]⟩)], []⟩)
          (cond ((decide ((0 : Int) ≤ (kidAt (⟨vb2_0, vb2_1, vb2_2, vb2_3, vb2_4⟩ : NodeT) (atI (t := .str) vs9 (Int.toNat vs11))))) && (decide ((kidAt (⟨vb2_0, vb2_1, vb2_2, vb2_3, vb2_4⟩ : NodeT) (atI (t := .str) vs9 (Int.toNat vs11))) < (vb2_4.length : Int))))
            (k' .normal ⟨[(2, .c (.one (.pt 2 0))), (4, .c (.one (.pt 4 0))), (9, .c (.one (.ro .str vs9))), (10, .c (.one (.v (.int .i64 vs10)))), (11, .c (.one (.v (.int .i64 (IntKind.wrap .i64 (vs11 + (1 : Int)))))))], [(2, ⟨.node, [.v (.int .i64 (NodeT.kind (atI (t := .node) vb2_4 (Int.toNat (kidAt (⟨vb2_0, vb2_1, vb2_2, vb2_3, vb2_4⟩ : NodeT) (atI (t := .str) vs9 (Int.toNat vs11))))))), .v (.int .i64 (NodeT.n (atI (t := .node) vb2_4 (Int.toNat (kidAt (⟨vb2_0, vb2_1, vb2_2, vb2_3, vb2_4⟩ : NodeT) (atI (t := .str) vs9 (Int.toNat vs11))))))), .v (.string (NodeT.s (atI (t := .node) vb2_4 (Int.toNat (kidAt (⟨vb2_0, vb2_1, vb2_2, vb2_3, vb2_4⟩ : NodeT) (atI (t := .str) vs9 (Int.toNat vs11))))))), .ro .str (NodeT.keys (atI (t := .node) vb2_4 (Int.toNat (kidAt (⟨vb2_0, vb2_1, vb2_2, vb2_3, vb2_4⟩ : NodeT) (atI (t := .str) vs9 (Int.toNat vs11)))))), .ro .node (NodeT.kids (atI (t := .node) vb2_4 (Int.toNat (kidAt (⟨vb2_0, vb2_1, vb2_2, vb2_3, vb2_4⟩ : NodeT) (atI (t := .str) vs9 (Int.toNat vs11))))))]⟩), (4, ⟨.node, [.v (.int .i64 (0 : Int)), .v (.int .i64 (0 : Int)), .v (.string ByteArray.empty), .nl, .nl]⟩)], []⟩)
            none))
        none)
      none)
    (k' (.exit 0) ⟨[(2, .c (.one (.pt 2 0))), (4, .c (.one (.pt 4 0))), (9, .c (.one (.ro .str vs9))), (10, .c (.one (.v (.int .i64 vs10)))), (11, .c (.one (.v (.int .i64 vs11)))), (12, .c (.one (.v (.bool (decide (vs11 < vs10))))))], [(2, ⟨.node, [.v (.int .i64 vb2_0), .v (.int .i64 vb2_1), .v (.string vb2_2), .ro .str vb2_3, .ro .node vb2_4]⟩), (4, ⟨.node, [.v (.int .i64 (0 : Int)), .v (.int .i64 (0 : Int)), .v (.string ByteArray.empty), .nl, .nl]⟩)], []⟩)) := by kernel_rfl
theorem f10L0_eq {R : Type} (n : Nat) (k' : Ex → St → Option R) (vs9 : List ByteArray) (vs10 : Int) : ∀ (m : Nat) (vs11 : Int) (vb2_0 : Int) (vb2_1 : Int) (vb2_2 : ByteArray) (vb2_3 : List ByteArray) (vb2_4 : List NodeT), iter (fun st k => ev f10e f10k n (cAt [1,0,1,0,0] f10c) st k) m ⟨[(2, .c (.one (.pt 2 0))), (4, .c (.one (.pt 4 0))), (9, .c (.one (.ro .str vs9))), (10, .c (.one (.v (.int .i64 vs10)))), (11, .c (.one (.v (.int .i64 vs11))))], [(2, ⟨.node, [.v (.int .i64 vb2_0), .v (.int .i64 vb2_1), .v (.string vb2_2), .ro .str vb2_3, .ro .node vb2_4]⟩), (4, ⟨.node, [.v (.int .i64 (0 : Int)), .v (.int .i64 (0 : Int)), .v (.string ByteArray.empty), .nl, .nl]⟩)], []⟩ k' = f10L0 n (k' .ret ⟨[(4, .c (.one (.pt 4 0))), (5, .c (.one (.v (.bool false))))], [(4, ⟨.node, [.v (.int .i64 (0 : Int)), .v (.int .i64 (0 : Int)), .v (.string ByteArray.empty), .nl, .nl]⟩)], []⟩) (fun (xvs11 : Int) (xvs12 : Bool) (xvb2_0 : Int) (xvb2_1 : Int) (xvb2_2 : ByteArray) (xvb2_3 : List ByteArray) (xvb2_4 : List NodeT) => k' (.exit 0) ⟨[(2, .c (.one (.pt 2 0))), (4, .c (.one (.pt 4 0))), (9, .c (.one (.ro .str vs9))), (10, .c (.one (.v (.int .i64 vs10)))), (11, .c (.one (.v (.int .i64 xvs11)))), (12, .c (.one (.v (.bool xvs12))))], [(2, ⟨.node, [.v (.int .i64 xvb2_0), .v (.int .i64 xvb2_1), .v (.string xvb2_2), .ro .str xvb2_3, .ro .node xvb2_4]⟩), (4, ⟨.node, [.v (.int .i64 (0 : Int)), .v (.int .i64 (0 : Int)), .v (.string ByteArray.empty), .nl, .nl]⟩)], []⟩) vs9 vs10 m vs11 vb2_0 vb2_1 vb2_2 vb2_3 vb2_4 := by
  intro m; induction m with
  | zero => intros; rfl
  | succ m ih =>
    intro vs11 vb2_0 vb2_1 vb2_2 vb2_3 vb2_4
    simp only [iter]
    rw [f10L0_b]
    simp only [ih, f10L0]

noncomputable def f10K0 {R : Type} (n : Nat) (k' : Ex → St → Option R) : Ex → St → Option R := (blockK 0 (seqK f10e f10k n (cAt [1,1] f10c) k'))
theorem f10K0_x0 {R : Type} (n : Nat) (k : List Dt → Option R) (a0 : NodeT) (a1 : List ByteArray)  : f10K0 n (exitK f10e [.ro, .ro] [false, false] true [.cell 4 27, .tmp 5] [27, 4] [.d .node a0, .d (.sl .str) a1] k) .ret ⟨[(4, .c (.one (.pt 4 0))), (5, .c (.one (.v (.bool false))))], [(4, ⟨.node, [.v (.int .i64 (0 : Int)), .v (.int .i64 (0 : Int)), .v (.string ByteArray.empty), .nl, .nl]⟩)], []⟩ =
    (k [.d .node (⟨(0 : Int), (0 : Int), ByteArray.empty, ([] : List ByteArray), ([] : List NodeT)⟩ : NodeT), .d .bool false]) := by kernel_rfl
theorem f10K0_x1 {R : Type} (n : Nat) (k : List Dt → Option R) (a0 : NodeT) (a1 : List ByteArray) (vs9 : List ByteArray) (vs10 : Int) (xvs11 : Int) (xvs12 : Bool) (xvb2_0 : Int) (xvb2_1 : Int) (xvb2_2 : ByteArray) (xvb2_3 : List ByteArray) (xvb2_4 : List NodeT) : f10K0 n (exitK f10e [.ro, .ro] [false, false] true [.cell 4 27, .tmp 5] [27, 4] [.d .node a0, .d (.sl .str) a1] k) (.exit 0) ⟨[(2, .c (.one (.pt 2 0))), (4, .c (.one (.pt 4 0))), (9, .c (.one (.ro .str vs9))), (10, .c (.one (.v (.int .i64 vs10)))), (11, .c (.one (.v (.int .i64 xvs11)))), (12, .c (.one (.v (.bool xvs12))))], [(2, ⟨.node, [.v (.int .i64 xvb2_0), .v (.int .i64 xvb2_1), .v (.string xvb2_2), .ro .str xvb2_3, .ro .node xvb2_4]⟩), (4, ⟨.node, [.v (.int .i64 (0 : Int)), .v (.int .i64 (0 : Int)), .v (.string ByteArray.empty), .nl, .nl]⟩)], []⟩ =
    (cond (sm_node (⟨xvb2_0, xvb2_1, xvb2_2, xvb2_3, xvb2_4⟩ : NodeT))
    (k [.d .node (⟨xvb2_0, xvb2_1, xvb2_2, xvb2_3, xvb2_4⟩ : NodeT), .d .bool true])
    none) := by kernel_rfl

theorem f10_run {R : Type} (n : Nat) (k : List Dt → Option R) (a0 : NodeT) (a1 : List ByteArray) : evFn f10e f10k n f10c [.ro, .ro] [false, false] true [.cell 4 27, .tmp 5] [27, 4] [.d .node a0, .d (.sl .str) a1] k =
    (f10L0 n (k [.d .node (⟨(0 : Int), (0 : Int), ByteArray.empty, ([] : List ByteArray), ([] : List NodeT)⟩ : NodeT), .d .bool false]) (fun (xvs11 : Int) (xvs12 : Bool) (xvb2_0 : Int) (xvb2_1 : Int) (xvb2_2 : ByteArray) (xvb2_3 : List ByteArray) (xvb2_4 : List NodeT) =>
    (cond (sm_node (⟨xvb2_0, xvb2_1, xvb2_2, xvb2_3, xvb2_4⟩ : NodeT))
      (k [.d .node (⟨xvb2_0, xvb2_1, xvb2_2, xvb2_3, xvb2_4⟩ : NodeT), .d .bool true])
      none)) a1 (a1.length : Int) n (0 : Int) (NodeT.kind a0) (NodeT.n a0) (NodeT.s a0) (NodeT.keys a0) (NodeT.kids a0)) := by
  refine Eq.trans (b := (iter (fun st k => ev f10e f10k n (cAt [1,0,1,0,0] f10c) st k) n ⟨[(2, .c (.one (.pt 2 0))), (4, .c (.one (.pt 4 0))), (9, .c (.one (.ro .str a1))), (10, .c (.one (.v (.int .i64 (a1.length : Int))))), (11, .c (.one (.v (.int .i64 (0 : Int)))))], [(2, ⟨.node, [.v (.int .i64 (NodeT.kind a0)), .v (.int .i64 (NodeT.n a0)), .v (.string (NodeT.s a0)), .ro .str (NodeT.keys a0), .ro .node (NodeT.kids a0)]⟩), (4, ⟨.node, [.v (.int .i64 (0 : Int)), .v (.int .i64 (0 : Int)), .v (.string ByteArray.empty), .nl, .nl]⟩)], []⟩ (f10K0 n (exitK f10e [.ro, .ro] [false, false] true [.cell 4 27, .tmp 5] [27, 4] [.d .node a0, .d (.sl .str) a1] k)))) (by kernel_rfl) ?_
  simp only [f10L0_eq, f10K0_x0, f10K0_x1]
theorem f10_spec (a0 : NodeT) (a1 : List ByteArray) (hg : (sm_node a0 && smL smStr a1) = true) : ∃ keep rounds, ∀ {R : Type} (k : List Dt → Option R), evFn f10e keep rounds f10c [.ro, .ro] [false, false] true [.cell 4 27, .tmp 5] [27, 4] [.d .node a0, .d (.sl .str) a1] k = k [.d .node ((atPtr a0 a1).1), .d .bool ((atPtr a0 a1).2)] := by
  simp only [Bool.and_eq_true] at hg
  obtain ⟨hg, hpa⟩ := hg
  have nl := smL_len hpa
  refine ⟨f10k, a1.length + 1, fun {R} k => ?_⟩
  rw [f10_run]
  show _ = k [.d .node (atPtr a0 a1).1, .d .bool (atPtr a0 a1).2]
  unfold atPtr
  refine Eq.trans (loop_fold (xs := a1) (F := fun m j (t : NodeT) => f10L0 (a1.length + 1) _ _ a1 (a1.length : Int) m (j : Int) t.kind t.n t.s t.keys t.kids) (step := atStep) (out := fun _ => k [.d .node noNode, .d .bool false]) (good := fun t => k [.d .node t, .d .bool true]) (fun t => sm_node t = true)
    (fun x t t' _ ht e => sm_kid ht (atStep_in e)) (fun m j t x hx hst => ?_) (fun m t hst => by simp only [f10L0, idxE, cond_false, eta_node, eN_eq, hst, cond_true]) a1.length 0 (a1.length + 1) a0 (by omega) (by omega) hg) ?_
  · obtain ⟨h1, h0, hw, ht⟩ := idx (lt_of_get hx) (by omega)
    unfold atStep
    by_cases hk : kidAt t x < 0
    · simp only [f10L0, h1, h0, hw, ht, atI_of (t := .str) hx, Bool.and_self, cond_true, eta_node, eN_eq, hst, decide_eq_true hk]
      rfl
    · have hlt := kidAt_lt hk
      simp only [f10L0, h1, h0, hw, ht, atI_of (t := .str) hx, Bool.and_self, cond_true, cond_false, eta_node, eN_eq, hst, decide_eq_false hk, decide_eq_true (show (0 : Int) ≤ kidAt t x by omega), decide_eq_true hlt, Bool.and_self]
      rfl
  · rw [List.drop_zero]
    cases foldE atStep a1 a0 <;> rfl

noncomputable def q10 : List Dt → Option (Bool × List Dt)
  | [.d .node a0, .d (.sl .str) a1] => some (((fun (x : NodeT) (y : List ByteArray) => sm_node x && smL smStr y) a0 a1), [.d .node ((atPtr a0 a1).1), .d .bool ((atPtr a0 a1).2)])
  | _ => none
noncomputable def s10 : Gm.Spec := Gm.Spec.of [.ro, .ro] [false, false] true q10
theorem good10 : Gm.Good Try.prog (10, s10) := by
  have hl : ∀ x ∈ [(38, s38), (39, s39)], Gm.Good Try.prog x := List.forall_mem_cons.2 ⟨good38, List.forall_mem_cons.2 ⟨good39, List.forall_mem_nil _⟩⟩
  refine ⟨⟨spec_ok (tab_ok.env hl) (tab.natl hl) Try.func10 (by kernel_rfl : Try.f10.body = some f10c) [27, 4] (by kernel_rfl) ?_, _, Try.func10, by kernel_rfl, of_decide_eq_true (by kernel_rfl)⟩, Gm.Spec.of_natl _ _ _ _⟩
  intro ds outs h
  unfold q10 at h
  split at h
  · simp only [Option.some.injEq, Prod.mk.injEq] at h; obtain ⟨hg, h⟩ := h; cases h; exact f10_spec _ _ hg
  · cases h
end Go.Proofs.Ytalnkjjnohgjkaa

/- x -/
namespace Go.Proofs.Ytalnkjjnohgjkaa
open Go Go.Gm
open Go.RowKit in
set_option maxHeartbeats 4000000 in
set_option maxRecDepth 1000000 in
theorem delE114 : DelE Try.prog 114 1 := by
  refine ⟨fun a n cap i w hi hn => ?_, fun b o n cap i j cs el w hij hj hn hb hs h1 => ?_⟩
  · have hic : i ≤ cap := by omega
    go_enter Try.func114, Try.ntmps114
    go_wp2
    all_goals (go_ret; exact ⟨rfl, rfl⟩)
  · obtain ⟨eT, ii, news, W1, W2, hu, hi, hsz, hlen, hone, hsrc, hfit, hW1, hclr, hend⟩ := del_pack (E := tab.env []) (tab_ok.env (fun _ h => by simp at h)) (T := 24) (e := .str) rfl (sz := 1) rfl hij hj hn hb hs h1
    obtain ⟨A, hA, hsrc2⟩ : ∃ A : Addr, (if cap = j then (some ⟨b, o, none⟩ : Option Addr) else some ⟨b, o + j, none⟩) = some A ∧ Hid (∀ t u, news[t]? = some u → w.drew.cell? (A.add t) = some u) := by
      by_cases h : cap = j
      · exact ⟨⟨b, o, none⟩, by simp [h], hsrc _ (.inr (by omega))⟩
      · exact ⟨⟨b, o + j, none⟩, by simp [h], hsrc _ (.inl (by simp))⟩
    have hcl : ∀ ty, (Builtin.clear_ #[24] ty #[.slice (some ⟨b, o + (i + (n - j)), none⟩) (n - (i + (n - j))) (cap - (i + (n - j)))]).run Try.prog W1 = .ok (.tuple #[]) W2 := fun ty => by have := hclr ty; simpa only [Nat.mul_one] using this
    have s5 : Hid (Try.prog.underlying 24 = some (.slice eT)) := hu
    have s6 : Hid (Try.prog.info? eT = some ii) := hi
    have s1 : Hid (news.length = (n - j) * 1) := hlen
    have s2 : Hid (∀ u ∈ news, u.oneCell' = true) := hone
    have s3 : Hid (o + i * 1 + news.length ≤ cs.size) := hfit
    have s4 : Hid (w.heap[b]? = some (.cells cs el (0, 0))) := hb
    have hW : Hid (W1 = w.drew.setRow b (putAt cs (o + i * 1) news.toArray)) := hW1
    have hE : Hid (DelEnd w W2 b o n i j 1 cs el) := hend
    have mixed : Try.prog.follows .mixedOrders = true := tab_ok.ord
    have hic : i ≤ cap := by omega
    have hjc : j ≤ cap := by omega
    have hne : i ≠ j := by omega
    clear hu hi hlen hone hsrc hfit hW1 hclr hend hb h1 hs
    go_enter Try.func114, Try.ntmps114
    go_wp2_with fail
    go_region_law_o (refine step_append_at rfl (.tmp 22) (.tmp 25) 24 rfl eT ii 1 s5 s6 hsz b o i cap (by simp [Act.eval, Act.put]) A (n - j) (cap - j) news (by simp [Act.eval, Act.put]) s1 hsrc2 s2 (by omega) cs el s4 s3 ?_; rw [← show W1 = _ from hW])
    go_wp2
    go_ret
    exact ⟨by rw [show n - (j - i) = i + (n - j) by omega]; rfl, hE⟩
noncomputable def q114 : List Dt → Option (Bool × List Dt)
  | [.d (.sl .str) a0, .d (.i .i64) a1, .d (.i .i64) a2] => some (gDel a0 a1 a2, [.d (.sl .str) (delL a0 a1 a2)])
  | _ => none
noncomputable def s114 : Gm.Spec := Gm.Spec.of [.mov, .ro, .ro] [false] true q114
theorem good114 : Gm.Good Try.prog (114, s114) := by
  refine ⟨⟨spec_del (t := .str) (sz := 1) rfl delE114 fun ds outs h => ?_, _, Try.func114, by kernel_rfl, of_decide_eq_true (by kernel_rfl)⟩, Gm.Spec.of_natl _ _ _ _⟩
  unfold q114 at h
  split at h
  · rename_i a0 a1 a2
    simp only [Option.some.injEq, Prod.mk.injEq] at h
    obtain ⟨hg, rfl⟩ := h
    simp only [gDel, Bool.and_eq_true, decide_eq_true_eq] at hg
    exact ⟨a0, a1.toNat, a2.toNat, by rw [Int.toNat_of_nonneg (by omega), Int.toNat_of_nonneg (by omega)], by omega, by omega, rfl⟩
  · cases h
open Go.RowKit in
set_option maxHeartbeats 4000000 in
set_option maxRecDepth 1000000 in
theorem delE103 : DelE Try.prog 103 5 := by
  refine ⟨fun a n cap i w hi hn => ?_, fun b o n cap i j cs el w hij hj hn hb hs h1 => ?_⟩
  · have hic : i ≤ cap := by omega
    go_enter Try.func103, Try.ntmps103
    go_wp2
    all_goals (go_ret; exact ⟨rfl, rfl⟩)
  · obtain ⟨eT, ii, news, W1, W2, hu, hi, hsz, hlen, hone, hsrc, hfit, hW1, hclr, hend⟩ := del_pack (E := tab.env []) (tab_ok.env (fun _ h => by simp at h)) (T := 25) (e := .node) rfl (sz := 5) rfl hij hj hn hb hs h1
    obtain ⟨A, hA, hsrc2⟩ : ∃ A : Addr, (if cap = j then (some ⟨b, o, none⟩ : Option Addr) else some ⟨b, o + j * 5, none⟩) = some A ∧ Hid (∀ t u, news[t]? = some u → w.drew.cell? (A.add t) = some u) := by
      by_cases h : cap = j
      · exact ⟨⟨b, o, none⟩, by simp [h], hsrc _ (.inr (by omega))⟩
      · exact ⟨⟨b, o + j * 5, none⟩, by simp [h], hsrc _ (.inl (by simp))⟩
    have hcl : ∀ ty, (Builtin.clear_ #[25] ty #[.slice (some ⟨b, o + (i + (n - j)) * 5, none⟩) (n - (i + (n - j))) (cap - (i + (n - j)))]).run Try.prog W1 = .ok (.tuple #[]) W2 := fun ty => hclr ty
    have s5 : Hid (Try.prog.underlying 25 = some (.slice eT)) := hu
    have s6 : Hid (Try.prog.info? eT = some ii) := hi
    have s1 : Hid (news.length = (n - j) * 5) := hlen
    have s2 : Hid (∀ u ∈ news, u.oneCell' = true) := hone
    have s3 : Hid (o + i * 5 + news.length ≤ cs.size) := hfit
    have s4 : Hid (w.heap[b]? = some (.cells cs el (0, 0))) := hb
    have hW : Hid (W1 = w.drew.setRow b (putAt cs (o + i * 5) news.toArray)) := hW1
    have hE : Hid (DelEnd w W2 b o n i j 5 cs el) := hend
    have mixed : Try.prog.follows .mixedOrders = true := tab_ok.ord
    have hic : i ≤ cap := by omega
    have hjc : j ≤ cap := by omega
    have hne : i ≠ j := by omega
    clear hu hi hlen hone hsrc hfit hW1 hclr hend hb h1 hs
    go_enter Try.func103, Try.ntmps103
    go_wp2_with fail
    go_region_law_o (refine step_append_at rfl (.tmp 22) (.tmp 25) 25 rfl eT ii 5 s5 s6 hsz b o i cap (by simp [Act.eval, Act.put]) A (n - j) (cap - j) news (by simp [Act.eval, Act.put]) s1 hsrc2 s2 (by omega) cs el s4 s3 ?_; rw [← show W1 = _ from hW])
    go_wp2
    go_ret
    exact ⟨by rw [show n - (j - i) = i + (n - j) by omega]; rfl, hE⟩
noncomputable def q103 : List Dt → Option (Bool × List Dt)
  | [.d (.sl .node) a0, .d (.i .i64) a1, .d (.i .i64) a2] => some (gDel a0 a1 a2, [.d (.sl .node) (delL a0 a1 a2)])
  | _ => none
noncomputable def s103 : Gm.Spec := Gm.Spec.of [.mov, .ro, .ro] [false] true q103
theorem good103 : Gm.Good Try.prog (103, s103) := by
  refine ⟨⟨spec_del (t := .node) (sz := 5) rfl delE103 fun ds outs h => ?_, _, Try.func103, by kernel_rfl, of_decide_eq_true (by kernel_rfl)⟩, Gm.Spec.of_natl _ _ _ _⟩
  unfold q103 at h
  split at h
  · rename_i a0 a1 a2
    simp only [Option.some.injEq, Prod.mk.injEq] at h
    obtain ⟨hg, rfl⟩ := h
    simp only [gDel, Bool.and_eq_true, decide_eq_true_eq] at hg
    exact ⟨a0, a1.toNat, a2.toNat, by rw [Int.toNat_of_nonneg (by omega), Int.toNat_of_nonneg (by omega)], by omega, by omega, rfl⟩
  · cases h
end Go.Proofs.Ytalnkjjnohgjkaa

/- x -/
namespace Go.Proofs.Ytalnkjjnohgjkaa
open Go Go.Gm
/-! ### loop.example/g00465/impl.Unset -/
noncomputable def f102c : Code := (Try.f102.body).getD .skip
def f102k : Nat → Kp := kat [⟨[1, 2, 4], [], [], []⟩, ⟨[1, 2, 4], [], [], []⟩, ⟨[2, 4, 5], [], [], []⟩, ⟨[2, 4, 5, 18], [], [], []⟩, ⟨[4], [], [], []⟩, ⟨[2, 4, 5], [], [], []⟩, ⟨[2, 4], [], [], []⟩, ⟨[4], [], [], []⟩]
noncomputable def f102e : Env := tab.env [(39, s39), (82, s82), (98, s98), (103, s103), (114, s114)]
theorem f102_run {R : Type} (n : Nat) (k : List Dt → Option R) (a0 : NodeT) (a1 : ByteArray) : evFn f102e f102k n f102c [.ro, .ro] [false] true [.cell 4 27] [27] [.d .node a0, .d .str a1] k =
    (cond (sm_node (eN a0))
    (cond ((fun (x : List ByteArray) (_ : ByteArray) => gLenW x) (NodeT.keys a0) a1)
      (cond (!(isMapN (eN a0)))
        (k [.d .node (eN a0)])
        (cond (decide ((idxS (NodeT.keys a0) a1) < (0 : Int)))
          (k [.d .node (eN a0)])
          (cond (gDel (NodeT.keys a0) (idxS (NodeT.keys a0) a1) (IntKind.wrap .i64 ((idxS (NodeT.keys a0) a1) + (1 : Int))))
            (cond (gDel (NodeT.kids a0) (idxS (NodeT.keys a0) a1) (IntKind.wrap .i64 ((idxS (NodeT.keys a0) a1) + (1 : Int))))
              (k [.d .node (⟨(NodeT.kind a0), (NodeT.n a0), (NodeT.s a0), (delL (NodeT.keys a0) (idxS (NodeT.keys a0) a1) (IntKind.wrap .i64 ((idxS (NodeT.keys a0) a1) + (1 : Int)))), (delL (NodeT.kids a0) (idxS (NodeT.keys a0) a1) (IntKind.wrap .i64 ((idxS (NodeT.keys a0) a1) + (1 : Int))))⟩ : NodeT)])
              none)
            none)))
      none)
    none) := by kernel_rfl
theorem f102_spec (a0 : NodeT) (a1 : ByteArray) (hg : sm_node a0 = true) : ∃ keep rounds, ∀ {R : Type} (k : List Dt → Option R), evFn f102e keep rounds f102c [.ro, .ro] [false] true [.cell 4 27] [27] [.d .node a0, .d .str a1] k = k [.d .node (unset a0 a1)] := by
  have hg0 := hg
  rw [sm_node_def] at hg
  simp only [Bool.and_eq_true] at hg
  obtain ⟨_, _, _, hke, hki⟩ := hg
  have nke := smL_len hke
  have nki := smL_len hki
  refine ⟨f102k, 0, fun k => ?_⟩
  rw [f102_run]
  simp only [eta_node, eN_eq, hg0, gLenW_sm hke, cond_true]
  cases hm : isMapN a0
  · unfold unset; rw [hm]; rfl
  simp only [idxS_map hm a1, Bool.not_true, cond_false]
  by_cases hk : keyAt a0 a1 < 0
  · rw [unset_neg hk, decide_eq_true hk]; rfl
  · have hb := keyAt_bd a0 a1 hk
    have e0 : unset a0 a1 = cutKey a0 (keyAt a0 a1) := by unfold unset; rw [hm, decide_eq_false hk]; rfl
    obtain ⟨i, e, h1, h2⟩ := hb
    obtain ⟨_, _, hw, _⟩ := idx h1 (by omega)
    rw [e0, decide_eq_false hk, e, hw, gDel_one h1, gDel_one h2]
    rfl

noncomputable def q102 : List Dt → Option (Bool × List Dt)
  | [.d .node a0, .d .str a1] => some (((fun (x : NodeT) (_ : ByteArray) => sm_node x) a0 a1), [.d .node (unset a0 a1)])
  | _ => none
noncomputable def s102 : Gm.Spec := Gm.Spec.of [.ro, .ro] [false] true q102
theorem good102 : Gm.Good Try.prog (102, s102) := by
  have hl : ∀ x ∈ [(39, s39), (82, s82), (98, s98), (103, s103), (114, s114)], Gm.Good Try.prog x := List.forall_mem_cons.2 ⟨good39, List.forall_mem_cons.2 ⟨good82, List.forall_mem_cons.2 ⟨good98, List.forall_mem_cons.2 ⟨good103, List.forall_mem_cons.2 ⟨good114, List.forall_mem_nil _⟩⟩⟩⟩⟩
  refine ⟨⟨spec_ok (tab_ok.env hl) (tab.natl hl) Try.func102 (by kernel_rfl : Try.f102.body = some f102c) [27] (by kernel_rfl) ?_, _, Try.func102, by kernel_rfl, of_decide_eq_true (by kernel_rfl)⟩, Gm.Spec.of_natl _ _ _ _⟩
  intro ds outs h
  unfold q102 at h
  split at h
  · simp only [Option.some.injEq, Prod.mk.injEq] at h; obtain ⟨hg, h⟩ := h; cases h; exact f102_spec _ _ hg
  · cases h
/-! ### loop.example/g00465/spec.Unset -/
noncomputable def f89c : Code := (Try.f89.body).getD .skip
def f89k : Nat → Kp := kat [⟨[1, 2, 4], [], [], []⟩, ⟨[1, 2, 4, 5], [], [], []⟩, ⟨[2, 4, 5, 6], [], [], []⟩, ⟨[4, 5, 6, 22], [], [], []⟩, ⟨[4], [], [], []⟩, ⟨[4, 5, 6], [], [513], []⟩, ⟨[4, 5], [], [], []⟩, ⟨[4], [], [], []⟩]
noncomputable def f89e : Env := tab.env [(41, s41), (85, s85)]
theorem f89_run {R : Type} (n : Nat) (k : List Dt → Option R) (a0 : NodeT) (a1 : ByteArray) : evFn f89e f89k n f89c [.ro, .ro] [false] false [.cell 4 27] [27] [.d .node a0, .d .str a1] k =
    (cond (sm_node (eN a0))
    (cond ((fun (x : NodeT) (_ : ByteArray) => sm_node x) (eN a0) a1)
      (cond (decide ((keyAt (eN a0) a1) < (0 : Int)))
        (k [.d .node (eN a0)])
        (cond (((NodeT.keys a0).length : Int) != ((NodeT.kids a0).length : Int))
          (k [.d .node (eN a0)])
          (cond ((decide ((0 : Int) ≤ (keyAt (eN a0) a1))) && (decide ((keyAt (eN a0) a1) ≤ ((NodeT.keys a0).length : Int))))
            (cond (Nat.ble (0 + (((NodeT.keys a0).take (Int.toNat (keyAt (eN a0) a1))).drop 0).length) LIM)
              (cond ((decide ((0 : Int) ≤ (IntKind.wrap .i64 ((keyAt (eN a0) a1) + (1 : Int))))) && ((decide ((IntKind.wrap .i64 ((keyAt (eN a0) a1) + (1 : Int))) ≤ ((NodeT.keys a0).length : Int))) && (decide (((NodeT.keys a0).length : Int) ≤ ((NodeT.keys a0).length : Int)))))
                (cond (Nat.ble ((([] : List ByteArray) ++ (((NodeT.keys a0).take (Int.toNat (keyAt (eN a0) a1))).drop 0)).length + (((NodeT.keys a0).take (Int.toNat ((NodeT.keys a0).length : Int))).drop (Int.toNat (IntKind.wrap .i64 ((keyAt (eN a0) a1) + (1 : Int))))).length) LIM)
                  (cond ((decide ((0 : Int) ≤ (keyAt (eN a0) a1))) && (decide ((keyAt (eN a0) a1) ≤ ((NodeT.kids a0).length : Int))))
                    (cond (Nat.ble (0 + (((NodeT.kids a0).take (Int.toNat (keyAt (eN a0) a1))).drop 0).length) LIM)
                      (cond ((decide ((0 : Int) ≤ (IntKind.wrap .i64 ((keyAt (eN a0) a1) + (1 : Int))))) && ((decide ((IntKind.wrap .i64 ((keyAt (eN a0) a1) + (1 : Int))) ≤ ((NodeT.kids a0).length : Int))) && (decide (((NodeT.kids a0).length : Int) ≤ ((NodeT.kids a0).length : Int)))))
                        (cond (Nat.ble ((([] : List NodeT) ++ (((NodeT.kids a0).take (Int.toNat (keyAt (eN a0) a1))).drop 0)).length + (((NodeT.kids a0).take (Int.toNat ((NodeT.kids a0).length : Int))).drop (Int.toNat (IntKind.wrap .i64 ((keyAt (eN a0) a1) + (1 : Int))))).length) LIM)
                          (k [.d .node (⟨(NodeT.kind a0), (NodeT.n a0), (NodeT.s a0), ((([] : List ByteArray) ++ (((NodeT.keys a0).take (Int.toNat (keyAt (eN a0) a1))).drop 0)) ++ (((NodeT.keys a0).take (Int.toNat ((NodeT.keys a0).length : Int))).drop (Int.toNat (IntKind.wrap .i64 ((keyAt (eN a0) a1) + (1 : Int)))))), ((([] : List NodeT) ++ (((NodeT.kids a0).take (Int.toNat (keyAt (eN a0) a1))).drop 0)) ++ (((NodeT.kids a0).take (Int.toNat ((NodeT.kids a0).length : Int))).drop (Int.toNat (IntKind.wrap .i64 ((keyAt (eN a0) a1) + (1 : Int))))))⟩ : NodeT)])
                          none)
                        none)
                      none)
                    none)
                  none)
                none)
              none)
            none)))
      none)
    none) := by kernel_rfl
theorem f89_spec (a0 : NodeT) (a1 : ByteArray) (hg : sm_node a0 = true) : ∃ keep rounds, ∀ {R : Type} (k : List Dt → Option R), evFn f89e keep rounds f89c [.ro, .ro] [false] false [.cell 4 27] [27] [.d .node a0, .d .str a1] k = k [.d .node (unset a0 a1)] := by
  have hg0 := hg
  rw [sm_node_def] at hg
  simp only [Bool.and_eq_true] at hg
  obtain ⟨_, _, _, hke, hki⟩ := hg
  have nke := smL_len hke
  have nki := smL_len hki
  refine ⟨f89k, 0, fun k => ?_⟩
  rw [f89_run]
  simp only [eta_node, eN_eq, hg0, cond_true]
  by_cases hk : keyAt a0 a1 < 0
  · rw [unset_neg hk, decide_eq_true hk]; rfl
  cases hl : ((a0.keys.length : Int) != (a0.kids.length : Int))
  rotate_left
  · rw [unset_ne hl, decide_eq_false hk]; rfl
  rw [unset_eq hk hl, decide_eq_false hk]
  obtain ⟨i, e, h1, h2⟩ := keyAt_bd a0 a1 hk
  obtain ⟨_, _, hw, _⟩ := idx h1 (by omega)
  have d0 : decide ((0 : Int) ≤ (i : Int)) = true := decide_eq_true (by omega)
  have d1 : decide ((i : Int) ≤ (a0.keys.length : Int)) = true := decide_eq_true (by omega)
  have d2 : decide ((i : Int) ≤ (a0.kids.length : Int)) = true := decide_eq_true (by omega)
  have d3 : decide ((0 : Int) ≤ ((i + 1 : Nat) : Int)) = true := decide_eq_true (by omega)
  have d4 : decide (((i + 1 : Nat) : Int) ≤ (a0.keys.length : Int)) = true := decide_eq_true (by omega)
  have d5 : decide (((i + 1 : Nat) : Int) ≤ (a0.kids.length : Int)) = true := decide_eq_true (by omega)
  have d6 : decide ((a0.keys.length : Int) ≤ (a0.keys.length : Int)) = true := decide_eq_true (Int.le_refl _)
  have d7 : decide ((a0.kids.length : Int) ≤ (a0.kids.length : Int)) = true := decide_eq_true (Int.le_refl _)
  simp only [e, hw, d0, d1, d2, d3, d4, d5, d6, d7, Int.toNat_natCast, List.drop_zero, List.take_length, List.nil_append, limT nke, limT nki, limTD nke, limTD nki, Bool.and_self, cond_true, cond_false]
  rfl

noncomputable def q89 : List Dt → Option (Bool × List Dt)
  | [.d .node a0, .d .str a1] => some (((fun (x : NodeT) (_ : ByteArray) => sm_node x) a0 a1), [.d .node (unset a0 a1)])
  | _ => none
noncomputable def s89 : Gm.Spec := Gm.Spec.of [.ro, .ro] [false] false q89
theorem good89 : Gm.Good Try.prog (89, s89) := by
  have hl : ∀ x ∈ [(41, s41), (85, s85)], Gm.Good Try.prog x := List.forall_mem_cons.2 ⟨good41, List.forall_mem_cons.2 ⟨good85, List.forall_mem_nil _⟩⟩
  refine ⟨⟨spec_ok (tab_ok.env hl) (tab.natl hl) Try.func89 (by kernel_rfl : Try.f89.body = some f89c) [27] (by kernel_rfl) ?_, _, Try.func89, by kernel_rfl, of_decide_eq_true (by kernel_rfl)⟩, Gm.Spec.of_natl _ _ _ _⟩
  intro ds outs h
  unfold q89 at h
  split at h
  · simp only [Option.some.injEq, Prod.mk.injEq] at h; obtain ⟨hg, h⟩ := h; cases h; exact f89_spec _ _ hg
  · cases h
/-! ### loop.example/g00465/impl.CutPtr$1 -/
noncomputable def f101c : Code := (Try.f101.body).getD .skip
def f101k : Nat → Kp := kat [⟨[1, 2, 4], [], [], []⟩, ⟨[1, 2, 4, 6], [], [], []⟩, ⟨[1, 2, 4, 6, 11], [], [], []⟩, ⟨[4, 5], [], [], []⟩, ⟨[1, 2, 4, 6, 15], [], [], []⟩, ⟨[4, 5], [], [], []⟩, ⟨[2, 4, 6], [], [], []⟩, ⟨[2, 4], [], [], []⟩, ⟨[4, 5], [], [], []⟩]
noncomputable def f101e : Env := tab.env [(38, s38), (39, s39), (102, s102), (103, s103)]
theorem f101_run {R : Type} (n : Nat) (k : List Dt → Option R) (a0 : NodeT) (a1 : ByteArray) : evFn f101e f101k n f101c [.ro, .ro] [false, false] true [.cell 4 27, .tmp 5] [27, 4] [.d .node a0, .d .str a1] k =
    (cond ((fun (x : NodeT) (_ : ByteArray) => sm_node x) (eN a0) a1)
    (cond (decide ((kidAt (eN a0) a1) < (0 : Int)))
      (k [.d .node (⟨(0 : Int), (0 : Int), ByteArray.empty, ([] : List ByteArray), ([] : List NodeT)⟩ : NodeT), .d .bool false])
      (cond ((NodeT.kind a0) == (5 : Int))
        (cond ((fun (x : NodeT) (_ : ByteArray) => sm_node x) (eN a0) a1)
          (k [.d .node (eN (unset (eN a0) a1)), .d .bool true])
          none)
        (cond (sm_node (eN a0))
          (cond (gDel (NodeT.kids a0) (kidAt (eN a0) a1) (IntKind.wrap .i64 ((kidAt (eN a0) a1) + (1 : Int))))
            (k [.d .node (⟨(NodeT.kind a0), (NodeT.n a0), (NodeT.s a0), (NodeT.keys a0), (delL (NodeT.kids a0) (kidAt (eN a0) a1) (IntKind.wrap .i64 ((kidAt (eN a0) a1) + (1 : Int))))⟩ : NodeT), .d .bool true])
            none)
          none)))
    none) := by kernel_rfl
theorem f101_spec (a0 : NodeT) (a1 : ByteArray) (hg : sm_node a0 = true) : ∃ keep rounds, ∀ {R : Type} (k : List Dt → Option R), evFn f101e keep rounds f101c [.ro, .ro] [false, false] true [.cell 4 27, .tmp 5] [27, 4] [.d .node a0, .d .str a1] k = k [.d .node ((cutLast a0 a1).1), .d .bool ((cutLast a0 a1).2)] := by
  have hg0 := hg
  rw [sm_node_def] at hg
  simp only [Bool.and_eq_true] at hg
  obtain ⟨_, _, _, hke, hki⟩ := hg
  have nke := smL_len hke
  have nki := smL_len hki
  refine ⟨f101k, 0, fun k => ?_⟩
  rw [f101_run]
  simp only [eta_node, eN_eq, hg0, cond_true]
  show _ = k [.d .node (cutLast a0 a1).1, .d .bool (cutLast a0 a1).2]
  unfold cutLast
  by_cases hk : kidAt a0 a1 < 0
  · rw [decide_eq_true hk]; rfl
  obtain ⟨i, e, h1⟩ := kidAt_bd hk
  obtain ⟨_, _, hw, _⟩ := idx h1 (by omega)
  rw [decide_eq_false hk, e, hw, gDel_one h1]
  cases a0.kind == (5 : Int) <;> rfl

noncomputable def q101 : List Dt → Option (Bool × List Dt)
  | [.d .node a0, .d .str a1] => some (((fun (x : NodeT) (_ : ByteArray) => sm_node x) a0 a1), [.d .node ((cutLast a0 a1).1), .d .bool ((cutLast a0 a1).2)])
  | _ => none
noncomputable def s101 : Gm.Spec := Gm.Spec.of [.ro, .ro] [false, false] true q101
theorem good101 : Gm.Good Try.prog (101, s101) := by
  have hl : ∀ x ∈ [(38, s38), (39, s39), (102, s102), (103, s103)], Gm.Good Try.prog x := List.forall_mem_cons.2 ⟨good38, List.forall_mem_cons.2 ⟨good39, List.forall_mem_cons.2 ⟨good102, List.forall_mem_cons.2 ⟨good103, List.forall_mem_nil _⟩⟩⟩⟩
  refine ⟨⟨spec_ok (tab_ok.env hl) (tab.natl hl) Try.func101 (by kernel_rfl : Try.f101.body = some f101c) [27, 4] (by kernel_rfl) ?_, _, Try.func101, by kernel_rfl, of_decide_eq_true (by kernel_rfl)⟩, Gm.Spec.of_natl _ _ _ _⟩
  intro ds outs h
  unfold q101 at h
  split at h
  · simp only [Option.some.injEq, Prod.mk.injEq] at h; obtain ⟨hg, h⟩ := h; cases h; exact f101_spec _ _ hg
  · cases h
end Go.Proofs.Ytalnkjjnohgjkaa

/- x -/
namespace Go.Proofs.Ytalnkjjnohgjkaa
open Go Go.Gm
open Go.RowKit in
set_option maxHeartbeats 4000000 in
set_option maxRecDepth 1000000 in
theorem insE111 : InsE Try.prog 111 1 := by
  intro base n cap i vb vo m vc olds news w h
  have hE : (tab.env []).Ok Try.prog := tab_ok.env (fun _ h => by simp at h)
  have hm := h.hm
  have hin := h.hi
  have hnc := h.hn
  have hlim : n + m ≤ 4294967296 := h.lim
  have hz1 : ¬ ((m : Int) = 0) := by omega
  have mixed : Try.prog.follows .mixedOrders = true := tab_ok.ord
  have hw1 : IntKind.i64.wrap ((i : Int) + (m : Int)) = (i : Int) + (m : Int) := by rw [IntKind.wrap_i64]; omega
  have hb1 : (0 : Int) ≤ (i : Int) + (m : Int) := by omega
  have htn : ((i : Int) + (m : Int)).toNat = i + m := by omega
  by_cases hi : i = n
  · subst hi
    obtain ⟨b', o', cap', W, hrun, hend⟩ := ins_end hE (T := 24) (e := .str) rfl (sz := 1) rfl h vc
    have hend : Hid (InsEnd w W base b' o' (i + m) cap' 1 (olds.take (i * 1) ++ news ++ olds.drop (i * 1))) := hend
    cases base with
    | none =>
      obtain ⟨rfl, rfl⟩ := h.nil rfl
      clear h
      go_enter Try.func111, Try.ntmps111
      go_wp2_with (at_builtin; refine Lib.wpList_append_run _ rfl _ _ _ _ rfl _ _ rfl rfl _ _ (hrun _) ?_)
      go_ret
      exact ⟨b', o', cap', by rw [Nat.zero_add]; rfl, hend⟩
    | some a =>
      obtain ⟨b, o, cs, el, rfl, _⟩ := h.is _ rfl
      clear h
      go_enter Try.func111, Try.ntmps111
      go_wp2_with (at_builtin; refine Lib.wpList_append_run _ rfl _ _ _ _ rfl _ _ rfl rfl _ _ (hrun _) ?_)
      all_goals (go_ret; exact ⟨_, _, _, rfl, hend⟩)
  · have hlt : i < n := by omega
    have hz2 : ¬ ((i : Int) = (n : Int)) := by omega
    cases base with
    | none => have := (h.nil rfl).1; omega
    | some a =>
      obtain ⟨b, o, cs, el, rfl, _⟩ := h.is _ rfl
      have hb4 : ¬ (cap = i) := by omega
      by_cases hroom : n + m ≤ cap
      · obtain ⟨W1, cs1, hov, hcp1, hcp2, hend, e1, e2, e3⟩ := ins_room hE (T := 24) (e := .str) rfl (sz := 1) rfl h hlt hroom
        have hovc : ∀ lb cb, (callFunc 126 #[.slice (some ⟨vb, vo, none⟩) m vc, .slice (some ⟨b, o + (i + m), none⟩) lb cb]).run Try.prog w = .ok (.value (.bool false)) w := fun lb cb => by
          rw [run_callFunc_extern Try.func126 (by kernel_rfl) (by kernel_rfl) (by kernel_rfl) (e := Extern.SlicesOverlaps.overlaps #[24, 24] #[4]) (by kernel_rfl), hov 4 _ lb cb vc (by simp)]
          rfl
        have hcp1' : ∀ ty dc sc, (Builtin.copy_ #[24, 24] ty #[.slice (some ⟨b, o + (i + m), none⟩) (n + m - (i + m)) dc, .slice (some ⟨b, o + i, none⟩) (n + m - i) sc]).run Try.prog w.drew = .ok (goInt (n - i : Nat)) W1 := fun ty dc sc => by simpa only [Nat.mul_one] using hcp1 ty dc sc
        have hcp2' : ∀ W : World, W.heap = W1.heap → ∀ ty dc vc, (Builtin.copy_ #[24, 24] ty #[.slice (some ⟨b, o + i, none⟩) (n + m - i) dc, .slice (some ⟨vb, vo, none⟩) m vc]).run Try.prog W = .ok (goInt m) (W.setRow b (putAt cs1 (o + i) news.toArray)) := fun W hW ty dc vc => by simpa only [Nat.mul_one] using hcp2 W hW ty dc vc
        have hend' : Hid (∀ W : World, W.heap = W1.heap → W.os = w.os → W.tape = w.tape → W.output = w.output → InsEnd w (W.setRow b (putAt cs1 (o + i) news.toArray)) (some ⟨b, o, none⟩) b o (n + m) cap 1 (olds.take (i * 1) ++ news ++ olds.drop (i * 1))) := fun W a1 a2 a3 a4 => by simpa only [Nat.mul_one] using hend W a1 a2 a3 a4
        have hb2 : ¬ (cap = i + m) := by omega
        have hb3 : (i : Int) ≤ (n : Int) + (m : Int) := by omega
        have hin2 : i ≤ n := by omega
        clear h hov hcp1 hcp2 hend
        go_enter Try.func111, Try.ntmps111
        go_wp2_with (simp only [hovc])
        go_region_law_o (refine step_copy_by rfl _ _ 24 24 rfl _ _ (by simp [Act.eval, Act.put]) (by simp [Act.eval, Act.put]) (hcp1' _ _ _) ?_)
        go_wp2_with (at_builtin; refine wpList_copy_by rfl _ _ 24 24 rfl _ _ rfl rfl (hcp2' _ rfl _ _ _) ?_)
        go_ret
        exact ⟨_, _, _, rfl, hend' _ rfl e1 e2 e3⟩
      · have hgr : cap < n + m := by omega
        obtain ⟨W1, G, row, hrz, hG, hcpA, hcpB, hend, e1, e2, e3⟩ := ins_grow hE (T := 24) (Ti := 3) (e := .str) rfl (by kernel_rfl) (sz := 1) rfl h hlt hgr
        have hend' : Hid (∀ W0 W : World, W0.heap = W1.heap → W.heap = (W0.setRow w.heap.size (putAt row (i) news.toArray)).heap → W.os = w.os → W.tape = w.tape → W.output = w.output →
          InsEnd w (W.setRow w.heap.size (putAt (putAt row (i) news.toArray) ((i + m)) (olds.drop (i * 1)).toArray)) (some ⟨b, o, none⟩) w.heap.size 0 (n + m) G 1 (olds.take (i * 1) ++ news ++ olds.drop (i * 1))) := fun W0 W a1 a2 a3 a4 a5 => by simpa only [Nat.mul_one] using hend W0 W a1 (by simpa only [Nat.mul_one] using a2) a3 a4 a5
        have hcpA' : ∀ W : World, W.heap = W1.heap → ∀ ty dc vc, (Builtin.copy_ #[24, 24] ty #[.slice (some ⟨w.heap.size, i, none⟩) (n + m - i) dc, .slice (some ⟨vb, vo, none⟩) m vc]).run Try.prog W = .ok (goInt m) (W.setRow w.heap.size (putAt row (i) news.toArray)) := fun W hW ty dc vc => by simpa only [Nat.mul_one] using hcpA W hW ty dc vc
        have hcpB' : ∀ W0 W : World, W0.heap = W1.heap → W.heap = (W0.setRow w.heap.size (putAt row (i) news.toArray)).heap → ∀ ty dc sc, (Builtin.copy_ #[24, 24] ty #[.slice (some ⟨w.heap.size, (i + m), none⟩) (n + m - (i + m)) dc, .slice (some ⟨b, o + i, none⟩) (n - i) sc]).run Try.prog W =
          .ok (goInt (n - i : Nat)) (W.setRow w.heap.size (putAt (putAt row (i) news.toArray) ((i + m)) (olds.drop (i * 1)).toArray)) := fun W0 W a1 a2 ty dc sc => by simpa only [Nat.mul_one] using hcpB W0 W a1 (by simpa only [Nat.mul_one] using a2) ty dc sc
        have hz3 : (cap : Int) < (n : Int) + (m : Int) := by omega
        have hGi : ¬ (G = i) := by omega
        have hGim : ¬ (G = i + m) := by omega
        have hb3 : (i : Int) ≤ (n : Int) := by omega
        have hin2 : i ≤ n := by omega
        clear h hcpA hcpB hend
        go_enter Try.func111, Try.ntmps111
        go_wp2_with (first
          | (at_builtin; refine Lib.wpList_append_run _ rfl _ _ _ _ rfl _ _ rfl rfl _ _ (hrz _) ?_)
          | (at_builtin; refine wpList_copy_by rfl _ _ 24 24 rfl _ _ rfl rfl (hcpA' _ rfl _ _ _) ?_)
          | (at_builtin; refine wpList_copy_by rfl _ _ 24 24 rfl _ _ rfl rfl (hcpB' _ _ rfl rfl _ _ _) ?_))
        go_region_law_o (refine step_copy_by rfl _ _ 24 24 rfl (.slice (some ⟨w.heap.size, (i + m), none⟩) (n + m - (i + m)) (G - (i + m))) (.slice (some ⟨b, o + i, none⟩) (n - i) (cap - i)) (by simp [Act.eval, Act.put]) (by simp [Act.eval, Act.put]) (hcpB' W1 ((W1.setRow w.heap.size (putAt row (i) news.toArray)).drew) rfl rfl 3 (G - (i + m)) (cap - i)) ?_)
        go_wp2
        go_ret
        have hfin := hend' W1 ((W1.setRow w.heap.size (putAt row (i) news.toArray)).drew) rfl rfl e1 e2 e3
        first
          | exact ⟨_, _, _, rfl, hfin⟩
          | (simp only [Nat.mul_one] at hfin; exact ⟨_, _, _, rfl, by simpa only [Nat.mul_one] using hfin⟩)
noncomputable def q111 : List Dt → Option (Bool × List Dt)
  | [.d (.sl .str) a0, .d (.i .i64) a1, .d (.sl .str) a2] => some (gIns a0 a1 a2, [.d (.sl .str) (insL a0 a1 a2)])
  | _ => none
noncomputable def s111 : Gm.Spec := Gm.Spec.of [.mov, .ro, .mov] [false] true q111
theorem good111 : Gm.Good Try.prog (111, s111) := by
  refine ⟨⟨spec_ins (t := .str) (sz := 1) rfl insE111 fun ds outs h => ?_, _, Try.func111, by kernel_rfl, of_decide_eq_true (by kernel_rfl)⟩, Gm.Spec.of_natl _ _ _ _⟩
  unfold q111 at h
  split at h
  · rename_i a0 a1 a2
    simp only [Option.some.injEq, Prod.mk.injEq] at h
    obtain ⟨hg, rfl⟩ := h
    obtain ⟨h1, h2, h3, h4⟩ := gIns_iff.1 hg
    exact ⟨a0, a2, a1.toNat, by rw [Int.toNat_of_nonneg h1], by omega, h3, h4, rfl⟩
  · cases h
open Go.RowKit in
set_option maxHeartbeats 4000000 in
set_option maxRecDepth 1000000 in
theorem insE100 : InsE Try.prog 100 5 := by
  intro base n cap i vb vo m vc olds news w h
  have hE : (tab.env []).Ok Try.prog := tab_ok.env (fun _ h => by simp at h)
  have hm := h.hm
  have hin := h.hi
  have hnc := h.hn
  have hlim : n + m ≤ 4294967296 := h.lim
  have hz1 : ¬ ((m : Int) = 0) := by omega
  have mixed : Try.prog.follows .mixedOrders = true := tab_ok.ord
  have hw1 : IntKind.i64.wrap ((i : Int) + (m : Int)) = (i : Int) + (m : Int) := by rw [IntKind.wrap_i64]; omega
  have hb1 : (0 : Int) ≤ (i : Int) + (m : Int) := by omega
  have htn : ((i : Int) + (m : Int)).toNat = i + m := by omega
  by_cases hi : i = n
  · subst hi
    obtain ⟨b', o', cap', W, hrun, hend⟩ := ins_end hE (T := 25) (e := .node) rfl (sz := 5) rfl h vc
    have hend : Hid (InsEnd w W base b' o' (i + m) cap' 5 (olds.take (i * 5) ++ news ++ olds.drop (i * 5))) := hend
    cases base with
    | none =>
      obtain ⟨rfl, rfl⟩ := h.nil rfl
      clear h
      go_enter Try.func100, Try.ntmps100
      go_wp2_with (at_builtin; refine Lib.wpList_append_run _ rfl _ _ _ _ rfl _ _ rfl rfl _ _ (hrun _) ?_)
      go_ret
      exact ⟨b', o', cap', by rw [Nat.zero_add]; rfl, hend⟩
    | some a =>
      obtain ⟨b, o, cs, el, rfl, _⟩ := h.is _ rfl
      clear h
      go_enter Try.func100, Try.ntmps100
      go_wp2_with (at_builtin; refine Lib.wpList_append_run _ rfl _ _ _ _ rfl _ _ rfl rfl _ _ (hrun _) ?_)
      all_goals (go_ret; exact ⟨_, _, _, rfl, hend⟩)
  · have hlt : i < n := by omega
    have hz2 : ¬ ((i : Int) = (n : Int)) := by omega
    cases base with
    | none => have := (h.nil rfl).1; omega
    | some a =>
      obtain ⟨b, o, cs, el, rfl, _⟩ := h.is _ rfl
      have hb4 : ¬ (cap = i) := by omega
      by_cases hroom : n + m ≤ cap
      · obtain ⟨W1, cs1, hov, hcp1, hcp2, hend, e1, e2, e3⟩ := ins_room hE (T := 25) (e := .node) rfl (sz := 5) rfl h hlt hroom
        have hovc : ∀ lb cb, (callFunc 112 #[.slice (some ⟨vb, vo, none⟩) m vc, .slice (some ⟨b, o + (i + m) * 5, none⟩) lb cb]).run Try.prog w = .ok (.value (.bool false)) w := fun lb cb => by
          rw [run_callFunc_extern Try.func112 (by kernel_rfl) (by kernel_rfl) (by kernel_rfl) (e := Extern.SlicesOverlaps.overlaps #[25, 25] #[4]) (by kernel_rfl), hov 4 _ lb cb vc (by simp)]
          rfl
        have hcp1' : ∀ ty dc sc, (Builtin.copy_ #[25, 25] ty #[.slice (some ⟨b, o + (i + m) * 5, none⟩) (n + m - (i + m)) dc, .slice (some ⟨b, o + i * 5, none⟩) (n + m - i) sc]).run Try.prog w.drew = .ok (goInt (n - i : Nat)) W1 := fun ty dc sc => by simpa only [Nat.mul_one] using hcp1 ty dc sc
        have hcp2' : ∀ W : World, W.heap = W1.heap → ∀ ty dc vc, (Builtin.copy_ #[25, 25] ty #[.slice (some ⟨b, o + i * 5, none⟩) (n + m - i) dc, .slice (some ⟨vb, vo, none⟩) m vc]).run Try.prog W = .ok (goInt m) (W.setRow b (putAt cs1 (o + i * 5) news.toArray)) := fun W hW ty dc vc => by simpa only [Nat.mul_one] using hcp2 W hW ty dc vc
        have hend' : Hid (∀ W : World, W.heap = W1.heap → W.os = w.os → W.tape = w.tape → W.output = w.output → InsEnd w (W.setRow b (putAt cs1 (o + i * 5) news.toArray)) (some ⟨b, o, none⟩) b o (n + m) cap 5 (olds.take (i * 5) ++ news ++ olds.drop (i * 5))) := fun W a1 a2 a3 a4 => by simpa only [Nat.mul_one] using hend W a1 a2 a3 a4
        have hb2 : ¬ (cap = i + m) := by omega
        have hb3 : (i : Int) ≤ (n : Int) + (m : Int) := by omega
        have hin2 : i ≤ n := by omega
        clear h hov hcp1 hcp2 hend
        go_enter Try.func100, Try.ntmps100
        go_wp2_with (simp only [hovc])
        go_region_law_o (refine step_copy_by rfl _ _ 25 25 rfl _ _ (by simp [Act.eval, Act.put]) (by simp [Act.eval, Act.put]) (hcp1' _ _ _) ?_)
        go_wp2_with (at_builtin; refine wpList_copy_by rfl _ _ 25 25 rfl _ _ rfl rfl (hcp2' _ rfl _ _ _) ?_)
        go_ret
        exact ⟨_, _, _, rfl, hend' _ rfl e1 e2 e3⟩
      · have hgr : cap < n + m := by omega
        obtain ⟨W1, G, row, hrz, hG, hcpA, hcpB, hend, e1, e2, e3⟩ := ins_grow hE (T := 25) (Ti := 3) (e := .node) rfl (by kernel_rfl) (sz := 5) rfl h hlt hgr
        have hend' : Hid (∀ W0 W : World, W0.heap = W1.heap → W.heap = (W0.setRow w.heap.size (putAt row (i * 5) news.toArray)).heap → W.os = w.os → W.tape = w.tape → W.output = w.output →
          InsEnd w (W.setRow w.heap.size (putAt (putAt row (i * 5) news.toArray) ((i + m) * 5) (olds.drop (i * 5)).toArray)) (some ⟨b, o, none⟩) w.heap.size 0 (n + m) G 5 (olds.take (i * 5) ++ news ++ olds.drop (i * 5))) := fun W0 W a1 a2 a3 a4 a5 => by simpa only [Nat.mul_one] using hend W0 W a1 (by simpa only [Nat.mul_one] using a2) a3 a4 a5
        have hcpA' : ∀ W : World, W.heap = W1.heap → ∀ ty dc vc, (Builtin.copy_ #[25, 25] ty #[.slice (some ⟨w.heap.size, i * 5, none⟩) (n + m - i) dc, .slice (some ⟨vb, vo, none⟩) m vc]).run Try.prog W = .ok (goInt m) (W.setRow w.heap.size (putAt row (i * 5) news.toArray)) := fun W hW ty dc vc => by simpa only [Nat.mul_one] using hcpA W hW ty dc vc
        have hcpB' : ∀ W0 W : World, W0.heap = W1.heap → W.heap = (W0.setRow w.heap.size (putAt row (i * 5) news.toArray)).heap → ∀ ty dc sc, (Builtin.copy_ #[25, 25] ty #[.slice (some ⟨w.heap.size, (i + m) * 5, none⟩) (n + m - (i + m)) dc, .slice (some ⟨b, o + i * 5, none⟩) (n - i) sc]).run Try.prog W =
          .ok (goInt (n - i : Nat)) (W.setRow w.heap.size (putAt (putAt row (i * 5) news.toArray) ((i + m) * 5) (olds.drop (i * 5)).toArray)) := fun W0 W a1 a2 ty dc sc => by simpa only [Nat.mul_one] using hcpB W0 W a1 (by simpa only [Nat.mul_one] using a2) ty dc sc
        have hz3 : (cap : Int) < (n : Int) + (m : Int) := by omega
        have hGi : ¬ (G = i) := by omega
        have hGim : ¬ (G = i + m) := by omega
        have hb3 : (i : Int) ≤ (n : Int) := by omega
        have hin2 : i ≤ n := by omega
        clear h hcpA hcpB hend
        go_enter Try.func100, Try.ntmps100
        go_wp2_with (first
          | (at_builtin; refine Lib.wpList_append_run _ rfl _ _ _ _ rfl _ _ rfl rfl _ _ (hrz _) ?_)
          | (at_builtin; refine wpList_copy_by rfl _ _ 25 25 rfl _ _ rfl rfl (hcpA' _ rfl _ _ _) ?_)
          | (at_builtin; refine wpList_copy_by rfl _ _ 25 25 rfl _ _ rfl rfl (hcpB' _ _ rfl rfl _ _ _) ?_))
        go_region_law_o (refine step_copy_by rfl _ _ 25 25 rfl (.slice (some ⟨w.heap.size, (i + m) * 5, none⟩) (n + m - (i + m)) (G - (i + m))) (.slice (some ⟨b, o + i * 5, none⟩) (n - i) (cap - i)) (by simp [Act.eval, Act.put]) (by simp [Act.eval, Act.put]) (hcpB' W1 ((W1.setRow w.heap.size (putAt row (i * 5) news.toArray)).drew) rfl rfl 3 (G - (i + m)) (cap - i)) ?_)
        go_wp2
        go_ret
        have hfin := hend' W1 ((W1.setRow w.heap.size (putAt row (i * 5) news.toArray)).drew) rfl rfl e1 e2 e3
        first
          | exact ⟨_, _, _, rfl, hfin⟩
          | (simp only [Nat.mul_one] at hfin; exact ⟨_, _, _, rfl, by simpa only [Nat.mul_one] using hfin⟩)
noncomputable def q100 : List Dt → Option (Bool × List Dt)
  | [.d (.sl .node) a0, .d (.i .i64) a1, .d (.sl .node) a2] => some (gIns a0 a1 a2, [.d (.sl .node) (insL a0 a1 a2)])
  | _ => none
noncomputable def s100 : Gm.Spec := Gm.Spec.of [.mov, .ro, .mov] [false] true q100
theorem good100 : Gm.Good Try.prog (100, s100) := by
  refine ⟨⟨spec_ins (t := .node) (sz := 5) rfl insE100 fun ds outs h => ?_, _, Try.func100, by kernel_rfl, of_decide_eq_true (by kernel_rfl)⟩, Gm.Spec.of_natl _ _ _ _⟩
  unfold q100 at h
  split at h
  · rename_i a0 a1 a2
    simp only [Option.some.injEq, Prod.mk.injEq] at h
    obtain ⟨hg, rfl⟩ := h
    obtain ⟨h1, h2, h3, h4⟩ := gIns_iff.1 hg
    exact ⟨a0, a2, a1.toNat, by rw [Int.toNat_of_nonneg h1], by omega, h3, h4, rfl⟩
  · cases h
end Go.Proofs.Ytalnkjjnohgjkaa

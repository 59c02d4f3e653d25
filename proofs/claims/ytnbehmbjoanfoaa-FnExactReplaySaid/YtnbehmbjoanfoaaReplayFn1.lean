/- What the functions compute, part 1. No conditions. -/
import Derived.Test.YtnbehmbjoanfoaaGm4
import Derived.Test.YtnbehmbjoanfoaaRows
import Derived.Lib.Strings
import Derived.Lib.Slices
import Derived.Lib.SliceRun
import Derived.Lib.Walk
import Derived.WalkKit
/- The table of types of the program, and that it is the program's. Printed by gev.py of this session. -/
namespace Go.Proofs.Ytnbehmbjoanfoaa
open Go Go.Gm
def tab : Tab := { code := [(2, (.i .i64)), (3, (.i .i64)), (4, .bool), (5, (.i .u8)), (6, (.i .u8)), (9, .str), (10, .str), (11, .str), (12, (.i .u64)), (21, (.i .i32)), (22, (.sl .event)), (24, .hist), (27, (.sl .event)), (29, .hist), (33, (.sl (.i .u8))), (35, (.sl .item)), (37, .store), (39, (.sl (.sl .item))), (40, (.sl .metric)), (42, .pace), (43, (.sl .note)), (45, .order), (48, (.sl .str)), (50, .item), (61, (.sl .item)), (80, (.sl .metric)), (81, .pace), (82, (.sl .note)), (84, .order), (86, .item), (94, .event), (111, .event), (122, (.sl (.i .i64))), (132, .metric), (137, .note), (139, .cur), (163, (.i .u64)), (165, .metric), (167, .note), (183, (.i .u32)), (184, (.i .u8)), (185, (.i .u8)), (188, (.i .i32)), (189, (.i .i32))], eqs := [(42, [(.i .i64), (.i .i64), (.i .i64), (.i .i64)]), (132, [.str, (.i .i64), (.i .i64)]), (137, [.str, .str])], fld := [(24, [(0, 3), (1, 22)]), (29, [(0, 3), (1, 27)]), (37, [(0, 35), (1, 3)]), (42, [(0, 3), (1, 3), (2, 3), (3, 3)]), (45, [(0, 9), (1, 9), (2, 3), (3, 3), (4, 40), (5, 42), (9, 43)]), (50, [(0, 45), (10, 3)]), (81, [(0, 3), (1, 3), (2, 3), (3, 3)]), (84, [(0, 9), (1, 9), (2, 3), (3, 3), (4, 80), (5, 81), (9, 82)]), (86, [(0, 84), (10, 3)]), (94, [(0, 3), (1, 3), (2, 50)]), (111, [(0, 3), (1, 3), (2, 86)]), (132, [(0, 9), (1, 3), (2, 3)]), (137, [(0, 9), (1, 9)]), (139, [(0, 33), (1, 3), (2, 3)]), (165, [(0, 9), (1, 3), (2, 3)]), (167, [(0, 9), (1, 9)])] }
theorem und2 : UndOk (tab.env []) Try.prog 2 (.i .i64) := (by kernel_rfl : Try.prog.underlying 2 = some (.int .i64))
theorem und3 : UndOk (tab.env []) Try.prog 3 (.i .i64) := (by kernel_rfl : Try.prog.underlying 3 = some (.int .i64))
theorem und4 : UndOk (tab.env []) Try.prog 4 .bool := (by kernel_rfl : Try.prog.underlying 4 = some .bool)
theorem und5 : UndOk (tab.env []) Try.prog 5 (.i .u8) := (by kernel_rfl : Try.prog.underlying 5 = some (.int .u8))
theorem und6 : UndOk (tab.env []) Try.prog 6 (.i .u8) := (by kernel_rfl : Try.prog.underlying 6 = some (.int .u8))
theorem und9 : UndOk (tab.env []) Try.prog 9 .str := (by kernel_rfl : Try.prog.underlying 9 = some .string)
theorem und10 : UndOk (tab.env []) Try.prog 10 .str := (by kernel_rfl : Try.prog.underlying 10 = some .string)
theorem und11 : UndOk (tab.env []) Try.prog 11 .str := (by kernel_rfl : Try.prog.underlying 11 = some .string)
theorem und12 : UndOk (tab.env []) Try.prog 12 (.i .u64) := (by kernel_rfl : Try.prog.underlying 12 = some (.int .u64))
theorem und21 : UndOk (tab.env []) Try.prog 21 (.i .i32) := (by kernel_rfl : Try.prog.underlying 21 = some (.int .i32))
theorem und22 : UndOk (tab.env []) Try.prog 22 (.sl .event) := ⟨111, by kernel_rfl, by kernel_rfl⟩
theorem und24 : UndOk (tab.env []) Try.prog 24 .hist := ⟨_, Try.underlying24⟩
theorem und27 : UndOk (tab.env []) Try.prog 27 (.sl .event) := ⟨94, by kernel_rfl, by kernel_rfl⟩
theorem und29 : UndOk (tab.env []) Try.prog 29 .hist := ⟨_, Try.underlying29⟩
theorem und33 : UndOk (tab.env []) Try.prog 33 (.sl (.i .u8)) := ⟨5, by kernel_rfl, by kernel_rfl⟩
theorem und35 : UndOk (tab.env []) Try.prog 35 (.sl .item) := ⟨50, by kernel_rfl, by kernel_rfl⟩
theorem und37 : UndOk (tab.env []) Try.prog 37 .store := ⟨_, Try.underlying37⟩
theorem und39 : UndOk (tab.env []) Try.prog 39 (.sl (.sl .item)) := ⟨35, by kernel_rfl, by kernel_rfl⟩
theorem und40 : UndOk (tab.env []) Try.prog 40 (.sl .metric) := ⟨132, by kernel_rfl, by kernel_rfl⟩
theorem und42 : UndOk (tab.env []) Try.prog 42 .pace := ⟨_, Try.underlying42⟩
theorem und43 : UndOk (tab.env []) Try.prog 43 (.sl .note) := ⟨137, by kernel_rfl, by kernel_rfl⟩
theorem und45 : UndOk (tab.env []) Try.prog 45 .order := ⟨_, Try.underlying45⟩
theorem und48 : UndOk (tab.env []) Try.prog 48 (.sl .str) := ⟨9, by kernel_rfl, by kernel_rfl⟩
theorem und50 : UndOk (tab.env []) Try.prog 50 .item := ⟨_, Try.underlying50⟩
theorem und61 : UndOk (tab.env []) Try.prog 61 (.sl .item) := ⟨86, by kernel_rfl, by kernel_rfl⟩
theorem und80 : UndOk (tab.env []) Try.prog 80 (.sl .metric) := ⟨165, by kernel_rfl, by kernel_rfl⟩
theorem und81 : UndOk (tab.env []) Try.prog 81 .pace := ⟨_, Try.underlying81⟩
theorem und82 : UndOk (tab.env []) Try.prog 82 (.sl .note) := ⟨167, by kernel_rfl, by kernel_rfl⟩
theorem und84 : UndOk (tab.env []) Try.prog 84 .order := ⟨_, Try.underlying84⟩
theorem und86 : UndOk (tab.env []) Try.prog 86 .item := ⟨_, Try.underlying86⟩
theorem und94 : UndOk (tab.env []) Try.prog 94 .event := ⟨_, Try.underlying94⟩
theorem und111 : UndOk (tab.env []) Try.prog 111 .event := ⟨_, Try.underlying111⟩
theorem und122 : UndOk (tab.env []) Try.prog 122 (.sl (.i .i64)) := ⟨3, by kernel_rfl, by kernel_rfl⟩
theorem und132 : UndOk (tab.env []) Try.prog 132 .metric := ⟨_, Try.underlying132⟩
theorem und137 : UndOk (tab.env []) Try.prog 137 .note := ⟨_, Try.underlying137⟩
theorem und139 : UndOk (tab.env []) Try.prog 139 .cur := ⟨_, Try.underlying139⟩
theorem und163 : UndOk (tab.env []) Try.prog 163 (.i .u64) := (by kernel_rfl : Try.prog.underlying 163 = some (.int .u64))
theorem und165 : UndOk (tab.env []) Try.prog 165 .metric := ⟨_, Try.underlying165⟩
theorem und167 : UndOk (tab.env []) Try.prog 167 .note := ⟨_, Try.underlying167⟩
theorem und183 : UndOk (tab.env []) Try.prog 183 (.i .u32) := (by kernel_rfl : Try.prog.underlying 183 = some (.int .u32))
theorem und184 : UndOk (tab.env []) Try.prog 184 (.i .u8) := (by kernel_rfl : Try.prog.underlying 184 = some (.int .u8))
theorem und185 : UndOk (tab.env []) Try.prog 185 (.i .u8) := (by kernel_rfl : Try.prog.underlying 185 = some (.int .u8))
theorem und188 : UndOk (tab.env []) Try.prog 188 (.i .i32) := (by kernel_rfl : Try.prog.underlying 188 = some (.int .i32))
theorem und189 : UndOk (tab.env []) Try.prog 189 (.i .i32) := (by kernel_rfl : Try.prog.underlying 189 = some (.int .i32))
theorem fld24 : ∃ fs : Array Field, Try.prog.underlying 24 = some (.struct fs) ∧ [(0, 3), (1, 22)] = fs.toList.map (fun f => (f.offset, f.type)) ∧ (∀ y ∈ ([(0, 3), (1, 22)] : List (Nat × Nat)), (aget tab.code y.2).isSome) ∧ (fs.toList.mapM (fun f => (Try.prog.info? f.type).map fun i => (f.offset, i.size))).isSome :=
  ⟨_, Try.underlying24, by kernel_rfl, List.all_eq_true.1 (by kernel_rfl), by kernel_rfl⟩
theorem fld29 : ∃ fs : Array Field, Try.prog.underlying 29 = some (.struct fs) ∧ [(0, 3), (1, 27)] = fs.toList.map (fun f => (f.offset, f.type)) ∧ (∀ y ∈ ([(0, 3), (1, 27)] : List (Nat × Nat)), (aget tab.code y.2).isSome) ∧ (fs.toList.mapM (fun f => (Try.prog.info? f.type).map fun i => (f.offset, i.size))).isSome :=
  ⟨_, Try.underlying29, by kernel_rfl, List.all_eq_true.1 (by kernel_rfl), by kernel_rfl⟩
theorem fld37 : ∃ fs : Array Field, Try.prog.underlying 37 = some (.struct fs) ∧ [(0, 35), (1, 3)] = fs.toList.map (fun f => (f.offset, f.type)) ∧ (∀ y ∈ ([(0, 35), (1, 3)] : List (Nat × Nat)), (aget tab.code y.2).isSome) ∧ (fs.toList.mapM (fun f => (Try.prog.info? f.type).map fun i => (f.offset, i.size))).isSome :=
  ⟨_, Try.underlying37, by kernel_rfl, List.all_eq_true.1 (by kernel_rfl), by kernel_rfl⟩
theorem fld42 : ∃ fs : Array Field, Try.prog.underlying 42 = some (.struct fs) ∧ [(0, 3), (1, 3), (2, 3), (3, 3)] = fs.toList.map (fun f => (f.offset, f.type)) ∧ (∀ y ∈ ([(0, 3), (1, 3), (2, 3), (3, 3)] : List (Nat × Nat)), (aget tab.code y.2).isSome) ∧ (fs.toList.mapM (fun f => (Try.prog.info? f.type).map fun i => (f.offset, i.size))).isSome :=
  ⟨_, Try.underlying42, by kernel_rfl, List.all_eq_true.1 (by kernel_rfl), by kernel_rfl⟩
theorem fld45 : ∃ fs : Array Field, Try.prog.underlying 45 = some (.struct fs) ∧ [(0, 9), (1, 9), (2, 3), (3, 3), (4, 40), (5, 42), (9, 43)] = fs.toList.map (fun f => (f.offset, f.type)) ∧ (∀ y ∈ ([(0, 9), (1, 9), (2, 3), (3, 3), (4, 40), (5, 42), (9, 43)] : List (Nat × Nat)), (aget tab.code y.2).isSome) ∧ (fs.toList.mapM (fun f => (Try.prog.info? f.type).map fun i => (f.offset, i.size))).isSome :=
  ⟨_, Try.underlying45, by kernel_rfl, List.all_eq_true.1 (by kernel_rfl), by kernel_rfl⟩
theorem fld50 : ∃ fs : Array Field, Try.prog.underlying 50 = some (.struct fs) ∧ [(0, 45), (10, 3)] = fs.toList.map (fun f => (f.offset, f.type)) ∧ (∀ y ∈ ([(0, 45), (10, 3)] : List (Nat × Nat)), (aget tab.code y.2).isSome) ∧ (fs.toList.mapM (fun f => (Try.prog.info? f.type).map fun i => (f.offset, i.size))).isSome :=
  ⟨_, Try.underlying50, by kernel_rfl, List.all_eq_true.1 (by kernel_rfl), by kernel_rfl⟩
theorem fld81 : ∃ fs : Array Field, Try.prog.underlying 81 = some (.struct fs) ∧ [(0, 3), (1, 3), (2, 3), (3, 3)] = fs.toList.map (fun f => (f.offset, f.type)) ∧ (∀ y ∈ ([(0, 3), (1, 3), (2, 3), (3, 3)] : List (Nat × Nat)), (aget tab.code y.2).isSome) ∧ (fs.toList.mapM (fun f => (Try.prog.info? f.type).map fun i => (f.offset, i.size))).isSome :=
  ⟨_, Try.underlying81, by kernel_rfl, List.all_eq_true.1 (by kernel_rfl), by kernel_rfl⟩
theorem fld84 : ∃ fs : Array Field, Try.prog.underlying 84 = some (.struct fs) ∧ [(0, 9), (1, 9), (2, 3), (3, 3), (4, 80), (5, 81), (9, 82)] = fs.toList.map (fun f => (f.offset, f.type)) ∧ (∀ y ∈ ([(0, 9), (1, 9), (2, 3), (3, 3), (4, 80), (5, 81), (9, 82)] : List (Nat × Nat)), (aget tab.code y.2).isSome) ∧ (fs.toList.mapM (fun f => (Try.prog.info? f.type).map fun i => (f.offset, i.size))).isSome :=
  ⟨_, Try.underlying84, by kernel_rfl, List.all_eq_true.1 (by kernel_rfl), by kernel_rfl⟩
theorem fld86 : ∃ fs : Array Field, Try.prog.underlying 86 = some (.struct fs) ∧ [(0, 84), (10, 3)] = fs.toList.map (fun f => (f.offset, f.type)) ∧ (∀ y ∈ ([(0, 84), (10, 3)] : List (Nat × Nat)), (aget tab.code y.2).isSome) ∧ (fs.toList.mapM (fun f => (Try.prog.info? f.type).map fun i => (f.offset, i.size))).isSome :=
  ⟨_, Try.underlying86, by kernel_rfl, List.all_eq_true.1 (by kernel_rfl), by kernel_rfl⟩
theorem fld94 : ∃ fs : Array Field, Try.prog.underlying 94 = some (.struct fs) ∧ [(0, 3), (1, 3), (2, 50)] = fs.toList.map (fun f => (f.offset, f.type)) ∧ (∀ y ∈ ([(0, 3), (1, 3), (2, 50)] : List (Nat × Nat)), (aget tab.code y.2).isSome) ∧ (fs.toList.mapM (fun f => (Try.prog.info? f.type).map fun i => (f.offset, i.size))).isSome :=
  ⟨_, Try.underlying94, by kernel_rfl, List.all_eq_true.1 (by kernel_rfl), by kernel_rfl⟩
theorem fld111 : ∃ fs : Array Field, Try.prog.underlying 111 = some (.struct fs) ∧ [(0, 3), (1, 3), (2, 86)] = fs.toList.map (fun f => (f.offset, f.type)) ∧ (∀ y ∈ ([(0, 3), (1, 3), (2, 86)] : List (Nat × Nat)), (aget tab.code y.2).isSome) ∧ (fs.toList.mapM (fun f => (Try.prog.info? f.type).map fun i => (f.offset, i.size))).isSome :=
  ⟨_, Try.underlying111, by kernel_rfl, List.all_eq_true.1 (by kernel_rfl), by kernel_rfl⟩
theorem fld132 : ∃ fs : Array Field, Try.prog.underlying 132 = some (.struct fs) ∧ [(0, 9), (1, 3), (2, 3)] = fs.toList.map (fun f => (f.offset, f.type)) ∧ (∀ y ∈ ([(0, 9), (1, 3), (2, 3)] : List (Nat × Nat)), (aget tab.code y.2).isSome) ∧ (fs.toList.mapM (fun f => (Try.prog.info? f.type).map fun i => (f.offset, i.size))).isSome :=
  ⟨_, Try.underlying132, by kernel_rfl, List.all_eq_true.1 (by kernel_rfl), by kernel_rfl⟩
theorem fld137 : ∃ fs : Array Field, Try.prog.underlying 137 = some (.struct fs) ∧ [(0, 9), (1, 9)] = fs.toList.map (fun f => (f.offset, f.type)) ∧ (∀ y ∈ ([(0, 9), (1, 9)] : List (Nat × Nat)), (aget tab.code y.2).isSome) ∧ (fs.toList.mapM (fun f => (Try.prog.info? f.type).map fun i => (f.offset, i.size))).isSome :=
  ⟨_, Try.underlying137, by kernel_rfl, List.all_eq_true.1 (by kernel_rfl), by kernel_rfl⟩
theorem fld139 : ∃ fs : Array Field, Try.prog.underlying 139 = some (.struct fs) ∧ [(0, 33), (1, 3), (2, 3)] = fs.toList.map (fun f => (f.offset, f.type)) ∧ (∀ y ∈ ([(0, 33), (1, 3), (2, 3)] : List (Nat × Nat)), (aget tab.code y.2).isSome) ∧ (fs.toList.mapM (fun f => (Try.prog.info? f.type).map fun i => (f.offset, i.size))).isSome :=
  ⟨_, Try.underlying139, by kernel_rfl, List.all_eq_true.1 (by kernel_rfl), by kernel_rfl⟩
theorem fld165 : ∃ fs : Array Field, Try.prog.underlying 165 = some (.struct fs) ∧ [(0, 9), (1, 3), (2, 3)] = fs.toList.map (fun f => (f.offset, f.type)) ∧ (∀ y ∈ ([(0, 9), (1, 3), (2, 3)] : List (Nat × Nat)), (aget tab.code y.2).isSome) ∧ (fs.toList.mapM (fun f => (Try.prog.info? f.type).map fun i => (f.offset, i.size))).isSome :=
  ⟨_, Try.underlying165, by kernel_rfl, List.all_eq_true.1 (by kernel_rfl), by kernel_rfl⟩
theorem fld167 : ∃ fs : Array Field, Try.prog.underlying 167 = some (.struct fs) ∧ [(0, 9), (1, 9)] = fs.toList.map (fun f => (f.offset, f.type)) ∧ (∀ y ∈ ([(0, 9), (1, 9)] : List (Nat × Nat)), (aget tab.code y.2).isSome) ∧ (fs.toList.mapM (fun f => (Try.prog.info? f.type).map fun i => (f.offset, i.size))).isSome :=
  ⟨_, Try.underlying167, by kernel_rfl, List.all_eq_true.1 (by kernel_rfl), by kernel_rfl⟩
theorem tab_ok : tab.Ok Try.prog := {
  info := infoChk_ok (by kernel_rfl)
  und := List.forall_mem_cons.2 ⟨und2, List.forall_mem_cons.2 ⟨und3, List.forall_mem_cons.2 ⟨und4, List.forall_mem_cons.2 ⟨und5, List.forall_mem_cons.2 ⟨und6, List.forall_mem_cons.2 ⟨und9, List.forall_mem_cons.2 ⟨und10, List.forall_mem_cons.2 ⟨und11, List.forall_mem_cons.2 ⟨und12, List.forall_mem_cons.2 ⟨und21, List.forall_mem_cons.2 ⟨und22, List.forall_mem_cons.2 ⟨und24, List.forall_mem_cons.2 ⟨und27, List.forall_mem_cons.2 ⟨und29, List.forall_mem_cons.2 ⟨und33, List.forall_mem_cons.2 ⟨und35, List.forall_mem_cons.2 ⟨und37, List.forall_mem_cons.2 ⟨und39, List.forall_mem_cons.2 ⟨und40, List.forall_mem_cons.2 ⟨und42, List.forall_mem_cons.2 ⟨und43, List.forall_mem_cons.2 ⟨und45, List.forall_mem_cons.2 ⟨und48, List.forall_mem_cons.2 ⟨und50, List.forall_mem_cons.2 ⟨und61, List.forall_mem_cons.2 ⟨und80, List.forall_mem_cons.2 ⟨und81, List.forall_mem_cons.2 ⟨und82, List.forall_mem_cons.2 ⟨und84, List.forall_mem_cons.2 ⟨und86, List.forall_mem_cons.2 ⟨und94, List.forall_mem_cons.2 ⟨und111, List.forall_mem_cons.2 ⟨und122, List.forall_mem_cons.2 ⟨und132, List.forall_mem_cons.2 ⟨und137, List.forall_mem_cons.2 ⟨und139, List.forall_mem_cons.2 ⟨und163, List.forall_mem_cons.2 ⟨und165, List.forall_mem_cons.2 ⟨und167, List.forall_mem_cons.2 ⟨und183, List.forall_mem_cons.2 ⟨und184, List.forall_mem_cons.2 ⟨und185, List.forall_mem_cons.2 ⟨und188, List.forall_mem_cons.2 ⟨und189, List.forall_mem_nil _⟩⟩⟩⟩⟩⟩⟩⟩⟩⟩⟩⟩⟩⟩⟩⟩⟩⟩⟩⟩⟩⟩⟩⟩⟩⟩⟩⟩⟩⟩⟩⟩⟩⟩⟩⟩⟩⟩⟩⟩⟩⟩⟩⟩
  fld := List.forall_mem_cons.2 ⟨fld24, List.forall_mem_cons.2 ⟨fld29, List.forall_mem_cons.2 ⟨fld37, List.forall_mem_cons.2 ⟨fld42, List.forall_mem_cons.2 ⟨fld45, List.forall_mem_cons.2 ⟨fld50, List.forall_mem_cons.2 ⟨fld81, List.forall_mem_cons.2 ⟨fld84, List.forall_mem_cons.2 ⟨fld86, List.forall_mem_cons.2 ⟨fld94, List.forall_mem_cons.2 ⟨fld111, List.forall_mem_cons.2 ⟨fld132, List.forall_mem_cons.2 ⟨fld137, List.forall_mem_cons.2 ⟨fld139, List.forall_mem_cons.2 ⟨fld165, List.forall_mem_cons.2 ⟨fld167, List.forall_mem_nil _⟩⟩⟩⟩⟩⟩⟩⟩⟩⟩⟩⟩⟩⟩⟩⟩
  sts := List.forall_mem_cons.2 ⟨fun h => by first | (cases h; done) | (simp; done), List.forall_mem_cons.2 ⟨fun h => by first | (cases h; done) | (simp; done), List.forall_mem_cons.2 ⟨fun h => by first | (cases h; done) | (simp; done), List.forall_mem_cons.2 ⟨fun h => by first | (cases h; done) | (simp; done), List.forall_mem_cons.2 ⟨fun h => by first | (cases h; done) | (simp; done), List.forall_mem_cons.2 ⟨fun h => by first | (cases h; done) | (simp; done), List.forall_mem_cons.2 ⟨fun h => by first | (cases h; done) | (simp; done), List.forall_mem_cons.2 ⟨fun h => by first | (cases h; done) | (simp; done), List.forall_mem_cons.2 ⟨fun h => by first | (cases h; done) | (simp; done), List.forall_mem_cons.2 ⟨fun h => by first | (cases h; done) | (simp; done), List.forall_mem_cons.2 ⟨fun h => by first | (cases h; done) | (simp; done), List.forall_mem_cons.2 ⟨fun _ => by simp [tab], List.forall_mem_cons.2 ⟨fun h => by first | (cases h; done) | (simp; done), List.forall_mem_cons.2 ⟨fun _ => by simp [tab], List.forall_mem_cons.2 ⟨fun h => by first | (cases h; done) | (simp; done), List.forall_mem_cons.2 ⟨fun h => by first | (cases h; done) | (simp; done), List.forall_mem_cons.2 ⟨fun _ => by simp [tab], List.forall_mem_cons.2 ⟨fun h => by first | (cases h; done) | (simp; done), List.forall_mem_cons.2 ⟨fun h => by first | (cases h; done) | (simp; done), List.forall_mem_cons.2 ⟨fun _ => by simp [tab], List.forall_mem_cons.2 ⟨fun h => by first | (cases h; done) | (simp; done), List.forall_mem_cons.2 ⟨fun _ => by simp [tab], List.forall_mem_cons.2 ⟨fun h => by first | (cases h; done) | (simp; done), List.forall_mem_cons.2 ⟨fun _ => by simp [tab], List.forall_mem_cons.2 ⟨fun h => by first | (cases h; done) | (simp; done), List.forall_mem_cons.2 ⟨fun h => by first | (cases h; done) | (simp; done), List.forall_mem_cons.2 ⟨fun _ => by simp [tab], List.forall_mem_cons.2 ⟨fun h => by first | (cases h; done) | (simp; done), List.forall_mem_cons.2 ⟨fun _ => by simp [tab], List.forall_mem_cons.2 ⟨fun _ => by simp [tab], List.forall_mem_cons.2 ⟨fun _ => by simp [tab], List.forall_mem_cons.2 ⟨fun _ => by simp [tab], List.forall_mem_cons.2 ⟨fun h => by first | (cases h; done) | (simp; done), List.forall_mem_cons.2 ⟨fun _ => by simp [tab], List.forall_mem_cons.2 ⟨fun _ => by simp [tab], List.forall_mem_cons.2 ⟨fun _ => by simp [tab], List.forall_mem_cons.2 ⟨fun h => by first | (cases h; done) | (simp; done), List.forall_mem_cons.2 ⟨fun _ => by simp [tab], List.forall_mem_cons.2 ⟨fun _ => by simp [tab], List.forall_mem_cons.2 ⟨fun h => by first | (cases h; done) | (simp; done), List.forall_mem_cons.2 ⟨fun h => by first | (cases h; done) | (simp; done), List.forall_mem_cons.2 ⟨fun h => by first | (cases h; done) | (simp; done), List.forall_mem_cons.2 ⟨fun h => by first | (cases h; done) | (simp; done), List.forall_mem_cons.2 ⟨fun h => by first | (cases h; done) | (simp; done), List.forall_mem_nil _⟩⟩⟩⟩⟩⟩⟩⟩⟩⟩⟩⟩⟩⟩⟩⟩⟩⟩⟩⟩⟩⟩⟩⟩⟩⟩⟩⟩⟩⟩⟩⟩⟩⟩⟩⟩⟩⟩⟩⟩⟩⟩⟩⟩
  eqs := List.forall_mem_cons.2 ⟨eqs_struct (by kernel_rfl) (by kernel_rfl) (by kernel_rfl) (by kernel_rfl), List.forall_mem_cons.2 ⟨eqs_struct (by kernel_rfl) (by kernel_rfl) (by kernel_rfl) (by kernel_rfl), List.forall_mem_cons.2 ⟨eqs_struct (by kernel_rfl) (by kernel_rfl) (by kernel_rfl) (by kernel_rfl), List.forall_mem_nil _⟩⟩⟩
  ord := by kernel_rfl }
end Go.Proofs.Ytnbehmbjoanfoaa

/- x -/
namespace Go.Proofs.Ytnbehmbjoanfoaa
open Go Go.Gm
/-! ### slices.Clone[[]loop.example/g00465/impl.Metric,loop.example/g00465/impl.Metric] -/
noncomputable def f135ac : Code := (Try.f135.body).getD .skip
def f135ak : Nat → Kp := kat [⟨[0], [], [], []⟩, ⟨[0, 4], [], [], []⟩, ⟨[2], [], [], []⟩, ⟨[2], [], [], []⟩]
noncomputable def f135ae : Env := tab.env []
theorem f135a_run {R : Type} (n : Nat) (k : List Dt → Option R) (a0 : List MetricT) : evFn f135ae f135ak n f135ac [.ro] [false] true [.tmp 2] [40] [.d (.sl .metric) a0] k =
    (cond (List.isEmpty a0)
    none
    (cond (Nat.ble (0 + a0.length) LIM)
      (k [.d (.sl .metric) (([] : List MetricT) ++ a0)])
      none)) := by kernel_rfl
theorem f135a_spec (a0 : List MetricT) (hg : (fun (x : List MetricT) => !(x.isEmpty) && Nat.ble x.length LIM) a0 = true) : ∃ keep rounds, ∀ {R : Type} (k : List Dt → Option R), evFn f135ae keep rounds f135ac [.ro] [false] true [.tmp 2] [40] [.d (.sl .metric) a0] k = k [.d (.sl .metric) a0] := by
  simp only [Bool.and_eq_true, Bool.not_eq_true'] at hg
  obtain ⟨h1, h2⟩ := hg
  refine ⟨f135ak, 0, fun {R} k => ?_⟩
  rw [f135a_run, h1, Nat.zero_add, h2]
  simp only [cond_true, cond_false, List.nil_append]

noncomputable def q135a : List Dt → Option (Bool × List Dt)
  | [.d (.sl .metric) a0] => some (((fun (x : List MetricT) => !(x.isEmpty) && Nat.ble x.length LIM) a0), [.d (.sl .metric) a0])
  | _ => none
noncomputable def s135a : Gm.Spec := Gm.Spec.of [.ro] [false] true q135a
theorem good135a : Gm.Good Try.prog (135, s135a) := by
  have hl : ∀ x ∈ ([] : List (Nat × Gm.Spec)), Gm.Good Try.prog x := fun _ h => by cases h
  refine ⟨⟨spec_ok (tab_ok.env hl) (tab.natl hl) Try.func135 (by kernel_rfl : Try.f135.body = some f135ac) [40] (by kernel_rfl) ?_, _, Try.func135, by kernel_rfl, of_decide_eq_true (by kernel_rfl)⟩, Gm.Spec.of_natl _ _ _ _⟩
  intro ds outs h
  unfold q135a at h
  split at h
  · simp only [Option.some.injEq, Prod.mk.injEq] at h; obtain ⟨hg, h⟩ := h; cases h; exact f135a_spec _ hg
  · cases h
set_option maxHeartbeats 1000000 in
set_option maxRecDepth 100000 in
theorem clE135 : CloneE Try.prog 135 := by
  intro a c w
  cases a with
  | none =>
    have q22 : ∀ (w : World) (n c n' c' : Nat), (binOp .eql 40 (.slice none n c) (.slice none n' c')).run Try.prog w = .ok (.bool true) w := fun w n c n' c' => Lib.run_eql_slice_nil w _ _ none n c n' c' Try.underlying40
    go_enter Try.func135, Try.ntmps135
    go_wp2
    go_ret
    exact .inl ⟨rfl, rfl⟩
  | some a =>
    have q22 : ∀ (w : World) (n c n' c' : Nat), (binOp .eql 40 (.slice (some a) n c) (.slice none n' c')).run Try.prog w = .ok (.bool false) w := fun w n c n' c' => Lib.run_eql_slice_nil w _ _ (some a) n c n' c' Try.underlying40
    go_enter Try.func135, Try.ntmps135
    go_wp2
    go_ret
    exact .inr ⟨_, rfl, rfl⟩
noncomputable def q135b : List Dt → Option (Bool × List Dt)
  | [.d (.sl .metric) []] => some (true, [.d (.sl .metric) []])
  | _ => none
noncomputable def q135 : List Dt → Option (Bool × List Dt)
  | [.d (.sl .metric) a0] => some (Nat.ble a0.length LIM, [.d (.sl .metric) a0])
  | _ => none
noncomputable def s135 : Gm.Spec := Gm.Spec.of [.ro] [false] true q135
theorem good135 : Gm.Good Try.prog (135, s135) := by
  refine ⟨⟨spec_clone (q := q135) (qb := q135b) good135a.1.1 (spec_cloneE (t := .metric) clE135 fun ds outs h => ?_) fun ds outs h => ?_, _, Try.func135, by kernel_rfl, of_decide_eq_true (by kernel_rfl)⟩, Gm.Spec.of_natl _ _ _ _⟩
  · unfold q135b at h
    split at h
    · simp only [Option.some.injEq, Prod.mk.injEq, true_and] at h
      exact ⟨rfl, h.symm⟩
    · cases h
  · unfold q135 at h
    split at h
    · rename_i a0
      simp only [Option.some.injEq, Prod.mk.injEq] at h
      obtain ⟨hg, rfl⟩ := h
      cases a0 with
      | nil => exact .inr rfl
      | cons x r => refine .inl ?_; simp only [q135a, List.isEmpty_cons, Bool.not_false, Bool.true_and, hg]
    · cases h
/-! ### slices.Clone[[]loop.example/g00465/impl.Note,loop.example/g00465/impl.Note] -/
noncomputable def f136ac : Code := (Try.f136.body).getD .skip
def f136ak : Nat → Kp := kat [⟨[0], [], [], []⟩, ⟨[0, 4], [], [], []⟩, ⟨[2], [], [], []⟩, ⟨[2], [], [], []⟩]
noncomputable def f136ae : Env := tab.env []
theorem f136a_run {R : Type} (n : Nat) (k : List Dt → Option R) (a0 : List NoteT) : evFn f136ae f136ak n f136ac [.ro] [false] true [.tmp 2] [43] [.d (.sl .note) a0] k =
    (cond (List.isEmpty a0)
    none
    (cond (Nat.ble (0 + a0.length) LIM)
      (k [.d (.sl .note) (([] : List NoteT) ++ a0)])
      none)) := by kernel_rfl
theorem f136a_spec (a0 : List NoteT) (hg : (fun (x : List NoteT) => !(x.isEmpty) && Nat.ble x.length LIM) a0 = true) : ∃ keep rounds, ∀ {R : Type} (k : List Dt → Option R), evFn f136ae keep rounds f136ac [.ro] [false] true [.tmp 2] [43] [.d (.sl .note) a0] k = k [.d (.sl .note) a0] := by
  simp only [Bool.and_eq_true, Bool.not_eq_true'] at hg
  obtain ⟨h1, h2⟩ := hg
  refine ⟨f136ak, 0, fun {R} k => ?_⟩
  rw [f136a_run, h1, Nat.zero_add, h2]
  simp only [cond_true, cond_false, List.nil_append]

noncomputable def q136a : List Dt → Option (Bool × List Dt)
  | [.d (.sl .note) a0] => some (((fun (x : List NoteT) => !(x.isEmpty) && Nat.ble x.length LIM) a0), [.d (.sl .note) a0])
  | _ => none
noncomputable def s136a : Gm.Spec := Gm.Spec.of [.ro] [false] true q136a
theorem good136a : Gm.Good Try.prog (136, s136a) := by
  have hl : ∀ x ∈ ([] : List (Nat × Gm.Spec)), Gm.Good Try.prog x := fun _ h => by cases h
  refine ⟨⟨spec_ok (tab_ok.env hl) (tab.natl hl) Try.func136 (by kernel_rfl : Try.f136.body = some f136ac) [43] (by kernel_rfl) ?_, _, Try.func136, by kernel_rfl, of_decide_eq_true (by kernel_rfl)⟩, Gm.Spec.of_natl _ _ _ _⟩
  intro ds outs h
  unfold q136a at h
  split at h
  · simp only [Option.some.injEq, Prod.mk.injEq] at h; obtain ⟨hg, h⟩ := h; cases h; exact f136a_spec _ hg
  · cases h
set_option maxHeartbeats 1000000 in
set_option maxRecDepth 100000 in
theorem clE136 : CloneE Try.prog 136 := by
  intro a c w
  cases a with
  | none =>
    have q22 : ∀ (w : World) (n c n' c' : Nat), (binOp .eql 43 (.slice none n c) (.slice none n' c')).run Try.prog w = .ok (.bool true) w := fun w n c n' c' => Lib.run_eql_slice_nil w _ _ none n c n' c' Try.underlying43
    go_enter Try.func136, Try.ntmps136
    go_wp2
    go_ret
    exact .inl ⟨rfl, rfl⟩
  | some a =>
    have q22 : ∀ (w : World) (n c n' c' : Nat), (binOp .eql 43 (.slice (some a) n c) (.slice none n' c')).run Try.prog w = .ok (.bool false) w := fun w n c n' c' => Lib.run_eql_slice_nil w _ _ (some a) n c n' c' Try.underlying43
    go_enter Try.func136, Try.ntmps136
    go_wp2
    go_ret
    exact .inr ⟨_, rfl, rfl⟩
noncomputable def q136b : List Dt → Option (Bool × List Dt)
  | [.d (.sl .note) []] => some (true, [.d (.sl .note) []])
  | _ => none
noncomputable def q136 : List Dt → Option (Bool × List Dt)
  | [.d (.sl .note) a0] => some (Nat.ble a0.length LIM, [.d (.sl .note) a0])
  | _ => none
noncomputable def s136 : Gm.Spec := Gm.Spec.of [.ro] [false] true q136
theorem good136 : Gm.Good Try.prog (136, s136) := by
  refine ⟨⟨spec_clone (q := q136) (qb := q136b) good136a.1.1 (spec_cloneE (t := .note) clE136 fun ds outs h => ?_) fun ds outs h => ?_, _, Try.func136, by kernel_rfl, of_decide_eq_true (by kernel_rfl)⟩, Gm.Spec.of_natl _ _ _ _⟩
  · unfold q136b at h
    split at h
    · simp only [Option.some.injEq, Prod.mk.injEq, true_and] at h
      exact ⟨rfl, h.symm⟩
    · cases h
  · unfold q136 at h
    split at h
    · rename_i a0
      simp only [Option.some.injEq, Prod.mk.injEq] at h
      obtain ⟨hg, rfl⟩ := h
      cases a0 with
      | nil => exact .inr rfl
      | cons x r => refine .inl ?_; simp only [q136a, List.isEmpty_cons, Bool.not_false, Bool.true_and, hg]
    · cases h
/-! ### loop.example/g00465/spec.l6Copy -/
noncomputable def f111c : Code := (Try.f111.body).getD .skip
def f111k : Nat → Kp := kat [⟨[1, 2], [], [], []⟩, ⟨[1, 2], [], [], []⟩, ⟨[1, 2], [], [], []⟩, ⟨[2], [], [], []⟩]
noncomputable def f111e : Env := tab.env []
theorem f111_run {R : Type} (n : Nat) (k : List Dt → Option R) (a0 : OrderT) : evFn f111e f111k n f111c [.ro] [false] true [.cell 2 45] [45] [.d .order a0] k =
    (cond (Nat.ble (0 + (OrderT.metrics a0).length) LIM)
    (cond (Nat.ble (0 + (OrderT.notes a0).length) LIM)
      (k [.d .order (⟨(OrderT.name a0), (OrderT.target a0), (OrderT.low a0), (OrderT.high a0), (([] : List MetricT) ++ (OrderT.metrics a0)), (OrderT.pace a0), (([] : List NoteT) ++ (OrderT.notes a0))⟩ : OrderT)])
      none)
    none) := by kernel_rfl
theorem f111_spec (a0 : OrderT) (hg : sm_order a0 = true) : ∃ keep rounds, ∀ {R : Type} (k : List Dt → Option R), evFn f111e keep rounds f111c [.ro] [false] true [.cell 2 45] [45] [.d .order a0] k = k [.d .order a0] := by
  simp only [sm_order, Bool.and_eq_true] at hg
  obtain ⟨_, _, _, _, hm, _, hno⟩ := hg
  have h1 := limLe (smL_len hm)
  have h2 := limLe (smL_len hno)
  refine ⟨f111k, 0, fun {R} k => ?_⟩
  rw [f111_run]
  simp only [Nat.zero_add, List.nil_append, h1, h2, cond_true]

noncomputable def q111 : List Dt → Option (Bool × List Dt)
  | [.d .order a0] => some ((sm_order a0), [.d .order a0])
  | _ => none
noncomputable def s111 : Gm.Spec := Gm.Spec.of [.ro] [false] true q111
theorem good111 : Gm.Good Try.prog (111, s111) := by
  have hl : ∀ x ∈ ([] : List (Nat × Gm.Spec)), Gm.Good Try.prog x := fun _ h => by cases h
  refine ⟨⟨spec_ok (tab_ok.env hl) (tab.natl hl) Try.func111 (by kernel_rfl : Try.f111.body = some f111c) [45] (by kernel_rfl) ?_, _, Try.func111, by kernel_rfl, of_decide_eq_true (by kernel_rfl)⟩, Gm.Spec.of_natl _ _ _ _⟩
  intro ds outs h
  unfold q111 at h
  split at h
  · simp only [Option.some.injEq, Prod.mk.injEq] at h; obtain ⟨hg, h⟩ := h; cases h; exact f111_spec _ hg
  · cases h
/-! ### loop.example/g00465/impl.copyOrder -/
noncomputable def f104c : Code := (Try.f104.body).getD .skip
def f104k : Nat → Kp := kat [⟨[1, 2], [], [], []⟩, ⟨[1, 2], [], [], []⟩, ⟨[1, 2], [], [], []⟩, ⟨[2], [], [], []⟩]
noncomputable def f104e : Env := tab.env [(135, s135), (136, s136)]
theorem f104_run {R : Type} (n : Nat) (k : List Dt → Option R) (a0 : OrderT) : evFn f104e f104k n f104c [.ro] [false] true [.cell 2 45] [45] [.d .order a0] k =
    (cond ((fun (x : List MetricT) => Nat.ble x.length LIM) (OrderT.metrics a0))
    (cond ((fun (x : List NoteT) => Nat.ble x.length LIM) (OrderT.notes a0))
      (k [.d .order a0])
      none)
    none) := by kernel_rfl
theorem f104_spec (a0 : OrderT) (hg : sm_order a0 = true) : ∃ keep rounds, ∀ {R : Type} (k : List Dt → Option R), evFn f104e keep rounds f104c [.ro] [false] true [.cell 2 45] [45] [.d .order a0] k = k [.d .order a0] := by
  simp only [sm_order, Bool.and_eq_true] at hg
  obtain ⟨_, _, _, _, hm, _, hno⟩ := hg
  have h1 := limLe (smL_len hm)
  have h2 := limLe (smL_len hno)
  refine ⟨f104k, 0, fun {R} k => ?_⟩
  rw [f104_run]
  simp only [Nat.zero_add, List.nil_append, h1, h2, cond_true]

noncomputable def q104 : List Dt → Option (Bool × List Dt)
  | [.d .order a0] => some ((sm_order a0), [.d .order a0])
  | _ => none
noncomputable def s104 : Gm.Spec := Gm.Spec.of [.ro] [false] true q104
theorem good104 : Gm.Good Try.prog (104, s104) := by
  have hl : ∀ x ∈ [(135, s135), (136, s136)], Gm.Good Try.prog x := List.forall_mem_cons.2 ⟨good135, List.forall_mem_cons.2 ⟨good136, List.forall_mem_nil _⟩⟩
  refine ⟨⟨spec_ok (tab_ok.env hl) (tab.natl hl) Try.func104 (by kernel_rfl : Try.f104.body = some f104c) [45] (by kernel_rfl) ?_, _, Try.func104, by kernel_rfl, of_decide_eq_true (by kernel_rfl)⟩, Gm.Spec.of_natl _ _ _ _⟩
  intro ds outs h
  unfold q104 at h
  split at h
  · simp only [Option.some.injEq, Prod.mk.injEq] at h; obtain ⟨hg, h⟩ := h; cases h; exact f104_spec _ hg
  · cases h
/-! ### loop.example/g00465/spec.l26Item -/
noncomputable def f71c : Code := (Try.f71.body).getD .skip
def f71k : Nat → Kp := kat [⟨[1, 2], [], [], []⟩, ⟨[2], [], [], []⟩]
noncomputable def f71e : Env := tab.env [(111, s111)]
theorem f71_run {R : Type} (n : Nat) (k : List Dt → Option R) (a0 : ItemT) : evFn f71e f71k n f71c [.ro] [false] true [.cell 2 50] [50] [.d .item a0] k =
    (cond (sm_order (ItemT.order a0))
    (k [.d .item a0])
    none) := by kernel_rfl
theorem f71_spec (a0 : ItemT) (hg : sm_item a0 = true) : ∃ keep rounds, ∀ {R : Type} (k : List Dt → Option R), evFn f71e keep rounds f71c [.ro] [false] true [.cell 2 50] [50] [.d .item a0] k = k [.d .item a0] := by
  simp only [sm_item, Bool.and_eq_true] at hg
  refine ⟨f71k, 0, fun {R} k => ?_⟩
  rw [f71_run]
  simp only [eta_order2, eta_order, hg.1, cond_true]

noncomputable def q71 : List Dt → Option (Bool × List Dt)
  | [.d .item a0] => some ((sm_item a0), [.d .item a0])
  | _ => none
noncomputable def s71 : Gm.Spec := Gm.Spec.of [.ro] [false] true q71
theorem good71 : Gm.Good Try.prog (71, s71) := by
  have hl : ∀ x ∈ [(111, s111)], Gm.Good Try.prog x := List.forall_mem_cons.2 ⟨good111, List.forall_mem_nil _⟩
  refine ⟨⟨spec_ok (tab_ok.env hl) (tab.natl hl) Try.func71 (by kernel_rfl : Try.f71.body = some f71c) [50] (by kernel_rfl) ?_, _, Try.func71, by kernel_rfl, of_decide_eq_true (by kernel_rfl)⟩, Gm.Spec.of_natl _ _ _ _⟩
  intro ds outs h
  unfold q71 at h
  split at h
  · simp only [Option.some.injEq, Prod.mk.injEq] at h; obtain ⟨hg, h⟩ := h; cases h; exact f71_spec _ hg
  · cases h
/-! ### loop.example/g00465/impl.copyItem -/
noncomputable def f61c : Code := (Try.f61.body).getD .skip
def f61k : Nat → Kp := kat [⟨[1, 2], [], [], []⟩, ⟨[2], [], [], []⟩]
noncomputable def f61e : Env := tab.env [(104, s104)]
theorem f61_run {R : Type} (n : Nat) (k : List Dt → Option R) (a0 : ItemT) : evFn f61e f61k n f61c [.ro] [false] true [.cell 2 50] [50] [.d .item a0] k =
    (cond (sm_order (ItemT.order a0))
    (k [.d .item a0])
    none) := by kernel_rfl
theorem f61_spec (a0 : ItemT) (hg : sm_item a0 = true) : ∃ keep rounds, ∀ {R : Type} (k : List Dt → Option R), evFn f61e keep rounds f61c [.ro] [false] true [.cell 2 50] [50] [.d .item a0] k = k [.d .item a0] := by
  simp only [sm_item, Bool.and_eq_true] at hg
  refine ⟨f61k, 0, fun {R} k => ?_⟩
  rw [f61_run]
  simp only [eta_order2, eta_order, hg.1, cond_true]

noncomputable def q61 : List Dt → Option (Bool × List Dt)
  | [.d .item a0] => some ((sm_item a0), [.d .item a0])
  | _ => none
noncomputable def s61 : Gm.Spec := Gm.Spec.of [.ro] [false] true q61
theorem good61 : Gm.Good Try.prog (61, s61) := by
  have hl : ∀ x ∈ [(104, s104)], Gm.Good Try.prog x := List.forall_mem_cons.2 ⟨good104, List.forall_mem_nil _⟩
  refine ⟨⟨spec_ok (tab_ok.env hl) (tab.natl hl) Try.func61 (by kernel_rfl : Try.f61.body = some f61c) [50] (by kernel_rfl) ?_, _, Try.func61, by kernel_rfl, of_decide_eq_true (by kernel_rfl)⟩, Gm.Spec.of_natl _ _ _ _⟩
  intro ds outs h
  unfold q61 at h
  split at h
  · simp only [Option.some.injEq, Prod.mk.injEq] at h; obtain ⟨hg, h⟩ := h; cases h; exact f61_spec _ hg
  · cases h
/-! ### loop.example/g00465/impl.copyItems -/
noncomputable def f69c : Code := (Try.f69.body).getD .skip
def f69k : Nat → Kp := kat [⟨[0], [], [], []⟩, ⟨[0, 3], [], [], []⟩, ⟨[3, 7, 8, 9], [], [], []⟩, ⟨[3, 7, 8, 9, 10], [], [], []⟩, ⟨[3, 5, 7, 8, 9], [], [], []⟩, ⟨[3, 7, 8, 9], [], [], []⟩, ⟨[3, 7, 8, 9], [], [], []⟩, ⟨[2], [], [], []⟩]
noncomputable def f69e : Env := tab.env [(61, s61)]
noncomputable def f69L0 {R : Type} (n : Nat) (x0 : Int → Bool → (List ItemT) → Option R) (vs7 : List ItemT) (vs8 : Int) : Nat → Int → (List ItemT) → Option R
  | 0, _, _ => none
  | m + 1, vs9, vr384 =>
    (cond (decide (vs9 < vs8))
      (cond ((decide ((0 : Int) ≤ vs9)) && (decide (vs9 < (vs7.length : Int))))
        (cond (sm_item (atI (t := .item) vs7 (Int.toNat vs9)))
          (cond (Nat.ble (vr384.length + 1) LIM)
            (f69L0 n x0 vs7 vs8 m (IntKind.wrap .i64 (vs9 + (1 : Int))) (vr384 ++ ([(atI (t := .item) vs7 (Int.toNat vs9))] : List ItemT)))
            none)
          none)
        none)
      (x0 vs9 (decide (vs9 < vs8)) vr384))
theorem f69L0_b {R : Type} (n : Nat) (k' : Ex → St → Option R) (vs7 : List ItemT) (vs8 : Int) (vs9 : Int) (vr384 : List ItemT) : ev f69e f69k n (cAt [1,1,0,1,0,0] f69c) ⟨[(3, .c (.one (.h 384 0 0 []))), (7, .c (.one (.ro .item vs7))), (8, .c (.one (.v (.int .i64 vs8)))), (9, .c (.one (.v (.int .i64 vs9))))], [], [(384, .live ⟨.item, .deep, 0, [], vr384⟩)]⟩ k' =
    (cond (decide (vs9 < vs8))
    (cond ((decide ((0 : Int) ≤ vs9)) && (decide (vs9 < (vs7.length : Int))))
      (cond (sm_item (atI (t := .item) vs7 (Int.toNat vs9)))
        (cond (Nat.ble (vr384.length + 1) LIM)
          (k' .normal ⟨[(3, .c (.one (.h 384 0 0 []))), (7, .c (.one (.ro .item vs7))), (8, .c (.one (.v (.int .i64 vs8)))), (9, .c (.one (.v (.int .i64 (IntKind.wrap .i64 (vs9 + (1 : Int)))))))], [], [(384, .live ⟨.item, .deep, 0, [], (vr384 ++ ([(atI (t := .item) vs7 (Int.toNat vs9))] : List ItemT))⟩)]⟩)
          none)
        none)
      none)
    (k' (.exit 0) ⟨[(3, .c (.one (.h 384 0 0 []))), (7, .c (.one (.ro .item vs7))), (8, .c (.one (.v (.int .i64 vs8)))), (9, .c (.one (.v (.int .i64 vs9)))), (10, .c (.one (.v (.bool (decide (vs9 < vs8))))))], [], [(384, .live ⟨.item, .deep, 0, [], vr384⟩)]⟩)) := by kernel_rfl
theorem f69L0_eq {R : Type} (n : Nat) (k' : Ex → St → Option R) (vs7 : List ItemT) (vs8 : Int) : ∀ (m : Nat) (vs9 : Int) (vr384 : List ItemT), iter (fun st k => ev f69e f69k n (cAt [1,1,0,1,0,0] f69c) st k) m ⟨[(3, .c (.one (.h 384 0 0 []))), (7, .c (.one (.ro .item vs7))), (8, .c (.one (.v (.int .i64 vs8)))), (9, .c (.one (.v (.int .i64 vs9))))], [], [(384, .live ⟨.item, .deep, 0, [], vr384⟩)]⟩ k' = f69L0 n (fun (xvs9 : Int) (xvs10 : Bool) (xvr384 : List ItemT) => k' (.exit 0) ⟨[(3, .c (.one (.h 384 0 0 []))), (7, .c (.one (.ro .item vs7))), (8, .c (.one (.v (.int .i64 vs8)))), (9, .c (.one (.v (.int .i64 xvs9)))), (10, .c (.one (.v (.bool xvs10))))], [], [(384, .live ⟨.item, .deep, 0, [], xvr384⟩)]⟩) vs7 vs8 m vs9 vr384 := by
  intro m; induction m with
  | zero => intros; rfl
  | succ m ih =>
    intro vs9 vr384
    simp only [iter]
    rw [f69L0_b]
    simp only [ih, f69L0]

noncomputable def f69K0 {R : Type} (n : Nat) (k' : Ex → St → Option R) : Ex → St → Option R := (blockK 0 (seqK f69e f69k n (cAt [1,1,1] f69c) k'))
theorem f69K0_x0 {R : Type} (n : Nat) (k : List Dt → Option R) (a0 : List ItemT) (vs7 : List ItemT) (vs8 : Int) (xvs9 : Int) (xvs10 : Bool) (xvr384 : List ItemT) : f69K0 n (exitK f69e [.ro] [false] true [.tmp 2] [35] [.d (.sl .item) a0] k) (.exit 0) ⟨[(3, .c (.one (.h 384 0 0 []))), (7, .c (.one (.ro .item vs7))), (8, .c (.one (.v (.int .i64 vs8)))), (9, .c (.one (.v (.int .i64 xvs9)))), (10, .c (.one (.v (.bool xvs10))))], [], [(384, .live ⟨.item, .deep, 0, [], xvr384⟩)]⟩ =
    (k [.d (.sl .item) xvr384]) := by kernel_rfl

theorem f69_run {R : Type} (n : Nat) (k : List Dt → Option R) (a0 : List ItemT) : evFn f69e f69k n f69c [.ro] [false] true [.tmp 2] [35] [.d (.sl .item) a0] k =
    (f69L0 n (fun (xvs9 : Int) (xvs10 : Bool) (xvr384 : List ItemT) =>
    (k [.d (.sl .item) xvr384])) a0 (a0.length : Int) n (0 : Int) ([] : List ItemT)) := by
  refine Eq.trans (b := (iter (fun st k => ev f69e f69k n (cAt [1,1,0,1,0,0] f69c) st k) n ⟨[(3, .c (.one (.h 384 0 0 []))), (7, .c (.one (.ro .item a0))), (8, .c (.one (.v (.int .i64 (a0.length : Int))))), (9, .c (.one (.v (.int .i64 (0 : Int)))))], [], [(384, .live ⟨.item, .deep, 0, [], ([] : List ItemT)⟩)]⟩ (f69K0 n (exitK f69e [.ro] [false] true [.tmp 2] [35] [.d (.sl .item) a0] k)))) (by kernel_rfl) ?_
  simp only [f69L0_eq, f69K0_x0]
theorem f69_spec (a0 : List ItemT) (hg : smL sm_item a0 = true) : ∃ keep rounds, ∀ {R : Type} (k : List Dt → Option R), evFn f69e keep rounds f69c [.ro] [false] true [.tmp 2] [35] [.d (.sl .item) a0] k = k [.d (.sl .item) a0] := by
  have hl := smL_len hg
  refine ⟨f69k, a0.length + 1, fun {R} k => ?_⟩
  rw [f69_run]
  refine Eq.trans (loop_acc (xs := a0) (F := fun m j out => f69L0 (a0.length + 1) _ a0 (a0.length : Int) m (j : Int) out) (f := fun out x => out ++ [x]) (good := fun out => k [.d (.sl .item) out]) (fun j out => out.length ≤ j)
    (fun j out x hx hi => by simp only [List.length_append, List.length_cons, List.length_nil]; omega) (fun m j out x hx hi => ?_) (fun m out hi => by simp only [f69L0, idxE, cond_false]) a0.length 0 (a0.length + 1) [] (by omega) (by omega) (by simp)) ?_
  · obtain ⟨h1, h0, hw, ht⟩ := idx (lt_of_get hx) (by omega)
    have hj := lt_of_get hx
    have hs := List.all_eq_true.1 (smL_all hg) x (List.mem_of_getElem? hx)
    have hlim : Nat.ble (out.length + 1) LIM = true := Nat.ble_eq_true_of_le (by have : (LIM : Nat) = 4294967296 := rfl; omega)
    simp only [f69L0, h1, h0, hw, ht, atI_of (t := .item) hx, Bool.and_self, cond_true, hlim, same, eta_order2, eta_order, eta_item, eta_event, hs]
  · rw [List.drop_zero, foldl_snoc, List.nil_append]

noncomputable def q69 : List Dt → Option (Bool × List Dt)
  | [.d (.sl .item) a0] => some ((smL sm_item a0), [.d (.sl .item) a0])
  | _ => none
noncomputable def s69 : Gm.Spec := Gm.Spec.of [.ro] [false] true q69
theorem good69 : Gm.Good Try.prog (69, s69) := by
  have hl : ∀ x ∈ [(61, s61)], Gm.Good Try.prog x := List.forall_mem_cons.2 ⟨good61, List.forall_mem_nil _⟩
  refine ⟨⟨spec_ok (tab_ok.env hl) (tab.natl hl) Try.func69 (by kernel_rfl : Try.f69.body = some f69c) [35] (by kernel_rfl) ?_, _, Try.func69, by kernel_rfl, of_decide_eq_true (by kernel_rfl)⟩, Gm.Spec.of_natl _ _ _ _⟩
  intro ds outs h
  unfold q69 at h
  split at h
  · simp only [Option.some.injEq, Prod.mk.injEq] at h; obtain ⟨hg, h⟩ := h; cases h; exact f69_spec _ hg
  · cases h
end Go.Proofs.Ytnbehmbjoanfoaa

/- x -/
namespace Go.Proofs.Ytnbehmbjoanfoaa
open Go Go.Gm
/-! ### loop.example/g00465/spec.Replay -/
noncomputable def f28c : Code := (Try.f28.body).getD .skip
def f28k : Nat → Kp := kat [⟨[0, 1], [], [], []⟩, ⟨[0, 1, 5], [], [], []⟩, ⟨[0, 1, 5, 6], [], [], []⟩, ⟨[0, 1, 5, 6, 16], [], [], []⟩, ⟨[0, 1, 5, 6], [], [], []⟩, ⟨[0, 1, 5, 6], [], [], []⟩, ⟨[1, 5, 7], [], [], []⟩, ⟨[1, 5, 7, 30], [], [], []⟩, ⟨[1, 5, 7], [], [], [(2432, 768)]⟩, ⟨[1, 5, 7, 8], [], [], []⟩, ⟨[1, 5, 7, 8, 9], [], [], []⟩, ⟨[1, 5, 7, 8, 9, 10], [], [], []⟩, ⟨[1, 5, 7, 8, 9, 10, 11], [], [2000000768], []⟩, ⟨[1, 5, 7, 8, 9, 10, 11, 48], [], [], []⟩, ⟨[1, 5, 7, 8, 9, 10, 11], [], [], []⟩, ⟨[1, 5, 7, 8, 9, 10, 11, 64], [], [], []⟩, ⟨[1, 5, 7, 8, 9, 11], [], [], []⟩, ⟨[1, 5, 7, 8, 9, 10, 11], [], [], []⟩, ⟨[1, 5, 7, 8, 9, 10, 11, 79], [], [], []⟩, ⟨[1, 5, 7, 8, 9, 10, 11], [], [], []⟩, ⟨[1, 7, 8, 9, 88], [], [], []⟩, ⟨[1, 7, 9], [], [], []⟩, ⟨[1, 5, 7], [], [], []⟩, ⟨[4], [], [], []⟩]
noncomputable def f28e : Env := tab.env [(71, s71)]
noncomputable def f28L0 {R : Type} (n : Nat) (x0 : Int → Bool → (List ItemT) → Option R) (vs0 : List ItemT) (vs1 : List EventT) : Nat → Int → (List ItemT) → Option R
  | 0, _, _ => none
  | m + 1, vs6, vr768 =>
    (cond (decide (vs6 < (vs0.length : Int)))
      (cond ((decide ((0 : Int) ≤ vs6)) && (decide (vs6 < (vs0.length : Int))))
        (cond (sm_item (atI (t := .item) vs0 (Int.toNat vs6)))
          (cond (Nat.ble (vr768.length + 1) LIM)
            (f28L0 n x0 vs0 vs1 m (IntKind.wrap .i64 (vs6 + (1 : Int))) (vr768 ++ ([(atI (t := .item) vs0 (Int.toNat vs6))] : List ItemT)))
            none)
          none)
        none)
      (x0 vs6 (decide (vs6 < (vs0.length : Int))) vr768))
theorem f28L0_b {R : Type} (n : Nat) (k' : Ex → St → Option R) (vs0 : List ItemT) (vs1 : List EventT) (vs6 : Int) (vr768 : List ItemT) : ev f28e f28k n (cAt [1,1,0,1,0,0] f28c) ⟨[(0, .c (.one (.ro .item vs0))), (1, .c (.one (.ro .event vs1))), (5, .c (.one (.h 768 0 0 []))), (6, .c (.one (.v (.int .i64 vs6))))], [], [(768, .live ⟨.item, .deep, 0, [], vr768⟩)]⟩ k' =
    (cond (decide (vs6 < (vs0.length : Int)))
    (cond ((decide ((0 : Int) ≤ vs6)) && (decide (vs6 < (vs0.length : Int))))
      (cond (sm_item (atI (t := .item) vs0 (Int.toNat vs6)))
        (cond (Nat.ble (vr768.length + 1) LIM)
          (k' .normal ⟨[(0, .c (.one (.ro .item vs0))), (1, .c (.one (.ro .event vs1))), (5, .c (.one (.h 768 0 0 []))), (6, .c (.one (.v (.int .i64 (IntKind.wrap .i64 (vs6 + (1 : Int)))))))], [], [(768, .live ⟨.item, .deep, 0, [], (vr768 ++ ([(atI (t := .item) vs0 (Int.toNat vs6))] : List ItemT))⟩)]⟩)
          none)
        none)
      none)
    (k' (.exit 0) ⟨[(0, .c (.one (.ro .item vs0))), (1, .c (.one (.ro .event vs1))), (5, .c (.one (.h 768 0 0 []))), (6, .c (.one (.v (.int .i64 vs6)))), (16, .c (.one (.v (.bool (decide (vs6 < (vs0.length : Int)))))))], [], [(768, .live ⟨.item, .deep, 0, [], vr768⟩)]⟩)) := by kernel_rfl
theorem f28L0_eq {R : Type} (n : Nat) (k' : Ex → St → Option R) (vs0 : List ItemT) (vs1 : List EventT) : ∀ (m : Nat) (vs6 : Int) (vr768 : List ItemT), iter (fun st k => ev f28e f28k n (cAt [1,1,0,1,0,0] f28c) st k) m ⟨[(0, .c (.one (.ro .item vs0))), (1, .c (.one (.ro .event vs1))), (5, .c (.one (.h 768 0 0 []))), (6, .c (.one (.v (.int .i64 vs6))))], [], [(768, .live ⟨.item, .deep, 0, [], vr768⟩)]⟩ k' = f28L0 n (fun (xvs6 : Int) (xvs16 : Bool) (xvr768 : List ItemT) => k' (.exit 0) ⟨[(0, .c (.one (.ro .item vs0))), (1, .c (.one (.ro .event vs1))), (5, .c (.one (.h 768 0 0 []))), (6, .c (.one (.v (.int .i64 xvs6)))), (16, .c (.one (.v (.bool xvs16))))], [], [(768, .live ⟨.item, .deep, 0, [], xvr768⟩)]⟩) vs0 vs1 m vs6 vr768 := by
  intro m; induction m with
  | zero => intros; rfl
  | succ m ih =>
    intro vs6 vr768
    simp only [iter]
    rw [f28L0_b]
    simp only [ih, f28L0]

noncomputable def f28L1 {R : Type} (n : Nat) (x0 : Bool → Int → Bool → Nat → (List ItemT) → Option R) (vs1 : List EventT) (vs7 : Int) (vb8_0 : ByteArray) (vb8_1 : ByteArray) (vb8_2 : Int) (vb8_3 : Int) (vb8_4 : List MetricT) (vb8_5 : Int) (vb8_6 : Int) (vb8_7 : Int) (vb8_8 : Int) (vb8_9 : List NoteT) (vb8_10 : Int) (vr768 : List ItemT) : Nat → Bool → Int → Nat → (List ItemT) → Option R
  | 0, _, _, _, _ => none
  | m + 1, vs10, vs11, vr768m, vr2432 =>
    (cond (decide (vs11 < (vr768.length : Int)))
      (cond (!vs10)
        (cond ((decide ((0 : Int) ≤ vs11)) && (decide (vs11 < (vr768.length : Int))))
          (cond (!(sLt (OrderT.name (ItemT.order (atI (t := .item) vr768 (Int.toNat vs11)))) vb8_0))
            (cond (sm_item (⟨(⟨vb8_0, vb8_1, vb8_2, vb8_3, vb8_4, (⟨vb8_5, vb8_6, vb8_7, vb8_8⟩ : PaceT), vb8_9⟩ : OrderT), vb8_10⟩ : ItemT))
              (cond (Nat.ble (vr2432.length + 1) LIM)
                (cond ((decide ((0 : Int) ≤ vs11)) && (decide (vs11 < (vr768.length : Int))))
                  (cond (!(sEq (OrderT.name (ItemT.order (atI (t := .item) vr768 (Int.toNat vs11)))) vb8_0))
                    (cond ((decide ((0 : Int) ≤ vs11)) && (decide (vs11 < (vr768.length : Int))))
                      (cond (leC vr768m 0 (Int.toNat vs11) 4)
                        (cond (leC (Int.toNat vs11) 5 (Int.toNat vs11) 9)
                          (cond (Nat.ble ((vr2432 ++ ([(⟨(⟨vb8_0, vb8_1, vb8_2, vb8_3, vb8_4, (⟨vb8_5, vb8_6, vb8_7, vb8_8⟩ : PaceT), vb8_9⟩ : OrderT), vb8_10⟩ : ItemT)] : List ItemT)).length + 1) LIM)
                            (f28L1 n x0 vs1 vs7 vb8_0 vb8_1 vb8_2 vb8_3 vb8_4 vb8_5 vb8_6 vb8_7 vb8_8 vb8_9 vb8_10 vr768 m true (IntKind.wrap .i64 (vs11 + (1 : Int))) ((Int.toNat vs11) + 1) ((vr2432 ++ ([(⟨(⟨vb8_0, vb8_1, vb8_2, vb8_3, vb8_4, (⟨vb8_5, vb8_6, vb8_7, vb8_8⟩ : PaceT), vb8_9⟩ : OrderT), vb8_10⟩ : ItemT)] : List ItemT)) ++ ([(atI (t := .item) vr768 (Int.toNat vs11))] : List ItemT)))
                            none)
                          none)
                        none)
                      none)
                    (f28L1 n x0 vs1 vs7 vb8_0 vb8_1 vb8_2 vb8_3 vb8_4 vb8_5 vb8_6 vb8_7 vb8_8 vb8_9 vb8_10 vr768 m true (IntKind.wrap .i64 (vs11 + (1 : Int))) vr768m (vr2432 ++ ([(⟨(⟨vb8_0, vb8_1, vb8_2, vb8_3, vb8_4, (⟨vb8_5, vb8_6, vb8_7, vb8_8⟩ : PaceT), vb8_9⟩ : OrderT), vb8_10⟩ : ItemT)] : List ItemT))))
                  none)
                none)
              none)
            (cond ((decide ((0 : Int) ≤ vs11)) && (decide (vs11 < (vr768.length : Int))))
              (cond (!(sEq (OrderT.name (ItemT.order (atI (t := .item) vr768 (Int.toNat vs11)))) vb8_0))
                (cond ((decide ((0 : Int) ≤ vs11)) && (decide (vs11 < (vr768.length : Int))))
                  (cond (leC vr768m 0 (Int.toNat vs11) 4)
                    (cond (leC (Int.toNat vs11) 5 (Int.toNat vs11) 9)
                      (cond (Nat.ble (vr2432.length + 1) LIM)
                        (f28L1 n x0 vs1 vs7 vb8_0 vb8_1 vb8_2 vb8_3 vb8_4 vb8_5 vb8_6 vb8_7 vb8_8 vb8_9 vb8_10 vr768 m vs10 (IntKind.wrap .i64 (vs11 + (1 : Int))) ((Int.toNat vs11) + 1) (vr2432 ++ ([(atI (t := .item) vr768 (Int.toNat vs11))] : List ItemT)))
                        none)
                      none)
                    none)
                  none)
                (f28L1 n x0 vs1 vs7 vb8_0 vb8_1 vb8_2 vb8_3 vb8_4 vb8_5 vb8_6 vb8_7 vb8_8 vb8_9 vb8_10 vr768 m vs10 (IntKind.wrap .i64 (vs11 + (1 : Int))) vr768m vr2432))
              none))
          none)
        (cond ((decide ((0 : Int) ≤ vs11)) && (decide (vs11 < (vr768.length : Int))))
          (cond (!(sEq (OrderT.name (ItemT.order (atI (t := .item) vr768 (Int.toNat vs11)))) vb8_0))
            (cond ((decide ((0 : Int) ≤ vs11)) && (decide (vs11 < (vr768.length : Int))))
              (cond (leC vr768m 0 (Int.toNat vs11) 4)
                (cond (leC (Int.toNat vs11) 5 (Int.toNat vs11) 9)
                  (cond (Nat.ble (vr2432.length + 1) LIM)
                    (f28L1 n x0 vs1 vs7 vb8_0 vb8_1 vb8_2 vb8_3 vb8_4 vb8_5 vb8_6 vb8_7 vb8_8 vb8_9 vb8_10 vr768 m vs10 (IntKind.wrap .i64 (vs11 + (1 : Int))) ((Int.toNat vs11) + 1) (vr2432 ++ ([(atI (t := .item) vr768 (Int.toNat vs11))] : List ItemT)))
                    none)
                  none)
                none)
              none)
            (f28L1 n x0 vs1 vs7 vb8_0 vb8_1 vb8_2 vb8_3 vb8_4 vb8_5 vb8_6 vb8_7 vb8_8 vb8_9 vb8_10 vr768 m vs10 (IntKind.wrap .i64 (vs11 + (1 : Int))) vr768m vr2432))
          none))
      (x0 vs10 vs11 (decide (vs11 < (vr768.length : Int))) vr768m vr2432))
theorem f28L1_b {R : Type} (n : Nat) (k' : Ex → St → Option R) (vs1 : List EventT) (vs7 : Int) (vs10 : Bool) (vs11 : Int) (vb8_0 : ByteArray) (vb8_1 : ByteArray) (vb8_2 : Int) (vb8_3 : Int) (vb8_4 : List MetricT) (vb8_5 : Int) (vb8_6 : Int) (vb8_7 : Int) (vb8_8 : Int) (vb8_9 : List NoteT) (vb8_10 : Int) (vr768m : Nat) (vr768 : List ItemT) (vr2432 : List ItemT) : ev f28e f28k n (cAt [1,1,1,0,1,0,0,1,0,0,1,1,1,0,1,0,0] f28c) ⟨[(1, .c (.one (.ro .event vs1))), (5, .c (.one (.h 768 0 0 []))), (7, .c (.one (.v (.int .i64 vs7)))), (8, .c (.one (.pt 8 0))), (9, .c (.one (.h 2432 0 0 []))), (10, .c (.one (.v (.bool vs10)))), (11, .c (.one (.v (.int .i64 vs11))))], [(8, ⟨.item, [.v (.string vb8_0), .v (.string vb8_1), .v (.int .i64 vb8_2), .v (.int .i64 vb8_3), .ro .metric vb8_4, .v (.int .i64 vb8_5), .v (.int .i64 vb8_6), .v (.int .i64 vb8_7), .v (.int .i64 vb8_8), .ro .note vb8_9, .v (.int .i64 vb8_10)]⟩)], [(768, .live ⟨.item, (.part (.cur vr768m 0)), 0, [], vr768⟩), (2432, .live ⟨.item, .deep, 0, [], vr2432⟩)]⟩ k' =
    (cond (decide (vs11 < (vr768.length : Int)))
    (cond (!vs10)
      (cond ((decide ((0 : Int) ≤ vs11)) && (decide (vs11 < (vr768.length : Int))))
        (cond (!(sLt (OrderT.name (ItemT.order (atI (t := .item) vr768 (Int.toNat vs11)))) vb8_0))
          (cond (sm_item (⟨(⟨vb8_0, vb8_1, vb8_2, vb8_3, vb8_4, (⟨vb8_5, vb8_6, vb8_7, vb8_8⟩ : PaceT), vb8_9⟩ : OrderT), vb8_10⟩ : ItemT))
            (cond (Nat.ble (vr2432.length + 1) LIM)
              (cond ((decide ((0 : Int) ≤ vs11)) && (decide (vs11 < (vr768.length : Int))))
                (cond (!(sEq (OrderT.name (ItemT.order (atI (t := .item) vr768 (Int.toNat vs11)))) vb8_0))
                  (cond ((decide ((0 : Int) ≤ vs11)) && (decide (vs11 < (vr768.length : Int))))
                    (cond (leC vr768m 0 (Int.toNat vs11) 4)
                      (cond (leC (Int.toNat vs11) 5 (Int.toNat vs11) 9)
                        (cond (Nat.ble ((vr2432 ++ ([(⟨(⟨vb8_0, vb8_1, vb8_2, vb8_3, vb8_4, (⟨vb8_5, vb8_6, vb8_7, vb8_8⟩ : PaceT), vb8_9⟩ : OrderT), vb8_10⟩ : ItemT)] : List ItemT)).length + 1) LIM)
                          (k' .normal ⟨[(1, .c (.one (.ro .event vs1))), (5, .c (.one (.h 768 0 0 []))), (7, .c (.one (.v (.int .i64 vs7)))), (8, .c (.one (.pt 8 0))), (9, .c (.one (.h 2432 0 0 []))), (10, .c (.one (.v (.bool true)))), (11, .c (.one (.v (.int .i64 (IntKind.wrap .i64 (vs11 + (1 : Int)))))))], [(8, ⟨.item, [.v (.string vb8_0), .v (.string vb8_1), .v (.int .i64 vb8_2), .v (.int .i64 vb8_3), .ro .metric vb8_4, .v (.int .i64 vb8_5), .v (.int .i64 vb8_6), .v (.int .i64 vb8_7), .v (.int .i64 vb8_8), .ro .note vb8_9, .v (.int .i64 vb8_10)]⟩)], [(768, .live ⟨.item, (.part (.cur ((Int.toNat vs11) + 1) 0)), 0, [], vr768⟩), (2432, .live ⟨.item, .deep, 0, [], ((vr2432 ++ ([(⟨(⟨vb8_0, vb8_1, vb8_2, vb8_3, vb8_4, (⟨vb8_5, vb8_6, vb8_7, vb8_8⟩ : PaceT), vb8_9⟩ : OrderT), vb8_10⟩ : ItemT)] : List ItemT)) ++ ([(atI (t := .item) vr768 (Int.toNat vs11))] : List ItemT))⟩)]⟩)
                          none)
                        none)
                      none)
                    none)
                  (k' .normal ⟨[(1, .c (.one (.ro .event vs1))), (5, .c (.one (.h 768 0 0 []))), (7, .c (.one (.v (.int .i64 vs7)))), (8, .c (.one (.pt 8 0))), (9, .c (.one (.h 2432 0 0 []))), (10, .c (.one (.v (.bool true)))), (11, .c (.one (.v (.int .i64 (IntKind.wrap .i64 (vs11 + (1 : Int)))))))], [(8, ⟨.item, [.v (.string vb8_0), .v (.string vb8_1), .v (.int .i64 vb8_2), .v (.int .i64 vb8_3), .ro .metric vb8_4, .v (.int .i64 vb8_5), .v (.int .i64 vb8_6), .v (.int .i64 vb8_7), .v (.int .i64 vb8_8), .ro .note vb8_9, .v (.int .i64 vb8_10)]⟩)], [(768, .live ⟨.item, (.part (.cur vr768m 0)), 0, [], vr768⟩), (2432, .live ⟨.item, .deep, 0, [], (vr2432 ++ ([(⟨(⟨vb8_0, vb8_1, vb8_2, vb8_3, vb8_4, (⟨vb8_5, vb8_6, vb8_7, vb8_8⟩ : PaceT), vb8_9⟩ : OrderT), vb8_10⟩ : ItemT)] : List ItemT))⟩)]⟩))
                none)
              none)
            none)
          (cond ((decide ((0 : Int) ≤ vs11)) && (decide (vs11 < (vr768.length : Int))))
            (cond (!(sEq (OrderT.name (ItemT.order (atI (t := .item) vr768 (Int.toNat vs11)))) vb8_0))
              (cond ((decide ((0 : Int) ≤ vs11)) && (decide (vs11 < (vr768.length : Int))))
                (cond (leC vr768m 0 (Int.toNat vs11) 4)
                  (cond (leC (Int.toNat vs11) 5 (Int.toNat vs11) 9)
                    (cond (Nat.ble (vr2432.length + 1) LIM)
                      (k' .normal ⟨[(1, .c (.one (.ro .event vs1))), (5, .c (.one (.h 768 0 0 []))), (7, .c (.one (.v (.int .i64 vs7)))), (8, .c (.one (.pt 8 0))), (9, .c (.one (.h 2432 0 0 []))), (10, .c (.one (.v (.bool vs10)))), (11, .c (.one (.v (.int .i64 (IntKind.wrap .i64 (vs11 + (1 : Int)))))))], [(8, ⟨.item, [.v (.string vb8_0), .v (.string vb8_1), .v (.int .i64 vb8_2), .v (.int .i64 vb8_3), .ro .metric vb8_4, .v (.int .i64 vb8_5), .v (.int .i64 vb8_6), .v (.int .i64 vb8_7), .v (.int .i64 vb8_8), .ro .note vb8_9, .v (.int .i64 vb8_10)]⟩)], [(768, .live ⟨.item, (.part (.cur ((Int.toNat vs11) + 1) 0)), 0, [], vr768⟩), (2432, .live ⟨.item, .deep, 0, [], (vr2432 ++ ([(atI (t := .item) vr768 (Int.toNat vs11))] : List ItemT))⟩)]⟩)
                      none)
                    none)
                  none)
                none)
              (k' .normal ⟨[(1, .c (.one (.ro .event vs1))), (5, .c (.one (.h 768 0 0 []))), (7, .c (.one (.v (.int .i64 vs7)))), (8, .c (.one (.pt 8 0))), (9, .c (.one (.h 2432 0 0 []))), (10, .c (.one (.v (.bool vs10)))), (11, .c (.one (.v (.int .i64 (IntKind.wrap .i64 (vs11 + (1 : Int)))))))], [(8, ⟨.item, [.v (.string vb8_0), .v (.string vb8_1), .v (.int .i64 vb8_2), .v (.int .i64 vb8_3), .ro .metric vb8_4, .v (.int .i64 vb8_5), .v (.int .i64 vb8_6), .v (.int .i64 vb8_7), .v (.int .i64 vb8_8), .ro .note vb8_9, .v (.int .i64 vb8_10)]⟩)], [(768, .live ⟨.item, (.part (.cur vr768m 0)), 0, [], vr768⟩), (2432, .live ⟨.item, .deep, 0, [], vr2432⟩)]⟩))
            none))
        none)
      (cond ((decide ((0 : Int) ≤ vs11)) && (decide (vs11 < (vr768.length : Int))))
        (cond (!(sEq (OrderT.name (ItemT.order (atI (t := .item) vr768 (Int.toNat vs11)))) vb8_0))
          (cond ((decide ((0 : Int) ≤ vs11)) && (decide (vs11 < (vr768.length : Int))))
            (cond (leC vr768m 0 (Int.toNat vs11) 4)
              (cond (leC (Int.toNat vs11) 5 (Int.toNat vs11) 9)
                (cond (Nat.ble (vr2432.length + 1) LIM)
                  (k' .normal ⟨[(1, .c (.one (.ro .event vs1))), (5, .c (.one (.h 768 0 0 []))), (7, .c (.one (.v (.int .i64 vs7)))), (8, .c (.one (.pt 8 0))), (9, .c (.one (.h 2432 0 0 []))), (10, .c (.one (.v (.bool vs10)))), (11, .c (.one (.v (.int .i64 (IntKind.wrap .i64 (vs11 + (1 : Int)))))))], [(8, ⟨.item, [.v (.string vb8_0), .v (.string vb8_1), .v (.int .i64 vb8_2), .v (.int .i64 vb8_3), .ro .metric vb8_4, .v (.int .i64 vb8_5), .v (.int .i64 vb8_6), .v (.int .i64 vb8_7), .v (.int .i64 vb8_8), .ro .note vb8_9, .v (.int .i64 vb8_10)]⟩)], [(768, .live ⟨.item, (.part (.cur ((Int.toNat vs11) + 1) 0)), 0, [], vr768⟩), (2432, .live ⟨.item, .deep, 0, [], (vr2432 ++ ([(atI (t := .item) vr768 (Int.toNat vs11))] : List ItemT))⟩)]⟩)
                  none)
                none)
              none)
            none)
          (k' .normal ⟨[(1, .c (.one (.ro .event vs1))), (5, .c (.one (.h 768 0 0 []))), (7, .c (.one (.v (.int .i64 vs7)))), (8, .c (.one (.pt 8 0))), (9, .c (.one (.h 2432 0 0 []))), (10, .c (.one (.v (.bool vs10)))), (11, .c (.one (.v (.int .i64 (IntKind.wrap .i64 (vs11 + (1 : Int)))))))], [(8, ⟨.item, [.v (.string vb8_0), .v (.string vb8_1), .v (.int .i64 vb8_2), .v (.int .i64 vb8_3), .ro .metric vb8_4, .v (.int .i64 vb8_5), .v (.int .i64 vb8_6), .v (.int .i64 vb8_7), .v (.int .i64 vb8_8), .ro .note vb8_9, .v (.int .i64 vb8_10)]⟩)], [(768, .live ⟨.item, (.part (.cur vr768m 0)), 0, [], vr768⟩), (2432, .live ⟨.item, .deep, 0, [], vr2432⟩)]⟩))
        none))
    (k' (.exit 4) ⟨[(1, .c (.one (.ro .event vs1))), (5, .c (.one (.h 768 0 0 []))), (7, .c (.one (.v (.int .i64 vs7)))), (8, .c (.one (.pt 8 0))), (9, .c (.one (.h 2432 0 0 []))), (10, .c (.one (.v (.bool vs10)))), (11, .c (.one (.v (.int .i64 vs11)))), (48, .c (.one (.v (.bool (decide (vs11 < (vr768.length : Int)))))))], [(8, ⟨.item, [.v (.string vb8_0), .v (.string vb8_1), .v (.int .i64 vb8_2), .v (.int .i64 vb8_3), .ro .metric vb8_4, .v (.int .i64 vb8_5), .v (.int .i64 vb8_6), .v (.int .i64 vb8_7), .v (.int .i64 vb8_8), .ro .note vb8_9, .v (.int .i64 vb8_10)]⟩)], [(768, .live ⟨.item, (.part (.cur vr768m 0)), 0, [], vr768⟩), (2432, .live ⟨.item, .deep, 0, [], vr2432⟩)]⟩)) := by kernel_rfl
theorem f28L1_eq {R : Type} (n : Nat) (k' : Ex → St → Option R) (vs1 : List EventT) (vs7 : Int) (vb8_0 : ByteArray) (vb8_1 : ByteArray) (vb8_2 : Int) (vb8_3 : Int) (vb8_4 : List MetricT) (vb8_5 : Int) (vb8_6 : Int) (vb8_7 : Int) (vb8_8 : Int) (vb8_9 : List NoteT) (vb8_10 : Int) (vr768 : List ItemT) : ∀ (m : Nat) (vs10 : Bool) (vs11 : Int) (vr768m : Nat) (vr2432 : List ItemT), iter (fun st k => ev f28e f28k n (cAt [1,1,1,0,1,0,0,1,0,0,1,1,1,0,1,0,0] f28c) st k) m ⟨[(1, .c (.one (.ro .event vs1))), (5, .c (.one (.h 768 0 0 []))), (7, .c (.one (.v (.int .i64 vs7)))), (8, .c (.one (.pt 8 0))), (9, .c (.one (.h 2432 0 0 []))), (10, .c (.one (.v (.bool vs10)))), (11, .c (.one (.v (.int .i64 vs11))))], [(8, ⟨.item, [.v (.string vb8_0), .v (.string vb8_1), .v (.int .i64 vb8_2), .v (.int .i64 vb8_3), .ro .metric vb8_4, .v (.int .i64 vb8_5), .v (.int .i64 vb8_6), .v (.int .i64 vb8_7), .v (.int .i64 vb8_8), .ro .note vb8_9, .v (.int .i64 vb8_10)]⟩)], [(768, .live ⟨.item, (.part (.cur vr768m 0)), 0, [], vr768⟩), (2432, .live ⟨.item, .deep, 0, [], vr2432⟩)]⟩ k' = f28L1 n (fun (xvs10 : Bool) (xvs11 : Int) (xvs48 : Bool) (xvr768m : Nat) (xvr2432 : List ItemT) => k' (.exit 4) ⟨[(1, .c (.one (.ro .event vs1))), (5, .c (.one (.h 768 0 0 []))), (7, .c (.one (.v (.int .i64 vs7)))), (8, .c (.one (.pt 8 0))), (9, .c (.one (.h 2432 0 0 []))), (10, .c (.one (.v (.bool xvs10)))), (11, .c (.one (.v (.int .i64 xvs11)))), (48, .c (.one (.v (.bool xvs48))))], [(8, ⟨.item, [.v (.string vb8_0), .v (.string vb8_1), .v (.int .i64 vb8_2), .v (.int .i64 vb8_3), .ro .metric vb8_4, .v (.int .i64 vb8_5), .v (.int .i64 vb8_6), .v (.int .i64 vb8_7), .v (.int .i64 vb8_8), .ro .note vb8_9, .v (.int .i64 vb8_10)]⟩)], [(768, .live ⟨.item, (.part (.cur xvr768m 0)), 0, [], vr768⟩), (2432, .live ⟨.item, .deep, 0, [], xvr2432⟩)]⟩) vs1 vs7 vb8_0 vb8_1 vb8_2 vb8_3 vb8_4 vb8_5 vb8_6 vb8_7 vb8_8 vb8_9 vb8_10 vr768 m vs10 vs11 vr768m vr2432 := by
  intro m; induction m with
  | zero => intros; rfl
  | succ m ih =>
    intro vs10 vs11 vr768m vr2432
    simp only [iter]
    rw [f28L1_b]
    simp only [ih, f28L1]

noncomputable def f28K1 {R : Type} (n : Nat) (k' : Ex → St → Option R) : Ex → St → Option R := (blockK 4 (seqK f28e f28k n (cAt [1,1,1,0,1,0,0,1,0,0,1,1,1,1] f28c) (blockK 3 (seqK f28e f28k n (cAt [1,1,1,0,1,0,0,1,1] f28c) k'))))
theorem f28K1_x0 {R : Type} (n : Nat) (k' : Ex → St → Option R) (vs1 : List EventT) (vs7 : Int) (vb8_0 : ByteArray) (vb8_1 : ByteArray) (vb8_2 : Int) (vb8_3 : Int) (vb8_4 : List MetricT) (vb8_5 : Int) (vb8_6 : Int) (vb8_7 : Int) (vb8_8 : Int) (vb8_9 : List NoteT) (vb8_10 : Int) (vr768 : List ItemT) (xvs10 : Bool) (xvs11 : Int) (xvs48 : Bool) (xvr768m : Nat) (xvr2432 : List ItemT) : f28K1 n k' (.exit 4) ⟨[(1, .c (.one (.ro .event vs1))), (5, .c (.one (.h 768 0 0 []))), (7, .c (.one (.v (.int .i64 vs7)))), (8, .c (.one (.pt 8 0))), (9, .c (.one (.h 2432 0 0 []))), (10, .c (.one (.v (.bool xvs10)))), (11, .c (.one (.v (.int .i64 xvs11)))), (48, .c (.one (.v (.bool xvs48))))], [(8, ⟨.item, [.v (.string vb8_0), .v (.string vb8_1), .v (.int .i64 vb8_2), .v (.int .i64 vb8_3), .ro .metric vb8_4, .v (.int .i64 vb8_5), .v (.int .i64 vb8_6), .v (.int .i64 vb8_7), .v (.int .i64 vb8_8), .ro .note vb8_9, .v (.int .i64 vb8_10)]⟩)], [(768, .live ⟨.item, (.part (.cur xvr768m 0)), 0, [], vr768⟩), (2432, .live ⟨.item, .deep, 0, [], xvr2432⟩)]⟩ =
    (cond (!xvs10)
    (cond (sm_item (⟨(⟨vb8_0, vb8_1, vb8_2, vb8_3, vb8_4, (⟨vb8_5, vb8_6, vb8_7, vb8_8⟩ : PaceT), vb8_9⟩ : OrderT), vb8_10⟩ : ItemT))
      (cond (Nat.ble (xvr2432.length + 1) LIM)
        (k' .normal ⟨[(1, .c (.one (.ro .event vs1))), (5, .c (.one (.h 768 0 0 []))), (7, .c (.one (.v (.int .i64 (IntKind.wrap .i64 (vs7 + (1 : Int)))))))], [], [(768, .live ⟨.item, .deep, 0, [], (xvr2432 ++ ([(⟨(⟨vb8_0, vb8_1, vb8_2, vb8_3, vb8_4, (⟨vb8_5, vb8_6, vb8_7, vb8_8⟩ : PaceT), vb8_9⟩ : OrderT), vb8_10⟩ : ItemT)] : List ItemT))⟩)]⟩)
        none)
      none)
    (k' .normal ⟨[(1, .c (.one (.ro .event vs1))), (5, .c (.one (.h 768 0 0 []))), (7, .c (.one (.v (.int .i64 (IntKind.wrap .i64 (vs7 + (1 : Int)))))))], [], [(768, .live ⟨.item, .deep, 0, [], xvr2432⟩)]⟩)) := by kernel_rfl

noncomputable def f28L2 {R : Type} (n : Nat) (x0 : Int → Bool → (List ItemT) → Option R) (vs1 : List EventT) : Nat → Int → (List ItemT) → Option R
  | 0, _, _ => none
  | m + 1, vs7, vr768 =>
    (cond (decide (vs7 < (vs1.length : Int)))
      (cond ((decide ((0 : Int) ≤ vs7)) && (decide (vs7 < (vs1.length : Int))))
        (cond ((decide ((0 : Int) ≤ vs7)) && (decide (vs7 < (vs1.length : Int))))
          (f28L1 n (fun (xvs10 : Bool) (xvs11 : Int) (xvs48 : Bool) (xvr768m : Nat) (xvr2432 : List ItemT) =>
            (cond (!xvs10)
              (cond (sm_item (⟨(⟨(OrderT.name (ItemT.order (EventT.item (atI (t := .event) vs1 (Int.toNat vs7))))), (OrderT.target (ItemT.order (EventT.item (atI (t := .event) vs1 (Int.toNat vs7))))), (OrderT.low (ItemT.order (EventT.item (atI (t := .event) vs1 (Int.toNat vs7))))), (OrderT.high (ItemT.order (EventT.item (atI (t := .event) vs1 (Int.toNat vs7))))), (OrderT.metrics (ItemT.order (EventT.item (atI (t := .event) vs1 (Int.toNat vs7))))), (⟨(PaceT.up (OrderT.pace (ItemT.order (EventT.item (atI (t := .event) vs1 (Int.toNat vs7)))))), (PaceT.down (OrderT.pace (ItemT.order (EventT.item (atI (t := .event) vs1 (Int.toNat vs7)))))), (PaceT.upSpan (OrderT.pace (ItemT.order (EventT.item (atI (t := .event) vs1 (Int.toNat vs7)))))), (PaceT.downSpan (OrderT.pace (ItemT.order (EventT.item (atI (t := .event) vs1 (Int.toNat vs7))))))⟩ : PaceT), (OrderT.notes (ItemT.order (EventT.item (atI (t := .event) vs1 (Int.toNat vs7)))))⟩ : OrderT), (ItemT.ver (EventT.item (atI (t := .event) vs1 (Int.toNat vs7))))⟩ : ItemT))
                (cond (Nat.ble (xvr2432.length + 1) LIM)
                  (f28L2 n x0 vs1 m (IntKind.wrap .i64 (vs7 + (1 : Int))) (xvr2432 ++ ([(⟨(⟨(OrderT.name (ItemT.order (EventT.item (atI (t := .event) vs1 (Int.toNat vs7))))), (OrderT.target (ItemT.order (EventT.item (atI (t := .event) vs1 (Int.toNat vs7))))), (OrderT.low (ItemT.order (EventT.item (atI (t := .event) vs1 (Int.toNat vs7))))), (OrderT.high (ItemT.order (EventT.item (atI (t := .event) vs1 (Int.toNat vs7))))), (OrderT.metrics (ItemT.order (EventT.item (atI (t := .event) vs1 (Int.toNat vs7))))), (⟨(PaceT.up (OrderT.pace (ItemT.order (EventT.item (atI (t := .event) vs1 (Int.toNat vs7)))))), (PaceT.down (OrderT.pace (ItemT.order (EventT.item (atI (t := .event) vs1 (Int.toNat vs7)))))), (PaceT.upSpan (OrderT.pace (ItemT.order (EventT.item (atI (t := .event) vs1 (Int.toNat vs7)))))), (PaceT.downSpan (OrderT.pace (ItemT.order (EventT.item (atI (t := .event) vs1 (Int.toNat vs7))))))⟩ : PaceT), (OrderT.notes (ItemT.order (EventT.item (atI (t := .event) vs1 (Int.toNat vs7)))))⟩ : OrderT), (ItemT.ver (EventT.item (atI (t := .event) vs1 (Int.toNat vs7))))⟩ : ItemT)] : List ItemT)))
                  none)
                none)
              (f28L2 n x0 vs1 m (IntKind.wrap .i64 (vs7 + (1 : Int))) xvr2432))) vs1 vs7 (OrderT.name (ItemT.order (EventT.item (atI (t := .event) vs1 (Int.toNat vs7))))) (OrderT.target (ItemT.order (EventT.item (atI (t := .event) vs1 (Int.toNat vs7))))) (OrderT.low (ItemT.order (EventT.item (atI (t := .event) vs1 (Int.toNat vs7))))) (OrderT.high (ItemT.order (EventT.item (atI (t := .event) vs1 (Int.toNat vs7))))) (OrderT.metrics (ItemT.order (EventT.item (atI (t := .event) vs1 (Int.toNat vs7))))) (PaceT.up (OrderT.pace (ItemT.order (EventT.item (atI (t := .event) vs1 (Int.toNat vs7)))))) (PaceT.down (OrderT.pace (ItemT.order (EventT.item (atI (t := .event) vs1 (Int.toNat vs7)))))) (PaceT.upSpan (OrderT.pace (ItemT.order (EventT.item (atI (t := .event) vs1 (Int.toNat vs7)))))) (PaceT.downSpan (OrderT.pace (ItemT.order (EventT.item (atI (t := .event) vs1 (Int.toNat vs7)))))) (OrderT.notes (ItemT.order (EventT.item (atI (t := .event) vs1 (Int.toNat vs7))))) (ItemT.ver (EventT.item (atI (t := .event) vs1 (Int.toNat vs7)))) vr768 n ((EventT.kind (atI (t := .event) vs1 (Int.toNat vs7))) != (1 : Int)) (0 : Int) (0 : Nat) ([] : List ItemT))
          none)
        none)
      (x0 vs7 (decide (vs7 < (vs1.length : Int))) vr768))
theorem f28L2_b {R : Type} (n : Nat) (k' : Ex → St → Option R) (vs1 : List EventT) (vs7 : Int) (vr768 : List ItemT) : ev f28e f28k n (cAt [1,1,1,0,1,0,0] f28c) ⟨[(1, .c (.one (.ro .event vs1))), (5, .c (.one (.h 768 0 0 []))), (7, .c (.one (.v (.int .i64 vs7))))], [], [(768, .live ⟨.item, .deep, 0, [], vr768⟩)]⟩ k' =
    (cond (decide (vs7 < (vs1.length : Int)))
    (cond ((decide ((0 : Int) ≤ vs7)) && (decide (vs7 < (vs1.length : Int))))
      (cond ((decide ((0 : Int) ≤ vs7)) && (decide (vs7 < (vs1.length : Int))))
        (f28L1 n (fun (xvs10 : Bool) (xvs11 : Int) (xvs48 : Bool) (xvr768m : Nat) (xvr2432 : List ItemT) =>
          (cond (!xvs10)
            (cond (sm_item (⟨(⟨(OrderT.name (ItemT.order (EventT.item (atI (t := .event) vs1 (Int.toNat vs7))))), (OrderT.target (ItemT.order (EventT.item (atI (t := .event) vs1 (Int.toNat vs7))))), (OrderT.low (ItemT.order (EventT.item (atI (t := .event) vs1 (Int.toNat vs7))))), (OrderT.high (ItemT.order (EventT.item (atI (t := .event) vs1 (Int.toNat vs7))))), (OrderT.metrics (ItemT.order (EventT.item (atI (t := .event) vs1 (Int.toNat vs7))))), (⟨(PaceT.up (OrderT.pace (ItemT.order (EventT.item (atI (t := .event) vs1 (Int.toNat vs7)))))), (PaceT.down (OrderT.pace (ItemT.order (EventT.item (atI (t := .event) vs1 (Int.toNat vs7)))))), (PaceT.upSpan (OrderT.pace (ItemT.order (EventT.item (atI (t := .event) vs1 (Int.toNat vs7)))))), (PaceT.downSpan (OrderT.pace (ItemT.order (EventT.item (atI (t := .event) vs1 (Int.toNat vs7))))))⟩ : PaceT), (OrderT.notes (ItemT.order (EventT.item (atI (t := .event) vs1 (Int.toNat vs7)))))⟩ : OrderT), (ItemT.ver (EventT.item (atI (t := .event) vs1 (Int.toNat vs7))))⟩ : ItemT))
              (cond (Nat.ble (xvr2432.length + 1) LIM)
                (k' .normal ⟨[(1, .c (.one (.ro .event vs1))), (5, .c (.one (.h 768 0 0 []))), (7, .c (.one (.v (.int .i64 (IntKind.wrap .i64 (vs7 + (1 : Int)))))))], [], [(768, .live ⟨.item, .deep, 0, [], (xvr2432 ++ ([(⟨(⟨(OrderT.name (ItemT.order (EventT.item (atI (t := .event) vs1 (Int.toNat vs7))))), (OrderT.target (ItemT.order (EventT.item (atI (t := .event) vs1 (Int.toNat vs7))))), (OrderT.low (ItemT.order (EventT.item (atI (t := .event) vs1 (Int.toNat vs7))))), (OrderT.high (ItemT.order (EventT.item (atI (t := .event) vs1 (Int.toNat vs7))))), (OrderT.metrics (ItemT.order (EventT.item (atI (t := .event) vs1 (Int.toNat vs7))))), (⟨(PaceT.up (OrderT.pace (ItemT.order (EventT.item (atI (t := .event) vs1 (Int.toNat vs7)))))), (PaceT.down (OrderT.pace (ItemT.order (EventT.item (atI (t := .event) vs1 (Int.toNat vs7)))))), (PaceT.upSpan (OrderT.pace (ItemT.order (EventT.item (atI (t := .event) vs1 (Int.toNat vs7)))))), (PaceT.downSpan (OrderT.pace (ItemT.order (EventT.item (atI (t := .event) vs1 (Int.toNat vs7))))))⟩ : PaceT), (OrderT.notes (ItemT.order (EventT.item (atI (t := .event) vs1 (Int.toNat vs7)))))⟩ : OrderT), (ItemT.ver (EventT.item (atI (t := .event) vs1 (Int.toNat vs7))))⟩ : ItemT)] : List ItemT))⟩)]⟩)
                none)
              none)
            (k' .normal ⟨[(1, .c (.one (.ro .event vs1))), (5, .c (.one (.h 768 0 0 []))), (7, .c (.one (.v (.int .i64 (IntKind.wrap .i64 (vs7 + (1 : Int)))))))], [], [(768, .live ⟨.item, .deep, 0, [], xvr2432⟩)]⟩))) vs1 vs7 (OrderT.name (ItemT.order (EventT.item (atI (t := .event) vs1 (Int.toNat vs7))))) (OrderT.target (ItemT.order (EventT.item (atI (t := .event) vs1 (Int.toNat vs7))))) (OrderT.low (ItemT.order (EventT.item (atI (t := .event) vs1 (Int.toNat vs7))))) (OrderT.high (ItemT.order (EventT.item (atI (t := .event) vs1 (Int.toNat vs7))))) (OrderT.metrics (ItemT.order (EventT.item (atI (t := .event) vs1 (Int.toNat vs7))))) (PaceT.up (OrderT.pace (ItemT.order (EventT.item (atI (t := .event) vs1 (Int.toNat vs7)))))) (PaceT.down (OrderT.pace (ItemT.order (EventT.item (atI (t := .event) vs1 (Int.toNat vs7)))))) (PaceT.upSpan (OrderT.pace (ItemT.order (EventT.item (atI (t := .event) vs1 (Int.toNat vs7)))))) (PaceT.downSpan (OrderT.pace (ItemT.order (EventT.item (atI (t := .event) vs1 (Int.toNat vs7)))))) (OrderT.notes (ItemT.order (EventT.item (atI (t := .event) vs1 (Int.toNat vs7))))) (ItemT.ver (EventT.item (atI (t := .event) vs1 (Int.toNat vs7)))) vr768 n ((EventT.kind (atI (t := .event) vs1 (Int.toNat vs7))) != (1 : Int)) (0 : Int) (0 : Nat) ([] : List ItemT))
        none)
      none)
    (k' (.exit 2) ⟨[(1, .c (.one (.ro .event vs1))), (5, .c (.one (.h 768 0 0 []))), (7, .c (.one (.v (.int .i64 vs7)))), (30, .c (.one (.v (.bool (decide (vs7 < (vs1.length : Int)))))))], [], [(768, .live ⟨.item, .deep, 0, [], vr768⟩)]⟩)) := by
  refine Eq.trans (b := (cond (decide (vs7 < (vs1.length : Int)))
    (cond ((decide ((0 : Int) ≤ vs7)) && (decide (vs7 < (vs1.length : Int))))
      (cond ((decide ((0 : Int) ≤ vs7)) && (decide (vs7 < (vs1.length : Int))))
        (iter (fun st k => ev f28e f28k n (cAt [1,1,1,0,1,0,0,1,0,0,1,1,1,0,1,0,0] f28c) st k) n ⟨[(1, .c (.one (.ro .event vs1))), (5, .c (.one (.h 768 0 0 []))), (7, .c (.one (.v (.int .i64 vs7)))), (8, .c (.one (.pt 8 0))), (9, .c (.one (.h 2432 0 0 []))), (10, .c (.one (.v (.bool ((EventT.kind (atI (t := .event) vs1 (Int.toNat vs7))) != (1 : Int)))))), (11, .c (.one (.v (.int .i64 (0 : Int)))))], [(8, ⟨.item, [.v (.string (OrderT.name (ItemT.order (EventT.item (atI (t := .event) vs1 (Int.toNat vs7)))))), .v (.string (OrderT.target (ItemT.order (EventT.item (atI (t := .event) vs1 (Int.toNat vs7)))))), .v (.int .i64 (OrderT.low (ItemT.order (EventT.item (atI (t := .event) vs1 (Int.toNat vs7)))))), .v (.int .i64 (OrderT.high (ItemT.order (EventT.item (atI (t := .event) vs1 (Int.toNat vs7)))))), .ro .metric (OrderT.metrics (ItemT.order (EventT.item (atI (t := .event) vs1 (Int.toNat vs7))))), .v (.int .i64 (PaceT.up (OrderT.pace (ItemT.order (EventT.item (atI (t := .event) vs1 (Int.toNat vs7))))))), .v (.int .i64 (PaceT.down (OrderT.pace (ItemT.order (EventT.item (atI (t := .event) vs1 (Int.toNat vs7))))))), .v (.int .i64 (PaceT.upSpan (OrderT.pace (ItemT.order (EventT.item (atI (t := .event) vs1 (Int.toNat vs7))))))), .v (.int .i64 (PaceT.downSpan (OrderT.pace (ItemT.order (EventT.item (atI (t := .event) vs1 (Int.toNat vs7))))))), .ro .note (OrderT.notes (ItemT.order (EventT.item (atI (t := .event) vs1 (Int.toNat vs7))))), .v (.int .i64 (ItemT.ver (EventT.item (atI (t := .event) vs1 (Int.toNat vs7)))))]⟩)], [(768, .live ⟨.item, (.part (.cur (0 : Nat) 0)), 0, [], vr768⟩), (2432, .live ⟨.item, .deep, 0, [], ([] : List ItemT)⟩)]⟩ (f28K1 n k'))
        none)
      none)
    (k' (.exit 2) ⟨[(1, .c (.one (.ro .event vs1))), (5, .c (.one (.h 768 0 0 []))), (7, .c (.one (.v (.int .i64 vs7)))), (30, .c (.one (.v (.bool (decide (vs7 < (vs1.length : Int)))))))], [], [(768, .live ⟨.item, .deep, 0, [], vr768⟩)]⟩))) (by kernel_rfl) ?_
  simp only [f28L1_eq, f28K1_x0]
theorem f28L2_eq {R : Type} (n : Nat) (k' : Ex → St → Option R) (vs1 : List EventT) : ∀ (m : Nat) (vs7 : Int) (vr768 : List ItemT), iter (fun st k => ev f28e f28k n (cAt [1,1,1,0,1,0,0] f28c) st k) m ⟨[(1, .c (.one (.ro .event vs1))), (5, .c (.one (.h 768 0 0 []))), (7, .c (.one (.v (.int .i64 vs7))))], [], [(768, .live ⟨.item, .deep, 0, [], vr768⟩)]⟩ k' = f28L2 n (fun (xvs7 : Int) (xvs30 : Bool) (xvr768 : List ItemT) => k' (.exit 2) ⟨[(1, .c (.one (.ro .event vs1))), (5, .c (.one (.h 768 0 0 []))), (7, .c (.one (.v (.int .i64 xvs7)))), (30, .c (.one (.v (.bool xvs30))))], [], [(768, .live ⟨.item, .deep, 0, [], xvr768⟩)]⟩) vs1 m vs7 vr768 := by
  intro m; induction m with
  | zero => intros; rfl
  | succ m ih =>
    intro vs7 vr768
    simp only [iter]
    rw [f28L2_b]
    simp only [ih, f28L2]

noncomputable def f28K2 {R : Type} (n : Nat) (k' : Ex → St → Option R) : Ex → St → Option R := (blockK 2 (seqK f28e f28k n (cAt [1,1,1,1] f28c) k'))
theorem f28K2_x0 {R : Type} (n : Nat) (k : List Dt → Option R) (a0 : List ItemT) (a1 : List EventT) (vs1 : List EventT) (xvs7 : Int) (xvs30 : Bool) (xvr768 : List ItemT) : f28K2 n (exitK f28e [.ro, .ro] [false] true [.tmp 4] [35] [.d (.sl .item) a0, .d (.sl .event) a1] k) (.exit 2) ⟨[(1, .c (.one (.ro .event vs1))), (5, .c (.one (.h 768 0 0 []))), (7, .c (.one (.v (.int .i64 xvs7)))), (30, .c (.one (.v (.bool xvs30))))], [], [(768, .live ⟨.item, .deep, 0, [], xvr768⟩)]⟩ =
    (k [.d (.sl .item) xvr768]) := by kernel_rfl

noncomputable def f28K0 {R : Type} (n : Nat) (k' : Ex → St → Option R) : Ex → St → Option R := (blockK 0 (seqK f28e f28k n (cAt [1,1,1] f28c) k'))
theorem f28K0_x0 {R : Type} (n : Nat) (k : List Dt → Option R) (a0 : List ItemT) (a1 : List EventT) (vs0 : List ItemT) (vs1 : List EventT) (xvs6 : Int) (xvs16 : Bool) (xvr768 : List ItemT) : f28K0 n (exitK f28e [.ro, .ro] [false] true [.tmp 4] [35] [.d (.sl .item) a0, .d (.sl .event) a1] k) (.exit 0) ⟨[(0, .c (.one (.ro .item vs0))), (1, .c (.one (.ro .event vs1))), (5, .c (.one (.h 768 0 0 []))), (6, .c (.one (.v (.int .i64 xvs6)))), (16, .c (.one (.v (.bool xvs16))))], [], [(768, .live ⟨.item, .deep, 0, [], xvr768⟩)]⟩ =
    (f28L2 n (fun (xvs7 : Int) (xvs30 : Bool) (xvr768 : List ItemT) =>
    (k [.d (.sl .item) xvr768])) vs1 n (0 : Int) xvr768) := by
  refine Eq.trans (b := (iter (fun st k => ev f28e f28k n (cAt [1,1,1,0,1,0,0] f28c) st k) n ⟨[(1, .c (.one (.ro .event vs1))), (5, .c (.one (.h 768 0 0 []))), (7, .c (.one (.v (.int .i64 (0 : Int)))))], [], [(768, .live ⟨.item, .deep, 0, [], xvr768⟩)]⟩ (f28K2 n (exitK f28e [.ro, .ro] [false] true [.tmp 4] [35] [.d (.sl .item) a0, .d (.sl .event) a1] k)))) (by kernel_rfl) ?_
  simp only [f28L2_eq, f28K2_x0]

theorem f28_run {R : Type} (n : Nat) (k : List Dt → Option R) (a0 : List ItemT) (a1 : List EventT) : evFn f28e f28k n f28c [.ro, .ro] [false] true [.tmp 4] [35] [.d (.sl .item) a0, .d (.sl .event) a1] k =
    (f28L0 n (fun (xvs6 : Int) (xvs16 : Bool) (xvr768 : List ItemT) =>
    (f28L2 n (fun (xvs7 : Int) (xvs30 : Bool) (xvr768 : List ItemT) =>
      (k [.d (.sl .item) xvr768])) a1 n (0 : Int) xvr768)) a0 a1 n (0 : Int) ([] : List ItemT)) := by
  refine Eq.trans (b := (iter (fun st k => ev f28e f28k n (cAt [1,1,0,1,0,0] f28c) st k) n ⟨[(0, .c (.one (.ro .item a0))), (1, .c (.one (.ro .event a1))), (5, .c (.one (.h 768 0 0 []))), (6, .c (.one (.v (.int .i64 (0 : Int)))))], [], [(768, .live ⟨.item, .deep, 0, [], ([] : List ItemT)⟩)]⟩ (f28K0 n (exitK f28e [.ro, .ro] [false] true [.tmp 4] [35] [.d (.sl .item) a0, .d (.sl .event) a1] k)))) (by kernel_rfl) ?_
  simp only [f28L0_eq, f28K0_x0, f28L2_eq, f28K2_x0]
theorem f28_spec (a0 : List ItemT) (a1 : List EventT) (hg : gReplay a0 a1 = true) : ∃ keep rounds, ∀ {R : Type} (k : List Dt → Option R), evFn f28e keep rounds f28c [.ro, .ro] [false] true [.tmp 4] [35] [.d (.sl .item) a0, .d (.sl .event) a1] k = k [.d (.sl .item) (replayW a0 a1)] := by
  simp only [gReplay, Bool.and_eq_true] at hg
  obtain ⟨hi, he, hl⟩ := hg
  have hl := bleN hl
  have hev := smL_all he
  have hit := smL_all hi
  refine ⟨f28k, 1048578, fun {R} k => ?_⟩
  rw [f28_run]
  have inner : ∀ (vs : Int) (x : ItemT), sm_item x = true → ∀ (out : List ItemT), out.length ≤ 1048576 → ∀ (X : Bool → Int → Bool → Nat → List ItemT → Option R) (Y : Bool × List ItemT → Option R), (∀ p i b cu l, repL (p, l) ≤ out.length + 1 → X p i b cu l = Y (p, l)) → ∀ (d k m : Nat) (p : Bool) (cu : Nat) (acc : List ItemT),
      k + d = out.length → d < m → cu ≤ k → repL (p, acc) ≤ k + 1 → f28L1 1048578 X a1 vs x.order.name x.order.target x.order.low x.order.high x.order.metrics x.order.pace.up x.order.pace.down x.order.pace.upSpan x.order.pace.downSpan x.order.notes x.ver out m p (k : Int) cu acc = Y ((out.drop k).foldl (repStep x) (p, acc)) := by
    intro vs x hx out hol X Y hX d
    induction d with
    | zero =>
      intro k m p cu acc hk hm hcu ha
      obtain ⟨m, rfl⟩ : ∃ m', m = m' + 1 := ⟨m - 1, by omega⟩
      simp only [f28L1, decide_eq_false (show ¬ ((k : Int) < (out.length : Int)) by omega), cond_false]
      rw [List.drop_eq_nil_of_le (by omega)]
      exact hX _ _ _ _ _ (by omega)
    | succ d ih =>
      intro k m p cu acc hk hm hcu ha
      obtain ⟨m, rfl⟩ : ∃ m', m = m' + 1 := ⟨m - 1, by omega⟩
      have hkl : k < out.length := by omega
      obtain ⟨h1, h0, hw, ht⟩ := idx hkl (by omega)
      have hat := atI_lt (t := .item) hkl
      have hdrop : out.drop k = atI (t := .item) out k :: out.drop (k + 1) := by
        rw [List.drop_eq_getElem_cons hkl]
        rw [List.getElem?_eq_getElem hkl] at hat
        rw [Option.some.inj hat]
      rw [hdrop, List.foldl_cons]
      have hal : acc.length ≤ k + 1 := Nat.le_trans (Nat.le_add_right _ _) ha
      have l1 := limN (n := acc.length + 1) (by omega)
      have l2 := limN (n := (acc ++ [x]).length + 1) (by simp only [List.length_append, List.length_cons, List.length_nil]; omega)
      have q1 : leC cu 0 k 4 = true := leC_0 hcu
      have q2 : leC k 5 k 9 = true := by rw [leC_same]; rfl
      cases hp : p <;> cases hlt : sLt (atI (t := .item) out k).order.name x.order.name <;> cases heq : sEq (atI (t := .item) out k).order.name x.order.name
      all_goals
        simp only [f28L1, h1, h0, hw, ht, hlt, heq, hx, l1, l2, q1, q2, eta_order2, eta_order, eta_item, Bool.and_self, Bool.not_true, Bool.not_false, cond_true, cond_false]
        refine (ih (k + 1) m _ _ _ (by omega) (by omega) (by omega) ?_).trans ?_
        · simp only [hp, repL, cond_true, cond_false, List.length_append, List.length_cons, List.length_nil] at ha ⊢; omega
        · simp only [repStep, hlt, heq, Bool.not_true, Bool.not_false, cond_true, cond_false]
  have outer : ∀ (X : Int → Bool → List ItemT → Option R), (∀ i b l, X i b l = k [.d (.sl .item) l]) → ∀ (d j m : Nat) (out : List ItemT), j + d = a1.length → d < m → out.length + d ≤ 1048576 →
      f28L2 1048578 X a1 m (j : Int) out = k [.d (.sl .item) ((a1.drop j).foldl repOne out)] := by
    intro X hX d
    induction d with
    | zero =>
      intro j m out hj hm hl
      obtain ⟨m, rfl⟩ : ∃ m', m = m' + 1 := ⟨m - 1, by omega⟩
      simp only [f28L2, decide_eq_false (show ¬ ((j : Int) < (a1.length : Int)) by omega), cond_false, hX]
      rw [List.drop_eq_nil_of_le (by omega)]; rfl
    | succ d ih =>
      intro j m out hj hm hl
      obtain ⟨m, rfl⟩ : ∃ m', m = m' + 1 := ⟨m - 1, by omega⟩
      have hjl : j < a1.length := by omega
      obtain ⟨h1, h0, hw, ht⟩ := idx hjl (by omega)
      have hat := atI_lt (t := .event) hjl
      have he := List.all_eq_true.1 hev _ (List.mem_of_getElem? hat)
      have hx : sm_item (atI (t := .event) a1 j).item = true := by simp only [sm_event, Bool.and_eq_true] at he; exact he.2.2
      have hdrop : a1.drop j = atI (t := .event) a1 j :: a1.drop (j + 1) := by
        rw [List.drop_eq_getElem_cons hjl]
        rw [List.getElem?_eq_getElem hjl] at hat
        rw [Option.some.inj hat]
      have hlen := repFold_len (atI (t := .event) a1 j).item out ((atI (t := .event) a1 j).kind != (1 : Int), [])
      have hL : repL ((atI (t := .event) a1 j).kind != (1 : Int), []) ≤ 1 := by unfold repL; cases ((atI (t := .event) a1 j).kind != (1 : Int)) <;> simp
      rw [hdrop, List.foldl_cons]
      simp only [f28L2, h1, h0, hw, ht, Bool.and_self, cond_true]
      refine (inner _ _ hx out (by omega) _ (fun s => k [.d (.sl .item) ((a1.drop (j + 1)).foldl repOne (repEnd (atI (t := .event) a1 j).item s))]) ?_ out.length 0 1048578 _ 0 [] (by omega) (by omega) (by omega) hL).trans ?_
      · intro p i b cu l hpl
        have hE := repEnd_len (atI (t := .event) a1 j).item (p, l)
        have hb := limN (n := l.length + 1) (by have : l.length ≤ repL (p, l) := Nat.le_add_right _ _; omega)
        have := ih (j + 1) m (repEnd (atI (t := .event) a1 j).item (p, l)) (by omega) (by omega) (by omega)
        cases p
        · simp only [Bool.not_false, cond_true, eta_order2, eta_order, eta_item, hx, hb, hw, ht]; exact this
        · simp only [Bool.not_true, cond_false, hw]; exact this
      · rfl
  refine Eq.trans (loop_acc (xs := a0) (F := fun m j out => f28L0 1048578 _ a0 a1 m (j : Int) out) (f := fun out x => out ++ [x]) (good := fun out => k [.d (.sl .item) (replayW out a1)]) (fun j out => out.length ≤ j)
    (fun j out x hx hi => by simp only [List.length_append, List.length_cons, List.length_nil]; omega) (fun m j out x hx hi => ?_) (fun m out hi => ?_) a0.length 0 1048578 [] (by omega) (by omega) (by simp)) ?_
  · obtain ⟨h1, h0, hw, ht⟩ := idx (lt_of_get hx) (by omega)
    have hj := lt_of_get hx
    have hs := List.all_eq_true.1 hit x (List.mem_of_getElem? hx)
    have hlim := limN (n := out.length + 1) (by omega)
    simp only [f28L0, h1, h0, hw, ht, atI_of (t := .item) hx, Bool.and_self, cond_true, hlim, hs, eta_order2, eta_order, eta_item]
  · simp only [f28L0, idxE, cond_false]
    exact outer _ (fun _ _ _ => rfl) a1.length 0 1048578 out (by omega) (by omega) (by omega)
  · rw [List.drop_zero, foldl_snoc, List.nil_append]

noncomputable def q28 : List Dt → Option (Bool × List Dt)
  | [.d (.sl .item) a0, .d (.sl .event) a1] => some ((gReplay a0 a1), [.d (.sl .item) (replayW a0 a1)])
  | _ => none
noncomputable def s28 : Gm.Spec := Gm.Spec.of [.ro, .ro] [false] true q28
theorem good28 : Gm.Good Try.prog (28, s28) := by
  have hl : ∀ x ∈ [(71, s71)], Gm.Good Try.prog x := List.forall_mem_cons.2 ⟨good71, List.forall_mem_nil _⟩
  refine ⟨⟨spec_ok (tab_ok.env hl) (tab.natl hl) Try.func28 (by kernel_rfl : Try.f28.body = some f28c) [35] (by kernel_rfl) ?_, _, Try.func28, by kernel_rfl, of_decide_eq_true (by kernel_rfl)⟩, Gm.Spec.of_natl _ _ _ _⟩
  intro ds outs h
  unfold q28 at h
  split at h
  · simp only [Option.some.injEq, Prod.mk.injEq] at h; obtain ⟨hg, h⟩ := h; cases h; exact f28_spec _ _ hg
  · cases h
/-! ### loop.example/g00465/impl.Replay -/
noncomputable def f25c : Code := (Try.f25.body).getD .skip
def f25k : Nat → Kp := kat [⟨[0, 1], [], [], []⟩, ⟨[1, 5], [], [], []⟩, ⟨[5, 14, 15, 16], [], [], []⟩, ⟨[5, 14, 15, 16, 17], [], [], []⟩, ⟨[5, 7, 14, 15, 16], [], [], []⟩, ⟨[5, 7, 8, 9, 14, 15, 16], [], [], []⟩, ⟨[7, 8, 9, 14, 15, 16, 24, 25, 26], [], [2000000832], []⟩, ⟨[7, 8, 9, 14, 15, 16, 24, 25, 26, 27], [], [], []⟩, ⟨[7, 8, 9, 11, 14, 15, 16, 24, 25, 26], [], [], []⟩, ⟨[7, 8, 9, 11, 14, 15, 16, 24, 25, 26, 41], [], [], []⟩, ⟨[7, 8, 9, 11, 14, 15, 16, 24, 25, 26], [], [], []⟩, ⟨[7, 8, 9, 11, 14, 15, 16, 24, 25, 26, 55], [], [], []⟩, ⟨[7, 8, 9, 14, 15, 16, 24, 25, 26], [], [], []⟩, ⟨[7, 8, 9, 14, 15, 16, 24, 25, 26], [], [], []⟩, ⟨[7, 8, 14, 15, 16, 62], [], [], []⟩, ⟨[8, 14, 15, 16], [], [], []⟩, ⟨[5, 14, 15, 16], [], [], []⟩, ⟨[5, 14, 15, 16], [], [], [(1280, 832)]⟩, ⟨[4], [], [], []⟩]
noncomputable def f25e : Env := tab.env [(61, s61), (69, s69)]
noncomputable def f25L0 {R : Type} (n : Nat) (x0 : Bool → Int → Bool → Nat → (List ItemT) → Option R) (vs14 : List EventT) (vs15 : Int) (vs16 : Int) (vs25 : Int) (vb7_0 : Int) (vb7_1 : Int) (vb7_2 : ByteArray) (vb7_3 : ByteArray) (vb7_4 : Int) (vb7_5 : Int) (vb7_6 : List MetricT) (vb7_7 : Int) (vb7_8 : Int) (vb7_9 : Int) (vb7_10 : Int) (vb7_11 : List NoteT) (vb7_12 : Int) (vr832 : List ItemT) : Nat → Bool → Int → Nat → (List ItemT) → Option R
  | 0, _, _, _, _ => none
  | m + 1, vs9, vs26, vr832m, vr1280 =>
    (cond (decide (vs26 < vs25))
      (cond ((decide ((0 : Int) ≤ vs26)) && (decide (vs26 < (vr832.length : Int))))
        (cond (!vs9)
          (cond (!(sLt (OrderT.name (ItemT.order (atI (t := .item) vr832 (Int.toNat vs26)))) vb7_2))
            (cond (sm_item (⟨(⟨vb7_2, vb7_3, vb7_4, vb7_5, vb7_6, (⟨vb7_7, vb7_8, vb7_9, vb7_10⟩ : PaceT), vb7_11⟩ : OrderT), vb7_12⟩ : ItemT))
              (cond (Nat.ble (vr1280.length + 1) LIM)
                (cond (!(sEq (OrderT.name (ItemT.order (atI (t := .item) vr832 (Int.toNat vs26)))) vb7_2))
                  (cond (leC vr832m 0 (Int.toNat vs26) 4)
                    (cond (leC (Int.toNat vs26) 5 (Int.toNat vs26) 9)
                      (cond (Nat.ble ((vr1280 ++ ([(⟨(⟨vb7_2, vb7_3, vb7_4, vb7_5, vb7_6, (⟨vb7_7, vb7_8, vb7_9, vb7_10⟩ : PaceT), vb7_11⟩ : OrderT), vb7_12⟩ : ItemT)] : List ItemT)).length + 1) LIM)
                        (f25L0 n x0 vs14 vs15 vs16 vs25 vb7_0 vb7_1 vb7_2 vb7_3 vb7_4 vb7_5 vb7_6 vb7_7 vb7_8 vb7_9 vb7_10 vb7_11 vb7_12 vr832 m true (IntKind.wrap .i64 (vs26 + (1 : Int))) ((Int.toNat vs26) + 1) ((vr1280 ++ ([(⟨(⟨vb7_2, vb7_3, vb7_4, vb7_5, vb7_6, (⟨vb7_7, vb7_8, vb7_9, vb7_10⟩ : PaceT), vb7_11⟩ : OrderT), vb7_12⟩ : ItemT)] : List ItemT)) ++ ([(atI (t := .item) vr832 (Int.toNat vs26))] : List ItemT)))
                        none)
                      none)
                    none)
                  (f25L0 n x0 vs14 vs15 vs16 vs25 vb7_0 vb7_1 vb7_2 vb7_3 vb7_4 vb7_5 vb7_6 vb7_7 vb7_8 vb7_9 vb7_10 vb7_11 vb7_12 vr832 m true (IntKind.wrap .i64 (vs26 + (1 : Int))) vr832m (vr1280 ++ ([(⟨(⟨vb7_2, vb7_3, vb7_4, vb7_5, vb7_6, (⟨vb7_7, vb7_8, vb7_9, vb7_10⟩ : PaceT), vb7_11⟩ : OrderT), vb7_12⟩ : ItemT)] : List ItemT))))
                none)
              none)
            (cond (!(sEq (OrderT.name (ItemT.order (atI (t := .item) vr832 (Int.toNat vs26)))) vb7_2))
              (cond (leC vr832m 0 (Int.toNat vs26) 4)
                (cond (leC (Int.toNat vs26) 5 (Int.toNat vs26) 9)
                  (cond (Nat.ble (vr1280.length + 1) LIM)
                    (f25L0 n x0 vs14 vs15 vs16 vs25 vb7_0 vb7_1 vb7_2 vb7_3 vb7_4 vb7_5 vb7_6 vb7_7 vb7_8 vb7_9 vb7_10 vb7_11 vb7_12 vr832 m vs9 (IntKind.wrap .i64 (vs26 + (1 : Int))) ((Int.toNat vs26) + 1) (vr1280 ++ ([(atI (t := .item) vr832 (Int.toNat vs26))] : List ItemT)))
                    none)
                  none)
                none)
              (f25L0 n x0 vs14 vs15 vs16 vs25 vb7_0 vb7_1 vb7_2 vb7_3 vb7_4 vb7_5 vb7_6 vb7_7 vb7_8 vb7_9 vb7_10 vb7_11 vb7_12 vr832 m vs9 (IntKind.wrap .i64 (vs26 + (1 : Int))) vr832m vr1280)))
          (cond (!(sEq (OrderT.name (ItemT.order (atI (t := .item) vr832 (Int.toNat vs26)))) vb7_2))
            (cond (leC vr832m 0 (Int.toNat vs26) 4)
              (cond (leC (Int.toNat vs26) 5 (Int.toNat vs26) 9)
                (cond (Nat.ble (vr1280.length + 1) LIM)
                  (f25L0 n x0 vs14 vs15 vs16 vs25 vb7_0 vb7_1 vb7_2 vb7_3 vb7_4 vb7_5 vb7_6 vb7_7 vb7_8 vb7_9 vb7_10 vb7_11 vb7_12 vr832 m vs9 (IntKind.wrap .i64 (vs26 + (1 : Int))) ((Int.toNat vs26) + 1) (vr1280 ++ ([(atI (t := .item) vr832 (Int.toNat vs26))] : List ItemT)))
                  none)
                none)
              none)
            (f25L0 n x0 vs14 vs15 vs16 vs25 vb7_0 vb7_1 vb7_2 vb7_3 vb7_4 vb7_5 vb7_6 vb7_7 vb7_8 vb7_9 vb7_10 vb7_11 vb7_12 vr832 m vs9 (IntKind.wrap .i64 (vs26 + (1 : Int))) vr832m vr1280)))
        none)
      (x0 vs9 vs26 (decide (vs26 < vs25)) vr832m vr1280))
theorem f25L0_b {R : Type} (n : Nat) (k' : Ex → St → Option R) (vs9 : Bool) (vs14 : List EventT) (vs15 : Int) (vs16 : Int) (vs25 : Int) (vs26 : Int) (vb7_0 : Int) (vb7_1 : Int) (vb7_2 : ByteArray) (vb7_3 : ByteArray) (vb7_4 : Int) (vb7_5 : Int) (vb7_6 : List MetricT) (vb7_7 : Int) (vb7_8 : Int) (vb7_9 : Int) (vb7_10 : Int) (vb7_11 : List NoteT) (vb7_12 : Int) (vr832m : Nat) (vr832 : List ItemT) (vr1280 : List ItemT) : ev f25e f25k n (cAt [1,1,0,1,0,0,1,1,0,0,1,1,0,1,0,0] f25c) ⟨[(7, .c (.one (.pt 7 0))), (8, .c (.one (.h 1280 0 0 []))), (9, .c (.one (.v (.bool vs9)))), (14, .c (.one (.ro .event vs14))), (15, .c (.one (.v (.int .i64 vs15)))), (16, .c (.one (.v (.int .i64 vs16)))), (24, .c (.one (.h 832 0 0 []))), (25, .c (.one (.v (.int .i64 vs25)))), (26, .c (.one (.v (.int .i64 vs26))))], [(7, ⟨.event, [.v (.int .i64 vb7_0), .v (.int .i64 vb7_1), .v (.string vb7_2), .v (.string vb7_3), .v (.int .i64 vb7_4), .v (.int .i64 vb7_5), .ro .metric vb7_6, .v (.int .i64 vb7_7), .v (.int .i64 vb7_8), .v (.int .i64 vb7_9), .v (.int .i64 vb7_10), .ro .note vb7_11, .v (.int .i64 vb7_12)]⟩)], [(832, .live ⟨.item, (.part (.cur vr832m 0)), 0, [], vr832⟩), (1280, .live ⟨.item, .deep, 0, [], vr1280⟩)]⟩ k' =
    (cond (decide (vs26 < vs25))
    (cond ((decide ((0 : Int) ≤ vs26)) && (decide (vs26 < (vr832.length : Int))))
      (cond (!vs9)
        (cond (!(sLt (OrderT.name (ItemT.order (atI (t := .item) vr832 (Int.toNat vs26)))) vb7_2))
          (cond (sm_item (⟨(⟨vb7_2, vb7_3, vb7_4, vb7_5, vb7_6, (⟨vb7_7, vb7_8, vb7_9, vb7_10⟩ : PaceT), vb7_11⟩ : OrderT), vb7_12⟩ : ItemT))
            (cond (Nat.ble (vr1280.length + 1) LIM)
              (cond (!(sEq (OrderT.name (ItemT.order (atI (t := .item) vr832 (Int.toNat vs26)))) vb7_2))
                (cond (leC vr832m 0 (Int.toNat vs26) 4)
                  (cond (leC (Int.toNat vs26) 5 (Int.toNat vs26) 9)
                    (cond (Nat.ble ((vr1280 ++ ([(⟨(⟨vb7_2, vb7_3, vb7_4, vb7_5, vb7_6, (⟨vb7_7, vb7_8, vb7_9, vb7_10⟩ : PaceT), vb7_11⟩ : OrderT), vb7_12⟩ : ItemT)] : List ItemT)).length + 1) LIM)
                      (k' .normal ⟨[(7, .c (.one (.pt 7 0))), (8, .c (.one (.h 1280 0 0 []))), (9, .c (.one (.v (.bool true)))), (14, .c (.one (.ro .event vs14))), (15, .c (.one (.v (.int .i64 vs15)))), (16, .c (.one (.v (.int .i64 vs16)))), (24, .c (.one (.h 832 0 0 []))), (25, .c (.one (.v (.int .i64 vs25)))), (26, .c (.one (.v (.int .i64 (IntKind.wrap .i64 (vs26 + (1 : Int)))))))], [(7, ⟨.event, [.v (.int .i64 vb7_0), .v (.int .i64 vb7_1), .v (.string vb7_2), .v (.string vb7_3), .v (.int .i64 vb7_4), .v (.int .i64 vb7_5), .ro .metric vb7_6, .v (.int .i64 vb7_7), .v (.int .i64 vb7_8), .v (.int .i64 vb7_9), .v (.int .i64 vb7_10), .ro .note vb7_11, .v (.int .i64 vb7_12)]⟩)], [(832, .live ⟨.item, (.part (.cur ((Int.toNat vs26) + 1) 0)), 0, [], vr832⟩), (1280, .live ⟨.item, .deep, 0, [], ((vr1280 ++ ([(⟨(⟨vb7_2, vb7_3, vb7_4, vb7_5, vb7_6, (⟨vb7_7, vb7_8, vb7_9, vb7_10⟩ : PaceT), vb7_11⟩ : OrderT), vb7_12⟩ : ItemT)] : List ItemT)) ++ ([(atI (t := .item) vr832 (Int.toNat vs26))] : List ItemT))⟩)]⟩)
                      none)
                    none)
                  none)
                (k' .normal ⟨[(7, .c (.one (.pt 7 0))), (8, .c (.one (.h 1280 0 0 []))), (9, .c (.one (.v (.bool true)))), (14, .c (.one (.ro .event vs14))), (15, .c (.one (.v (.int .i64 vs15)))), (16, .c (.one (.v (.int .i64 vs16)))), (24, .c (.one (.h 832 0 0 []))), (25, .c (.one (.v (.int .i64 vs25)))), (26, .c (.one (.v (.int .i64 (IntKind.wrap .i64 (vs26 + (1 : Int)))))))], [(7, ⟨.event, [.v (.int .i64 vb7_0), .v (.int .i64 vb7_1), .v (.string vb7_2), .v (.string vb7_3), .v (.int .i64 vb7_4), .v (.int .i64 vb7_5), .ro .metric vb7_6, .v (.int .i64 vb7_7), .v (.int .i64 vb7_8), .v (.int .i64 vb7_9), .v (.int .i64 vb7_10), .ro .note vb7_11, .v (.int .i64 vb7_12)]⟩)], [(832, .live ⟨.item, (.part (.cur vr832m 0)), 0, [], vr832⟩), (1280, .live ⟨.item, .deep, 0, [], (vr1280 ++ ([(⟨(⟨vb7_2, vb7_3, vb7_4, vb7_5, vb7_6, (⟨vb7_7, vb7_8, vb7_9, vb7_10⟩ : PaceT), vb7_11⟩ : OrderT), vb7_12⟩ : ItemT)] : List ItemT))⟩)]⟩))
              none)
            none)
          (cond (!(sEq (OrderT.name (ItemT.order (atI (t := .item) vr832 (Int.toNat vs26)))) vb7_2))
            (cond (leC vr832m 0 (Int.toNat vs26) 4)
              (cond (leC (Int.toNat vs26) 5 (Int.toNat vs26) 9)
                (cond (Nat.ble (vr1280.length + 1) LIM)
                  (k' .normal ⟨[(7, .c (.one (.pt 7 0))), (8, .c (.one (.h 1280 0 0 []))), (9, .c (.one (.v (.bool vs9)))), (14, .c (.one (.ro .event vs14))), (15, .c (.one (.v (.int .i64 vs15)))), (16, .c (.one (.v (.int .i64 vs16)))), (24, .c (.one (.h 832 0 0 []))), (25, .c (.one (.v (.int .i64 vs25)))), (26, .c (.one (.v (.int .i64 (IntKind.wrap .i64 (vs26 + (1 : Int)))))))], [(7, ⟨.event, [.v (.int .i64 vb7_0), .v (.int .i64 vb7_1), .v (.string vb7_2), .v (.string vb7_3), .v (.int .i64 vb7_4), .v (.int .i64 vb7_5), .ro .metric vb7_6, .v (.int .i64 vb7_7), .v (.int .i64 vb7_8), .v (.int .i64 vb7_9), .v (.int .i64 vb7_10), .ro .note vb7_11, .v (.int .i64 vb7_12)]⟩)], [(832, .live ⟨.item, (.part (.cur ((Int.toNat vs26) + 1) 0)), 0, [], vr832⟩), (1280, .live ⟨.item, .deep, 0, [], (vr1280 ++ ([(atI (t := .item) vr832 (Int.toNat vs26))] : List ItemT))⟩)]⟩)
                  none)
                none)
              none)
            (k' .normal ⟨[(7, .c (.one (.pt 7 0))), (8, .c (.one (.h 1280 0 0 []))), (9, .c (.one (.v (.bool vs9)))), (14, .c (.one (.ro .event vs14))), (15, .c (.one (.v (.int .i64 vs15)))), (16, .c (.one (.v (.int .i64 vs16)))), (24, .c (.one (.h 832 0 0 []))), (25, .c (.one (.v (.int .i64 vs25)))), (26, .c (.one (.v (.int .i64 (IntKind.wrap .i64 (vs26 + (1 : Int)))))))], [(7, ⟨.event, [.v (.int .i64 vb7_0), .v (.int .i64 vb7_1), .v (.string vb7_2), .v (.string vb7_3), .v (.int .i64 vb7_4), .v (.int .i64 vb7_5), .ro .metric vb7_6, .v (.int .i64 vb7_7), .v (.int .i64 vb7_8), .v (.int .i64 vb7_9), .v (.int .i64 vb7_10), .ro .note vb7_11, .v (.int .i64 vb7_12)]⟩)], [(832, .live ⟨.item, (.part (.cur vr832m 0)), 0, [], vr832⟩), (1280, .live ⟨.item, .deep, 0, [], vr1280⟩)]⟩)))
        (cond (!(sEq (OrderT.name (ItemT.order (atI (t := .item) vr832 (Int.toNat vs26)))) vb7_2))
          (cond (leC vr832m 0 (Int.toNat vs26) 4)
            (cond (leC (Int.toNat vs26) 5 (Int.toNat vs26) 9)
              (cond (Nat.ble (vr1280.length + 1) LIM)
                (k' .normal ⟨[(7, .c (.one (.pt 7 0))), (8, .c (.one (.h 1280 0 0 []))), (9, .c (.one (.v (.bool vs9)))), (14, .c (.one (.ro .event vs14))), (15, .c (.one (.v (.int .i64 vs15)))), (16, .c (.one (.v (.int .i64 vs16)))), (24, .c (.one (.h 832 0 0 []))), (25, .c (.one (.v (.int .i64 vs25)))), (26, .c (.one (.v (.int .i64 (IntKind.wrap .i64 (vs26 + (1 : Int)))))))], [(7, ⟨.event, [.v (.int .i64 vb7_0), .v (.int .i64 vb7_1), .v (.string vb7_2), .v (.string vb7_3), .v (.int .i64 vb7_4), .v (.int .i64 vb7_5), .ro .metric vb7_6, .v (.int .i64 vb7_7), .v (.int .i64 vb7_8), .v (.int .i64 vb7_9), .v (.int .i64 vb7_10), .ro .note vb7_11, .v (.int .i64 vb7_12)]⟩)], [(832, .live ⟨.item, (.part (.cur ((Int.toNat vs26) + 1) 0)), 0, [], vr832⟩), (1280, .live ⟨.item, .deep, 0, [], (vr1280 ++ ([(atI (t := .item) vr832 (Int.toNat vs26))] : List ItemT))⟩)]⟩)
                none)
              none)
            none)
          (k' .normal ⟨[(7, .c (.one (.pt 7 0))), (8, .c (.one (.h 1280 0 0 []))), (9, .c (.one (.v (.bool vs9)))), (14, .c (.one (.ro .event vs14))), (15, .c (.one (.v (.int .i64 vs15)))), (16, .c (.one (.v (.int .i64 vs16)))), (24, .c (.one (.h 832 0 0 []))), (25, .c (.one (.v (.int .i64 vs25)))), (26, .c (.one (.v (.int .i64 (IntKind.wrap .i64 (vs26 + (1 : Int)))))))], [(7, ⟨.event, [.v (.int .i64 vb7_0), .v (.int .i64 vb7_1), .v (.string vb7_2), .v (.string vb7_3), .v (.int .i64 vb7_4), .v (.int .i64 vb7_5), .ro .metric vb7_6, .v (.int .i64 vb7_7), .v (.int .i64 vb7_8), .v (.int .i64 vb7_9), .v (.int .i64 vb7_10), .ro .note vb7_11, .v (.int .i64 vb7_12)]⟩)], [(832, .live ⟨.item, (.part (.cur vr832m 0)), 0, [], vr832⟩), (1280, .live ⟨.item, .deep, 0, [], vr1280⟩)]⟩)))
      none)
    (k' (.exit 2) ⟨[(7, .c (.one (.pt 7 0))), (8, .c (.one (.h 1280 0 0 []))), (9, .c (.one (.v (.bool vs9)))), (14, .c (.one (.ro .event vs14))), (15, .c (.one (.v (.int .i64 vs15)))), (16, .c (.one (.v (.int .i64 vs16)))), (24, .c (.one (.h 832 0 0 []))), (25, .c (.one (.v (.int .i64 vs25)))), (26, .c (.one (.v (.int .i64 vs26)))), (27, .c (.one (.v (.bool (decide (vs26 < vs25))))))], [(7, ⟨.event, [.v (.int .i64 vb7_0), .v (.int .i64 vb7_1), .v (.string vb7_2), .v (.string vb7_3), .v (.int .i64 vb7_4), .v (.int .i64 vb7_5), .ro .metric vb7_6, .v (.int .i64 vb7_7), .v (.int .i64 vb7_8), .v (.int .i64 vb7_9), .v (.int .i64 vb7_10), .ro .note vb7_11, .v (.int .i64 vb7_12)]⟩)], [(832, .live ⟨.item, (.part (.cur vr832m 0)), 0, [], vr832⟩), (1280, .live ⟨.item, .deep, 0, [], vr1280⟩)]⟩)) := by kernel_rfl
theorem f25L0_eq {R : Type} (n : Nat) (k' : Ex → St → Option R) (vs14 : List EventT) (vs15 : Int) (vs16 : Int) (vs25 : Int) (vb7_0 : Int) (vb7_1 : Int) (vb7_2 : ByteArray) (vb7_3 : ByteArray) (vb7_4 : Int) (vb7_5 : Int) (vb7_6 : List MetricT) (vb7_7 : Int) (vb7_8 : Int) (vb7_9 : Int) (vb7_10 : Int) (vb7_11 : List NoteT) (vb7_12 : Int) (vr832 : List ItemT) : ∀ (m : Nat) (vs9 : Bool) (vs26 : Int) (vr832m : Nat) (vr1280 : List ItemT), iter (fun st k => ev f25e f25k n (cAt [1,1,0,1,0,0,1,1,0,0,1,1,0,1,0,0] f25c) st k) m ⟨[(7, .c (.one (.pt 7 0))), (8, .c (.one (.h 1280 0 0 []))), (9, .c (.one (.v (.bool vs9)))), (14, .c (.one (.ro .event vs14))), (15, .c (.one (.v (.int .i64 vs15)))), (16, .c (.one (.v (.int .i64 vs16)))), (24, .c (.one (.h 832 0 0 []))), (25, .c (.one (.v (.int .i64 vs25)))), (26, .c (.one (.v (.int .i64 vs26))))], [(7, ⟨.event, [.v (.int .i64 vb7_0), .v (.int .i64 vb7_1), .v (.string vb7_2), .v (.string vb7_3), .v (.int .i64 vb7_4), .v (.int .i64 vb7_5), .ro .metric vb7_6, .v (.int .i64 vb7_7), .v (.int .i64 vb7_8), .v (.int .i64 vb7_9), .v (.int .i64 vb7_10), .ro .note vb7_11, .v (.int .i64 vb7_12)]⟩)], [(832, .live ⟨.item, (.part (.cur vr832m 0)), 0, [], vr832⟩), (1280, .live ⟨.item, .deep, 0, [], vr1280⟩)]⟩ k' = f25L0 n (fun (xvs9 : Bool) (xvs26 : Int) (xvs27 : Bool) (xvr832m : Nat) (xvr1280 : List ItemT) => k' (.exit 2) ⟨[(7, .c (.one (.pt 7 0))), (8, .c (.one (.h 1280 0 0 []))), (9, .c (.one (.v (.bool xvs9)))), (14, .c (.one (.ro .event vs14))), (15, .c (.one (.v (.int .i64 vs15)))), (16, .c (.one (.v (.int .i64 vs16)))), (24, .c (.one (.h 832 0 0 []))), (25, .c (.one (.v (.int .i64 vs25)))), (26, .c (.one (.v (.int .i64 xvs26)))), (27, .c (.one (.v (.bool xvs27))))], [(7, ⟨.event, [.v (.int .i64 vb7_0), .v (.int .i64 vb7_1), .v (.string vb7_2), .v (.string vb7_3), .v (.int .i64 vb7_4), .v (.int .i64 vb7_5), .ro .metric vb7_6, .v (.int .i64 vb7_7), .v (.int .i64 vb7_8), .v (.int .i64 vb7_9), .v (.int .i64 vb7_10), .ro .note vb7_11, .v (.int .i64 vb7_12)]⟩)], [(832, .live ⟨.item, (.part (.cur xvr832m 0)), 0, [], vr832⟩), (1280, .live ⟨.item, .deep, 0, [], xvr1280⟩)]⟩) vs14 vs15 vs16 vs25 vb7_0 vb7_1 vb7_2 vb7_3 vb7_4 vb7_5 vb7_6 vb7_7 vb7_8 vb7_9 vb7_10 vb7_11 vb7_12 vr832 m vs9 vs26 vr832m vr1280 := by
  intro m; induction m with
  | zero => intros; rfl
  | succ m ih =>
    intro vs9 vs26 vr832m vr1280
    simp only [iter]
    rw [f25L0_b]
    simp only [ih, f25L0]

noncomputable def f25K0 {R : Type} (n : Nat) (k' : Ex → St → Option R) : Ex → St → Option R := (blockK 2 (seqK f25e f25k n (cAt [1,1,0,1,0,0,1,1,0,0,1,1,1] f25c) (blockK 1 (seqK f25e f25k n (cAt [1,1,0,1,0,0,1,1,1] f25c) k'))))
theorem f25K0_x0 {R : Type} (n : Nat) (k' : Ex → St → Option R) (vs14 : List EventT) (vs15 : Int) (vs16 : Int) (vs25 : Int) (vb7_0 : Int) (vb7_1 : Int) (vb7_2 : ByteArray) (vb7_3 : ByteArray) (vb7_4 : Int) (vb7_5 : Int) (vb7_6 : List MetricT) (vb7_7 : Int) (vb7_8 : Int) (vb7_9 : Int) (vb7_10 : Int) (vb7_11 : List NoteT) (vb7_12 : Int) (vr832 : List ItemT) (xvs9 : Bool) (xvs26 : Int) (xvs27 : Bool) (xvr832m : Nat) (xvr1280 : List ItemT) : f25K0 n k' (.exit 2) ⟨[(7, .c (.one (.pt 7 0))), (8, .c (.one (.h 1280 0 0 []))), (9, .c (.one (.v (.bool xvs9)))), (14, .c (.one (.ro .event vs14))), (15, .c (.one (.v (.int .i64 vs15)))), (16, .c (.one (.v (.int .i64 vs16)))), (24, .c (.one (.h 832 0 0 []))), (25, .c (.one (.v (.int .i64 vs25)))), (26, .c (.one (.v (.int .i64 xvs26)))), (27, .c (.one (.v (.bool xvs27))))], [(7, ⟨.event, [.v (.int .i64 vb7_0), .v (.int .i64 vb7_1), .v (.string vb7_2), .v (.string vb7_3), .v (.int .i64 vb7_4), .v (.int .i64 vb7_5), .ro .metric vb7_6, .v (.int .i64 vb7_7), .v (.int .i64 vb7_8), .v (.int .i64 vb7_9), .v (.int .i64 vb7_10), .ro .note vb7_11, .v (.int .i64 vb7_12)]⟩)], [(832, .live ⟨.item, (.part (.cur xvr832m 0)), 0, [], vr832⟩), (1280, .live ⟨.item, .deep, 0, [], xvr1280⟩)]⟩ =
    (cond (!xvs9)
    (cond (sm_item (⟨(⟨vb7_2, vb7_3, vb7_4, vb7_5, vb7_6, (⟨vb7_7, vb7_8, vb7_9, vb7_10⟩ : PaceT), vb7_11⟩ : OrderT), vb7_12⟩ : ItemT))
      (cond (Nat.ble (xvr1280.length + 1) LIM)
        (k' .normal ⟨[(5, .c (.one (.h 832 0 0 []))), (14, .c (.one (.ro .event vs14))), (15, .c (.one (.v (.int .i64 vs15)))), (16, .c (.one (.v (.int .i64 (IntKind.wrap .i64 (vs16 + (1 : Int)))))))], [], [(832, .live ⟨.item, .deep, 0, [], (xvr1280 ++ ([(⟨(⟨vb7_2, vb7_3, vb7_4, vb7_5, vb7_6, (⟨vb7_7, vb7_8, vb7_9, vb7_10⟩ : PaceT), vb7_11⟩ : OrderT), vb7_12⟩ : ItemT)] : List ItemT))⟩)]⟩)
        none)
      none)
    (k' .normal ⟨[(5, .c (.one (.h 832 0 0 []))), (14, .c (.one (.ro .event vs14))), (15, .c (.one (.v (.int .i64 vs15)))), (16, .c (.one (.v (.int .i64 (IntKind.wrap .i64 (vs16 + (1 : Int)))))))], [], [(832, .live ⟨.item, .deep, 0, [], xvr1280⟩)]⟩)) := by kernel_rfl

noncomputable def f25L1 {R : Type} (n : Nat) (x0 : Int → Bool → (List ItemT) → Option R) (vs14 : List EventT) (vs15 : Int) : Nat → Int → (List ItemT) → Option R
  | 0, _, _ => none
  | m + 1, vs16, vr832 =>
    (cond (decide (vs16 < vs15))
      (cond ((decide ((0 : Int) ≤ vs16)) && (decide (vs16 < (vs14.length : Int))))
        (f25L0 n (fun (xvs9 : Bool) (xvs26 : Int) (xvs27 : Bool) (xvr832m : Nat) (xvr1280 : List ItemT) =>
          (cond (!xvs9)
            (cond (sm_item (⟨(⟨(OrderT.name (ItemT.order (EventT.item (atI (t := .event) vs14 (Int.toNat vs16))))), (OrderT.target (ItemT.order (EventT.item (atI (t := .event) vs14 (Int.toNat vs16))))), (OrderT.low (ItemT.order (EventT.item (atI (t := .event) vs14 (Int.toNat vs16))))), (OrderT.high (ItemT.order (EventT.item (atI (t := .event) vs14 (Int.toNat vs16))))), (OrderT.metrics (ItemT.order (EventT.item (atI (t := .event) vs14 (Int.toNat vs16))))), (⟨(PaceT.up (OrderT.pace (ItemT.order (EventT.item (atI (t := .event) vs14 (Int.toNat vs16)))))), (PaceT.down (OrderT.pace (ItemT.order (EventT.item (atI (t := .event) vs14 (Int.toNat vs16)))))), (PaceT.upSpan (OrderT.pace (ItemT.order (EventT.item (atI (t := .event) vs14 (Int.toNat vs16)))))), (PaceT.downSpan (OrderT.pace (ItemT.order (EventT.item (atI (t := .event) vs14 (Int.toNat vs16))))))⟩ : PaceT), (OrderT.notes (ItemT.order (EventT.item (atI (t := .event) vs14 (Int.toNat vs16)))))⟩ : OrderT), (ItemT.ver (EventT.item (atI (t := .event) vs14 (Int.toNat vs16))))⟩ : ItemT))
              (cond (Nat.ble (xvr1280.length + 1) LIM)
                (f25L1 n x0 vs14 vs15 m (IntKind.wrap .i64 (vs16 + (1 : Int))) (xvr1280 ++ ([(⟨(⟨(OrderT.name (ItemT.order (EventT.item (atI (t := .event) vs14 (Int.toNat vs16))))), (OrderT.target (ItemT.order (EventT.item (atI (t := .event) vs14 (Int.toNat vs16))))), (OrderT.low (ItemT.order (EventT.item (atI (t := .event) vs14 (Int.toNat vs16))))), (OrderT.high (ItemT.order (EventT.item (atI (t := .event) vs14 (Int.toNat vs16))))), (OrderT.metrics (ItemT.order (EventT.item (atI (t := .event) vs14 (Int.toNat vs16))))), (⟨(PaceT.up (OrderT.pace (ItemT.order (EventT.item (atI (t := .event) vs14 (Int.toNat vs16)))))), (PaceT.down (OrderT.pace (ItemT.order (EventT.item (atI (t := .event) vs14 (Int.toNat vs16)))))), (PaceT.upSpan (OrderT.pace (ItemT.order (EventT.item (atI (t := .event) vs14 (Int.toNat vs16)))))), (PaceT.downSpan (OrderT.pace (ItemT.order (EventT.item (atI (t := .event) vs14 (Int.toNat vs16))))))⟩ : PaceT), (OrderT.notes (ItemT.order (EventT.item (atI (t := .event) vs14 (Int.toNat vs16)))))⟩ : OrderT), (ItemT.ver (EventT.item (atI (t := .event) vs14 (Int.toNat vs16))))⟩ : ItemT)] : List ItemT)))
                none)
              none)
            (f25L1 n x0 vs14 vs15 m (IntKind.wrap .i64 (vs16 + (1 : Int))) xvr1280))) vs14 vs15 vs16 (vr832.length : Int) (EventT.seq (atI (t := .event) vs14 (Int.toNat vs16))) (EventT.kind (atI (t := .event) vs14 (Int.toNat vs16))) (OrderT.name (ItemT.order (EventT.item (atI (t := .event) vs14 (Int.toNat vs16))))) (OrderT.target (ItemT.order (EventT.item (atI (t := .event) vs14 (Int.toNat vs16))))) (OrderT.low (ItemT.order (EventT.item (atI (t := .event) vs14 (Int.toNat vs16))))) (OrderT.high (ItemT.order (EventT.item (atI (t := .event) vs14 (Int.toNat vs16))))) (OrderT.metrics (ItemT.order (EventT.item (atI (t := .event) vs14 (Int.toNat vs16))))) (PaceT.up (OrderT.pace (ItemT.order (EventT.item (atI (t := .event) vs14 (Int.toNat vs16)))))) (PaceT.down (OrderT.pace (ItemT.order (EventT.item (atI (t := .event) vs14 (Int.toNat vs16)))))) (PaceT.upSpan (OrderT.pace (ItemT.order (EventT.item (atI (t := .event) vs14 (Int.toNat vs16)))))) (PaceT.downSpan (OrderT.pace (ItemT.order (EventT.item (atI (t := .event) vs14 (Int.toNat vs16)))))) (OrderT.notes (ItemT.order (EventT.item (atI (t := .event) vs14 (Int.toNat vs16))))) (ItemT.ver (EventT.item (atI (t := .event) vs14 (Int.toNat vs16)))) vr832 n ((EventT.kind (atI (t := .event) vs14 (Int.toNat vs16))) != (1 : Int)) (0 : Int) (0 : Nat) ([] : List ItemT))
        none)
      (x0 vs16 (decide (vs16 < vs15)) vr832))
theorem f25L1_b {R : Type} (n : Nat) (k' : Ex → St → Option R) (vs14 : List EventT) (vs15 : Int) (vs16 : Int) (vr832 : List ItemT) : ev f25e f25k n (cAt [1,1,0,1,0,0] f25c) ⟨[(5, .c (.one (.h 832 0 0 []))), (14, .c (.one (.ro .event vs14))), (15, .c (.one (.v (.int .i64 vs15)))), (16, .c (.one (.v (.int .i64 vs16))))], [], [(832, .live ⟨.item, .deep, 0, [], vr832⟩)]⟩ k' =
    (cond (decide (vs16 < vs15))
    (cond ((decide ((0 : Int) ≤ vs16)) && (decide (vs16 < (vs14.length : Int))))
      (f25L0 n (fun (xvs9 : Bool) (xvs26 : Int) (xvs27 : Bool) (xvr832m : Nat) (xvr1280 : List ItemT) =>
        (cond (!xvs9)
          (cond (sm_item (⟨(⟨(OrderT.name (ItemT.order (EventT.item (atI (t := .event) vs14 (Int.toNat vs16))))), (OrderT.target (ItemT.order (EventT.item (atI (t := .event) vs14 (Int.toNat vs16))))), (OrderT.low (ItemT.order (EventT.item (atI (t := .event) vs14 (Int.toNat vs16))))), (OrderT.high (ItemT.order (EventT.item (atI (t := .event) vs14 (Int.toNat vs16))))), (OrderT.metrics (ItemT.order (EventT.item (atI (t := .event) vs14 (Int.toNat vs16))))), (⟨(PaceT.up (OrderT.pace (ItemT.order (EventT.item (atI (t := .event) vs14 (Int.toNat vs16)))))), (PaceT.down (OrderT.pace (ItemT.order (EventT.item (atI (t := .event) vs14 (Int.toNat vs16)))))), (PaceT.upSpan (OrderT.pace (ItemT.order (EventT.item (atI (t := .event) vs14 (Int.toNat vs16)))))), (PaceT.downSpan (OrderT.pace (ItemT.order (EventT.item (atI (t := .event) vs14 (Int.toNat vs16))))))⟩ : PaceT), (OrderT.notes (ItemT.order (EventT.item (atI (t := .event) vs14 (Int.toNat vs16)))))⟩ : OrderT), (ItemT.ver (EventT.item (atI (t := .event) vs14 (Int.toNat vs16))))⟩ : ItemT))
            (cond (Nat.ble (xvr1280.length + 1) LIM)
              (k' .normal ⟨[(5, .c (.one (.h 832 0 0 []))), (14, .c (.one (.ro .event vs14))), (15, .c (.one (.v (.int .i64 vs15)))), (16, .c (.one (.v (.int .i64 (IntKind.wrap .i64 (vs16 + (1 : Int)))))))], [], [(832, .live ⟨.item, .deep, 0, [], (xvr1280 ++ ([(⟨(⟨(OrderT.name (ItemT.order (EventT.item (atI (t := .event) vs14 (Int.toNat vs16))))), (OrderT.target (ItemT.order (EventT.item (atI (t := .event) vs14 (Int.toNat vs16))))), (OrderT.low (ItemT.order (EventT.item (atI (t := .event) vs14 (Int.toNat vs16))))), (OrderT.high (ItemT.order (EventT.item (atI (t := .event) vs14 (Int.toNat vs16))))), (OrderT.metrics (ItemT.order (EventT.item (atI (t := .event) vs14 (Int.toNat vs16))))), (⟨(PaceT.up (OrderT.pace (ItemT.order (EventT.item (atI (t := .event) vs14 (Int.toNat vs16)))))), (PaceT.down (OrderT.pace (ItemT.order (EventT.item (atI (t := .event) vs14 (Int.toNat vs16)))))), (PaceT.upSpan (OrderT.pace (ItemT.order (EventT.item (atI (t := .event) vs14 (Int.toNat vs16)))))), (PaceT.downSpan (OrderT.pace (ItemT.order (EventT.item (atI (t := .event) vs14 (Int.toNat vs16))))))⟩ : PaceT), (OrderT.notes (ItemT.order (EventT.item (atI (t := .event) vs14 (Int.toNat vs16)))))⟩ : OrderT), (ItemT.ver (EventT.item (atI (t := .event) vs14 (Int.toNat vs16))))⟩ : ItemT)] : List ItemT))⟩)]⟩)
              none)
            none)
          (k' .normal ⟨[(5, .c (.one (.h 832 0 0 []))), (14, .c (.one (.ro .event vs14))), (15, .c (.one (.v (.int .i64 vs15)))), (16, .c (.one (.v (.int .i64 (IntKind.wrap .i64 (vs16 + (1 : Int)))))))], [], [(832, .live ⟨.item, .deep, 0, [], xvr1280⟩)]⟩))) vs14 vs15 vs16 (vr832.length : Int) (EventT.seq (atI (t := .event) vs14 (Int.toNat vs16))) (EventT.kind (atI (t := .event) vs14 (Int.toNat vs16))) (OrderT.name (ItemT.order (EventT.item (atI (t := .event) vs14 (Int.toNat vs16))))) (OrderT.target (ItemT.order (EventT.item (atI (t := .event) vs14 (Int.toNat vs16))))) (OrderT.low (ItemT.order (EventT.item (atI (t := .event) vs14 (Int.toNat vs16))))) (OrderT.high (ItemT.order (EventT.item (atI (t := .event) vs14 (Int.toNat vs16))))) (OrderT.metrics (ItemT.order (EventT.item (atI (t := .event) vs14 (Int.toNat vs16))))) (PaceT.up (OrderT.pace (ItemT.order (EventT.item (atI (t := .event) vs14 (Int.toNat vs16)))))) (PaceT.down (OrderT.pace (ItemT.order (EventT.item (atI (t := .event) vs14 (Int.toNat vs16)))))) (PaceT.upSpan (OrderT.pace (ItemT.order (EventT.item (atI (t := .event) vs14 (Int.toNat vs16)))))) (PaceT.downSpan (OrderT.pace (ItemT.order (EventT.item (atI (t := .event) vs14 (Int.toNat vs16)))))) (OrderT.notes (ItemT.order (EventT.item (atI (t := .event) vs14 (Int.toNat vs16))))) (ItemT.ver (EventT.item (atI (t := .event) vs14 (Int.toNat vs16)))) vr832 n ((EventT.kind (atI (t := .event) vs14 (Int.toNat vs16))) != (1 : Int)) (0 : Int) (0 : Nat) ([] : List ItemT))
      none)
    (k' (.exit 0) ⟨[(5, .c (.one (.h 832 0 0 []))), (14, .c (.one (.ro .event vs14))), (15, .c (.one (.v (.int .i64 vs15)))), (16, .c (.one (.v (.int .i64 vs16)))), (17, .c (.one (.v (.bool (decide (vs16 < vs15))))))], [], [(832, .live ⟨.item, .deep, 0, [], vr832⟩)]⟩)) := by
  refine Eq.trans (b := (cond (decide (vs16 < vs15))
    (cond ((decide ((0 : Int) ≤ vs16)) && (decide (vs16 < (vs14.length : Int))))
      (iter (fun st k => ev f25e f25k n (cAt [1,1,0,1,0,0,1,1,0,0,1,1,0,1,0,0] f25c) st k) n ⟨[(7, .c (.one (.pt 7 0))), (8, .c (.one (.h 1280 0 0 []))), (9, .c (.one (.v (.bool ((EventT.kind (atI (t := .event) vs14 (Int.toNat vs16))) != (1 : Int)))))), (14, .c (.one (.ro .event vs14))), (15, .c (.one (.v (.int .i64 vs15)))), (16, .c (.one (.v (.int .i64 vs16)))), (24, .c (.one (.h 832 0 0 []))), (25, .c (.one (.v (.int .i64 (vr832.length : Int))))), (26, .c (.one (.v (.int .i64 (0 : Int)))))], [(7, ⟨.event, [.v (.int .i64 (EventT.seq (atI (t := .event) vs14 (Int.toNat vs16)))), .v (.int .i64 (EventT.kind (atI (t := .event) vs14 (Int.toNat vs16)))), .v (.string (OrderT.name (ItemT.order (EventT.item (atI (t := .event) vs14 (Int.toNat vs16)))))), .v (.string (OrderT.target (ItemT.order (EventT.item (atI (t := .event) vs14 (Int.toNat vs16)))))), .v (.int .i64 (OrderT.low (ItemT.order (EventT.item (atI (t := .event) vs14 (Int.toNat vs16)))))), .v (.int .i64 (OrderT.high (ItemT.order (EventT.item (atI (t := .event) vs14 (Int.toNat vs16)))))), .ro .metric (OrderT.metrics (ItemT.order (EventT.item (atI (t := .event) vs14 (Int.toNat vs16))))), .v (.int .i64 (PaceT.up (OrderT.pace (ItemT.order (EventT.item (atI (t := .event) vs14 (Int.toNat vs16))))))), .v (.int .i64 (PaceT.down (OrderT.pace (ItemT.order (EventT.item (atI (t := .event) vs14 (Int.toNat vs16))))))), .v (.int .i64 (PaceT.upSpan (OrderT.pace (ItemT.order (EventT.item (atI (t := .event) vs14 (Int.toNat vs16))))))), .v (.int .i64 (PaceT.downSpan (OrderT.pace (ItemT.order (EventT.item (atI (t := .event) vs14 (Int.toNat vs16))))))), .ro .note (OrderT.notes (ItemT.order (EventT.item (atI (t := .event) vs14 (Int.toNat vs16))))), .v (.int .i64 (ItemT.ver (EventT.item (atI (t := .event) vs14 (Int.toNat vs16)))))]⟩)], [(832, .live ⟨.item, (.part (.cur (0 : Nat) 0)), 0, [], vr832⟩), (1280, .live ⟨.item, .deep, 0, [], ([] : List ItemT)⟩)]⟩ (f25K0 n k'))
      none)
    (k' (.exit 0) ⟨[(5, .c (.one (.h 832 0 0 []))), (14, .c (.one (.ro .event vs14))), (15, .c (.one (.v (.int .i64 vs15)))), (16, .c (.one (.v (.int .i64 vs16)))), (17, .c (.one (.v (.bool (decide (vs16 < vs15))))))], [], [(832, .live ⟨.item, .deep, 0, [], vr832⟩)]⟩))) (by kernel_rfl) ?_
  simp only [f25L0_eq, f25K0_x0]
theorem f25L1_eq {R : Type} (n : Nat) (k' : Ex → St → Option R) (vs14 : List EventT) (vs15 : Int) : ∀ (m : Nat) (vs16 : Int) (vr832 : List ItemT), iter (fun st k => ev f25e f25k n (cAt [1,1,0,1,0,0] f25c) st k) m ⟨[(5, .c (.one (.h 832 0 0 []))), (14, .c (.one (.ro .event vs14))), (15, .c (.one (.v (.int .i64 vs15)))), (16, .c (.one (.v (.int .i64 vs16))))], [], [(832, .live ⟨.item, .deep, 0, [], vr832⟩)]⟩ k' = f25L1 n (fun (xvs16 : Int) (xvs17 : Bool) (xvr832 : List ItemT) => k' (.exit 0) ⟨[(5, .c (.one (.h 832 0 0 []))), (14, .c (.one (.ro .event vs14))), (15, .c (.one (.v (.int .i64 vs15)))), (16, .c (.one (.v (.int .i64 xvs16)))), (17, .c (.one (.v (.bool xvs17))))], [], [(832, .live ⟨.item, .deep, 0, [], xvr832⟩)]⟩) vs14 vs15 m vs16 vr832 := by
  intro m; induction m with
  | zero => intros; rfl
  | succ m ih =>
    intro vs16 vr832
    simp only [iter]
    rw [f25L1_b]
    simp only [ih, f25L1]

noncomputable def f25K1 {R : Type} (n : Nat) (k' : Ex → St → Option R) : Ex → St → Option R := (blockK 0 (seqK f25e f25k n (cAt [1,1,1] f25c) k'))
theorem f25K1_x0 {R : Type} (n : Nat) (k : List Dt → Option R) (a0 : List ItemT) (a1 : List EventT) (vs14 : List EventT) (vs15 : Int) (xvs16 : Int) (xvs17 : Bool) (xvr832 : List ItemT) : f25K1 n (exitK f25e [.ro, .ro] [false] true [.tmp 4] [35] [.d (.sl .item) a0, .d (.sl .event) a1] k) (.exit 0) ⟨[(5, .c (.one (.h 832 0 0 []))), (14, .c (.one (.ro .event vs14))), (15, .c (.one (.v (.int .i64 vs15)))), (16, .c (.one (.v (.int .i64 xvs16)))), (17, .c (.one (.v (.bool xvs17))))], [], [(832, .live ⟨.item, .deep, 0, [], xvr832⟩)]⟩ =
    (k [.d (.sl .item) xvr832]) := by kernel_rfl

theorem f25_run {R : Type} (n : Nat) (k : List Dt → Option R) (a0 : List ItemT) (a1 : List EventT) : evFn f25e f25k n f25c [.ro, .ro] [false] true [.tmp 4] [35] [.d (.sl .item) a0, .d (.sl .event) a1] k =
    (cond (smL sm_item a0)
    (f25L1 n (fun (xvs16 : Int) (xvs17 : Bool) (xvr832 : List ItemT) =>
      (k [.d (.sl .item) xvr832])) a1 (a1.length : Int) n (0 : Int) a0)
    none) := by
  refine Eq.trans (b := (cond (smL sm_item a0)
    (iter (fun st k => ev f25e f25k n (cAt [1,1,0,1,0,0] f25c) st k) n ⟨[(5, .c (.one (.h 832 0 0 []))), (14, .c (.one (.ro .event a1))), (15, .c (.one (.v (.int .i64 (a1.length : Int))))), (16, .c (.one (.v (.int .i64 (0 : Int)))))], [], [(832, .live ⟨.item, .deep, 0, [], a0⟩)]⟩ (f25K1 n (exitK f25e [.ro, .ro] [false] true [.tmp 4] [35] [.d (.sl .item) a0, .d (.sl .event) a1] k)))
    none)) (by kernel_rfl) ?_
  simp only [f25L1_eq, f25K1_x0]
theorem f25_spec (a0 : List ItemT) (a1 : List EventT) (hg : gReplay a0 a1 = true) : ∃ keep rounds, ∀ {R : Type} (k : List Dt → Option R), evFn f25e keep rounds f25c [.ro, .ro] [false] true [.tmp 4] [35] [.d (.sl .item) a0, .d (.sl .event) a1] k = k [.d (.sl .item) (replayW a0 a1)] := by
  simp only [gReplay, Bool.and_eq_true] at hg
  obtain ⟨hi, he, hl⟩ := hg
  have hl := bleN hl
  have hev := smL_all he
  refine ⟨f25k, 1048578, fun {R} k => ?_⟩
  rw [f25_run, hi, cond_true]
  have inner : ∀ (vs : Int) (sq kd : Int) (x : ItemT), sm_item x = true → ∀ (out : List ItemT), out.length ≤ 1048576 → ∀ (X : Bool → Int → Bool → Nat → List ItemT → Option R) (Y : Bool × List ItemT → Option R), (∀ p i b cu l, repL (p, l) ≤ out.length + 1 → X p i b cu l = Y (p, l)) → ∀ (d k m : Nat) (p : Bool) (cu : Nat) (acc : List ItemT),
      k + d = out.length → d < m → cu ≤ k → repL (p, acc) ≤ k + 1 → f25L0 1048578 X a1 (a1.length : Int) vs (out.length : Int) sq kd x.order.name x.order.target x.order.low x.order.high x.order.metrics x.order.pace.up x.order.pace.down x.order.pace.upSpan x.order.pace.downSpan x.order.notes x.ver out m p (k : Int) cu acc = Y ((out.drop k).foldl (repStep x) (p, acc)) := by
    intro vs sq kd x hx out hol X Y hX d
    induction d with
    | zero =>
      intro k m p cu acc hk hm hcu ha
      obtain ⟨m, rfl⟩ : ∃ m', m = m' + 1 := ⟨m - 1, by omega⟩
      simp only [f25L0, decide_eq_false (show ¬ ((k : Int) < (out.length : Int)) by omega), cond_false]
      rw [List.drop_eq_nil_of_le (by omega)]
      exact hX _ _ _ _ _ (by omega)
    | succ d ih =>
      intro k m p cu acc hk hm hcu ha
      obtain ⟨m, rfl⟩ : ∃ m', m = m' + 1 := ⟨m - 1, by omega⟩
      have hkl : k < out.length := by omega
      obtain ⟨h1, h0, hw, ht⟩ := idx hkl (by omega)
      have hat := atI_lt (t := .item) hkl
      have hdrop : out.drop k = atI (t := .item) out k :: out.drop (k + 1) := by
        rw [List.drop_eq_getElem_cons hkl]
        rw [List.getElem?_eq_getElem hkl] at hat
        rw [Option.some.inj hat]
      rw [hdrop, List.foldl_cons]
      have hal : acc.length ≤ k + 1 := Nat.le_trans (Nat.le_add_right _ _) ha
      have l1 := limN (n := acc.length + 1) (by omega)
      have l2 := limN (n := (acc ++ [x]).length + 1) (by simp only [List.length_append, List.length_cons, List.length_nil]; omega)
      have q1 : leC cu 0 k 4 = true := leC_0 hcu
      have q2 : leC k 5 k 9 = true := by rw [leC_same]; rfl
      cases hp : p <;> cases hlt : sLt (atI (t := .item) out k).order.name x.order.name <;> cases heq : sEq (atI (t := .item) out k).order.name x.order.name
      all_goals
        simp only [f25L0, h1, h0, hw, ht, hlt, heq, hx, l1, l2, q1, q2, eta_order2, eta_order, eta_item, Bool.and_self, Bool.not_true, Bool.not_false, cond_true, cond_false]
        refine (ih (k + 1) m _ _ _ (by omega) (by omega) (by omega) ?_).trans ?_
        · simp only [hp, repL, cond_true, cond_false, List.length_append, List.length_cons, List.length_nil] at ha ⊢; omega
        · simp only [repStep, hlt, heq, Bool.not_true, Bool.not_false, cond_true, cond_false]
  have outer : ∀ (X : Int → Bool → List ItemT → Option R), (∀ i b l, X i b l = k [.d (.sl .item) l]) → ∀ (d j m : Nat) (out : List ItemT), j + d = a1.length → d < m → out.length + d ≤ 1048576 →
      f25L1 1048578 X a1 (a1.length : Int) m (j : Int) out = k [.d (.sl .item) ((a1.drop j).foldl repOne out)] := by
    intro X hX d
    induction d with
    | zero =>
      intro j m out hj hm hl
      obtain ⟨m, rfl⟩ : ∃ m', m = m' + 1 := ⟨m - 1, by omega⟩
      simp only [f25L1, decide_eq_false (show ¬ ((j : Int) < (a1.length : Int)) by omega), cond_false, hX]
      rw [List.drop_eq_nil_of_le (by omega)]; rfl
    | succ d ih =>
      intro j m out hj hm hl
      obtain ⟨m, rfl⟩ : ∃ m', m = m' + 1 := ⟨m - 1, by omega⟩
      have hjl : j < a1.length := by omega
      obtain ⟨h1, h0, hw, ht⟩ := idx hjl (by omega)
      have hat := atI_lt (t := .event) hjl
      have he := List.all_eq_true.1 hev _ (List.mem_of_getElem? hat)
      have hx : sm_item (atI (t := .event) a1 j).item = true := by simp only [sm_event, Bool.and_eq_true] at he; exact he.2.2
      have hdrop : a1.drop j = atI (t := .event) a1 j :: a1.drop (j + 1) := by
        rw [List.drop_eq_getElem_cons hjl]
        rw [List.getElem?_eq_getElem hjl] at hat
        rw [Option.some.inj hat]
      have hlen := repFold_len (atI (t := .event) a1 j).item out ((atI (t := .event) a1 j).kind != (1 : Int), [])
      have hL : repL ((atI (t := .event) a1 j).kind != (1 : Int), []) ≤ 1 := by unfold repL; cases ((atI (t := .event) a1 j).kind != (1 : Int)) <;> simp
      rw [hdrop, List.foldl_cons]
      simp only [f25L1, h1, h0, hw, ht, Bool.and_self, cond_true]
      refine (inner _ _ _ _ hx out (by omega) _ (fun s => k [.d (.sl .item) ((a1.drop (j + 1)).foldl repOne (repEnd (atI (t := .event) a1 j).item s))]) ?_ out.length 0 1048578 _ 0 [] (by omega) (by omega) (by omega) hL).trans ?_
      · intro p i b cu l hpl
        have hE := repEnd_len (atI (t := .event) a1 j).item (p, l)
        have hb := limN (n := l.length + 1) (by have : l.length ≤ repL (p, l) := Nat.le_add_right _ _; omega)
        have := ih (j + 1) m (repEnd (atI (t := .event) a1 j).item (p, l)) (by omega) (by omega) (by omega)
        cases p
        · simp only [Bool.not_false, cond_true, eta_order2, eta_order, eta_item, hx, hb, hw, ht]; exact this
        · simp only [Bool.not_true, cond_false, hw]; exact this
      · rfl
  exact outer _ (fun _ _ _ => rfl) a1.length 0 1048578 a0 (by omega) (by omega) (by omega)

noncomputable def q25 : List Dt → Option (Bool × List Dt)
  | [.d (.sl .item) a0, .d (.sl .event) a1] => some ((gReplay a0 a1), [.d (.sl .item) (replayW a0 a1)])
  | _ => none
noncomputable def s25 : Gm.Spec := Gm.Spec.of [.ro, .ro] [false] true q25
theorem good25 : Gm.Good Try.prog (25, s25) := by
  have hl : ∀ x ∈ [(61, s61), (69, s69)], Gm.Good Try.prog x := List.forall_mem_cons.2 ⟨good61, List.forall_mem_cons.2 ⟨good69, List.forall_mem_nil _⟩⟩
  refine ⟨⟨spec_ok (tab_ok.env hl) (tab.natl hl) Try.func25 (by kernel_rfl : Try.f25.body = some f25c) [35] (by kernel_rfl) ?_, _, Try.func25, by kernel_rfl, of_decide_eq_true (by kernel_rfl)⟩, Gm.Spec.of_natl _ _ _ _⟩
  intro ds outs h
  unfold q25 at h
  split at h
  · simp only [Option.some.injEq, Prod.mk.injEq] at h; obtain ⟨hg, h⟩ := h; cases h; exact f25_spec _ _ hg
  · cases h
end Go.Proofs.Ytnbehmbjoanfoaa

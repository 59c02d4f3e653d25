/- What the functions compute, part 1. No conditions. -/
import Derived.Test.YtnbehmbjoanfoaaGm4
import Derived.Test.YtnbehmbjoanfoaaRows
import Derived.Lib.Strings
import Derived.Lib.Slices
import Derived.Lib.Walk
import Derived.Lib.Bytealg
import Derived.Lib.SliceRun
import Derived.WalkKit
namespace Go.Proofs.Ytnbehmbjoanfoaa
open Go Go.Gm
def tab : Tab := { code := [(2, (.i .i64)), (3, (.i .i64)), (4, .bool), (5, (.i .u8)), (6, (.i .u8)), (9, .str), (10, .str), (11, .str), (12, (.i .u64)), (21, (.i .i32)), (22, (.sl .event)), (24, .hist), (27, (.sl .event)), (29, .hist), (33, (.sl (.i .u8))), (35, (.sl .item)), (37, .store), (39, (.sl (.sl .item))), (40, (.sl .metric)), (42, .pace), (43, (.sl .note)), (45, .order), (48, (.sl .str)), (50, .item), (61, (.sl .item)), (80, (.sl .metric)), (81, .pace), (82, (.sl .note)), (84, .order), (86, .item), (94, .event), (111, .event), (122, (.sl (.i .i64))), (132, .metric), (137, .note), (139, .cur), (163, (.i .u64)), (165, .metric), (167, .note), (183, (.i .u32)), (184, (.i .u8)), (185, (.i .u8)), (188, (.i .i32)), (189, (.i .i32))], eqs := [(42, [(.i .i64), (.i .i64), (.i .i64), (.i .i64)]), (132, [.str, (.i .i64), (.i .i64)]), (137, [.str, .str])], fld := [(24, [(0, 3), (1, 22)]), (29, [(0, 3), (1, 27)]), (37, [(0, 35), (1, 3)]), (42, [(0, 3), (1, 3), (2, 3), (3, 3)]), (45, [(0, 9), (1, 9), (2, 3), (3, 3), (4, 40), (5, 42), (9, 43)]), (50, [(0, 45), (10, 3)]), (81, [(0, 3), (1, 3), (2, 3), (3, 3)]), (84, [(0, 9), (1, 9), (2, 3), (3, 3), (4, 80), (5, 81), (9, 82)]), (86, [(0, 84), (10, 3)]), (94, [(0, 3), (1, 3), (2, 50)]), (111, [(0, 3), (1, 3), (2, 86)]), (132, [(0, 9), (1, 3), (2, 3)]), (137, [(0, 9), (1, 9)]), (139, [(0, 33), (1, 3), (2, 3)]), (165, [(0, 9), (1, 3), (2, 3)]), (167, [(0, 9), (1, 9)])] }
theorem und2 : UndOk (tab.env []) Try.prog 2 (.i .i64) := (by kernel_rfl : Try.prog.underlying 2 = some (.int .i64))
theorem und3 : UndOk (tab.env []) Try.prog 3 (.i .i64) := (by kernel_rfl : Try.prog.underlying 3 = some (.int .i64))
theorem und4 : UndOk (tab.env []) Try.prog 4 .bool := (by kernel_rfl : Try.prog.underlying 4 = some .bool)
theorem und5 : UndOk (tab.env []) Try.prog 5 (.i .u8) := (by kernel_rfl : Try.prog.underlying 5 = some (.int .u8))
theorem und6 : UndOk (tab.env []) Try.prog 6 (.i .u8) := (by kernel_rfl : Try.prog.underlying 6 = some (.int .u8))
theorem und9 : UndOk (tab.env []) Try.prog 9 .str := (by kernel_rfl : Try.prog.underlying 9 = some .string)
theorem und10 : UndOk (tab.env []) Try.prog 10 .str := (by kernel_rfl : Try.prog.underlying 10 = some .string)
theorem und11 : UndOk (tab.env []) Try.prog 11 .str := (by kernel_rfl : Try.prog.underlying 11 = some .string)
theorem und12 : UndOk (tab.env []) Try.prog 12 (.i .u64) := (by kernel_rfl : Try.prog.underlying 12 = some (.int .u64))
theorem und21 : UndOk (tab.env []) Try.prog 21 (.i .i32) := (by kernel_rfl : Try.prog.underlying 21 = some (.int .i32))
theorem und22 : UndOk (tab.env []) Try.prog 22 (.sl .event) := ⟨111, by kernel_rfl, by kernel_rfl⟩
theorem und24 : UndOk (tab.env []) Try.prog 24 .hist := ⟨_, Try.underlying24⟩
theorem und27 : UndOk (tab.env []) Try.prog 27 (.sl .event) := ⟨94, by kernel_rfl, by kernel_rfl⟩
theorem und29 : UndOk (tab.env []) Try.prog 29 .hist := ⟨_, Try.underlying29⟩
theorem und33 : UndOk (tab.env []) Try.prog 33 (.sl (.i .u8)) := ⟨5, by kernel_rfl, by kernel_rfl⟩
theorem und35 : UndOk (tab.env []) Try.prog 35 (.sl .item) := ⟨50, by kernel_rfl, by kernel_rfl⟩
theorem und37 : UndOk (tab.env []) Try.prog 37 .store := ⟨_, Try.underlying37⟩
theorem und39 : UndOk (tab.env []) Try.prog 39 (.sl (.sl .item)) := ⟨35, by kernel_rfl, by kernel_rfl⟩
theorem und40 : UndOk (tab.env []) Try.prog 40 (.sl .metric) := ⟨132, by kernel_rfl, by kernel_rfl⟩
theorem und42 : UndOk (tab.env []) Try.prog 42 .pace := ⟨_, Try.underlying42⟩
theorem und43 : UndOk (tab.env []) Try.prog 43 (.sl .note) := ⟨137, by kernel_rfl, by kernel_rfl⟩
theorem und45 : UndOk (tab.env []) Try.prog 45 .order := ⟨_, Try.underlying45⟩
theorem und48 : UndOk (tab.env []) Try.prog 48 (.sl .str) := ⟨9, by kernel_rfl, by kernel_rfl⟩
theorem und50 : UndOk (tab.env []) Try.prog 50 .item := ⟨_, Try.underlying50⟩
theorem und61 : UndOk (tab.env []) Try.prog 61 (.sl .item) := ⟨86, by kernel_rfl, by kernel_rfl⟩
theorem und80 : UndOk (tab.env []) Try.prog 80 (.sl .metric) := ⟨165, by kernel_rfl, by kernel_rfl⟩
theorem und81 : UndOk (tab.env []) Try.prog 81 .pace := ⟨_, Try.underlying81⟩
theorem und82 : UndOk (tab.env []) Try.prog 82 (.sl .note) := ⟨167, by kernel_rfl, by kernel_rfl⟩
theorem und84 : UndOk (tab.env []) Try.prog 84 .order := ⟨_, Try.underlying84⟩
theorem und86 : UndOk (tab.env []) Try.prog 86 .item := ⟨_, Try.underlying86⟩
theorem und94 : UndOk (tab.env []) Try.prog 94 .event := ⟨_, Try.underlying94⟩
theorem und111 : UndOk (tab.env []) Try.prog 111 .event := ⟨_, Try.underlying111⟩
theorem und122 : UndOk (tab.env []) Try.prog 122 (.sl (.i .i64)) := ⟨3, by kernel_rfl, by kernel_rfl⟩
theorem und132 : UndOk (tab.env []) Try.prog 132 .metric := ⟨_, Try.underlying132⟩
theorem und137 : UndOk (tab.env []) Try.prog 137 .note := ⟨_, Try.underlying137⟩
theorem und139 : UndOk (tab.env []) Try.prog 139 .cur := ⟨_, Try.underlying139⟩
theorem und163 : UndOk (tab.env []) Try.prog 163 (.i .u64) := (by kernel_rfl : Try.prog.underlying 163 = some (.int .u64))
theorem und165 : UndOk (tab.env []) Try.prog 165 .metric := ⟨_, Try.underlying165⟩
theorem und167 : UndOk (tab.env []) Try.prog 167 .note := ⟨_, Try.underlying167⟩
theorem und183 : UndOk (tab.env []) Try.prog 183 (.i .u32) := (by kernel_rfl : Try.prog.underlying 183 = some (.int .u32))
theorem und184 : UndOk (tab.env []) Try.prog 184 (.i .u8) := (by kernel_rfl : Try.prog.underlying 184 = some (.int .u8))
theorem und185 : UndOk (tab.env []) Try.prog 185 (.i .u8) := (by kernel_rfl : Try.prog.underlying 185 = some (.int .u8))
theorem und188 : UndOk (tab.env []) Try.prog 188 (.i .i32) := (by kernel_rfl : Try.prog.underlying 188 = some (.int .i32))
theorem und189 : UndOk (tab.env []) Try.prog 189 (.i .i32) := (by kernel_rfl : Try.prog.underlying 189 = some (.int .i32))
theorem fld24 : ∃ fs : Array Field, Try.prog.underlying 24 = some (.struct fs) ∧ [(0, 3), (1, 22)] = fs.toList.map (fun f => (f.offset, f.type)) ∧ (∀ y ∈ ([(0, 3), (1, 22)] : List (Nat × Nat)), (aget tab.code y.2).isSome) ∧ (fs.toList.mapM (fun f => (Try.prog.info? f.type).map fun i => (f.offset, i.size))).isSome :=
  ⟨_, Try.underlying24, by kernel_rfl, List.all_eq_true.1 (by kernel_rfl), by kernel_rfl⟩
theorem fld29 : ∃ fs : Array Field, Try.prog.underlying 29 = some (.struct fs) ∧ [(0, 3), (1, 27)] = fs.toList.map (fun f => (f.offset, f.type)) ∧ (∀ y ∈ ([(0, 3), (1, 27)] : List (Nat × Nat)), (aget tab.code y.2).isSome) ∧ (fs.toList.mapM (fun f => (Try.prog.info? f.type).map fun i => (f.offset, i.size))).isSome :=
  ⟨_, Try.underlying29, by kernel_rfl, List.all_eq_true.1 (by kernel_rfl), by kernel_rfl⟩
theorem fld37 : ∃ fs : Array Field, Try.prog.underlying 37 = some (.struct fs) ∧ [(0, 35), (1, 3)] = fs.toList.map (fun f => (f.offset, f.type)) ∧ (∀ y ∈ ([(0, 35), (1, 3)] : List (Nat × Nat)), (aget tab.code y.2).isSome) ∧ (fs.toList.mapM (fun f => (Try.prog.info? f.type).map fun i => (f.offset, i.size))).isSome :=
  ⟨_, Try.underlying37, by kernel_rfl, List.all_eq_true.1 (by kernel_rfl), by kernel_rfl⟩
theorem fld42 : ∃ fs : Array Field, Try.prog.underlying 42 = some (.struct fs) ∧ [(0, 3), (1, 3), (2, 3), (3, 3)] = fs.toList.map (fun f => (f.offset, f.type)) ∧ (∀ y ∈ ([(0, 3), (1, 3), (2, 3), (3, 3)] : List (Nat × Nat)), (aget tab.code y.2).isSome) ∧ (fs.toList.mapM (fun f => (Try.prog.info? f.type).map fun i => (f.offset, i.size))).isSome :=
  ⟨_, Try.underlying42, by kernel_rfl, List.all_eq_true.1 (by kernel_rfl), by kernel_rfl⟩
theorem fld45 : ∃ fs : Array Field, Try.prog.underlying 45 = some (.struct fs) ∧ [(0, 9), (1, 9), (2, 3), (3, 3), (4, 40), (5, 42), (9, 43)] = fs.toList.map (fun f => (f.offset, f.type)) ∧ (∀ y ∈ ([(0, 9), (1, 9), (2, 3), (3, 3), (4, 40), (5, 42), (9, 43)] : List (Nat × Nat)), (aget tab.code y.2).isSome) ∧ (fs.toList.mapM (fun f => (Try.prog.info? f.type).map fun i => (f.offset, i.size))).isSome :=
  ⟨_, Try.underlying45, by kernel_rfl, List.all_eq_true.1 (by kernel_rfl), by kernel_rfl⟩
theorem fld50 : ∃ fs : Array Field, Try.prog.underlying 50 = some (.struct fs) ∧ [(0, 45), (10, 3)] = fs.toList.map (fun f => (f.offset, f.type)) ∧ (∀ y ∈ ([(0, 45), (10, 3)] : List (Nat × Nat)), (aget tab.code y.2).isSome) ∧ (fs.toList.mapM (fun f => (Try.prog.info? f.type).map fun i => (f.offset, i.size))).isSome :=
  ⟨_, Try.underlying50, by kernel_rfl, List.all_eq_true.1 (by kernel_rfl), by kernel_rfl⟩
theorem fld81 : ∃ fs : Array Field, Try.prog.underlying 81 = some (.struct fs) ∧ [(0, 3), (1, 3), (2, 3), (3, 3)] = fs.toList.map (fun f => (f.offset, f.type)) ∧ (∀ y ∈ ([(0, 3), (1, 3), (2, 3), (3, 3)] : List (Nat × Nat)), (aget tab.code y.2).isSome) ∧ (fs.toList.mapM (fun f => (Try.prog.info? f.type).map fun i => (f.offset, i.size))).isSome :=
  ⟨_, Try.underlying81, by kernel_rfl, List.all_eq_true.1 (by kernel_rfl), by kernel_rfl⟩
theorem fld84 : ∃ fs : Array Field, Try.prog.underlying 84 = some (.struct fs) ∧ [(0, 9), (1, 9), (2, 3), (3, 3), (4, 80), (5, 81), (9, 82)] = fs.toList.map (fun f => (f.offset, f.type)) ∧ (∀ y ∈ ([(0, 9), (1, 9), (2, 3), (3, 3), (4, 80), (5, 81), (9, 82)] : List (Nat × Nat)), (aget tab.code y.2).isSome) ∧ (fs.toList.mapM (fun f => (Try.prog.info? f.type).map fun i => (f.offset, i.size))).isSome :=
  ⟨_, Try.underlying84, by kernel_rfl, List.all_eq_true.1 (by kernel_rfl), by kernel_rfl⟩
theorem fld86 : ∃ fs : Array Field, Try.prog.underlying 86 = some (.struct fs) ∧ [(0, 84), (10, 3)] = fs.toList.map (fun f => (f.offset, f.type)) ∧ (∀ y ∈ ([(0, 84), (10, 3)] : List (Nat × Nat)), (aget tab.code y.2).isSome) ∧ (fs.toList.mapM (fun f => (Try.prog.info? f.type).map fun i => (f.offset, i.size))).isSome :=
  ⟨_, Try.underlying86, by kernel_rfl, List.all_eq_true.1 (by kernel_rfl), by kernel_rfl⟩
theorem fld94 : ∃ fs : Array Field, Try.prog.underlying 94 = some (.struct fs) ∧ [(0, 3), (1, 3), (2, 50)] = fs.toList.map (fun f => (f.offset, f.type)) ∧ (∀ y ∈ ([(0, 3), (1, 3), (2, 50)] : List (Nat × Nat)), (aget tab.code y.2).isSome) ∧ (fs.toList.mapM (fun f => (Try.prog.info? f.type).map fun i => (f.offset, i.size))).isSome :=
  ⟨_, Try.underlying94, by kernel_rfl, List.all_eq_true.1 (by kernel_rfl), by kernel_rfl⟩
theorem fld111 : ∃ fs : Array Field, Try.prog.underlying 111 = some (.struct fs) ∧ [(0, 3), (1, 3), (2, 86)] = fs.toList.map (fun f => (f.offset, f.type)) ∧ (∀ y ∈ ([(0, 3), (1, 3), (2, 86)] : List (Nat × Nat)), (aget tab.code y.2).isSome) ∧ (fs.toList.mapM (fun f => (Try.prog.info? f.type).map fun i => (f.offset, i.size))).isSome :=
  ⟨_, Try.underlying111, by kernel_rfl, List.all_eq_true.1 (by kernel_rfl), by kernel_rfl⟩
theorem fld132 : ∃ fs : Array Field, Try.prog.underlying 132 = some (.struct fs) ∧ [(0, 9), (1, 3), (2, 3)] = fs.toList.map (fun f => (f.offset, f.type)) ∧ (∀ y ∈ ([(0, 9), (1, 3), (2, 3)] : List (Nat × Nat)), (aget tab.code y.2).isSome) ∧ (fs.toList.mapM (fun f => (Try.prog.info? f.type).map fun i => (f.offset, i.size))).isSome :=
  ⟨_, Try.underlying132, by kernel_rfl, List.all_eq_true.1 (by kernel_rfl), by kernel_rfl⟩
theorem fld137 : ∃ fs : Array Field, Try.prog.underlying 137 = some (.struct fs) ∧ [(0, 9), (1, 9)] = fs.toList.map (fun f => (f.offset, f.type)) ∧ (∀ y ∈ ([(0, 9), (1, 9)] : List (Nat × Nat)), (aget tab.code y.2).isSome) ∧ (fs.toList.mapM (fun f => (Try.prog.info? f.type).map fun i => (f.offset, i.size))).isSome :=
  ⟨_, Try.underlying137, by kernel_rfl, List.all_eq_true.1 (by kernel_rfl), by kernel_rfl⟩
theorem fld139 : ∃ fs : Array Field, Try.prog.underlying 139 = some (.struct fs) ∧ [(0, 33), (1, 3), (2, 3)] = fs.toList.map (fun f => (f.offset, f.type)) ∧ (∀ y ∈ ([(0, 33), (1, 3), (2, 3)] : List (Nat × Nat)), (aget tab.code y.2).isSome) ∧ (fs.toList.mapM (fun f => (Try.prog.info? f.type).map fun i => (f.offset, i.size))).isSome :=
  ⟨_, Try.underlying139, by kernel_rfl, List.all_eq_true.1 (by kernel_rfl), by kernel_rfl⟩
theorem fld165 : ∃ fs : Array Field, Try.prog.underlying 165 = some (.struct fs) ∧ [(0, 9), (1, 3), (2, 3)] = fs.toList.map (fun f => (f.offset, f.type)) ∧ (∀ y ∈ ([(0, 9), (1, 3), (2, 3)] : List (Nat × Nat)), (aget tab.code y.2).isSome) ∧ (fs.toList.mapM (fun f => (Try.prog.info? f.type).map fun i => (f.offset, i.size))).isSome :=
  ⟨_, Try.underlying165, by kernel_rfl, List.all_eq_true.1 (by kernel_rfl), by kernel_rfl⟩
theorem fld167 : ∃ fs : Array Field, Try.prog.underlying 167 = some (.struct fs) ∧ [(0, 9), (1, 9)] = fs.toList.map (fun f => (f.offset, f.type)) ∧ (∀ y ∈ ([(0, 9), (1, 9)] : List (Nat × Nat)), (aget tab.code y.2).isSome) ∧ (fs.toList.mapM (fun f => (Try.prog.info? f.type).map fun i => (f.offset, i.size))).isSome :=
  ⟨_, Try.underlying167, by kernel_rfl, List.all_eq_true.1 (by kernel_rfl), by kernel_rfl⟩
theorem tab_ok : tab.Ok Try.prog := {
  info := infoChk_ok (by kernel_rfl)
  und := List.forall_mem_cons.2 ⟨und2, List.forall_mem_cons.2 ⟨und3, List.forall_mem_cons.2 ⟨und4, List.forall_mem_cons.2 ⟨und5, List.forall_mem_cons.2 ⟨und6, List.forall_mem_cons.2 ⟨und9, List.forall_mem_cons.2 ⟨und10, List.forall_mem_cons.2 ⟨und11, List.forall_mem_cons.2 ⟨und12, List.forall_mem_cons.2 ⟨und21, List.forall_mem_cons.2 ⟨und22, List.forall_mem_cons.2 ⟨und24, List.forall_mem_cons.2 ⟨und27, List.forall_mem_cons.2 ⟨und29, List.forall_mem_cons.2 ⟨und33, List.forall_mem_cons.2 ⟨und35, List.forall_mem_cons.2 ⟨und37, List.forall_mem_cons.2 ⟨und39, List.forall_mem_cons.2 ⟨und40, List.forall_mem_cons.2 ⟨und42, List.forall_mem_cons.2 ⟨und43, List.forall_mem_cons.2 ⟨und45, List.forall_mem_cons.2 ⟨und48, List.forall_mem_cons.2 ⟨und50, List.forall_mem_cons.2 ⟨und61, List.forall_mem_cons.2 ⟨und80, List.forall_mem_cons.2 ⟨und81, List.forall_mem_cons.2 ⟨und82, List.forall_mem_cons.2 ⟨und84, List.forall_mem_cons.2 ⟨und86, List.forall_mem_cons.2 ⟨und94, List.forall_mem_cons.2 ⟨und111, List.forall_mem_cons.2 ⟨und122, List.forall_mem_cons.2 ⟨und132, List.forall_mem_cons.2 ⟨und137, List.forall_mem_cons.2 ⟨und139, List.forall_mem_cons.2 ⟨und163, List.forall_mem_cons.2 ⟨und165, List.forall_mem_cons.2 ⟨und167, List.forall_mem_cons.2 ⟨und183, List.forall_mem_cons.2 ⟨und184, List.forall_mem_cons.2 ⟨und185, List.forall_mem_cons.2 ⟨und188, List.forall_mem_cons.2 ⟨und189, List.forall_mem_nil _⟩⟩⟩⟩⟩⟩⟩⟩⟩⟩⟩⟩⟩⟩⟩⟩⟩⟩⟩⟩⟩⟩⟩⟩⟩⟩⟩⟩⟩⟩⟩⟩⟩⟩⟩⟩⟩⟩⟩⟩⟩⟩⟩⟩
  fld := List.forall_mem_cons.2 ⟨fld24, List.forall_mem_cons.2 ⟨fld29, List.forall_mem_cons.2 ⟨fld37, List.forall_mem_cons.2 ⟨fld42, List.forall_mem_cons.2 ⟨fld45, List.forall_mem_cons.2 ⟨fld50, List.forall_mem_cons.2 ⟨fld81, List.forall_mem_cons.2 ⟨fld84, List.forall_mem_cons.2 ⟨fld86, List.forall_mem_cons.2 ⟨fld94, List.forall_mem_cons.2 ⟨fld111, List.forall_mem_cons.2 ⟨fld132, List.forall_mem_cons.2 ⟨fld137, List.forall_mem_cons.2 ⟨fld139, List.forall_mem_cons.2 ⟨fld165, List.forall_mem_cons.2 ⟨fld167, List.forall_mem_nil _⟩⟩⟩⟩⟩⟩⟩⟩⟩⟩⟩⟩⟩⟩⟩⟩
  sts := List.forall_mem_cons.2 ⟨fun h => by first | (cases h; done) | (simp; done), List.forall_mem_cons.2 ⟨fun h => by first | (cases h; done) | (simp; done), List.forall_mem_cons.2 ⟨fun h => by first | (cases h; done) | (simp; done), List.forall_mem_cons.2 ⟨fun h => by first | (cases h; done) | (simp; done), List.forall_mem_cons.2 ⟨fun h => by first | (cases h; done) | (simp; done), List.forall_mem_cons.2 ⟨fun h => by first | (cases h; done) | (simp; done), List.forall_mem_cons.2 ⟨fun h => by first | (cases h; done) | (simp; done), List.forall_mem_cons.2 ⟨fun h => by first | (cases h; done) | (simp; done), List.forall_mem_cons.2 ⟨fun h => by first | (cases h; done) | (simp; done), List.forall_mem_cons.2 ⟨fun h => by first | (cases h; done) | (simp; done), List.forall_mem_cons.2 ⟨fun h => by first | (cases h; done) | (simp; done), List.forall_mem_cons.2 ⟨fun _ => by simp [tab], List.forall_mem_cons.2 ⟨fun h => by first | (cases h; done) | (simp; done), List.forall_mem_cons.2 ⟨fun _ => by simp [tab], List.forall_mem_cons.2 ⟨fun h => by first | (cases h; done) | (simp; done), List.forall_mem_cons.2 ⟨fun h => by first | (cases h; done) | (simp; done), List.forall_mem_cons.2 ⟨fun _ => by simp [tab], List.forall_mem_cons.2 ⟨fun h => by first | (cases h; done) | (simp; done), List.forall_mem_cons.2 ⟨fun h => by first | (cases h; done) | (simp; done), List.forall_mem_cons.2 ⟨fun _ => by simp [tab], List.forall_mem_cons.2 ⟨fun h => by first | (cases h; done) | (simp; done), List.forall_mem_cons.2 ⟨fun _ => by simp [tab], List.forall_mem_cons.2 ⟨fun h => by first | (cases h; done) | (simp; done), List.forall_mem_cons.2 ⟨fun _ => by simp [tab], List.forall_mem_cons.2 ⟨fun h => by first | (cases h; done) | (simp; done), List.forall_mem_cons.2 ⟨fun h => by first | (cases h; done) | (simp; done), List.forall_mem_cons.2 ⟨fun _ => by simp [tab], List.forall_mem_cons.2 ⟨fun h => by first | (cases h; done) | (simp; done), List.forall_mem_cons.2 ⟨fun _ => by simp [tab], List.forall_mem_cons.2 ⟨fun _ => by simp [tab], List.forall_mem_cons.2 ⟨fun _ => by simp [tab], List.forall_mem_cons.2 ⟨fun _ => by simp [tab], List.forall_mem_cons.2 ⟨fun h => by first | (cases h; done) | (simp; done), List.forall_mem_cons.2 ⟨fun _ => by simp [tab], List.forall_mem_cons.2 ⟨fun _ => by simp [tab], List.forall_mem_cons.2 ⟨fun _ => by simp [tab], List.forall_mem_cons.2 ⟨fun h => by first | (cases h; done) | (simp; done), List.forall_mem_cons.2 ⟨fun _ => by simp [tab], List.forall_mem_cons.2 ⟨fun _ => by simp [tab], List.forall_mem_cons.2 ⟨fun h => by first | (cases h; done) | (simp; done), List.forall_mem_cons.2 ⟨fun h => by first | (cases h; done) | (simp; done), List.forall_mem_cons.2 ⟨fun h => by first | (cases h; done) | (simp; done), List.forall_mem_cons.2 ⟨fun h => by first | (cases h; done) | (simp; done), List.forall_mem_cons.2 ⟨fun h => by first | (cases h; done) | (simp; done), List.forall_mem_nil _⟩⟩⟩⟩⟩⟩⟩⟩⟩⟩⟩⟩⟩⟩⟩⟩⟩⟩⟩⟩⟩⟩⟩⟩⟩⟩⟩⟩⟩⟩⟩⟩⟩⟩⟩⟩⟩⟩⟩⟩⟩⟩⟩⟩
  eqs := List.forall_mem_cons.2 ⟨eqs_struct (by kernel_rfl) (by kernel_rfl) (by kernel_rfl) (by kernel_rfl), List.forall_mem_cons.2 ⟨eqs_struct (by kernel_rfl) (by kernel_rfl) (by kernel_rfl) (by kernel_rfl), List.forall_mem_cons.2 ⟨eqs_struct (by kernel_rfl) (by kernel_rfl) (by kernel_rfl) (by kernel_rfl), List.forall_mem_nil _⟩⟩⟩
  ord := by kernel_rfl }
end Go.Proofs.Ytnbehmbjoanfoaa

namespace Go.Proofs.Ytnbehmbjoanfoaa
open Go Go.Gm
noncomputable def f54c : Code := (Try.f54.body).getD .skip
def f54k : Nat → Kp := kat [⟨[0, 1, 2], [], [], []⟩, ⟨[6], [], [], []⟩]
noncomputable def f54e : Env := tab.env []
theorem f54_run {R : Type} (n : Nat) (k : List Dt → Option R) (a0 : Int) (a1 : Int) (a2 : Int) : evFn f54e f54k n f54c [.ro, .ro, .ro] [false] true [.tmp 6] [4] [.d (.i .i64) a0, .d (.i .i64) a1, .d (.i .i64) a2] k =
    (cond (decide (a0 ≥ a1))
  (k [.d .bool (decide (a0 ≤ a2))])
  (k [.d .bool false])) := by kernel_rfl
theorem f54_spec (a0 : Int) (a1 : Int) (a2 : Int) : ∃ keep rounds, ∀ {R : Type} (k : List Dt → Option R), evFn f54e keep rounds f54c [.ro, .ro, .ro] [false] true [.tmp 6] [4] [.d (.i .i64) a0, .d (.i .i64) a1, .d (.i .i64) a2] k = k [.d .bool (inR a0 a1 a2)] := by
  refine ⟨f54k, 0, fun k => ?_⟩
  rw [f54_run]; unfold inR
  cases decide (a0 ≥ a1) <;> rfl
noncomputable def q54 : List Dt → Option (Bool × List Dt)
  | [.d (.i .i64) a0, .d (.i .i64) a1, .d (.i .i64) a2] => some (true, [.d .bool (inR a0 a1 a2)])
  | _ => none
noncomputable def s54 : Gm.Spec := Gm.Spec.of [.ro, .ro, .ro] [false] true q54
theorem good54 : Gm.Good Try.prog (54, s54) := by
  have hl : ∀ x ∈ ([] : List (Nat × Gm.Spec)), Gm.Good Try.prog x := fun _ h => by cases h
  refine ⟨⟨spec_ok (tab_ok.env hl) (tab.natl hl) Try.func54 (by kernel_rfl : Try.f54.body = some f54c) [4] (by kernel_rfl) ?_, _, Try.func54, by kernel_rfl, of_decide_eq_true (by kernel_rfl)⟩, Gm.Spec.of_natl _ _ _ _⟩
  intro ds outs h
  unfold q54 at h
  split at h
  · cases h; exact f54_spec _ _ _
  · cases h
noncomputable def f56c : Code := (Try.f56.body).getD .skip
def f56k : Nat → Kp := kat [⟨[0, 1, 2], [], [], []⟩, ⟨[6], [], [], []⟩]
noncomputable def f56e : Env := tab.env []
theorem f56_run {R : Type} (n : Nat) (k : List Dt → Option R) (a0 : Int) (a1 : Int) (a2 : Int) : evFn f56e f56k n f56c [.ro, .ro, .ro] [false] true [.tmp 6] [4] [.d (.i .i64) a0, .d (.i .i64) a1, .d (.i .i64) a2] k =
    (cond (decide (a0 ≥ a1))
  (k [.d .bool (decide (a0 ≤ a2))])
  (k [.d .bool false])) := by kernel_rfl
theorem f56_spec (a0 : Int) (a1 : Int) (a2 : Int) : ∃ keep rounds, ∀ {R : Type} (k : List Dt → Option R), evFn f56e keep rounds f56c [.ro, .ro, .ro] [false] true [.tmp 6] [4] [.d (.i .i64) a0, .d (.i .i64) a1, .d (.i .i64) a2] k = k [.d .bool (inR a0 a1 a2)] := by
  refine ⟨f56k, 0, fun k => ?_⟩
  rw [f56_run]; unfold inR
  cases decide (a0 ≥ a1) <;> rfl
noncomputable def q56 : List Dt → Option (Bool × List Dt)
  | [.d (.i .i64) a0, .d (.i .i64) a1, .d (.i .i64) a2] => some (true, [.d .bool (inR a0 a1 a2)])
  | _ => none
noncomputable def s56 : Gm.Spec := Gm.Spec.of [.ro, .ro, .ro] [false] true q56
theorem good56 : Gm.Good Try.prog (56, s56) := by
  have hl : ∀ x ∈ ([] : List (Nat × Gm.Spec)), Gm.Good Try.prog x := fun _ h => by cases h
  refine ⟨⟨spec_ok (tab_ok.env hl) (tab.natl hl) Try.func56 (by kernel_rfl : Try.f56.body = some f56c) [4] (by kernel_rfl) ?_, _, Try.func56, by kernel_rfl, of_decide_eq_true (by kernel_rfl)⟩, Gm.Spec.of_natl _ _ _ _⟩
  intro ds outs h
  unfold q56 at h
  split at h
  · cases h; exact f56_spec _ _ _
  · cases h
noncomputable def f148c : Code := (Try.f148.body).getD .skip
def f148k : Nat → Kp := kat [⟨[0], [], [], []⟩, ⟨[2], [], [], []⟩]
noncomputable def f148e : Env := tab.env []
theorem f148_run {R : Type} (n : Nat) (k : List Dt → Option R) (a0 : Int) : evFn f148e f148k n f148c [.ro] [false] true [.tmp 2] [4] [.d (.i .u8) a0] k =
    (cond (decide (a0 ≥ (97 : Int)))
  (cond (decide (a0 ≤ (122 : Int)))
   (k [.d .bool true])
   (cond (decide (a0 ≥ (65 : Int)))
    (k [.d .bool (decide (a0 ≤ (90 : Int)))])
    (k [.d .bool false])))
  (cond (decide (a0 ≥ (65 : Int)))
   (k [.d .bool (decide (a0 ≤ (90 : Int)))])
   (k [.d .bool false]))) := by kernel_rfl
theorem f148_spec (a0 : Int) : ∃ keep rounds, ∀ {R : Type} (k : List Dt → Option R), evFn f148e keep rounds f148c [.ro] [false] true [.tmp 2] [4] [.d (.i .u8) a0] k = k [.d .bool (letter a0)] := by
  refine ⟨f148k, 0, fun k => ?_⟩
  rw [f148_run]; unfold letter
  cases decide (a0 ≥ (97 : Int)) <;> cases decide (a0 ≤ (122 : Int)) <;> cases decide (a0 ≥ (65 : Int)) <;> rfl
noncomputable def q148 : List Dt → Option (Bool × List Dt)
  | [.d (.i .u8) a0] => some (true, [.d .bool (letter a0)])
  | _ => none
noncomputable def s148 : Gm.Spec := Gm.Spec.of [.ro] [false] true q148
theorem good148 : Gm.Good Try.prog (148, s148) := by
  have hl : ∀ x ∈ ([] : List (Nat × Gm.Spec)), Gm.Good Try.prog x := fun _ h => by cases h
  refine ⟨⟨spec_ok (tab_ok.env hl) (tab.natl hl) Try.func148 (by kernel_rfl : Try.f148.body = some f148c) [4] (by kernel_rfl) ?_, _, Try.func148, by kernel_rfl, of_decide_eq_true (by kernel_rfl)⟩, Gm.Spec.of_natl _ _ _ _⟩
  intro ds outs h
  unfold q148 at h
  split at h
  · cases h; exact f148_spec _
  · cases h
noncomputable def f149c : Code := (Try.f149.body).getD .skip
def f149k : Nat → Kp := kat [⟨[0], [], [], []⟩, ⟨[2], [], [], []⟩]
noncomputable def f149e : Env := tab.env []
theorem f149_run {R : Type} (n : Nat) (k : List Dt → Option R) (a0 : Int) : evFn f149e f149k n f149c [.ro] [false] true [.tmp 2] [4] [.d (.i .u8) a0] k =
    (cond (decide (a0 ≥ (97 : Int)))
  (cond (decide (a0 ≤ (122 : Int)))
   (k [.d .bool true])
   (cond (decide (a0 ≥ (65 : Int)))
    (k [.d .bool (decide (a0 ≤ (90 : Int)))])
    (k [.d .bool false])))
  (cond (decide (a0 ≥ (65 : Int)))
   (k [.d .bool (decide (a0 ≤ (90 : Int)))])
   (k [.d .bool false]))) := by kernel_rfl
theorem f149_spec (a0 : Int) : ∃ keep rounds, ∀ {R : Type} (k : List Dt → Option R), evFn f149e keep rounds f149c [.ro] [false] true [.tmp 2] [4] [.d (.i .u8) a0] k = k [.d .bool (letter a0)] := by
  refine ⟨f149k, 0, fun k => ?_⟩
  rw [f149_run]; unfold letter
  cases decide (a0 ≥ (97 : Int)) <;> cases decide (a0 ≤ (122 : Int)) <;> cases decide (a0 ≥ (65 : Int)) <;> rfl
noncomputable def q149 : List Dt → Option (Bool × List Dt)
  | [.d (.i .u8) a0] => some (true, [.d .bool (letter a0)])
  | _ => none
noncomputable def s149 : Gm.Spec := Gm.Spec.of [.ro] [false] true q149
theorem good149 : Gm.Good Try.prog (149, s149) := by
  have hl : ∀ x ∈ ([] : List (Nat × Gm.Spec)), Gm.Good Try.prog x := fun _ h => by cases h
  refine ⟨⟨spec_ok (tab_ok.env hl) (tab.natl hl) Try.func149 (by kernel_rfl : Try.f149.body = some f149c) [4] (by kernel_rfl) ?_, _, Try.func149, by kernel_rfl, of_decide_eq_true (by kernel_rfl)⟩, Gm.Spec.of_natl _ _ _ _⟩
  intro ds outs h
  unfold q149 at h
  split at h
  · cases h; exact f149_spec _
  · cases h
noncomputable def f128c : Code := (Try.f128.body).getD .skip
def f128k : Nat → Kp := kat [⟨[0], [], [], []⟩, ⟨[2], [], [], []⟩]
noncomputable def f128e : Env := tab.env []
theorem f128_run {R : Type} (n : Nat) (k : List Dt → Option R) (a0 : Int) : evFn f128e f128k n f128c [.ro] [false] true [.tmp 2] [4] [.d (.i .u8) a0] k =
    (cond (decide (a0 ≥ (48 : Int)))
  (k [.d .bool (decide (a0 ≤ (57 : Int)))])
  (k [.d .bool false])) := by kernel_rfl
theorem f128_spec (a0 : Int) : ∃ keep rounds, ∀ {R : Type} (k : List Dt → Option R), evFn f128e keep rounds f128c [.ro] [false] true [.tmp 2] [4] [.d (.i .u8) a0] k = k [.d .bool (digit a0)] := by
  refine ⟨f128k, 0, fun k => ?_⟩
  rw [f128_run]; unfold digit
  cases decide (a0 ≥ (48 : Int)) <;> rfl
noncomputable def q128 : List Dt → Option (Bool × List Dt)
  | [.d (.i .u8) a0] => some (true, [.d .bool (digit a0)])
  | _ => none
noncomputable def s128 : Gm.Spec := Gm.Spec.of [.ro] [false] true q128
theorem good128 : Gm.Good Try.prog (128, s128) := by
  have hl : ∀ x ∈ ([] : List (Nat × Gm.Spec)), Gm.Good Try.prog x := fun _ h => by cases h
  refine ⟨⟨spec_ok (tab_ok.env hl) (tab.natl hl) Try.func128 (by kernel_rfl : Try.f128.body = some f128c) [4] (by kernel_rfl) ?_, _, Try.func128, by kernel_rfl, of_decide_eq_true (by kernel_rfl)⟩, Gm.Spec.of_natl _ _ _ _⟩
  intro ds outs h
  unfold q128 at h
  split at h
  · cases h; exact f128_spec _
  · cases h
noncomputable def f91S0 (y0 : ByteArray) (y1 : Int) : St := ⟨[(0, .c (.one (.v (.string y0)))), (3, .c (.one (.v (.int .i64 y1))))], [], []⟩
noncomputable def f91S1 : St := ⟨[(2, .c (.one (.v (.bool false))))], [], []⟩
noncomputable def f91S2 (y0 : ByteArray) (y1 : Int) (y2 : Bool) : St := ⟨[(0, .c (.one (.v (.string y0)))), (3, .c (.one (.v (.int .i64 y1)))), (8, .c (.one (.v (.bool y2))))], [], []⟩
noncomputable def f91c : Code := (Try.f91.body).getD .skip
def f91k : Nat → Kp := kat [⟨[0], [], [], []⟩, ⟨[0, 3], [], [], []⟩, ⟨[0, 3, 8], [], [], []⟩, ⟨[0, 3], [], [], []⟩, ⟨[0, 3, 4], [], [], []⟩, ⟨[0, 3, 36], [], [], []⟩, ⟨[2], [], [], []⟩, ⟨[2], [], [], []⟩]
noncomputable def f91e : Env := tab.env [(54, s54)]
noncomputable def f91L0 {R : Type} (n : Nat) (x0 : Option R) (x1 : Int → Bool → Option R) (vs0 : ByteArray) : Nat → Int → Option R
  | 0, _ => none
  | m + 1, vs3 =>
    (cond (decide (vs3 < (ByteArray.size vs0 : Int)))
   (cond ((decide ((0 : Int) ≤ vs3)) && (decide (vs3 < (ByteArray.size vs0 : Int))))
    (cond (decide ((((ByteArray.data vs0).getD (Int.toNat vs3) 0).toNat : Int) ≥ (97 : Int)))
     (cond (decide ((((ByteArray.data vs0).getD (Int.toNat vs3) 0).toNat : Int) ≤ (122 : Int)))
      (f91L0 n x0 x1 vs0 m (IntKind.wrap .i64 (vs3 + (1 : Int))))
      (cond (decide (vs3 > (0 : Int)))
       (cond (decide ((((ByteArray.data vs0).getD (Int.toNat vs3) 0).toNat : Int) ≥ (48 : Int)))
        (cond (decide ((((ByteArray.data vs0).getD (Int.toNat vs3) 0).toNat : Int) ≤ (57 : Int)))
         (f91L0 n x0 x1 vs0 m (IntKind.wrap .i64 (vs3 + (1 : Int))))
         (cond (!((((ByteArray.data vs0).getD (Int.toNat vs3) 0).toNat : Int) == (45 : Int)))
          (x0)
          (f91L0 n x0 x1 vs0 m (IntKind.wrap .i64 (vs3 + (1 : Int))))))
        (cond (!((((ByteArray.data vs0).getD (Int.toNat vs3) 0).toNat : Int) == (45 : Int)))
         (x0)
         (f91L0 n x0 x1 vs0 m (IntKind.wrap .i64 (vs3 + (1 : Int))))))
       (x0)))
     (cond (decide (vs3 > (0 : Int)))
      (cond (decide ((((ByteArray.data vs0).getD (Int.toNat vs3) 0).toNat : Int) ≥ (48 : Int)))
       (cond (decide ((((ByteArray.data vs0).getD (Int.toNat vs3) 0).toNat : Int) ≤ (57 : Int)))
        (f91L0 n x0 x1 vs0 m (IntKind.wrap .i64 (vs3 + (1 : Int))))
        (cond (!((((ByteArray.data vs0).getD (Int.toNat vs3) 0).toNat : Int) == (45 : Int)))
         (x0)
         (f91L0 n x0 x1 vs0 m (IntKind.wrap .i64 (vs3 + (1 : Int))))))
       (cond (!((((ByteArray.data vs0).getD (Int.toNat vs3) 0).toNat : Int) == (45 : Int)))
        (x0)
        (f91L0 n x0 x1 vs0 m (IntKind.wrap .i64 (vs3 + (1 : Int))))))
      (x0)))
    none)
   (x1 vs3 (decide (vs3 < (ByteArray.size vs0 : Int)))))
theorem f91L0_b {R : Type} (n : Nat) (k' : Ex → St → Option R) (vs0 : ByteArray) (vs3 : Int) : ev f91e f91k n (cAt [1,0,1,0,0] f91c) (f91S0 vs0 vs3) k' =
    (cond (decide (vs3 < (ByteArray.size vs0 : Int)))
  (cond ((decide ((0 : Int) ≤ vs3)) && (decide (vs3 < (ByteArray.size vs0 : Int))))
   (cond (decide ((((ByteArray.data vs0).getD (Int.toNat vs3) 0).toNat : Int) ≥ (97 : Int)))
    (cond (decide ((((ByteArray.data vs0).getD (Int.toNat vs3) 0).toNat : Int) ≤ (122 : Int)))
     (k' .normal (f91S0 vs0 (IntKind.wrap .i64 (vs3 + (1 : Int)))))
     (cond (decide (vs3 > (0 : Int)))
      (cond (decide ((((ByteArray.data vs0).getD (Int.toNat vs3) 0).toNat : Int) ≥ (48 : Int)))
       (cond (decide ((((ByteArray.data vs0).getD (Int.toNat vs3) 0).toNat : Int) ≤ (57 : Int)))
        (k' .normal (f91S0 vs0 (IntKind.wrap .i64 (vs3 + (1 : Int)))))
        (cond (!((((ByteArray.data vs0).getD (Int.toNat vs3) 0).toNat : Int) == (45 : Int)))
         (k' .ret f91S1)
         (k' .normal (f91S0 vs0 (IntKind.wrap .i64 (vs3 + (1 : Int)))))))
       (cond (!((((ByteArray.data vs0).getD (Int.toNat vs3) 0).toNat : Int) == (45 : Int)))
        (k' .ret f91S1)
        (k' .normal (f91S0 vs0 (IntKind.wrap .i64 (vs3 + (1 : Int)))))))
      (k' .ret f91S1)))
    (cond (decide (vs3 > (0 : Int)))
     (cond (decide ((((ByteArray.data vs0).getD (Int.toNat vs3) 0).toNat : Int) ≥ (48 : Int)))
      (cond (decide ((((ByteArray.data vs0).getD (Int.toNat vs3) 0).toNat : Int) ≤ (57 : Int)))
       (k' .normal (f91S0 vs0 (IntKind.wrap .i64 (vs3 + (1 : Int)))))
       (cond (!((((ByteArray.data vs0).getD (Int.toNat vs3) 0).toNat : Int) == (45 : Int)))
        (k' .ret f91S1)
        (k' .normal (f91S0 vs0 (IntKind.wrap .i64 (vs3 + (1 : Int)))))))
      (cond (!((((ByteArray.data vs0).getD (Int.toNat vs3) 0).toNat : Int) == (45 : Int)))
       (k' .ret f91S1)
       (k' .normal (f91S0 vs0 (IntKind.wrap .i64 (vs3 + (1 : Int)))))))
     (k' .ret f91S1)))
   none)
  (k' (.exit 0) (f91S2 vs0 vs3 (decide (vs3 < (ByteArray.size vs0 : Int)))))) := by kernel_rfl
theorem f91L0_eq {R : Type} (n : Nat) (k' : Ex → St → Option R) (vs0 : ByteArray) : ∀ (m : Nat) (vs3 : Int), iter (fun st k => ev f91e f91k n (cAt [1,0,1,0,0] f91c) st k) m (f91S0 vs0 vs3) k' = f91L0 n (k' .ret f91S1) (fun (xvs3 : Int) (xvs8 : Bool) => k' (.exit 0) (f91S2 vs0 xvs3 xvs8)) vs0 m vs3 := by
  intro m; induction m with
  | zero => intros; rfl
  | succ m ih =>
    intro vs3
    simp only [iter]
    rw [f91L0_b]
    simp only [ih, f91L0]
noncomputable def f91K0 {R : Type} (n : Nat) (k' : Ex → St → Option R) : Ex → St → Option R := (blockK 0 (seqK f91e f91k n (cAt [1,1] f91c) k'))
theorem f91K0_x0 {R : Type} (n : Nat) (k : List Dt → Option R) (a0 : ByteArray)  : f91K0 n (exitK f91e [.ro] [false] true [.tmp 2] [4] [.d .str a0] k) .ret f91S1 =
    (k [.d .bool false]) := by kernel_rfl
theorem f91K0_x1 {R : Type} (n : Nat) (k : List Dt → Option R) (a0 : ByteArray) (vs0 : ByteArray) (xvs3 : Int) (xvs8 : Bool) : f91K0 n (exitK f91e [.ro] [false] true [.tmp 2] [4] [.d .str a0] k) (.exit 0) (f91S2 vs0 xvs3 xvs8) =
    (k [.d .bool (inR (ByteArray.size vs0 : Int) (1 : Int) (20 : Int))]) := by kernel_rfl
theorem f91_run {R : Type} (n : Nat) (k : List Dt → Option R) (a0 : ByteArray) : evFn f91e f91k n f91c [.ro] [false] true [.tmp 2] [4] [.d .str a0] k =
    (f91L0 n (k [.d .bool false]) (fun (xvs3 : Int) (xvs8 : Bool) =>
  (k [.d .bool (inR (ByteArray.size a0 : Int) (1 : Int) (20 : Int))])) a0 n (0 : Int)) := by
  refine Eq.trans (b := (iter (fun st k => ev f91e f91k n (cAt [1,0,1,0,0] f91c) st k) n (f91S0 a0 (0 : Int)) (f91K0 n (exitK f91e [.ro] [false] true [.tmp 2] [4] [.d .str a0] k)))) (by kernel_rfl) ?_
  simp only [f91L0_eq, f91K0_x0, f91K0_x1]
theorem f91_spec (a0 : ByteArray) (hg : okStr a0 = true) : ∃ keep rounds, ∀ {R : Type} (k : List Dt → Option R), evFn f91e keep rounds f91c [.ro] [false] true [.tmp 2] [4] [.d .str a0] k = k [.d .bool (nameOk a0)] := by
  have hl : a0.size ≤ 9223372036854775807 := bleN hg
  refine ⟨f91k, a0.size + 1, fun {R} k => ?_⟩
  rw [f91_run]
  refine Eq.trans (loop_idx (n := a0.size) (F := fun m i => f91L0 (a0.size + 1) _ _ a0 m i) (p := fun j => nameC (j : Int) (byteAt a0 j)) (good := _) (bad := k [.d .bool false])
    (fun m j hj => ?_) (fun m => by simp only [f91L0, idxE, cond_false]; rfl) a0.size 0 (a0.size + 1) (by omega) (by omega)) ?_
  · obtain ⟨h1, h0, hw, ht⟩ := idx hj (by omega)
    simp only [f91L0, h1, h0, hw, ht, Bool.and_self, cond_true]
    show _ = cond (nameC (j : Int) (((ByteArray.data a0).getD j 0).toNat : Int)) _ _
    generalize (((ByteArray.data a0).getD j 0).toNat : Int) = c
    unfold nameC
    rw [show decide ((j : Int) > (0 : Int)) = !((j : Int) == (0 : Int)) by rw [Bool.eq_iff_iff]; simp; omega]
    unfold digit
    cases decide (c ≥ (97 : Int)) <;> cases decide (c ≤ (122 : Int)) <;> cases ((j : Int) == (0 : Int)) <;> cases decide (c ≥ (48 : Int)) <;> cases decide (c ≤ (57 : Int)) <;> cases (c == (45 : Int)) <;> rfl
  · unfold nameOk
    cases allN (fun j => nameC (j : Int) (byteAt a0 j)) 0 a0.size <;> rfl
noncomputable def q91 : List Dt → Option (Bool × List Dt)
  | [.d .str a0] => some ((okStr a0), [.d .bool (nameOk a0)])
  | _ => none
noncomputable def s91 : Gm.Spec := Gm.Spec.of [.ro] [false] true q91
theorem good91 : Gm.Good Try.prog (91, s91) := by
  have hl : ∀ x ∈ [(54, s54)], Gm.Good Try.prog x := List.forall_mem_cons.2 ⟨good54, List.forall_mem_nil _⟩
  refine ⟨⟨spec_ok (tab_ok.env hl) (tab.natl hl) Try.func91 (by kernel_rfl : Try.f91.body = some f91c) [4] (by kernel_rfl) ?_, _, Try.func91, by kernel_rfl, of_decide_eq_true (by kernel_rfl)⟩, Gm.Spec.of_natl _ _ _ _⟩
  intro ds outs h
  unfold q91 at h
  split at h
  · simp only [Option.some.injEq, Prod.mk.injEq] at h; obtain ⟨hg, h⟩ := h; cases h; exact f91_spec _ hg
  · cases h
noncomputable def f96S0 (y0 : ByteArray) (y1 : Int) (y2 : Int) : St := ⟨[(0, .c (.one (.v (.string y0)))), (6, .c (.one (.v (.int .i64 y1)))), (7, .c (.one (.v (.int .i64 y2))))], [], []⟩
noncomputable def f96S1 : St := ⟨[(2, .c (.one (.v (.bool false))))], [], []⟩
noncomputable def f96S2 (y0 : ByteArray) (y1 : Int) (y2 : Int) (y3 : Bool) : St := ⟨[(0, .c (.one (.v (.string y0)))), (6, .c (.one (.v (.int .i64 y1)))), (7, .c (.one (.v (.int .i64 y2)))), (8, .c (.one (.v (.bool y3))))], [], []⟩
noncomputable def f96c : Code := (Try.f96.body).getD .skip
def f96k : Nat → Kp := kat [⟨[0], [], [], []⟩, ⟨[0, 6, 7], [], [], []⟩, ⟨[0, 6, 7, 8], [], [], []⟩, ⟨[0, 3, 6, 7], [], [], []⟩, ⟨[0, 3, 4, 6, 7], [], [], []⟩, ⟨[0, 6, 7, 38], [], [], []⟩, ⟨[2], [], [], []⟩, ⟨[0, 6, 7], [], [], []⟩, ⟨[2], [], [], []⟩]
noncomputable def f96e : Env := tab.env [(56, s56), (128, s128)]
noncomputable def f96L0 {R : Type} (n : Nat) (x0 : Option R) (x1 : Int → Bool → Option R) (vs0 : ByteArray) (vs6 : Int) : Nat → Int → Option R
  | 0, _ => none
  | m + 1, vs7 =>
    (cond (decide (vs7 < vs6))
   (cond ((decide ((0 : Int) ≤ vs7)) && (decide (vs7 < (ByteArray.size vs0 : Int))))
    (cond (decide ((((ByteArray.data vs0).getD (Int.toNat vs7) 0).toNat : Int) ≥ (97 : Int)))
     (cond ((decide ((0 : Int) ≤ vs7)) && (decide (vs7 < (ByteArray.size vs0 : Int))))
      (cond (!(decide ((((ByteArray.data vs0).getD (Int.toNat vs7) 0).toNat : Int) ≤ (122 : Int))))
       (cond (vs7 == (0 : Int))
        (x0)
        (cond ((decide ((0 : Int) ≤ vs7)) && (decide (vs7 < (ByteArray.size vs0 : Int))))
         (cond (!(digit (((ByteArray.data vs0).getD (Int.toNat vs7) 0).toNat : Int)))
          (cond ((decide ((0 : Int) ≤ vs7)) && (decide (vs7 < (ByteArray.size vs0 : Int))))
           (cond ((((ByteArray.data vs0).getD (Int.toNat vs7) 0).toNat : Int) != (45 : Int))
            (x0)
            (f96L0 n x0 x1 vs0 vs6 m (IntKind.wrap .i64 (vs7 + (1 : Int)))))
           none)
          (f96L0 n x0 x1 vs0 vs6 m (IntKind.wrap .i64 (vs7 + (1 : Int)))))
         none))
       (f96L0 n x0 x1 vs0 vs6 m (IntKind.wrap .i64 (vs7 + (1 : Int)))))
      none)
     (cond (vs7 == (0 : Int))
      (x0)
      (cond ((decide ((0 : Int) ≤ vs7)) && (decide (vs7 < (ByteArray.size vs0 : Int))))
       (cond (!(digit (((ByteArray.data vs0).getD (Int.toNat vs7) 0).toNat : Int)))
        (cond ((decide ((0 : Int) ≤ vs7)) && (decide (vs7 < (ByteArray.size vs0 : Int))))
         (cond ((((ByteArray.data vs0).getD (Int.toNat vs7) 0).toNat : Int) != (45 : Int))
          (x0)
          (f96L0 n x0 x1 vs0 vs6 m (IntKind.wrap .i64 (vs7 + (1 : Int)))))
         none)
        (f96L0 n x0 x1 vs0 vs6 m (IntKind.wrap .i64 (vs7 + (1 : Int)))))
       none)))
    none)
   (x1 vs7 (decide (vs7 < vs6))))
theorem f96L0_b {R : Type} (n : Nat) (k' : Ex → St → Option R) (vs0 : ByteArray) (vs6 : Int) (vs7 : Int) : ev f96e f96k n (cAt [1,0,1,0,0] f96c) (f96S0 vs0 vs6 vs7) k' =
    (cond (decide (vs7 < vs6))
  (cond ((decide ((0 : Int) ≤ vs7)) && (decide (vs7 < (ByteArray.size vs0 : Int))))
   (cond (decide ((((ByteArray.data vs0).getD (Int.toNat vs7) 0).toNat : Int) ≥ (97 : Int)))
    (cond ((decide ((0 : Int) ≤ vs7)) && (decide (vs7 < (ByteArray.size vs0 : Int))))
     (cond (!(decide ((((ByteArray.data vs0).getD (Int.toNat vs7) 0).toNat : Int) ≤ (122 : Int))))
      (cond (vs7 == (0 : Int))
       (k' .ret f96S1)
       (cond ((decide ((0 : Int) ≤ vs7)) && (decide (vs7 < (ByteArray.size vs0 : Int))))
        (cond (!(digit (((ByteArray.data vs0).getD (Int.toNat vs7) 0).toNat : Int)))
         (cond ((decide ((0 : Int) ≤ vs7)) && (decide (vs7 < (ByteArray.size vs0 : Int))))
          (cond ((((ByteArray.data vs0).getD (Int.toNat vs7) 0).toNat : Int) != (45 : Int))
           (k' .ret f96S1)
           (k' .normal (f96S0 vs0 vs6 (IntKind.wrap .i64 (vs7 + (1 : Int))))))
          none)
         (k' .normal (f96S0 vs0 vs6 (IntKind.wrap .i64 (vs7 + (1 : Int))))))
        none))
      (k' .normal (f96S0 vs0 vs6 (IntKind.wrap .i64 (vs7 + (1 : Int))))))
     none)
    (cond (vs7 == (0 : Int))
     (k' .ret f96S1)
     (cond ((decide ((0 : Int) ≤ vs7)) && (decide (vs7 < (ByteArray.size vs0 : Int))))
      (cond (!(digit (((ByteArray.data vs0).getD (Int.toNat vs7) 0).toNat : Int)))
       (cond ((decide ((0 : Int) ≤ vs7)) && (decide (vs7 < (ByteArray.size vs0 : Int))))
        (cond ((((ByteArray.data vs0).getD (Int.toNat vs7) 0).toNat : Int) != (45 : Int))
         (k' .ret f96S1)
         (k' .normal (f96S0 vs0 vs6 (IntKind.wrap .i64 (vs7 + (1 : Int))))))
        none)
       (k' .normal (f96S0 vs0 vs6 (IntKind.wrap .i64 (vs7 + (1 : Int))))))
      none)))
   none)
  (k' (.exit 0) (f96S2 vs0 vs6 vs7 (decide (vs7 < vs6))))) := by kernel_rfl
theorem f96L0_eq {R : Type} (n : Nat) (k' : Ex → St → Option R) (vs0 : ByteArray) (vs6 : Int) : ∀ (m : Nat) (vs7 : Int), iter (fun st k => ev f96e f96k n (cAt [1,0,1,0,0] f96c) st k) m (f96S0 vs0 vs6 vs7) k' = f96L0 n (k' .ret f96S1) (fun (xvs7 : Int) (xvs8 : Bool) => k' (.exit 0) (f96S2 vs0 vs6 xvs7 xvs8)) vs0 vs6 m vs7 := by
  intro m; induction m with
  | zero => intros; rfl
  | succ m ih =>
    intro vs7
    simp only [iter]
    rw [f96L0_b]
    simp only [ih, f96L0]
noncomputable def f96K0 {R : Type} (n : Nat) (k' : Ex → St → Option R) : Ex → St → Option R := (blockK 0 (seqK f96e f96k n (cAt [1,1] f96c) k'))
theorem f96K0_x0 {R : Type} (n : Nat) (k : List Dt → Option R) (a0 : ByteArray)  : f96K0 n (exitK f96e [.ro] [false] true [.tmp 2] [4] [.d .str a0] k) .ret f96S1 =
    (k [.d .bool false]) := by kernel_rfl
theorem f96K0_x1 {R : Type} (n : Nat) (k : List Dt → Option R) (a0 : ByteArray) (vs0 : ByteArray) (vs6 : Int) (xvs7 : Int) (xvs8 : Bool) : f96K0 n (exitK f96e [.ro] [false] true [.tmp 2] [4] [.d .str a0] k) (.exit 0) (f96S2 vs0 vs6 xvs7 xvs8) =
    (k [.d .bool (inR (ByteArray.size vs0 : Int) (1 : Int) (20 : Int))]) := by kernel_rfl
theorem f96_run {R : Type} (n : Nat) (k : List Dt → Option R) (a0 : ByteArray) : evFn f96e f96k n f96c [.ro] [false] true [.tmp 2] [4] [.d .str a0] k =
    (f96L0 n (k [.d .bool false]) (fun (xvs7 : Int) (xvs8 : Bool) =>
  (k [.d .bool (inR (ByteArray.size a0 : Int) (1 : Int) (20 : Int))])) a0 (ByteArray.size a0 : Int) n (0 : Int)) := by
  refine Eq.trans (b := (iter (fun st k => ev f96e f96k n (cAt [1,0,1,0,0] f96c) st k) n (f96S0 a0 (ByteArray.size a0 : Int) (0 : Int)) (f96K0 n (exitK f96e [.ro] [false] true [.tmp 2] [4] [.d .str a0] k)))) (by kernel_rfl) ?_
  simp only [f96L0_eq, f96K0_x0, f96K0_x1]
theorem f96_spec (a0 : ByteArray) (hg : okStr a0 = true) : ∃ keep rounds, ∀ {R : Type} (k : List Dt → Option R), evFn f96e keep rounds f96c [.ro] [false] true [.tmp 2] [4] [.d .str a0] k = k [.d .bool (nameOk a0)] := by
  have hl : a0.size ≤ 9223372036854775807 := bleN hg
  refine ⟨f96k, a0.size + 1, fun {R} k => ?_⟩
  rw [f96_run]
  refine Eq.trans (loop_idx (n := a0.size) (F := fun m i => f96L0 (a0.size + 1) _ _ a0 (a0.size : Int) m i) (p := fun j => nameC (j : Int) (byteAt a0 j)) (good := _) (bad := k [.d .bool false])
    (fun m j hj => ?_) (fun m => by simp only [f96L0, idxE, cond_false]; rfl) a0.size 0 (a0.size + 1) (by omega) (by omega)) ?_
  · obtain ⟨h1, h0, hw, ht⟩ := idx hj (by omega)
    simp only [f96L0, h1, h0, hw, ht, Bool.and_self, cond_true]
    show _ = cond (nameC (j : Int) (((ByteArray.data a0).getD j 0).toNat : Int)) _ _
    generalize (((ByteArray.data a0).getD j 0).toNat : Int) = c
    unfold nameC
    simp only [bne]
    cases decide (c ≥ (97 : Int)) <;> cases decide (c ≤ (122 : Int)) <;> cases ((j : Int) == (0 : Int)) <;> cases digit c <;> cases (c == (45 : Int)) <;> rfl
  · unfold nameOk
    cases allN (fun j => nameC (j : Int) (byteAt a0 j)) 0 a0.size <;> rfl
noncomputable def q96 : List Dt → Option (Bool × List Dt)
  | [.d .str a0] => some ((okStr a0), [.d .bool (nameOk a0)])
  | _ => none
noncomputable def s96 : Gm.Spec := Gm.Spec.of [.ro] [false] true q96
theorem good96 : Gm.Good Try.prog (96, s96) := by
  have hl : ∀ x ∈ [(56, s56), (128, s128)], Gm.Good Try.prog x := List.forall_mem_cons.2 ⟨good56, List.forall_mem_cons.2 ⟨good128, List.forall_mem_nil _⟩⟩
  refine ⟨⟨spec_ok (tab_ok.env hl) (tab.natl hl) Try.func96 (by kernel_rfl : Try.f96.body = some f96c) [4] (by kernel_rfl) ?_, _, Try.func96, by kernel_rfl, of_decide_eq_true (by kernel_rfl)⟩, Gm.Spec.of_natl _ _ _ _⟩
  intro ds outs h
  unfold q96 at h
  split at h
  · simp only [Option.some.injEq, Prod.mk.injEq] at h; obtain ⟨hg, h⟩ := h; cases h; exact f96_spec _ hg
  · cases h
noncomputable def f127S0 (y0 : ByteArray) (y1 : Int) : St := ⟨[(0, .c (.one (.v (.string y0)))), (3, .c (.one (.v (.int .i64 y1))))], [], []⟩
noncomputable def f127S1 : St := ⟨[(2, .c (.one (.v (.bool false))))], [], []⟩
noncomputable def f127S2 (y0 : ByteArray) (y1 : Int) (y2 : Bool) : St := ⟨[(0, .c (.one (.v (.string y0)))), (3, .c (.one (.v (.int .i64 y1)))), (7, .c (.one (.v (.bool y2))))], [], []⟩
noncomputable def f127c : Code := (Try.f127.body).getD .skip
def f127k : Nat → Kp := kat [⟨[0], [], [], []⟩, ⟨[0, 3], [], [], []⟩, ⟨[0, 3, 7], [], [], []⟩, ⟨[0, 3], [], [], []⟩, ⟨[0, 3, 19], [], [], []⟩, ⟨[2], [], [], []⟩, ⟨[2], [], [], []⟩]
noncomputable def f127e : Env := tab.env []
noncomputable def f127L0 {R : Type} (n : Nat) (x0 : Option R) (x1 : Int → Bool → Option R) (vs0 : ByteArray) : Nat → Int → Option R
  | 0, _ => none
  | m + 1, vs3 =>
    (cond (decide (vs3 < (ByteArray.size vs0 : Int)))
   (cond ((decide ((0 : Int) ≤ vs3)) && (decide (vs3 < (ByteArray.size vs0 : Int))))
    (cond (decide ((((ByteArray.data vs0).getD (Int.toNat vs3) 0).toNat : Int) < (32 : Int)))
     (x0)
     (cond ((decide ((0 : Int) ≤ vs3)) && (decide (vs3 < (ByteArray.size vs0 : Int))))
      (cond (decide ((((ByteArray.data vs0).getD (Int.toNat vs3) 0).toNat : Int) > (126 : Int)))
       (x0)
       (f127L0 n x0 x1 vs0 m (IntKind.wrap .i64 (vs3 + (1 : Int)))))
      none))
    none)
   (x1 vs3 (decide (vs3 < (ByteArray.size vs0 : Int)))))
theorem f127L0_b {R : Type} (n : Nat) (k' : Ex → St → Option R) (vs0 : ByteArray) (vs3 : Int) : ev f127e f127k n (cAt [1,0,1,0,0] f127c) (f127S0 vs0 vs3) k' =
    (cond (decide (vs3 < (ByteArray.size vs0 : Int)))
  (cond ((decide ((0 : Int) ≤ vs3)) && (decide (vs3 < (ByteArray.size vs0 : Int))))
   (cond (decide ((((ByteArray.data vs0).getD (Int.toNat vs3) 0).toNat : Int) < (32 : Int)))
    (k' .ret f127S1)
    (cond ((decide ((0 : Int) ≤ vs3)) && (decide (vs3 < (ByteArray.size vs0 : Int))))
     (cond (decide ((((ByteArray.data vs0).getD (Int.toNat vs3) 0).toNat : Int) > (126 : Int)))
      (k' .ret f127S1)
      (k' .normal (f127S0 vs0 (IntKind.wrap .i64 (vs3 + (1 : Int))))))
     none))
   none)
  (k' (.exit 0) (f127S2 vs0 vs3 (decide (vs3 < (ByteArray.size vs0 : Int)))))) := by kernel_rfl
theorem f127L0_eq {R : Type} (n : Nat) (k' : Ex → St → Option R) (vs0 : ByteArray) : ∀ (m : Nat) (vs3 : Int), iter (fun st k => ev f127e f127k n (cAt [1,0,1,0,0] f127c) st k) m (f127S0 vs0 vs3) k' = f127L0 n (k' .ret f127S1) (fun (xvs3 : Int) (xvs7 : Bool) => k' (.exit 0) (f127S2 vs0 xvs3 xvs7)) vs0 m vs3 := by
  intro m; induction m with
  | zero => intros; rfl
  | succ m ih =>
    intro vs3
    simp only [iter]
    rw [f127L0_b]
    simp only [ih, f127L0]
noncomputable def f127K0 {R : Type} (n : Nat) (k' : Ex → St → Option R) : Ex → St → Option R := (blockK 0 (seqK f127e f127k n (cAt [1,1] f127c) k'))
theorem f127K0_x0 {R : Type} (n : Nat) (k : List Dt → Option R) (a0 : ByteArray)  : f127K0 n (exitK f127e [.ro] [false] true [.tmp 2] [4] [.d .str a0] k) .ret f127S1 =
    (k [.d .bool false]) := by kernel_rfl
theorem f127K0_x1 {R : Type} (n : Nat) (k : List Dt → Option R) (a0 : ByteArray) (vs0 : ByteArray) (xvs3 : Int) (xvs7 : Bool) : f127K0 n (exitK f127e [.ro] [false] true [.tmp 2] [4] [.d .str a0] k) (.exit 0) (f127S2 vs0 xvs3 xvs7) =
    (k [.d .bool (decide ((ByteArray.size vs0 : Int) ≤ (400 : Int)))]) := by kernel_rfl
theorem f127_run {R : Type} (n : Nat) (k : List Dt → Option R) (a0 : ByteArray) : evFn f127e f127k n f127c [.ro] [false] true [.tmp 2] [4] [.d .str a0] k =
    (f127L0 n (k [.d .bool false]) (fun (xvs3 : Int) (xvs7 : Bool) =>
  (k [.d .bool (decide ((ByteArray.size a0 : Int) ≤ (400 : Int)))])) a0 n (0 : Int)) := by
  refine Eq.trans (b := (iter (fun st k => ev f127e f127k n (cAt [1,0,1,0,0] f127c) st k) n (f127S0 a0 (0 : Int)) (f127K0 n (exitK f127e [.ro] [false] true [.tmp 2] [4] [.d .str a0] k)))) (by kernel_rfl) ?_
  simp only [f127L0_eq, f127K0_x0, f127K0_x1]
theorem f127_spec (a0 : ByteArray) (hg : okStr a0 = true) : ∃ keep rounds, ∀ {R : Type} (k : List Dt → Option R), evFn f127e keep rounds f127c [.ro] [false] true [.tmp 2] [4] [.d .str a0] k = k [.d .bool (textOk a0)] := by
  have hl : a0.size ≤ 9223372036854775807 := bleN hg
  refine ⟨f127k, a0.size + 1, fun {R} k => ?_⟩
  rw [f127_run]
  refine Eq.trans (loop_idx (n := a0.size) (F := fun m i => f127L0 (a0.size + 1) _ _ a0 m i) (p := fun j => inR (byteAt a0 j) 32 126) (good := _) (bad := k [.d .bool false])
    (fun m j hj => ?_) (fun m => by simp only [f127L0, idxE, cond_false]; rfl) a0.size 0 (a0.size + 1) (by omega) (by omega)) ?_
  · obtain ⟨h1, h0, hw, ht⟩ := idx hj (by omega)
    have hc : 0 ≤ byteAt a0 j ∧ byteAt a0 j < 256 := by
      unfold byteAt
      have := UInt8.toNat_lt (a0.data.getD j 0)
      omega
    simp only [f127L0, h1, h0, hw, ht, Bool.and_self, cond_true]
    change 0 ≤ (((ByteArray.data a0).getD j 0).toNat : Int) ∧ (((ByteArray.data a0).getD j 0).toNat : Int) < 256 at hc
    show _ = cond (inR (((ByteArray.data a0).getD j 0).toNat : Int) 32 126) _ _
    generalize (((ByteArray.data a0).getD j 0).toNat : Int) = c at *
    unfold inR
    rw [show decide (c < 32) = !(decide (c ≥ 32)) by rw [Bool.eq_iff_iff]; simp, show decide (c > 126) = !(decide (c ≤ 126)) by rw [Bool.eq_iff_iff]; simp]
    cases decide (c ≥ 32) <;> cases decide (c ≤ 126) <;> rfl
  · unfold textOk
    cases allN (fun j => inR (byteAt a0 j) 32 126) 0 a0.size <;> rfl
noncomputable def q127 : List Dt → Option (Bool × List Dt)
  | [.d .str a0] => some ((okStr a0), [.d .bool (textOk a0)])
  | _ => none
noncomputable def s127 : Gm.Spec := Gm.Spec.of [.ro] [false] true q127
theorem good127 : Gm.Good Try.prog (127, s127) := by
  have hl : ∀ x ∈ ([] : List (Nat × Gm.Spec)), Gm.Good Try.prog x := fun _ h => by cases h
  refine ⟨⟨spec_ok (tab_ok.env hl) (tab.natl hl) Try.func127 (by kernel_rfl : Try.f127.body = some f127c) [4] (by kernel_rfl) ?_, _, Try.func127, by kernel_rfl, of_decide_eq_true (by kernel_rfl)⟩, Gm.Spec.of_natl _ _ _ _⟩
  intro ds outs h
  unfold q127 at h
  split at h
  · simp only [Option.some.injEq, Prod.mk.injEq] at h; obtain ⟨hg, h⟩ := h; cases h; exact f127_spec _ hg
  · cases h
noncomputable def f132S0 (y0 : ByteArray) (y1 : Int) (y2 : Int) : St := ⟨[(0, .c (.one (.v (.string y0)))), (5, .c (.one (.v (.int .i64 y1)))), (6, .c (.one (.v (.int .i64 y2))))], [], []⟩
noncomputable def f132S1 : St := ⟨[(2, .c (.one (.v (.bool false))))], [], []⟩
noncomputable def f132S2 (y0 : ByteArray) (y1 : Int) (y2 : Int) (y3 : Bool) : St := ⟨[(0, .c (.one (.v (.string y0)))), (5, .c (.one (.v (.int .i64 y1)))), (6, .c (.one (.v (.int .i64 y2)))), (7, .c (.one (.v (.bool y3))))], [], []⟩
noncomputable def f132c : Code := (Try.f132.body).getD .skip
def f132k : Nat → Kp := kat [⟨[0], [], [], []⟩, ⟨[0, 5, 6], [], [], []⟩, ⟨[0, 5, 6, 7], [], [], []⟩, ⟨[0, 3, 5, 6], [], [], []⟩, ⟨[0, 5, 6, 14], [], [], []⟩, ⟨[2], [], [], []⟩, ⟨[0, 5, 6], [], [], []⟩, ⟨[2], [], [], []⟩]
noncomputable def f132e : Env := tab.env [(56, s56)]
noncomputable def f132L0 {R : Type} (n : Nat) (x0 : Option R) (x1 : Int → Bool → Option R) (vs0 : ByteArray) (vs5 : Int) : Nat → Int → Option R
  | 0, _ => none
  | m + 1, vs6 =>
    (cond (decide (vs6 < vs5))
   (cond ((decide ((0 : Int) ≤ vs6)) && (decide (vs6 < (ByteArray.size vs0 : Int))))
    (cond (!(inR (IntKind.wrap .i64 (((ByteArray.data vs0).getD (Int.toNat vs6) 0).toNat : Int)) (32 : Int) (126 : Int)))
     (x0)
     (f132L0 n x0 x1 vs0 vs5 m (IntKind.wrap .i64 (vs6 + (1 : Int)))))
    none)
   (x1 vs6 (decide (vs6 < vs5))))
theorem f132L0_b {R : Type} (n : Nat) (k' : Ex → St → Option R) (vs0 : ByteArray) (vs5 : Int) (vs6 : Int) : ev f132e f132k n (cAt [1,0,1,0,0] f132c) (f132S0 vs0 vs5 vs6) k' =
    (cond (decide (vs6 < vs5))
  (cond ((decide ((0 : Int) ≤ vs6)) && (decide (vs6 < (ByteArray.size vs0 : Int))))
   (cond (!(inR (IntKind.wrap .i64 (((ByteArray.data vs0).getD (Int.toNat vs6) 0).toNat : Int)) (32 : Int) (126 : Int)))
    (k' .ret f132S1)
    (k' .normal (f132S0 vs0 vs5 (IntKind.wrap .i64 (vs6 + (1 : Int))))))
   none)
  (k' (.exit 0) (f132S2 vs0 vs5 vs6 (decide (vs6 < vs5))))) := by kernel_rfl
theorem f132L0_eq {R : Type} (n : Nat) (k' : Ex → St → Option R) (vs0 : ByteArray) (vs5 : Int) : ∀ (m : Nat) (vs6 : Int), iter (fun st k => ev f132e f132k n (cAt [1,0,1,0,0] f132c) st k) m (f132S0 vs0 vs5 vs6) k' = f132L0 n (k' .ret f132S1) (fun (xvs6 : Int) (xvs7 : Bool) => k' (.exit 0) (f132S2 vs0 vs5 xvs6 xvs7)) vs0 vs5 m vs6 := by
  intro m; induction m with
  | zero => intros; rfl
  | succ m ih =>
    intro vs6
    simp only [iter]
    rw [f132L0_b]
    simp only [ih, f132L0]
noncomputable def f132K0 {R : Type} (n : Nat) (k' : Ex → St → Option R) : Ex → St → Option R := (blockK 0 (seqK f132e f132k n (cAt [1,1] f132c) k'))
theorem f132K0_x0 {R : Type} (n : Nat) (k : List Dt → Option R) (a0 : ByteArray)  : f132K0 n (exitK f132e [.ro] [false] true [.tmp 2] [4] [.d .str a0] k) .ret f132S1 =
    (k [.d .bool false]) := by kernel_rfl
theorem f132K0_x1 {R : Type} (n : Nat) (k : List Dt → Option R) (a0 : ByteArray) (vs0 : ByteArray) (vs5 : Int) (xvs6 : Int) (xvs7 : Bool) : f132K0 n (exitK f132e [.ro] [false] true [.tmp 2] [4] [.d .str a0] k) (.exit 0) (f132S2 vs0 vs5 xvs6 xvs7) =
    (k [.d .bool (decide ((ByteArray.size vs0 : Int) ≤ (400 : Int)))]) := by kernel_rfl
theorem f132_run {R : Type} (n : Nat) (k : List Dt → Option R) (a0 : ByteArray) : evFn f132e f132k n f132c [.ro] [false] true [.tmp 2] [4] [.d .str a0] k =
    (f132L0 n (k [.d .bool false]) (fun (xvs6 : Int) (xvs7 : Bool) =>
  (k [.d .bool (decide ((ByteArray.size a0 : Int) ≤ (400 : Int)))])) a0 (ByteArray.size a0 : Int) n (0 : Int)) := by
  refine Eq.trans (b := (iter (fun st k => ev f132e f132k n (cAt [1,0,1,0,0] f132c) st k) n (f132S0 a0 (ByteArray.size a0 : Int) (0 : Int)) (f132K0 n (exitK f132e [.ro] [false] true [.tmp 2] [4] [.d .str a0] k)))) (by kernel_rfl) ?_
  simp only [f132L0_eq, f132K0_x0, f132K0_x1]
theorem f132_spec (a0 : ByteArray) (hg : okStr a0 = true) : ∃ keep rounds, ∀ {R : Type} (k : List Dt → Option R), evFn f132e keep rounds f132c [.ro] [false] true [.tmp 2] [4] [.d .str a0] k = k [.d .bool (textOk a0)] := by
  have hl : a0.size ≤ 9223372036854775807 := bleN hg
  refine ⟨f132k, a0.size + 1, fun {R} k => ?_⟩
  rw [f132_run]
  refine Eq.trans (loop_idx (n := a0.size) (F := fun m i => f132L0 (a0.size + 1) _ _ a0 (a0.size : Int) m i) (p := fun j => inR (byteAt a0 j) 32 126) (good := _) (bad := k [.d .bool false])
    (fun m j hj => ?_) (fun m => by simp only [f132L0, idxE, cond_false]; rfl) a0.size 0 (a0.size + 1) (by omega) (by omega)) ?_
  · obtain ⟨h1, h0, hw, ht⟩ := idx hj (by omega)
    have hc : 0 ≤ byteAt a0 j ∧ byteAt a0 j < 256 := by
      unfold byteAt
      have := UInt8.toNat_lt (a0.data.getD j 0)
      omega
    simp only [f132L0, h1, h0, hw, ht, Bool.and_self, cond_true]
    change 0 ≤ (((ByteArray.data a0).getD j 0).toNat : Int) ∧ (((ByteArray.data a0).getD j 0).toNat : Int) < 256 at hc
    show _ = cond (inR (((ByteArray.data a0).getD j 0).toNat : Int) 32 126) _ _
    generalize (((ByteArray.data a0).getD j 0).toNat : Int) = c at *
    rw [wrap_id (by omega) (by omega)]
    cases inR c 32 126 <;> rfl
  · unfold textOk
    cases allN (fun j => inR (byteAt a0 j) 32 126) 0 a0.size <;> rfl
noncomputable def q132 : List Dt → Option (Bool × List Dt)
  | [.d .str a0] => some ((okStr a0), [.d .bool (textOk a0)])
  | _ => none
noncomputable def s132 : Gm.Spec := Gm.Spec.of [.ro] [false] true q132
theorem good132 : Gm.Good Try.prog (132, s132) := by
  have hl : ∀ x ∈ [(56, s56)], Gm.Good Try.prog x := List.forall_mem_cons.2 ⟨good56, List.forall_mem_nil _⟩
  refine ⟨⟨spec_ok (tab_ok.env hl) (tab.natl hl) Try.func132 (by kernel_rfl : Try.f132.body = some f132c) [4] (by kernel_rfl) ?_, _, Try.func132, by kernel_rfl, of_decide_eq_true (by kernel_rfl)⟩, Gm.Spec.of_natl _ _ _ _⟩
  intro ds outs h
  unfold q132 at h
  split at h
  · simp only [Option.some.injEq, Prod.mk.injEq] at h; obtain ⟨hg, h⟩ := h; cases h; exact f132_spec _ hg
  · cases h
end Go.Proofs.Ytnbehmbjoanfoaa

namespace Go.Proofs.Ytnbehmbjoanfoaa
open Go Go.Gm
set_option maxHeartbeats 1000000 in
set_option maxRecDepth 100000 in
theorem liteIdx (s : ByteArray) (c : Int) (w : World) : Calls Try.prog 157 #[.string s, .int .u8 c] w fun e w' => e = .returned (.int .i64 (idxB s c)) ∧ w' = w := by
  go_enter Try.func157, Try.ntmps157
  go_wp2
  rw [run_callFunc_extern Try.func159 (by kernel_rfl) (by kernel_rfl) (by kernel_rfl) (e := Extern.BytealgIndexByte.indexByte) (by kernel_rfl), Lib.run_indexByteString]
  simp only [Result.andThen]
  rw [Oper.upon_value]
  go_wp2
  go_ret
  exact ⟨rfl, rfl⟩
noncomputable def q157 : List Dt → Option (Bool × List Dt)
  | [.d .str a0, .d (.i .u8) a1] => some (true, [.d (.i .i64) (idxB a0 a1)])
  | _ => none
noncomputable def s157 : Gm.Spec := Gm.Spec.of [.ro, .ro] [false] true q157
theorem good157 : Gm.Good Try.prog (157, s157) := by
  refine ⟨⟨spec_plain rfl ?_, _, Try.func157, by kernel_rfl, of_decide_eq_true (by kernel_rfl)⟩, Gm.Spec.of_natl _ _ _ _⟩
  intro ds outs h
  unfold q157 at h
  split at h
  · rename_i a0 a1
    cases h
    refine ⟨_, _, .int .i64 (idxB a0 a1), rfl, rfl, rfl, rfl, fun w us ROa Fs hA => ?_⟩
    cases hA with
    | cons h1 hA =>
      cases hA with
      | cons h2 hA =>
        cases hA
        have e1 := valRd_v (t := .str) (v := .string a0) rfl rfl h1
        have e2 := valRd_v (t := .i .u8) (v := .int .u8 a1) rfl rfl h2
        subst e1 e2
        exact liteIdx a0 a1 w
  · cases h
end Go.Proofs.Ytnbehmbjoanfoaa

namespace Go.Proofs.Ytnbehmbjoanfoaa
open Go Go.Gm
noncomputable def f150c : Code := (Try.f150.body).getD .skip
def f150k : Nat → Kp := kat [⟨[0, 1], [], [], []⟩, ⟨[4], [], [], []⟩]
noncomputable def f150e : Env := tab.env [(157, s157)]
theorem f150_run {R : Type} (n : Nat) (k : List Dt → Option R) (a0 : ByteArray) (a1 : Int) : evFn f150e f150k n f150c [.ro, .ro] [false] true [.tmp 4] [3] [.d .str a0, .d (.i .u8) a1] k =
    (k [.d (.i .i64) (idxB a0 a1)]) := by kernel_rfl
theorem f150_spec (a0 : ByteArray) (a1 : Int) : ∃ keep rounds, ∀ {R : Type} (k : List Dt → Option R), evFn f150e keep rounds f150c [.ro, .ro] [false] true [.tmp 4] [3] [.d .str a0, .d (.i .u8) a1] k = k [.d (.i .i64) (idxB a0 a1)] := ⟨f150k, 0, fun k => f150_run 0 k _ _⟩
noncomputable def q150 : List Dt → Option (Bool × List Dt)
  | [.d .str a0, .d (.i .u8) a1] => some (true, [.d (.i .i64) (idxB a0 a1)])
  | _ => none
noncomputable def s150 : Gm.Spec := Gm.Spec.of [.ro, .ro] [false] true q150
theorem good150 : Gm.Good Try.prog (150, s150) := by
  have hl : ∀ x ∈ [(157, s157)], Gm.Good Try.prog x := List.forall_mem_cons.2 ⟨good157, List.forall_mem_nil _⟩
  refine ⟨⟨spec_ok (tab_ok.env hl) (tab.natl hl) Try.func150 (by kernel_rfl : Try.f150.body = some f150c) [3] (by kernel_rfl) ?_, _, Try.func150, by kernel_rfl, of_decide_eq_true (by kernel_rfl)⟩, Gm.Spec.of_natl _ _ _ _⟩
  intro ds outs h
  unfold q150 at h
  split at h
  · cases h; exact f150_spec _ _
  · cases h
noncomputable def f125S0 (y0 : ByteArray) (y1 : Int) : St := ⟨[(0, .c (.one (.v (.string y0)))), (3, .c (.one (.v (.int .i64 y1))))], [], []⟩
noncomputable def f125S1 : St := ⟨[(2, .c (.one (.v (.bool false))))], [], []⟩
noncomputable def f125S2 (y0 : ByteArray) (y1 : Int) (y2 : Bool) : St := ⟨[(0, .c (.one (.v (.string y0)))), (3, .c (.one (.v (.int .i64 y1)))), (8, .c (.one (.v (.bool y2))))], [], []⟩
noncomputable def f125c : Code := (Try.f125.body).getD .skip
def f125k : Nat → Kp := kat [⟨[0], [], [], []⟩, ⟨[0, 3], [], [], []⟩, ⟨[0, 3, 8], [], [], []⟩, ⟨[0, 3], [], [], []⟩, ⟨[0, 3, 4], [], [], []⟩, ⟨[0, 3, 45], [], [], []⟩, ⟨[2], [], [], []⟩, ⟨[2], [], [], []⟩]
noncomputable def f125e : Env := tab.env [(54, s54), (148, s148)]
noncomputable def f125L0 {R : Type} (n : Nat) (x0 : Option R) (x1 : Int → Bool → Option R) (vs0 : ByteArray) : Nat → Int → Option R
  | 0, _ => none
  | m + 1, vs3 =>
    (cond (decide (vs3 < (ByteArray.size vs0 : Int)))
   (cond ((decide ((0 : Int) ≤ vs3)) && (decide (vs3 < (ByteArray.size vs0 : Int))))
    (cond (!(letter (((ByteArray.data vs0).getD (Int.toNat vs3) 0).toNat : Int)))
     (cond (vs3 == (0 : Int))
      (x0)
      (cond (decide ((((ByteArray.data vs0).getD (Int.toNat vs3) 0).toNat : Int) ≥ (48 : Int)))
       (cond (decide ((((ByteArray.data vs0).getD (Int.toNat vs3) 0).toNat : Int) ≤ (57 : Int)))
        (f125L0 n x0 x1 vs0 m (IntKind.wrap .i64 (vs3 + (1 : Int))))
        (cond ((((ByteArray.data vs0).getD (Int.toNat vs3) 0).toNat : Int) == (95 : Int))
         (f125L0 n x0 x1 vs0 m (IntKind.wrap .i64 (vs3 + (1 : Int))))
         (cond ((((ByteArray.data vs0).getD (Int.toNat vs3) 0).toNat : Int) == (46 : Int))
          (f125L0 n x0 x1 vs0 m (IntKind.wrap .i64 (vs3 + (1 : Int))))
          (cond ((((ByteArray.data vs0).getD (Int.toNat vs3) 0).toNat : Int) == (47 : Int))
           (f125L0 n x0 x1 vs0 m (IntKind.wrap .i64 (vs3 + (1 : Int))))
           (cond (!((((ByteArray.data vs0).getD (Int.toNat vs3) 0).toNat : Int) == (45 : Int)))
            (x0)
            (f125L0 n x0 x1 vs0 m (IntKind.wrap .i64 (vs3 + (1 : Int)))))))))
       (cond ((((ByteArray.data vs0).getD (Int.toNat vs3) 0).toNat : Int) == (95 : Int))
        (f125L0 n x0 x1 vs0 m (IntKind.wrap .i64 (vs3 + (1 : Int))))
        (cond ((((ByteArray.data vs0).getD (Int.toNat vs3) 0).toNat : Int) == (46 : Int))
         (f125L0 n x0 x1 vs0 m (IntKind.wrap .i64 (vs3 + (1 : Int))))
         (cond ((((ByteArray.data vs0).getD (Int.toNat vs3) 0).toNat : Int) == (47 : Int))
          (f125L0 n x0 x1 vs0 m (IntKind.wrap .i64 (vs3 + (1 : Int))))
          (cond (!((((ByteArray.data vs0).getD (Int.toNat vs3) 0).toNat : Int) == (45 : Int)))
           (x0)
           (f125L0 n x0 x1 vs0 m (IntKind.wrap .i64 (vs3 + (1 : Int))))))))))
     (f125L0 n x0 x1 vs0 m (IntKind.wrap .i64 (vs3 + (1 : Int)))))
    none)
   (x1 vs3 (decide (vs3 < (ByteArray.size vs0 : Int)))))
theorem f125L0_b {R : Type} (n : Nat) (k' : Ex → St → Option R) (vs0 : ByteArray) (vs3 : Int) : ev f125e f125k n (cAt [1,0,1,0,0] f125c) (f125S0 vs0 vs3) k' =
    (cond (decide (vs3 < (ByteArray.size vs0 : Int)))
  (cond ((decide ((0 : Int) ≤ vs3)) && (decide (vs3 < (ByteArray.size vs0 : Int))))
   (cond (!(letter (((ByteArray.data vs0).getD (Int.toNat vs3) 0).toNat : Int)))
    (cond (vs3 == (0 : Int))
     (k' .ret f125S1)
     (cond (decide ((((ByteArray.data vs0).getD (Int.toNat vs3) 0).toNat : Int) ≥ (48 : Int)))
      (cond (decide ((((ByteArray.data vs0).getD (Int.toNat vs3) 0).toNat : Int) ≤ (57 : Int)))
       (k' .normal (f125S0 vs0 (IntKind.wrap .i64 (vs3 + (1 : Int)))))
       (cond ((((ByteArray.data vs0).getD (Int.toNat vs3) 0).toNat : Int) == (95 : Int))
        (k' .normal (f125S0 vs0 (IntKind.wrap .i64 (vs3 + (1 : Int)))))
        (cond ((((ByteArray.data vs0).getD (Int.toNat vs3) 0).toNat : Int) == (46 : Int))
         (k' .normal (f125S0 vs0 (IntKind.wrap .i64 (vs3 + (1 : Int)))))
         (cond ((((ByteArray.data vs0).getD (Int.toNat vs3) 0).toNat : Int) == (47 : Int))
          (k' .normal (f125S0 vs0 (IntKind.wrap .i64 (vs3 + (1 : Int)))))
          (cond (!((((ByteArray.data vs0).getD (Int.toNat vs3) 0).toNat : Int) == (45 : Int)))
           (k' .ret f125S1)
           (k' .normal (f125S0 vs0 (IntKind.wrap .i64 (vs3 + (1 : Int))))))))))
      (cond ((((ByteArray.data vs0).getD (Int.toNat vs3) 0).toNat : Int) == (95 : Int))
       (k' .normal (f125S0 vs0 (IntKind.wrap .i64 (vs3 + (1 : Int)))))
       (cond ((((ByteArray.data vs0).getD (Int.toNat vs3) 0).toNat : Int) == (46 : Int))
        (k' .normal (f125S0 vs0 (IntKind.wrap .i64 (vs3 + (1 : Int)))))
        (cond ((((ByteArray.data vs0).getD (Int.toNat vs3) 0).toNat : Int) == (47 : Int))
         (k' .normal (f125S0 vs0 (IntKind.wrap .i64 (vs3 + (1 : Int)))))
         (cond (!((((ByteArray.data vs0).getD (Int.toNat vs3) 0).toNat : Int) == (45 : Int)))
          (k' .ret f125S1)
          (k' .normal (f125S0 vs0 (IntKind.wrap .i64 (vs3 + (1 : Int)))))))))))
    (k' .normal (f125S0 vs0 (IntKind.wrap .i64 (vs3 + (1 : Int))))))
   none)
  (k' (.exit 0) (f125S2 vs0 vs3 (decide (vs3 < (ByteArray.size vs0 : Int)))))) := by kernel_rfl
theorem f125L0_eq {R : Type} (n : Nat) (k' : Ex → St → Option R) (vs0 : ByteArray) : ∀ (m : Nat) (vs3 : Int), iter (fun st k => ev f125e f125k n (cAt [1,0,1,0,0] f125c) st k) m (f125S0 vs0 vs3) k' = f125L0 n (k' .ret f125S1) (fun (xvs3 : Int) (xvs8 : Bool) => k' (.exit 0) (f125S2 vs0 xvs3 xvs8)) vs0 m vs3 := by
  intro m; induction m with
  | zero => intros; rfl
  | succ m ih =>
    intro vs3
    simp only [iter]
    rw [f125L0_b]
    simp only [ih, f125L0]
noncomputable def f125K0 {R : Type} (n : Nat) (k' : Ex → St → Option R) : Ex → St → Option R := (blockK 0 (seqK f125e f125k n (cAt [1,1] f125c) k'))
theorem f125K0_x0 {R : Type} (n : Nat) (k : List Dt → Option R) (a0 : ByteArray)  : f125K0 n (exitK f125e [.ro] [false] true [.tmp 2] [4] [.d .str a0] k) .ret f125S1 =
    (k [.d .bool false]) := by kernel_rfl
theorem f125K0_x1 {R : Type} (n : Nat) (k : List Dt → Option R) (a0 : ByteArray) (vs0 : ByteArray) (xvs3 : Int) (xvs8 : Bool) : f125K0 n (exitK f125e [.ro] [false] true [.tmp 2] [4] [.d .str a0] k) (.exit 0) (f125S2 vs0 xvs3 xvs8) =
    (cond (inR (ByteArray.size vs0 : Int) (1 : Int) (60 : Int))
  (cond (!(sEq vs0 (bs [110,117,108,108])))
   (cond (!(sEq vs0 (bs [116,114,117,101])))
    (k [.d .bool (!(sEq vs0 (bs [102,97,108,115,101])))])
    (k [.d .bool false]))
   (k [.d .bool false]))
  (k [.d .bool false])) := by kernel_rfl
theorem f125_run {R : Type} (n : Nat) (k : List Dt → Option R) (a0 : ByteArray) : evFn f125e f125k n f125c [.ro] [false] true [.tmp 2] [4] [.d .str a0] k =
    (f125L0 n (k [.d .bool false]) (fun (xvs3 : Int) (xvs8 : Bool) =>
  (cond (inR (ByteArray.size a0 : Int) (1 : Int) (60 : Int))
   (cond (!(sEq a0 (bs [110,117,108,108])))
    (cond (!(sEq a0 (bs [116,114,117,101])))
     (k [.d .bool (!(sEq a0 (bs [102,97,108,115,101])))])
     (k [.d .bool false]))
    (k [.d .bool false]))
   (k [.d .bool false]))) a0 n (0 : Int)) := by
  refine Eq.trans (b := (iter (fun st k => ev f125e f125k n (cAt [1,0,1,0,0] f125c) st k) n (f125S0 a0 (0 : Int)) (f125K0 n (exitK f125e [.ro] [false] true [.tmp 2] [4] [.d .str a0] k)))) (by kernel_rfl) ?_
  simp only [f125L0_eq, f125K0_x0, f125K0_x1]
theorem f125_spec (a0 : ByteArray) (hg : okStr a0 = true) : ∃ keep rounds, ∀ {R : Type} (k : List Dt → Option R), evFn f125e keep rounds f125c [.ro] [false] true [.tmp 2] [4] [.d .str a0] k = k [.d .bool (plainOk a0)] := by
  have hl : a0.size ≤ 9223372036854775807 := bleN hg
  refine ⟨f125k, a0.size + 1, fun k => ?_⟩
  rw [f125_run]
  refine Eq.trans (loop_idx (n := a0.size) (F := fun m i => f125L0 (a0.size + 1) _ _ a0 m i) (p := fun j => plainC (j : Int) (byteAt a0 j)) (good := _) (bad := k [.d .bool false])
    (fun m j hj => ?_) (fun m => by simp only [f125L0, idxE, cond_false]; rfl) a0.size 0 (a0.size + 1) (by omega) (by omega)) ?_
  · obtain ⟨h1, h0, hw, ht⟩ := idx hj (by omega)
    simp only [f125L0, h1, h0, hw, ht, Bool.and_self, cond_true]
    show _ = cond (plainC (j : Int) (((ByteArray.data a0).getD j 0).toNat : Int)) _ _
    generalize (((ByteArray.data a0).getD j 0).toNat : Int) = c
    unfold plainC digit
    cases letter c
    · cases ((j : Int) == (0 : Int))
      · cases decide (c ≥ (48 : Int)) <;> cases decide (c ≤ (57 : Int)) <;> cases (c == (95 : Int)) <;> cases (c == (46 : Int)) <;> cases (c == (47 : Int)) <;> cases (c == (45 : Int)) <;> rfl
      · rfl
    · rfl
  · unfold plainOk
    cases allN (fun j => plainC (j : Int) (byteAt a0 j)) 0 a0.size <;> cases inR (a0.size : Int) 1 60 <;> cases sEq a0 (bs [110,117,108,108]) <;> cases sEq a0 (bs [116,114,117,101]) <;> rfl
noncomputable def q125 : List Dt → Option (Bool × List Dt)
  | [.d .str a0] => some ((okStr a0), [.d .bool (plainOk a0)])
  | _ => none
noncomputable def s125 : Gm.Spec := Gm.Spec.of [.ro] [false] true q125
theorem good125 : Gm.Good Try.prog (125, s125) := by
  have hl : ∀ x ∈ [(54, s54), (148, s148)], Gm.Good Try.prog x := List.forall_mem_cons.2 ⟨good54, List.forall_mem_cons.2 ⟨good148, List.forall_mem_nil _⟩⟩
  refine ⟨⟨spec_ok (tab_ok.env hl) (tab.natl hl) Try.func125 (by kernel_rfl : Try.f125.body = some f125c) [4] (by kernel_rfl) ?_, _, Try.func125, by kernel_rfl, of_decide_eq_true (by kernel_rfl)⟩, Gm.Spec.of_natl _ _ _ _⟩
  intro ds outs h
  unfold q125 at h
  split at h
  · simp only [Option.some.injEq, Prod.mk.injEq] at h; obtain ⟨hg, h⟩ := h; cases h; exact f125_spec _ hg
  · cases h
noncomputable def f130S0 (y0 : ByteArray) (y1 : Int) (y2 : Int) : St := ⟨[(0, .c (.one (.v (.string y0)))), (5, .c (.one (.v (.int .i64 y1)))), (6, .c (.one (.v (.int .i64 y2))))], [], []⟩
noncomputable def f130S1 : St := ⟨[(2, .c (.one (.v (.bool false))))], [], []⟩
noncomputable def f130S2 (y0 : ByteArray) (y1 : Int) (y2 : Int) (y3 : Bool) : St := ⟨[(0, .c (.one (.v (.string y0)))), (5, .c (.one (.v (.int .i64 y1)))), (6, .c (.one (.v (.int .i64 y2)))), (7, .c (.one (.v (.bool y3))))], [], []⟩
noncomputable def f130c : Code := (Try.f130.body).getD .skip
def f130k : Nat → Kp := kat [⟨[0], [], [], []⟩, ⟨[0, 5, 6], [], [], []⟩, ⟨[0, 5, 6, 7], [], [], []⟩, ⟨[0, 3, 5, 6], [], [], []⟩, ⟨[0, 5, 6, 31], [], [], []⟩, ⟨[2], [], [], []⟩, ⟨[0, 5, 6], [], [], []⟩, ⟨[2], [], [], []⟩]
noncomputable def f130e : Env := tab.env [(56, s56), (128, s128), (149, s149), (150, s150)]
noncomputable def f130L0 {R : Type} (n : Nat) (x0 : Option R) (x1 : Int → Bool → Option R) (vs0 : ByteArray) (vs5 : Int) : Nat → Int → Option R
  | 0, _ => none
  | m + 1, vs6 =>
    (cond (decide (vs6 < vs5))
   (cond ((decide ((0 : Int) ≤ vs6)) && (decide (vs6 < (ByteArray.size vs0 : Int))))
    (cond (!(letter (((ByteArray.data vs0).getD (Int.toNat vs6) 0).toNat : Int)))
     (cond (vs6 == (0 : Int))
      (x0)
      (cond ((decide ((0 : Int) ≤ vs6)) && (decide (vs6 < (ByteArray.size vs0 : Int))))
       (cond (!(digit (((ByteArray.data vs0).getD (Int.toNat vs6) 0).toNat : Int)))
        (cond ((decide ((0 : Int) ≤ vs6)) && (decide (vs6 < (ByteArray.size vs0 : Int))))
         (cond (decide ((idxB (bs [95,46,47,45]) (((ByteArray.data vs0).getD (Int.toNat vs6) 0).toNat : Int)) < (0 : Int)))
          (x0)
          (f130L0 n x0 x1 vs0 vs5 m (IntKind.wrap .i64 (vs6 + (1 : Int)))))
         none)
        (f130L0 n x0 x1 vs0 vs5 m (IntKind.wrap .i64 (vs6 + (1 : Int)))))
       none))
     (f130L0 n x0 x1 vs0 vs5 m (IntKind.wrap .i64 (vs6 + (1 : Int)))))
    none)
   (x1 vs6 (decide (vs6 < vs5))))
theorem f130L0_b {R : Type} (n : Nat) (k' : Ex → St → Option R) (vs0 : ByteArray) (vs5 : Int) (vs6 : Int) : ev f130e f130k n (cAt [1,0,1,0,0] f130c) (f130S0 vs0 vs5 vs6) k' =
    (cond (decide (vs6 < vs5))
  (cond ((decide ((0 : Int) ≤ vs6)) && (decide (vs6 < (ByteArray.size vs0 : Int))))
   (cond (!(letter (((ByteArray.data vs0).getD (Int.toNat vs6) 0).toNat : Int)))
    (cond (vs6 == (0 : Int))
     (k' .ret f130S1)
     (cond ((decide ((0 : Int) ≤ vs6)) && (decide (vs6 < (ByteArray.size vs0 : Int))))
      (cond (!(digit (((ByteArray.data vs0).getD (Int.toNat vs6) 0).toNat : Int)))
       (cond ((decide ((0 : Int) ≤ vs6)) && (decide (vs6 < (ByteArray.size vs0 : Int))))
        (cond (decide ((idxB (bs [95,46,47,45]) (((ByteArray.data vs0).getD (Int.toNat vs6) 0).toNat : Int)) < (0 : Int)))
         (k' .ret f130S1)
         (k' .normal (f130S0 vs0 vs5 (IntKind.wrap .i64 (vs6 + (1 : Int))))))
        none)
       (k' .normal (f130S0 vs0 vs5 (IntKind.wrap .i64 (vs6 + (1 : Int))))))
      none))
    (k' .normal (f130S0 vs0 vs5 (IntKind.wrap .i64 (vs6 + (1 : Int))))))
   none)
  (k' (.exit 0) (f130S2 vs0 vs5 vs6 (decide (vs6 < vs5))))) := by kernel_rfl
theorem f130L0_eq {R : Type} (n : Nat) (k' : Ex → St → Option R) (vs0 : ByteArray) (vs5 : Int) : ∀ (m : Nat) (vs6 : Int), iter (fun st k => ev f130e f130k n (cAt [1,0,1,0,0] f130c) st k) m (f130S0 vs0 vs5 vs6) k' = f130L0 n (k' .ret f130S1) (fun (xvs6 : Int) (xvs7 : Bool) => k' (.exit 0) (f130S2 vs0 vs5 xvs6 xvs7)) vs0 vs5 m vs6 := by
  intro m; induction m with
  | zero => intros; rfl
  | succ m ih =>
    intro vs6
    simp only [iter]
    rw [f130L0_b]
    simp only [ih, f130L0]
noncomputable def f130K0 {R : Type} (n : Nat) (k' : Ex → St → Option R) : Ex → St → Option R := (blockK 0 (seqK f130e f130k n (cAt [1,1] f130c) k'))
theorem f130K0_x0 {R : Type} (n : Nat) (k : List Dt → Option R) (a0 : ByteArray)  : f130K0 n (exitK f130e [.ro] [false] true [.tmp 2] [4] [.d .str a0] k) .ret f130S1 =
    (k [.d .bool false]) := by kernel_rfl
theorem f130K0_x1 {R : Type} (n : Nat) (k : List Dt → Option R) (a0 : ByteArray) (vs0 : ByteArray) (vs5 : Int) (xvs6 : Int) (xvs7 : Bool) : f130K0 n (exitK f130e [.ro] [false] true [.tmp 2] [4] [.d .str a0] k) (.exit 0) (f130S2 vs0 vs5 xvs6 xvs7) =
    (cond (inR (ByteArray.size vs0 : Int) (1 : Int) (60 : Int))
  (cond (!(sEq vs0 (bs [110,117,108,108])))
   (cond (!(sEq vs0 (bs [116,114,117,101])))
    (k [.d .bool (!(sEq vs0 (bs [102,97,108,115,101])))])
    (k [.d .bool false]))
   (k [.d .bool false]))
  (k [.d .bool false])) := by kernel_rfl
theorem f130_run {R : Type} (n : Nat) (k : List Dt → Option R) (a0 : ByteArray) : evFn f130e f130k n f130c [.ro] [false] true [.tmp 2] [4] [.d .str a0] k =
    (f130L0 n (k [.d .bool false]) (fun (xvs6 : Int) (xvs7 : Bool) =>
  (cond (inR (ByteArray.size a0 : Int) (1 : Int) (60 : Int))
   (cond (!(sEq a0 (bs [110,117,108,108])))
    (cond (!(sEq a0 (bs [116,114,117,101])))
     (k [.d .bool (!(sEq a0 (bs [102,97,108,115,101])))])
     (k [.d .bool false]))
    (k [.d .bool false]))
   (k [.d .bool false]))) a0 (ByteArray.size a0 : Int) n (0 : Int)) := by
  refine Eq.trans (b := (iter (fun st k => ev f130e f130k n (cAt [1,0,1,0,0] f130c) st k) n (f130S0 a0 (ByteArray.size a0 : Int) (0 : Int)) (f130K0 n (exitK f130e [.ro] [false] true [.tmp 2] [4] [.d .str a0] k)))) (by kernel_rfl) ?_
  simp only [f130L0_eq, f130K0_x0, f130K0_x1]
theorem f130_spec (a0 : ByteArray) (hg : okStr a0 = true) : ∃ keep rounds, ∀ {R : Type} (k : List Dt → Option R), evFn f130e keep rounds f130c [.ro] [false] true [.tmp 2] [4] [.d .str a0] k = k [.d .bool (plainOk a0)] := by
  have hl : a0.size ≤ 9223372036854775807 := bleN hg
  refine ⟨f130k, a0.size + 1, fun k => ?_⟩
  rw [f130_run]
  refine Eq.trans (loop_idx (n := a0.size) (F := fun m i => f130L0 (a0.size + 1) _ _ a0 (a0.size : Int) m i) (p := fun j => plainC (j : Int) (byteAt a0 j)) (good := _) (bad := k [.d .bool false])
    (fun m j hj => ?_) (fun m => by simp only [f130L0, idxE, cond_false]; rfl) a0.size 0 (a0.size + 1) (by omega) (by omega)) ?_
  · obtain ⟨h1, h0, hw, ht⟩ := idx hj (by omega)
    simp only [f130L0, h1, h0, hw, ht, Bool.and_self, cond_true, idx4 (UInt8.toNat_lt _)]
    show _ = cond (plainC (j : Int) (((ByteArray.data a0).getD j 0).toNat : Int)) _ _
    generalize (((ByteArray.data a0).getD j 0).toNat : Int) = c
    unfold plainC
    cases letter c
    · cases ((j : Int) == (0 : Int))
      · cases digit c <;> cases (c == (95 : Int)) <;> cases (c == (46 : Int)) <;> cases (c == (47 : Int)) <;> cases (c == (45 : Int)) <;> rfl
      · rfl
    · rfl
  · unfold plainOk
    cases allN (fun j => plainC (j : Int) (byteAt a0 j)) 0 a0.size <;> cases inR (a0.size : Int) 1 60 <;> cases sEq a0 (bs [110,117,108,108]) <;> cases sEq a0 (bs [116,114,117,101]) <;> rfl
noncomputable def q130 : List Dt → Option (Bool × List Dt)
  | [.d .str a0] => some ((okStr a0), [.d .bool (plainOk a0)])
  | _ => none
noncomputable def s130 : Gm.Spec := Gm.Spec.of [.ro] [false] true q130
theorem good130 : Gm.Good Try.prog (130, s130) := by
  have hl : ∀ x ∈ [(56, s56), (128, s128), (149, s149), (150, s150)], Gm.Good Try.prog x := List.forall_mem_cons.2 ⟨good56, List.forall_mem_cons.2 ⟨good128, List.forall_mem_cons.2 ⟨good149, List.forall_mem_cons.2 ⟨good150, List.forall_mem_nil _⟩⟩⟩⟩
  refine ⟨⟨spec_ok (tab_ok.env hl) (tab.natl hl) Try.func130 (by kernel_rfl : Try.f130.body = some f130c) [4] (by kernel_rfl) ?_, _, Try.func130, by kernel_rfl, of_decide_eq_true (by kernel_rfl)⟩, Gm.Spec.of_natl _ _ _ _⟩
  intro ds outs h
  unfold q130 at h
  split at h
  · simp only [Option.some.injEq, Prod.mk.injEq] at h; obtain ⟨hg, h⟩ := h; cases h; exact f130_spec _ hg
  · cases h
end Go.Proofs.Ytnbehmbjoanfoaa

namespace Go.Proofs.Ytnbehmbjoanfoaa
open Go Go.Gm
noncomputable def f151c : Code := (Try.f151.body).getD .skip
def f151k : Nat → Kp := kat [⟨[0, 1], [], [], []⟩, ⟨[4], [], [], []⟩]
noncomputable def f151e : Env := tab.env []
theorem f151_run {R : Type} (n : Nat) (k : List Dt → Option R) (a0 : ByteArray) (a1 : ByteArray) : evFn f151e f151k n f151c [.ro, .ro] [false] true [.tmp 4] [4] [.d .str a0, .d .str a1] k =
    (cond (decide ((ByteArray.size a0 : Int) ≥ (ByteArray.size a1 : Int)))
  (cond ((decide ((0 : Int) ≤ (ByteArray.size a1 : Int))) && (decide ((ByteArray.size a1 : Int) ≤ (ByteArray.size a0 : Int))))
   (k [.d .bool (sEq (ByteArray.extract a0 0 (Int.toNat (ByteArray.size a1 : Int))) a1)])
   none)
  (k [.d .bool false])) := by kernel_rfl
theorem f151_spec (a0 : ByteArray) (a1 : ByteArray) : ∃ keep rounds, ∀ {R : Type} (k : List Dt → Option R), evFn f151e keep rounds f151c [.ro, .ro] [false] true [.tmp 4] [4] [.d .str a0, .d .str a1] k = k [.d .bool (hasPre a0 a1)] := by
  refine ⟨f151k, 0, fun k => ?_⟩
  rw [f151_run]; unfold hasPre
  rw [Int.toNat_natCast]
  by_cases h : (a0.size : Int) ≥ (a1.size : Int)
  · have h2 : decide ((a1.size : Int) ≤ (a0.size : Int)) = true := decide_eq_true h
    have h3 : decide ((0 : Int) ≤ (a1.size : Int)) = true := decide_eq_true (by omega)
    simp only [h, h2, h3, decide_true, cond_true, Bool.and_self, Bool.true_and]
  · simp only [h, decide_false, cond_false, Bool.false_and]
noncomputable def q151 : List Dt → Option (Bool × List Dt)
  | [.d .str a0, .d .str a1] => some (true, [.d .bool (hasPre a0 a1)])
  | _ => none
noncomputable def s151 : Gm.Spec := Gm.Spec.of [.ro, .ro] [false] true q151
theorem good151 : Gm.Good Try.prog (151, s151) := by
  have hl : ∀ x ∈ ([] : List (Nat × Gm.Spec)), Gm.Good Try.prog x := fun _ h => by cases h
  refine ⟨⟨spec_ok (tab_ok.env hl) (tab.natl hl) Try.func151 (by kernel_rfl : Try.f151.body = some f151c) [4] (by kernel_rfl) ?_, _, Try.func151, by kernel_rfl, of_decide_eq_true (by kernel_rfl)⟩, Gm.Spec.of_natl _ _ _ _⟩
  intro ds outs h
  unfold q151 at h
  split at h
  · cases h; exact f151_spec _ _
  · cases h
noncomputable def f131c : Code := (Try.f131.body).getD .skip
def f131k : Nat → Kp := kat [⟨[0, 1], [], [], []⟩, ⟨[4], [], [], []⟩]
noncomputable def f131e : Env := tab.env [(151, s151)]
theorem f131_run {R : Type} (n : Nat) (k : List Dt → Option R) (a0 : ByteArray) (a1 : ByteArray) : evFn f131e f131k n f131c [.ro, .ro] [false] true [.tmp 4] [4] [.d .str a0, .d .str a1] k =
    (k [.d .bool (hasPre a0 a1)]) := by kernel_rfl
theorem f131_spec (a0 : ByteArray) (a1 : ByteArray) : ∃ keep rounds, ∀ {R : Type} (k : List Dt → Option R), evFn f131e keep rounds f131c [.ro, .ro] [false] true [.tmp 4] [4] [.d .str a0, .d .str a1] k = k [.d .bool (hasPre a0 a1)] := by
  exact ⟨f131k, 0, fun k => f131_run 0 k a0 a1⟩
noncomputable def q131 : List Dt → Option (Bool × List Dt)
  | [.d .str a0, .d .str a1] => some (true, [.d .bool (hasPre a0 a1)])
  | _ => none
noncomputable def s131 : Gm.Spec := Gm.Spec.of [.ro, .ro] [false] true q131
theorem good131 : Gm.Good Try.prog (131, s131) := by
  have hl : ∀ x ∈ [(151, s151)], Gm.Good Try.prog x := List.forall_mem_cons.2 ⟨good151, List.forall_mem_nil _⟩
  refine ⟨⟨spec_ok (tab_ok.env hl) (tab.natl hl) Try.func131 (by kernel_rfl : Try.f131.body = some f131c) [4] (by kernel_rfl) ?_, _, Try.func131, by kernel_rfl, of_decide_eq_true (by kernel_rfl)⟩, Gm.Spec.of_natl _ _ _ _⟩
  intro ds outs h
  unfold q131 at h
  split at h
  · cases h; exact f131_spec _ _
  · cases h
noncomputable def f126c : Code := (Try.f126.body).getD .skip
def f126k : Nat → Kp := kat [⟨[0], [], [], []⟩, ⟨[2], [], [], []⟩]
noncomputable def f126e : Env := tab.env []
theorem f126_run {R : Type} (n : Nat) (k : List Dt → Option R) (a0 : ByteArray) : evFn f126e f126k n f126c [.ro] [false] true [.tmp 2] [4] [.d .str a0] k =
    (cond (decide ((ByteArray.size a0 : Int) ≥ (5 : Int)))
  (cond (decide ((5 : Int) ≤ (ByteArray.size a0 : Int)))
   (k [.d .bool (sEq (ByteArray.extract a0 0 5) (bs [113,117,97,121,47]))])
   none)
  (k [.d .bool false])) := by kernel_rfl
theorem f126_spec (a0 : ByteArray) : ∃ keep rounds, ∀ {R : Type} (k : List Dt → Option R), evFn f126e keep rounds f126c [.ro] [false] true [.tmp 2] [4] [.d .str a0] k = k [.d .bool (ours a0)] := by
  refine ⟨f126k, 0, fun k => ?_⟩
  rw [f126_run]; unfold ours hasPre
  show _ = k [.d .bool (decide ((a0.size : Int) ≥ (5 : Int)) && sEq (a0.extract 0 5) (bs [113,117,97,121,47]))]
  by_cases h : (a0.size : Int) ≥ (5 : Int)
  · have h2 : decide ((5 : Int) ≤ (a0.size : Int)) = true := decide_eq_true h
    simp only [h, h2, decide_true, cond_true, Bool.true_and]
  · simp only [h, decide_false, cond_false, Bool.false_and]
noncomputable def q126 : List Dt → Option (Bool × List Dt)
  | [.d .str a0] => some (true, [.d .bool (ours a0)])
  | _ => none
noncomputable def s126 : Gm.Spec := Gm.Spec.of [.ro] [false] true q126
theorem good126 : Gm.Good Try.prog (126, s126) := by
  have hl : ∀ x ∈ ([] : List (Nat × Gm.Spec)), Gm.Good Try.prog x := fun _ h => by cases h
  refine ⟨⟨spec_ok (tab_ok.env hl) (tab.natl hl) Try.func126 (by kernel_rfl : Try.f126.body = some f126c) [4] (by kernel_rfl) ?_, _, Try.func126, by kernel_rfl, of_decide_eq_true (by kernel_rfl)⟩, Gm.Spec.of_natl _ _ _ _⟩
  intro ds outs h
  unfold q126 at h
  split at h
  · cases h; exact f126_spec _
  · cases h
noncomputable def f129c : Code := (Try.f129.body).getD .skip
def f129k : Nat → Kp := kat [⟨[0], [], [], []⟩, ⟨[2], [], [], []⟩]
noncomputable def f129e : Env := tab.env [(56, s56)]
theorem f129_run {R : Type} (n : Nat) (k : List Dt → Option R) (a0 : Int) : evFn f129e f129k n f129c [.ro] [false] true [.tmp 2] [4] [.d (.i .i64) a0] k =
    (k [.d .bool (inR a0 (0 : Int) (1000 : Int))]) := by kernel_rfl
theorem f129_spec (a0 : Int) : ∃ keep rounds, ∀ {R : Type} (k : List Dt → Option R), evFn f129e keep rounds f129c [.ro] [false] true [.tmp 2] [4] [.d (.i .i64) a0] k = k [.d .bool (isMany a0)] := by
  exact ⟨f129k, 0, fun k => f129_run 0 k a0⟩
noncomputable def q129 : List Dt → Option (Bool × List Dt)
  | [.d (.i .i64) a0] => some (true, [.d .bool (isMany a0)])
  | _ => none
noncomputable def s129 : Gm.Spec := Gm.Spec.of [.ro] [false] true q129
theorem good129 : Gm.Good Try.prog (129, s129) := by
  have hl : ∀ x ∈ [(56, s56)], Gm.Good Try.prog x := List.forall_mem_cons.2 ⟨good56, List.forall_mem_nil _⟩
  refine ⟨⟨spec_ok (tab_ok.env hl) (tab.natl hl) Try.func129 (by kernel_rfl : Try.f129.body = some f129c) [4] (by kernel_rfl) ?_, _, Try.func129, by kernel_rfl, of_decide_eq_true (by kernel_rfl)⟩, Gm.Spec.of_natl _ _ _ _⟩
  intro ds outs h
  unfold q129 at h
  split at h
  · cases h; exact f129_spec _
  · cases h
noncomputable def f93c : Code := (Try.f93.body).getD .skip
def f93k : Nat → Kp := kat [⟨[1], [], [], []⟩, ⟨[2], [], [], []⟩]
noncomputable def f93e : Env := tab.env [(54, s54)]
theorem f93_run {R : Type} (n : Nat) (k : List Dt → Option R) (a0 : PaceT) : evFn f93e f93k n f93c [.ro] [false] true [.tmp 2] [4] [.d .pace a0] k =
    (cond (inR (PaceT.up a0) (0 : Int) (1000 : Int))
  (cond (inR (PaceT.down a0) (0 : Int) (1000 : Int))
   (cond (inR (PaceT.upSpan a0) (0 : Int) (3600 : Int))
    (k [.d .bool (inR (PaceT.downSpan a0) (0 : Int) (3600 : Int))])
    (k [.d .bool false]))
   (k [.d .bool false]))
  (k [.d .bool false])) := by kernel_rfl
theorem f93_spec (a0 : PaceT) : ∃ keep rounds, ∀ {R : Type} (k : List Dt → Option R), evFn f93e keep rounds f93c [.ro] [false] true [.tmp 2] [4] [.d .pace a0] k = k [.d .bool (paceOk a0)] := by
  refine ⟨f93k, 0, fun k => ?_⟩
  rw [f93_run]; unfold paceOk
  try simp only [isMany]
  cases inR a0.up 0 1000 <;> cases inR a0.down 0 1000 <;> cases inR a0.upSpan 0 3600 <;> rfl
noncomputable def q93 : List Dt → Option (Bool × List Dt)
  | [.d .pace a0] => some (true, [.d .bool (paceOk a0)])
  | _ => none
noncomputable def s93 : Gm.Spec := Gm.Spec.of [.ro] [false] true q93
theorem good93 : Gm.Good Try.prog (93, s93) := by
  have hl : ∀ x ∈ [(54, s54)], Gm.Good Try.prog x := List.forall_mem_cons.2 ⟨good54, List.forall_mem_nil _⟩
  refine ⟨⟨spec_ok (tab_ok.env hl) (tab.natl hl) Try.func93 (by kernel_rfl : Try.f93.body = some f93c) [4] (by kernel_rfl) ?_, _, Try.func93, by kernel_rfl, of_decide_eq_true (by kernel_rfl)⟩, Gm.Spec.of_natl _ _ _ _⟩
  intro ds outs h
  unfold q93 at h
  split at h
  · cases h; exact f93_spec _
  · cases h
noncomputable def f97c : Code := (Try.f97.body).getD .skip
def f97k : Nat → Kp := kat [⟨[1], [], [], []⟩, ⟨[2], [], [], []⟩]
noncomputable def f97e : Env := tab.env [(56, s56), (129, s129)]
theorem f97_run {R : Type} (n : Nat) (k : List Dt → Option R) (a0 : PaceT) : evFn f97e f97k n f97c [.ro] [false] true [.tmp 2] [4] [.d .pace a0] k =
    (cond (isMany (PaceT.up a0))
  (cond (isMany (PaceT.down a0))
   (cond (inR (PaceT.upSpan a0) (0 : Int) (3600 : Int))
    (k [.d .bool (inR (PaceT.downSpan a0) (0 : Int) (3600 : Int))])
    (k [.d .bool false]))
   (k [.d .bool false]))
  (k [.d .bool false])) := by kernel_rfl
theorem f97_spec (a0 : PaceT) : ∃ keep rounds, ∀ {R : Type} (k : List Dt → Option R), evFn f97e keep rounds f97c [.ro] [false] true [.tmp 2] [4] [.d .pace a0] k = k [.d .bool (paceOk a0)] := by
  refine ⟨f97k, 0, fun k => ?_⟩
  rw [f97_run]; unfold paceOk
  try simp only [isMany]
  cases inR a0.up 0 1000 <;> cases inR a0.down 0 1000 <;> cases inR a0.upSpan 0 3600 <;> rfl
noncomputable def q97 : List Dt → Option (Bool × List Dt)
  | [.d .pace a0] => some (true, [.d .bool (paceOk a0)])
  | _ => none
noncomputable def s97 : Gm.Spec := Gm.Spec.of [.ro] [false] true q97
theorem good97 : Gm.Good Try.prog (97, s97) := by
  have hl : ∀ x ∈ [(56, s56), (129, s129)], Gm.Good Try.prog x := List.forall_mem_cons.2 ⟨good56, List.forall_mem_cons.2 ⟨good129, List.forall_mem_nil _⟩⟩
  refine ⟨⟨spec_ok (tab_ok.env hl) (tab.natl hl) Try.func97 (by kernel_rfl : Try.f97.body = some f97c) [4] (by kernel_rfl) ?_, _, Try.func97, by kernel_rfl, of_decide_eq_true (by kernel_rfl)⟩, Gm.Spec.of_natl _ _ _ _⟩
  intro ds outs h
  unfold q97 at h
  split at h
  · cases h; exact f97_spec _
  · cases h
noncomputable def f124c : Code := (Try.f124.body).getD .skip
def f124k : Nat → Kp := kat [⟨[1], [], [], []⟩, ⟨[2], [], [], []⟩]
noncomputable def f124e : Env := tab.env [(54, s54), (91, s91)]
theorem f124_run {R : Type} (n : Nat) (k : List Dt → Option R) (a0 : MetricT) : evFn f124e f124k n f124c [.ro] [false] true [.tmp 2] [4] [.d .metric a0] k =
    (cond (okStr (MetricT.name a0))
  (cond (nameOk (MetricT.name a0))
   (cond (inR (MetricT.kind a0) (1 : Int) (3 : Int))
    (k [.d .bool (inR (MetricT.goal a0) (1 : Int) (1000000 : Int))])
    (k [.d .bool false]))
   (k [.d .bool false]))
  none) := by kernel_rfl
theorem f124_spec (a0 : MetricT) (hg : sm_metric a0 = true) : ∃ keep rounds, ∀ {R : Type} (k : List Dt → Option R), evFn f124e keep rounds f124c [.ro] [false] true [.tmp 2] [4] [.d .metric a0] k = k [.d .bool (metricOk a0)] := by
  simp only [sm_metric, Bool.and_eq_true] at hg
  refine ⟨f124k, 0, fun k => ?_⟩
  rw [f124_run, okStr_sm hg.1]; unfold metricOk
  cases nameOk a0.name <;> cases inR a0.kind 1 3 <;> rfl
noncomputable def q124 : List Dt → Option (Bool × List Dt)
  | [.d .metric a0] => some ((sm_metric a0), [.d .bool (metricOk a0)])
  | _ => none
noncomputable def s124 : Gm.Spec := Gm.Spec.of [.ro] [false] true q124
theorem good124 : Gm.Good Try.prog (124, s124) := by
  have hl : ∀ x ∈ [(54, s54), (91, s91)], Gm.Good Try.prog x := List.forall_mem_cons.2 ⟨good54, List.forall_mem_cons.2 ⟨good91, List.forall_mem_nil _⟩⟩
  refine ⟨⟨spec_ok (tab_ok.env hl) (tab.natl hl) Try.func124 (by kernel_rfl : Try.f124.body = some f124c) [4] (by kernel_rfl) ?_, _, Try.func124, by kernel_rfl, of_decide_eq_true (by kernel_rfl)⟩, Gm.Spec.of_natl _ _ _ _⟩
  intro ds outs h
  unfold q124 at h
  split at h
  · simp only [Option.some.injEq, Prod.mk.injEq] at h; obtain ⟨hg, h⟩ := h; cases h; exact f124_spec _ hg
  · cases h
noncomputable def f95c : Code := (Try.f95.body).getD .skip
def f95k : Nat → Kp := kat [⟨[1], [], [], []⟩, ⟨[2], [], [], []⟩]
noncomputable def f95e : Env := tab.env [(56, s56), (96, s96)]
theorem f95_run {R : Type} (n : Nat) (k : List Dt → Option R) (a0 : MetricT) : evFn f95e f95k n f95c [.ro] [false] true [.tmp 2] [4] [.d .metric a0] k =
    (cond (okStr (MetricT.name a0))
  (cond (nameOk (MetricT.name a0))
   (cond (inR (MetricT.kind a0) (1 : Int) (3 : Int))
    (k [.d .bool (inR (MetricT.goal a0) (1 : Int) (1000000 : Int))])
    (k [.d .bool false]))
   (k [.d .bool false]))
  none) := by kernel_rfl
theorem f95_spec (a0 : MetricT) (hg : sm_metric a0 = true) : ∃ keep rounds, ∀ {R : Type} (k : List Dt → Option R), evFn f95e keep rounds f95c [.ro] [false] true [.tmp 2] [4] [.d .metric a0] k = k [.d .bool (metricOk a0)] := by
  simp only [sm_metric, Bool.and_eq_true] at hg
  refine ⟨f95k, 0, fun k => ?_⟩
  rw [f95_run, okStr_sm hg.1]; unfold metricOk
  cases nameOk a0.name <;> cases inR a0.kind 1 3 <;> rfl
noncomputable def q95 : List Dt → Option (Bool × List Dt)
  | [.d .metric a0] => some ((sm_metric a0), [.d .bool (metricOk a0)])
  | _ => none
noncomputable def s95 : Gm.Spec := Gm.Spec.of [.ro] [false] true q95
theorem good95 : Gm.Good Try.prog (95, s95) := by
  have hl : ∀ x ∈ [(56, s56), (96, s96)], Gm.Good Try.prog x := List.forall_mem_cons.2 ⟨good56, List.forall_mem_cons.2 ⟨good96, List.forall_mem_nil _⟩⟩
  refine ⟨⟨spec_ok (tab_ok.env hl) (tab.natl hl) Try.func95 (by kernel_rfl : Try.f95.body = some f95c) [4] (by kernel_rfl) ?_, _, Try.func95, by kernel_rfl, of_decide_eq_true (by kernel_rfl)⟩, Gm.Spec.of_natl _ _ _ _⟩
  intro ds outs h
  unfold q95 at h
  split at h
  · simp only [Option.some.injEq, Prod.mk.injEq] at h; obtain ⟨hg, h⟩ := h; cases h; exact f95_spec _ hg
  · cases h
noncomputable def f94S0 (y0 : List NoteT) (y1 : Int) : St := ⟨[(0, .c (.one (.ro .note y0))), (3, .c (.one (.v (.int .i64 y1))))], [], []⟩
noncomputable def f94S1 : St := ⟨[(2, .c (.one (.v (.bool false))))], [], []⟩
noncomputable def f94S2 (y0 : List NoteT) (y1 : Int) (y2 : Bool) : St := ⟨[(0, .c (.one (.ro .note y0))), (3, .c (.one (.v (.int .i64 y1)))), (7, .c (.one (.v (.bool y2))))], [], []⟩
noncomputable def f94c : Code := (Try.f94.body).getD .skip
def f94k : Nat → Kp := kat [⟨[0], [], [], []⟩, ⟨[0, 3], [], [], []⟩, ⟨[0, 3, 7], [], [], []⟩, ⟨[0, 3], [], [], []⟩, ⟨[0, 3, 60], [], [], []⟩, ⟨[2], [], [], []⟩, ⟨[2], [], [], []⟩]
noncomputable def f94e : Env := tab.env [(125, s125), (126, s126), (127, s127)]
noncomputable def f94L0 {R : Type} (n : Nat) (x0 : Option R) (x1 : Int → Bool → Option R) (vs0 : List NoteT) : Nat → Int → Option R
  | 0, _ => none
  | m + 1, vs3 =>
    (cond (decide (vs3 < (vs0.length : Int)))
   (cond ((decide ((0 : Int) ≤ vs3)) && (decide (vs3 < (vs0.length : Int))))
    (cond (okStr (NoteT.key (atI (t := .note) vs0 (Int.toNat vs3))))
     (cond (!(plainOk (NoteT.key (atI (t := .note) vs0 (Int.toNat vs3)))))
      (x0)
      (cond ((decide ((0 : Int) ≤ vs3)) && (decide (vs3 < (vs0.length : Int))))
       (cond (ours (NoteT.key (atI (t := .note) vs0 (Int.toNat vs3))))
        (x0)
        (cond ((decide ((0 : Int) ≤ vs3)) && (decide (vs3 < (vs0.length : Int))))
         (cond (okStr (NoteT.text (atI (t := .note) vs0 (Int.toNat vs3))))
          (cond (!(textOk (NoteT.text (atI (t := .note) vs0 (Int.toNat vs3)))))
           (x0)
           (cond ((decide ((0 : Int) ≤ vs3)) && (decide (vs3 < (vs0.length : Int))))
            (cond (decide ((ByteArray.size (NoteT.text (atI (t := .note) vs0 (Int.toNat vs3))) : Int) > (40 : Int)))
             (x0)
             (cond (decide (vs3 > (0 : Int)))
              (cond ((decide ((0 : Int) ≤ (IntKind.wrap .i64 (vs3 - (1 : Int))))) && (decide ((IntKind.wrap .i64 (vs3 - (1 : Int))) < (vs0.length : Int))))
               (cond ((decide ((0 : Int) ≤ vs3)) && (decide (vs3 < (vs0.length : Int))))
                (cond (!(sLt (NoteT.key (atI (t := .note) vs0 (Int.toNat (IntKind.wrap .i64 (vs3 - (1 : Int)))))) (NoteT.key (atI (t := .note) vs0 (Int.toNat vs3)))))
                 (x0)
                 (f94L0 n x0 x1 vs0 m (IntKind.wrap .i64 (vs3 + (1 : Int)))))
                none)
               none)
              (f94L0 n x0 x1 vs0 m (IntKind.wrap .i64 (vs3 + (1 : Int))))))
            none))
          none)
         none))
       none))
     none)
    none)
   (x1 vs3 (decide (vs3 < (vs0.length : Int)))))
theorem f94L0_b {R : Type} (n : Nat) (k' : Ex → St → Option R) (vs0 : List NoteT) (vs3 : Int) : ev f94e f94k n (cAt [1,0,1,0,0] f94c) (f94S0 vs0 vs3) k' =
    (cond (decide (vs3 < (vs0.length : Int)))
  (cond ((decide ((0 : Int) ≤ vs3)) && (decide (vs3 < (vs0.length : Int))))
   (cond (okStr (NoteT.key (atI (t := .note) vs0 (Int.toNat vs3))))
    (cond (!(plainOk (NoteT.key (atI (t := .note) vs0 (Int.toNat vs3)))))
     (k' .ret f94S1)
     (cond ((decide ((0 : Int) ≤ vs3)) && (decide (vs3 < (vs0.length : Int))))
      (cond (ours (NoteT.key (atI (t := .note) vs0 (Int.toNat vs3))))
       (k' .ret f94S1)
       (cond ((decide ((0 : Int) ≤ vs3)) && (decide (vs3 < (vs0.length : Int))))
        (cond (okStr (NoteT.text (atI (t := .note) vs0 (Int.toNat vs3))))
         (cond (!(textOk (NoteT.text (atI (t := .note) vs0 (Int.toNat vs3)))))
          (k' .ret f94S1)
          (cond ((decide ((0 : Int) ≤ vs3)) && (decide (vs3 < (vs0.length : Int))))
           (cond (decide ((ByteArray.size (NoteT.text (atI (t := .note) vs0 (Int.toNat vs3))) : Int) > (40 : Int)))
            (k' .ret f94S1)
            (cond (decide (vs3 > (0 : Int)))
             (cond ((decide ((0 : Int) ≤ (IntKind.wrap .i64 (vs3 - (1 : Int))))) && (decide ((IntKind.wrap .i64 (vs3 - (1 : Int))) < (vs0.length : Int))))
              (cond ((decide ((0 : Int) ≤ vs3)) && (decide (vs3 < (vs0.length : Int))))
               (cond (!(sLt (NoteT.key (atI (t := .note) vs0 (Int.toNat (IntKind.wrap .i64 (vs3 - (1 : Int)))))) (NoteT.key (atI (t := .note) vs0 (Int.toNat vs3)))))
                (k' .ret f94S1)
                (k' .normal (f94S0 vs0 (IntKind.wrap .i64 (vs3 + (1 : Int))))))
               none)
              none)
             (k' .normal (f94S0 vs0 (IntKind.wrap .i64 (vs3 + (1 : Int)))))))
           none))
         none)
        none))
      none))
    none)
   none)
  (k' (.exit 0) (f94S2 vs0 vs3 (decide (vs3 < (vs0.length : Int)))))) := by kernel_rfl
theorem f94L0_eq {R : Type} (n : Nat) (k' : Ex → St → Option R) (vs0 : List NoteT) : ∀ (m : Nat) (vs3 : Int), iter (fun st k => ev f94e f94k n (cAt [1,0,1,0,0] f94c) st k) m (f94S0 vs0 vs3) k' = f94L0 n (k' .ret f94S1) (fun (xvs3 : Int) (xvs7 : Bool) => k' (.exit 0) (f94S2 vs0 xvs3 xvs7)) vs0 m vs3 := by
  intro m; induction m with
  | zero => intros; rfl
  | succ m ih =>
    intro vs3
    simp only [iter]
    rw [f94L0_b]
    simp only [ih, f94L0]
noncomputable def f94K0 {R : Type} (n : Nat) (k' : Ex → St → Option R) : Ex → St → Option R := (blockK 0 (seqK f94e f94k n (cAt [1,1] f94c) k'))
theorem f94K0_x0 {R : Type} (n : Nat) (k : List Dt → Option R) (a0 : List NoteT)  : f94K0 n (exitK f94e [.ro] [false] true [.tmp 2] [4] [.d (.sl .note) a0] k) .ret f94S1 =
    (k [.d .bool false]) := by kernel_rfl
theorem f94K0_x1 {R : Type} (n : Nat) (k : List Dt → Option R) (a0 : List NoteT) (vs0 : List NoteT) (xvs3 : Int) (xvs7 : Bool) : f94K0 n (exitK f94e [.ro] [false] true [.tmp 2] [4] [.d (.sl .note) a0] k) (.exit 0) (f94S2 vs0 xvs3 xvs7) =
    (k [.d .bool (decide ((vs0.length : Int) ≤ (4 : Int)))]) := by kernel_rfl
theorem f94_run {R : Type} (n : Nat) (k : List Dt → Option R) (a0 : List NoteT) : evFn f94e f94k n f94c [.ro] [false] true [.tmp 2] [4] [.d (.sl .note) a0] k =
    (f94L0 n (k [.d .bool false]) (fun (xvs3 : Int) (xvs7 : Bool) =>
  (k [.d .bool (decide ((a0.length : Int) ≤ (4 : Int)))])) a0 n (0 : Int)) := by
  refine Eq.trans (b := (iter (fun st k => ev f94e f94k n (cAt [1,0,1,0,0] f94c) st k) n (f94S0 a0 (0 : Int)) (f94K0 n (exitK f94e [.ro] [false] true [.tmp 2] [4] [.d (.sl .note) a0] k)))) (by kernel_rfl) ?_
  simp only [f94L0_eq, f94K0_x0, f94K0_x1]
theorem f94_spec (a0 : List NoteT) (hg : smL sm_note a0 = true) : ∃ keep rounds, ∀ {R : Type} (k : List Dt → Option R), evFn f94e keep rounds f94c [.ro] [false] true [.tmp 2] [4] [.d (.sl .note) a0] k = k [.d .bool (notesOk a0)] := by
  have hl := smL_len hg
  refine ⟨f94k, a0.length + 1, fun {R} k => ?_⟩
  rw [f94_run]
  refine Eq.trans (loop_idx (n := a0.length) (F := fun m i => f94L0 (a0.length + 1) _ _ a0 m i) (p := noteC a0) (good := k [.d .bool (decide ((a0.length : Int) ≤ (4 : Int)))]) (bad := k [.d .bool false])
    (fun m j hj => ?_) (fun m => by simp only [f94L0, idxE, cond_false]) (a0.length) 0 (a0.length + 1) (by omega) (by omega)) ?_
  · obtain ⟨h1, h0, hw, ht⟩ := idx hj (by omega)
    have hx := smL_at (t := .note) hg hj
    simp only [sm_note, Bool.and_eq_true] at hx
    simp only [f94L0, h1, h0, hw, ht, okStr_sm hx.1, okStr_sm hx.2, ours, Bool.and_self, cond_true]
    unfold noteC
    by_cases hz : (j : Int) > 0
    · obtain ⟨h2, h3, _, h5⟩ := idx (show j - 1 < a0.length by omega) (by omega)
      simp only [hz, decide_true, cond_true, idxM hj (by omega) (by omega), h2, h3, h5, Bool.and_self]
      cases plainOk (atI (t := .note) a0 j).key <;> cases hasPre (atI (t := .note) a0 j).key (bs [113,117,97,121,47]) <;> cases textOk (atI (t := .note) a0 j).text <;> cases decide (((atI (t := .note) a0 j).text.size : Int) > 40) <;> cases sLt (atI (t := .note) a0 (j - 1)).key (atI (t := .note) a0 j).key <;> rfl
    · simp only [hz, decide_false, cond_false]
      cases plainOk (atI (t := .note) a0 j).key <;> cases hasPre (atI (t := .note) a0 j).key (bs [113,117,97,121,47]) <;> cases textOk (atI (t := .note) a0 j).text <;> cases decide (((atI (t := .note) a0 j).text.size : Int) > 40) <;> rfl
  · unfold notesOk
    cases allN (noteC a0) 0 a0.length <;> rfl
noncomputable def q94 : List Dt → Option (Bool × List Dt)
  | [.d (.sl .note) a0] => some ((smL sm_note a0), [.d .bool (notesOk a0)])
  | _ => none
noncomputable def s94 : Gm.Spec := Gm.Spec.of [.ro] [false] true q94
theorem good94 : Gm.Good Try.prog (94, s94) := by
  have hl : ∀ x ∈ [(125, s125), (126, s126), (127, s127)], Gm.Good Try.prog x := List.forall_mem_cons.2 ⟨good125, List.forall_mem_cons.2 ⟨good126, List.forall_mem_cons.2 ⟨good127, List.forall_mem_nil _⟩⟩⟩
  refine ⟨⟨spec_ok (tab_ok.env hl) (tab.natl hl) Try.func94 (by kernel_rfl : Try.f94.body = some f94c) [4] (by kernel_rfl) ?_, _, Try.func94, by kernel_rfl, of_decide_eq_true (by kernel_rfl)⟩, Gm.Spec.of_natl _ _ _ _⟩
  intro ds outs h
  unfold q94 at h
  split at h
  · simp only [Option.some.injEq, Prod.mk.injEq] at h; obtain ⟨hg, h⟩ := h; cases h; exact f94_spec _ hg
  · cases h
noncomputable def f98S0 (y0 : List NoteT) (y1 : List NoteT) (y2 : Int) (y3 : Int) : St := ⟨[(0, .c (.one (.ro .note y0))), (5, .c (.one (.ro .note y1))), (6, .c (.one (.v (.int .i64 y2)))), (7, .c (.one (.v (.int .i64 y3))))], [], []⟩
noncomputable def f98S1 : St := ⟨[(2, .c (.one (.v (.bool false))))], [], []⟩
noncomputable def f98S2 (y0 : List NoteT) (y1 : List NoteT) (y2 : Int) (y3 : Int) (y4 : Bool) : St := ⟨[(0, .c (.one (.ro .note y0))), (5, .c (.one (.ro .note y1))), (6, .c (.one (.v (.int .i64 y2)))), (7, .c (.one (.v (.int .i64 y3)))), (8, .c (.one (.v (.bool y4))))], [], []⟩
noncomputable def f98c : Code := (Try.f98.body).getD .skip
def f98k : Nat → Kp := kat [⟨[0], [], [], []⟩, ⟨[0, 5, 6, 7], [], [], []⟩, ⟨[0, 5, 6, 7, 8], [], [], []⟩, ⟨[0, 3, 4, 5, 6, 7], [], [], []⟩, ⟨[0, 5, 6, 7, 47], [], [], []⟩, ⟨[2], [], [], []⟩, ⟨[0, 5, 6, 7], [], [], []⟩, ⟨[2], [], [], []⟩]
noncomputable def f98e : Env := tab.env [(130, s130), (131, s131), (132, s132)]
noncomputable def f98L0 {R : Type} (n : Nat) (x0 : Option R) (x1 : Int → Bool → Option R) (vs0 : List NoteT) (vs5 : List NoteT) (vs6 : Int) : Nat → Int → Option R
  | 0, _ => none
  | m + 1, vs7 =>
    (cond (decide (vs7 < vs6))
   (cond ((decide ((0 : Int) ≤ vs7)) && (decide (vs7 < (vs5.length : Int))))
    (cond (okStr (NoteT.key (atI (t := .note) vs5 (Int.toNat vs7))))
     (cond (!(plainOk (NoteT.key (atI (t := .note) vs5 (Int.toNat vs7)))))
      (x0)
      (cond (hasPre (NoteT.key (atI (t := .note) vs5 (Int.toNat vs7))) (bs [113,117,97,121,47]))
       (x0)
       (cond (okStr (NoteT.text (atI (t := .note) vs5 (Int.toNat vs7))))
        (cond (!(textOk (NoteT.text (atI (t := .note) vs5 (Int.toNat vs7)))))
         (x0)
         (cond (decide ((ByteArray.size (NoteT.text (atI (t := .note) vs5 (Int.toNat vs7))) : Int) > (40 : Int)))
          (x0)
          (cond (decide (vs7 > (0 : Int)))
           (cond ((decide ((0 : Int) ≤ (IntKind.wrap .i64 (vs7 - (1 : Int))))) && (decide ((IntKind.wrap .i64 (vs7 - (1 : Int))) < (vs0.length : Int))))
            (cond (!(sLt (NoteT.key (atI (t := .note) vs0 (Int.toNat (IntKind.wrap .i64 (vs7 - (1 : Int)))))) (NoteT.key (atI (t := .note) vs5 (Int.toNat vs7)))))
             (x0)
             (f98L0 n x0 x1 vs0 vs5 vs6 m (IntKind.wrap .i64 (vs7 + (1 : Int)))))
            none)
           (f98L0 n x0 x1 vs0 vs5 vs6 m (IntKind.wrap .i64 (vs7 + (1 : Int)))))))
        none)))
     none)
    none)
   (x1 vs7 (decide (vs7 < vs6))))
theorem f98L0_b {R : Type} (n : Nat) (k' : Ex → St → Option R) (vs0 : List NoteT) (vs5 : List NoteT) (vs6 : Int) (vs7 : Int) : ev f98e f98k n (cAt [1,0,1,0,0] f98c) (f98S0 vs0 vs5 vs6 vs7) k' =
    (cond (decide (vs7 < vs6))
  (cond ((decide ((0 : Int) ≤ vs7)) && (decide (vs7 < (vs5.length : Int))))
   (cond (okStr (NoteT.key (atI (t := .note) vs5 (Int.toNat vs7))))
    (cond (!(plainOk (NoteT.key (atI (t := .note) vs5 (Int.toNat vs7)))))
     (k' .ret f98S1)
     (cond (hasPre (NoteT.key (atI (t := .note) vs5 (Int.toNat vs7))) (bs [113,117,97,121,47]))
      (k' .ret f98S1)
      (cond (okStr (NoteT.text (atI (t := .note) vs5 (Int.toNat vs7))))
       (cond (!(textOk (NoteT.text (atI (t := .note) vs5 (Int.toNat vs7)))))
        (k' .ret f98S1)
        (cond (decide ((ByteArray.size (NoteT.text (atI (t := .note) vs5 (Int.toNat vs7))) : Int) > (40 : Int)))
         (k' .ret f98S1)
         (cond (decide (vs7 > (0 : Int)))
          (cond ((decide ((0 : Int) ≤ (IntKind.wrap .i64 (vs7 - (1 : Int))))) && (decide ((IntKind.wrap .i64 (vs7 - (1 : Int))) < (vs0.length : Int))))
           (cond (!(sLt (NoteT.key (atI (t := .note) vs0 (Int.toNat (IntKind.wrap .i64 (vs7 - (1 : Int)))))) (NoteT.key (atI (t := .note) vs5 (Int.toNat vs7)))))
            (k' .ret f98S1)
            (k' .normal (f98S0 vs0 vs5 vs6 (IntKind.wrap .i64 (vs7 + (1 : Int))))))
           none)
          (k' .normal (f98S0 vs0 vs5 vs6 (IntKind.wrap .i64 (vs7 + (1 : Int))))))))
       none)))
    none)
   none)
  (k' (.exit 0) (f98S2 vs0 vs5 vs6 vs7 (decide (vs7 < vs6))))) := by kernel_rfl
theorem f98L0_eq {R : Type} (n : Nat) (k' : Ex → St → Option R) (vs0 : List NoteT) (vs5 : List NoteT) (vs6 : Int) : ∀ (m : Nat) (vs7 : Int), iter (fun st k => ev f98e f98k n (cAt [1,0,1,0,0] f98c) st k) m (f98S0 vs0 vs5 vs6 vs7) k' = f98L0 n (k' .ret f98S1) (fun (xvs7 : Int) (xvs8 : Bool) => k' (.exit 0) (f98S2 vs0 vs5 vs6 xvs7 xvs8)) vs0 vs5 vs6 m vs7 := by
  intro m; induction m with
  | zero => intros; rfl
  | succ m ih =>
    intro vs7
    simp only [iter]
    rw [f98L0_b]
    simp only [ih, f98L0]
noncomputable def f98K0 {R : Type} (n : Nat) (k' : Ex → St → Option R) : Ex → St → Option R := (blockK 0 (seqK f98e f98k n (cAt [1,1] f98c) k'))
theorem f98K0_x0 {R : Type} (n : Nat) (k : List Dt → Option R) (a0 : List NoteT)  : f98K0 n (exitK f98e [.ro] [false] true [.tmp 2] [4] [.d (.sl .note) a0] k) .ret f98S1 =
    (k [.d .bool false]) := by kernel_rfl
theorem f98K0_x1 {R : Type} (n : Nat) (k : List Dt → Option R) (a0 : List NoteT) (vs0 : List NoteT) (vs5 : List NoteT) (vs6 : Int) (xvs7 : Int) (xvs8 : Bool) : f98K0 n (exitK f98e [.ro] [false] true [.tmp 2] [4] [.d (.sl .note) a0] k) (.exit 0) (f98S2 vs0 vs5 vs6 xvs7 xvs8) =
    (k [.d .bool (decide ((vs0.length : Int) ≤ (4 : Int)))]) := by kernel_rfl
theorem f98_run {R : Type} (n : Nat) (k : List Dt → Option R) (a0 : List NoteT) : evFn f98e f98k n f98c [.ro] [false] true [.tmp 2] [4] [.d (.sl .note) a0] k =
    (f98L0 n (k [.d .bool false]) (fun (xvs7 : Int) (xvs8 : Bool) =>
  (k [.d .bool (decide ((a0.length : Int) ≤ (4 : Int)))])) a0 a0 (a0.length : Int) n (0 : Int)) := by
  refine Eq.trans (b := (iter (fun st k => ev f98e f98k n (cAt [1,0,1,0,0] f98c) st k) n (f98S0 a0 a0 (a0.length : Int) (0 : Int)) (f98K0 n (exitK f98e [.ro] [false] true [.tmp 2] [4] [.d (.sl .note) a0] k)))) (by kernel_rfl) ?_
  simp only [f98L0_eq, f98K0_x0, f98K0_x1]
theorem f98_spec (a0 : List NoteT) (hg : smL sm_note a0 = true) : ∃ keep rounds, ∀ {R : Type} (k : List Dt → Option R), evFn f98e keep rounds f98c [.ro] [false] true [.tmp 2] [4] [.d (.sl .note) a0] k = k [.d .bool (notesOk a0)] := by
  have hl := smL_len hg
  refine ⟨f98k, a0.length + 1, fun {R} k => ?_⟩
  rw [f98_run]
  refine Eq.trans (loop_idx (n := a0.length) (F := fun m i => f98L0 (a0.length + 1) _ _ a0 a0 (a0.length : Int) m i) (p := noteC a0) (good := k [.d .bool (decide ((a0.length : Int) ≤ (4 : Int)))]) (bad := k [.d .bool false])
    (fun m j hj => ?_) (fun m => by simp only [f98L0, idxE, cond_false]) (a0.length) 0 (a0.length + 1) (by omega) (by omega)) ?_
  · obtain ⟨h1, h0, hw, ht⟩ := idx hj (by omega)
    have hx := smL_at (t := .note) hg hj
    simp only [sm_note, Bool.and_eq_true] at hx
    simp only [f98L0, h1, h0, hw, ht, okStr_sm hx.1, okStr_sm hx.2, Bool.and_self, cond_true]
    unfold noteC
    by_cases hz : (j : Int) > 0
    · obtain ⟨h2, h3, _, h5⟩ := idx (show j - 1 < a0.length by omega) (by omega)
      simp only [hz, decide_true, cond_true, idxM hj (by omega) (by omega), h2, h3, h5, Bool.and_self]
      cases plainOk (atI (t := .note) a0 j).key <;> cases hasPre (atI (t := .note) a0 j).key (bs [113,117,97,121,47]) <;> cases textOk (atI (t := .note) a0 j).text <;> cases decide (((atI (t := .note) a0 j).text.size : Int) > 40) <;> cases sLt (atI (t := .note) a0 (j - 1)).key (atI (t := .note) a0 j).key <;> rfl
    · simp only [hz, decide_false, cond_false]
      cases plainOk (atI (t := .note) a0 j).key <;> cases hasPre (atI (t := .note) a0 j).key (bs [113,117,97,121,47]) <;> cases textOk (atI (t := .note) a0 j).text <;> cases decide (((atI (t := .note) a0 j).text.size : Int) > 40) <;> rfl
  · unfold notesOk
    cases allN (noteC a0) 0 a0.length <;> rfl
noncomputable def q98 : List Dt → Option (Bool × List Dt)
  | [.d (.sl .note) a0] => some ((smL sm_note a0), [.d .bool (notesOk a0)])
  | _ => none
noncomputable def s98 : Gm.Spec := Gm.Spec.of [.ro] [false] true q98
theorem good98 : Gm.Good Try.prog (98, s98) := by
  have hl : ∀ x ∈ [(130, s130), (131, s131), (132, s132)], Gm.Good Try.prog x := List.forall_mem_cons.2 ⟨good130, List.forall_mem_cons.2 ⟨good131, List.forall_mem_cons.2 ⟨good132, List.forall_mem_nil _⟩⟩⟩
  refine ⟨⟨spec_ok (tab_ok.env hl) (tab.natl hl) Try.func98 (by kernel_rfl : Try.f98.body = some f98c) [4] (by kernel_rfl) ?_, _, Try.func98, by kernel_rfl, of_decide_eq_true (by kernel_rfl)⟩, Gm.Spec.of_natl _ _ _ _⟩
  intro ds outs h
  unfold q98 at h
  split at h
  · simp only [Option.some.injEq, Prod.mk.injEq] at h; obtain ⟨hg, h⟩ := h; cases h; exact f98_spec _ hg
  · cases h
noncomputable def f92S0 (y0 : List MetricT) (y1 : Int) : St := ⟨[(0, .c (.one (.ro .metric y0))), (3, .c (.one (.v (.int .i64 y1))))], [], []⟩
noncomputable def f92S1 : St := ⟨[(2, .c (.one (.v (.bool false))))], [], []⟩
noncomputable def f92S2 (y0 : List MetricT) (y1 : Int) (y2 : Bool) : St := ⟨[(0, .c (.one (.ro .metric y0))), (3, .c (.one (.v (.int .i64 y1)))), (7, .c (.one (.v (.bool y2))))], [], []⟩
noncomputable def f92c : Code := (Try.f92.body).getD .skip
def f92k : Nat → Kp := kat [⟨[0], [], [], []⟩, ⟨[0, 3], [], [], []⟩, ⟨[0, 3, 7], [], [], []⟩, ⟨[0, 3], [], [], []⟩, ⟨[0, 3, 33], [], [], []⟩, ⟨[2], [], [], []⟩, ⟨[2], [], [], []⟩]
noncomputable def f92e : Env := tab.env [(124, s124)]
noncomputable def f92L0 {R : Type} (n : Nat) (x0 : Option R) (x1 : Int → Bool → Option R) (vs0 : List MetricT) : Nat → Int → Option R
  | 0, _ => none
  | m + 1, vs3 =>
    (cond (decide (vs3 < (vs0.length : Int)))
   (cond ((decide ((0 : Int) ≤ vs3)) && (decide (vs3 < (vs0.length : Int))))
    (cond (sm_metric (atI (t := .metric) vs0 (Int.toNat vs3)))
     (cond (!(metricOk (atI (t := .metric) vs0 (Int.toNat vs3))))
      (x0)
      (cond (decide (vs3 > (0 : Int)))
       (cond ((decide ((0 : Int) ≤ (IntKind.wrap .i64 (vs3 - (1 : Int))))) && (decide ((IntKind.wrap .i64 (vs3 - (1 : Int))) < (vs0.length : Int))))
        (cond ((decide ((0 : Int) ≤ vs3)) && (decide (vs3 < (vs0.length : Int))))
         (cond (!(sLt (MetricT.name (atI (t := .metric) vs0 (Int.toNat (IntKind.wrap .i64 (vs3 - (1 : Int)))))) (MetricT.name (atI (t := .metric) vs0 (Int.toNat vs3)))))
          (x0)
          (f92L0 n x0 x1 vs0 m (IntKind.wrap .i64 (vs3 + (1 : Int)))))
         none)
        none)
       (f92L0 n x0 x1 vs0 m (IntKind.wrap .i64 (vs3 + (1 : Int))))))
     none)
    none)
   (x1 vs3 (decide (vs3 < (vs0.length : Int)))))
theorem f92L0_b {R : Type} (n : Nat) (k' : Ex → St → Option R) (vs0 : List MetricT) (vs3 : Int) : ev f92e f92k n (cAt [1,0,1,0,0] f92c) (f92S0 vs0 vs3) k' =
    (cond (decide (vs3 < (vs0.length : Int)))
  (cond ((decide ((0 : Int) ≤ vs3)) && (decide (vs3 < (vs0.length : Int))))
   (cond (sm_metric (atI (t := .metric) vs0 (Int.toNat vs3)))
    (cond (!(metricOk (atI (t := .metric) vs0 (Int.toNat vs3))))
     (k' .ret f92S1)
     (cond (decide (vs3 > (0 : Int)))
      (cond ((decide ((0 : Int) ≤ (IntKind.wrap .i64 (vs3 - (1 : Int))))) && (decide ((IntKind.wrap .i64 (vs3 - (1 : Int))) < (vs0.length : Int))))
       (cond ((decide ((0 : Int) ≤ vs3)) && (decide (vs3 < (vs0.length : Int))))
        (cond (!(sLt (MetricT.name (atI (t := .metric) vs0 (Int.toNat (IntKind.wrap .i64 (vs3 - (1 : Int)))))) (MetricT.name (atI (t := .metric) vs0 (Int.toNat vs3)))))
         (k' .ret f92S1)
         (k' .normal (f92S0 vs0 (IntKind.wrap .i64 (vs3 + (1 : Int))))))
        none)
       none)
      (k' .normal (f92S0 vs0 (IntKind.wrap .i64 (vs3 + (1 : Int)))))))
    none)
   none)
  (k' (.exit 0) (f92S2 vs0 vs3 (decide (vs3 < (vs0.length : Int)))))) := by kernel_rfl
theorem f92L0_eq {R : Type} (n : Nat) (k' : Ex → St → Option R) (vs0 : List MetricT) : ∀ (m : Nat) (vs3 : Int), iter (fun st k => ev f92e f92k n (cAt [1,0,1,0,0] f92c) st k) m (f92S0 vs0 vs3) k' = f92L0 n (k' .ret f92S1) (fun (xvs3 : Int) (xvs7 : Bool) => k' (.exit 0) (f92S2 vs0 xvs3 xvs7)) vs0 m vs3 := by
  intro m; induction m with
  | zero => intros; rfl
  | succ m ih =>
    intro vs3
    simp only [iter]
    rw [f92L0_b]
    simp only [ih, f92L0]
noncomputable def f92K0 {R : Type} (n : Nat) (k' : Ex → St → Option R) : Ex → St → Option R := (blockK 0 (seqK f92e f92k n (cAt [1,1] f92c) k'))
theorem f92K0_x0 {R : Type} (n : Nat) (k : List Dt → Option R) (a0 : List MetricT)  : f92K0 n (exitK f92e [.ro] [false] true [.tmp 2] [4] [.d (.sl .metric) a0] k) .ret f92S1 =
    (k [.d .bool false]) := by kernel_rfl
theorem f92K0_x1 {R : Type} (n : Nat) (k : List Dt → Option R) (a0 : List MetricT) (vs0 : List MetricT) (xvs3 : Int) (xvs7 : Bool) : f92K0 n (exitK f92e [.ro] [false] true [.tmp 2] [4] [.d (.sl .metric) a0] k) (.exit 0) (f92S2 vs0 xvs3 xvs7) =
    (k [.d .bool (decide ((vs0.length : Int) ≤ (4 : Int)))]) := by kernel_rfl
theorem f92_run {R : Type} (n : Nat) (k : List Dt → Option R) (a0 : List MetricT) : evFn f92e f92k n f92c [.ro] [false] true [.tmp 2] [4] [.d (.sl .metric) a0] k =
    (f92L0 n (k [.d .bool false]) (fun (xvs3 : Int) (xvs7 : Bool) =>
  (k [.d .bool (decide ((a0.length : Int) ≤ (4 : Int)))])) a0 n (0 : Int)) := by
  refine Eq.trans (b := (iter (fun st k => ev f92e f92k n (cAt [1,0,1,0,0] f92c) st k) n (f92S0 a0 (0 : Int)) (f92K0 n (exitK f92e [.ro] [false] true [.tmp 2] [4] [.d (.sl .metric) a0] k)))) (by kernel_rfl) ?_
  simp only [f92L0_eq, f92K0_x0, f92K0_x1]
theorem f92_spec (a0 : List MetricT) (hg : smL sm_metric a0 = true) : ∃ keep rounds, ∀ {R : Type} (k : List Dt → Option R), evFn f92e keep rounds f92c [.ro] [false] true [.tmp 2] [4] [.d (.sl .metric) a0] k = k [.d .bool (metsOk a0)] := by
  have hl := smL_len hg
  refine ⟨f92k, a0.length + 1, fun {R} k => ?_⟩
  rw [f92_run]
  refine Eq.trans (loop_idx (n := a0.length) (F := fun m i => f92L0 (a0.length + 1) _ _ a0 m i) (p := metC a0) (good := k [.d .bool (decide ((a0.length : Int) ≤ (4 : Int)))]) (bad := k [.d .bool false])
    (fun m j hj => ?_) (fun m => by simp only [f92L0, idxE, cond_false]) (a0.length) 0 (a0.length + 1) (by omega) (by omega)) ?_
  · obtain ⟨h1, h0, hw, ht⟩ := idx hj (by omega)
    have hx := smL_at (t := .metric) hg hj
    simp only [f92L0, h1, h0, hw, ht, hx, eta_metric, Bool.and_self, cond_true]
    unfold metC
    by_cases hz : (j : Int) > 0
    · obtain ⟨h2, h3, _, h5⟩ := idx (show j - 1 < a0.length by omega) (by omega)
      simp only [hz, decide_true, cond_true, idxM hj (by omega) (by omega), h2, h3, h5, Bool.and_self]
      cases metricOk (atI (t := .metric) a0 j) <;> cases sLt (atI (t := .metric) a0 (j - 1)).name (atI (t := .metric) a0 j).name <;> rfl
    · simp only [hz, decide_false, cond_false]
      cases metricOk (atI (t := .metric) a0 j) <;> rfl
  · unfold metsOk
    cases allN (metC a0) 0 a0.length <;> rfl
noncomputable def q92 : List Dt → Option (Bool × List Dt)
  | [.d (.sl .metric) a0] => some ((smL sm_metric a0), [.d .bool (metsOk a0)])
  | _ => none
noncomputable def s92 : Gm.Spec := Gm.Spec.of [.ro] [false] true q92
theorem good92 : Gm.Good Try.prog (92, s92) := by
  have hl : ∀ x ∈ [(124, s124)], Gm.Good Try.prog x := List.forall_mem_cons.2 ⟨good124, List.forall_mem_nil _⟩
  refine ⟨⟨spec_ok (tab_ok.env hl) (tab.natl hl) Try.func92 (by kernel_rfl : Try.f92.body = some f92c) [4] (by kernel_rfl) ?_, _, Try.func92, by kernel_rfl, of_decide_eq_true (by kernel_rfl)⟩, Gm.Spec.of_natl _ _ _ _⟩
  intro ds outs h
  unfold q92 at h
  split at h
  · simp only [Option.some.injEq, Prod.mk.injEq] at h; obtain ⟨hg, h⟩ := h; cases h; exact f92_spec _ hg
  · cases h
noncomputable def f55c : Code := (Try.f55.body).getD .skip
def f55k : Nat → Kp := kat [⟨[1], [], [], []⟩, ⟨[2], [], [], []⟩]
noncomputable def f55e : Env := tab.env [(54, s54), (91, s91), (92, s92), (93, s93), (94, s94)]
theorem f55_run {R : Type} (n : Nat) (k : List Dt → Option R) (a0 : OrderT) : evFn f55e f55k n f55c [.ro] [false] true [.tmp 2] [4] [.d .order a0] k =
    (cond (okStr (OrderT.name a0))
  (cond (nameOk (OrderT.name a0))
   (cond (okStr (OrderT.target a0))
    (cond (nameOk (OrderT.target a0))
     (cond (inR (OrderT.low a0) (1 : Int) (OrderT.high a0))
      (cond (decide ((OrderT.high a0) ≤ (1000 : Int)))
       (cond (smL sm_metric (OrderT.metrics a0))
        (cond (metsOk (OrderT.metrics a0))
         (cond (paceOk (OrderT.pace a0))
          (cond (smL sm_note (OrderT.notes a0))
           (k [.d .bool (notesOk (OrderT.notes a0))])
           none)
          (k [.d .bool false]))
         (k [.d .bool false]))
        none)
       (k [.d .bool false]))
      (k [.d .bool false]))
     (k [.d .bool false]))
    none)
   (k [.d .bool false]))
  none) := by kernel_rfl
theorem f55_spec (a0 : OrderT) (hg : sm_order a0 = true) : ∃ keep rounds, ∀ {R : Type} (k : List Dt → Option R), evFn f55e keep rounds f55c [.ro] [false] true [.tmp 2] [4] [.d .order a0] k = k [.d .bool (orderOk a0)] := by
  simp only [sm_order, Bool.and_eq_true] at hg
  obtain ⟨hn, ht0, hlo, hhi, hm, hp, hno⟩ := hg
  have hl := smL_len hm
  refine ⟨f55k, 0, fun {R} k => ?_⟩
  rw [f55_run]
  simp only [okStr_sm hn, okStr_sm ht0, hm, hno, cond_true]
  unfold orderOk
  cases nameOk a0.name <;> cases nameOk a0.target <;> cases inR a0.low 1 a0.high <;> cases decide (a0.high ≤ 1000) <;> cases metsOk a0.metrics <;> cases paceOk a0.pace <;> rfl
noncomputable def q55 : List Dt → Option (Bool × List Dt)
  | [.d .order a0] => some ((sm_order a0), [.d .bool (orderOk a0)])
  | _ => none
noncomputable def s55 : Gm.Spec := Gm.Spec.of [.ro] [false] true q55
theorem good55 : Gm.Good Try.prog (55, s55) := by
  have hl : ∀ x ∈ [(54, s54), (91, s91), (92, s92), (93, s93), (94, s94)], Gm.Good Try.prog x := List.forall_mem_cons.2 ⟨good54, List.forall_mem_cons.2 ⟨good91, List.forall_mem_cons.2 ⟨good92, List.forall_mem_cons.2 ⟨good93, List.forall_mem_cons.2 ⟨good94, List.forall_mem_nil _⟩⟩⟩⟩⟩
  refine ⟨⟨spec_ok (tab_ok.env hl) (tab.natl hl) Try.func55 (by kernel_rfl : Try.f55.body = some f55c) [4] (by kernel_rfl) ?_, _, Try.func55, by kernel_rfl, of_decide_eq_true (by kernel_rfl)⟩, Gm.Spec.of_natl _ _ _ _⟩
  intro ds outs h
  unfold q55 at h
  split at h
  · simp only [Option.some.injEq, Prod.mk.injEq] at h; obtain ⟨hg, h⟩ := h; cases h; exact f55_spec _ hg
  · cases h
noncomputable def f57S0 (y0 : List MetricT) (y1 : Int) (y2 : Int) (y3 : ByteArray) (y4 : ByteArray) (y5 : Int) (y6 : Int) (y7 : List MetricT) (y8 : Int) (y9 : Int) (y10 : Int) (y11 : Int) (y12 : List NoteT) : St := ⟨[(1, .c (.one (.pt 1 0))), (6, .c (.one (.ro .metric y0))), (7, .c (.one (.v (.int .i64 y1)))), (8, .c (.one (.v (.int .i64 y2))))], [(1, ⟨.order, [.v (.string y3), .v (.string y4), .v (.int .i64 y5), .v (.int .i64 y6), .ro .metric y7, .v (.int .i64 y8), .v (.int .i64 y9), .v (.int .i64 y10), .v (.int .i64 y11), .ro .note y12]⟩)], []⟩
noncomputable def f57S1 : St := ⟨[(2, .c (.one (.v (.bool false))))], [], []⟩
noncomputable def f57S2 (y0 : List MetricT) (y1 : Int) (y2 : Int) (y3 : Bool) (y4 : ByteArray) (y5 : ByteArray) (y6 : Int) (y7 : Int) (y8 : List MetricT) (y9 : Int) (y10 : Int) (y11 : Int) (y12 : Int) (y13 : List NoteT) : St := ⟨[(1, .c (.one (.pt 1 0))), (6, .c (.one (.ro .metric y0))), (7, .c (.one (.v (.int .i64 y1)))), (8, .c (.one (.v (.int .i64 y2)))), (9, .c (.one (.v (.bool y3))))], [(1, ⟨.order, [.v (.string y4), .v (.string y5), .v (.int .i64 y6), .v (.int .i64 y7), .ro .metric y8, .v (.int .i64 y9), .v (.int .i64 y10), .v (.int .i64 y11), .v (.int .i64 y12), .ro .note y13]⟩)], []⟩
noncomputable def f57c : Code := (Try.f57.body).getD .skip
def f57k : Nat → Kp := kat [⟨[1], [], [], []⟩, ⟨[1, 6, 7, 8], [], [], []⟩, ⟨[1, 6, 7, 8, 9], [], [], []⟩, ⟨[1, 3, 4, 6, 7, 8], [], [], []⟩, ⟨[1, 6, 7, 8, 31], [], [], []⟩, ⟨[2], [], [], []⟩, ⟨[1, 6, 7, 8], [], [], []⟩, ⟨[2], [], [], []⟩]
noncomputable def f57e : Env := tab.env [(56, s56), (95, s95), (96, s96), (97, s97), (98, s98)]
noncomputable def f57L0 {R : Type} (n : Nat) (x0 : Option R) (x1 : Int → Bool → Option R) (vs6 : List MetricT) (vs7 : Int) (vb1_0 : ByteArray) (vb1_1 : ByteArray) (vb1_2 : Int) (vb1_3 : Int) (vb1_4 : List MetricT) (vb1_5 : Int) (vb1_6 : Int) (vb1_7 : Int) (vb1_8 : Int) (vb1_9 : List NoteT) : Nat → Int → Option R
  | 0, _ => none
  | m + 1, vs8 =>
    (cond (decide (vs8 < vs7))
   (cond ((decide ((0 : Int) ≤ vs8)) && (decide (vs8 < (vs6.length : Int))))
    (cond (sm_metric (atI (t := .metric) vs6 (Int.toNat vs8)))
     (cond (!(metricOk (atI (t := .metric) vs6 (Int.toNat vs8))))
      (x0)
      (cond (decide (vs8 > (0 : Int)))
       (cond ((decide ((0 : Int) ≤ (IntKind.wrap .i64 (vs8 - (1 : Int))))) && (decide ((IntKind.wrap .i64 (vs8 - (1 : Int))) < (vb1_4.length : Int))))
        (cond (!(sLt (MetricT.name (atI (t := .metric) vb1_4 (Int.toNat (IntKind.wrap .i64 (vs8 - (1 : Int)))))) (MetricT.name (atI (t := .metric) vs6 (Int.toNat vs8)))))
         (x0)
         (f57L0 n x0 x1 vs6 vs7 vb1_0 vb1_1 vb1_2 vb1_3 vb1_4 vb1_5 vb1_6 vb1_7 vb1_8 vb1_9 m (IntKind.wrap .i64 (vs8 + (1 : Int)))))
        none)
       (f57L0 n x0 x1 vs6 vs7 vb1_0 vb1_1 vb1_2 vb1_3 vb1_4 vb1_5 vb1_6 vb1_7 vb1_8 vb1_9 m (IntKind.wrap .i64 (vs8 + (1 : Int))))))
     none)
    none)
   (x1 vs8 (decide (vs8 < vs7))))
theorem f57L0_b {R : Type} (n : Nat) (k' : Ex → St → Option R) (vs6 : List MetricT) (vs7 : Int) (vs8 : Int) (vb1_0 : ByteArray) (vb1_1 : ByteArray) (vb1_2 : Int) (vb1_3 : Int) (vb1_4 : List MetricT) (vb1_5 : Int) (vb1_6 : Int) (vb1_7 : Int) (vb1_8 : Int) (vb1_9 : List NoteT) : ev f57e f57k n (cAt [1,0,1,0,0] f57c) (f57S0 vs6 vs7 vs8 vb1_0 vb1_1 vb1_2 vb1_3 vb1_4 vb1_5 vb1_6 vb1_7 vb1_8 vb1_9) k' =
    (cond (decide (vs8 < vs7))
  (cond ((decide ((0 : Int) ≤ vs8)) && (decide (vs8 < (vs6.length : Int))))
   (cond (sm_metric (atI (t := .metric) vs6 (Int.toNat vs8)))
    (cond (!(metricOk (atI (t := .metric) vs6 (Int.toNat vs8))))
     (k' .ret f57S1)
     (cond (decide (vs8 > (0 : Int)))
      (cond ((decide ((0 : Int) ≤ (IntKind.wrap .i64 (vs8 - (1 : Int))))) && (decide ((IntKind.wrap .i64 (vs8 - (1 : Int))) < (vb1_4.length : Int))))
       (cond (!(sLt (MetricT.name (atI (t := .metric) vb1_4 (Int.toNat (IntKind.wrap .i64 (vs8 - (1 : Int)))))) (MetricT.name (atI (t := .metric) vs6 (Int.toNat vs8)))))
        (k' .ret f57S1)
        (k' .normal (f57S0 vs6 vs7 (IntKind.wrap .i64 (vs8 + (1 : Int))) vb1_0 vb1_1 vb1_2 vb1_3 vb1_4 vb1_5 vb1_6 vb1_7 vb1_8 vb1_9)))
       none)
      (k' .normal (f57S0 vs6 vs7 (IntKind.wrap .i64 (vs8 + (1 : Int))) vb1_0 vb1_1 vb1_2 vb1_3 vb1_4 vb1_5 vb1_6 vb1_7 vb1_8 vb1_9))))
    none)
   none)
  (k' (.exit 0) (f57S2 vs6 vs7 vs8 (decide (vs8 < vs7)) vb1_0 vb1_1 vb1_2 vb1_3 vb1_4 vb1_5 vb1_6 vb1_7 vb1_8 vb1_9))) := by kernel_rfl
theorem f57L0_eq {R : Type} (n : Nat) (k' : Ex → St → Option R) (vs6 : List MetricT) (vs7 : Int) (vb1_0 : ByteArray) (vb1_1 : ByteArray) (vb1_2 : Int) (vb1_3 : Int) (vb1_4 : List MetricT) (vb1_5 : Int) (vb1_6 : Int) (vb1_7 : Int) (vb1_8 : Int) (vb1_9 : List NoteT) : ∀ (m : Nat) (vs8 : Int), iter (fun st k => ev f57e f57k n (cAt [1,0,1,0,0] f57c) st k) m (f57S0 vs6 vs7 vs8 vb1_0 vb1_1 vb1_2 vb1_3 vb1_4 vb1_5 vb1_6 vb1_7 vb1_8 vb1_9) k' = f57L0 n (k' .ret f57S1) (fun (xvs8 : Int) (xvs9 : Bool) => k' (.exit 0) (f57S2 vs6 vs7 xvs8 xvs9 vb1_0 vb1_1 vb1_2 vb1_3 vb1_4 vb1_5 vb1_6 vb1_7 vb1_8 vb1_9)) vs6 vs7 vb1_0 vb1_1 vb1_2 vb1_3 vb1_4 vb1_5 vb1_6 vb1_7 vb1_8 vb1_9 m vs8 := by
  intro m; induction m with
  | zero => intros; rfl
  | succ m ih =>
    intro vs8
    simp only [iter]
    rw [f57L0_b]
    simp only [ih, f57L0]
noncomputable def f57K0 {R : Type} (n : Nat) (k' : Ex → St → Option R) : Ex → St → Option R := (blockK 0 (seqK f57e f57k n (cAt [1,1] f57c) k'))
theorem f57K0_x0 {R : Type} (n : Nat) (k : List Dt → Option R) (a0 : OrderT)  : f57K0 n (exitK f57e [.ro] [false] true [.tmp 2] [4] [.d .order a0] k) .ret f57S1 =
    (k [.d .bool false]) := by kernel_rfl
theorem f57K0_x1 {R : Type} (n : Nat) (k : List Dt → Option R) (a0 : OrderT) (vs6 : List MetricT) (vs7 : Int) (vb1_0 : ByteArray) (vb1_1 : ByteArray) (vb1_2 : Int) (vb1_3 : Int) (vb1_4 : List MetricT) (vb1_5 : Int) (vb1_6 : Int) (vb1_7 : Int) (vb1_8 : Int) (vb1_9 : List NoteT) (xvs8 : Int) (xvs9 : Bool) : f57K0 n (exitK f57e [.ro] [false] true [.tmp 2] [4] [.d .order a0] k) (.exit 0) (f57S2 vs6 vs7 xvs8 xvs9 vb1_0 vb1_1 vb1_2 vb1_3 vb1_4 vb1_5 vb1_6 vb1_7 vb1_8 vb1_9) =
    (cond (okStr vb1_0)
  (cond (nameOk vb1_0)
   (cond (okStr vb1_1)
    (cond (nameOk vb1_1)
     (cond (inR vb1_2 (1 : Int) vb1_3)
      (cond (decide (vb1_3 ≤ (1000 : Int)))
       (cond (decide ((vb1_4.length : Int) ≤ (4 : Int)))
        (cond (paceOk (⟨vb1_5, vb1_6, vb1_7, vb1_8⟩ : PaceT))
         (cond (smL sm_note vb1_9)
          (k [.d .bool (notesOk vb1_9)])
          none)
         (k [.d .bool false]))
        (k [.d .bool false]))
       (k [.d .bool false]))
      (k [.d .bool false]))
     (k [.d .bool false]))
    none)
   (k [.d .bool false]))
  none) := by kernel_rfl
theorem f57_run {R : Type} (n : Nat) (k : List Dt → Option R) (a0 : OrderT) : evFn f57e f57k n f57c [.ro] [false] true [.tmp 2] [4] [.d .order a0] k =
    (f57L0 n (k [.d .bool false]) (fun (xvs8 : Int) (xvs9 : Bool) =>
  (cond (okStr (OrderT.name a0))
   (cond (nameOk (OrderT.name a0))
    (cond (okStr (OrderT.target a0))
     (cond (nameOk (OrderT.target a0))
      (cond (inR (OrderT.low a0) (1 : Int) (OrderT.high a0))
       (cond (decide ((OrderT.high a0) ≤ (1000 : Int)))
        (cond (decide (((OrderT.metrics a0).length : Int) ≤ (4 : Int)))
         (cond (paceOk (⟨(PaceT.up (OrderT.pace a0)), (PaceT.down (OrderT.pace a0)), (PaceT.upSpan (OrderT.pace a0)), (PaceT.downSpan (OrderT.pace a0))⟩ : PaceT))
          (cond (smL sm_note (OrderT.notes a0))
           (k [.d .bool (notesOk (OrderT.notes a0))])
           none)
          (k [.d .bool false]))
         (k [.d .bool false]))
        (k [.d .bool false]))
       (k [.d .bool false]))
      (k [.d .bool false]))
     none)
    (k [.d .bool false]))
   none)) (OrderT.metrics a0) ((OrderT.metrics a0).length : Int) (OrderT.name a0) (OrderT.target a0) (OrderT.low a0) (OrderT.high a0) (OrderT.metrics a0) (PaceT.up (OrderT.pace a0)) (PaceT.down (OrderT.pace a0)) (PaceT.upSpan (OrderT.pace a0)) (PaceT.downSpan (OrderT.pace a0)) (OrderT.notes a0) n (0 : Int)) := by
  refine Eq.trans (b := (iter (fun st k => ev f57e f57k n (cAt [1,0,1,0,0] f57c) st k) n (f57S0 (OrderT.metrics a0) ((OrderT.metrics a0).length : Int) (0 : Int) (OrderT.name a0) (OrderT.target a0) (OrderT.low a0) (OrderT.high a0) (OrderT.metrics a0) (PaceT.up (OrderT.pace a0)) (PaceT.down (OrderT.pace a0)) (PaceT.upSpan (OrderT.pace a0)) (PaceT.downSpan (OrderT.pace a0)) (OrderT.notes a0)) (f57K0 n (exitK f57e [.ro] [false] true [.tmp 2] [4] [.d .order a0] k)))) (by kernel_rfl) ?_
  simp only [f57L0_eq, f57K0_x0, f57K0_x1]
theorem f57_spec (a0 : OrderT) (hg : sm_order a0 = true) : ∃ keep rounds, ∀ {R : Type} (k : List Dt → Option R), evFn f57e keep rounds f57c [.ro] [false] true [.tmp 2] [4] [.d .order a0] k = k [.d .bool (orderOk a0)] := by
  simp only [sm_order, Bool.and_eq_true] at hg
  obtain ⟨hn, ht0, hlo, hhi, hm, hp, hno⟩ := hg
  have hl := smL_len hm
  refine ⟨f57k, a0.metrics.length + 1, fun {R} k => ?_⟩
  rw [f57_run]
  simp only [okStr_sm hn, okStr_sm ht0, hno, eta_pace, cond_true]
  refine Eq.trans (loop_idx (n := a0.metrics.length) (F := fun m i => f57L0 (a0.metrics.length + 1) _ _ a0.metrics (a0.metrics.length : Int) a0.name a0.target a0.low a0.high a0.metrics a0.pace.up a0.pace.down a0.pace.upSpan a0.pace.downSpan a0.notes m i) (p := metC a0.metrics) (good := cond (nameOk a0.name) (cond (nameOk a0.target) (cond (inR a0.low 1 a0.high) (cond (decide (a0.high ≤ 1000)) (cond (decide ((a0.metrics.length : Int) ≤ 4)) (cond (paceOk a0.pace) (k [.d .bool (notesOk a0.notes)]) (k [.d .bool false])) (k [.d .bool false])) (k [.d .bool false])) (k [.d .bool false])) (k [.d .bool false])) (k [.d .bool false])) (bad := k [.d .bool false])
    (fun m j hj => ?_) (fun m => by simp only [f57L0, idxE, cond_false]) (a0.metrics.length) 0 (a0.metrics.length + 1) (by omega) (by omega)) ?_
  · obtain ⟨h1, h0, hw, ht⟩ := idx hj (by omega)
    have hx := smL_at (t := .metric) hm hj
    simp only [f57L0, h1, h0, hw, ht, hx, eta_metric, Bool.and_self, cond_true]
    unfold metC
    by_cases hz : (j : Int) > 0
    · obtain ⟨h2, h3, _, h5⟩ := idx (show j - 1 < a0.metrics.length by omega) (by omega)
      simp only [hz, decide_true, cond_true, idxM hj (by omega) (by omega), h2, h3, h5, Bool.and_self]
      cases metricOk (atI (t := .metric) a0.metrics j) <;> cases sLt (atI (t := .metric) a0.metrics (j - 1)).name (atI (t := .metric) a0.metrics j).name <;> rfl
    · simp only [hz, decide_false, cond_false]
      cases metricOk (atI (t := .metric) a0.metrics j) <;> rfl
  · unfold orderOk metsOk
    cases nameOk a0.name <;> cases nameOk a0.target <;> cases inR a0.low 1 a0.high <;> cases decide (a0.high ≤ 1000) <;> cases allN (metC a0.metrics) 0 a0.metrics.length <;> cases decide ((a0.metrics.length : Int) ≤ 4) <;> cases paceOk a0.pace <;> rfl
noncomputable def q57 : List Dt → Option (Bool × List Dt)
  | [.d .order a0] => some ((sm_order a0), [.d .bool (orderOk a0)])
  | _ => none
noncomputable def s57 : Gm.Spec := Gm.Spec.of [.ro] [false] true q57
theorem good57 : Gm.Good Try.prog (57, s57) := by
  have hl : ∀ x ∈ [(56, s56), (95, s95), (96, s96), (97, s97), (98, s98)], Gm.Good Try.prog x := List.forall_mem_cons.2 ⟨good56, List.forall_mem_cons.2 ⟨good95, List.forall_mem_cons.2 ⟨good96, List.forall_mem_cons.2 ⟨good97, List.forall_mem_cons.2 ⟨good98, List.forall_mem_nil _⟩⟩⟩⟩⟩
  refine ⟨⟨spec_ok (tab_ok.env hl) (tab.natl hl) Try.func57 (by kernel_rfl : Try.f57.body = some f57c) [4] (by kernel_rfl) ?_, _, Try.func57, by kernel_rfl, of_decide_eq_true (by kernel_rfl)⟩, Gm.Spec.of_natl _ _ _ _⟩
  intro ds outs h
  unfold q57 at h
  split at h
  · simp only [Option.some.injEq, Prod.mk.injEq] at h; obtain ⟨hg, h⟩ := h; cases h; exact f57_spec _ hg
  · cases h
end Go.Proofs.Ytnbehmbjoanfoaa

namespace Go.Proofs.Ytnbehmbjoanfoaa
open Go Go.Gm
noncomputable def f156S0 (y0 : Int) (y1 : Int) (y2 : List ItemT) (y3 : Int) (y4 : ByteArray) (y5 : ByteArray) (y6 : Int) (y7 : Int) (y8 : List MetricT) (y9 : Int) (y10 : Int) (y11 : Int) (y12 : Int) (y13 : List NoteT) (y14 : Int) : St := ⟨[(1, .c (.one (.pt 1 0))), (3, .c (.one (.v (.int .i64 y0)))), (4, .c (.one (.pt 4 0))), (5, .c (.one (.v (.int .i64 y1))))], [(1, ⟨.store, [.ro .item y2, .v (.int .i64 y3)]⟩), (4, ⟨.item, [.v (.string y4), .v (.string y5), .v (.int .i64 y6), .v (.int .i64 y7), .ro .metric y8, .v (.int .i64 y9), .v (.int .i64 y10), .v (.int .i64 y11), .v (.int .i64 y12), .ro .note y13, .v (.int .i64 y14)]⟩)], []⟩
noncomputable def f156S1 : St := ⟨[(2, .c (.one (.v (.bool false))))], [], []⟩
noncomputable def f156S2 (y0 : Int) (y1 : Int) (y2 : Bool) (y3 : List ItemT) (y4 : Int) (y5 : ByteArray) (y6 : ByteArray) (y7 : Int) (y8 : Int) (y9 : List MetricT) (y10 : Int) (y11 : Int) (y12 : Int) (y13 : Int) (y14 : List NoteT) (y15 : Int) : St := ⟨[(1, .c (.one (.pt 1 0))), (3, .c (.one (.v (.int .i64 y0)))), (4, .c (.one (.pt 4 0))), (5, .c (.one (.v (.int .i64 y1)))), (61, .c (.one (.v (.bool y2))))], [(1, ⟨.store, [.ro .item y3, .v (.int .i64 y4)]⟩), (4, ⟨.item, [.v (.string y5), .v (.string y6), .v (.int .i64 y7), .v (.int .i64 y8), .ro .metric y9, .v (.int .i64 y10), .v (.int .i64 y11), .v (.int .i64 y12), .v (.int .i64 y13), .ro .note y14, .v (.int .i64 y15)]⟩)], []⟩
noncomputable def f156S3 (y0 : Int) (y1 : List ItemT) (y2 : Int) : St := ⟨[(1, .c (.one (.pt 1 0))), (3, .c (.one (.v (.int .i64 y0))))], [(1, ⟨.store, [.ro .item y1, .v (.int .i64 y2)]⟩)], []⟩
noncomputable def f156S4 (y0 : Int) (y1 : Bool) (y2 : List ItemT) (y3 : Int) : St := ⟨[(1, .c (.one (.pt 1 0))), (3, .c (.one (.v (.int .i64 y0)))), (20, .c (.one (.v (.bool y1))))], [(1, ⟨.store, [.ro .item y2, .v (.int .i64 y3)]⟩)], []⟩
noncomputable def f156c : Code := (Try.f156.body).getD .skip
def f156k : Nat → Kp := kat [⟨[1], [], [], []⟩, ⟨[1, 15], [], [], []⟩, ⟨[2], [], [], []⟩, ⟨[1, 3], [], [], []⟩, ⟨[1, 3, 20], [], [], []⟩, ⟨[1, 3], [], [], []⟩, ⟨[1, 3, 4], [], [], []⟩, ⟨[1, 3, 4, 58], [], [], []⟩, ⟨[2], [], [], []⟩, ⟨[1, 3, 4, 5], [], [], []⟩, ⟨[1, 3, 4, 5, 61], [], [], []⟩, ⟨[1, 3, 4, 5], [], [], []⟩, ⟨[1, 3, 4, 5, 72], [], [], []⟩, ⟨[2], [], [], []⟩, ⟨[2], [], [], []⟩]
noncomputable def f156e : Env := tab.env [(54, s54), (55, s55)]
noncomputable def f156L0 {R : Type} (n : Nat) (x0 : Option R) (x1 : Int → Bool → Option R) (vs3 : Int) (vb1_0 : List ItemT) (vb1_1 : Int) (vb4_0 : ByteArray) (vb4_1 : ByteArray) (vb4_2 : Int) (vb4_3 : Int) (vb4_4 : List MetricT) (vb4_5 : Int) (vb4_6 : Int) (vb4_7 : Int) (vb4_8 : Int) (vb4_9 : List NoteT) (vb4_10 : Int) : Nat → Int → Option R
  | 0, _ => none
  | m + 1, vs5 =>
    (cond (decide (vs5 < vs3))
   (cond ((decide ((0 : Int) ≤ vs5)) && (decide (vs5 < (vb1_0.length : Int))))
    (cond ((ItemT.ver (atI (t := .item) vb1_0 (Int.toNat vs5))) == vb4_10)
     (x0)
     (f156L0 n x0 x1 vs3 vb1_0 vb1_1 vb4_0 vb4_1 vb4_2 vb4_3 vb4_4 vb4_5 vb4_6 vb4_7 vb4_8 vb4_9 vb4_10 m (IntKind.wrap .i64 (vs5 + (1 : Int)))))
    none)
   (x1 vs5 (decide (vs5 < vs3))))
theorem f156L0_b {R : Type} (n : Nat) (k' : Ex → St → Option R) (vs3 : Int) (vs5 : Int) (vb1_0 : List ItemT) (vb1_1 : Int) (vb4_0 : ByteArray) (vb4_1 : ByteArray) (vb4_2 : Int) (vb4_3 : Int) (vb4_4 : List MetricT) (vb4_5 : Int) (vb4_6 : Int) (vb4_7 : Int) (vb4_8 : Int) (vb4_9 : List NoteT) (vb4_10 : Int) : ev f156e f156k n (cAt [1,1,0,1,0,0,1,0,0,1,1,1,0,0] f156c) (f156S0 vs3 vs5 vb1_0 vb1_1 vb4_0 vb4_1 vb4_2 vb4_3 vb4_4 vb4_5 vb4_6 vb4_7 vb4_8 vb4_9 vb4_10) k' =
    (cond (decide (vs5 < vs3))
  (cond ((decide ((0 : Int) ≤ vs5)) && (decide (vs5 < (vb1_0.length : Int))))
   (cond ((ItemT.ver (atI (t := .item) vb1_0 (Int.toNat vs5))) == vb4_10)
    (k' .ret f156S1)
    (k' .normal (f156S0 vs3 (IntKind.wrap .i64 (vs5 + (1 : Int))) vb1_0 vb1_1 vb4_0 vb4_1 vb4_2 vb4_3 vb4_4 vb4_5 vb4_6 vb4_7 vb4_8 vb4_9 vb4_10)))
   none)
  (k' (.exit 2) (f156S2 vs3 vs5 (decide (vs5 < vs3)) vb1_0 vb1_1 vb4_0 vb4_1 vb4_2 vb4_3 vb4_4 vb4_5 vb4_6 vb4_7 vb4_8 vb4_9 vb4_10))) := by kernel_rfl
theorem f156L0_eq {R : Type} (n : Nat) (k' : Ex → St → Option R) (vs3 : Int) (vb1_0 : List ItemT) (vb1_1 : Int) (vb4_0 : ByteArray) (vb4_1 : ByteArray) (vb4_2 : Int) (vb4_3 : Int) (vb4_4 : List MetricT) (vb4_5 : Int) (vb4_6 : Int) (vb4_7 : Int) (vb4_8 : Int) (vb4_9 : List NoteT) (vb4_10 : Int) : ∀ (m : Nat) (vs5 : Int), iter (fun st k => ev f156e f156k n (cAt [1,1,0,1,0,0,1,0,0,1,1,1,0,0] f156c) st k) m (f156S0 vs3 vs5 vb1_0 vb1_1 vb4_0 vb4_1 vb4_2 vb4_3 vb4_4 vb4_5 vb4_6 vb4_7 vb4_8 vb4_9 vb4_10) k' = f156L0 n (k' .ret f156S1) (fun (xvs5 : Int) (xvs61 : Bool) => k' (.exit 2) (f156S2 vs3 xvs5 xvs61 vb1_0 vb1_1 vb4_0 vb4_1 vb4_2 vb4_3 vb4_4 vb4_5 vb4_6 vb4_7 vb4_8 vb4_9 vb4_10)) vs3 vb1_0 vb1_1 vb4_0 vb4_1 vb4_2 vb4_3 vb4_4 vb4_5 vb4_6 vb4_7 vb4_8 vb4_9 vb4_10 m vs5 := by
  intro m; induction m with
  | zero => intros; rfl
  | succ m ih =>
    intro vs5
    simp only [iter]
    rw [f156L0_b]
    simp only [ih, f156L0]
noncomputable def f156K0 {R : Type} (n : Nat) (k' : Ex → St → Option R) : Ex → St → Option R := (blockK 2 (blockK 1 (seqK f156e f156k n (cAt [1,1,0,1,0,0,1,1] f156c) k')))
theorem f156K0_x0 {R : Type} (n : Nat) (k' : Ex → St → Option R)  : f156K0 n k' .ret f156S1 =
    (k' .ret f156S1) := by kernel_rfl
theorem f156K0_x1 {R : Type} (n : Nat) (k' : Ex → St → Option R) (vs3 : Int) (vb1_0 : List ItemT) (vb1_1 : Int) (vb4_0 : ByteArray) (vb4_1 : ByteArray) (vb4_2 : Int) (vb4_3 : Int) (vb4_4 : List MetricT) (vb4_5 : Int) (vb4_6 : Int) (vb4_7 : Int) (vb4_8 : Int) (vb4_9 : List NoteT) (vb4_10 : Int) (xvs5 : Int) (xvs61 : Bool) : f156K0 n k' (.exit 2) (f156S2 vs3 xvs5 xvs61 vb1_0 vb1_1 vb4_0 vb4_1 vb4_2 vb4_3 vb4_4 vb4_5 vb4_6 vb4_7 vb4_8 vb4_9 vb4_10) =
    (k' .normal (f156S3 (IntKind.wrap .i64 (vs3 + (1 : Int))) vb1_0 vb1_1)) := by kernel_rfl
noncomputable def f156L1 {R : Type} (n : Nat) (x0 : Option R) (x1 : Int → Bool → Option R) (vb1_0 : List ItemT) (vb1_1 : Int) : Nat → Int → Option R
  | 0, _ => none
  | m + 1, vs3 =>
    (cond (decide (vs3 < (vb1_0.length : Int)))
   (cond ((decide ((0 : Int) ≤ vs3)) && (decide (vs3 < (vb1_0.length : Int))))
    (cond (sm_order (ItemT.order (atI (t := .item) vb1_0 (Int.toNat vs3))))
     (cond (!(orderOk (ItemT.order (atI (t := .item) vb1_0 (Int.toNat vs3)))))
      (x0)
      (cond (!(inR (ItemT.ver (atI (t := .item) vb1_0 (Int.toNat vs3))) (1 : Int) (IntKind.wrap .i64 (vb1_1 - (1 : Int)))))
       (x0)
       (cond (decide (vs3 > (0 : Int)))
        (cond ((decide ((0 : Int) ≤ (IntKind.wrap .i64 (vs3 - (1 : Int))))) && (decide ((IntKind.wrap .i64 (vs3 - (1 : Int))) < (vb1_0.length : Int))))
         (cond (!(sLt (OrderT.name (ItemT.order (atI (t := .item) vb1_0 (Int.toNat (IntKind.wrap .i64 (vs3 - (1 : Int))))))) (OrderT.name (ItemT.order (atI (t := .item) vb1_0 (Int.toNat vs3))))))
          (x0)
          (f156L0 n (x0) (fun (xvs5 : Int) (xvs61 : Bool) =>
           (f156L1 n x0 x1 vb1_0 vb1_1 m (IntKind.wrap .i64 (vs3 + (1 : Int))))) vs3 vb1_0 vb1_1 (OrderT.name (ItemT.order (atI (t := .item) vb1_0 (Int.toNat vs3)))) (OrderT.target (ItemT.order (atI (t := .item) vb1_0 (Int.toNat vs3)))) (OrderT.low (ItemT.order (atI (t := .item) vb1_0 (Int.toNat vs3)))) (OrderT.high (ItemT.order (atI (t := .item) vb1_0 (Int.toNat vs3)))) (OrderT.metrics (ItemT.order (atI (t := .item) vb1_0 (Int.toNat vs3)))) (PaceT.up (OrderT.pace (ItemT.order (atI (t := .item) vb1_0 (Int.toNat vs3))))) (PaceT.down (OrderT.pace (ItemT.order (atI (t := .item) vb1_0 (Int.toNat vs3))))) (PaceT.upSpan (OrderT.pace (ItemT.order (atI (t := .item) vb1_0 (Int.toNat vs3))))) (PaceT.downSpan (OrderT.pace (ItemT.order (atI (t := .item) vb1_0 (Int.toNat vs3))))) (OrderT.notes (ItemT.order (atI (t := .item) vb1_0 (Int.toNat vs3)))) (ItemT.ver (atI (t := .item) vb1_0 (Int.toNat vs3))) n (0 : Int)))
         none)
        (f156L0 n (x0) (fun (xvs5 : Int) (xvs61 : Bool) =>
         (f156L1 n x0 x1 vb1_0 vb1_1 m (IntKind.wrap .i64 (vs3 + (1 : Int))))) vs3 vb1_0 vb1_1 (OrderT.name (ItemT.order (atI (t := .item) vb1_0 (Int.toNat vs3)))) (OrderT.target (ItemT.order (atI (t := .item) vb1_0 (Int.toNat vs3)))) (OrderT.low (ItemT.order (atI (t := .item) vb1_0 (Int.toNat vs3)))) (OrderT.high (ItemT.order (atI (t := .item) vb1_0 (Int.toNat vs3)))) (OrderT.metrics (ItemT.order (atI (t := .item) vb1_0 (Int.toNat vs3)))) (PaceT.up (OrderT.pace (ItemT.order (atI (t := .item) vb1_0 (Int.toNat vs3))))) (PaceT.down (OrderT.pace (ItemT.order (atI (t := .item) vb1_0 (Int.toNat vs3))))) (PaceT.upSpan (OrderT.pace (ItemT.order (atI (t := .item) vb1_0 (Int.toNat vs3))))) (PaceT.downSpan (OrderT.pace (ItemT.order (atI (t := .item) vb1_0 (Int.toNat vs3))))) (OrderT.notes (ItemT.order (atI (t := .item) vb1_0 (Int.toNat vs3)))) (ItemT.ver (atI (t := .item) vb1_0 (Int.toNat vs3))) n (0 : Int)))))
     none)
    none)
   (x1 vs3 (decide (vs3 < (vb1_0.length : Int)))))
theorem f156L1_b {R : Type} (n : Nat) (k' : Ex → St → Option R) (vs3 : Int) (vb1_0 : List ItemT) (vb1_1 : Int) : ev f156e f156k n (cAt [1,1,0,1,0,0] f156c) (f156S3 vs3 vb1_0 vb1_1) k' =
    (cond (decide (vs3 < (vb1_0.length : Int)))
  (cond ((decide ((0 : Int) ≤ vs3)) && (decide (vs3 < (vb1_0.length : Int))))
   (cond (sm_order (ItemT.order (atI (t := .item) vb1_0 (Int.toNat vs3))))
    (cond (!(orderOk (ItemT.order (atI (t := .item) vb1_0 (Int.toNat vs3)))))
     (k' .ret f156S1)
     (cond (!(inR (ItemT.ver (atI (t := .item) vb1_0 (Int.toNat vs3))) (1 : Int) (IntKind.wrap .i64 (vb1_1 - (1 : Int)))))
      (k' .ret f156S1)
      (cond (decide (vs3 > (0 : Int)))
       (cond ((decide ((0 : Int) ≤ (IntKind.wrap .i64 (vs3 - (1 : Int))))) && (decide ((IntKind.wrap .i64 (vs3 - (1 : Int))) < (vb1_0.length : Int))))
        (cond (!(sLt (OrderT.name (ItemT.order (atI (t := .item) vb1_0 (Int.toNat (IntKind.wrap .i64 (vs3 - (1 : Int))))))) (OrderT.name (ItemT.order (atI (t := .item) vb1_0 (Int.toNat vs3))))))
         (k' .ret f156S1)
         (f156L0 n (k' .ret f156S1) (fun (xvs5 : Int) (xvs61 : Bool) =>
          (k' .normal (f156S3 (IntKind.wrap .i64 (vs3 + (1 : Int))) vb1_0 vb1_1))) vs3 vb1_0 vb1_1 (OrderT.name (ItemT.order (atI (t := .item) vb1_0 (Int.toNat vs3)))) (OrderT.target (ItemT.order (atI (t := .item) vb1_0 (Int.toNat vs3)))) (OrderT.low (ItemT.order (atI (t := .item) vb1_0 (Int.toNat vs3)))) (OrderT.high (ItemT.order (atI (t := .item) vb1_0 (Int.toNat vs3)))) (OrderT.metrics (ItemT.order (atI (t := .item) vb1_0 (Int.toNat vs3)))) (PaceT.up (OrderT.pace (ItemT.order (atI (t := .item) vb1_0 (Int.toNat vs3))))) (PaceT.down (OrderT.pace (ItemT.order (atI (t := .item) vb1_0 (Int.toNat vs3))))) (PaceT.upSpan (OrderT.pace (ItemT.order (atI (t := .item) vb1_0 (Int.toNat vs3))))) (PaceT.downSpan (OrderT.pace (ItemT.order (atI (t := .item) vb1_0 (Int.toNat vs3))))) (OrderT.notes (ItemT.order (atI (t := .item) vb1_0 (Int.toNat vs3)))) (ItemT.ver (atI (t := .item) vb1_0 (Int.toNat vs3))) n (0 : Int)))
        none)
       (f156L0 n (k' .ret f156S1) (fun (xvs5 : Int) (xvs61 : Bool) =>
        (k' .normal (f156S3 (IntKind.wrap .i64 (vs3 + (1 : Int))) vb1_0 vb1_1))) vs3 vb1_0 vb1_1 (OrderT.name (ItemT.order (atI (t := .item) vb1_0 (Int.toNat vs3)))) (OrderT.target (ItemT.order (atI (t := .item) vb1_0 (Int.toNat vs3)))) (OrderT.low (ItemT.order (atI (t := .item) vb1_0 (Int.toNat vs3)))) (OrderT.high (ItemT.order (atI (t := .item) vb1_0 (Int.toNat vs3)))) (OrderT.metrics (ItemT.order (atI (t := .item) vb1_0 (Int.toNat vs3)))) (PaceT.up (OrderT.pace (ItemT.order (atI (t := .item) vb1_0 (Int.toNat vs3))))) (PaceT.down (OrderT.pace (ItemT.order (atI (t := .item) vb1_0 (Int.toNat vs3))))) (PaceT.upSpan (OrderT.pace (ItemT.order (atI (t := .item) vb1_0 (Int.toNat vs3))))) (PaceT.downSpan (OrderT.pace (ItemT.order (atI (t := .item) vb1_0 (Int.toNat vs3))))) (OrderT.notes (ItemT.order (atI (t := .item) vb1_0 (Int.toNat vs3)))) (ItemT.ver (atI (t := .item) vb1_0 (Int.toNat vs3))) n (0 : Int)))))
    none)
   none)
  (k' (.exit 0) (f156S4 vs3 (decide (vs3 < (vb1_0.length : Int))) vb1_0 vb1_1))) := by
  refine Eq.trans (b := (cond (decide (vs3 < (vb1_0.length : Int)))
  (cond ((decide ((0 : Int) ≤ vs3)) && (decide (vs3 < (vb1_0.length : Int))))
   (cond (sm_order (ItemT.order (atI (t := .item) vb1_0 (Int.toNat vs3))))
    (cond (!(orderOk (ItemT.order (atI (t := .item) vb1_0 (Int.toNat vs3)))))
     (k' .ret f156S1)
     (cond (!(inR (ItemT.ver (atI (t := .item) vb1_0 (Int.toNat vs3))) (1 : Int) (IntKind.wrap .i64 (vb1_1 - (1 : Int)))))
      (k' .ret f156S1)
      (cond (decide (vs3 > (0 : Int)))
       (cond ((decide ((0 : Int) ≤ (IntKind.wrap .i64 (vs3 - (1 : Int))))) && (decide ((IntKind.wrap .i64 (vs3 - (1 : Int))) < (vb1_0.length : Int))))
        (cond (!(sLt (OrderT.name (ItemT.order (atI (t := .item) vb1_0 (Int.toNat (IntKind.wrap .i64 (vs3 - (1 : Int))))))) (OrderT.name (ItemT.order (atI (t := .item) vb1_0 (Int.toNat vs3))))))
         (k' .ret f156S1)
         (iter (fun st k => ev f156e f156k n (cAt [1,1,0,1,0,0,1,0,0,1,1,1,0,0] f156c) st k) n (f156S0 vs3 (0 : Int) vb1_0 vb1_1 (OrderT.name (ItemT.order (atI (t := .item) vb1_0 (Int.toNat vs3)))) (OrderT.target (ItemT.order (atI (t := .item) vb1_0 (Int.toNat vs3)))) (OrderT.low (ItemT.order (atI (t := .item) vb1_0 (Int.toNat vs3)))) (OrderT.high (ItemT.order (atI (t := .item) vb1_0 (Int.toNat vs3)))) (OrderT.metrics (ItemT.order (atI (t := .item) vb1_0 (Int.toNat vs3)))) (PaceT.up (OrderT.pace (ItemT.order (atI (t := .item) vb1_0 (Int.toNat vs3))))) (PaceT.down (OrderT.pace (ItemT.order (atI (t := .item) vb1_0 (Int.toNat vs3))))) (PaceT.upSpan (OrderT.pace (ItemT.order (atI (t := .item) vb1_0 (Int.toNat vs3))))) (PaceT.downSpan (OrderT.pace (ItemT.order (atI (t := .item) vb1_0 (Int.toNat vs3))))) (OrderT.notes (ItemT.order (atI (t := .item) vb1_0 (Int.toNat vs3)))) (ItemT.ver (atI (t := .item) vb1_0 (Int.toNat vs3)))) (f156K0 n k')))
        none)
       (iter (fun st k => ev f156e f156k n (cAt [1,1,0,1,0,0,1,0,0,1,1,1,0,0] f156c) st k) n (f156S0 vs3 (0 : Int) vb1_0 vb1_1 (OrderT.name (ItemT.order (atI (t := .item) vb1_0 (Int.toNat vs3)))) (OrderT.target (ItemT.order (atI (t := .item) vb1_0 (Int.toNat vs3)))) (OrderT.low (ItemT.order (atI (t := .item) vb1_0 (Int.toNat vs3)))) (OrderT.high (ItemT.order (atI (t := .item) vb1_0 (Int.toNat vs3)))) (OrderT.metrics (ItemT.order (atI (t := .item) vb1_0 (Int.toNat vs3)))) (PaceT.up (OrderT.pace (ItemT.order (atI (t := .item) vb1_0 (Int.toNat vs3))))) (PaceT.down (OrderT.pace (ItemT.order (atI (t := .item) vb1_0 (Int.toNat vs3))))) (PaceT.upSpan (OrderT.pace (ItemT.order (atI (t := .item) vb1_0 (Int.toNat vs3))))) (PaceT.downSpan (OrderT.pace (ItemT.order (atI (t := .item) vb1_0 (Int.toNat vs3))))) (OrderT.notes (ItemT.order (atI (t := .item) vb1_0 (Int.toNat vs3)))) (ItemT.ver (atI (t := .item) vb1_0 (Int.toNat vs3)))) (f156K0 n k')))))
    none)
   none)
  (k' (.exit 0) (f156S4 vs3 (decide (vs3 < (vb1_0.length : Int))) vb1_0 vb1_1)))) (by kernel_rfl) ?_
  simp only [f156L0_eq, f156K0_x0, f156K0_x1]
theorem f156L1_eq {R : Type} (n : Nat) (k' : Ex → St → Option R) (vb1_0 : List ItemT) (vb1_1 : Int) : ∀ (m : Nat) (vs3 : Int), iter (fun st k => ev f156e f156k n (cAt [1,1,0,1,0,0] f156c) st k) m (f156S3 vs3 vb1_0 vb1_1) k' = f156L1 n (k' .ret f156S1) (fun (xvs3 : Int) (xvs20 : Bool) => k' (.exit 0) (f156S4 xvs3 xvs20 vb1_0 vb1_1)) vb1_0 vb1_1 m vs3 := by
  intro m; induction m with
  | zero => intros; rfl
  | succ m ih =>
    intro vs3
    simp only [iter]
    rw [f156L1_b]
    simp only [ih, f156L1]
noncomputable def f156K1 {R : Type} (n : Nat) (k' : Ex → St → Option R) : Ex → St → Option R := (blockK 0 (seqK f156e f156k n (cAt [1,1,1] f156c) k'))
theorem f156K1_x0 {R : Type} (n : Nat) (k : List Dt → Option R) (a0 : StoreT)  : f156K1 n (exitK f156e [.ro] [false] true [.tmp 2] [4] [.d .store a0] k) .ret f156S1 =
    (k [.d .bool false]) := by kernel_rfl
theorem f156K1_x1 {R : Type} (n : Nat) (k : List Dt → Option R) (a0 : StoreT) (vb1_0 : List ItemT) (vb1_1 : Int) (xvs3 : Int) (xvs20 : Bool) : f156K1 n (exitK f156e [.ro] [false] true [.tmp 2] [4] [.d .store a0] k) (.exit 0) (f156S4 xvs3 xvs20 vb1_0 vb1_1) =
    (k [.d .bool true]) := by kernel_rfl
theorem f156_run {R : Type} (n : Nat) (k : List Dt → Option R) (a0 : StoreT) : evFn f156e f156k n f156c [.ro] [false] true [.tmp 2] [4] [.d .store a0] k =
    (cond (!(inR (StoreT.next a0) (1 : Int) (100000 : Int)))
  (k [.d .bool false])
  (cond (decide (((StoreT.items a0).length : Int) > (6 : Int)))
   (k [.d .bool false])
   (f156L1 n (k [.d .bool false]) (fun (xvs3 : Int) (xvs20 : Bool) =>
    (k [.d .bool true])) (StoreT.items a0) (StoreT.next a0) n (0 : Int)))) := by
  refine Eq.trans (b := (cond (!(inR (StoreT.next a0) (1 : Int) (100000 : Int)))
  (k [.d .bool false])
  (cond (decide (((StoreT.items a0).length : Int) > (6 : Int)))
   (k [.d .bool false])
   (iter (fun st k => ev f156e f156k n (cAt [1,1,0,1,0,0] f156c) st k) n (f156S3 (0 : Int) (StoreT.items a0) (StoreT.next a0)) (f156K1 n (exitK f156e [.ro] [false] true [.tmp 2] [4] [.d .store a0] k)))))) (by kernel_rfl) ?_
  simp only [f156L1_eq, f156K1_x0, f156K1_x1]
theorem f156_spec (a0 : StoreT) (hg : sm_store a0 = true) : ∃ keep rounds, ∀ {R : Type} (k : List Dt → Option R), evFn f156e keep rounds f156c [.ro] [false] true [.tmp 2] [4] [.d .store a0] k = k [.d .bool (storeOk a0)] := by
  simp only [sm_store, Bool.and_eq_true] at hg
  have hl := smL_len hg.1
  refine ⟨f156k, a0.items.length + 1, fun {R} k => ?_⟩
  rw [f156_run]
  unfold storeOk
  cases hb : inR a0.next 1 100000
  · cases decide ((a0.items.length : Int) > 6) <;> rfl
  rw [inR_iff] at hb
  by_cases h6 : (a0.items.length : Int) > 6
  · rw [decide_eq_true h6, decide_eq_false (show ¬ ((a0.items.length : Int) ≤ 6) by omega)]; rfl
  rw [decide_eq_false h6, decide_eq_true (show (a0.items.length : Int) ≤ 6 by omega)]
  simp only [Bool.not_true, cond_false, Bool.true_and]
  refine Eq.trans (loop_idx (n := a0.items.length) (F := fun m i => f156L1 (a0.items.length + 1) _ _ a0.items a0.next m i) (p := itemC a0.items a0.next) (good := k [.d .bool true]) (bad := k [.d .bool false])
    (fun m j hj => ?_) (fun m => by simp only [f156L1, idxE, cond_false]) (a0.items.length) 0 (a0.items.length + 1) (by omega) (by omega)) ?_
  · obtain ⟨h1, h0, hw, ht⟩ := idx hj (by omega)
    have hx := smL_at (t := .item) hg.1 hj
    simp only [sm_item, Bool.and_eq_true] at hx
    have hle : decide ((j : Int) ≤ (a0.items.length : Int)) = true := decide_eq_true (by omega)
    have hgl : gLenW (a0.items.take j) = true := gLenW_of (by rw [List.length_take]; omega)
    have inner : ∀ good : Option R, f156L0 (a0.items.length + 1) (k [.d .bool false]) (fun _ _ => good) (j : Int) a0.items a0.next (atI (t := .item) a0.items j).order.name (atI (t := .item) a0.items j).order.target (atI (t := .item) a0.items j).order.low (atI (t := .item) a0.items j).order.high (atI (t := .item) a0.items j).order.metrics (atI (t := .item) a0.items j).order.pace.up (atI (t := .item) a0.items j).order.pace.down (atI (t := .item) a0.items j).order.pace.upSpan (atI (t := .item) a0.items j).order.pace.downSpan (atI (t := .item) a0.items j).order.notes (atI (t := .item) a0.items j).ver (a0.items.length + 1) (0 : Int) = cond (!(verIn (a0.items.take j) (atI (t := .item) a0.items j))) good (k [.d .bool false]) := by
      intro good
      refine Eq.trans (loop_idx (n := j) (F := fun m i => f156L0 (a0.items.length + 1) (k [.d .bool false]) (fun _ _ => good) (j : Int) a0.items a0.next (atI (t := .item) a0.items j).order.name (atI (t := .item) a0.items j).order.target (atI (t := .item) a0.items j).order.low (atI (t := .item) a0.items j).order.high (atI (t := .item) a0.items j).order.metrics (atI (t := .item) a0.items j).order.pace.up (atI (t := .item) a0.items j).order.pace.down (atI (t := .item) a0.items j).order.pace.upSpan (atI (t := .item) a0.items j).order.pace.downSpan (atI (t := .item) a0.items j).order.notes (atI (t := .item) a0.items j).ver m i) (p := fun q => !(verIs (atI (t := .item) a0.items q) (atI (t := .item) a0.items j))) (good := good) (bad := k [.d .bool false])
        (fun m q hq => ?_) (fun m => ?_) j 0 (a0.items.length + 1) (by omega) (by omega)) ?_
      · obtain ⟨g1, g0, gw, gt⟩ := idx hq (by omega)
        obtain ⟨g2, _, _, _⟩ := idx (show q < a0.items.length by omega) (by omega)
        simp only [f156L0, g1, g0, gw, gt, g2, Bool.and_self, cond_true]
        show cond (verIs _ _) _ _ = _
        cases verIs (atI (t := .item) a0.items q) (atI (t := .item) a0.items j) <;> rfl
      · have : decide ((j : Int) < (j : Int)) = false := decide_eq_false (by omega)
        simp only [f156L0, this, cond_false]
      · rw [allN_take (t := .item) (fun x => verIs x (atI (t := .item) a0.items j)) a0.items j (by omega)]; rfl
    simp only [f156L1, h1, h0, hw, ht, hx.1, inner, wrap_id (x := a0.next - 1) (by omega) (by omega), Bool.and_self, cond_true]
    unfold itemC
    by_cases hz : (j : Int) > 0
    · obtain ⟨h2, h3, _, h5⟩ := idx (show j - 1 < a0.items.length by omega) (by omega)
      simp only [hz, decide_true, cond_true, idxM hj (by omega) (by omega), h2, h3, h5, Bool.and_self]
      cases orderOk (atI (t := .item) a0.items j).order <;> cases inR (atI (t := .item) a0.items j).ver 1 (a0.next - 1) <;> cases sLt (atI (t := .item) a0.items (j - 1)).order.name (atI (t := .item) a0.items j).order.name <;> cases verIn (a0.items.take j) (atI (t := .item) a0.items j) <;> rfl
    · simp only [hz, decide_false, cond_false]
      cases orderOk (atI (t := .item) a0.items j).order <;> cases inR (atI (t := .item) a0.items j).ver 1 (a0.next - 1) <;> cases verIn (a0.items.take j) (atI (t := .item) a0.items j) <;> rfl
  · cases allN (itemC a0.items a0.next) 0 a0.items.length <;> rfl
noncomputable def q156 : List Dt → Option (Bool × List Dt)
  | [.d .store a0] => some ((sm_store a0), [.d .bool (storeOk a0)])
  | _ => none
noncomputable def s156 : Gm.Spec := Gm.Spec.of [.ro] [false] true q156
theorem good156 : Gm.Good Try.prog (156, s156) := by
  have hl : ∀ x ∈ [(54, s54), (55, s55)], Gm.Good Try.prog x := List.forall_mem_cons.2 ⟨good54, List.forall_mem_cons.2 ⟨good55, List.forall_mem_nil _⟩⟩
  refine ⟨⟨spec_ok (tab_ok.env hl) (tab.natl hl) Try.func156 (by kernel_rfl : Try.f156.body = some f156c) [4] (by kernel_rfl) ?_, _, Try.func156, by kernel_rfl, of_decide_eq_true (by kernel_rfl)⟩, Gm.Spec.of_natl _ _ _ _⟩
  intro ds outs h
  unfold q156 at h
  split at h
  · simp only [Option.some.injEq, Prod.mk.injEq] at h; obtain ⟨hg, h⟩ := h; cases h; exact f156_spec _ hg
  · cases h
end Go.Proofs.Ytnbehmbjoanfoaa

namespace Go.Proofs.Ytnbehmbjoanfoaa
open Go Go.Gm
noncomputable def f135ac : Code := (Try.f135.body).getD .skip
def f135ak : Nat → Kp := kat [⟨[0], [], [], []⟩, ⟨[0, 4], [], [], []⟩, ⟨[2], [], [], []⟩, ⟨[2], [], [], []⟩]
noncomputable def f135ae : Env := tab.env []
theorem f135a_run {R : Type} (n : Nat) (k : List Dt → Option R) (a0 : List MetricT) : evFn f135ae f135ak n f135ac [.ro] [false] true [.tmp 2] [40] [.d (.sl .metric) a0] k =
    (cond (List.isEmpty a0)
  none
  (cond (Nat.ble (0 + a0.length) LIM)
   (k [.d (.sl .metric) (([] : List MetricT) ++ a0)])
   none)) := by kernel_rfl
theorem f135a_spec (a0 : List MetricT) (hg : (fun (x : List MetricT) => !(x.isEmpty) && Nat.ble x.length LIM) a0 = true) : ∃ keep rounds, ∀ {R : Type} (k : List Dt → Option R), evFn f135ae keep rounds f135ac [.ro] [false] true [.tmp 2] [40] [.d (.sl .metric) a0] k = k [.d (.sl .metric) a0] := by
  simp only [Bool.and_eq_true, Bool.not_eq_true'] at hg
  obtain ⟨h1, h2⟩ := hg
  refine ⟨f135ak, 0, fun {R} k => ?_⟩
  rw [f135a_run, h1, Nat.zero_add, h2]
  simp only [cond_true, cond_false, List.nil_append]
noncomputable def q135a : List Dt → Option (Bool × List Dt)
  | [.d (.sl .metric) a0] => some (((fun (x : List MetricT) => !(x.isEmpty) && Nat.ble x.length LIM) a0), [.d (.sl .metric) a0])
  | _ => none
noncomputable def s135a : Gm.Spec := Gm.Spec.of [.ro] [false] true q135a
theorem good135a : Gm.Good Try.prog (135, s135a) := by
  have hl : ∀ x ∈ ([] : List (Nat × Gm.Spec)), Gm.Good Try.prog x := fun _ h => by cases h
  refine ⟨⟨spec_ok (tab_ok.env hl) (tab.natl hl) Try.func135 (by kernel_rfl : Try.f135.body = some f135ac) [40] (by kernel_rfl) ?_, _, Try.func135, by kernel_rfl, of_decide_eq_true (by kernel_rfl)⟩, Gm.Spec.of_natl _ _ _ _⟩
  intro ds outs h
  unfold q135a at h
  split at h
  · simp only [Option.some.injEq, Prod.mk.injEq] at h; obtain ⟨hg, h⟩ := h; cases h; exact f135a_spec _ hg
  · cases h
set_option maxHeartbeats 1000000 in
set_option maxRecDepth 100000 in
theorem clE135 : CloneE Try.prog 135 := by
  intro a c w
  cases a with
  | none =>
    have q22 : ∀ (w : World) (n c n' c' : Nat), (binOp .eql 40 (.slice none n c) (.slice none n' c')).run Try.prog w = .ok (.bool true) w := fun w n c n' c' => Lib.run_eql_slice_nil w _ _ none n c n' c' Try.underlying40
    go_enter Try.func135, Try.ntmps135
    go_wp2
    go_ret
    exact .inl ⟨rfl, rfl⟩
  | some a =>
    have q22 : ∀ (w : World) (n c n' c' : Nat), (binOp .eql 40 (.slice (some a) n c) (.slice none n' c')).run Try.prog w = .ok (.bool false) w := fun w n c n' c' => Lib.run_eql_slice_nil w _ _ (some a) n c n' c' Try.underlying40
    go_enter Try.func135, Try.ntmps135
    go_wp2
    go_ret
    exact .inr ⟨_, rfl, rfl⟩
noncomputable def q135b : List Dt → Option (Bool × List Dt)
  | [.d (.sl .metric) []] => some (true, [.d (.sl .metric) []])
  | _ => none
noncomputable def q135 : List Dt → Option (Bool × List Dt)
  | [.d (.sl .metric) a0] => some (Nat.ble a0.length LIM, [.d (.sl .metric) a0])
  | _ => none
noncomputable def s135 : Gm.Spec := Gm.Spec.of [.ro] [false] true q135
theorem good135 : Gm.Good Try.prog (135, s135) := by
  refine ⟨⟨spec_clone (q := q135) (qb := q135b) good135a.1.1 (spec_cloneE (t := .metric) clE135 fun ds outs h => ?_) fun ds outs h => ?_, _, Try.func135, by kernel_rfl, of_decide_eq_true (by kernel_rfl)⟩, Gm.Spec.of_natl _ _ _ _⟩
  · unfold q135b at h
    split at h
    · simp only [Option.some.injEq, Prod.mk.injEq, true_and] at h
      exact ⟨rfl, h.symm⟩
    · cases h
  · unfold q135 at h
    split at h
    · rename_i a0
      simp only [Option.some.injEq, Prod.mk.injEq] at h
      obtain ⟨hg, rfl⟩ := h
      cases a0 with
      | nil => exact .inr rfl
      | cons x r => refine .inl ?_; simp only [q135a, List.isEmpty_cons, Bool.not_false, Bool.true_and, hg]
    · cases h
noncomputable def f136ac : Code := (Try.f136.body).getD .skip
def f136ak : Nat → Kp := kat [⟨[0], [], [], []⟩, ⟨[0, 4], [], [], []⟩, ⟨[2], [], [], []⟩, ⟨[2], [], [], []⟩]
noncomputable def f136ae : Env := tab.env []
theorem f136a_run {R : Type} (n : Nat) (k : List Dt → Option R) (a0 : List NoteT) : evFn f136ae f136ak n f136ac [.ro] [false] true [.tmp 2] [43] [.d (.sl .note) a0] k =
    (cond (List.isEmpty a0)
  none
  (cond (Nat.ble (0 + a0.length) LIM)
   (k [.d (.sl .note) (([] : List NoteT) ++ a0)])
   none)) := by kernel_rfl
theorem f136a_spec (a0 : List NoteT) (hg : (fun (x : List NoteT) => !(x.isEmpty) && Nat.ble x.length LIM) a0 = true) : ∃ keep rounds, ∀ {R : Type} (k : List Dt → Option R), evFn f136ae keep rounds f136ac [.ro] [false] true [.tmp 2] [43] [.d (.sl .note) a0] k = k [.d (.sl .note) a0] := by
  simp only [Bool.and_eq_true, Bool.not_eq_true'] at hg
  obtain ⟨h1, h2⟩ := hg
  refine ⟨f136ak, 0, fun {R} k => ?_⟩
  rw [f136a_run, h1, Nat.zero_add, h2]
  simp only [cond_true, cond_false, List.nil_append]
noncomputable def q136a : List Dt → Option (Bool × List Dt)
  | [.d (.sl .note) a0] => some (((fun (x : List NoteT) => !(x.isEmpty) && Nat.ble x.length LIM) a0), [.d (.sl .note) a0])
  | _ => none
noncomputable def s136a : Gm.Spec := Gm.Spec.of [.ro] [false] true q136a
theorem good136a : Gm.Good Try.prog (136, s136a) := by
  have hl : ∀ x ∈ ([] : List (Nat × Gm.Spec)), Gm.Good Try.prog x := fun _ h => by cases h
  refine ⟨⟨spec_ok (tab_ok.env hl) (tab.natl hl) Try.func136 (by kernel_rfl : Try.f136.body = some f136ac) [43] (by kernel_rfl) ?_, _, Try.func136, by kernel_rfl, of_decide_eq_true (by kernel_rfl)⟩, Gm.Spec.of_natl _ _ _ _⟩
  intro ds outs h
  unfold q136a at h
  split at h
  · simp only [Option.some.injEq, Prod.mk.injEq] at h; obtain ⟨hg, h⟩ := h; cases h; exact f136a_spec _ hg
  · cases h
set_option maxHeartbeats 1000000 in
set_option maxRecDepth 100000 in
theorem clE136 : CloneE Try.prog 136 := by
  intro a c w
  cases a with
  | none =>
    have q22 : ∀ (w : World) (n c n' c' : Nat), (binOp .eql 43 (.slice none n c) (.slice none n' c')).run Try.prog w = .ok (.bool true) w := fun w n c n' c' => Lib.run_eql_slice_nil w _ _ none n c n' c' Try.underlying43
    go_enter Try.func136, Try.ntmps136
    go_wp2
    go_ret
    exact .inl ⟨rfl, rfl⟩
  | some a =>
    have q22 : ∀ (w : World) (n c n' c' : Nat), (binOp .eql 43 (.slice (some a) n c) (.slice none n' c')).run Try.prog w = .ok (.bool false) w := fun w n c n' c' => Lib.run_eql_slice_nil w _ _ (some a) n c n' c' Try.underlying43
    go_enter Try.func136, Try.ntmps136
    go_wp2
    go_ret
    exact .inr ⟨_, rfl, rfl⟩
noncomputable def q136b : List Dt → Option (Bool × List Dt)
  | [.d (.sl .note) []] => some (true, [.d (.sl .note) []])
  | _ => none
noncomputable def q136 : List Dt → Option (Bool × List Dt)
  | [.d (.sl .note) a0] => some (Nat.ble a0.length LIM, [.d (.sl .note) a0])
  | _ => none
noncomputable def s136 : Gm.Spec := Gm.Spec.of [.ro] [false] true q136
theorem good136 : Gm.Good Try.prog (136, s136) := by
  refine ⟨⟨spec_clone (q := q136) (qb := q136b) good136a.1.1 (spec_cloneE (t := .note) clE136 fun ds outs h => ?_) fun ds outs h => ?_, _, Try.func136, by kernel_rfl, of_decide_eq_true (by kernel_rfl)⟩, Gm.Spec.of_natl _ _ _ _⟩
  · unfold q136b at h
    split at h
    · simp only [Option.some.injEq, Prod.mk.injEq, true_and] at h
      exact ⟨rfl, h.symm⟩
    · cases h
  · unfold q136 at h
    split at h
    · rename_i a0
      simp only [Option.some.injEq, Prod.mk.injEq] at h
      obtain ⟨hg, rfl⟩ := h
      cases a0 with
      | nil => exact .inr rfl
      | cons x r => refine .inl ?_; simp only [q136a, List.isEmpty_cons, Bool.not_false, Bool.true_and, hg]
    · cases h
noncomputable def f111c : Code := (Try.f111.body).getD .skip
def f111k : Nat → Kp := kat [⟨[1, 2], [], [], []⟩, ⟨[1, 2], [], [], []⟩, ⟨[1, 2], [], [], []⟩, ⟨[2], [], [], []⟩]
noncomputable def f111e : Env := tab.env []
theorem f111_run {R : Type} (n : Nat) (k : List Dt → Option R) (a0 : OrderT) : evFn f111e f111k n f111c [.ro] [false] true [.cell 2 45] [45] [.d .order a0] k =
    (cond (Nat.ble (0 + (OrderT.metrics a0).length) LIM)
  (cond (Nat.ble (0 + (OrderT.notes a0).length) LIM)
   (k [.d .order (⟨(OrderT.name a0), (OrderT.target a0), (OrderT.low a0), (OrderT.high a0), (([] : List MetricT) ++ (OrderT.metrics a0)), (OrderT.pace a0), (([] : List NoteT) ++ (OrderT.notes a0))⟩ : OrderT)])
   none)
  none) := by kernel_rfl
theorem f111_spec (a0 : OrderT) (hg : sm_order a0 = true) : ∃ keep rounds, ∀ {R : Type} (k : List Dt → Option R), evFn f111e keep rounds f111c [.ro] [false] true [.cell 2 45] [45] [.d .order a0] k = k [.d .order a0] := by
  simp only [sm_order, Bool.and_eq_true] at hg
  obtain ⟨_, _, _, _, hm, _, hno⟩ := hg
  have h1 := limLe (smL_len hm)
  have h2 := limLe (smL_len hno)
  refine ⟨f111k, 0, fun {R} k => ?_⟩
  rw [f111_run]
  simp only [Nat.zero_add, List.nil_append, h1, h2, cond_true]
noncomputable def q111 : List Dt → Option (Bool × List Dt)
  | [.d .order a0] => some ((sm_order a0), [.d .order a0])
  | _ => none
noncomputable def s111 : Gm.Spec := Gm.Spec.of [.ro] [false] true q111
theorem good111 : Gm.Good Try.prog (111, s111) := by
  have hl : ∀ x ∈ ([] : List (Nat × Gm.Spec)), Gm.Good Try.prog x := fun _ h => by cases h
  refine ⟨⟨spec_ok (tab_ok.env hl) (tab.natl hl) Try.func111 (by kernel_rfl : Try.f111.body = some f111c) [45] (by kernel_rfl) ?_, _, Try.func111, by kernel_rfl, of_decide_eq_true (by kernel_rfl)⟩, Gm.Spec.of_natl _ _ _ _⟩
  intro ds outs h
  unfold q111 at h
  split at h
  · simp only [Option.some.injEq, Prod.mk.injEq] at h; obtain ⟨hg, h⟩ := h; cases h; exact f111_spec _ hg
  · cases h
noncomputable def f104c : Code := (Try.f104.body).getD .skip
def f104k : Nat → Kp := kat [⟨[1, 2], [], [], []⟩, ⟨[1, 2], [], [], []⟩, ⟨[1, 2], [], [], []⟩, ⟨[2], [], [], []⟩]
noncomputable def f104e : Env := tab.env [(135, s135), (136, s136)]
theorem f104_run {R : Type} (n : Nat) (k : List Dt → Option R) (a0 : OrderT) : evFn f104e f104k n f104c [.ro] [false] true [.cell 2 45] [45] [.d .order a0] k =
    (cond ((fun (x : List MetricT) => Nat.ble x.length LIM) (OrderT.metrics a0))
  (cond ((fun (x : List NoteT) => Nat.ble x.length LIM) (OrderT.notes a0))
   (k [.d .order a0])
   none)
  none) := by kernel_rfl
theorem f104_spec (a0 : OrderT) (hg : sm_order a0 = true) : ∃ keep rounds, ∀ {R : Type} (k : List Dt → Option R), evFn f104e keep rounds f104c [.ro] [false] true [.cell 2 45] [45] [.d .order a0] k = k [.d .order a0] := by
  simp only [sm_order, Bool.and_eq_true] at hg
  obtain ⟨_, _, _, _, hm, _, hno⟩ := hg
  have h1 := limLe (smL_len hm)
  have h2 := limLe (smL_len hno)
  refine ⟨f104k, 0, fun {R} k => ?_⟩
  rw [f104_run]
  simp only [Nat.zero_add, List.nil_append, h1, h2, cond_true]
noncomputable def q104 : List Dt → Option (Bool × List Dt)
  | [.d .order a0] => some ((sm_order a0), [.d .order a0])
  | _ => none
noncomputable def s104 : Gm.Spec := Gm.Spec.of [.ro] [false] true q104
theorem good104 : Gm.Good Try.prog (104, s104) := by
  have hl : ∀ x ∈ [(135, s135), (136, s136)], Gm.Good Try.prog x := List.forall_mem_cons.2 ⟨good135, List.forall_mem_cons.2 ⟨good136, List.forall_mem_nil _⟩⟩
  refine ⟨⟨spec_ok (tab_ok.env hl) (tab.natl hl) Try.func104 (by kernel_rfl : Try.f104.body = some f104c) [45] (by kernel_rfl) ?_, _, Try.func104, by kernel_rfl, of_decide_eq_true (by kernel_rfl)⟩, Gm.Spec.of_natl _ _ _ _⟩
  intro ds outs h
  unfold q104 at h
  split at h
  · simp only [Option.some.injEq, Prod.mk.injEq] at h; obtain ⟨hg, h⟩ := h; cases h; exact f104_spec _ hg
  · cases h
noncomputable def f71c : Code := (Try.f71.body).getD .skip
def f71k : Nat → Kp := kat [⟨[1, 2], [], [], []⟩, ⟨[2], [], [], []⟩]
noncomputable def f71e : Env := tab.env [(111, s111)]
theorem f71_run {R : Type} (n : Nat) (k : List Dt → Option R) (a0 : ItemT) : evFn f71e f71k n f71c [.ro] [false] true [.cell 2 50] [50] [.d .item a0] k =
    (cond (sm_order (ItemT.order a0))
  (k [.d .item a0])
  none) := by kernel_rfl
theorem f71_spec (a0 : ItemT) (hg : sm_item a0 = true) : ∃ keep rounds, ∀ {R : Type} (k : List Dt → Option R), evFn f71e keep rounds f71c [.ro] [false] true [.cell 2 50] [50] [.d .item a0] k = k [.d .item a0] := by
  simp only [sm_item, Bool.and_eq_true] at hg
  refine ⟨f71k, 0, fun {R} k => ?_⟩
  rw [f71_run]
  simp only [eta_order2, eta_order, hg.1, cond_true]
noncomputable def q71 : List Dt → Option (Bool × List Dt)
  | [.d .item a0] => some ((sm_item a0), [.d .item a0])
  | _ => none
noncomputable def s71 : Gm.Spec := Gm.Spec.of [.ro] [false] true q71
theorem good71 : Gm.Good Try.prog (71, s71) := by
  have hl : ∀ x ∈ [(111, s111)], Gm.Good Try.prog x := List.forall_mem_cons.2 ⟨good111, List.forall_mem_nil _⟩
  refine ⟨⟨spec_ok (tab_ok.env hl) (tab.natl hl) Try.func71 (by kernel_rfl : Try.f71.body = some f71c) [50] (by kernel_rfl) ?_, _, Try.func71, by kernel_rfl, of_decide_eq_true (by kernel_rfl)⟩, Gm.Spec.of_natl _ _ _ _⟩
  intro ds outs h
  unfold q71 at h
  split at h
  · simp only [Option.some.injEq, Prod.mk.injEq] at h; obtain ⟨hg, h⟩ := h; cases h; exact f71_spec _ hg
  · cases h
noncomputable def f61c : Code := (Try.f61.body).getD .skip
def f61k : Nat → Kp := kat [⟨[1, 2], [], [], []⟩, ⟨[2], [], [], []⟩]
noncomputable def f61e : Env := tab.env [(104, s104)]
theorem f61_run {R : Type} (n : Nat) (k : List Dt → Option R) (a0 : ItemT) : evFn f61e f61k n f61c [.ro] [false] true [.cell 2 50] [50] [.d .item a0] k =
    (cond (sm_order (ItemT.order a0))
  (k [.d .item a0])
  none) := by kernel_rfl
theorem f61_spec (a0 : ItemT) (hg : sm_item a0 = true) : ∃ keep rounds, ∀ {R : Type} (k : List Dt → Option R), evFn f61e keep rounds f61c [.ro] [false] true [.cell 2 50] [50] [.d .item a0] k = k [.d .item a0] := by
  simp only [sm_item, Bool.and_eq_true] at hg
  refine ⟨f61k, 0, fun {R} k => ?_⟩
  rw [f61_run]
  simp only [eta_order2, eta_order, hg.1, cond_true]
noncomputable def q61 : List Dt → Option (Bool × List Dt)
  | [.d .item a0] => some ((sm_item a0), [.d .item a0])
  | _ => none
noncomputable def s61 : Gm.Spec := Gm.Spec.of [.ro] [false] true q61
theorem good61 : Gm.Good Try.prog (61, s61) := by
  have hl : ∀ x ∈ [(104, s104)], Gm.Good Try.prog x := List.forall_mem_cons.2 ⟨good104, List.forall_mem_nil _⟩
  refine ⟨⟨spec_ok (tab_ok.env hl) (tab.natl hl) Try.func61 (by kernel_rfl : Try.f61.body = some f61c) [50] (by kernel_rfl) ?_, _, Try.func61, by kernel_rfl, of_decide_eq_true (by kernel_rfl)⟩, Gm.Spec.of_natl _ _ _ _⟩
  intro ds outs h
  unfold q61 at h
  split at h
  · simp only [Option.some.injEq, Prod.mk.injEq] at h; obtain ⟨hg, h⟩ := h; cases h; exact f61_spec _ hg
  · cases h
noncomputable def f84S0 (y0 : List EventT) (y1 : Int) (y2 : List EventT) : St := ⟨[(0, .c (.one (.ro .event y0))), (3, .c (.one (.h 320 0 0 []))), (4, .c (.one (.v (.int .i64 y1))))], [], [(320, .live ⟨.event, .deep, 0, [], y2⟩)]⟩
noncomputable def f84S1 (y0 : List EventT) (y1 : Int) (y2 : Bool) (y3 : List EventT) : St := ⟨[(0, .c (.one (.ro .event y0))), (3, .c (.one (.h 320 0 0 []))), (4, .c (.one (.v (.int .i64 y1)))), (9, .c (.one (.v (.bool y2))))], [], [(320, .live ⟨.event, .deep, 0, [], y3⟩)]⟩
noncomputable def f84c : Code := (Try.f84.body).getD .skip
def f84k : Nat → Kp := kat [⟨[0], [], [], []⟩, ⟨[0, 3], [], [], []⟩, ⟨[0, 3, 4], [], [], []⟩, ⟨[0, 3, 4, 9], [], [], []⟩, ⟨[0, 3, 4], [], [], []⟩, ⟨[0, 3, 4], [], [], []⟩, ⟨[2], [], [], []⟩]
noncomputable def f84e : Env := tab.env [(71, s71)]
noncomputable def f84L0 {R : Type} (n : Nat) (x0 : Int → Bool → (List EventT) → Option R) (vs0 : List EventT) : Nat → Int → (List EventT) → Option R
  | 0, _, _ => none
  | m + 1, vs4, vr320 =>
    (cond (decide (vs4 < (vs0.length : Int)))
   (cond ((decide ((0 : Int) ≤ vs4)) && (decide (vs4 < (vs0.length : Int))))
    (cond ((decide ((0 : Int) ≤ vs4)) && (decide (vs4 < (vs0.length : Int))))
     (cond ((decide ((0 : Int) ≤ vs4)) && (decide (vs4 < (vs0.length : Int))))
      (cond (sm_item (EventT.item (atI (t := .event) vs0 (Int.toNat vs4))))
       (cond (Nat.ble (vr320.length + 1) LIM)
        (f84L0 n x0 vs0 m (IntKind.wrap .i64 (vs4 + (1 : Int))) (vr320 ++ ([(atI (t := .event) vs0 (Int.toNat vs4))] : List EventT)))
        none)
       none)
      none)
     none)
    none)
   (x0 vs4 (decide (vs4 < (vs0.length : Int))) vr320))
theorem f84L0_b {R : Type} (n : Nat) (k' : Ex → St → Option R) (vs0 : List EventT) (vs4 : Int) (vr320 : List EventT) : ev f84e f84k n (cAt [1,1,0,1,0,0] f84c) (f84S0 vs0 vs4 vr320) k' =
    (cond (decide (vs4 < (vs0.length : Int)))
  (cond ((decide ((0 : Int) ≤ vs4)) && (decide (vs4 < (vs0.length : Int))))
   (cond ((decide ((0 : Int) ≤ vs4)) && (decide (vs4 < (vs0.length : Int))))
    (cond ((decide ((0 : Int) ≤ vs4)) && (decide (vs4 < (vs0.length : Int))))
     (cond (sm_item (EventT.item (atI (t := .event) vs0 (Int.toNat vs4))))
      (cond (Nat.ble (vr320.length + 1) LIM)
       (k' .normal (f84S0 vs0 (IntKind.wrap .i64 (vs4 + (1 : Int))) (vr320 ++ ([(atI (t := .event) vs0 (Int.toNat vs4))] : List EventT))))
       none)
      none)
     none)
    none)
   none)
  (k' (.exit 0) (f84S1 vs0 vs4 (decide (vs4 < (vs0.length : Int))) vr320))) := by kernel_rfl
theorem f84L0_eq {R : Type} (n : Nat) (k' : Ex → St → Option R) (vs0 : List EventT) : ∀ (m : Nat) (vs4 : Int) (vr320 : List EventT), iter (fun st k => ev f84e f84k n (cAt [1,1,0,1,0,0] f84c) st k) m (f84S0 vs0 vs4 vr320) k' = f84L0 n (fun (xvs4 : Int) (xvs9 : Bool) (xvr320 : List EventT) => k' (.exit 0) (f84S1 vs0 xvs4 xvs9 xvr320)) vs0 m vs4 vr320 := by
  intro m; induction m with
  | zero => intros; rfl
  | succ m ih =>
    intro vs4 vr320
    simp only [iter]
    rw [f84L0_b]
    simp only [ih, f84L0]
noncomputable def f84K0 {R : Type} (n : Nat) (k' : Ex → St → Option R) : Ex → St → Option R := (blockK 0 (seqK f84e f84k n (cAt [1,1,1] f84c) k'))
theorem f84K0_x0 {R : Type} (n : Nat) (k : List Dt → Option R) (a0 : List EventT) (vs0 : List EventT) (xvs4 : Int) (xvs9 : Bool) (xvr320 : List EventT) : f84K0 n (exitK f84e [.ro] [false] true [.tmp 2] [27] [.d (.sl .event) a0] k) (.exit 0) (f84S1 vs0 xvs4 xvs9 xvr320) =
    (k [.d (.sl .event) xvr320]) := by kernel_rfl
theorem f84_run {R : Type} (n : Nat) (k : List Dt → Option R) (a0 : List EventT) : evFn f84e f84k n f84c [.ro] [false] true [.tmp 2] [27] [.d (.sl .event) a0] k =
    (f84L0 n (fun (xvs4 : Int) (xvs9 : Bool) (xvr320 : List EventT) =>
  (k [.d (.sl .event) xvr320])) a0 n (0 : Int) ([] : List EventT)) := by
  refine Eq.trans (b := (iter (fun st k => ev f84e f84k n (cAt [1,1,0,1,0,0] f84c) st k) n (f84S0 a0 (0 : Int) ([] : List EventT)) (f84K0 n (exitK f84e [.ro] [false] true [.tmp 2] [27] [.d (.sl .event) a0] k)))) (by kernel_rfl) ?_
  simp only [f84L0_eq, f84K0_x0]
theorem f84_spec (a0 : List EventT) (hg : smL sm_event a0 = true) : ∃ keep rounds, ∀ {R : Type} (k : List Dt → Option R), evFn f84e keep rounds f84c [.ro] [false] true [.tmp 2] [27] [.d (.sl .event) a0] k = k [.d (.sl .event) a0] := by
  have hl := smL_len hg
  refine ⟨f84k, a0.length + 1, fun {R} k => ?_⟩
  rw [f84_run]
  refine Eq.trans (loop_acc (xs := a0) (F := fun m j out => f84L0 (a0.length + 1) _ a0 m (j : Int) out) (f := fun out x => out ++ [x]) (good := fun out => k [.d (.sl .event) out]) (fun j out => out.length ≤ j)
    (fun j out x hx hi => by simp only [List.length_append, List.length_cons, List.length_nil]; omega) (fun m j out x hx hi => ?_) (fun m out hi => by simp only [f84L0, idxE, cond_false]) a0.length 0 (a0.length + 1) [] (by omega) (by omega) (by simp)) ?_
  · obtain ⟨h1, h0, hw, ht⟩ := idx (lt_of_get hx) (by omega)
    have hj := lt_of_get hx
    have hs := List.all_eq_true.1 (smL_all hg) x (List.mem_of_getElem? hx)
    have hlim : Nat.ble (out.length + 1) LIM = true := Nat.ble_eq_true_of_le (by have : (LIM : Nat) = 4294967296 := rfl; omega)
    simp only [f84L0, h1, h0, hw, ht, atI_of (t := .event) hx, Bool.and_self, cond_true, hlim, same, eta_order2, eta_order, eta_item, eta_event, (show sm_item x.item = true by simp only [sm_event, Bool.and_eq_true] at hs; exact hs.2.2)]
  · rw [List.drop_zero, foldl_snoc, List.nil_append]
noncomputable def q84 : List Dt → Option (Bool × List Dt)
  | [.d (.sl .event) a0] => some ((smL sm_event a0), [.d (.sl .event) a0])
  | _ => none
noncomputable def s84 : Gm.Spec := Gm.Spec.of [.ro] [false] true q84
theorem good84 : Gm.Good Try.prog (84, s84) := by
  have hl : ∀ x ∈ [(71, s71)], Gm.Good Try.prog x := List.forall_mem_cons.2 ⟨good71, List.forall_mem_nil _⟩
  refine ⟨⟨spec_ok (tab_ok.env hl) (tab.natl hl) Try.func84 (by kernel_rfl : Try.f84.body = some f84c) [27] (by kernel_rfl) ?_, _, Try.func84, by kernel_rfl, of_decide_eq_true (by kernel_rfl)⟩, Gm.Spec.of_natl _ _ _ _⟩
  intro ds outs h
  unfold q84 at h
  split at h
  · simp only [Option.some.injEq, Prod.mk.injEq] at h; obtain ⟨hg, h⟩ := h; cases h; exact f84_spec _ hg
  · cases h
noncomputable def f67S0 (y0 : List EventT) (y1 : Int) (y2 : Int) (y3 : List EventT) : St := ⟨[(3, .c (.one (.h 384 0 0 []))), (7, .c (.one (.ro .event y0))), (8, .c (.one (.v (.int .i64 y1)))), (9, .c (.one (.v (.int .i64 y2))))], [], [(384, .live ⟨.event, .deep, 0, [], y3⟩)]⟩
noncomputable def f67S1 (y0 : List EventT) (y1 : Int) (y2 : Int) (y3 : Bool) (y4 : List EventT) : St := ⟨[(3, .c (.one (.h 384 0 0 []))), (7, .c (.one (.ro .event y0))), (8, .c (.one (.v (.int .i64 y1)))), (9, .c (.one (.v (.int .i64 y2)))), (10, .c (.one (.v (.bool y3))))], [], [(384, .live ⟨.event, .deep, 0, [], y4⟩)]⟩
noncomputable def f67c : Code := (Try.f67.body).getD .skip
def f67k : Nat → Kp := kat [⟨[0], [], [], []⟩, ⟨[0, 3], [], [], []⟩, ⟨[3, 7, 8, 9], [], [], []⟩, ⟨[3, 7, 8, 9, 10], [], [], []⟩, ⟨[3, 5, 7, 8, 9], [], [], []⟩, ⟨[3, 7, 8, 9], [], [], []⟩, ⟨[3, 7, 8, 9], [], [], []⟩, ⟨[2], [], [], []⟩]
noncomputable def f67e : Env := tab.env [(61, s61)]
noncomputable def f67L0 {R : Type} (n : Nat) (x0 : Int → Bool → (List EventT) → Option R) (vs7 : List EventT) (vs8 : Int) : Nat → Int → (List EventT) → Option R
  | 0, _, _ => none
  | m + 1, vs9, vr384 =>
    (cond (decide (vs9 < vs8))
   (cond ((decide ((0 : Int) ≤ vs9)) && (decide (vs9 < (vs7.length : Int))))
    (cond (sm_item (EventT.item (atI (t := .event) vs7 (Int.toNat vs9))))
     (cond (Nat.ble (vr384.length + 1) LIM)
      (f67L0 n x0 vs7 vs8 m (IntKind.wrap .i64 (vs9 + (1 : Int))) (vr384 ++ ([(atI (t := .event) vs7 (Int.toNat vs9))] : List EventT)))
      none)
     none)
    none)
   (x0 vs9 (decide (vs9 < vs8)) vr384))
theorem f67L0_b {R : Type} (n : Nat) (k' : Ex → St → Option R) (vs7 : List EventT) (vs8 : Int) (vs9 : Int) (vr384 : List EventT) : ev f67e f67k n (cAt [1,1,0,1,0,0] f67c) (f67S0 vs7 vs8 vs9 vr384) k' =
    (cond (decide (vs9 < vs8))
  (cond ((decide ((0 : Int) ≤ vs9)) && (decide (vs9 < (vs7.length : Int))))
   (cond (sm_item (EventT.item (atI (t := .event) vs7 (Int.toNat vs9))))
    (cond (Nat.ble (vr384.length + 1) LIM)
     (k' .normal (f67S0 vs7 vs8 (IntKind.wrap .i64 (vs9 + (1 : Int))) (vr384 ++ ([(atI (t := .event) vs7 (Int.toNat vs9))] : List EventT))))
     none)
    none)
   none)
  (k' (.exit 0) (f67S1 vs7 vs8 vs9 (decide (vs9 < vs8)) vr384))) := by kernel_rfl
theorem f67L0_eq {R : Type} (n : Nat) (k' : Ex → St → Option R) (vs7 : List EventT) (vs8 : Int) : ∀ (m : Nat) (vs9 : Int) (vr384 : List EventT), iter (fun st k => ev f67e f67k n (cAt [1,1,0,1,0,0] f67c) st k) m (f67S0 vs7 vs8 vs9 vr384) k' = f67L0 n (fun (xvs9 : Int) (xvs10 : Bool) (xvr384 : List EventT) => k' (.exit 0) (f67S1 vs7 vs8 xvs9 xvs10 xvr384)) vs7 vs8 m vs9 vr384 := by
  intro m; induction m with
  | zero => intros; rfl
  | succ m ih =>
    intro vs9 vr384
    simp only [iter]
    rw [f67L0_b]
    simp only [ih, f67L0]
noncomputable def f67K0 {R : Type} (n : Nat) (k' : Ex → St → Option R) : Ex → St → Option R := (blockK 0 (seqK f67e f67k n (cAt [1,1,1] f67c) k'))
theorem f67K0_x0 {R : Type} (n : Nat) (k : List Dt → Option R) (a0 : List EventT) (vs7 : List EventT) (vs8 : Int) (xvs9 : Int) (xvs10 : Bool) (xvr384 : List EventT) : f67K0 n (exitK f67e [.ro] [false] true [.tmp 2] [27] [.d (.sl .event) a0] k) (.exit 0) (f67S1 vs7 vs8 xvs9 xvs10 xvr384) =
    (k [.d (.sl .event) xvr384]) := by kernel_rfl
theorem f67_run {R : Type} (n : Nat) (k : List Dt → Option R) (a0 : List EventT) : evFn f67e f67k n f67c [.ro] [false] true [.tmp 2] [27] [.d (.sl .event) a0] k =
    (f67L0 n (fun (xvs9 : Int) (xvs10 : Bool) (xvr384 : List EventT) =>
  (k [.d (.sl .event) xvr384])) a0 (a0.length : Int) n (0 : Int) ([] : List EventT)) := by
  refine Eq.trans (b := (iter (fun st k => ev f67e f67k n (cAt [1,1,0,1,0,0] f67c) st k) n (f67S0 a0 (a0.length : Int) (0 : Int) ([] : List EventT)) (f67K0 n (exitK f67e [.ro] [false] true [.tmp 2] [27] [.d (.sl .event) a0] k)))) (by kernel_rfl) ?_
  simp only [f67L0_eq, f67K0_x0]
theorem f67_spec (a0 : List EventT) (hg : smL sm_event a0 = true) : ∃ keep rounds, ∀ {R : Type} (k : List Dt → Option R), evFn f67e keep rounds f67c [.ro] [false] true [.tmp 2] [27] [.d (.sl .event) a0] k = k [.d (.sl .event) a0] := by
  have hl := smL_len hg
  refine ⟨f67k, a0.length + 1, fun {R} k => ?_⟩
  rw [f67_run]
  refine Eq.trans (loop_acc (xs := a0) (F := fun m j out => f67L0 (a0.length + 1) _ a0 (a0.length : Int) m (j : Int) out) (f := fun out x => out ++ [x]) (good := fun out => k [.d (.sl .event) out]) (fun j out => out.length ≤ j)
    (fun j out x hx hi => by simp only [List.length_append, List.length_cons, List.length_nil]; omega) (fun m j out x hx hi => ?_) (fun m out hi => by simp only [f67L0, idxE, cond_false]) a0.length 0 (a0.length + 1) [] (by omega) (by omega) (by simp)) ?_
  · obtain ⟨h1, h0, hw, ht⟩ := idx (lt_of_get hx) (by omega)
    have hj := lt_of_get hx
    have hs := List.all_eq_true.1 (smL_all hg) x (List.mem_of_getElem? hx)
    have hlim : Nat.ble (out.length + 1) LIM = true := Nat.ble_eq_true_of_le (by have : (LIM : Nat) = 4294967296 := rfl; omega)
    simp only [f67L0, h1, h0, hw, ht, atI_of (t := .event) hx, Bool.and_self, cond_true, hlim, same, eta_order2, eta_order, eta_item, eta_event, (show sm_item x.item = true by simp only [sm_event, Bool.and_eq_true] at hs; exact hs.2.2)]
  · rw [List.drop_zero, foldl_snoc, List.nil_append]
noncomputable def q67 : List Dt → Option (Bool × List Dt)
  | [.d (.sl .event) a0] => some ((smL sm_event a0), [.d (.sl .event) a0])
  | _ => none
noncomputable def s67 : Gm.Spec := Gm.Spec.of [.ro] [false] true q67
theorem good67 : Gm.Good Try.prog (67, s67) := by
  have hl : ∀ x ∈ [(61, s61)], Gm.Good Try.prog x := List.forall_mem_cons.2 ⟨good61, List.forall_mem_nil _⟩
  refine ⟨⟨spec_ok (tab_ok.env hl) (tab.natl hl) Try.func67 (by kernel_rfl : Try.f67.body = some f67c) [27] (by kernel_rfl) ?_, _, Try.func67, by kernel_rfl, of_decide_eq_true (by kernel_rfl)⟩, Gm.Spec.of_natl _ _ _ _⟩
  intro ds outs h
  unfold q67 at h
  split at h
  · simp only [Option.some.injEq, Prod.mk.injEq] at h; obtain ⟨hg, h⟩ := h; cases h; exact f67_spec _ hg
  · cases h
noncomputable def f69S0 (y0 : List ItemT) (y1 : Int) (y2 : Int) (y3 : List ItemT) : St := ⟨[(3, .c (.one (.h 384 0 0 []))), (7, .c (.one (.ro .item y0))), (8, .c (.one (.v (.int .i64 y1)))), (9, .c (.one (.v (.int .i64 y2))))], [], [(384, .live ⟨.item, .deep, 0, [], y3⟩)]⟩
noncomputable def f69S1 (y0 : List ItemT) (y1 : Int) (y2 : Int) (y3 : Bool) (y4 : List ItemT) : St := ⟨[(3, .c (.one (.h 384 0 0 []))), (7, .c (.one (.ro .item y0))), (8, .c (.one (.v (.int .i64 y1)))), (9, .c (.one (.v (.int .i64 y2)))), (10, .c (.one (.v (.bool y3))))], [], [(384, .live ⟨.item, .deep, 0, [], y4⟩)]⟩
noncomputable def f69c : Code := (Try.f69.body).getD .skip
def f69k : Nat → Kp := kat [⟨[0], [], [], []⟩, ⟨[0, 3], [], [], []⟩, ⟨[3, 7, 8, 9], [], [], []⟩, ⟨[3, 7, 8, 9, 10], [], [], []⟩, ⟨[3, 5, 7, 8, 9], [], [], []⟩, ⟨[3, 7, 8, 9], [], [], []⟩, ⟨[3, 7, 8, 9], [], [], []⟩, ⟨[2], [], [], []⟩]
noncomputable def f69e : Env := tab.env [(61, s61)]
noncomputable def f69L0 {R : Type} (n : Nat) (x0 : Int → Bool → (List ItemT) → Option R) (vs7 : List ItemT) (vs8 : Int) : Nat → Int → (List ItemT) → Option R
  | 0, _, _ => none
  | m + 1, vs9, vr384 =>
    (cond (decide (vs9 < vs8))
   (cond ((decide ((0 : Int) ≤ vs9)) && (decide (vs9 < (vs7.length : Int))))
    (cond (sm_item (atI (t := .item) vs7 (Int.toNat vs9)))
     (cond (Nat.ble (vr384.length + 1) LIM)
      (f69L0 n x0 vs7 vs8 m (IntKind.wrap .i64 (vs9 + (1 : Int))) (vr384 ++ ([(atI (t := .item) vs7 (Int.toNat vs9))] : List ItemT)))
      none)
     none)
    none)
   (x0 vs9 (decide (vs9 < vs8)) vr384))
theorem f69L0_b {R : Type} (n : Nat) (k' : Ex → St → Option R) (vs7 : List ItemT) (vs8 : Int) (vs9 : Int) (vr384 : List ItemT) : ev f69e f69k n (cAt [1,1,0,1,0,0] f69c) (f69S0 vs7 vs8 vs9 vr384) k' =
    (cond (decide (vs9 < vs8))
  (cond ((decide ((0 : Int) ≤ vs9)) && (decide (vs9 < (vs7.length : Int))))
   (cond (sm_item (atI (t := .item) vs7 (Int.toNat vs9)))
    (cond (Nat.ble (vr384.length + 1) LIM)
     (k' .normal (f69S0 vs7 vs8 (IntKind.wrap .i64 (vs9 + (1 : Int))) (vr384 ++ ([(atI (t := .item) vs7 (Int.toNat vs9))] : List ItemT))))
     none)
    none)
   none)
  (k' (.exit 0) (f69S1 vs7 vs8 vs9 (decide (vs9 < vs8)) vr384))) := by kernel_rfl
theorem f69L0_eq {R : Type} (n : Nat) (k' : Ex → St → Option R) (vs7 : List ItemT) (vs8 : Int) : ∀ (m : Nat) (vs9 : Int) (vr384 : List ItemT), iter (fun st k => ev f69e f69k n (cAt [1,1,0,1,0,0] f69c) st k) m (f69S0 vs7 vs8 vs9 vr384) k' = f69L0 n (fun (xvs9 : Int) (xvs10 : Bool) (xvr384 : List ItemT) => k' (.exit 0) (f69S1 vs7 vs8 xvs9 xvs10 xvr384)) vs7 vs8 m vs9 vr384 := by
  intro m; induction m with
  | zero => intros; rfl
  | succ m ih =>
    intro vs9 vr384
    simp only [iter]
    rw [f69L0_b]
    simp only [ih, f69L0]
noncomputable def f69K0 {R : Type} (n : Nat) (k' : Ex → St → Option R) : Ex → St → Option R := (blockK 0 (seqK f69e f69k n (cAt [1,1,1] f69c) k'))
theorem f69K0_x0 {R : Type} (n : Nat) (k : List Dt → Option R) (a0 : List ItemT) (vs7 : List ItemT) (vs8 : Int) (xvs9 : Int) (xvs10 : Bool) (xvr384 : List ItemT) : f69K0 n (exitK f69e [.ro] [false] true [.tmp 2] [35] [.d (.sl .item) a0] k) (.exit 0) (f69S1 vs7 vs8 xvs9 xvs10 xvr384) =
    (k [.d (.sl .item) xvr384]) := by kernel_rfl
theorem f69_run {R : Type} (n : Nat) (k : List Dt → Option R) (a0 : List ItemT) : evFn f69e f69k n f69c [.ro] [false] true [.tmp 2] [35] [.d (.sl .item) a0] k =
    (f69L0 n (fun (xvs9 : Int) (xvs10 : Bool) (xvr384 : List ItemT) =>
  (k [.d (.sl .item) xvr384])) a0 (a0.length : Int) n (0 : Int) ([] : List ItemT)) := by
  refine Eq.trans (b := (iter (fun st k => ev f69e f69k n (cAt [1,1,0,1,0,0] f69c) st k) n (f69S0 a0 (a0.length : Int) (0 : Int) ([] : List ItemT)) (f69K0 n (exitK f69e [.ro] [false] true [.tmp 2] [35] [.d (.sl .item) a0] k)))) (by kernel_rfl) ?_
  simp only [f69L0_eq, f69K0_x0]
theorem f69_spec (a0 : List ItemT) (hg : smL sm_item a0 = true) : ∃ keep rounds, ∀ {R : Type} (k : List Dt → Option R), evFn f69e keep rounds f69c [.ro] [false] true [.tmp 2] [35] [.d (.sl .item) a0] k = k [.d (.sl .item) a0] := by
  have hl := smL_len hg
  refine ⟨f69k, a0.length + 1, fun {R} k => ?_⟩
  rw [f69_run]
  refine Eq.trans (loop_acc (xs := a0) (F := fun m j out => f69L0 (a0.length + 1) _ a0 (a0.length : Int) m (j : Int) out) (f := fun out x => out ++ [x]) (good := fun out => k [.d (.sl .item) out]) (fun j out => out.length ≤ j)
    (fun j out x hx hi => by simp only [List.length_append, List.length_cons, List.length_nil]; omega) (fun m j out x hx hi => ?_) (fun m out hi => by simp only [f69L0, idxE, cond_false]) a0.length 0 (a0.length + 1) [] (by omega) (by omega) (by simp)) ?_
  · obtain ⟨h1, h0, hw, ht⟩ := idx (lt_of_get hx) (by omega)
    have hj := lt_of_get hx
    have hs := List.all_eq_true.1 (smL_all hg) x (List.mem_of_getElem? hx)
    have hlim : Nat.ble (out.length + 1) LIM = true := Nat.ble_eq_true_of_le (by have : (LIM : Nat) = 4294967296 := rfl; omega)
    simp only [f69L0, h1, h0, hw, ht, atI_of (t := .item) hx, Bool.and_self, cond_true, hlim, same, eta_order2, eta_order, eta_item, eta_event, hs]
  · rw [List.drop_zero, foldl_snoc, List.nil_append]
noncomputable def q69 : List Dt → Option (Bool × List Dt)
  | [.d (.sl .item) a0] => some ((smL sm_item a0), [.d (.sl .item) a0])
  | _ => none
noncomputable def s69 : Gm.Spec := Gm.Spec.of [.ro] [false] true q69
theorem good69 : Gm.Good Try.prog (69, s69) := by
  have hl : ∀ x ∈ [(61, s61)], Gm.Good Try.prog x := List.forall_mem_cons.2 ⟨good61, List.forall_mem_nil _⟩
  refine ⟨⟨spec_ok (tab_ok.env hl) (tab.natl hl) Try.func69 (by kernel_rfl : Try.f69.body = some f69c) [35] (by kernel_rfl) ?_, _, Try.func69, by kernel_rfl, of_decide_eq_true (by kernel_rfl)⟩, Gm.Spec.of_natl _ _ _ _⟩
  intro ds outs h
  unfold q69 at h
  split at h
  · simp only [Option.some.injEq, Prod.mk.injEq] at h; obtain ⟨hg, h⟩ := h; cases h; exact f69_spec _ hg
  · cases h
noncomputable def f65c : Code := (Try.f65.body).getD .skip
def f65k : Nat → Kp := kat [⟨[1, 2], [], [], []⟩, ⟨[2], [], [], []⟩]
noncomputable def f65e : Env := tab.env [(67, s67)]
theorem f65_run {R : Type} (n : Nat) (k : List Dt → Option R) (a0 : HistT) : evFn f65e f65k n f65c [.ro] [false] true [.cell 2 29] [29] [.d .hist a0] k =
    (cond (smL sm_event (HistT.list a0))
  (k [.d .hist a0])
  none) := by kernel_rfl
theorem f65_spec (a0 : HistT) (hg : sm_hist a0 = true) : ∃ keep rounds, ∀ {R : Type} (k : List Dt → Option R), evFn f65e keep rounds f65c [.ro] [false] true [.cell 2 29] [29] [.d .hist a0] k = k [.d .hist a0] := by
  simp only [sm_hist, Bool.and_eq_true] at hg
  refine ⟨f65k, 0, fun {R} k => ?_⟩
  rw [f65_run]
  simp only [hg.2, cond_true]
noncomputable def q65 : List Dt → Option (Bool × List Dt)
  | [.d .hist a0] => some ((sm_hist a0), [.d .hist a0])
  | _ => none
noncomputable def s65 : Gm.Spec := Gm.Spec.of [.ro] [false] true q65
theorem good65 : Gm.Good Try.prog (65, s65) := by
  have hl : ∀ x ∈ [(67, s67)], Gm.Good Try.prog x := List.forall_mem_cons.2 ⟨good67, List.forall_mem_nil _⟩
  refine ⟨⟨spec_ok (tab_ok.env hl) (tab.natl hl) Try.func65 (by kernel_rfl : Try.f65.body = some f65c) [29] (by kernel_rfl) ?_, _, Try.func65, by kernel_rfl, of_decide_eq_true (by kernel_rfl)⟩, Gm.Spec.of_natl _ _ _ _⟩
  intro ds outs h
  unfold q65 at h
  split at h
  · simp only [Option.some.injEq, Prod.mk.injEq] at h; obtain ⟨hg, h⟩ := h; cases h; exact f65_spec _ hg
  · cases h
noncomputable def f86c : Code := (Try.f86.body).getD .skip
def f86k : Nat → Kp := kat [⟨[1, 2], [], [], []⟩, ⟨[2], [], [], []⟩]
noncomputable def f86e : Env := tab.env [(84, s84)]
theorem f86_run {R : Type} (n : Nat) (k : List Dt → Option R) (a0 : HistT) : evFn f86e f86k n f86c [.ro] [false] true [.cell 2 29] [29] [.d .hist a0] k =
    (cond (smL sm_event (HistT.list a0))
  (k [.d .hist a0])
  none) := by kernel_rfl
theorem f86_spec (a0 : HistT) (hg : sm_hist a0 = true) : ∃ keep rounds, ∀ {R : Type} (k : List Dt → Option R), evFn f86e keep rounds f86c [.ro] [false] true [.cell 2 29] [29] [.d .hist a0] k = k [.d .hist a0] := by
  simp only [sm_hist, Bool.and_eq_true] at hg
  refine ⟨f86k, 0, fun {R} k => ?_⟩
  rw [f86_run]
  simp only [hg.2, cond_true]
noncomputable def q86 : List Dt → Option (Bool × List Dt)
  | [.d .hist a0] => some ((sm_hist a0), [.d .hist a0])
  | _ => none
noncomputable def s86 : Gm.Spec := Gm.Spec.of [.ro] [false] true q86
theorem good86 : Gm.Good Try.prog (86, s86) := by
  have hl : ∀ x ∈ [(84, s84)], Gm.Good Try.prog x := List.forall_mem_cons.2 ⟨good84, List.forall_mem_nil _⟩
  refine ⟨⟨spec_ok (tab_ok.env hl) (tab.natl hl) Try.func86 (by kernel_rfl : Try.f86.body = some f86c) [29] (by kernel_rfl) ?_, _, Try.func86, by kernel_rfl, of_decide_eq_true (by kernel_rfl)⟩, Gm.Spec.of_natl _ _ _ _⟩
  intro ds outs h
  unfold q86 at h
  split at h
  · simp only [Option.some.injEq, Prod.mk.injEq] at h; obtain ⟨hg, h⟩ := h; cases h; exact f86_spec _ hg
  · cases h
end Go.Proofs.Ytnbehmbjoanfoaa

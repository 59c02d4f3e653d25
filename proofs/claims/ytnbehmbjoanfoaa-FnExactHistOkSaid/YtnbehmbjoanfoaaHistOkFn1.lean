/- What the functions compute, part 1. No conditions. -/
import Derived.Test.YtnbehmbjoanfoaaGm4
import Derived.Test.YtnbehmbjoanfoaaRows
import Derived.Lib.Strings
import Derived.Lib.Slices
import Derived.Lib.Walk
import Derived.Lib.Bytealg
/- The table of types of the program, and that it is the program's. Printed by gev.py of this session. -/
namespace Go.Proofs.Ytnbehmbjoanfoaa
open Go Go.Gm
def tab : Tab := { code := [(2, (.i .i64)), (3, (.i .i64)), (4, .bool), (5, (.i .u8)), (6, (.i .u8)), (9, .str), (10, .str), (11, .str), (12, (.i .u64)), (21, (.i .i32)), (22, (.sl .event)), (24, .hist), (27, (.sl .event)), (29, .hist), (33, (.sl (.i .u8))), (35, (.sl .item)), (37, .store), (39, (.sl (.sl .item))), (40, (.sl .metric)), (42, .pace), (43, (.sl .note)), (45, .order), (48, (.sl .str)), (50, .item), (61, (.sl .item)), (80, (.sl .metric)), (81, .pace), (82, (.sl .note)), (84, .order), (86, .item), (94, .event), (111, .event), (122, (.sl (.i .i64))), (132, .metric), (137, .note), (139, .cur), (163, (.i .u64)), (165, .metric), (167, .note), (183, (.i .u32)), (184, (.i .u8)), (185, (.i .u8)), (188, (.i .i32)), (189, (.i .i32))], eqs := [], fld := [(24, [(0, 3), (1, 22)]), (29, [(0, 3), (1, 27)]), (37, [(0, 35), (1, 3)]), (42, [(0, 3), (1, 3), (2, 3), (3, 3)]), (45, [(0, 9), (1, 9), (2, 3), (3, 3), (4, 40), (5, 42), (9, 43)]), (50, [(0, 45), (10, 3)]), (81, [(0, 3), (1, 3), (2, 3), (3, 3)]), (84, [(0, 9), (1, 9), (2, 3), (3, 3), (4, 80), (5, 81), (9, 82)]), (86, [(0, 84), (10, 3)]), (94, [(0, 3), (1, 3), (2, 50)]), (111, [(0, 3), (1, 3), (2, 86)]), (132, [(0, 9), (1, 3), (2, 3)]), (137, [(0, 9), (1, 9)]), (139, [(0, 33), (1, 3), (2, 3)]), (165, [(0, 9), (1, 3), (2, 3)]), (167, [(0, 9), (1, 9)])] }
theorem und2 : UndOk (tab.env []) Try.prog 2 (.i .i64) := (by kernel_rfl : Try.prog.underlying 2 = some (.int .i64))
theorem und3 : UndOk (tab.env []) Try.prog 3 (.i .i64) := (by kernel_rfl : Try.prog.underlying 3 = some (.int .i64))
theorem und4 : UndOk (tab.env []) Try.prog 4 .bool := (by kernel_rfl : Try.prog.underlying 4 = some .bool)
theorem und5 : UndOk (tab.env []) Try.prog 5 (.i .u8) := (by kernel_rfl : Try.prog.underlying 5 = some (.int .u8))
theorem und6 : UndOk (tab.env []) Try.prog 6 (.i .u8) := (by kernel_rfl : Try.prog.underlying 6 = some (.int .u8))
theorem und9 : UndOk (tab.env []) Try.prog 9 .str := (by kernel_rfl : Try.prog.underlying 9 = some .string)
theorem und10 : UndOk (tab.env []) Try.prog 10 .str := (by kernel_rfl : Try.prog.underlying 10 = some .string)
theorem und11 : UndOk (tab.env []) Try.prog 11 .str := (by kernel_rfl : Try.prog.underlying 11 = some .string)
theorem und12 : UndOk (tab.env []) Try.prog 12 (.i .u64) := (by kernel_rfl : Try.prog.underlying 12 = some (.int .u64))
theorem und21 : UndOk (tab.env []) Try.prog 21 (.i .i32) := (by kernel_rfl : Try.prog.underlying 21 = some (.int .i32))
theorem und22 : UndOk (tab.env []) Try.prog 22 (.sl .event) := ⟨111, by kernel_rfl, by kernel_rfl⟩
theorem und24 : UndOk (tab.env []) Try.prog 24 .hist := ⟨_, Try.underlying24⟩
theorem und27 : UndOk (tab.env []) Try.prog 27 (.sl .event) := ⟨94, by kernel_rfl, by kernel_rfl⟩
theorem und29 : UndOk (tab.env []) Try.prog 29 .hist := ⟨_, Try.underlying29⟩
theorem und33 : UndOk (tab.env []) Try.prog 33 (.sl (.i .u8)) := ⟨5, by kernel_rfl, by kernel_rfl⟩
theorem und35 : UndOk (tab.env []) Try.prog 35 (.sl .item) := ⟨50, by kernel_rfl, by kernel_rfl⟩
theorem und37 : UndOk (tab.env []) Try.prog 37 .store := ⟨_, Try.underlying37⟩
theorem und39 : UndOk (tab.env []) Try.prog 39 (.sl (.sl .item)) := ⟨35, by kernel_rfl, by kernel_rfl⟩
theorem und40 : UndOk (tab.env []) Try.prog 40 (.sl .metric) := ⟨132, by kernel_rfl, by kernel_rfl⟩
theorem und42 : UndOk (tab.env []) Try.prog 42 .pace := ⟨_, Try.underlying42⟩
theorem und43 : UndOk (tab.env []) Try.prog 43 (.sl .note) := ⟨137, by kernel_rfl, by kernel_rfl⟩
theorem und45 : UndOk (tab.env []) Try.prog 45 .order := ⟨_, Try.underlying45⟩
theorem und48 : UndOk (tab.env []) Try.prog 48 (.sl .str) := ⟨9, by kernel_rfl, by kernel_rfl⟩
theorem und50 : UndOk (tab.env []) Try.prog 50 .item := ⟨_, Try.underlying50⟩
theorem und61 : UndOk (tab.env []) Try.prog 61 (.sl .item) := ⟨86, by kernel_rfl, by kernel_rfl⟩
theorem und80 : UndOk (tab.env []) Try.prog 80 (.sl .metric) := ⟨165, by kernel_rfl, by kernel_rfl⟩
theorem und81 : UndOk (tab.env []) Try.prog 81 .pace := ⟨_, Try.underlying81⟩
theorem und82 : UndOk (tab.env []) Try.prog 82 (.sl .note) := ⟨167, by kernel_rfl, by kernel_rfl⟩
theorem und84 : UndOk (tab.env []) Try.prog 84 .order := ⟨_, Try.underlying84⟩
theorem und86 : UndOk (tab.env []) Try.prog 86 .item := ⟨_, Try.underlying86⟩
theorem und94 : UndOk (tab.env []) Try.prog 94 .event := ⟨_, Try.underlying94⟩
theorem und111 : UndOk (tab.env []) Try.prog 111 .event := ⟨_, Try.underlying111⟩
theorem und122 : UndOk (tab.env []) Try.prog 122 (.sl (.i .i64)) := ⟨3, by kernel_rfl, by kernel_rfl⟩
theorem und132 : UndOk (tab.env []) Try.prog 132 .metric := ⟨_, Try.underlying132⟩
theorem und137 : UndOk (tab.env []) Try.prog 137 .note := ⟨_, Try.underlying137⟩
theorem und139 : UndOk (tab.env []) Try.prog 139 .cur := ⟨_, Try.underlying139⟩
theorem und163 : UndOk (tab.env []) Try.prog 163 (.i .u64) := (by kernel_rfl : Try.prog.underlying 163 = some (.int .u64))
theorem und165 : UndOk (tab.env []) Try.prog 165 .metric := ⟨_, Try.underlying165⟩
theorem und167 : UndOk (tab.env []) Try.prog 167 .note := ⟨_, Try.underlying167⟩
theorem und183 : UndOk (tab.env []) Try.prog 183 (.i .u32) := (by kernel_rfl : Try.prog.underlying 183 = some (.int .u32))
theorem und184 : UndOk (tab.env []) Try.prog 184 (.i .u8) := (by kernel_rfl : Try.prog.underlying 184 = some (.int .u8))
theorem und185 : UndOk (tab.env []) Try.prog 185 (.i .u8) := (by kernel_rfl : Try.prog.underlying 185 = some (.int .u8))
theorem und188 : UndOk (tab.env []) Try.prog 188 (.i .i32) := (by kernel_rfl : Try.prog.underlying 188 = some (.int .i32))
theorem und189 : UndOk (tab.env []) Try.prog 189 (.i .i32) := (by kernel_rfl : Try.prog.underlying 189 = some (.int .i32))
theorem fld24 : ∃ fs : Array Field, Try.prog.underlying 24 = some (.struct fs) ∧ [(0, 3), (1, 22)] = fs.toList.map (fun f => (f.offset, f.type)) ∧ (∀ y ∈ ([(0, 3), (1, 22)] : List (Nat × Nat)), (aget tab.code y.2).isSome) ∧ (fs.toList.mapM (fun f => (Try.prog.info? f.type).map fun i => (f.offset, i.size))).isSome :=
  ⟨_, Try.underlying24, by kernel_rfl, List.all_eq_true.1 (by kernel_rfl), by kernel_rfl⟩
theorem fld29 : ∃ fs : Array Field, Try.prog.underlying 29 = some (.struct fs) ∧ [(0, 3), (1, 27)] = fs.toList.map (fun f => (f.offset, f.type)) ∧ (∀ y ∈ ([(0, 3), (1, 27)] : List (Nat × Nat)), (aget tab.code y.2).isSome) ∧ (fs.toList.mapM (fun f => (Try.prog.info? f.type).map fun i => (f.offset, i.size))).isSome :=
  ⟨_, Try.underlying29, by kernel_rfl, List.all_eq_true.1 (by kernel_rfl), by kernel_rfl⟩
theorem fld37 : ∃ fs : Array Field, Try.prog.underlying 37 = some (.struct fs) ∧ [(0, 35), (1, 3)] = fs.toList.map (fun f => (f.offset, f.type)) ∧ (∀ y ∈ ([(0, 35), (1, 3)] : List (Nat × Nat)), (aget tab.code y.2).isSome) ∧ (fs.toList.mapM (fun f => (Try.prog.info? f.type).map fun i => (f.offset, i.size))).isSome :=
  ⟨_, Try.underlying37, by kernel_rfl, List.all_eq_true.1 (by kernel_rfl), by kernel_rfl⟩
theorem fld42 : ∃ fs : Array Field, Try.prog.underlying 42 = some (.struct fs) ∧ [(0, 3), (1, 3), (2, 3), (3, 3)] = fs.toList.map (fun f => (f.offset, f.type)) ∧ (∀ y ∈ ([(0, 3), (1, 3), (2, 3), (3, 3)] : List (Nat × Nat)), (aget tab.code y.2).isSome) ∧ (fs.toList.mapM (fun f => (Try.prog.info? f.type).map fun i => (f.offset, i.size))).isSome :=
  ⟨_, Try.underlying42, by kernel_rfl, List.all_eq_true.1 (by kernel_rfl), by kernel_rfl⟩
theorem fld45 : ∃ fs : Array Field, Try.prog.underlying 45 = some (.struct fs) ∧ [(0, 9), (1, 9), (2, 3), (3, 3), (4, 40), (5, 42), (9, 43)] = fs.toList.map (fun f => (f.offset, f.type)) ∧ (∀ y ∈ ([(0, 9), (1, 9), (2, 3), (3, 3), (4, 40), (5, 42), (9, 43)] : List (Nat × Nat)), (aget tab.code y.2).isSome) ∧ (fs.toList.mapM (fun f => (Try.prog.info? f.type).map fun i => (f.offset, i.size))).isSome :=
  ⟨_, Try.underlying45, by kernel_rfl, List.all_eq_true.1 (by kernel_rfl), by kernel_rfl⟩
theorem fld50 : ∃ fs : Array Field, Try.prog.underlying 50 = some (.struct fs) ∧ [(0, 45), (10, 3)] = fs.toList.map (fun f => (f.offset, f.type)) ∧ (∀ y ∈ ([(0, 45), (10, 3)] : List (Nat × Nat)), (aget tab.code y.2).isSome) ∧ (fs.toList.mapM (fun f => (Try.prog.info? f.type).map fun i => (f.offset, i.size))).isSome :=
  ⟨_, Try.underlying50, by kernel_rfl, List.all_eq_true.1 (by kernel_rfl), by kernel_rfl⟩
theorem fld81 : ∃ fs : Array Field, Try.prog.underlying 81 = some (.struct fs) ∧ [(0, 3), (1, 3), (2, 3), (3, 3)] = fs.toList.map (fun f => (f.offset, f.type)) ∧ (∀ y ∈ ([(0, 3), (1, 3), (2, 3), (3, 3)] : List (Nat × Nat)), (aget tab.code y.2).isSome) ∧ (fs.toList.mapM (fun f => (Try.prog.info? f.type).map fun i => (f.offset, i.size))).isSome :=
  ⟨_, Try.underlying81, by kernel_rfl, List.all_eq_true.1 (by kernel_rfl), by kernel_rfl⟩
theorem fld84 : ∃ fs : Array Field, Try.prog.underlying 84 = some (.struct fs) ∧ [(0, 9), (1, 9), (2, 3), (3, 3), (4, 80), (5, 81), (9, 82)] = fs.toList.map (fun f => (f.offset, f.type)) ∧ (∀ y ∈ ([(0, 9), (1, 9), (2, 3), (3, 3), (4, 80), (5, 81), (9, 82)] : List (Nat × Nat)), (aget tab.code y.2).isSome) ∧ (fs.toList.mapM (fun f => (Try.prog.info? f.type).map fun i => (f.offset, i.size))).isSome :=
  ⟨_, Try.underlying84, by kernel_rfl, List.all_eq_true.1 (by kernel_rfl), by kernel_rfl⟩
theorem fld86 : ∃ fs : Array Field, Try.prog.underlying 86 = some (.struct fs) ∧ [(0, 84), (10, 3)] = fs.toList.map (fun f => (f.offset, f.type)) ∧ (∀ y ∈ ([(0, 84), (10, 3)] : List (Nat × Nat)), (aget tab.code y.2).isSome) ∧ (fs.toList.mapM (fun f => (Try.prog.info? f.type).map fun i => (f.offset, i.size))).isSome :=
  ⟨_, Try.underlying86, by kernel_rfl, List.all_eq_true.1 (by kernel_rfl), by kernel_rfl⟩
theorem fld94 : ∃ fs : Array Field, Try.prog.underlying 94 = some (.struct fs) ∧ [(0, 3), (1, 3), (2, 50)] = fs.toList.map (fun f => (f.offset, f.type)) ∧ (∀ y ∈ ([(0, 3), (1, 3), (2, 50)] : List (Nat × Nat)), (aget tab.code y.2).isSome) ∧ (fs.toList.mapM (fun f => (Try.prog.info? f.type).map fun i => (f.offset, i.size))).isSome :=
  ⟨_, Try.underlying94, by kernel_rfl, List.all_eq_true.1 (by kernel_rfl), by kernel_rfl⟩
theorem fld111 : ∃ fs : Array Field, Try.prog.underlying 111 = some (.struct fs) ∧ [(0, 3), (1, 3), (2, 86)] = fs.toList.map (fun f => (f.offset, f.type)) ∧ (∀ y ∈ ([(0, 3), (1, 3), (2, 86)] : List (Nat × Nat)), (aget tab.code y.2).isSome) ∧ (fs.toList.mapM (fun f => (Try.prog.info? f.type).map fun i => (f.offset, i.size))).isSome :=
  ⟨_, Try.underlying111, by kernel_rfl, List.all_eq_true.1 (by kernel_rfl), by kernel_rfl⟩
theorem fld132 : ∃ fs : Array Field, Try.prog.underlying 132 = some (.struct fs) ∧ [(0, 9), (1, 3), (2, 3)] = fs.toList.map (fun f => (f.offset, f.type)) ∧ (∀ y ∈ ([(0, 9), (1, 3), (2, 3)] : List (Nat × Nat)), (aget tab.code y.2).isSome) ∧ (fs.toList.mapM (fun f => (Try.prog.info? f.type).map fun i => (f.offset, i.size))).isSome :=
  ⟨_, Try.underlying132, by kernel_rfl, List.all_eq_true.1 (by kernel_rfl), by kernel_rfl⟩
theorem fld137 : ∃ fs : Array Field, Try.prog.underlying 137 = some (.struct fs) ∧ [(0, 9), (1, 9)] = fs.toList.map (fun f => (f.offset, f.type)) ∧ (∀ y ∈ ([(0, 9), (1, 9)] : List (Nat × Nat)), (aget tab.code y.2).isSome) ∧ (fs.toList.mapM (fun f => (Try.prog.info? f.type).map fun i => (f.offset, i.size))).isSome :=
  ⟨_, Try.underlying137, by kernel_rfl, List.all_eq_true.1 (by kernel_rfl), by kernel_rfl⟩
theorem fld139 : ∃ fs : Array Field, Try.prog.underlying 139 = some (.struct fs) ∧ [(0, 33), (1, 3), (2, 3)] = fs.toList.map (fun f => (f.offset, f.type)) ∧ (∀ y ∈ ([(0, 33), (1, 3), (2, 3)] : List (Nat × Nat)), (aget tab.code y.2).isSome) ∧ (fs.toList.mapM (fun f => (Try.prog.info? f.type).map fun i => (f.offset, i.size))).isSome :=
  ⟨_, Try.underlying139, by kernel_rfl, List.all_eq_true.1 (by kernel_rfl), by kernel_rfl⟩
theorem fld165 : ∃ fs : Array Field, Try.prog.underlying 165 = some (.struct fs) ∧ [(0, 9), (1, 3), (2, 3)] = fs.toList.map (fun f => (f.offset, f.type)) ∧ (∀ y ∈ ([(0, 9), (1, 3), (2, 3)] : List (Nat × Nat)), (aget tab.code y.2).isSome) ∧ (fs.toList.mapM (fun f => (Try.prog.info? f.type).map fun i => (f.offset, i.size))).isSome :=
  ⟨_, Try.underlying165, by kernel_rfl, List.all_eq_true.1 (by kernel_rfl), by kernel_rfl⟩
theorem fld167 : ∃ fs : Array Field, Try.prog.underlying 167 = some (.struct fs) ∧ [(0, 9), (1, 9)] = fs.toList.map (fun f => (f.offset, f.type)) ∧ (∀ y ∈ ([(0, 9), (1, 9)] : List (Nat × Nat)), (aget tab.code y.2).isSome) ∧ (fs.toList.mapM (fun f => (Try.prog.info? f.type).map fun i => (f.offset, i.size))).isSome :=
  ⟨_, Try.underlying167, by kernel_rfl, List.all_eq_true.1 (by kernel_rfl), by kernel_rfl⟩
theorem tab_ok : tab.Ok Try.prog := {
  info := infoChk_ok (by kernel_rfl)
  und := List.forall_mem_cons.2 ⟨und2, List.forall_mem_cons.2 ⟨und3, List.forall_mem_cons.2 ⟨und4, List.forall_mem_cons.2 ⟨und5, List.forall_mem_cons.2 ⟨und6, List.forall_mem_cons.2 ⟨und9, List.forall_mem_cons.2 ⟨und10, List.forall_mem_cons.2 ⟨und11, List.forall_mem_cons.2 ⟨und12, List.forall_mem_cons.2 ⟨und21, List.forall_mem_cons.2 ⟨und22, List.forall_mem_cons.2 ⟨und24, List.forall_mem_cons.2 ⟨und27, List.forall_mem_cons.2 ⟨und29, List.forall_mem_cons.2 ⟨und33, List.forall_mem_cons.2 ⟨und35, List.forall_mem_cons.2 ⟨und37, List.forall_mem_cons.2 ⟨und39, List.forall_mem_cons.2 ⟨und40, List.forall_mem_cons.2 ⟨und42, List.forall_mem_cons.2 ⟨und43, List.forall_mem_cons.2 ⟨und45, List.forall_mem_cons.2 ⟨und48, List.forall_mem_cons.2 ⟨und50, List.forall_mem_cons.2 ⟨und61, List.forall_mem_cons.2 ⟨und80, List.forall_mem_cons.2 ⟨und81, List.forall_mem_cons.2 ⟨und82, List.forall_mem_cons.2 ⟨und84, List.forall_mem_cons.2 ⟨und86, List.forall_mem_cons.2 ⟨und94, List.forall_mem_cons.2 ⟨und111, List.forall_mem_cons.2 ⟨und122, List.forall_mem_cons.2 ⟨und132, List.forall_mem_cons.2 ⟨und137, List.forall_mem_cons.2 ⟨und139, List.forall_mem_cons.2 ⟨und163, List.forall_mem_cons.2 ⟨und165, List.forall_mem_cons.2 ⟨und167, List.forall_mem_cons.2 ⟨und183, List.forall_mem_cons.2 ⟨und184, List.forall_mem_cons.2 ⟨und185, List.forall_mem_cons.2 ⟨und188, List.forall_mem_cons.2 ⟨und189, List.forall_mem_nil _⟩⟩⟩⟩⟩⟩⟩⟩⟩⟩⟩⟩⟩⟩⟩⟩⟩⟩⟩⟩⟩⟩⟩⟩⟩⟩⟩⟩⟩⟩⟩⟩⟩⟩⟩⟩⟩⟩⟩⟩⟩⟩⟩⟩
  fld := List.forall_mem_cons.2 ⟨fld24, List.forall_mem_cons.2 ⟨fld29, List.forall_mem_cons.2 ⟨fld37, List.forall_mem_cons.2 ⟨fld42, List.forall_mem_cons.2 ⟨fld45, List.forall_mem_cons.2 ⟨fld50, List.forall_mem_cons.2 ⟨fld81, List.forall_mem_cons.2 ⟨fld84, List.forall_mem_cons.2 ⟨fld86, List.forall_mem_cons.2 ⟨fld94, List.forall_mem_cons.2 ⟨fld111, List.forall_mem_cons.2 ⟨fld132, List.forall_mem_cons.2 ⟨fld137, List.forall_mem_cons.2 ⟨fld139, List.forall_mem_cons.2 ⟨fld165, List.forall_mem_cons.2 ⟨fld167, List.forall_mem_nil _⟩⟩⟩⟩⟩⟩⟩⟩⟩⟩⟩⟩⟩⟩⟩⟩
  sts := List.forall_mem_cons.2 ⟨fun h => by first | (cases h; done) | (simp; done), List.forall_mem_cons.2 ⟨fun h => by first | (cases h; done) | (simp; done), List.forall_mem_cons.2 ⟨fun h => by first | (cases h; done) | (simp; done), List.forall_mem_cons.2 ⟨fun h => by first | (cases h; done) | (simp; done), List.forall_mem_cons.2 ⟨fun h => by first | (cases h; done) | (simp; done), List.forall_mem_cons.2 ⟨fun h => by first | (cases h; done) | (simp; done), List.forall_mem_cons.2 ⟨fun h => by first | (cases h; done) | (simp; done), List.forall_mem_cons.2 ⟨fun h => by first | (cases h; done) | (simp; done), List.forall_mem_cons.2 ⟨fun h => by first | (cases h; done) | (simp; done), List.forall_mem_cons.2 ⟨fun h => by first | (cases h; done) | (simp; done), List.forall_mem_cons.2 ⟨fun h => by first | (cases h; done) | (simp; done), List.forall_mem_cons.2 ⟨fun _ => by simp [tab], List.forall_mem_cons.2 ⟨fun h => by first | (cases h; done) | (simp; done), List.forall_mem_cons.2 ⟨fun _ => by simp [tab], List.forall_mem_cons.2 ⟨fun h => by first | (cases h; done) | (simp; done), List.forall_mem_cons.2 ⟨fun h => by first | (cases h; done) | (simp; done), List.forall_mem_cons.2 ⟨fun _ => by simp [tab], List.forall_mem_cons.2 ⟨fun h => by first | (cases h; done) | (simp; done), List.forall_mem_cons.2 ⟨fun h => by first | (cases h; done) | (simp; done), List.forall_mem_cons.2 ⟨fun _ => by simp [tab], List.forall_mem_cons.2 ⟨fun h => by first | (cases h; done) | (simp; done), List.forall_mem_cons.2 ⟨fun _ => by simp [tab], List.forall_mem_cons.2 ⟨fun h => by first | (cases h; done) | (simp; done), List.forall_mem_cons.2 ⟨fun _ => by simp [tab], List.forall_mem_cons.2 ⟨fun h => by first | (cases h; done) | (simp; done), List.forall_mem_cons.2 ⟨fun h => by first | (cases h; done) | (simp; done), List.forall_mem_cons.2 ⟨fun _ => by simp [tab], List.forall_mem_cons.2 ⟨fun h => by first | (cases h; done) | (simp; done), List.forall_mem_cons.2 ⟨fun _ => by simp [tab], List.forall_mem_cons.2 ⟨fun _ => by simp [tab], List.forall_mem_cons.2 ⟨fun _ => by simp [tab], List.forall_mem_cons.2 ⟨fun _ => by simp [tab], List.forall_mem_cons.2 ⟨fun h => by first | (cases h; done) | (simp; done), List.forall_mem_cons.2 ⟨fun _ => by simp [tab], List.forall_mem_cons.2 ⟨fun _ => by simp [tab], List.forall_mem_cons.2 ⟨fun _ => by simp [tab], List.forall_mem_cons.2 ⟨fun h => by first | (cases h; done) | (simp; done), List.forall_mem_cons.2 ⟨fun _ => by simp [tab], List.forall_mem_cons.2 ⟨fun _ => by simp [tab], List.forall_mem_cons.2 ⟨fun h => by first | (cases h; done) | (simp; done), List.forall_mem_cons.2 ⟨fun h => by first | (cases h; done) | (simp; done), List.forall_mem_cons.2 ⟨fun h => by first | (cases h; done) | (simp; done), List.forall_mem_cons.2 ⟨fun h => by first | (cases h; done) | (simp; done), List.forall_mem_cons.2 ⟨fun h => by first | (cases h; done) | (simp; done), List.forall_mem_nil _⟩⟩⟩⟩⟩⟩⟩⟩⟩⟩⟩⟩⟩⟩⟩⟩⟩⟩⟩⟩⟩⟩⟩⟩⟩⟩⟩⟩⟩⟩⟩⟩⟩⟩⟩⟩⟩⟩⟩⟩⟩⟩⟩⟩
  eqs := List.forall_mem_nil _
  ord := by kernel_rfl }
end Go.Proofs.Ytnbehmbjoanfoaa

/- x -/
namespace Go.Proofs.Ytnbehmbjoanfoaa
open Go Go.Gm
/-! ### loop.example/g00465/spec.l1In -/
noncomputable def f54c : Code := (Try.f54.body).getD .skip
def f54k : Nat → Kp := kat [⟨[0, 1, 2], [], [], []⟩, ⟨[6], [], [], []⟩]
noncomputable def f54e : Env := tab.env []
theorem f54_run {R : Type} (n : Nat) (k : List Dt → Option R) (a0 : Int) (a1 : Int) (a2 : Int) : evFn f54e f54k n f54c [.ro, .ro, .ro] [false] true [.tmp 6] [4] [.d (.i .i64) a0, .d (.i .i64) a1, .d (.i .i64) a2] k =
    (cond (decide (a0 ≥ a1))
    (k [.d .bool (decide (a0 ≤ a2))])
    (k [.d .bool false])) := by kernel_rfl
theorem f54_spec (a0 : Int) (a1 : Int) (a2 : Int) : ∃ keep rounds, ∀ {R : Type} (k : List Dt → Option R), evFn f54e keep rounds f54c [.ro, .ro, .ro] [false] true [.tmp 6] [4] [.d (.i .i64) a0, .d (.i .i64) a1, .d (.i .i64) a2] k = k [.d .bool (inR a0 a1 a2)] := by
  refine ⟨f54k, 0, fun k => ?_⟩
  rw [f54_run]; unfold inR
  cases decide (a0 ≥ a1) <;> rfl

noncomputable def q54 : List Dt → Option (Bool × List Dt)
  | [.d (.i .i64) a0, .d (.i .i64) a1, .d (.i .i64) a2] => some (true, [.d .bool (inR a0 a1 a2)])
  | _ => none
noncomputable def s54 : Gm.Spec := Gm.Spec.of [.ro, .ro, .ro] [false] true q54
theorem good54 : Gm.Good Try.prog (54, s54) := by
  have hl : ∀ x ∈ ([] : List (Nat × Gm.Spec)), Gm.Good Try.prog x := fun _ h => by cases h
  refine ⟨⟨spec_ok (tab_ok.env hl) (tab.natl hl) Try.func54 (by kernel_rfl : Try.f54.body = some f54c) [4] (by kernel_rfl) ?_, _, Try.func54, by kernel_rfl, of_decide_eq_true (by kernel_rfl)⟩, Gm.Spec.of_natl _ _ _ _⟩
  intro ds outs h
  unfold q54 at h
  split at h
  · cases h; exact f54_spec _ _ _
  · cases h
/-! ### loop.example/g00465/impl.from -/
noncomputable def f56c : Code := (Try.f56.body).getD .skip
def f56k : Nat → Kp := kat [⟨[0, 1, 2], [], [], []⟩, ⟨[6], [], [], []⟩]
noncomputable def f56e : Env := tab.env []
theorem f56_run {R : Type} (n : Nat) (k : List Dt → Option R) (a0 : Int) (a1 : Int) (a2 : Int) : evFn f56e f56k n f56c [.ro, .ro, .ro] [false] true [.tmp 6] [4] [.d (.i .i64) a0, .d (.i .i64) a1, .d (.i .i64) a2] k =
    (cond (decide (a0 ≥ a1))
    (k [.d .bool (decide (a0 ≤ a2))])
    (k [.d .bool false])) := by kernel_rfl
theorem f56_spec (a0 : Int) (a1 : Int) (a2 : Int) : ∃ keep rounds, ∀ {R : Type} (k : List Dt → Option R), evFn f56e keep rounds f56c [.ro, .ro, .ro] [false] true [.tmp 6] [4] [.d (.i .i64) a0, .d (.i .i64) a1, .d (.i .i64) a2] k = k [.d .bool (inR a0 a1 a2)] := by
  refine ⟨f56k, 0, fun k => ?_⟩
  rw [f56_run]; unfold inR
  cases decide (a0 ≥ a1) <;> rfl

noncomputable def q56 : List Dt → Option (Bool × List Dt)
  | [.d (.i .i64) a0, .d (.i .i64) a1, .d (.i .i64) a2] => some (true, [.d .bool (inR a0 a1 a2)])
  | _ => none
noncomputable def s56 : Gm.Spec := Gm.Spec.of [.ro, .ro, .ro] [false] true q56
theorem good56 : Gm.Good Try.prog (56, s56) := by
  have hl : ∀ x ∈ ([] : List (Nat × Gm.Spec)), Gm.Good Try.prog x := fun _ h => by cases h
  refine ⟨⟨spec_ok (tab_ok.env hl) (tab.natl hl) Try.func56 (by kernel_rfl : Try.f56.body = some f56c) [4] (by kernel_rfl) ?_, _, Try.func56, by kernel_rfl, of_decide_eq_true (by kernel_rfl)⟩, Gm.Spec.of_natl _ _ _ _⟩
  intro ds outs h
  unfold q56 at h
  split at h
  · cases h; exact f56_spec _ _ _
  · cases h
/-! ### loop.example/g00465/spec.l5Letter -/
noncomputable def f148c : Code := (Try.f148.body).getD .skip
def f148k : Nat → Kp := kat [⟨[0], [], [], []⟩, ⟨[2], [], [], []⟩]
noncomputable def f148e : Env := tab.env []
theorem f148_run {R : Type} (n : Nat) (k : List Dt → Option R) (a0 : Int) : evFn f148e f148k n f148c [.ro] [false] true [.tmp 2] [4] [.d (.i .u8) a0] k =
    (cond (decide (a0 ≥ (97 : Int)))
    (cond (decide (a0 ≤ (122 : Int)))
      (k [.d .bool true])
      (cond (decide (a0 ≥ (65 : Int)))
        (k [.d .bool (decide (a0 ≤ (90 : Int)))])
        (k [.d .bool false])))
    (cond (decide (a0 ≥ (65 : Int)))
      (k [.d .bool (decide (a0 ≤ (90 : Int)))])
      (k [.d .bool false]))) := by kernel_rfl
theorem f148_spec (a0 : Int) : ∃ keep rounds, ∀ {R : Type} (k : List Dt → Option R), evFn f148e keep rounds f148c [.ro] [false] true [.tmp 2] [4] [.d (.i .u8) a0] k = k [.d .bool (letter a0)] := by
  refine ⟨f148k, 0, fun k => ?_⟩
  rw [f148_run]; unfold letter
  cases decide (a0 ≥ (97 : Int)) <;> cases decide (a0 ≤ (122 : Int)) <;> cases decide (a0 ≥ (65 : Int)) <;> rfl

noncomputable def q148 : List Dt → Option (Bool × List Dt)
  | [.d (.i .u8) a0] => some (true, [.d .bool (letter a0)])
  | _ => none
noncomputable def s148 : Gm.Spec := Gm.Spec.of [.ro] [false] true q148
theorem good148 : Gm.Good Try.prog (148, s148) := by
  have hl : ∀ x ∈ ([] : List (Nat × Gm.Spec)), Gm.Good Try.prog x := fun _ h => by cases h
  refine ⟨⟨spec_ok (tab_ok.env hl) (tab.natl hl) Try.func148 (by kernel_rfl : Try.f148.body = some f148c) [4] (by kernel_rfl) ?_, _, Try.func148, by kernel_rfl, of_decide_eq_true (by kernel_rfl)⟩, Gm.Spec.of_natl _ _ _ _⟩
  intro ds outs h
  unfold q148 at h
  split at h
  · cases h; exact f148_spec _
  · cases h
/-! ### loop.example/g00465/impl.isLetter -/
noncomputable def f149c : Code := (Try.f149.body).getD .skip
def f149k : Nat → Kp := kat [⟨[0], [], [], []⟩, ⟨[2], [], [], []⟩]
noncomputable def f149e : Env := tab.env []
theorem f149_run {R : Type} (n : Nat) (k : List Dt → Option R) (a0 : Int) : evFn f149e f149k n f149c [.ro] [false] true [.tmp 2] [4] [.d (.i .u8) a0] k =
    (cond (decide (a0 ≥ (97 : Int)))
    (cond (decide (a0 ≤ (122 : Int)))
      (k [.d .bool true])
      (cond (decide (a0 ≥ (65 : Int)))
        (k [.d .bool (decide (a0 ≤ (90 : Int)))])
        (k [.d .bool false])))
    (cond (decide (a0 ≥ (65 : Int)))
      (k [.d .bool (decide (a0 ≤ (90 : Int)))])
      (k [.d .bool false]))) := by kernel_rfl
theorem f149_spec (a0 : Int) : ∃ keep rounds, ∀ {R : Type} (k : List Dt → Option R), evFn f149e keep rounds f149c [.ro] [false] true [.tmp 2] [4] [.d (.i .u8) a0] k = k [.d .bool (letter a0)] := by
  refine ⟨f149k, 0, fun k => ?_⟩
  rw [f149_run]; unfold letter
  cases decide (a0 ≥ (97 : Int)) <;> cases decide (a0 ≤ (122 : Int)) <;> cases decide (a0 ≥ (65 : Int)) <;> rfl

noncomputable def q149 : List Dt → Option (Bool × List Dt)
  | [.d (.i .u8) a0] => some (true, [.d .bool (letter a0)])
  | _ => none
noncomputable def s149 : Gm.Spec := Gm.Spec.of [.ro] [false] true q149
theorem good149 : Gm.Good Try.prog (149, s149) := by
  have hl : ∀ x ∈ ([] : List (Nat × Gm.Spec)), Gm.Good Try.prog x := fun _ h => by cases h
  refine ⟨⟨spec_ok (tab_ok.env hl) (tab.natl hl) Try.func149 (by kernel_rfl : Try.f149.body = some f149c) [4] (by kernel_rfl) ?_, _, Try.func149, by kernel_rfl, of_decide_eq_true (by kernel_rfl)⟩, Gm.Spec.of_natl _ _ _ _⟩
  intro ds outs h
  unfold q149 at h
  split at h
  · cases h; exact f149_spec _
  · cases h
/-! ### loop.example/g00465/impl.isDigit -/
noncomputable def f128c : Code := (Try.f128.body).getD .skip
def f128k : Nat → Kp := kat [⟨[0], [], [], []⟩, ⟨[2], [], [], []⟩]
noncomputable def f128e : Env := tab.env []
theorem f128_run {R : Type} (n : Nat) (k : List Dt → Option R) (a0 : Int) : evFn f128e f128k n f128c [.ro] [false] true [.tmp 2] [4] [.d (.i .u8) a0] k =
    (cond (decide (a0 ≥ (48 : Int)))
    (k [.d .bool (decide (a0 ≤ (57 : Int)))])
    (k [.d .bool false])) := by kernel_rfl
theorem f128_spec (a0 : Int) : ∃ keep rounds, ∀ {R : Type} (k : List Dt → Option R), evFn f128e keep rounds f128c [.ro] [false] true [.tmp 2] [4] [.d (.i .u8) a0] k = k [.d .bool (digit a0)] := by
  refine ⟨f128k, 0, fun k => ?_⟩
  rw [f128_run]; unfold digit
  cases decide (a0 ≥ (48 : Int)) <;> rfl

noncomputable def q128 : List Dt → Option (Bool × List Dt)
  | [.d (.i .u8) a0] => some (true, [.d .bool (digit a0)])
  | _ => none
noncomputable def s128 : Gm.Spec := Gm.Spec.of [.ro] [false] true q128
theorem good128 : Gm.Good Try.prog (128, s128) := by
  have hl : ∀ x ∈ ([] : List (Nat × Gm.Spec)), Gm.Good Try.prog x := fun _ h => by cases h
  refine ⟨⟨spec_ok (tab_ok.env hl) (tab.natl hl) Try.func128 (by kernel_rfl : Try.f128.body = some f128c) [4] (by kernel_rfl) ?_, _, Try.func128, by kernel_rfl, of_decide_eq_true (by kernel_rfl)⟩, Gm.Spec.of_natl _ _ _ _⟩
  intro ds outs h
  unfold q128 at h
  split at h
  · cases h; exact f128_spec _
  · cases h
/-! ### loop.example/g00465/spec.NameOk -/
noncomputable def f91c : Code := (Try.f91.body).getD .skip
def f91k : Nat → Kp := kat [⟨[0], [], [], []⟩, ⟨[0, 3], [], [], []⟩, ⟨[0, 3, 8], [], [], []⟩, ⟨[0, 3], [], [], []⟩, ⟨[0, 3, 4], [], [], []⟩, ⟨[0, 3, 36], [], [], []⟩, ⟨[2], [], [], []⟩, ⟨[2], [], [], []⟩]
noncomputable def f91e : Env := tab.env [(54, s54)]
noncomputable def f91L0 {R : Type} (n : Nat) (x0 : Option R) (x1 : Int → Bool → Option R) (vs0 : ByteArray) : Nat → Int → Option R
  | 0, _ => none
  | m + 1, vs3 =>
    (cond (decide (vs3 < (ByteArray.size vs0 : Int)))
      (cond ((decide ((0 : Int) ≤ vs3)) && (decide (vs3 < (ByteArray.size vs0 : Int))))
        (cond (decide ((((ByteArray.data vs0).getD (Int.toNat vs3) 0).toNat : Int) ≥ (97 : Int)))
          (cond (decide ((((ByteArray.data vs0).getD (Int.toNat vs3) 0).toNat : Int) ≤ (122 : Int)))
            (f91L0 n x0 x1 vs0 m (IntKind.wrap .i64 (vs3 + (1 : Int))))
            (cond (decide (vs3 > (0 : Int)))
              (cond (decide ((((ByteArray.data vs0).getD (Int.toNat vs3) 0).toNat : Int) ≥ (48 : Int)))
                (cond (decide ((((ByteArray.data vs0).getD (Int.toNat vs3) 0).toNat : Int) ≤ (57 : Int)))
                  (f91L0 n x0 x1 vs0 m (IntKind.wrap .i64 (vs3 + (1 : Int))))
                  (cond (!((((ByteArray.data vs0).getD (Int.toNat vs3) 0).toNat : Int) == (45 : Int)))
                    (x0)
                    (f91L0 n x0 x1 vs0 m (IntKind.wrap .i64 (vs3 + (1 : Int))))))
                (cond (!((((ByteArray.data vs0).getD (Int.toNat vs3) 0).toNat : Int) == (45 : Int)))
                  (x0)
                  (f91L0 n x0 x1 vs0 m (IntKind.wrap .i64 (vs3 + (1 : Int))))))
              (x0)))
          (cond (decide (vs3 > (0 : Int)))
            (cond (decide ((((ByteArray.data vs0).getD (Int.toNat vs3) 0).toNat : Int) ≥ (48 : Int)))
              (cond (decide ((((ByteArray.data vs0).getD (Int.toNat vs3) 0).toNat : Int) ≤ (57 : Int)))
                (f91L0 n x0 x1 vs0 m (IntKind.wrap .i64 (vs3 + (1 : Int))))
                (cond (!((((ByteArray.data vs0).getD (Int.toNat vs3) 0).toNat : Int) == (45 : Int)))
                  (x0)
                  (f91L0 n x0 x1 vs0 m (IntKind.wrap .i64 (vs3 + (1 : Int))))))
              (cond (!((((ByteArray.data vs0).getD (Int.toNat vs3) 0).toNat : Int) == (45 : Int)))
                (x0)
                (f91L0 n x0 x1 vs0 m (IntKind.wrap .i64 (vs3 + (1 : Int))))))
            (x0)))
        none)
      (x1 vs3 (decide (vs3 < (ByteArray.size vs0 : Int)))))
theorem f91L0_b {R : Type} (n : Nat) (k' : Ex → St → Option R) (vs0 : ByteArray) (vs3 : Int) : ev f91e f91k n (cAt [1,0,1,0,0] f91c) ⟨[(0, .c (.one (.v (.string vs0)))), (3, .c (.one (.v (.int .i64 vs3))))], [], []⟩ k' =
    (cond (decide (vs3 < (ByteArray.size vs0 : Int)))
    (cond ((decide ((0 : Int) ≤ vs3)) && (decide (vs3 < (ByteArray.size vs0 : Int))))
      (cond (decide ((((ByteArray.data vs0).getD (Int.toNat vs3) 0).toNat : Int) ≥ (97 : Int)))
        (cond (decide ((((ByteArray.data vs0).getD (Int.toNat vs3) 0).toNat : Int) ≤ (122 : Int)))
          (k' .normal ⟨[(0, .c (.one (.v (.string vs0)))), (3, .c (.one (.v (.int .i64 (IntKind.wrap .i64 (vs3 + (1 : Int)))))))], [], []⟩)
          (cond (decide (vs3 > (0 : Int)))
            (cond (decide ((((ByteArray.data vs0).getD (Int.toNat vs3) 0).toNat : Int) ≥ (48 : Int)))
              (cond (decide ((((ByteArray.data vs0).getD (Int.toNat vs3) 0).toNat : Int) ≤ (57 : Int)))
                (k' .normal ⟨[(0, .c (.one (.v (.string vs0)))), (3, .c (.one (.v (.int .i64 (IntKind.wrap .i64 (vs3 + (1 : Int)))))))], [], []⟩)
                (cond (!((((ByteArray.data vs0).getD (Int.toNat vs3) 0).toNat : Int) == (45 : Int)))
                  (k' .ret ⟨[(2, .c (.one (.v (.bool false))))], [], []⟩)
                  (k' .normal ⟨[(0, .c (.one (.v (.string vs0)))), (3, .c (.one (.v (.int .i64 (IntKind.wrap .i64 (vs3 + (1 : Int)))))))], [], []⟩)))
              (cond (!((((ByteArray.data vs0).getD (Int.toNat vs3) 0).toNat : Int) == (45 : Int)))
                (k' .ret ⟨[(2, .c (.one (.v (.bool false))))], [], []⟩)
                (k' .normal ⟨[(0, .c (.one (.v (.string vs0)))), (3, .c (.one (.v (.int .i64 (IntKind.wrap .i64 (vs3 + (1 : Int)))))))], [], []⟩)))
            (k' .ret ⟨[(2, .c (.one (.v (.bool false))))], [], []⟩)))
        (cond (decide (vs3 > (0 : Int)))
          (cond (decide ((((ByteArray.data vs0).getD (Int.toNat vs3) 0).toNat : Int) ≥ (48 : Int)))
            (cond (decide ((((ByteArray.data vs0).getD (Int.toNat vs3) 0).toNat : Int) ≤ (57 : Int)))
              (k' .normal ⟨[(0, .c (.one (.v (.string vs0)))), (3, .c (.one (.v (.int .i64 (IntKind.wrap .i64 (vs3 + (1 : Int)))))))], [], []⟩)
              (cond (!((((ByteArray.data vs0).getD (Int.toNat vs3) 0).toNat : Int) == (45 : Int)))
                (k' .ret ⟨[(2, .c (.one (.v (.bool false))))], [], []⟩)
                (k' .normal ⟨[(0, .c (.one (.v (.string vs0)))), (3, .c (.one (.v (.int .i64 (IntKind.wrap .i64 (vs3 + (1 : Int)))))))], [], []⟩)))
            (cond (!((((ByteArray.data vs0).getD (Int.toNat vs3) 0).toNat : Int) == (45 : Int)))
              (k' .ret ⟨[(2, .c (.one (.v (.bool false))))], [], []⟩)
              (k' .normal ⟨[(0, .c (.one (.v (.string vs0)))), (3, .c (.one (.v (.int .i64 (IntKind.wrap .i64 (vs3 + (1 : Int)))))))], [], []⟩)))
          (k' .ret ⟨[(2, .c (.one (.v (.bool false))))], [], []⟩)))
      none)
    (k' (.exit 0) ⟨[(0, .c (.one (.v (.string vs0)))), (3, .c (.one (.v (.int .i64 vs3)))), (8, .c (.one (.v (.bool (decide (vs3 < (ByteArray.size vs0 : Int)))))))], [], []⟩)) := by kernel_rfl
theorem f91L0_eq {R : Type} (n : Nat) (k' : Ex → St → Option R) (vs0 : ByteArray) : ∀ (m : Nat) (vs3 : Int), iter (fun st k => ev f91e f91k n (cAt [1,0,1,0,0] f91c) st k) m ⟨[(0, .c (.one (.v (.string vs0)))), (3, .c (.one (.v (.int .i64 vs3))))], [], []⟩ k' = f91L0 n (k' .ret ⟨[(2, .c (.one (.v (.bool false))))], [], []⟩) (fun (xvs3 : Int) (xvs8 : Bool) => k' (.exit 0) ⟨[(0, .c (.one (.v (.string vs0)))), (3, .c (.one (.v (.int .i64 xvs3)))), (8, .c (.one (.v (.bool xvs8))))], [], []⟩) vs0 m vs3 := by
  intro m; induction m with
  | zero => intros; rfl
  | succ m ih =>
    intro vs3
    simp only [iter]
    rw [f91L0_b]
    simp only [ih, f91L0]

noncomputable def f91K0 {R : Type} (n : Nat) (k' : Ex → St → Option R) : Ex → St → Option R := (blockK 0 (seqK f91e f91k n (cAt [1,1] f91c) k'))
theorem f91K0_x0 {R : Type} (n : Nat) (k : List Dt → Option R) (a0 : ByteArray)  : f91K0 n (exitK f91e [.ro] [false] true [.tmp 2] [4] [.d .str a0] k) .ret ⟨[(2, .c (.one (.v (.bool false))))], [], []⟩ =
    (k [.d .bool false]) := by kernel_rfl
theorem f91K0_x1 {R : Type} (n : Nat) (k : List Dt → Option R) (a0 : ByteArray) (vs0 : ByteArray) (xvs3 : Int) (xvs8 : Bool) : f91K0 n (exitK f91e [.ro] [false] true [.tmp 2] [4] [.d .str a0] k) (.exit 0) ⟨[(0, .c (.one (.v (.string vs0)))), (3, .c (.one (.v (.int .i64 xvs3)))), (8, .c (.one (.v (.bool xvs8))))], [], []⟩ =
    (k [.d .bool (inR (ByteArray.size vs0 : Int) (1 : Int) (20 : Int))]) := by kernel_rfl

theorem f91_run {R : Type} (n : Nat) (k : List Dt → Option R) (a0 : ByteArray) : evFn f91e f91k n f91c [.ro] [false] true [.tmp 2] [4] [.d .str a0] k =
    (f91L0 n (k [.d .bool false]) (fun (xvs3 : Int) (xvs8 : Bool) =>
    (k [.d .bool (inR (ByteArray.size a0 : Int) (1 : Int) (20 : Int))])) a0 n (0 : Int)) := by
  refine Eq.trans (b := (iter (fun st k => ev f91e f91k n (cAt [1,0,1,0,0] f91c) st k) n ⟨[(0, .c (.one (.v (.string a0)))), (3, .c (.one (.v (.int .i64 (0 : Int)))))], [], []⟩ (f91K0 n (exitK f91e [.ro] [false] true [.tmp 2] [4] [.d .str a0] k)))) (by kernel_rfl) ?_
  simp only [f91L0_eq, f91K0_x0, f91K0_x1]
theorem f91_spec (a0 : ByteArray) (hg : okStr a0 = true) : ∃ keep rounds, ∀ {R : Type} (k : List Dt → Option R), evFn f91e keep rounds f91c [.ro] [false] true [.tmp 2] [4] [.d .str a0] k = k [.d .bool (nameOk a0)] := by
  have hl : a0.size ≤ 9223372036854775807 := bleN hg
  refine ⟨f91k, a0.size + 1, fun {R} k => ?_⟩
  rw [f91_run]
  refine Eq.trans (loop_idx (n := a0.size) (F := fun m i => f91L0 (a0.size + 1) _ _ a0 m i) (p := fun j => nameC (j : Int) (byteAt a0 j)) (good := _) (bad := k [.d .bool false])
    (fun m j hj => ?_) (fun m => by simp only [f91L0, idxE, cond_false]; rfl) a0.size 0 (a0.size + 1) (by omega) (by omega)) ?_
  · obtain ⟨h1, h0, hw, ht⟩ := idx hj (by omega)
    simp only [f91L0, h1, h0, hw, ht, Bool.and_self, cond_true]
    show _ = cond (nameC (j : Int) (((ByteArray.data a0).getD j 0).toNat : Int)) _ _
    generalize (((ByteArray.data a0).getD j 0).toNat : Int) = c
    unfold nameC
    rw [show decide ((j : Int) > (0 : Int)) = !((j : Int) == (0 : Int)) by rw [Bool.eq_iff_iff]; simp; omega]
    unfold digit
    cases decide (c ≥ (97 : Int)) <;> cases decide (c ≤ (122 : Int)) <;> cases ((j : Int) == (0 : Int)) <;> cases decide (c ≥ (48 : Int)) <;> cases decide (c ≤ (57 : Int)) <;> cases (c == (45 : Int)) <;> rfl
  · unfold nameOk
    cases allN (fun j => nameC (j : Int) (byteAt a0 j)) 0 a0.size <;> rfl

noncomputable def q91 : List Dt → Option (Bool × List Dt)
  | [.d .str a0] => some ((okStr a0), [.d .bool (nameOk a0)])
  | _ => none
noncomputable def s91 : Gm.Spec := Gm.Spec.of [.ro] [false] true q91
theorem good91 : Gm.Good Try.prog (91, s91) := by
  have hl : ∀ x ∈ [(54, s54)], Gm.Good Try.prog x := List.forall_mem_cons.2 ⟨good54, List.forall_mem_nil _⟩
  refine ⟨⟨spec_ok (tab_ok.env hl) (tab.natl hl) Try.func91 (by kernel_rfl : Try.f91.body = some f91c) [4] (by kernel_rfl) ?_, _, Try.func91, by kernel_rfl, of_decide_eq_true (by kernel_rfl)⟩, Gm.Spec.of_natl _ _ _ _⟩
  intro ds outs h
  unfold q91 at h
  split at h
  · simp only [Option.some.injEq, Prod.mk.injEq] at h; obtain ⟨hg, h⟩ := h; cases h; exact f91_spec _ hg
  · cases h
/-! ### loop.example/g00465/impl.NameOk -/
noncomputable def f96c : Code := (Try.f96.body).getD .skip
def f96k : Nat → Kp := kat [⟨[0], [], [], []⟩, ⟨[0, 6, 7], [], [], []⟩, ⟨[0, 6, 7, 8], [], [], []⟩, ⟨[0, 3, 6, 7], [], [], []⟩, ⟨[0, 3, 4, 6, 7], [], [], []⟩, ⟨[0, 6, 7, 38], [], [], []⟩, ⟨[2], [], [], []⟩, ⟨[0, 6, 7], [], [], []⟩, ⟨[2], [], [], []⟩]
noncomputable def f96e : Env := tab.env [(56, s56), (128, s128)]
noncomputable def f96L0 {R : Type} (n : Nat) (x0 : Option R) (x1 : Int → Bool → Option R) (vs0 : ByteArray) (vs6 : Int) : Nat → Int → Option R
  | 0, _ => none
  | m + 1, vs7 =>
    (cond (decide (vs7 < vs6))
      (cond ((decide ((0 : Int) ≤ vs7)) && (decide (vs7 < (ByteArray.size vs0 : Int))))
        (cond (decide ((((ByteArray.data vs0).getD (Int.toNat vs7) 0).toNat : Int) ≥ (97 : Int)))
          (cond ((decide ((0 : Int) ≤ vs7)) && (decide (vs7 < (ByteArray.size vs0 : Int))))
            (cond (!(decide ((((ByteArray.data vs0).getD (Int.toNat vs7) 0).toNat : Int) ≤ (122 : Int))))
              (cond (vs7 == (0 : Int))
                (x0)
                (cond ((decide ((0 : Int) ≤ vs7)) && (decide (vs7 < (ByteArray.size vs0 : Int))))
                  (cond (!(digit (((ByteArray.data vs0).getD (Int.toNat vs7) 0).toNat : Int)))
                    (cond ((decide ((0 : Int) ≤ vs7)) && (decide (vs7 < (ByteArray.size vs0 : Int))))
                      (cond ((((ByteArray.data vs0).getD (Int.toNat vs7) 0).toNat : Int) != (45 : Int))
                        (x0)
                        (f96L0 n x0 x1 vs0 vs6 m (IntKind.wrap .i64 (vs7 + (1 : Int)))))
                      none)
                    (f96L0 n x0 x1 vs0 vs6 m (IntKind.wrap .i64 (vs7 + (1 : Int)))))
                  none))
              (f96L0 n x0 x1 vs0 vs6 m (IntKind.wrap .i64 (vs7 + (1 : Int)))))
            none)
          (cond (vs7 == (0 : Int))
            (x0)
            (cond ((decide ((0 : Int) ≤ vs7)) && (decide (vs7 < (ByteArray.size vs0 : Int))))
              (cond (!(digit (((ByteArray.data vs0).getD (Int.toNat vs7) 0).toNat : Int)))
                (cond ((decide ((0 : Int) ≤ vs7)) && (decide (vs7 < (ByteArray.size vs0 : Int))))
                  (cond ((((ByteArray.data vs0).getD (Int.toNat vs7) 0).toNat : Int) != (45 : Int))
                    (x0)
                    (f96L0 n x0 x1 vs0 vs6 m (IntKind.wrap .i64 (vs7 + (1 : Int)))))
                  none)
                (f96L0 n x0 x1 vs0 vs6 m (IntKind.wrap .i64 (vs7 + (1 : Int)))))
              none)))
        none)
      (x1 vs7 (decide (vs7 < vs6))))
theorem f96L0_b {R : Type} (n : Nat) (k' : Ex → St → Option R) (vs0 : ByteArray) (vs6 : Int) (vs7 : Int) : ev f96e f96k n (cAt [1,0,1,0,0] f96c) ⟨[(0, .c (.one (.v (.string vs0)))), (6, .c (.one (.v (.int .i64 vs6)))), (7, .c (.one (.v (.int .i64 vs7))))], [], []⟩ k' =
    (cond (decide (vs7 < vs6))
    (cond ((decide ((0 : Int) ≤ vs7)) && (decide (vs7 < (ByteArray.size vs0 : Int))))
      (cond (decide ((((ByteArray.data vs0).getD (Int.toNat vs7) 0).toNat : Int) ≥ (97 : Int)))
        (cond ((decide ((0 : Int) ≤ vs7)) && (decide (vs7 < (ByteArray.size vs0 : Int))))
          (cond (!(decide ((((ByteArray.data vs0).getD (Int.toNat vs7) 0).toNat : Int) ≤ (122 : Int))))
            (cond (vs7 == (0 : Int))
              (k' .ret ⟨[(2, .c (.one (.v (.bool false))))], [], []⟩)
              (cond ((decide ((0 : Int) ≤ vs7)) && (decide (vs7 < (ByteArray.size vs0 : Int))))
                (cond (!(digit (((ByteArray.data vs0).getD (Int.toNat vs7) 0).toNat : Int)))
                  (cond ((decide ((0 : Int) ≤ vs7)) && (decide (vs7 < (ByteArray.size vs0 : Int))))
                    (cond ((((ByteArray.data vs0).getD (Int.toNat vs7) 0).toNat : Int) != (45 : Int))
                      (k' .ret ⟨[(2, .c (.one (.v (.bool false))))], [], []⟩)
                      (k' .normal ⟨[(0, .c (.one (.v (.string vs0)))), (6, .c (.one (.v (.int .i64 vs6)))), (7, .c (.one (.v (.int .i64 (IntKind.wrap .i64 (vs7 + (1 : Int)))))))], [], []⟩))
                    none)
                  (k' .normal ⟨[(0, .c (.one (.v (.string vs0)))), (6, .c (.one (.v (.int .i64 vs6)))), (7, .c (.one (.v (.int .i64 (IntKind.wrap .i64 (vs7 + (1 : Int)))))))], [], []⟩))
                none))
            (k' .normal ⟨[(0, .c (.one (.v (.string vs0)))), (6, .c (.one (.v (.int .i64 vs6)))), (7, .c (.one (.v (.int .i64 (IntKind.wrap .i64 (vs7 + (1 : Int)))))))], [], []⟩))
          none)
        (cond (vs7 == (0 : Int))
          (k' .ret ⟨[(2, .c (.one (.v (.bool false))))], [], []⟩)
          (cond ((decide ((0 : Int) ≤ vs7)) && (decide (vs7 < (ByteArray.size vs0 : Int))))
            (cond (!(digit (((ByteArray.data vs0).getD (Int.toNat vs7) 0).toNat : Int)))
              (cond ((decide ((0 : Int) ≤ vs7)) && (decide (vs7 < (ByteArray.size vs0 : Int))))
                (cond ((((ByteArray.data vs0).getD (Int.toNat vs7) 0).toNat : Int) != (45 : Int))
                  (k' .ret ⟨[(2, .c (.one (.v (.bool false))))], [], []⟩)
                  (k' .normal ⟨[(0, .c (.one (.v (.string vs0)))), (6, .c (.one (.v (.int .i64 vs6)))), (7, .c (.one (.v (.int .i64 (IntKind.wrap .i64 (vs7 + (1 : Int)))))))], [], []⟩))
                none)
              (k' .normal ⟨[(0, .c (.one (.v (.string vs0)))), (6, .c (.one (.v (.int .i64 vs6)))), (7, .c (.one (.v (.int .i64 (IntKind.wrap .i64 (vs7 + (1 : Int)))))))], [], []⟩))
            none)))
      none)
    (k' (.exit 0) ⟨[(0, .c (.one (.v (.string vs0)))), (6, .c (.one (.v (.int .i64 vs6)))), (7, .c (.one (.v (.int .i64 vs7)))), (8, .c (.one (.v (.bool (decide (vs7 < vs6))))))], [], []⟩)) := by kernel_rfl
theorem f96L0_eq {R : Type} (n : Nat) (k' : Ex → St → Option R) (vs0 : ByteArray) (vs6 : Int) : ∀ (m : Nat) (vs7 : Int), iter (fun st k => ev f96e f96k n (cAt [1,0,1,0,0] f96c) st k) m ⟨[(0, .c (.one (.v (.string vs0)))), (6, .c (.one (.v (.int .i64 vs6)))), (7, .c (.one (.v (.int .i64 vs7))))], [], []⟩ k' = f96L0 n (k' .ret ⟨[(2, .c (.one (.v (.bool false))))], [], []⟩) (fun (xvs7 : Int) (xvs8 : Bool) => k' (.exit 0) ⟨[(0, .c (.one (.v (.string vs0)))), (6, .c (.one (.v (.int .i64 vs6)))), (7, .c (.one (.v (.int .i64 xvs7)))), (8, .c (.one (.v (.bool xvs8))))], [], []⟩) vs0 vs6 m vs7 := by
  intro m; induction m with
  | zero => intros; rfl
  | succ m ih =>
    intro vs7
    simp only [iter]
    rw [f96L0_b]
    simp only [ih, f96L0]

noncomputable def f96K0 {R : Type} (n : Nat) (k' : Ex → St → Option R) : Ex → St → Option R := (blockK 0 (seqK f96e f96k n (cAt [1,1] f96c) k'))
theorem f96K0_x0 {R : Type} (n : Nat) (k : List Dt → Option R) (a0 : ByteArray)  : f96K0 n (exitK f96e [.ro] [false] true [.tmp 2] [4] [.d .str a0] k) .ret ⟨[(2, .c (.one (.v (.bool false))))], [], []⟩ =
    (k [.d .bool false]) := by kernel_rfl
theorem f96K0_x1 {R : Type} (n : Nat) (k : List Dt → Option R) (a0 : ByteArray) (vs0 : ByteArray) (vs6 : Int) (xvs7 : Int) (xvs8 : Bool) : f96K0 n (exitK f96e [.ro] [false] true [.tmp 2] [4] [.d .str a0] k) (.exit 0) ⟨[(0, .c (.one (.v (.string vs0)))), (6, .c (.one (.v (.int .i64 vs6)))), (7, .c (.one (.v (.int .i64 xvs7)))), (8, .c (.one (.v (.bool xvs8))))], [], []⟩ =
    (k [.d .bool (inR (ByteArray.size vs0 : Int) (1 : Int) (20 : Int))]) := by kernel_rfl

theorem f96_run {R : Type} (n : Nat) (k : List Dt → Option R) (a0 : ByteArray) : evFn f96e f96k n f96c [.ro] [false] true [.tmp 2] [4] [.d .str a0] k =
    (f96L0 n (k [.d .bool false]) (fun (xvs7 : Int) (xvs8 : Bool) =>
    (k [.d .bool (inR (ByteArray.size a0 : Int) (1 : Int) (20 : Int))])) a0 (ByteArray.size a0 : Int) n (0 : Int)) := by
  refine Eq.trans (b := (iter (fun st k => ev f96e f96k n (cAt [1,0,1,0,0] f96c) st k) n ⟨[(0, .c (.one (.v (.string a0)))), (6, .c (.one (.v (.int .i64 (ByteArray.size a0 : Int))))), (7, .c (.one (.v (.int .i64 (0 : Int)))))], [], []⟩ (f96K0 n (exitK f96e [.ro] [false] true [.tmp 2] [4] [.d .str a0] k)))) (by kernel_rfl) ?_
  simp only [f96L0_eq, f96K0_x0, f96K0_x1]
theorem f96_spec (a0 : ByteArray) (hg : okStr a0 = true) : ∃ keep rounds, ∀ {R : Type} (k : List Dt → Option R), evFn f96e keep rounds f96c [.ro] [false] true [.tmp 2] [4] [.d .str a0] k = k [.d .bool (nameOk a0)] := by
  have hl : a0.size ≤ 9223372036854775807 := bleN hg
  refine ⟨f96k, a0.size + 1, fun {R} k => ?_⟩
  rw [f96_run]
  refine Eq.trans (loop_idx (n := a0.size) (F := fun m i => f96L0 (a0.size + 1) _ _ a0 (a0.size : Int) m i) (p := fun j => nameC (j : Int) (byteAt a0 j)) (good := _) (bad := k [.d .bool false])
    (fun m j hj => ?_) (fun m => by simp only [f96L0, idxE, cond_false]; rfl) a0.size 0 (a0.size + 1) (by omega) (by omega)) ?_
  · obtain ⟨h1, h0, hw, ht⟩ := idx hj (by omega)
    simp only [f96L0, h1, h0, hw, ht, Bool.and_self, cond_true]
    show _ = cond (nameC (j : Int) (((ByteArray.data a0).getD j 0).toNat : Int)) _ _
    generalize (((ByteArray.data a0).getD j 0).toNat : Int) = c
    unfold nameC
    simp only [bne]
    cases decide (c ≥ (97 : Int)) <;> cases decide (c ≤ (122 : Int)) <;> cases ((j : Int) == (0 : Int)) <;> cases digit c <;> cases (c == (45 : Int)) <;> rfl
  · unfold nameOk
    cases allN (fun j => nameC (j : Int) (byteAt a0 j)) 0 a0.size <;> rfl

noncomputable def q96 : List Dt → Option (Bool × List Dt)
  | [.d .str a0] => some ((okStr a0), [.d .bool (nameOk a0)])
  | _ => none
noncomputable def s96 : Gm.Spec := Gm.Spec.of [.ro] [false] true q96
theorem good96 : Gm.Good Try.prog (96, s96) := by
  have hl : ∀ x ∈ [(56, s56), (128, s128)], Gm.Good Try.prog x := List.forall_mem_cons.2 ⟨good56, List.forall_mem_cons.2 ⟨good128, List.forall_mem_nil _⟩⟩
  refine ⟨⟨spec_ok (tab_ok.env hl) (tab.natl hl) Try.func96 (by kernel_rfl : Try.f96.body = some f96c) [4] (by kernel_rfl) ?_, _, Try.func96, by kernel_rfl, of_decide_eq_true (by kernel_rfl)⟩, Gm.Spec.of_natl _ _ _ _⟩
  intro ds outs h
  unfold q96 at h
  split at h
  · simp only [Option.some.injEq, Prod.mk.injEq] at h; obtain ⟨hg, h⟩ := h; cases h; exact f96_spec _ hg
  · cases h
/-! ### loop.example/g00465/spec.TextOk -/
noncomputable def f127c : Code := (Try.f127.body).getD .skip
def f127k : Nat → Kp := kat [⟨[0], [], [], []⟩, ⟨[0, 3], [], [], []⟩, ⟨[0, 3, 7], [], [], []⟩, ⟨[0, 3], [], [], []⟩, ⟨[0, 3, 19], [], [], []⟩, ⟨[2], [], [], []⟩, ⟨[2], [], [], []⟩]
noncomputable def f127e : Env := tab.env []
noncomputable def f127L0 {R : Type} (n : Nat) (x0 : Option R) (x1 : Int → Bool → Option R) (vs0 : ByteArray) : Nat → Int → Option R
  | 0, _ => none
  | m + 1, vs3 =>
    (cond (decide (vs3 < (ByteArray.size vs0 : Int)))
      (cond ((decide ((0 : Int) ≤ vs3)) && (decide (vs3 < (ByteArray.size vs0 : Int))))
        (cond (decide ((((ByteArray.data vs0).getD (Int.toNat vs3) 0).toNat : Int) < (32 : Int)))
          (x0)
          (cond ((decide ((0 : Int) ≤ vs3)) && (decide (vs3 < (ByteArray.size vs0 : Int))))
            (cond (decide ((((ByteArray.data vs0).getD (Int.toNat vs3) 0).toNat : Int) > (126 : Int)))
              (x0)
              (f127L0 n x0 x1 vs0 m (IntKind.wrap .i64 (vs3 + (1 : Int)))))
            none))
        none)
      (x1 vs3 (decide (vs3 < (ByteArray.size vs0 : Int)))))
theorem f127L0_b {R : Type} (n : Nat) (k' : Ex → St → Option R) (vs0 : ByteArray) (vs3 : Int) : ev f127e f127k n (cAt [1,0,1,0,0] f127c) ⟨[(0, .c (.one (.v (.string vs0)))), (3, .c (.one (.v (.int .i64 vs3))))], [], []⟩ k' =
    (cond (decide (vs3 < (ByteArray.size vs0 : Int)))
    (cond ((decide ((0 : Int) ≤ vs3)) && (decide (vs3 < (ByteArray.size vs0 : Int))))
      (cond (decide ((((ByteArray.data vs0).getD (Int.toNat vs3) 0).toNat : Int) < (32 : Int)))
        (k' .ret ⟨[(2, .c (.one (.v (.bool false))))], [], []⟩)
        (cond ((decide ((0 : Int) ≤ vs3)) && (decide (vs3 < (ByteArray.size vs0 : Int))))
          (cond (decide ((((ByteArray.data vs0).getD (Int.toNat vs3) 0).toNat : Int) > (126 : Int)))
            (k' .ret ⟨[(2, .c (.one (.v (.bool false))))], [], []⟩)
            (k' .normal ⟨[(0, .c (.one (.v (.string vs0)))), (3, .c (.one (.v (.int .i64 (IntKind.wrap .i64 (vs3 + (1 : Int)))))))], [], []⟩))
          none))
      none)
    (k' (.exit 0) ⟨[(0, .c (.one (.v (.string vs0)))), (3, .c (.one (.v (.int .i64 vs3)))), (7, .c (.one (.v (.bool (decide (vs3 < (ByteArray.size vs0 : Int)))))))], [], []⟩)) := by kernel_rfl
theorem f127L0_eq {R : Type} (n : Nat) (k' : Ex → St → Option R) (vs0 : ByteArray) : ∀ (m : Nat) (vs3 : Int), iter (fun st k => ev f127e f127k n (cAt [1,0,1,0,0] f127c) st k) m ⟨[(0, .c (.one (.v (.string vs0)))), (3, .c (.one (.v (.int .i64 vs3))))], [], []⟩ k' = f127L0 n (k' .ret ⟨[(2, .c (.one (.v (.bool false))))], [], []⟩) (fun (xvs3 : Int) (xvs7 : Bool) => k' (.exit 0) ⟨[(0, .c (.one (.v (.string vs0)))), (3, .c (.one (.v (.int .i64 xvs3)))), (7, .c (.one (.v (.bool xvs7))))], [], []⟩) vs0 m vs3 := by
  intro m; induction m with
  | zero => intros; rfl
  | succ m ih =>
    intro vs3
    simp only [iter]
    rw [f127L0_b]
    simp only [ih, f127L0]

noncomputable def f127K0 {R : Type} (n : Nat) (k' : Ex → St → Option R) : Ex → St → Option R := (blockK 0 (seqK f127e f127k n (cAt [1,1] f127c) k'))
theorem f127K0_x0 {R : Type} (n : Nat) (k : List Dt → Option R) (a0 : ByteArray)  : f127K0 n (exitK f127e [.ro] [false] true [.tmp 2] [4] [.d .str a0] k) .ret ⟨[(2, .c (.one (.v (.bool false))))], [], []⟩ =
    (k [.d .bool false]) := by kernel_rfl
theorem f127K0_x1 {R : Type} (n : Nat) (k : List Dt → Option R) (a0 : ByteArray) (vs0 : ByteArray) (xvs3 : Int) (xvs7 : Bool) : f127K0 n (exitK f127e [.ro] [false] true [.tmp 2] [4] [.d .str a0] k) (.exit 0) ⟨[(0, .c (.one (.v (.string vs0)))), (3, .c (.one (.v (.int .i64 xvs3)))), (7, .c (.one (.v (.bool xvs7))))], [], []⟩ =
    (k [.d .bool (decide ((ByteArray.size vs0 : Int) ≤ (400 : Int)))]) := by kernel_rfl

theorem f127_run {R : Type} (n : Nat) (k : List Dt → Option R) (a0 : ByteArray) : evFn f127e f127k n f127c [.ro] [false] true [.tmp 2] [4] [.d .str a0] k =
    (f127L0 n (k [.d .bool false]) (fun (xvs3 : Int) (xvs7 : Bool) =>
    (k [.d .bool (decide ((ByteArray.size a0 : Int) ≤ (400 : Int)))])) a0 n (0 : Int)) := by
  refine Eq.trans (b := (iter (fun st k => ev f127e f127k n (cAt [1,0,1,0,0] f127c) st k) n ⟨[(0, .c (.one (.v (.string a0)))), (3, .c (.one (.v (.int .i64 (0 : Int)))))], [], []⟩ (f127K0 n (exitK f127e [.ro] [false] true [.tmp 2] [4] [.d .str a0] k)))) (by kernel_rfl) ?_
  simp only [f127L0_eq, f127K0_x0, f127K0_x1]
theorem f127_spec (a0 : ByteArray) (hg : okStr a0 = true) : ∃ keep rounds, ∀ {R : Type} (k : List Dt → Option R), evFn f127e keep rounds f127c [.ro] [false] true [.tmp 2] [4] [.d .str a0] k = k [.d .bool (textOk a0)] := by
  have hl : a0.size ≤ 9223372036854775807 := bleN hg
  refine ⟨f127k, a0.size + 1, fun {R} k => ?_⟩
  rw [f127_run]
  refine Eq.trans (loop_idx (n := a0.size) (F := fun m i => f127L0 (a0.size + 1) _ _ a0 m i) (p := fun j => inR (byteAt a0 j) 32 126) (good := _) (bad := k [.d .bool false])
    (fun m j hj => ?_) (fun m => by simp only [f127L0, idxE, cond_false]; rfl) a0.size 0 (a0.size + 1) (by omega) (by omega)) ?_
  · obtain ⟨h1, h0, hw, ht⟩ := idx hj (by omega)
    have hc : 0 ≤ byteAt a0 j ∧ byteAt a0 j < 256 := by
      unfold byteAt
      have := UInt8.toNat_lt (a0.data.getD j 0)
      omega
    simp only [f127L0, h1, h0, hw, ht, Bool.and_self, cond_true]
    change 0 ≤ (((ByteArray.data a0).getD j 0).toNat : Int) ∧ (((ByteArray.data a0).getD j 0).toNat : Int) < 256 at hc
    show _ = cond (inR (((ByteArray.data a0).getD j 0).toNat : Int) 32 126) _ _
    generalize (((ByteArray.data a0).getD j 0).toNat : Int) = c at *
    unfold inR
    rw [show decide (c < 32) = !(decide (c ≥ 32)) by rw [Bool.eq_iff_iff]; simp, show decide (c > 126) = !(decide (c ≤ 126)) by rw [Bool.eq_iff_iff]; simp]
    cases decide (c ≥ 32) <;> cases decide (c ≤ 126) <;> rfl
  · unfold textOk
    cases allN (fun j => inR (byteAt a0 j) 32 126) 0 a0.size <;> rfl

noncomputable def q127 : List Dt → Option (Bool × List Dt)
  | [.d .str a0] => some ((okStr a0), [.d .bool (textOk a0)])
  | _ => none
noncomputable def s127 : Gm.Spec := Gm.Spec.of [.ro] [false] true q127
theorem good127 : Gm.Good Try.prog (127, s127) := by
  have hl : ∀ x ∈ ([] : List (Nat × Gm.Spec)), Gm.Good Try.prog x := fun _ h => by cases h
  refine ⟨⟨spec_ok (tab_ok.env hl) (tab.natl hl) Try.func127 (by kernel_rfl : Try.f127.body = some f127c) [4] (by kernel_rfl) ?_, _, Try.func127, by kernel_rfl, of_decide_eq_true (by kernel_rfl)⟩, Gm.Spec.of_natl _ _ _ _⟩
  intro ds outs h
  unfold q127 at h
  split at h
  · simp only [Option.some.injEq, Prod.mk.injEq] at h; obtain ⟨hg, h⟩ := h; cases h; exact f127_spec _ hg
  · cases h
/-! ### loop.example/g00465/impl.TextOk -/
noncomputable def f132c : Code := (Try.f132.body).getD .skip
def f132k : Nat → Kp := kat [⟨[0], [], [], []⟩, ⟨[0, 5, 6], [], [], []⟩, ⟨[0, 5, 6, 7], [], [], []⟩, ⟨[0, 3, 5, 6], [], [], []⟩, ⟨[0, 5, 6, 14], [], [], []⟩, ⟨[2], [], [], []⟩, ⟨[0, 5, 6], [], [], []⟩, ⟨[2], [], [], []⟩]
noncomputable def f132e : Env := tab.env [(56, s56)]
noncomputable def f132L0 {R : Type} (n : Nat) (x0 : Option R) (x1 : Int → Bool → Option R) (vs0 : ByteArray) (vs5 : Int) : Nat → Int → Option R
  | 0, _ => none
  | m + 1, vs6 =>
    (cond (decide (vs6 < vs5))
      (cond ((decide ((0 : Int) ≤ vs6)) && (decide (vs6 < (ByteArray.size vs0 : Int))))
        (cond (!(inR (IntKind.wrap .i64 (((ByteArray.data vs0).getD (Int.toNat vs6) 0).toNat : Int)) (32 : Int) (126 : Int)))
          (x0)
          (f132L0 n x0 x1 vs0 vs5 m (IntKind.wrap .i64 (vs6 + (1 : Int)))))
        none)
      (x1 vs6 (decide (vs6 < vs5))))
theorem f132L0_b {R : Type} (n : Nat) (k' : Ex → St → Option R) (vs0 : ByteArray) (vs5 : Int) (vs6 : Int) : ev f132e f132k n (cAt [1,0,1,0,0] f132c) ⟨[(0, .c (.one (.v (.string vs0)))), (5, .c (.one (.v (.int .i64 vs5)))), (6, .c (.one (.v (.int .i64 vs6))))], [], []⟩ k' =
    (cond (decide (vs6 < vs5))
    (cond ((decide ((0 : Int) ≤ vs6)) && (decide (vs6 < (ByteArray.size vs0 : Int))))
      (cond (!(inR (IntKind.wrap .i64 (((ByteArray.data vs0).getD (Int.toNat vs6) 0).toNat : Int)) (32 : Int) (126 : Int)))
        (k' .ret ⟨[(2, .c (.one (.v (.bool false))))], [], []⟩)
        (k' .normal ⟨[(0, .c (.one (.v (.string vs0)))), (5, .c (.one (.v (.int .i64 vs5)))), (6, .c (.one (.v (.int .i64 (IntKind.wrap .i64 (vs6 + (1 : Int)))))))], [], []⟩))
      none)
    (k' (.exit 0) ⟨[(0, .c (.one (.v (.string vs0)))), (5, .c (.one (.v (.int .i64 vs5)))), (6, .c (.one (.v (.int .i64 vs6)))), (7, .c (.one (.v (.bool (decide (vs6 < vs5))))))], [], []⟩)) := by kernel_rfl
theorem f132L0_eq {R : Type} (n : Nat) (k' : Ex → St → Option R) (vs0 : ByteArray) (vs5 : Int) : ∀ (m : Nat) (vs6 : Int), iter (fun st k => ev f132e f132k n (cAt [1,0,1,0,0] f132c) st k) m ⟨[(0, .c (.one (.v (.string vs0)))), (5, .c (.one (.v (.int .i64 vs5)))), (6, .c (.one (.v (.int .i64 vs6))))], [], []⟩ k' = f132L0 n (k' .ret ⟨[(2, .c (.one (.v (.bool false))))], [], []⟩) (fun (xvs6 : Int) (xvs7 : Bool) => k' (.exit 0) ⟨[(0, .c (.one (.v (.string vs0)))), (5, .c (.one (.v (.int .i64 vs5)))), (6, .c (.one (.v (.int .i64 xvs6)))), (7, .c (.one (.v (.bool xvs7))))], [], []⟩) vs0 vs5 m vs6 := by
  intro m; induction m with
  | zero => intros; rfl
  | succ m ih =>
    intro vs6
    simp only [iter]
    rw [f132L0_b]
    simp only [ih, f132L0]

noncomputable def f132K0 {R : Type} (n : Nat) (k' : Ex → St → Option R) : Ex → St → Option R := (blockK 0 (seqK f132e f132k n (cAt [1,1] f132c) k'))
theorem f132K0_x0 {R : Type} (n : Nat) (k : List Dt → Option R) (a0 : ByteArray)  : f132K0 n (exitK f132e [.ro] [false] true [.tmp 2] [4] [.d .str a0] k) .ret ⟨[(2, .c (.one (.v (.bool false))))], [], []⟩ =
    (k [.d .bool false]) := by kernel_rfl
theorem f132K0_x1 {R : Type} (n : Nat) (k : List Dt → Option R) (a0 : ByteArray) (vs0 : ByteArray) (vs5 : Int) (xvs6 : Int) (xvs7 : Bool) : f132K0 n (exitK f132e [.ro] [false] true [.tmp 2] [4] [.d .str a0] k) (.exit 0) ⟨[(0, .c (.one (.v (.string vs0)))), (5, .c (.one (.v (.int .i64 vs5)))), (6, .c (.one (.v (.int .i64 xvs6)))), (7, .c (.one (.v (.bool xvs7))))], [], []⟩ =
    (k [.d .bool (decide ((ByteArray.size vs0 : Int) ≤ (400 : Int)))]) := by kernel_rfl

theorem f132_run {R : Type} (n : Nat) (k : List Dt → Option R) (a0 : ByteArray) : evFn f132e f132k n f132c [.ro] [false] true [.tmp 2] [4] [.d .str a0] k =
    (f132L0 n (k [.d .bool false]) (fun (xvs6 : Int) (xvs7 : Bool) =>
    (k [.d .bool (decide ((ByteArray.size a0 : Int) ≤ (400 : Int)))])) a0 (ByteArray.size a0 : Int) n (0 : Int)) := by
  refine Eq.trans (b := (iter (fun st k => ev f132e f132k n (cAt [1,0,1,0,0] f132c) st k) n ⟨[(0, .c (.one (.v (.string a0)))), (5, .c (.one (.v (.int .i64 (ByteArray.size a0 : Int))))), (6, .c (.one (.v (.int .i64 (0 : Int)))))], [], []⟩ (f132K0 n (exitK f132e [.ro] [false] true [.tmp 2] [4] [.d .str a0] k)))) (by kernel_rfl) ?_
  simp only [f132L0_eq, f132K0_x0, f132K0_x1]
theorem f132_spec (a0 : ByteArray) (hg : okStr a0 = true) : ∃ keep rounds, ∀ {R : Type} (k : List Dt → Option R), evFn f132e keep rounds f132c [.ro] [false] true [.tmp 2] [4] [.d .str a0] k = k [.d .bool (textOk a0)] := by
  have hl : a0.size ≤ 9223372036854775807 := bleN hg
  refine ⟨f132k, a0.size + 1, fun {R} k => ?_⟩
  rw [f132_run]
  refine Eq.trans (loop_idx (n := a0.size) (F := fun m i => f132L0 (a0.size + 1) _ _ a0 (a0.size : Int) m i) (p := fun j => inR (byteAt a0 j) 32 126) (good := _) (bad := k [.d .bool false])
    (fun m j hj => ?_) (fun m => by simp only [f132L0, idxE, cond_false]; rfl) a0.size 0 (a0.size + 1) (by omega) (by omega)) ?_
  · obtain ⟨h1, h0, hw, ht⟩ := idx hj (by omega)
    have hc : 0 ≤ byteAt a0 j ∧ byteAt a0 j < 256 := by
      unfold byteAt
      have := UInt8.toNat_lt (a0.data.getD j 0)
      omega
    simp only [f132L0, h1, h0, hw, ht, Bool.and_self, cond_true]
    change 0 ≤ (((ByteArray.data a0).getD j 0).toNat : Int) ∧ (((ByteArray.data a0).getD j 0).toNat : Int) < 256 at hc
    show _ = cond (inR (((ByteArray.data a0).getD j 0).toNat : Int) 32 126) _ _
    generalize (((ByteArray.data a0).getD j 0).toNat : Int) = c at *
    rw [wrap_id (by omega) (by omega)]
    cases inR c 32 126 <;> rfl
  · unfold textOk
    cases allN (fun j => inR (byteAt a0 j) 32 126) 0 a0.size <;> rfl

noncomputable def q132 : List Dt → Option (Bool × List Dt)
  | [.d .str a0] => some ((okStr a0), [.d .bool (textOk a0)])
  | _ => none
noncomputable def s132 : Gm.Spec := Gm.Spec.of [.ro] [false] true q132
theorem good132 : Gm.Good Try.prog (132, s132) := by
  have hl : ∀ x ∈ [(56, s56)], Gm.Good Try.prog x := List.forall_mem_cons.2 ⟨good56, List.forall_mem_nil _⟩
  refine ⟨⟨spec_ok (tab_ok.env hl) (tab.natl hl) Try.func132 (by kernel_rfl : Try.f132.body = some f132c) [4] (by kernel_rfl) ?_, _, Try.func132, by kernel_rfl, of_decide_eq_true (by kernel_rfl)⟩, Gm.Spec.of_natl _ _ _ _⟩
  intro ds outs h
  unfold q132 at h
  split at h
  · simp only [Option.some.injEq, Prod.mk.injEq] at h; obtain ⟨hg, h⟩ := h; cases h; exact f132_spec _ hg
  · cases h
end Go.Proofs.Ytnbehmbjoanfoaa

/- x -/
namespace Go.Proofs.Ytnbehmbjoanfoaa
open Go Go.Gm

set_option maxHeartbeats 1000000 in
set_option maxRecDepth 100000 in
theorem liteIdx (s : ByteArray) (c : Int) (w : World) : Calls Try.prog 157 #[.string s, .int .u8 c] w fun e w' => e = .returned (.int .i64 (idxB s c)) ∧ w' = w := by
  go_enter Try.func157, Try.ntmps157
  go_wp2
  rw [run_callFunc_extern Try.func159 (by kernel_rfl) (by kernel_rfl) (by kernel_rfl) (e := Extern.BytealgIndexByte.indexByte) (by kernel_rfl), Lib.run_indexByteString]
  simp only [Result.andThen]
  rw [Oper.upon_value]
  go_wp2
  go_ret
  exact ⟨rfl, rfl⟩
noncomputable def q157 : List Dt → Option (Bool × List Dt)
  | [.d .str a0, .d (.i .u8) a1] => some (true, [.d (.i .i64) (idxB a0 a1)])
  | _ => none
noncomputable def s157 : Gm.Spec := Gm.Spec.of [.ro, .ro] [false] true q157
theorem good157 : Gm.Good Try.prog (157, s157) := by
  refine ⟨⟨spec_plain rfl ?_, _, Try.func157, by kernel_rfl, of_decide_eq_true (by kernel_rfl)⟩, Gm.Spec.of_natl _ _ _ _⟩
  intro ds outs h
  unfold q157 at h
  split at h
  · rename_i a0 a1
    cases h
    refine ⟨_, _, .int .i64 (idxB a0 a1), rfl, rfl, rfl, rfl, fun w us ROa Fs hA => ?_⟩
    cases hA with
    | cons h1 hA =>
      cases hA with
      | cons h2 hA =>
        cases hA
        have e1 := valRd_v (t := .str) (v := .string a0) rfl rfl h1
        have e2 := valRd_v (t := .i .u8) (v := .int .u8 a1) rfl rfl h2
        subst e1 e2
        exact liteIdx a0 a1 w
  · cases h
end Go.Proofs.Ytnbehmbjoanfoaa

/- x -/
namespace Go.Proofs.Ytnbehmbjoanfoaa
open Go Go.Gm
/-! ### strings.IndexByte -/
noncomputable def f150c : Code := (Try.f150.body).getD .skip
def f150k : Nat → Kp := kat [⟨[0, 1], [], [], []⟩, ⟨[4], [], [], []⟩]
noncomputable def f150e : Env := tab.env [(157, s157)]
theorem f150_run {R : Type} (n : Nat) (k : List Dt → Option R) (a0 : ByteArray) (a1 : Int) : evFn f150e f150k n f150c [.ro, .ro] [false] true [.tmp 4] [3] [.d .str a0, .d (.i .u8) a1] k =
    (k [.d (.i .i64) (idxB a0 a1)]) := by kernel_rfl
theorem f150_spec (a0 : ByteArray) (a1 : Int) : ∃ keep rounds, ∀ {R : Type} (k : List Dt → Option R), evFn f150e keep rounds f150c [.ro, .ro] [false] true [.tmp 4] [3] [.d .str a0, .d (.i .u8) a1] k = k [.d (.i .i64) (idxB a0 a1)] := ⟨f150k, 0, fun k => f150_run 0 k _ _⟩

noncomputable def q150 : List Dt → Option (Bool × List Dt)
  | [.d .str a0, .d (.i .u8) a1] => some (true, [.d (.i .i64) (idxB a0 a1)])
  | _ => none
noncomputable def s150 : Gm.Spec := Gm.Spec.of [.ro, .ro] [false] true q150
theorem good150 : Gm.Good Try.prog (150, s150) := by
  have hl : ∀ x ∈ [(157, s157)], Gm.Good Try.prog x := List.forall_mem_cons.2 ⟨good157, List.forall_mem_nil _⟩
  refine ⟨⟨spec_ok (tab_ok.env hl) (tab.natl hl) Try.func150 (by kernel_rfl : Try.f150.body = some f150c) [3] (by kernel_rfl) ?_, _, Try.func150, by kernel_rfl, of_decide_eq_true (by kernel_rfl)⟩, Gm.Spec.of_natl _ _ _ _⟩
  intro ds outs h
  unfold q150 at h
  split at h
  · cases h; exact f150_spec _ _
  · cases h
/-! ### loop.example/g00465/spec.PlainOk -/
noncomputable def f125c : Code := (Try.f125.body).getD .skip
def f125k : Nat → Kp := kat [⟨[0], [], [], []⟩, ⟨[0, 3], [], [], []⟩, ⟨[0, 3, 8], [], [], []⟩, ⟨[0, 3], [], [], []⟩, ⟨[0, 3, 4], [], [], []⟩, ⟨[0, 3, 45], [], [], []⟩, ⟨[2], [], [], []⟩, ⟨[2], [], [], []⟩]
noncomputable def f125e : Env := tab.env [(54, s54), (148, s148)]
noncomputable def f125L0 {R : Type} (n : Nat) (x0 : Option R) (x1 : Int → Bool → Option R) (vs0 : ByteArray) : Nat → Int → Option R
  | 0, _ => none
  | m + 1, vs3 =>
    (cond (decide (vs3 < (ByteArray.size vs0 : Int)))
      (cond ((decide ((0 : Int) ≤ vs3)) && (decide (vs3 < (ByteArray.size vs0 : Int))))
        (cond (!(letter (((ByteArray.data vs0).getD (Int.toNat vs3) 0).toNat : Int)))
          (cond (vs3 == (0 : Int))
            (x0)
            (cond (decide ((((ByteArray.data vs0).getD (Int.toNat vs3) 0).toNat : Int) ≥ (48 : Int)))
              (cond (decide ((((ByteArray.data vs0).getD (Int.toNat vs3) 0).toNat : Int) ≤ (57 : Int)))
                (f125L0 n x0 x1 vs0 m (IntKind.wrap .i64 (vs3 + (1 : Int))))
                (cond ((((ByteArray.data vs0).getD (Int.toNat vs3) 0).toNat : Int) == (95 : Int))
                  (f125L0 n x0 x1 vs0 m (IntKind.wrap .i64 (vs3 + (1 : Int))))
                  (cond ((((ByteArray.data vs0).getD (Int.toNat vs3) 0).toNat : Int) == (46 : Int))
                    (f125L0 n x0 x1 vs0 m (IntKind.wrap .i64 (vs3 + (1 : Int))))
                    (cond ((((ByteArray.data vs0).getD (Int.toNat vs3) 0).toNat : Int) == (47 : Int))
                      (f125L0 n x0 x1 vs0 m (IntKind.wrap .i64 (vs3 + (1 : Int))))
                      (cond (!((((ByteArray.data vs0).getD (Int.toNat vs3) 0).toNat : Int) == (45 : Int)))
                        (x0)
                        (f125L0 n x0 x1 vs0 m (IntKind.wrap .i64 (vs3 + (1 : Int)))))))))
              (cond ((((ByteArray.data vs0).getD (Int.toNat vs3) 0).toNat : Int) == (95 : Int))
                (f125L0 n x0 x1 vs0 m (IntKind.wrap .i64 (vs3 + (1 : Int))))
                (cond ((((ByteArray.data vs0).getD (Int.toNat vs3) 0).toNat : Int) == (46 : Int))
                  (f125L0 n x0 x1 vs0 m (IntKind.wrap .i64 (vs3 + (1 : Int))))
                  (cond ((((ByteArray.data vs0).getD (Int.toNat vs3) 0).toNat : Int) == (47 : Int))
                    (f125L0 n x0 x1 vs0 m (IntKind.wrap .i64 (vs3 + (1 : Int))))
                    (cond (!((((ByteArray.data vs0).getD (Int.toNat vs3) 0).toNat : Int) == (45 : Int)))
                      (x0)
                      (f125L0 n x0 x1 vs0 m (IntKind.wrap .i64 (vs3 + (1 : Int))))))))))
          (f125L0 n x0 x1 vs0 m (IntKind.wrap .i64 (vs3 + (1 : Int)))))
        none)
      (x1 vs3 (decide (vs3 < (ByteArray.size vs0 : Int)))))
theorem f125L0_b {R : Type} (n : Nat) (k' : Ex → St → Option R) (vs0 : ByteArray) (vs3 : Int) : ev f125e f125k n (cAt [1,0,1,0,0] f125c) ⟨[(0, .c (.one (.v (.string vs0)))), (3, .c (.one (.v (.int .i64 vs3))))], [], []⟩ k' =
    (cond (decide (vs3 < (ByteArray.size vs0 : Int)))
    (cond ((decide ((0 : Int) ≤ vs3)) && (decide (vs3 < (ByteArray.size vs0 : Int))))
      (cond (!(letter (((ByteArray.data vs0).getD (Int.toNat vs3) 0).toNat : Int)))
        (cond (vs3 == (0 : Int))
          (k' .ret ⟨[(2, .c (.one (.v (.bool false))))], [], []⟩)
          (cond (decide ((((ByteArray.data vs0).getD (Int.toNat vs3) 0).toNat : Int) ≥ (48 : Int)))
            (cond (decide ((((ByteArray.data vs0).getD (Int.toNat vs3) 0).toNat : Int) ≤ (57 : Int)))
              (k' .normal ⟨[(0, .c (.one (.v (.string vs0)))), (3, .c (.one (.v (.int .i64 (IntKind.wrap .i64 (vs3 + (1 : Int)))))))], [], []⟩)
              (cond ((((ByteArray.data vs0).getD (Int.toNat vs3) 0).toNat : Int) == (95 : Int))
                (k' .normal ⟨[(0, .c (.one (.v (.string vs0)))), (3, .c (.one (.v (.int .i64 (IntKind.wrap .i64 (vs3 + (1 : Int)))))))], [], []⟩)
                (cond ((((ByteArray.data vs0).getD (Int.toNat vs3) 0).toNat : Int) == (46 : Int))
                  (k' .normal ⟨[(0, .c (.one (.v (.string vs0)))), (3, .c (.one (.v (.int .i64 (IntKind.wrap .i64 (vs3 + (1 : Int)))))))], [], []⟩)
                  (cond ((((ByteArray.data vs0).getD (Int.toNat vs3) 0).toNat : Int) == (47 : Int))
                    (k' .normal ⟨[(0, .c (.one (.v (.string vs0)))), (3, .c (.one (.v (.int .i64 (IntKind.wrap .i64 (vs3 + (1 : Int)))))))], [], []⟩)
                    (cond (!((((ByteArray.data vs0).getD (Int.toNat vs3) 0).toNat : Int) == (45 : Int)))
                      (k' .ret ⟨[(2, .c (.one (.v (.bool false))))], [], []⟩)
                      (k' .normal ⟨[(0, .c (.one (.v (.string vs0)))), (3, .c (.one (.v (.int .i64 (IntKind.wrap .i64 (vs3 + (1 : Int)))))))], [], []⟩))))))
            (cond ((((ByteArray.data vs0).getD (Int.toNat vs3) 0).toNat : Int) == (95 : Int))
              (k' .normal ⟨[(0, .c (.one (.v (.string vs0)))), (3, .c (.one (.v (.int .i64 (IntKind.wrap .i64 (vs3 + (1 : Int)))))))], [], []⟩)
              (cond ((((ByteArray.data vs0).getD (Int.toNat vs3) 0).toNat : Int) == (46 : Int))
                (k' .normal ⟨[(0, .c (.one (.v (.string vs0)))), (3, .c (.one (.v (.int .i64 (IntKind.wrap .i64 (vs3 + (1 : Int)))))))], [], []⟩)
                (cond ((((ByteArray.data vs0).getD (Int.toNat vs3) 0).toNat : Int) == (47 : Int))
                  (k' .normal ⟨[(0, .c (.one (.v (.string vs0)))), (3, .c (.one (.v (.int .i64 (IntKind.wrap .i64 (vs3 + (1 : Int)))))))], [], []⟩)
                  (cond (!((((ByteArray.data vs0).getD (Int.toNat vs3) 0).toNat : Int) == (45 : Int)))
                    (k' .ret ⟨[(2, .c (.one (.v (.bool false))))], [], []⟩)
                    (k' .normal ⟨[(0, .c (.one (.v (.string vs0)))), (3, .c (.one (.v (.int .i64 (IntKind.wrap .i64 (vs3 + (1 : Int)))))))], [], []⟩)))))))
        (k' .normal ⟨[(0, .c (.one (.v (.string vs0)))), (3, .c (.one (.v (.int .i64 (IntKind.wrap .i64 (vs3 + (1 : Int)))))))], [], []⟩))
      none)
    (k' (.exit 0) ⟨[(0, .c (.one (.v (.string vs0)))), (3, .c (.one (.v (.int .i64 vs3)))), (8, .c (.one (.v (.bool (decide (vs3 < (ByteArray.size vs0 : Int)))))))], [], []⟩)) := by kernel_rfl
theorem f125L0_eq {R : Type} (n : Nat) (k' : Ex → St → Option R) (vs0 : ByteArray) : ∀ (m : Nat) (vs3 : Int), iter (fun st k => ev f125e f125k n (cAt [1,0,1,0,0] f125c) st k) m ⟨[(0, .c (.one (.v (.string vs0)))), (3, .c (.one (.v (.int .i64 vs3))))], [], []⟩ k' = f125L0 n (k' .ret ⟨[(2, .c (.one (.v (.bool false))))], [], []⟩) (fun (xvs3 : Int) (xvs8 : Bool) => k' (.exit 0) ⟨[(0, .c (.one (.v (.string vs0)))), (3, .c (.one (.v (.int .i64 xvs3)))), (8, .c (.one (.v (.bool xvs8))))], [], []⟩) vs0 m vs3 := by
  intro m; induction m with
  | zero => intros; rfl
  | succ m ih =>
    intro vs3
    simp only [iter]
    rw [f125L0_b]
    simp only [ih, f125L0]

noncomputable def f125K0 {R : Type} (n : Nat) (k' : Ex → St → Option R) : Ex → St → Option R := (blockK 0 (seqK f125e f125k n (cAt [1,1] f125c) k'))
theorem f125K0_x0 {R : Type} (n : Nat) (k : List Dt → Option R) (a0 : ByteArray)  : f125K0 n (exitK f125e [.ro] [false] true [.tmp 2] [4] [.d .str a0] k) .ret ⟨[(2, .c (.one (.v (.bool false))))], [], []⟩ =
    (k [.d .bool false]) := by kernel_rfl
theorem f125K0_x1 {R : Type} (n : Nat) (k : List Dt → Option R) (a0 : ByteArray) (vs0 : ByteArray) (xvs3 : Int) (xvs8 : Bool) : f125K0 n (exitK f125e [.ro] [false] true [.tmp 2] [4] [.d .str a0] k) (.exit 0) ⟨[(0, .c (.one (.v (.string vs0)))), (3, .c (.one (.v (.int .i64 xvs3)))), (8, .c (.one (.v (.bool xvs8))))], [], []⟩ =
    (cond (inR (ByteArray.size vs0 : Int) (1 : Int) (60 : Int))
    (cond (!(sEq vs0 (bs [110,117,108,108])))
      (cond (!(sEq vs0 (bs [116,114,117,101])))
        (k [.d .bool (!(sEq vs0 (bs [102,97,108,115,101])))])
        (k [.d .bool false]))
      (k [.d .bool false]))
    (k [.d .bool false])) := by kernel_rfl

theorem f125_run {R : Type} (n : Nat) (k : List Dt → Option R) (a0 : ByteArray) : evFn f125e f125k n f125c [.ro] [false] true [.tmp 2] [4] [.d .str a0] k =
    (f125L0 n (k [.d .bool false]) (fun (xvs3 : Int) (xvs8 : Bool) =>
    (cond (inR (ByteArray.size a0 : Int) (1 : Int) (60 : Int))
      (cond (!(sEq a0 (bs [110,117,108,108])))
        (cond (!(sEq a0 (bs [116,114,117,101])))
          (k [.d .bool (!(sEq a0 (bs [102,97,108,115,101])))])
          (k [.d .bool false]))
        (k [.d .bool false]))
      (k [.d .bool false]))) a0 n (0 : Int)) := by
  refine Eq.trans (b := (iter (fun st k => ev f125e f125k n (cAt [1,0,1,0,0] f125c) st k) n ⟨[(0, .c (.one (.v (.string a0)))), (3, .c (.one (.v (.int .i64 (0 : Int)))))], [], []⟩ (f125K0 n (exitK f125e [.ro] [false] true [.tmp 2] [4] [.d .str a0] k)))) (by kernel_rfl) ?_
  simp only [f125L0_eq, f125K0_x0, f125K0_x1]
theorem f125_spec (a0 : ByteArray) (hg : okStr a0 = true) : ∃ keep rounds, ∀ {R : Type} (k : List Dt → Option R), evFn f125e keep rounds f125c [.ro] [false] true [.tmp 2] [4] [.d .str a0] k = k [.d .bool (plainOk a0)] := by
  have hl : a0.size ≤ 9223372036854775807 := bleN hg
  refine ⟨f125k, a0.size + 1, fun k => ?_⟩
  rw [f125_run]
  refine Eq.trans (loop_idx (n := a0.size) (F := fun m i => f125L0 (a0.size + 1) _ _ a0 m i) (p := fun j => plainC (j : Int) (byteAt a0 j)) (good := _) (bad := k [.d .bool false])
    (fun m j hj => ?_) (fun m => by simp only [f125L0, idxE, cond_false]; rfl) a0.size 0 (a0.size + 1) (by omega) (by omega)) ?_
  · obtain ⟨h1, h0, hw, ht⟩ := idx hj (by omega)
    simp only [f125L0, h1, h0, hw, ht, Bool.and_self, cond_true]
    show _ = cond (plainC (j : Int) (((ByteArray.data a0).getD j 0).toNat : Int)) _ _
    generalize (((ByteArray.data a0).getD j 0).toNat : Int) = c
    unfold plainC digit
    cases letter c
    · cases ((j : Int) == (0 : Int))
      · cases decide (c ≥ (48 : Int)) <;> cases decide (c ≤ (57 : Int)) <;> cases (c == (95 : Int)) <;> cases (c == (46 : Int)) <;> cases (c == (47 : Int)) <;> cases (c == (45 : Int)) <;> rfl
      · rfl
    · rfl
  · unfold plainOk
    cases allN (fun j => plainC (j : Int) (byteAt a0 j)) 0 a0.size <;> cases inR (a0.size : Int) 1 60 <;> cases sEq a0 (bs [110,117,108,108]) <;> cases sEq a0 (bs [116,114,117,101]) <;> rfl

noncomputable def q125 : List Dt → Option (Bool × List Dt)
  | [.d .str a0] => some ((okStr a0), [.d .bool (plainOk a0)])
  | _ => none
noncomputable def s125 : Gm.Spec := Gm.Spec.of [.ro] [false] true q125
theorem good125 : Gm.Good Try.prog (125, s125) := by
  have hl : ∀ x ∈ [(54, s54), (148, s148)], Gm.Good Try.prog x := List.forall_mem_cons.2 ⟨good54, List.forall_mem_cons.2 ⟨good148, List.forall_mem_nil _⟩⟩
  refine ⟨⟨spec_ok (tab_ok.env hl) (tab.natl hl) Try.func125 (by kernel_rfl : Try.f125.body = some f125c) [4] (by kernel_rfl) ?_, _, Try.func125, by kernel_rfl, of_decide_eq_true (by kernel_rfl)⟩, Gm.Spec.of_natl _ _ _ _⟩
  intro ds outs h
  unfold q125 at h
  split at h
  · simp only [Option.some.injEq, Prod.mk.injEq] at h; obtain ⟨hg, h⟩ := h; cases h; exact f125_spec _ hg
  · cases h
/-! ### loop.example/g00465/impl.PlainOk -/
noncomputable def f130c : Code := (Try.f130.body).getD .skip
def f130k : Nat → Kp := kat [⟨[0], [], [], []⟩, ⟨[0, 5, 6], [], [], []⟩, ⟨[0, 5, 6, 7], [], [], []⟩, ⟨[0, 3, 5, 6], [], [], []⟩, ⟨[0, 5, 6, 31], [], [], []⟩, ⟨[2], [], [], []⟩, ⟨[0, 5, 6], [], [], []⟩, ⟨[2], [], [], []⟩]
noncomputable def f130e : Env := tab.env [(56, s56), (128, s128), (149, s149), (150, s150)]
noncomputable def f130L0 {R : Type} (n : Nat) (x0 : Option R) (x1 : Int → Bool → Option R) (vs0 : ByteArray) (vs5 : Int) : Nat → Int → Option R
  | 0, _ => none
  | m + 1, vs6 =>
    (cond (decide (vs6 < vs5))
      (cond ((decide ((0 : Int) ≤ vs6)) && (decide (vs6 < (ByteArray.size vs0 : Int))))
        (cond (!(letter (((ByteArray.data vs0).getD (Int.toNat vs6) 0).toNat : Int)))
          (cond (vs6 == (0 : Int))
            (x0)
            (cond ((decide ((0 : Int) ≤ vs6)) && (decide (vs6 < (ByteArray.size vs0 : Int))))
              (cond (!(digit (((ByteArray.data vs0).getD (Int.toNat vs6) 0).toNat : Int)))
                (cond ((decide ((0 : Int) ≤ vs6)) && (decide (vs6 < (ByteArray.size vs0 : Int))))
                  (cond (decide ((idxB (bs [95,46,47,45]) (((ByteArray.data vs0).getD (Int.toNat vs6) 0).toNat : Int)) < (0 : Int)))
                    (x0)
                    (f130L0 n x0 x1 vs0 vs5 m (IntKind.wrap .i64 (vs6 + (1 : Int)))))
                  none)
                (f130L0 n x0 x1 vs0 vs5 m (IntKind.wrap .i64 (vs6 + (1 : Int)))))
              none))
          (f130L0 n x0 x1 vs0 vs5 m (IntKind.wrap .i64 (vs6 + (1 : Int)))))
        none)
      (x1 vs6 (decide (vs6 < vs5))))
theorem f130L0_b {R : Type} (n : Nat) (k' : Ex → St → Option R) (vs0 : ByteArray) (vs5 : Int) (vs6 : Int) : ev f130e f130k n (cAt [1,0,1,0,0] f130c) ⟨[(0, .c (.one (.v (.string vs0)))), (5, .c (.one (.v (.int .i64 vs5)))), (6, .c (.one (.v (.int .i64 vs6))))], [], []⟩ k' =
    (cond (decide (vs6 < vs5))
    (cond ((decide ((0 : Int) ≤ vs6)) && (decide (vs6 < (ByteArray.size vs0 : Int))))
      (cond (!(letter (((ByteArray.data vs0).getD (Int.toNat vs6) 0).toNat : Int)))
        (cond (vs6 == (0 : Int))
          (k' .ret ⟨[(2, .c (.one (.v (.bool false))))], [], []⟩)
          (cond ((decide ((0 : Int) ≤ vs6)) && (decide (vs6 < (ByteArray.size vs0 : Int))))
            (cond (!(digit (((ByteArray.data vs0).getD (Int.toNat vs6) 0).toNat : Int)))
              (cond ((decide ((0 : Int) ≤ vs6)) && (decide (vs6 < (ByteArray.size vs0 : Int))))
                (cond (decide ((idxB (bs [95,46,47,45]) (((ByteArray.data vs0).getD (Int.toNat vs6) 0).toNat : Int)) < (0 : Int)))
                  (k' .ret ⟨[(2, .c (.one (.v (.bool false))))], [], []⟩)
                  (k' .normal ⟨[(0, .c (.one (.v (.string vs0)))), (5, .c (.one (.v (.int .i64 vs5)))), (6, .c (.one (.v (.int .i64 (IntKind.wrap .i64 (vs6 + (1 : Int)))))))], [], []⟩))
                none)
              (k' .normal ⟨[(0, .c (.one (.v (.string vs0)))), (5, .c (.one (.v (.int .i64 vs5)))), (6, .c (.one (.v (.int .i64 (IntKind.wrap .i64 (vs6 + (1 : Int)))))))], [], []⟩))
            none))
        (k' .normal ⟨[(0, .c (.one (.v (.string vs0)))), (5, .c (.one (.v (.int .i64 vs5)))), (6, .c (.one (.v (.int .i64 (IntKind.wrap .i64 (vs6 + (1 : Int)))))))], [], []⟩))
      none)
    (k' (.exit 0) ⟨[(0, .c (.one (.v (.string vs0)))), (5, .c (.one (.v (.int .i64 vs5)))), (6, .c (.one (.v (.int .i64 vs6)))), (7, .c (.one (.v (.bool (decide (vs6 < vs5))))))], [], []⟩)) := by kernel_rfl
theorem f130L0_eq {R : Type} (n : Nat) (k' : Ex → St → Option R) (vs0 : ByteArray) (vs5 : Int) : ∀ (m : Nat) (vs6 : Int), iter (fun st k => ev f130e f130k n (cAt [1,0,1,0,0] f130c) st k) m ⟨[(0, .c (.one (.v (.string vs0)))), (5, .c (.one (.v (.int .i64 vs5)))), (6, .c (.one (.v (.int .i64 vs6))))], [], []⟩ k' = f130L0 n (k' .ret ⟨[(2, .c (.one (.v (.bool false))))], [], []⟩) (fun (xvs6 : Int) (xvs7 : Bool) => k' (.exit 0) ⟨[(0, .c (.one (.v (.string vs0)))), (5, .c (.one (.v (.int .i64 vs5)))), (6, .c (.one (.v (.int .i64 xvs6)))), (7, .c (.one (.v (.bool xvs7))))], [], []⟩) vs0 vs5 m vs6 := by
  intro m; induction m with
  | zero => intros; rfl
  | succ m ih =>
    intro vs6
    simp only [iter]
    rw [f130L0_b]
    simp only [ih, f130L0]

noncomputable def f130K0 {R : Type} (n : Nat) (k' : Ex → St → Option R) : Ex → St → Option R := (blockK 0 (seqK f130e f130k n (cAt [1,1] f130c) k'))
theorem f130K0_x0 {R : Type} (n : Nat) (k : List Dt → Option R) (a0 : ByteArray)  : f130K0 n (exitK f130e [.ro] [false] true [.tmp 2] [4] [.d .str a0] k) .ret ⟨[(2, .c (.one (.v (.bool false))))], [], []⟩ =
    (k [.d .bool false]) := by kernel_rfl
theorem f130K0_x1 {R : Type} (n : Nat) (k : List Dt → Option R) (a0 : ByteArray) (vs0 : ByteArray) (vs5 : Int) (xvs6 : Int) (xvs7 : Bool) : f130K0 n (exitK f130e [.ro] [false] true [.tmp 2] [4] [.d .str a0] k) (.exit 0) ⟨[(0, .c (.one (.v (.string vs0)))), (5, .c (.one (.v (.int .i64 vs5)))), (6, .c (.one (.v (.int .i64 xvs6)))), (7, .c (.one (.v (.bool xvs7))))], [], []⟩ =
    (cond (inR (ByteArray.size vs0 : Int) (1 : Int) (60 : Int))
    (cond (!(sEq vs0 (bs [110,117,108,108])))
      (cond (!(sEq vs0 (bs [116,114,117,101])))
        (k [.d .bool (!(sEq vs0 (bs [102,97,108,115,101])))])
        (k [.d .bool false]))
      (k [.d .bool false]))
    (k [.d .bool false])) := by kernel_rfl

theorem f130_run {R : Type} (n : Nat) (k : List Dt → Option R) (a0 : ByteArray) : evFn f130e f130k n f130c [.ro] [false] true [.tmp 2] [4] [.d .str a0] k =
    (f130L0 n (k [.d .bool false]) (fun (xvs6 : Int) (xvs7 : Bool) =>
    (cond (inR (ByteArray.size a0 : Int) (1 : Int) (60 : Int))
      (cond (!(sEq a0 (bs [110,117,108,108])))
        (cond (!(sEq a0 (bs [116,114,117,101])))
          (k [.d .bool (!(sEq a0 (bs [102,97,108,115,101])))])
          (k [.d .bool false]))
        (k [.d .bool false]))
      (k [.d .bool false]))) a0 (ByteArray.size a0 : Int) n (0 : Int)) := by
  refine Eq.trans (b := (iter (fun st k => ev f130e f130k n (cAt [1,0,1,0,0] f130c) st k) n ⟨[(0, .c (.one (.v (.string a0)))), (5, .c (.one (.v (.int .i64 (ByteArray.size a0 : Int))))), (6, .c (.one (.v (.int .i64 (0 : Int)))))], [], []⟩ (f130K0 n (exitK f130e [.ro] [false] true [.tmp 2] [4] [.d .str a0] k)))) (by kernel_rfl) ?_
  simp only [f130L0_eq, f130K0_x0, f130K0_x1]
theorem f130_spec (a0 : ByteArray) (hg : okStr a0 = true) : ∃ keep rounds, ∀ {R : Type} (k : List Dt → Option R), evFn f130e keep rounds f130c [.ro] [false] true [.tmp 2] [4] [.d .str a0] k = k [.d .bool (plainOk a0)] := by
  have hl : a0.size ≤ 9223372036854775807 := bleN hg
  refine ⟨f130k, a0.size + 1, fun k => ?_⟩
  rw [f130_run]
  refine Eq.trans (loop_idx (n := a0.size) (F := fun m i => f130L0 (a0.size + 1) _ _ a0 (a0.size : Int) m i) (p := fun j => plainC (j : Int) (byteAt a0 j)) (good := _) (bad := k [.d .bool false])
    (fun m j hj => ?_) (fun m => by simp only [f130L0, idxE, cond_false]; rfl) a0.size 0 (a0.size + 1) (by omega) (by omega)) ?_
  · obtain ⟨h1, h0, hw, ht⟩ := idx hj (by omega)
    simp only [f130L0, h1, h0, hw, ht, Bool.and_self, cond_true, idx4 (UInt8.toNat_lt _)]
    show _ = cond (plainC (j : Int) (((ByteArray.data a0).getD j 0).toNat : Int)) _ _
    generalize (((ByteArray.data a0).getD j 0).toNat : Int) = c
    unfold plainC
    cases letter c
    · cases ((j : Int) == (0 : Int))
      · cases digit c <;> cases (c == (95 : Int)) <;> cases (c == (46 : Int)) <;> cases (c == (47 : Int)) <;> cases (c == (45 : Int)) <;> rfl
      · rfl
    · rfl
  · unfold plainOk
    cases allN (fun j => plainC (j : Int) (byteAt a0 j)) 0 a0.size <;> cases inR (a0.size : Int) 1 60 <;> cases sEq a0 (bs [110,117,108,108]) <;> cases sEq a0 (bs [116,114,117,101]) <;> rfl

noncomputable def q130 : List Dt → Option (Bool × List Dt)
  | [.d .str a0] => some ((okStr a0), [.d .bool (plainOk a0)])
  | _ => none
noncomputable def s130 : Gm.Spec := Gm.Spec.of [.ro] [false] true q130
theorem good130 : Gm.Good Try.prog (130, s130) := by
  have hl : ∀ x ∈ [(56, s56), (128, s128), (149, s149), (150, s150)], Gm.Good Try.prog x := List.forall_mem_cons.2 ⟨good56, List.forall_mem_cons.2 ⟨good128, List.forall_mem_cons.2 ⟨good149, List.forall_mem_cons.2 ⟨good150, List.forall_mem_nil _⟩⟩⟩⟩
  refine ⟨⟨spec_ok (tab_ok.env hl) (tab.natl hl) Try.func130 (by kernel_rfl : Try.f130.body = some f130c) [4] (by kernel_rfl) ?_, _, Try.func130, by kernel_rfl, of_decide_eq_true (by kernel_rfl)⟩, Gm.Spec.of_natl _ _ _ _⟩
  intro ds outs h
  unfold q130 at h
  split at h
  · simp only [Option.some.injEq, Prod.mk.injEq] at h; obtain ⟨hg, h⟩ := h; cases h; exact f130_spec _ hg
  · cases h
end Go.Proofs.Ytnbehmbjoanfoaa

/- x -/
namespace Go.Proofs.Ytnbehmbjoanfoaa
open Go Go.Gm
/-! ### internal/stringslite.HasPrefix -/
noncomputable def f151c : Code := (Try.f151.body).getD .skip
def f151k : Nat → Kp := kat [⟨[0, 1], [], [], []⟩, ⟨[4], [], [], []⟩]
noncomputable def f151e : Env := tab.env []
theorem f151_run {R : Type} (n : Nat) (k : List Dt → Option R) (a0 : ByteArray) (a1 : ByteArray) : evFn f151e f151k n f151c [.ro, .ro] [false] true [.tmp 4] [4] [.d .str a0, .d .str a1] k =
    (cond (decide ((ByteArray.size a0 : Int) ≥ (ByteArray.size a1 : Int)))
    (cond ((decide ((0 : Int) ≤ (ByteArray.size a1 : Int))) && (decide ((ByteArray.size a1 : Int) ≤ (ByteArray.size a0 : Int))))
      (k [.d .bool (sEq (ByteArray.extract a0 0 (Int.toNat (ByteArray.size a1 : Int))) a1)])
      none)
    (k [.d .bool false])) := by kernel_rfl
theorem f151_spec (a0 : ByteArray) (a1 : ByteArray) : ∃ keep rounds, ∀ {R : Type} (k : List Dt → Option R), evFn f151e keep rounds f151c [.ro, .ro] [false] true [.tmp 4] [4] [.d .str a0, .d .str a1] k = k [.d .bool (hasPre a0 a1)] := by
  refine ⟨f151k, 0, fun k => ?_⟩
  rw [f151_run]; unfold hasPre
  rw [Int.toNat_natCast]
  by_cases h : (a0.size : Int) ≥ (a1.size : Int)
  · have h2 : decide ((a1.size : Int) ≤ (a0.size : Int)) = true := decide_eq_true h
    have h3 : decide ((0 : Int) ≤ (a1.size : Int)) = true := decide_eq_true (by omega)
    simp only [h, h2, h3, decide_true, cond_true, Bool.and_self, Bool.true_and]
  · simp only [h, decide_false, cond_false, Bool.false_and]

noncomputable def q151 : List Dt → Option (Bool × List Dt)
  | [.d .str a0, .d .str a1] => some (true, [.d .bool (hasPre a0 a1)])
  | _ => none
noncomputable def s151 : Gm.Spec := Gm.Spec.of [.ro, .ro] [false] true q151
theorem good151 : Gm.Good Try.prog (151, s151) := by
  have hl : ∀ x ∈ ([] : List (Nat × Gm.Spec)), Gm.Good Try.prog x := fun _ h => by cases h
  refine ⟨⟨spec_ok (tab_ok.env hl) (tab.natl hl) Try.func151 (by kernel_rfl : Try.f151.body = some f151c) [4] (by kernel_rfl) ?_, _, Try.func151, by kernel_rfl, of_decide_eq_true (by kernel_rfl)⟩, Gm.Spec.of_natl _ _ _ _⟩
  intro ds outs h
  unfold q151 at h
  split at h
  · cases h; exact f151_spec _ _
  · cases h
/-! ### strings.HasPrefix -/
noncomputable def f131c : Code := (Try.f131.body).getD .skip
def f131k : Nat → Kp := kat [⟨[0, 1], [], [], []⟩, ⟨[4], [], [], []⟩]
noncomputable def f131e : Env := tab.env [(151, s151)]
theorem f131_run {R : Type} (n : Nat) (k : List Dt → Option R) (a0 : ByteArray) (a1 : ByteArray) : evFn f131e f131k n f131c [.ro, .ro] [false] true [.tmp 4] [4] [.d .str a0, .d .str a1] k =
    (k [.d .bool (hasPre a0 a1)]) := by kernel_rfl
theorem f131_spec (a0 : ByteArray) (a1 : ByteArray) : ∃ keep rounds, ∀ {R : Type} (k : List Dt → Option R), evFn f131e keep rounds f131c [.ro, .ro] [false] true [.tmp 4] [4] [.d .str a0, .d .str a1] k = k [.d .bool (hasPre a0 a1)] := by
  exact ⟨f131k, 0, fun k => f131_run 0 k a0 a1⟩

noncomputable def q131 : List Dt → Option (Bool × List Dt)
  | [.d .str a0, .d .str a1] => some (true, [.d .bool (hasPre a0 a1)])
  | _ => none
noncomputable def s131 : Gm.Spec := Gm.Spec.of [.ro, .ro] [false] true q131
theorem good131 : Gm.Good Try.prog (131, s131) := by
  have hl : ∀ x ∈ [(151, s151)], Gm.Good Try.prog x := List.forall_mem_cons.2 ⟨good151, List.forall_mem_nil _⟩
  refine ⟨⟨spec_ok (tab_ok.env hl) (tab.natl hl) Try.func131 (by kernel_rfl : Try.f131.body = some f131c) [4] (by kernel_rfl) ?_, _, Try.func131, by kernel_rfl, of_decide_eq_true (by kernel_rfl)⟩, Gm.Spec.of_natl _ _ _ _⟩
  intro ds outs h
  unfold q131 at h
  split at h
  · cases h; exact f131_spec _ _
  · cases h
/-! ### loop.example/g00465/spec.l6Ours -/
noncomputable def f126c : Code := (Try.f126.body).getD .skip
def f126k : Nat → Kp := kat [⟨[0], [], [], []⟩, ⟨[2], [], [], []⟩]
noncomputable def f126e : Env := tab.env []
theorem f126_run {R : Type} (n : Nat) (k : List Dt → Option R) (a0 : ByteArray) : evFn f126e f126k n f126c [.ro] [false] true [.tmp 2] [4] [.d .str a0] k =
    (cond (decide ((ByteArray.size a0 : Int) ≥ (5 : Int)))
    (cond (decide ((5 : Int) ≤ (ByteArray.size a0 : Int)))
      (k [.d .bool (sEq (ByteArray.extract a0 0 5) (bs [113,117,97,121,47]))])
      none)
    (k [.d .bool false])) := by kernel_rfl
theorem f126_spec (a0 : ByteArray) : ∃ keep rounds, ∀ {R : Type} (k : List Dt → Option R), evFn f126e keep rounds f126c [.ro] [false] true [.tmp 2] [4] [.d .str a0] k = k [.d .bool (ours a0)] := by
  refine ⟨f126k, 0, fun k => ?_⟩
  rw [f126_run]; unfold ours hasPre
  show _ = k [.d .bool (decide ((a0.size : Int) ≥ (5 : Int)) && sEq (a0.extract 0 5) (bs [113,117,97,121,47]))]
  by_cases h : (a0.size : Int) ≥ (5 : Int)
  · have h2 : decide ((5 : Int) ≤ (a0.size : Int)) = true := decide_eq_true h
    simp only [h, h2, decide_true, cond_true, Bool.true_and]
  · simp only [h, decide_false, cond_false, Bool.false_and]

noncomputable def q126 : List Dt → Option (Bool × List Dt)
  | [.d .str a0] => some (true, [.d .bool (ours a0)])
  | _ => none
noncomputable def s126 : Gm.Spec := Gm.Spec.of [.ro] [false] true q126
theorem good126 : Gm.Good Try.prog (126, s126) := by
  have hl : ∀ x ∈ ([] : List (Nat × Gm.Spec)), Gm.Good Try.prog x := fun _ h => by cases h
  refine ⟨⟨spec_ok (tab_ok.env hl) (tab.natl hl) Try.func126 (by kernel_rfl : Try.f126.body = some f126c) [4] (by kernel_rfl) ?_, _, Try.func126, by kernel_rfl, of_decide_eq_true (by kernel_rfl)⟩, Gm.Spec.of_natl _ _ _ _⟩
  intro ds outs h
  unfold q126 at h
  split at h
  · cases h; exact f126_spec _
  · cases h
/-! ### loop.example/g00465/impl.isMany -/
noncomputable def f129c : Code := (Try.f129.body).getD .skip
def f129k : Nat → Kp := kat [⟨[0], [], [], []⟩, ⟨[2], [], [], []⟩]
noncomputable def f129e : Env := tab.env [(56, s56)]
theorem f129_run {R : Type} (n : Nat) (k : List Dt → Option R) (a0 : Int) : evFn f129e f129k n f129c [.ro] [false] true [.tmp 2] [4] [.d (.i .i64) a0] k =
    (k [.d .bool (inR a0 (0 : Int) (1000 : Int))]) := by kernel_rfl
theorem f129_spec (a0 : Int) : ∃ keep rounds, ∀ {R : Type} (k : List Dt → Option R), evFn f129e keep rounds f129c [.ro] [false] true [.tmp 2] [4] [.d (.i .i64) a0] k = k [.d .bool (isMany a0)] := by
  exact ⟨f129k, 0, fun k => f129_run 0 k a0⟩

noncomputable def q129 : List Dt → Option (Bool × List Dt)
  | [.d (.i .i64) a0] => some (true, [.d .bool (isMany a0)])
  | _ => none
noncomputable def s129 : Gm.Spec := Gm.Spec.of [.ro] [false] true q129
theorem good129 : Gm.Good Try.prog (129, s129) := by
  have hl : ∀ x ∈ [(56, s56)], Gm.Good Try.prog x := List.forall_mem_cons.2 ⟨good56, List.forall_mem_nil _⟩
  refine ⟨⟨spec_ok (tab_ok.env hl) (tab.natl hl) Try.func129 (by kernel_rfl : Try.f129.body = some f129c) [4] (by kernel_rfl) ?_, _, Try.func129, by kernel_rfl, of_decide_eq_true (by kernel_rfl)⟩, Gm.Spec.of_natl _ _ _ _⟩
  intro ds outs h
  unfold q129 at h
  split at h
  · cases h; exact f129_spec _
  · cases h
/-! ### loop.example/g00465/spec.PaceOk -/
noncomputable def f93c : Code := (Try.f93.body).getD .skip
def f93k : Nat → Kp := kat [⟨[1], [], [], []⟩, ⟨[2], [], [], []⟩]
noncomputable def f93e : Env := tab.env [(54, s54)]
theorem f93_run {R : Type} (n : Nat) (k : List Dt → Option R) (a0 : PaceT) : evFn f93e f93k n f93c [.ro] [false] true [.tmp 2] [4] [.d .pace a0] k =
    (cond (inR (PaceT.up a0) (0 : Int) (1000 : Int))
    (cond (inR (PaceT.down a0) (0 : Int) (1000 : Int))
      (cond (inR (PaceT.upSpan a0) (0 : Int) (3600 : Int))
        (k [.d .bool (inR (PaceT.downSpan a0) (0 : Int) (3600 : Int))])
        (k [.d .bool false]))
      (k [.d .bool false]))
    (k [.d .bool false])) := by kernel_rfl
theorem f93_spec (a0 : PaceT) : ∃ keep rounds, ∀ {R : Type} (k : List Dt → Option R), evFn f93e keep rounds f93c [.ro] [false] true [.tmp 2] [4] [.d .pace a0] k = k [.d .bool (paceOk a0)] := by
  refine ⟨f93k, 0, fun k => ?_⟩
  rw [f93_run]; unfold paceOk
  try simp only [isMany]
  cases inR a0.up 0 1000 <;> cases inR a0.down 0 1000 <;> cases inR a0.upSpan 0 3600 <;> rfl

noncomputable def q93 : List Dt → Option (Bool × List Dt)
  | [.d .pace a0] => some (true, [.d .bool (paceOk a0)])
  | _ => none
noncomputable def s93 : Gm.Spec := Gm.Spec.of [.ro] [false] true q93
theorem good93 : Gm.Good Try.prog (93, s93) := by
  have hl : ∀ x ∈ [(54, s54)], Gm.Good Try.prog x := List.forall_mem_cons.2 ⟨good54, List.forall_mem_nil _⟩
  refine ⟨⟨spec_ok (tab_ok.env hl) (tab.natl hl) Try.func93 (by kernel_rfl : Try.f93.body = some f93c) [4] (by kernel_rfl) ?_, _, Try.func93, by kernel_rfl, of_decide_eq_true (by kernel_rfl)⟩, Gm.Spec.of_natl _ _ _ _⟩
  intro ds outs h
  unfold q93 at h
  split at h
  · cases h; exact f93_spec _
  · cases h
/-! ### loop.example/g00465/impl.PaceOk -/
noncomputable def f97c : Code := (Try.f97.body).getD .skip
def f97k : Nat → Kp := kat [⟨[1], [], [], []⟩, ⟨[2], [], [], []⟩]
noncomputable def f97e : Env := tab.env [(56, s56), (129, s129)]
theorem f97_run {R : Type} (n : Nat) (k : List Dt → Option R) (a0 : PaceT) : evFn f97e f97k n f97c [.ro] [false] true [.tmp 2] [4] [.d .pace a0] k =
    (cond (isMany (PaceT.up a0))
    (cond (isMany (PaceT.down a0))
      (cond (inR (PaceT.upSpan a0) (0 : Int) (3600 : Int))
        (k [.d .bool (inR (PaceT.downSpan a0) (0 : Int) (3600 : Int))])
        (k [.d .bool false]))
      (k [.d .bool false]))
    (k [.d .bool false])) := by kernel_rfl
theorem f97_spec (a0 : PaceT) : ∃ keep rounds, ∀ {R : Type} (k : List Dt → Option R), evFn f97e keep rounds f97c [.ro] [false] true [.tmp 2] [4] [.d .pace a0] k = k [.d .bool (paceOk a0)] := by
  refine ⟨f97k, 0, fun k => ?_⟩
  rw [f97_run]; unfold paceOk
  try simp only [isMany]
  cases inR a0.up 0 1000 <;> cases inR a0.down 0 1000 <;> cases inR a0.upSpan 0 3600 <;> rfl

noncomputable def q97 : List Dt → Option (Bool × List Dt)
  | [.d .pace a0] => some (true, [.d .bool (paceOk a0)])
  | _ => none
noncomputable def s97 : Gm.Spec := Gm.Spec.of [.ro] [false] true q97
theorem good97 : Gm.Good Try.prog (97, s97) := by
  have hl : ∀ x ∈ [(56, s56), (129, s129)], Gm.Good Try.prog x := List.forall_mem_cons.2 ⟨good56, List.forall_mem_cons.2 ⟨good129, List.forall_mem_nil _⟩⟩
  refine ⟨⟨spec_ok (tab_ok.env hl) (tab.natl hl) Try.func97 (by kernel_rfl : Try.f97.body = some f97c) [4] (by kernel_rfl) ?_, _, Try.func97, by kernel_rfl, of_decide_eq_true (by kernel_rfl)⟩, Gm.Spec.of_natl _ _ _ _⟩
  intro ds outs h
  unfold q97 at h
  split at h
  · cases h; exact f97_spec _
  · cases h
/-! ### loop.example/g00465/spec.MetricOk -/
noncomputable def f124c : Code := (Try.f124.body).getD .skip
def f124k : Nat → Kp := kat [⟨[1], [], [], []⟩, ⟨[2], [], [], []⟩]
noncomputable def f124e : Env := tab.env [(54, s54), (91, s91)]
theorem f124_run {R : Type} (n : Nat) (k : List Dt → Option R) (a0 : MetricT) : evFn f124e f124k n f124c [.ro] [false] true [.tmp 2] [4] [.d .metric a0] k =
    (cond (okStr (MetricT.name a0))
    (cond (nameOk (MetricT.name a0))
      (cond (inR (MetricT.kind a0) (1 : Int) (3 : Int))
        (k [.d .bool (inR (MetricT.goal a0) (1 : Int) (1000000 : Int))])
        (k [.d .bool false]))
      (k [.d .bool false]))
    none) := by kernel_rfl
theorem f124_spec (a0 : MetricT) (hg : sm_metric a0 = true) : ∃ keep rounds, ∀ {R : Type} (k : List Dt → Option R), evFn f124e keep rounds f124c [.ro] [false] true [.tmp 2] [4] [.d .metric a0] k = k [.d .bool (metricOk a0)] := by
  simp only [sm_metric, Bool.and_eq_true] at hg
  refine ⟨f124k, 0, fun k => ?_⟩
  rw [f124_run, okStr_sm hg.1]; unfold metricOk
  cases nameOk a0.name <;> cases inR a0.kind 1 3 <;> rfl

noncomputable def q124 : List Dt → Option (Bool × List Dt)
  | [.d .metric a0] => some ((sm_metric a0), [.d .bool (metricOk a0)])
  | _ => none
noncomputable def s124 : Gm.Spec := Gm.Spec.of [.ro] [false] true q124
theorem good124 : Gm.Good Try.prog (124, s124) := by
  have hl : ∀ x ∈ [(54, s54), (91, s91)], Gm.Good Try.prog x := List.forall_mem_cons.2 ⟨good54, List.forall_mem_cons.2 ⟨good91, List.forall_mem_nil _⟩⟩
  refine ⟨⟨spec_ok (tab_ok.env hl) (tab.natl hl) Try.func124 (by kernel_rfl : Try.f124.body = some f124c) [4] (by kernel_rfl) ?_, _, Try.func124, by kernel_rfl, of_decide_eq_true (by kernel_rfl)⟩, Gm.Spec.of_natl _ _ _ _⟩
  intro ds outs h
  unfold q124 at h
  split at h
  · simp only [Option.some.injEq, Prod.mk.injEq] at h; obtain ⟨hg, h⟩ := h; cases h; exact f124_spec _ hg
  · cases h
/-! ### loop.example/g00465/impl.MetricOk -/
noncomputable def f95c : Code := (Try.f95.body).getD .skip
def f95k : Nat → Kp := kat [⟨[1], [], [], []⟩, ⟨[2], [], [], []⟩]
noncomputable def f95e : Env := tab.env [(56, s56), (96, s96)]
theorem f95_run {R : Type} (n : Nat) (k : List Dt → Option R) (a0 : MetricT) : evFn f95e f95k n f95c [.ro] [false] true [.tmp 2] [4] [.d .metric a0] k =
    (cond (okStr (MetricT.name a0))
    (cond (nameOk (MetricT.name a0))
      (cond (inR (MetricT.kind a0) (1 : Int) (3 : Int))
        (k [.d .bool (inR (MetricT.goal a0) (1 : Int) (1000000 : Int))])
        (k [.d .bool false]))
      (k [.d .bool false]))
    none) := by kernel_rfl
theorem f95_spec (a0 : MetricT) (hg : sm_metric a0 = true) : ∃ keep rounds, ∀ {R : Type} (k : List Dt → Option R), evFn f95e keep rounds f95c [.ro] [false] true [.tmp 2] [4] [.d .metric a0] k = k [.d .bool (metricOk a0)] := by
  simp only [sm_metric, Bool.and_eq_true] at hg
  refine ⟨f95k, 0, fun k => ?_⟩
  rw [f95_run, okStr_sm hg.1]; unfold metricOk
  cases nameOk a0.name <;> cases inR a0.kind 1 3 <;> rfl

noncomputable def q95 : List Dt → Option (Bool × List Dt)
  | [.d .metric a0] => some ((sm_metric a0), [.d .bool (metricOk a0)])
  | _ => none
noncomputable def s95 : Gm.Spec := Gm.Spec.of [.ro] [false] true q95
theorem good95 : Gm.Good Try.prog (95, s95) := by
  have hl : ∀ x ∈ [(56, s56), (96, s96)], Gm.Good Try.prog x := List.forall_mem_cons.2 ⟨good56, List.forall_mem_cons.2 ⟨good96, List.forall_mem_nil _⟩⟩
  refine ⟨⟨spec_ok (tab_ok.env hl) (tab.natl hl) Try.func95 (by kernel_rfl : Try.f95.body = some f95c) [4] (by kernel_rfl) ?_, _, Try.func95, by kernel_rfl, of_decide_eq_true (by kernel_rfl)⟩, Gm.Spec.of_natl _ _ _ _⟩
  intro ds outs h
  unfold q95 at h
  split at h
  · simp only [Option.some.injEq, Prod.mk.injEq] at h; obtain ⟨hg, h⟩ := h; cases h; exact f95_spec _ hg
  · cases h
/-! ### loop.example/g00465/spec.l6Notes -/
noncomputable def f94c : Code := (Try.f94.body).getD .skip
def f94k : Nat → Kp := kat [⟨[0], [], [], []⟩, ⟨[0, 3], [], [], []⟩, ⟨[0, 3, 7], [], [], []⟩, ⟨[0, 3], [], [], []⟩, ⟨[0, 3, 60], [], [], []⟩, ⟨[2], [], [], []⟩, ⟨[2], [], [], []⟩]
noncomputable def f94e : Env := tab.env [(125, s125), (126, s126), (127, s127)]
noncomputable def f94L0 {R : Type} (n : Nat) (x0 : Option R) (x1 : Int → Bool → Option R) (vs0 : List NoteT) : Nat → Int → Option R
  | 0, _ => none
  | m + 1, vs3 =>
    (cond (decide (vs3 < (vs0.length : Int)))
      (cond ((decide ((0 : Int) ≤ vs3)) && (decide (vs3 < (vs0.length : Int))))
        (cond (okStr (NoteT.key (atI (t := .note) vs0 (Int.toNat vs3))))
          (cond (!(plainOk (NoteT.key (atI (t := .note) vs0 (Int.toNat vs3)))))
            (x0)
            (cond ((decide ((0 : Int) ≤ vs3)) && (decide (vs3 < (vs0.length : Int))))
              (cond (ours (NoteT.key (atI (t := .note) vs0 (Int.toNat vs3))))
                (x0)
                (cond ((decide ((0 : Int) ≤ vs3)) && (decide (vs3 < (vs0.length : Int))))
                  (cond (okStr (NoteT.text (atI (t := .note) vs0 (Int.toNat vs3))))
                    (cond (!(textOk (NoteT.text (atI (t := .note) vs0 (Int.toNat vs3)))))
                      (x0)
                      (cond ((decide ((0 : Int) ≤ vs3)) && (decide (vs3 < (vs0.length : Int))))
                        (cond (decide ((ByteArray.size (NoteT.text (atI (t := .note) vs0 (Int.toNat vs3))) : Int) > (40 : Int)))
                          (x0)
                          (cond (decide (vs3 > (0 : Int)))
                            (cond ((decide ((0 : Int) ≤ (IntKind.wrap .i64 (vs3 - (1 : Int))))) && (decide ((IntKind.wrap .i64 (vs3 - (1 : Int))) < (vs0.length : Int))))
                              (cond ((decide ((0 : Int) ≤ vs3)) && (decide (vs3 < (vs0.length : Int))))
                                (cond (!(sLt (NoteT.key (atI (t := .note) vs0 (Int.toNat (IntKind.wrap .i64 (vs3 - (1 : Int)))))) (NoteT.key (atI (t := .note) vs0 (Int.toNat vs3)))))
                                  (x0)
                                  (f94L0 n x0 x1 vs0 m (IntKind.wrap .i64 (vs3 + (1 : Int)))))
                                none)
                              none)
                            (f94L0 n x0 x1 vs0 m (IntKind.wrap .i64 (vs3 + (1 : Int))))))
                        none))
                    none)
                  none))
              none))
          none)
        none)
      (x1 vs3 (decide (vs3 < (vs0.length : Int)))))
theorem f94L0_b {R : Type} (n : Nat) (k' : Ex → St → Option R) (vs0 : List NoteT) (vs3 : Int) : ev f94e f94k n (cAt [1,0,1,0,0] f94c) ⟨[(0, .c (.one (.ro .note vs0))), (3, .c (.one (.v (.int .i64 vs3))))], [], []⟩ k' =
    (cond (decide (vs3 < (vs0.length : Int)))
    (cond ((decide ((0 : Int) ≤ vs3)) && (decide (vs3 < (vs0.length : Int))))
      (cond (okStr (NoteT.key (atI (t := .note) vs0 (Int.toNat vs3))))
        (cond (!(plainOk (NoteT.key (atI (t := .note) vs0 (Int.toNat vs3)))))
          (k' .ret ⟨[(2, .c (.one (.v (.bool false))))], [], []⟩)
          (cond ((decide ((0 : Int) ≤ vs3)) && (decide (vs3 < (vs0.length : Int))))
            (cond (ours (NoteT.key (atI (t := .note) vs0 (Int.toNat vs3))))
              (k' .ret ⟨[(2, .c (.one (.v (.bool false))))], [], []⟩)
              (cond ((decide ((0 : Int) ≤ vs3)) && (decide (vs3 < (vs0.length : Int))))
                (cond (okStr (NoteT.text (atI (t := .note) vs0 (Int.toNat vs3))))
                  (cond (!(textOk (NoteT.text (atI (t := .note) vs0 (Int.toNat vs3)))))
                    (k' .ret ⟨[(2, .c (.one (.v (.bool false))))], [], []⟩)
                    (cond ((decide ((0 : Int) ≤ vs3)) && (decide (vs3 < (vs0.length : Int))))
                      (cond (decide ((ByteArray.size (NoteT.text (atI (t := .note) vs0 (Int.toNat vs3))) : Int) > (40 : Int)))
                        (k' .ret ⟨[(2, .c (.one (.v (.bool false))))], [], []⟩)
                        (cond (decide (vs3 > (0 : Int)))
                          (cond ((decide ((0 : Int) ≤ (IntKind.wrap .i64 (vs3 - (1 : Int))))) && (decide ((IntKind.wrap .i64 (vs3 - (1 : Int))) < (vs0.length : Int))))
                            (cond ((decide ((0 : Int) ≤ vs3)) && (decide (vs3 < (vs0.length : Int))))
                              (cond (!(sLt (NoteT.key (atI (t := .note) vs0 (Int.toNat (IntKind.wrap .i64 (vs3 - (1 : Int)))))) (NoteT.key (atI (t := .note) vs0 (Int.toNat vs3)))))
                                (k' .ret ⟨[(2, .c (.one (.v (.bool false))))], [], []⟩)
                                (k' .normal ⟨[(0, .c (.one (.ro .note vs0))), (3, .c (.one (.v (.int .i64 (IntKind.wrap .i64 (vs3 + (1 : Int)))))))], [], []⟩))
                              none)
                            none)
                          (k' .normal ⟨[(0, .c (.one (.ro .note vs0))), (3, .c (.one (.v (.int .i64 (IntKind.wrap .i64 (vs3 + (1 : Int)))))))], [], []⟩)))
                      none))
                  none)
                none))
            none))
        none)
      none)
    (k' (.exit 0) ⟨[(0, .c (.one (.ro .note vs0))), (3, .c (.one (.v (.int .i64 vs3)))), (7, .c (.one (.v (.bool (decide (vs3 < (vs0.length : Int)))))))], [], []⟩)) := by kernel_rfl
theorem f94L0_eq {R : Type} (n : Nat) (k' : Ex → St → Option R) (vs0 : List NoteT) : ∀ (m : Nat) (vs3 : Int), iter (fun st k => ev f94e f94k n (cAt [1,0,1,0,0] f94c) st k) m ⟨[(0, .c (.one (.ro .note vs0))), (3, .c (.one (.v (.int .i64 vs3))))], [], []⟩ k' = f94L0 n (k' .ret ⟨[(2, .c (.one (.v (.bool false))))], [], []⟩) (fun (xvs3 : Int) (xvs7 : Bool) => k' (.exit 0) ⟨[(0, .c (.one (.ro .note vs0))), (3, .c (.one (.v (.int .i64 xvs3)))), (7, .c (.one (.v (.bool xvs7))))], [], []⟩) vs0 m vs3 := by
  intro m; induction m with
  | zero => intros; rfl
  | succ m ih =>
    intro vs3
    simp only [iter]
    rw [f94L0_b]
    simp only [ih, f94L0]

noncomputable def f94K0 {R : Type} (n : Nat) (k' : Ex → St → Option R) : Ex → St → Option R := (blockK 0 (seqK f94e f94k n (cAt [1,1] f94c) k'))
theorem f94K0_x0 {R : Type} (n : Nat) (k : List Dt → Option R) (a0 : List NoteT)  : f94K0 n (exitK f94e [.ro] [false] true [.tmp 2] [4] [.d (.sl .note) a0] k) .ret ⟨[(2, .c (.one (.v (.bool false))))], [], []⟩ =
    (k [.d .bool false]) := by kernel_rfl
theorem f94K0_x1 {R : Type} (n : Nat) (k : List Dt → Option R) (a0 : List NoteT) (vs0 : List NoteT) (xvs3 : Int) (xvs7 : Bool) : f94K0 n (exitK f94e [.ro] [false] true [.tmp 2] [4] [.d (.sl .note) a0] k) (.exit 0) ⟨[(0, .c (.one (.ro .note vs0))), (3, .c (.one (.v (.int .i64 xvs3)))), (7, .c (.one (.v (.bool xvs7))))], [], []⟩ =
    (k [.d .bool (decide ((vs0.length : Int) ≤ (4 : Int)))]) := by kernel_rfl

theorem f94_run {R : Type} (n : Nat) (k : List Dt → Option R) (a0 : List NoteT) : evFn f94e f94k n f94c [.ro] [false] true [.tmp 2] [4] [.d (.sl .note) a0] k =
    (f94L0 n (k [.d .bool false]) (fun (xvs3 : Int) (xvs7 : Bool) =>
    (k [.d .bool (decide ((a0.length : Int) ≤ (4 : Int)))])) a0 n (0 : Int)) := by
  refine Eq.trans (b := (iter (fun st k => ev f94e f94k n (cAt [1,0,1,0,0] f94c) st k) n ⟨[(0, .c (.one (.ro .note a0))), (3, .c (.one (.v (.int .i64 (0 : Int)))))], [], []⟩ (f94K0 n (exitK f94e [.ro] [false] true [.tmp 2] [4] [.d (.sl .note) a0] k)))) (by kernel_rfl) ?_
  simp only [f94L0_eq, f94K0_x0, f94K0_x1]
theorem f94_spec (a0 : List NoteT) (hg : smL sm_note a0 = true) : ∃ keep rounds, ∀ {R : Type} (k : List Dt → Option R), evFn f94e keep rounds f94c [.ro] [false] true [.tmp 2] [4] [.d (.sl .note) a0] k = k [.d .bool (notesOk a0)] := by
  have hl := smL_len hg
  refine ⟨f94k, a0.length + 1, fun {R} k => ?_⟩
  rw [f94_run]
  refine Eq.trans (loop_idx (n := a0.length) (F := fun m i => f94L0 (a0.length + 1) _ _ a0 m i) (p := noteC a0) (good := k [.d .bool (decide ((a0.length : Int) ≤ (4 : Int)))]) (bad := k [.d .bool false])
    (fun m j hj => ?_) (fun m => by simp only [f94L0, idxE, cond_false]) (a0.length) 0 (a0.length + 1) (by omega) (by omega)) ?_
  · obtain ⟨h1, h0, hw, ht⟩ := idx hj (by omega)
    have hx := smL_at (t := .note) hg hj
    simp only [sm_note, Bool.and_eq_true] at hx
    simp only [f94L0, h1, h0, hw, ht, okStr_sm hx.1, okStr_sm hx.2, ours, Bool.and_self, cond_true]
    unfold noteC
    by_cases hz : (j : Int) > 0
    · obtain ⟨h2, h3, _, h5⟩ := idx (show j - 1 < a0.length by omega) (by omega)
      simp only [hz, decide_true, cond_true, idxM hj (by omega) (by omega), h2, h3, h5, Bool.and_self]
      cases plainOk (atI (t := .note) a0 j).key <;> cases hasPre (atI (t := .note) a0 j).key (bs [113,117,97,121,47]) <;> cases textOk (atI (t := .note) a0 j).text <;> cases decide (((atI (t := .note) a0 j).text.size : Int) > 40) <;> cases sLt (atI (t := .note) a0 (j - 1)).key (atI (t := .note) a0 j).key <;> rfl
    · simp only [hz, decide_false, cond_false]
      cases plainOk (atI (t := .note) a0 j).key <;> cases hasPre (atI (t := .note) a0 j).key (bs [113,117,97,121,47]) <;> cases textOk (atI (t := .note) a0 j).text <;> cases decide (((atI (t := .note) a0 j).text.size : Int) > 40) <;> rfl
  · unfold notesOk
    cases allN (noteC a0) 0 a0.length <;> rfl

noncomputable def q94 : List Dt → Option (Bool × List Dt)
  | [.d (.sl .note) a0] => some ((smL sm_note a0), [.d .bool (notesOk a0)])
  | _ => none
noncomputable def s94 : Gm.Spec := Gm.Spec.of [.ro] [false] true q94
theorem good94 : Gm.Good Try.prog (94, s94) := by
  have hl : ∀ x ∈ [(125, s125), (126, s126), (127, s127)], Gm.Good Try.prog x := List.forall_mem_cons.2 ⟨good125, List.forall_mem_cons.2 ⟨good126, List.forall_mem_cons.2 ⟨good127, List.forall_mem_nil _⟩⟩⟩
  refine ⟨⟨spec_ok (tab_ok.env hl) (tab.natl hl) Try.func94 (by kernel_rfl : Try.f94.body = some f94c) [4] (by kernel_rfl) ?_, _, Try.func94, by kernel_rfl, of_decide_eq_true (by kernel_rfl)⟩, Gm.Spec.of_natl _ _ _ _⟩
  intro ds outs h
  unfold q94 at h
  split at h
  · simp only [Option.some.injEq, Prod.mk.injEq] at h; obtain ⟨hg, h⟩ := h; cases h; exact f94_spec _ hg
  · cases h
/-! ### loop.example/g00465/impl.notesOk -/
noncomputable def f98c : Code := (Try.f98.body).getD .skip
def f98k : Nat → Kp := kat [⟨[0], [], [], []⟩, ⟨[0, 5, 6, 7], [], [], []⟩, ⟨[0, 5, 6, 7, 8], [], [], []⟩, ⟨[0, 3, 4, 5, 6, 7], [], [], []⟩, ⟨[0, 5, 6, 7, 47], [], [], []⟩, ⟨[2], [], [], []⟩, ⟨[0, 5, 6, 7], [], [], []⟩, ⟨[2], [], [], []⟩]
noncomputable def f98e : Env := tab.env [(130, s130), (131, s131), (132, s132)]
noncomputable def f98L0 {R : Type} (n : Nat) (x0 : Option R) (x1 : Int → Bool → Option R) (vs0 : List NoteT) (vs5 : List NoteT) (vs6 : Int) : Nat → Int → Option R
  | 0, _ => none
  | m + 1, vs7 =>
    (cond (decide (vs7 < vs6))
      (cond ((decide ((0 : Int) ≤ vs7)) && (decide (vs7 < (vs5.length : Int))))
        (cond (okStr (NoteT.key (atI (t := .note) vs5 (Int.toNat vs7))))
          (cond (!(plainOk (NoteT.key (atI (t := .note) vs5 (Int.toNat vs7)))))
            (x0)
            (cond (hasPre (NoteT.key (atI (t := .note) vs5 (Int.toNat vs7))) (bs [113,117,97,121,47]))
              (x0)
              (cond (okStr (NoteT.text (atI (t := .note) vs5 (Int.toNat vs7))))
                (cond (!(textOk (NoteT.text (atI (t := .note) vs5 (Int.toNat vs7)))))
                  (x0)
                  (cond (decide ((ByteArray.size (NoteT.text (atI (t := .note) vs5 (Int.toNat vs7))) : Int) > (40 : Int)))
                    (x0)
                    (cond (decide (vs7 > (0 : Int)))
                      (cond ((decide ((0 : Int) ≤ (IntKind.wrap .i64 (vs7 - (1 : Int))))) && (decide ((IntKind.wrap .i64 (vs7 - (1 : Int))) < (vs0.length : Int))))
                        (cond (!(sLt (NoteT.key (atI (t := .note) vs0 (Int.toNat (IntKind.wrap .i64 (vs7 - (1 : Int)))))) (NoteT.key (atI (t := .note) vs5 (Int.toNat vs7)))))
                          (x0)
                          (f98L0 n x0 x1 vs0 vs5 vs6 m (IntKind.wrap .i64 (vs7 + (1 : Int)))))
                        none)
                      (f98L0 n x0 x1 vs0 vs5 vs6 m (IntKind.wrap .i64 (vs7 + (1 : Int)))))))
                none)))
          none)
        none)
      (x1 vs7 (decide (vs7 < vs6))))
theorem f98L0_b {R : Type} (n : Nat) (k' : Ex → St → Option R) (vs0 : List NoteT) (vs5 : List NoteT) (vs6 : Int) (vs7 : Int) : ev f98e f98k n (cAt [1,0,1,0,0] f98c) ⟨[(0, .c (.one (.ro .note vs0))), (5, .c (.one (.ro .note vs5))), (6, .c (.one (.v (.int .i64 vs6)))), (7, .c (.one (.v (.int .i64 vs7))))], [], []⟩ k' =
    (cond (decide (vs7 < vs6))
    (cond ((decide ((0 : Int) ≤ vs7)) && (decide (vs7 < (vs5.length : Int))))
      (cond (okStr (NoteT.key (atI (t := .note) vs5 (Int.toNat vs7))))
        (cond (!(plainOk (NoteT.key (atI (t := .note) vs5 (Int.toNat vs7)))))
          (k' .ret ⟨[(2, .c (.one (.v (.bool false))))], [], []⟩)
          (cond (hasPre (NoteT.key (atI (t := .note) vs5 (Int.toNat vs7))) (bs [113,117,97,121,47]))
            (k' .ret ⟨[(2, .c (.one (.v (.bool false))))], [], []⟩)
            (cond (okStr (NoteT.text (atI (t := .note) vs5 (Int.toNat vs7))))
              (cond (!(textOk (NoteT.text (atI (t := .note) vs5 (Int.toNat vs7)))))
                (k' .ret ⟨[(2, .c (.one (.v (.bool false))))], [], []⟩)
                (cond (decide ((ByteArray.size (NoteT.text (atI (t := .note) vs5 (Int.toNat vs7))) : Int) > (40 : Int)))
                  (k' .ret ⟨[(2, .c (.one (.v (.bool false))))], [], []⟩)
                  (cond (decide (vs7 > (0 : Int)))
                    (cond ((decide ((0 : Int) ≤ (IntKind.wrap .i64 (vs7 - (1 : Int))))) && (decide ((IntKind.wrap .i64 (vs7 - (1 : Int))) < (vs0.length : Int))))
                      (cond (!(sLt (NoteT.key (atI (t := .note) vs0 (Int.toNat (IntKind.wrap .i64 (vs7 - (1 : Int)))))) (NoteT.key (atI (t := .note) vs5 (Int.toNat vs7)))))
                        (k' .ret ⟨[(2, .c (.one (.v (.bool false))))], [], []⟩)
                        (k' .normal ⟨[(0, .c (.one (.ro .note vs0))), (5, .c (.one (.ro .note vs5))), (6, .c (.one (.v (.int .i64 vs6)))), (7, .c (.one (.v (.int .i64 (IntKind.wrap .i64 (vs7 + (1 : Int)))))))], [], []⟩))
                      none)
                    (k' .normal ⟨[(0, .c (.one (.ro .note vs0))), (5, .c (.one (.ro .note vs5))), (6, .c (.one (.v (.int .i64 vs6)))), (7, .c (.one (.v (.int .i64 (IntKind.wrap .i64 (vs7 + (1 : Int)))))))], [], []⟩))))
              none)))
        none)
      none)
    (k' (.exit 0) ⟨[(0, .c (.one (.ro .note vs0))), (5, .c (.one (.ro .note vs5))), (6, .c (.one (.v (.int .i64 vs6)))), (7, .c (.one (.v (.int .i64 vs7)))), (8, .c (.one (.v (.bool (decide (vs7 < vs6))))))], [], []⟩)) := by kernel_rfl
theorem f98L0_eq {R : Type} (n : Nat) (k' : Ex → St → Option R) (vs0 : List NoteT) (vs5 : List NoteT) (vs6 : Int) : ∀ (m : Nat) (vs7 : Int), iter (fun st k => ev f98e f98k n (cAt [1,0,1,0,0] f98c) st k) m ⟨[(0, .c (.one (.ro .note vs0))), (5, .c (.one (.ro .note vs5))), (6, .c (.one (.v (.int .i64 vs6)))), (7, .c (.one (.v (.int .i64 vs7))))], [], []⟩ k' = f98L0 n (k' .ret ⟨[(2, .c (.one (.v (.bool false))))], [], []⟩) (fun (xvs7 : Int) (xvs8 : Bool) => k' (.exit 0) ⟨[(0, .c (.one (.ro .note vs0))), (5, .c (.one (.ro .note vs5))), (6, .c (.one (.v (.int .i64 vs6)))), (7, .c (.one (.v (.int .i64 xvs7)))), (8, .c (.one (.v (.bool xvs8))))], [], []⟩) vs0 vs5 vs6 m vs7 := by
  intro m; induction m with
  | zero => intros; rfl
  | succ m ih =>
    intro vs7
    simp only [iter]
    rw [f98L0_b]
    simp only [ih, f98L0]

noncomputable def f98K0 {R : Type} (n : Nat) (k' : Ex → St → Option R) : Ex → St → Option R := (blockK 0 (seqK f98e f98k n (cAt [1,1] f98c) k'))
theorem f98K0_x0 {R : Type} (n : Nat) (k : List Dt → Option R) (a0 : List NoteT)  : f98K0 n (exitK f98e [.ro] [false] true [.tmp 2] [4] [.d (.sl .note) a0] k) .ret ⟨[(2, .c (.one (.v (.bool false))))], [], []⟩ =
    (k [.d .bool false]) := by kernel_rfl
theorem f98K0_x1 {R : Type} (n : Nat) (k : List Dt → Option R) (a0 : List NoteT) (vs0 : List NoteT) (vs5 : List NoteT) (vs6 : Int) (xvs7 : Int) (xvs8 : Bool) : f98K0 n (exitK f98e [.ro] [false] true [.tmp 2] [4] [.d (.sl .note) a0] k) (.exit 0) ⟨[(0, .c (.one (.ro .note vs0))), (5, .c (.one (.ro .note vs5))), (6, .c (.one (.v (.int .i64 vs6)))), (7, .c (.one (.v (.int .i64 xvs7)))), (8, .c (.one (.v (.bool xvs8))))], [], []⟩ =
    (k [.d .bool (decide ((vs0.length : Int) ≤ (4 : Int)))]) := by kernel_rfl

theorem f98_run {R : Type} (n : Nat) (k : List Dt → Option R) (a0 : List NoteT) : evFn f98e f98k n f98c [.ro] [false] true [.tmp 2] [4] [.d (.sl .note) a0] k =
    (f98L0 n (k [.d .bool false]) (fun (xvs7 : Int) (xvs8 : Bool) =>
    (k [.d .bool (decide ((a0.length : Int) ≤ (4 : Int)))])) a0 a0 (a0.length : Int) n (0 : Int)) := by
  refine Eq.trans (b := (iter (fun st k => ev f98e f98k n (cAt [1,0,1,0,0] f98c) st k) n ⟨[(0, .c (.one (.ro .note a0))), (5, .c (.one (.ro .note a0))), (6, .c (.one (.v (.int .i64 (a0.length : Int))))), (7, .c (.one (.v (.int .i64 (0 : Int)))))], [], []⟩ (f98K0 n (exitK f98e [.ro] [false] true [.tmp 2] [4] [.d (.sl .note) a0] k)))) (by kernel_rfl) ?_
  simp only [f98L0_eq, f98K0_x0, f98K0_x1]
theorem f98_spec (a0 : List NoteT) (hg : smL sm_note a0 = true) : ∃ keep rounds, ∀ {R : Type} (k : List Dt → Option R), evFn f98e keep rounds f98c [.ro] [false] true [.tmp 2] [4] [.d (.sl .note) a0] k = k [.d .bool (notesOk a0)] := by
  have hl := smL_len hg
  refine ⟨f98k, a0.length + 1, fun {R} k => ?_⟩
  rw [f98_run]
  refine Eq.trans (loop_idx (n := a0.length) (F := fun m i => f98L0 (a0.length + 1) _ _ a0 a0 (a0.length : Int) m i) (p := noteC a0) (good := k [.d .bool (decide ((a0.length : Int) ≤ (4 : Int)))]) (bad := k [.d .bool false])
    (fun m j hj => ?_) (fun m => by simp only [f98L0, idxE, cond_false]) (a0.length) 0 (a0.length + 1) (by omega) (by omega)) ?_
  · obtain ⟨h1, h0, hw, ht⟩ := idx hj (by omega)
    have hx := smL_at (t := .note) hg hj
    simp only [sm_note, Bool.and_eq_true] at hx
    simp only [f98L0, h1, h0, hw, ht, okStr_sm hx.1, okStr_sm hx.2, Bool.and_self, cond_true]
    unfold noteC
    by_cases hz : (j : Int) > 0
    · obtain ⟨h2, h3, _, h5⟩ := idx (show j - 1 < a0.length by omega) (by omega)
      simp only [hz, decide_true, cond_true, idxM hj (by omega) (by omega), h2, h3, h5, Bool.and_self]
      cases plainOk (atI (t := .note) a0 j).key <;> cases hasPre (atI (t := .note) a0 j).key (bs [113,117,97,121,47]) <;> cases textOk (atI (t := .note) a0 j).text <;> cases decide (((atI (t := .note) a0 j).text.size : Int) > 40) <;> cases sLt (atI (t := .note) a0 (j - 1)).key (atI (t := .note) a0 j).key <;> rfl
    · simp only [hz, decide_false, cond_false]
      cases plainOk (atI (t := .note) a0 j).key <;> cases hasPre (atI (t := .note) a0 j).key (bs [113,117,97,121,47]) <;> cases textOk (atI (t := .note) a0 j).text <;> cases decide (((atI (t := .note) a0 j).text.size : Int) > 40) <;> rfl
  · unfold notesOk
    cases allN (noteC a0) 0 a0.length <;> rfl

noncomputable def q98 : List Dt → Option (Bool × List Dt)
  | [.d (.sl .note) a0] => some ((smL sm_note a0), [.d .bool (notesOk a0)])
  | _ => none
noncomputable def s98 : Gm.Spec := Gm.Spec.of [.ro] [false] true q98
theorem good98 : Gm.Good Try.prog (98, s98) := by
  have hl : ∀ x ∈ [(130, s130), (131, s131), (132, s132)], Gm.Good Try.prog x := List.forall_mem_cons.2 ⟨good130, List.forall_mem_cons.2 ⟨good131, List.forall_mem_cons.2 ⟨good132, List.forall_mem_nil _⟩⟩⟩
  refine ⟨⟨spec_ok (tab_ok.env hl) (tab.natl hl) Try.func98 (by kernel_rfl : Try.f98.body = some f98c) [4] (by kernel_rfl) ?_, _, Try.func98, by kernel_rfl, of_decide_eq_true (by kernel_rfl)⟩, Gm.Spec.of_natl _ _ _ _⟩
  intro ds outs h
  unfold q98 at h
  split at h
  · simp only [Option.some.injEq, Prod.mk.injEq] at h; obtain ⟨hg, h⟩ := h; cases h; exact f98_spec _ hg
  · cases h
/-! ### loop.example/g00465/spec.l6Metrics -/
noncomputable def f92c : Code := (Try.f92.body).getD .skip
def f92k : Nat → Kp := kat [⟨[0], [], [], []⟩, ⟨[0, 3], [], [], []⟩, ⟨[0, 3, 7], [], [], []⟩, ⟨[0, 3], [], [], []⟩, ⟨[0, 3, 33], [], [], []⟩, ⟨[2], [], [], []⟩, ⟨[2], [], [], []⟩]
noncomputable def f92e : Env := tab.env [(124, s124)]
noncomputable def f92L0 {R : Type} (n : Nat) (x0 : Option R) (x1 : Int → Bool → Option R) (vs0 : List MetricT) : Nat → Int → Option R
  | 0, _ => none
  | m + 1, vs3 =>
    (cond (decide (vs3 < (vs0.length : Int)))
      (cond ((decide ((0 : Int) ≤ vs3)) && (decide (vs3 < (vs0.length : Int))))
        (cond (sm_metric (atI (t := .metric) vs0 (Int.toNat vs3)))
          (cond (!(metricOk (atI (t := .metric) vs0 (Int.toNat vs3))))
            (x0)
            (cond (decide (vs3 > (0 : Int)))
              (cond ((decide ((0 : Int) ≤ (IntKind.wrap .i64 (vs3 - (1 : Int))))) && (decide ((IntKind.wrap .i64 (vs3 - (1 : Int))) < (vs0.length : Int))))
                (cond ((decide ((0 : Int) ≤ vs3)) && (decide (vs3 < (vs0.length : Int))))
                  (cond (!(sLt (MetricT.name (atI (t := .metric) vs0 (Int.toNat (IntKind.wrap .i64 (vs3 - (1 : Int)))))) (MetricT.name (atI (t := .metric) vs0 (Int.toNat vs3)))))
                    (x0)
                    (f92L0 n x0 x1 vs0 m (IntKind.wrap .i64 (vs3 + (1 : Int)))))
                  none)
                none)
              (f92L0 n x0 x1 vs0 m (IntKind.wrap .i64 (vs3 + (1 : Int))))))
          none)
        none)
      (x1 vs3 (decide (vs3 < (vs0.length : Int)))))
theorem f92L0_b {R : Type} (n : Nat) (k' : Ex → St → Option R) (vs0 : List MetricT) (vs3 : Int) : ev f92e f92k n (cAt [1,0,1,0,0] f92c) ⟨[(0, .c (.one (.ro .metric vs0))), (3, .c (.one (.v (.int .i64 vs3))))], [], []⟩ k' =
    (cond (decide (vs3 < (vs0.length : Int)))
    (cond ((decide ((0 : Int) ≤ vs3)) && (decide (vs3 < (vs0.length : Int))))
      (cond (sm_metric (atI (t := .metric) vs0 (Int.toNat vs3)))
        (cond (!(metricOk (atI (t := .metric) vs0 (Int.toNat vs3))))
          (k' .ret ⟨[(2, .c (.one (.v (.bool false))))], [], []⟩)
          (cond (decide (vs3 > (0 : Int)))
            (cond ((decide ((0 : Int) ≤ (IntKind.wrap .i64 (vs3 - (1 : Int))))) && (decide ((IntKind.wrap .i64 (vs3 - (1 : Int))) < (vs0.length : Int))))
              (cond ((decide ((0 : Int) ≤ vs3)) && (decide (vs3 < (vs0.length : Int))))
                (cond (!(sLt (MetricT.name (atI (t := .metric) vs0 (Int.toNat (IntKind.wrap .i64 (vs3 - (1 : Int)))))) (MetricT.name (atI (t := .metric) vs0 (Int.toNat vs3)))))
                  (k' .ret ⟨[(2, .c (.one (.v (.bool false))))], [], []⟩)
                  (k' .normal ⟨[(0, .c (.one (.ro .metric vs0))), (3, .c (.one (.v (.int .i64 (IntKind.wrap .i64 (vs3 + (1 : Int)))))))], [], []⟩))
                none)
              none)
            (k' .normal ⟨[(0, .c (.one (.ro .metric vs0))), (3, .c (.one (.v (.int .i64 (IntKind.wrap .i64 (vs3 + (1 : Int)))))))], [], []⟩)))
        none)
      none)
    (k' (.exit 0) ⟨[(0, .c (.one (.ro .metric vs0))), (3, .c (.one (.v (.int .i64 vs3)))), (7, .c (.one (.v (.bool (decide (vs3 < (vs0.length : Int)))))))], [], []⟩)) := by kernel_rfl
theorem f92L0_eq {R : Type} (n : Nat) (k' : Ex → St → Option R) (vs0 : List MetricT) : ∀ (m : Nat) (vs3 : Int), iter (fun st k => ev f92e f92k n (cAt [1,0,1,0,0] f92c) st k) m ⟨[(0, .c (.one (.ro .metric vs0))), (3, .c (.one (.v (.int .i64 vs3))))], [], []⟩ k' = f92L0 n (k' .ret ⟨[(2, .c (.one (.v (.bool false))))], [], []⟩) (fun (xvs3 : Int) (xvs7 : Bool) => k' (.exit 0) ⟨[(0, .c (.one (.ro .metric vs0))), (3, .c (.one (.v (.int .i64 xvs3)))), (7, .c (.one (.v (.bool xvs7))))], [], []⟩) vs0 m vs3 := by
  intro m; induction m with
  | zero => intros; rfl
  | succ m ih =>
    intro vs3
    simp only [iter]
    rw [f92L0_b]
    simp only [ih, f92L0]

noncomputable def f92K0 {R : Type} (n : Nat) (k' : Ex → St → Option R) : Ex → St → Option R := (blockK 0 (seqK f92e f92k n (cAt [1,1] f92c) k'))
theorem f92K0_x0 {R : Type} (n : Nat) (k : List Dt → Option R) (a0 : List MetricT)  : f92K0 n (exitK f92e [.ro] [false] true [.tmp 2] [4] [.d (.sl .metric) a0] k) .ret ⟨[(2, .c (.one (.v (.bool false))))], [], []⟩ =
    (k [.d .bool false]) := by kernel_rfl
theorem f92K0_x1 {R : Type} (n : Nat) (k : List Dt → Option R) (a0 : List MetricT) (vs0 : List MetricT) (xvs3 : Int) (xvs7 : Bool) : f92K0 n (exitK f92e [.ro] [false] true [.tmp 2] [4] [.d (.sl .metric) a0] k) (.exit 0) ⟨[(0, .c (.one (.ro .metric vs0))), (3, .c (.one (.v (.int .i64 xvs3)))), (7, .c (.one (.v (.bool xvs7))))], [], []⟩ =
    (k [.d .bool (decide ((vs0.length : Int) ≤ (4 : Int)))]) := by kernel_rfl

theorem f92_run {R : Type} (n : Nat) (k : List Dt → Option R) (a0 : List MetricT) : evFn f92e f92k n f92c [.ro] [false] true [.tmp 2] [4] [.d (.sl .metric) a0] k =
    (f92L0 n (k [.d .bool false]) (fun (xvs3 : Int) (xvs7 : Bool) =>
    (k [.d .bool (decide ((a0.length : Int) ≤ (4 : Int)))])) a0 n (0 : Int)) := by
  refine Eq.trans (b := (iter (fun st k => ev f92e f92k n (cAt [1,0,1,0,0] f92c) st k) n ⟨[(0, .c (.one (.ro .metric a0))), (3, .c (.one (.v (.int .i64 (0 : Int)))))], [], []⟩ (f92K0 n (exitK f92e [.ro] [false] true [.tmp 2] [4] [.d (.sl .metric) a0] k)))) (by kernel_rfl) ?_
  simp only [f92L0_eq, f92K0_x0, f92K0_x1]
theorem f92_spec (a0 : List MetricT) (hg : smL sm_metric a0 = true) : ∃ keep rounds, ∀ {R : Type} (k : List Dt → Option R), evFn f92e keep rounds f92c [.ro] [false] true [.tmp 2] [4] [.d (.sl .metric) a0] k = k [.d .bool (metsOk a0)] := by
  have hl := smL_len hg
  refine ⟨f92k, a0.length + 1, fun {R} k => ?_⟩
  rw [f92_run]
  refine Eq.trans (loop_idx (n := a0.length) (F := fun m i => f92L0 (a0.length + 1) _ _ a0 m i) (p := metC a0) (good := k [.d .bool (decide ((a0.length : Int) ≤ (4 : Int)))]) (bad := k [.d .bool false])
    (fun m j hj => ?_) (fun m => by simp only [f92L0, idxE, cond_false]) (a0.length) 0 (a0.length + 1) (by omega) (by omega)) ?_
  · obtain ⟨h1, h0, hw, ht⟩ := idx hj (by omega)
    have hx := smL_at (t := .metric) hg hj
    simp only [f92L0, h1, h0, hw, ht, hx, eta_metric, Bool.and_self, cond_true]
    unfold metC
    by_cases hz : (j : Int) > 0
    · obtain ⟨h2, h3, _, h5⟩ := idx (show j - 1 < a0.length by omega) (by omega)
      simp only [hz, decide_true, cond_true, idxM hj (by omega) (by omega), h2, h3, h5, Bool.and_self]
      cases metricOk (atI (t := .metric) a0 j) <;> cases sLt (atI (t := .metric) a0 (j - 1)).name (atI (t := .metric) a0 j).name <;> rfl
    · simp only [hz, decide_false, cond_false]
      cases metricOk (atI (t := .metric) a0 j) <;> rfl
  · unfold metsOk
    cases allN (metC a0) 0 a0.length <;> rfl

noncomputable def q92 : List Dt → Option (Bool × List Dt)
  | [.d (.sl .metric) a0] => some ((smL sm_metric a0), [.d .bool (metsOk a0)])
  | _ => none
noncomputable def s92 : Gm.Spec := Gm.Spec.of [.ro] [false] true q92
theorem good92 : Gm.Good Try.prog (92, s92) := by
  have hl : ∀ x ∈ [(124, s124)], Gm.Good Try.prog x := List.forall_mem_cons.2 ⟨good124, List.forall_mem_nil _⟩
  refine ⟨⟨spec_ok (tab_ok.env hl) (tab.natl hl) Try.func92 (by kernel_rfl : Try.f92.body = some f92c) [4] (by kernel_rfl) ?_, _, Try.func92, by kernel_rfl, of_decide_eq_true (by kernel_rfl)⟩, Gm.Spec.of_natl _ _ _ _⟩
  intro ds outs h
  unfold q92 at h
  split at h
  · simp only [Option.some.injEq, Prod.mk.injEq] at h; obtain ⟨hg, h⟩ := h; cases h; exact f92_spec _ hg
  · cases h
/-! ### loop.example/g00465/spec.OrderOk -/
noncomputable def f55c : Code := (Try.f55.body).getD .skip
def f55k : Nat → Kp := kat [⟨[1], [], [], []⟩, ⟨[2], [], [], []⟩]
noncomputable def f55e : Env := tab.env [(54, s54), (91, s91), (92, s92), (93, s93), (94, s94)]
theorem f55_run {R : Type} (n : Nat) (k : List Dt → Option R) (a0 : OrderT) : evFn f55e f55k n f55c [.ro] [false] true [.tmp 2] [4] [.d .order a0] k =
    (cond (okStr (OrderT.name a0))
    (cond (nameOk (OrderT.name a0))
      (cond (okStr (OrderT.target a0))
        (cond (nameOk (OrderT.target a0))
          (cond (inR (OrderT.low a0) (1 : Int) (OrderT.high a0))
            (cond (decide ((OrderT.high a0) ≤ (1000 : Int)))
              (cond (smL sm_metric (OrderT.metrics a0))
                (cond (metsOk (OrderT.metrics a0))
                  (cond (paceOk (OrderT.pace a0))
                    (cond (smL sm_note (OrderT.notes a0))
                      (k [.d .bool (notesOk (OrderT.notes a0))])
                      none)
                    (k [.d .bool false]))
                  (k [.d .bool false]))
                none)
              (k [.d .bool false]))
            (k [.d .bool false]))
          (k [.d .bool false]))
        none)
      (k [.d .bool false]))
    none) := by kernel_rfl
theorem f55_spec (a0 : OrderT) (hg : sm_order a0 = true) : ∃ keep rounds, ∀ {R : Type} (k : List Dt → Option R), evFn f55e keep rounds f55c [.ro] [false] true [.tmp 2] [4] [.d .order a0] k = k [.d .bool (orderOk a0)] := by
  simp only [sm_order, Bool.and_eq_true] at hg
  obtain ⟨hn, ht0, hlo, hhi, hm, hp, hno⟩ := hg
  have hl := smL_len hm
  refine ⟨f55k, 0, fun {R} k => ?_⟩
  rw [f55_run]
  simp only [okStr_sm hn, okStr_sm ht0, hm, hno, cond_true]
  unfold orderOk
  cases nameOk a0.name <;> cases nameOk a0.target <;> cases inR a0.low 1 a0.high <;> cases decide (a0.high ≤ 1000) <;> cases metsOk a0.metrics <;> cases paceOk a0.pace <;> rfl

noncomputable def q55 : List Dt → Option (Bool × List Dt)
  | [.d .order a0] => some ((sm_order a0), [.d .bool (orderOk a0)])
  | _ => none
noncomputable def s55 : Gm.Spec := Gm.Spec.of [.ro] [false] true q55
theorem good55 : Gm.Good Try.prog (55, s55) := by
  have hl : ∀ x ∈ [(54, s54), (91, s91), (92, s92), (93, s93), (94, s94)], Gm.Good Try.prog x := List.forall_mem_cons.2 ⟨good54, List.forall_mem_cons.2 ⟨good91, List.forall_mem_cons.2 ⟨good92, List.forall_mem_cons.2 ⟨good93, List.forall_mem_cons.2 ⟨good94, List.forall_mem_nil _⟩⟩⟩⟩⟩
  refine ⟨⟨spec_ok (tab_ok.env hl) (tab.natl hl) Try.func55 (by kernel_rfl : Try.f55.body = some f55c) [4] (by kernel_rfl) ?_, _, Try.func55, by kernel_rfl, of_decide_eq_true (by kernel_rfl)⟩, Gm.Spec.of_natl _ _ _ _⟩
  intro ds outs h
  unfold q55 at h
  split at h
  · simp only [Option.some.injEq, Prod.mk.injEq] at h; obtain ⟨hg, h⟩ := h; cases h; exact f55_spec _ hg
  · cases h
/-! ### loop.example/g00465/impl.OrderOk -/
noncomputable def f57c : Code := (Try.f57.body).getD .skip
def f57k : Nat → Kp := kat [⟨[1], [], [], []⟩, ⟨[1, 6, 7, 8], [], [], []⟩, ⟨[1, 6, 7, 8, 9], [], [], []⟩, ⟨[1, 3, 4, 6, 7, 8], [], [], []⟩, ⟨[1, 6, 7, 8, 31], [], [], []⟩, ⟨[2], [], [], []⟩, ⟨[1, 6, 7, 8], [], [], []⟩, ⟨[2], [], [], []⟩]
noncomputable def f57e : Env := tab.env [(56, s56), (95, s95), (96, s96), (97, s97), (98, s98)]
noncomputable def f57L0 {R : Type} (n : Nat) (x0 : Option R) (x1 : Int → Bool → Option R) (vs6 : List MetricT) (vs7 : Int) (vb1_0 : ByteArray) (vb1_1 : ByteArray) (vb1_2 : Int) (vb1_3 : Int) (vb1_4 : List MetricT) (vb1_5 : Int) (vb1_6 : Int) (vb1_7 : Int) (vb1_8 : Int) (vb1_9 : List NoteT) : Nat → Int → Option R
  | 0, _ => none
  | m + 1, vs8 =>
    (cond (decide (vs8 < vs7))
      (cond ((decide ((0 : Int) ≤ vs8)) && (decide (vs8 < (vs6.length : Int))))
        (cond (sm_metric (atI (t := .metric) vs6 (Int.toNat vs8)))
          (cond (!(metricOk (atI (t := .metric) vs6 (Int.toNat vs8))))
            (x0)
            (cond (decide (vs8 > (0 : Int)))
              (cond ((decide ((0 : Int) ≤ (IntKind.wrap .i64 (vs8 - (1 : Int))))) && (decide ((IntKind.wrap .i64 (vs8 - (1 : Int))) < (vb1_4.length : Int))))
                (cond (!(sLt (MetricT.name (atI (t := .metric) vb1_4 (Int.toNat (IntKind.wrap .i64 (vs8 - (1 : Int)))))) (MetricT.name (atI (t := .metric) vs6 (Int.toNat vs8)))))
                  (x0)
                  (f57L0 n x0 x1 vs6 vs7 vb1_0 vb1_1 vb1_2 vb1_3 vb1_4 vb1_5 vb1_6 vb1_7 vb1_8 vb1_9 m (IntKind.wrap .i64 (vs8 + (1 : Int)))))
                none)
              (f57L0 n x0 x1 vs6 vs7 vb1_0 vb1_1 vb1_2 vb1_3 vb1_4 vb1_5 vb1_6 vb1_7 vb1_8 vb1_9 m (IntKind.wrap .i64 (vs8 + (1 : Int))))))
          none)
        none)
      (x1 vs8 (decide (vs8 < vs7))))
theorem f57L0_b {R : Type} (n : Nat) (k' : Ex → St → Option R) (vs6 : List MetricT) (vs7 : Int) (vs8 : Int) (vb1_0 : ByteArray) (vb1_1 : ByteArray) (vb1_2 : Int) (vb1_3 : Int) (vb1_4 : List MetricT) (vb1_5 : Int) (vb1_6 : Int) (vb1_7 : Int) (vb1_8 : Int) (vb1_9 : List NoteT) : ev f57e f57k n (cAt [1,0,1,0,0] f57c) ⟨[(1, .c (.one (.pt 1 0))), (6, .c (.one (.ro .metric vs6))), (7, .c (.one (.v (.int .i64 vs7)))), (8, .c (.one (.v (.int .i64 vs8))))], [(1, ⟨.order, [.v (.string vb1_0), .v (.string vb1_1), .v (.int .i64 vb1_2), .v (.int .i64 vb1_3), .ro .metric vb1_4, .v (.int .i64 vb1_5), .v (.int .i64 vb1_6), .v (.int .i64 vb1_7), .v (.int .i64 vb1_8), .ro .note vb1_9]⟩)], []⟩ k' =
    (cond (decide (vs8 < vs7))
    (cond ((decide ((0 : Int) ≤ vs8)) && (decide (vs8 < (vs6.length : Int))))
      (cond (sm_metric (atI (t := .metric) vs6 (Int.toNat vs8)))
        (cond (!(metricOk (atI (t := .metric) vs6 (Int.toNat vs8))))
          (k' .ret ⟨[(2, .c (.one (.v (.bool false))))], [], []⟩)
          (cond (decide (vs8 > (0 : Int)))
            (cond ((decide ((0 : Int) ≤ (IntKind.wrap .i64 (vs8 - (1 : Int))))) && (decide ((IntKind.wrap .i64 (vs8 - (1 : Int))) < (vb1_4.length : Int))))
              (cond (!(sLt (MetricT.name (atI (t := .metric) vb1_4 (Int.toNat (IntKind.wrap .i64 (vs8 - (1 : Int)))))) (MetricT.name (atI (t := .metric) vs6 (Int.toNat vs8)))))
                (k' .ret ⟨[(2, .c (.one (.v (.bool false))))], [], []⟩)
                (k' .normal ⟨[(1, .c (.one (.pt 1 0))), (6, .c (.one (.ro .metric vs6))), (7, .c (.one (.v (.int .i64 vs7)))), (8, .c (.one (.v (.int .i64 (IntKind.wrap .i64 (vs8 + (1 : Int)))))))], [(1, ⟨.order, [.v (.string vb1_0), .v (.string vb1_1), .v (.int .i64 vb1_2), .v (.int .i64 vb1_3), .ro .metric vb1_4, .v (.int .i64 vb1_5), .v (.int .i64 vb1_6), .v (.int .i64 vb1_7), .v (.int .i64 vb1_8), .ro .note vb1_9]⟩)], []⟩))
              none)
            (k' .normal ⟨[(1, .c (.one (.pt 1 0))), (6, .c (.one (.ro .metric vs6))), (7, .c (.one (.v (.int .i64 vs7)))), (8, .c (.one (.v (.int .i64 (IntKind.wrap .i64 (vs8 + (1 : Int)))))))], [(1, ⟨.order, [.v (.string vb1_0), .v (.string vb1_1), .v (.int .i64 vb1_2), .v (.int .i64 vb1_3), .ro .metric vb1_4, .v (.int .i64 vb1_5), .v (.int .i64 vb1_6), .v (.int .i64 vb1_7), .v (.int .i64 vb1_8), .ro .note vb1_9]⟩)], []⟩)))
        none)
      none)
    (k' (.exit 0) ⟨[(1, .c (.one (.pt 1 0))), (6, .c (.one (.ro .metric vs6))), (7, .c (.one (.v (.int .i64 vs7)))), (8, .c (.one (.v (.int .i64 vs8)))), (9, .c (.one (.v (.bool (decide (vs8 < vs7))))))], [(1, ⟨.order, [.v (.string vb1_0), .v (.string vb1_1), .v (.int .i64 vb1_2), .v (.int .i64 vb1_3), .ro .metric vb1_4, .v (.int .i64 vb1_5), .v (.int .i64 vb1_6), .v (.int .i64 vb1_7), .v (.int .i64 vb1_8), .ro .note vb1_9]⟩)], []⟩)) := by kernel_rfl
theorem f57L0_eq {R : Type} (n : Nat) (k' : Ex → St → Option R) (vs6 : List MetricT) (vs7 : Int) (vb1_0 : ByteArray) (vb1_1 : ByteArray) (vb1_2 : Int) (vb1_3 : Int) (vb1_4 : List MetricT) (vb1_5 : Int) (vb1_6 : Int) (vb1_7 : Int) (vb1_8 : Int) (vb1_9 : List NoteT) : ∀ (m : Nat) (vs8 : Int), iter (fun st k => ev f57e f57k n (cAt [1,0,1,0,0] f57c) st k) m ⟨[(1, .c (.one (.pt 1 0))), (6, .c (.one (.ro .metric vs6))), (7, .c (.one (.v (.int .i64 vs7)))), (8, .c (.one (.v (.int .i64 vs8))))], [(1, ⟨.order, [.v (.string vb1_0), .v (.string vb1_1), .v (.int .i64 vb1_2), .v (.int .i64 vb1_3), .ro .metric vb1_4, .v (.int .i64 vb1_5), .v (.int .i64 vb1_6), .v (.int .i64 vb1_7), .v (.int .i64 vb1_8), .ro .note vb1_9]⟩)], []⟩ k' = f57L0 n (k' .ret ⟨[(2, .c (.one (.v (.bool false))))], [], []⟩) (fun (xvs8 : Int) (xvs9 : Bool) => k' (.exit 0) ⟨[(1, .c (.one (.pt 1 0))), (6, .c (.one (.ro .metric vs6))), (7, .c (.one (.v (.int .i64 vs7)))), (8, .c (.one (.v (.int .i64 xvs8)))), (9, .c (.one (.v (.bool xvs9))))], [(1, ⟨.order, [.v (.string vb1_0), .v (.string vb1_1), .v (.int .i64 vb1_2), .v (.int .i64 vb1_3), .ro .metric vb1_4, .v (.int .i64 vb1_5), .v (.int .i64 vb1_6), .v (.int .i64 vb1_7), .v (.int .i64 vb1_8), .ro .note vb1_9]⟩)], []⟩) vs6 vs7 vb1_0 vb1_1 vb1_2 vb1_3 vb1_4 vb1_5 vb1_6 vb1_7 vb1_8 vb1_9 m vs8 := by
  intro m; induction m with
  | zero => intros; rfl
  | succ m ih =>
    intro vs8
    simp only [iter]
    rw [f57L0_b]
    simp only [ih, f57L0]

noncomputable def f57K0 {R : Type} (n : Nat) (k' : Ex → St → Option R) : Ex → St → Option R := (blockK 0 (seqK f57e f57k n (cAt [1,1] f57c) k'))
theorem f57K0_x0 {R : Type} (n : Nat) (k : List Dt → Option R) (a0 : OrderT)  : f57K0 n (exitK f57e [.ro] [false] true [.tmp 2] [4] [.d .order a0] k) .ret ⟨[(2, .c (.one (.v (.bool false))))], [], []⟩ =
    (k [.d .bool false]) := by kernel_rfl
theorem f57K0_x1 {R : Type} (n : Nat) (k : List Dt → Option R) (a0 : OrderT) (vs6 : List MetricT) (vs7 : Int) (vb1_0 : ByteArray) (vb1_1 : ByteArray) (vb1_2 : Int) (vb1_3 : Int) (vb1_4 : List MetricT) (vb1_5 : Int) (vb1_6 : Int) (vb1_7 : Int) (vb1_8 : Int) (vb1_9 : List NoteT) (xvs8 : Int) (xvs9 : Bool) : f57K0 n (exitK f57e [.ro] [false] true [.tmp 2] [4] [.d .order a0] k) (.exit 0) ⟨[(1, .c (.one (.pt 1 0))), (6, .c (.one (.ro .metric vs6))), (7, .c (.one (.v (.int .i64 vs7)))), (8, .c (.one (.v (.int .i64 xvs8)))), (9, .c (.one (.v (.bool xvs9))))], [(1, ⟨.order, [.v (.string vb1_0), .v (.string vb1_1), .v (.int .i64 vb1_2), .v (.int .i64 vb1_3), .ro .metric vb1_4, .v (.int .i64 vb1_5), .v (.int .i64 vb1_6), .v (.int .i64 vb1_7), .v (.int .i64 vb1_8), .ro .note vb1_9]⟩)], []⟩ =
    (cond (okStr vb1_0)
    (cond (nameOk vb1_0)
      (cond (okStr vb1_1)
        (cond (nameOk vb1_1)
          (cond (inR vb1_2 (1 : Int) vb1_3)
            (cond (decide (vb1_3 ≤ (1000 : Int)))
              (cond (decide ((vb1_4.length : Int) ≤ (4 : Int)))
                (cond (paceOk (⟨vb1_5, vb1_6, vb1_7, vb1_8⟩ : PaceT))
                  (cond (smL sm_note vb1_9)
                    (k [.d .bool (notesOk vb1_9)])
                    none)
                  (k [.d .bool false]))
                (k [.d .bool false]))
              (k [.d .bool false]))
            (k [.d .bool false]))
          (k [.d .bool false]))
        none)
      (k [.d .bool false]))
    none) := by kernel_rfl

theorem f57_run {R : Type} (n : Nat) (k : List Dt → Option R) (a0 : OrderT) : evFn f57e f57k n f57c [.ro] [false] true [.tmp 2] [4] [.d .order a0] k =
    (f57L0 n (k [.d .bool false]) (fun (xvs8 : Int) (xvs9 : Bool) =>
    (cond (okStr (OrderT.name a0))
      (cond (nameOk (OrderT.name a0))
        (cond (okStr (OrderT.target a0))
          (cond (nameOk (OrderT.target a0))
            (cond (inR (OrderT.low a0) (1 : Int) (OrderT.high a0))
              (cond (decide ((OrderT.high a0) ≤ (1000 : Int)))
                (cond (decide (((OrderT.metrics a0).length : Int) ≤ (4 : Int)))
                  (cond (paceOk (⟨(PaceT.up (OrderT.pace a0)), (PaceT.down (OrderT.pace a0)), (PaceT.upSpan (OrderT.pace a0)), (PaceT.downSpan (OrderT.pace a0))⟩ : PaceT))
                    (cond (smL sm_note (OrderT.notes a0))
                      (k [.d .bool (notesOk (OrderT.notes a0))])
                      none)
                    (k [.d .bool false]))
                  (k [.d .bool false]))
                (k [.d .bool false]))
              (k [.d .bool false]))
            (k [.d .bool false]))
          none)
        (k [.d .bool false]))
      none)) (OrderT.metrics a0) ((OrderT.metrics a0).length : Int) (OrderT.name a0) (OrderT.target a0) (OrderT.low a0) (OrderT.high a0) (OrderT.metrics a0) (PaceT.up (OrderT.pace a0)) (PaceT.down (OrderT.pace a0)) (PaceT.upSpan (OrderT.pace a0)) (PaceT.downSpan (OrderT.pace a0)) (OrderT.notes a0) n (0 : Int)) := by
  refine Eq.trans (b := (iter (fun st k => ev f57e f57k n (cAt [1,0,1,0,0] f57c) st k) n ⟨[(1, .c (.one (.pt 1 0))), (6, .c (.one (.ro .metric (OrderT.metrics a0)))), (7, .c (.one (.v (.int .i64 ((OrderT.metrics a0).length : Int))))), (8, .c (.one (.v (.int .i64 (0 : Int)))))], [(1, ⟨.order, [.v (.string (OrderT.name a0)), .v (.string (OrderT.target a0)), .v (.int .i64 (OrderT.low a0)), .v (.int .i64 (OrderT.high a0)), .ro .metric (OrderT.metrics a0), .v (.int .i64 (PaceT.up (OrderT.pace a0))), .v (.int .i64 (PaceT.down (OrderT.pace a0))), .v (.int .i64 (PaceT.upSpan (OrderT.pace a0))), .v (.int .i64 (PaceT.downSpan (OrderT.pace a0))), .ro .note (OrderT.notes a0)]⟩)], []⟩ (f57K0 n (exitK f57e [.ro] [false] true [.tmp 2] [4] [.d .order a0] k)))) (by kernel_rfl) ?_
  simp only [f57L0_eq, f57K0_x0, f57K0_x1]
theorem f57_spec (a0 : OrderT) (hg : sm_order a0 = true) : ∃ keep rounds, ∀ {R : Type} (k : List Dt → Option R), evFn f57e keep rounds f57c [.ro] [false] true [.tmp 2] [4] [.d .order a0] k = k [.d .bool (orderOk a0)] := by
  simp only [sm_order, Bool.and_eq_true] at hg
  obtain ⟨hn, ht0, hlo, hhi, hm, hp, hno⟩ := hg
  have hl := smL_len hm
  refine ⟨f57k, a0.metrics.length + 1, fun {R} k => ?_⟩
  rw [f57_run]
  simp only [okStr_sm hn, okStr_sm ht0, hno, eta_pace, cond_true]
  refine Eq.trans (loop_idx (n := a0.metrics.length) (F := fun m i => f57L0 (a0.metrics.length + 1) _ _ a0.metrics (a0.metrics.length : Int) a0.name a0.target a0.low a0.high a0.metrics a0.pace.up a0.pace.down a0.pace.upSpan a0.pace.downSpan a0.notes m i) (p := metC a0.metrics) (good := cond (nameOk a0.name) (cond (nameOk a0.target) (cond (inR a0.low 1 a0.high) (cond (decide (a0.high ≤ 1000)) (cond (decide ((a0.metrics.length : Int) ≤ 4)) (cond (paceOk a0.pace) (k [.d .bool (notesOk a0.notes)]) (k [.d .bool false])) (k [.d .bool false])) (k [.d .bool false])) (k [.d .bool false])) (k [.d .bool false])) (k [.d .bool false])) (bad := k [.d .bool false])
    (fun m j hj => ?_) (fun m => by simp only [f57L0, idxE, cond_false]) (a0.metrics.length) 0 (a0.metrics.length + 1) (by omega) (by omega)) ?_
  · obtain ⟨h1, h0, hw, ht⟩ := idx hj (by omega)
    have hx := smL_at (t := .metric) hm hj
    simp only [f57L0, h1, h0, hw, ht, hx, eta_metric, Bool.and_self, cond_true]
    unfold metC
    by_cases hz : (j : Int) > 0
    · obtain ⟨h2, h3, _, h5⟩ := idx (show j - 1 < a0.metrics.length by omega) (by omega)
      simp only [hz, decide_true, cond_true, idxM hj (by omega) (by omega), h2, h3, h5, Bool.and_self]
      cases metricOk (atI (t := .metric) a0.metrics j) <;> cases sLt (atI (t := .metric) a0.metrics (j - 1)).name (atI (t := .metric) a0.metrics j).name <;> rfl
    · simp only [hz, decide_false, cond_false]
      cases metricOk (atI (t := .metric) a0.metrics j) <;> rfl
  · unfold orderOk metsOk
    cases nameOk a0.name <;> cases nameOk a0.target <;> cases inR a0.low 1 a0.high <;> cases decide (a0.high ≤ 1000) <;> cases allN (metC a0.metrics) 0 a0.metrics.length <;> cases decide ((a0.metrics.length : Int) ≤ 4) <;> cases paceOk a0.pace <;> rfl

noncomputable def q57 : List Dt → Option (Bool × List Dt)
  | [.d .order a0] => some ((sm_order a0), [.d .bool (orderOk a0)])
  | _ => none
noncomputable def s57 : Gm.Spec := Gm.Spec.of [.ro] [false] true q57
theorem good57 : Gm.Good Try.prog (57, s57) := by
  have hl : ∀ x ∈ [(56, s56), (95, s95), (96, s96), (97, s97), (98, s98)], Gm.Good Try.prog x := List.forall_mem_cons.2 ⟨good56, List.forall_mem_cons.2 ⟨good95, List.forall_mem_cons.2 ⟨good96, List.forall_mem_cons.2 ⟨good97, List.forall_mem_cons.2 ⟨good98, List.forall_mem_nil _⟩⟩⟩⟩⟩
  refine ⟨⟨spec_ok (tab_ok.env hl) (tab.natl hl) Try.func57 (by kernel_rfl : Try.f57.body = some f57c) [4] (by kernel_rfl) ?_, _, Try.func57, by kernel_rfl, of_decide_eq_true (by kernel_rfl)⟩, Gm.Spec.of_natl _ _ _ _⟩
  intro ds outs h
  unfold q57 at h
  split at h
  · simp only [Option.some.injEq, Prod.mk.injEq] at h; obtain ⟨hg, h⟩ := h; cases h; exact f57_spec _ hg
  · cases h
end Go.Proofs.Ytnbehmbjoanfoaa

/- x -/
namespace Go.Proofs.Ytnbehmbjoanfoaa
open Go Go.Gm
/-! ### loop.example/g00465/spec.HistOk -/
noncomputable def f11c : Code := (Try.f11.body).getD .skip
def f11k : Nat → Kp := kat [⟨[1], [], [], []⟩, ⟨[1, 14], [], [], []⟩, ⟨[2], [], [], []⟩, ⟨[1, 3], [], [], []⟩, ⟨[1, 3, 19], [], [], []⟩, ⟨[1, 3], [], [], []⟩, ⟨[1, 3, 4], [], [], []⟩, ⟨[1, 3, 54], [], [], []⟩, ⟨[2], [], [], []⟩, ⟨[2], [], [], []⟩]
noncomputable def f11e : Env := tab.env [(54, s54), (55, s55)]
noncomputable def f11L0 {R : Type} (n : Nat) (x0 : Option R) (x1 : Int → Bool → Option R) (vb1_0 : Int) (vb1_1 : List EventT) : Nat → Int → Option R
  | 0, _ => none
  | m + 1, vs3 =>
    (cond (decide (vs3 < (vb1_1.length : Int)))
      (cond ((decide ((0 : Int) ≤ vs3)) && (decide (vs3 < (vb1_1.length : Int))))
        (cond ((EventT.seq (atI (t := .event) vb1_1 (Int.toNat vs3))) != (IntKind.wrap .i64 ((IntKind.wrap .i64 (vb1_0 + (1 : Int))) + vs3)))
          (x0)
          (cond (!(inR (EventT.kind (atI (t := .event) vb1_1 (Int.toNat vs3))) (1 : Int) (2 : Int)))
            (x0)
            (cond (sm_order (ItemT.order (EventT.item (atI (t := .event) vb1_1 (Int.toNat vs3)))))
              (cond (!(orderOk (ItemT.order (EventT.item (atI (t := .event) vb1_1 (Int.toNat vs3))))))
                (x0)
                (cond (!(inR (ItemT.ver (EventT.item (atI (t := .event) vb1_1 (Int.toNat vs3)))) (1 : Int) (100000 : Int)))
                  (x0)
                  (f11L0 n x0 x1 vb1_0 vb1_1 m (IntKind.wrap .i64 (vs3 + (1 : Int))))))
              none)))
        none)
      (x1 vs3 (decide (vs3 < (vb1_1.length : Int)))))
theorem f11L0_b {R : Type} (n : Nat) (k' : Ex → St → Option R) (vs3 : Int) (vb1_0 : Int) (vb1_1 : List EventT) : ev f11e f11k n (cAt [1,1,0,1,0,0] f11c) ⟨[(1, .c (.one (.pt 1 0))), (3, .c (.one (.v (.int .i64 vs3))))], [(1, ⟨.hist, [.v (.int .i64 vb1_0), .ro .event vb1_1]⟩)], []⟩ k' =
    (cond (decide (vs3 < (vb1_1.length : Int)))
    (cond ((decide ((0 : Int) ≤ vs3)) && (decide (vs3 < (vb1_1.length : Int))))
      (cond ((EventT.seq (atI (t := .event) vb1_1 (Int.toNat vs3))) != (IntKind.wrap .i64 ((IntKind.wrap .i64 (vb1_0 + (1 : Int))) + vs3)))
        (k' .ret ⟨[(2, .c (.one (.v (.bool false))))], [], []⟩)
        (cond (!(inR (EventT.kind (atI (t := .event) vb1_1 (Int.toNat vs3))) (1 : Int) (2 : Int)))
          (k' .ret ⟨[(2, .c (.one (.v (.bool false))))], [], []⟩)
          (cond (sm_order (ItemT.order (EventT.item (atI (t := .event) vb1_1 (Int.toNat vs3)))))
            (cond (!(orderOk (ItemT.order (EventT.item (atI (t := .event) vb1_1 (Int.toNat vs3))))))
              (k' .ret ⟨[(2, .c (.one (.v (.bool false))))], [], []⟩)
              (cond (!(inR (ItemT.ver (EventT.item (atI (t := .event) vb1_1 (Int.toNat vs3)))) (1 : Int) (100000 : Int)))
                (k' .ret ⟨[(2, .c (.one (.v (.bool false))))], [], []⟩)
                (k' .normal ⟨[(1, .c (.one (.pt 1 0))), (3, .c (.one (.v (.int .i64 (IntKind.wrap .i64 (vs3 + (1 : Int)))))))], [(1, ⟨.hist, [.v (.int .i64 vb1_0), .ro .event vb1_1]⟩)], []⟩)))
            none)))
      none)
    (k' (.exit 0) ⟨[(1, .c (.one (.pt 1 0))), (3, .c (.one (.v (.int .i64 vs3)))), (19, .c (.one (.v (.bool (decide (vs3 < (vb1_1.length : Int)))))))], [(1, ⟨.hist, [.v (.int .i64 vb1_0), .ro .event vb1_1]⟩)], []⟩)) := by kernel_rfl
theorem f11L0_eq {R : Type} (n : Nat) (k' : Ex → St → Option R) (vb1_0 : Int) (vb1_1 : List EventT) : ∀ (m : Nat) (vs3 : Int), iter (fun st k => ev f11e f11k n (cAt [1,1,0,1,0,0] f11c) st k) m ⟨[(1, .c (.one (.pt 1 0))), (3, .c (.one (.v (.int .i64 vs3))))], [(1, ⟨.hist, [.v (.int .i64 vb1_0), .ro .event vb1_1]⟩)], []⟩ k' = f11L0 n (k' .ret ⟨[(2, .c (.one (.v (.bool false))))], [], []⟩) (fun (xvs3 : Int) (xvs19 : Bool) => k' (.exit 0) ⟨[(1, .c (.one (.pt 1 0))), (3, .c (.one (.v (.int .i64 xvs3)))), (19, .c (.one (.v (.bool xvs19))))], [(1, ⟨.hist, [.v (.int .i64 vb1_0), .ro .event vb1_1]⟩)], []⟩) vb1_0 vb1_1 m vs3 := by
  intro m; induction m with
  | zero => intros; rfl
  | succ m ih =>
    intro vs3
    simp only [iter]
    rw [f11L0_b]
    simp only [ih, f11L0]

noncomputable def f11K0 {R : Type} (n : Nat) (k' : Ex → St → Option R) : Ex → St → Option R := (blockK 0 (seqK f11e f11k n (cAt [1,1,1] f11c) k'))
theorem f11K0_x0 {R : Type} (n : Nat) (k : List Dt → Option R) (a0 : HistT)  : f11K0 n (exitK f11e [.ro] [false] true [.tmp 2] [4] [.d .hist a0] k) .ret ⟨[(2, .c (.one (.v (.bool false))))], [], []⟩ =
    (k [.d .bool false]) := by kernel_rfl
theorem f11K0_x1 {R : Type} (n : Nat) (k : List Dt → Option R) (a0 : HistT) (vb1_0 : Int) (vb1_1 : List EventT) (xvs3 : Int) (xvs19 : Bool) : f11K0 n (exitK f11e [.ro] [false] true [.tmp 2] [4] [.d .hist a0] k) (.exit 0) ⟨[(1, .c (.one (.pt 1 0))), (3, .c (.one (.v (.int .i64 xvs3)))), (19, .c (.one (.v (.bool xvs19))))], [(1, ⟨.hist, [.v (.int .i64 vb1_0), .ro .event vb1_1]⟩)], []⟩ =
    (k [.d .bool true]) := by kernel_rfl

theorem f11_run {R : Type} (n : Nat) (k : List Dt → Option R) (a0 : HistT) : evFn f11e f11k n f11c [.ro] [false] true [.tmp 2] [4] [.d .hist a0] k =
    (cond (!(inR (HistT.base a0) (0 : Int) (100000 : Int)))
    (k [.d .bool false])
    (cond (decide (((HistT.list a0).length : Int) > (60 : Int)))
      (k [.d .bool false])
      (f11L0 n (k [.d .bool false]) (fun (xvs3 : Int) (xvs19 : Bool) =>
        (k [.d .bool true])) (HistT.base a0) (HistT.list a0) n (0 : Int)))) := by
  refine Eq.trans (b := (cond (!(inR (HistT.base a0) (0 : Int) (100000 : Int)))
    (k [.d .bool false])
    (cond (decide (((HistT.list a0).length : Int) > (60 : Int)))
      (k [.d .bool false])
      (iter (fun st k => ev f11e f11k n (cAt [1,1,0,1,0,0] f11c) st k) n ⟨[(1, .c (.one (.pt 1 0))), (3, .c (.one (.v (.int .i64 (0 : Int)))))], [(1, ⟨.hist, [.v (.int .i64 (HistT.base a0)), .ro .event (HistT.list a0)]⟩)], []⟩ (f11K0 n (exitK f11e [.ro] [false] true [.tmp 2] [4] [.d .hist a0] k)))))) (by kernel_rfl) ?_
  simp only [f11L0_eq, f11K0_x0, f11K0_x1]
theorem f11_spec (a0 : HistT) (hg : sm_hist a0 = true) : ∃ keep rounds, ∀ {R : Type} (k : List Dt → Option R), evFn f11e keep rounds f11c [.ro] [false] true [.tmp 2] [4] [.d .hist a0] k = k [.d .bool (histOk a0)] := by
  simp only [sm_hist, Bool.and_eq_true] at hg
  have hl := smL_len hg.2
  refine ⟨f11k, a0.list.length + 1, fun {R} k => ?_⟩
  rw [f11_run]
  unfold histOk
  cases hb : inR a0.base 0 100000
  · rfl
  rw [inR_iff] at hb
  by_cases h60 : (a0.list.length : Int) > 60
  · simp only [h60, decide_true, Bool.not_true, cond_true, cond_false, Bool.and_false, Bool.false_and]
  simp only [h60, decide_false, Bool.not_true, Bool.not_false, cond_true, cond_false, Bool.true_and]
  refine Eq.trans (loop_idx (n := a0.list.length) (F := fun m i => f11L0 (a0.list.length + 1) _ _ a0.base a0.list m i) (p := eventC a0) (good := k [.d .bool true]) (bad := k [.d .bool false])
    (fun m j hj => ?_) (fun m => by simp only [f11L0, idxE, cond_false]) (a0.list.length) 0 (a0.list.length + 1) (by omega) (by omega)) ?_
  · obtain ⟨h1, h0, hw, ht⟩ := idx hj (by omega)
    have hx := smL_at (t := .event) hg.2 hj
    simp only [sm_event, sm_item, Bool.and_eq_true] at hx
    replace hx := hx.2.2.1
    simp only [f11L0, h1, h0, hw, ht, hx, wrap_id (x := a0.base + 1) (by omega) (by omega), wrap_id (x := a0.base + 1 + (j : Int)) (by omega) (by omega), eta_order, eta_order2, Bool.and_self, cond_true]
    unfold eventC
    simp only [bne]
    cases ((atI (t := .event) a0.list j).seq == a0.base + 1 + (j : Int)) <;> cases orderOk (atI (t := .event) a0.list j).item.order <;> cases inR (atI (t := .event) a0.list j).item.ver 1 100000 <;> cases inR (atI (t := .event) a0.list j).kind 1 2 <;> rfl
  · cases allN (eventC a0) 0 a0.list.length <;> rfl

noncomputable def q11 : List Dt → Option (Bool × List Dt)
  | [.d .hist a0] => some ((sm_hist a0), [.d .bool (histOk a0)])
  | _ => none
noncomputable def s11 : Gm.Spec := Gm.Spec.of [.ro] [false] true q11
theorem good11 : Gm.Good Try.prog (11, s11) := by
  have hl : ∀ x ∈ [(54, s54), (55, s55)], Gm.Good Try.prog x := List.forall_mem_cons.2 ⟨good54, List.forall_mem_cons.2 ⟨good55, List.forall_mem_nil _⟩⟩
  refine ⟨⟨spec_ok (tab_ok.env hl) (tab.natl hl) Try.func11 (by kernel_rfl : Try.f11.body = some f11c) [4] (by kernel_rfl) ?_, _, Try.func11, by kernel_rfl, of_decide_eq_true (by kernel_rfl)⟩, Gm.Spec.of_natl _ _ _ _⟩
  intro ds outs h
  unfold q11 at h
  split at h
  · simp only [Option.some.injEq, Prod.mk.injEq] at h; obtain ⟨hg, h⟩ := h; cases h; exact f11_spec _ hg
  · cases h
/-! ### loop.example/g00465/impl.HistOk -/
noncomputable def f13c : Code := (Try.f13.body).getD .skip
def f13k : Nat → Kp := kat [⟨[1], [], [], []⟩, ⟨[1, 14], [], [], []⟩, ⟨[2], [], [], []⟩, ⟨[1, 16, 17, 18], [], [], []⟩, ⟨[1, 16, 17, 18, 19], [], [], []⟩, ⟨[1, 3, 4, 16, 17, 18], [], [], []⟩, ⟨[1, 16, 17, 18, 54], [], [], []⟩, ⟨[2], [], [], []⟩, ⟨[1, 16, 17, 18], [], [], []⟩, ⟨[2], [], [], []⟩]
noncomputable def f13e : Env := tab.env [(56, s56), (57, s57)]
noncomputable def f13L0 {R : Type} (n : Nat) (x0 : Option R) (x1 : Int → Bool → Option R) (vs16 : List EventT) (vs17 : Int) (vb1_0 : Int) (vb1_1 : List EventT) : Nat → Int → Option R
  | 0, _ => none
  | m + 1, vs18 =>
    (cond (decide (vs18 < vs17))
      (cond ((decide ((0 : Int) ≤ vs18)) && (decide (vs18 < (vs16.length : Int))))
        (cond ((EventT.seq (atI (t := .event) vs16 (Int.toNat vs18))) != (IntKind.wrap .i64 ((IntKind.wrap .i64 (vb1_0 + (1 : Int))) + vs18)))
          (x0)
          (cond ((EventT.kind (atI (t := .event) vs16 (Int.toNat vs18))) != (1 : Int))
            (cond ((EventT.kind (atI (t := .event) vs16 (Int.toNat vs18))) != (2 : Int))
              (x0)
              (cond (sm_order (ItemT.order (EventT.item (atI (t := .event) vs16 (Int.toNat vs18)))))
                (cond (!(orderOk (ItemT.order (EventT.item (atI (t := .event) vs16 (Int.toNat vs18))))))
                  (x0)
                  (cond (!(inR (ItemT.ver (EventT.item (atI (t := .event) vs16 (Int.toNat vs18)))) (1 : Int) (100000 : Int)))
                    (x0)
                    (f13L0 n x0 x1 vs16 vs17 vb1_0 vb1_1 m (IntKind.wrap .i64 (vs18 + (1 : Int))))))
                none))
            (cond (sm_order (ItemT.order (EventT.item (atI (t := .event) vs16 (Int.toNat vs18)))))
              (cond (!(orderOk (ItemT.order (EventT.item (atI (t := .event) vs16 (Int.toNat vs18))))))
                (x0)
                (cond (!(inR (ItemT.ver (EventT.item (atI (t := .event) vs16 (Int.toNat vs18)))) (1 : Int) (100000 : Int)))
                  (x0)
                  (f13L0 n x0 x1 vs16 vs17 vb1_0 vb1_1 m (IntKind.wrap .i64 (vs18 + (1 : Int))))))
              none)))
        none)
      (x1 vs18 (decide (vs18 < vs17))))
theorem f13L0_b {R : Type} (n : Nat) (k' : Ex → St → Option R) (vs16 : List EventT) (vs17 : Int) (vs18 : Int) (vb1_0 : Int) (vb1_1 : List EventT) : ev f13e f13k n (cAt [1,1,0,1,0,0] f13c) ⟨[(1, .c (.one (.pt 1 0))), (16, .c (.one (.ro .event vs16))), (17, .c (.one (.v (.int .i64 vs17)))), (18, .c (.one (.v (.int .i64 vs18))))], [(1, ⟨.hist, [.v (.int .i64 vb1_0), .ro .event vb1_1]⟩)], []⟩ k' =
    (cond (decide (vs18 < vs17))
    (cond ((decide ((0 : Int) ≤ vs18)) && (decide (vs18 < (vs16.length : Int))))
      (cond ((EventT.seq (atI (t := .event) vs16 (Int.toNat vs18))) != (IntKind.wrap .i64 ((IntKind.wrap .i64 (vb1_0 + (1 : Int))) + vs18)))
        (k' .ret ⟨[(2, .c (.one (.v (.bool false))))], [], []⟩)
        (cond ((EventT.kind (atI (t := .event) vs16 (Int.toNat vs18))) != (1 : Int))
          (cond ((EventT.kind (atI (t := .event) vs16 (Int.toNat vs18))) != (2 : Int))
            (k' .ret ⟨[(2, .c (.one (.v (.bool false))))], [], []⟩)
            (cond (sm_order (ItemT.order (EventT.item (atI (t := .event) vs16 (Int.toNat vs18)))))
              (cond (!(orderOk (ItemT.order (EventT.item (atI (t := .event) vs16 (Int.toNat vs18))))))
                (k' .ret ⟨[(2, .c (.one (.v (.bool false))))], [], []⟩)
                (cond (!(inR (ItemT.ver (EventT.item (atI (t := .event) vs16 (Int.toNat vs18)))) (1 : Int) (100000 : Int)))
                  (k' .ret ⟨[(2, .c (.one (.v (.bool false))))], [], []⟩)
                  (k' .normal ⟨[(1, .c (.one (.pt 1 0))), (16, .c (.one (.ro .event vs16))), (17, .c (.one (.v (.int .i64 vs17)))), (18, .c (.one (.v (.int .i64 (IntKind.wrap .i64 (vs18 + (1 : Int)))))))], [(1, ⟨.hist, [.v (.int .i64 vb1_0), .ro .event vb1_1]⟩)], []⟩)))
              none))
          (cond (sm_order (ItemT.order (EventT.item (atI (t := .event) vs16 (Int.toNat vs18)))))
            (cond (!(orderOk (ItemT.order (EventT.item (atI (t := .event) vs16 (Int.toNat vs18))))))
              (k' .ret ⟨[(2, .c (.one (.v (.bool false))))], [], []⟩)
              (cond (!(inR (ItemT.ver (EventT.item (atI (t := .event) vs16 (Int.toNat vs18)))) (1 : Int) (100000 : Int)))
                (k' .ret ⟨[(2, .c (.one (.v (.bool false))))], [], []⟩)
                (k' .normal ⟨[(1, .c (.one (.pt 1 0))), (16, .c (.one (.ro .event vs16))), (17, .c (.one (.v (.int .i64 vs17)))), (18, .c (.one (.v (.int .i64 (IntKind.wrap .i64 (vs18 + (1 : Int)))))))], [(1, ⟨.hist, [.v (.int .i64 vb1_0), .ro .event vb1_1]⟩)], []⟩)))
            none)))
      none)
    (k' (.exit 0) ⟨[(1, .c (.one (.pt 1 0))), (16, .c (.one (.ro .event vs16))), (17, .c (.one (.v (.int .i64 vs17)))), (18, .c (.one (.v (.int .i64 vs18)))), (19, .c (.one (.v (.bool (decide (vs18 < vs17))))))], [(1, ⟨.hist, [.v (.int .i64 vb1_0), .ro .event vb1_1]⟩)], []⟩)) := by kernel_rfl
theorem f13L0_eq {R : Type} (n : Nat) (k' : Ex → St → Option R) (vs16 : List EventT) (vs17 : Int) (vb1_0 : Int) (vb1_1 : List EventT) : ∀ (m : Nat) (vs18 : Int), iter (fun st k => ev f13e f13k n (cAt [1,1,0,1,0,0] f13c) st k) m ⟨[(1, .c (.one (.pt 1 0))), (16, .c (.one (.ro .event vs16))), (17, .c (.one (.v (.int .i64 vs17)))), (18, .c (.one (.v (.int .i64 vs18))))], [(1, ⟨.hist, [.v (.int .i64 vb1_0), .ro .event vb1_1]⟩)], []⟩ k' = f13L0 n (k' .ret ⟨[(2, .c (.one (.v (.bool false))))], [], []⟩) (fun (xvs18 : Int) (xvs19 : Bool) => k' (.exit 0) ⟨[(1, .c (.one (.pt 1 0))), (16, .c (.one (.ro .event vs16))), (17, .c (.one (.v (.int .i64 vs17)))), (18, .c (.one (.v (.int .i64 xvs18)))), (19, .c (.one (.v (.bool xvs19))))], [(1, ⟨.hist, [.v (.int .i64 vb1_0), .ro .event vb1_1]⟩)], []⟩) vs16 vs17 vb1_0 vb1_1 m vs18 := by
  intro m; induction m with
  | zero => intros; rfl
  | succ m ih =>
    intro vs18
    simp only [iter]
    rw [f13L0_b]
    simp only [ih, f13L0]

noncomputable def f13K0 {R : Type} (n : Nat) (k' : Ex → St → Option R) : Ex → St → Option R := (blockK 0 (seqK f13e f13k n (cAt [1,1,1] f13c) k'))
theorem f13K0_x0 {R : Type} (n : Nat) (k : List Dt → Option R) (a0 : HistT)  : f13K0 n (exitK f13e [.ro] [false] true [.tmp 2] [4] [.d .hist a0] k) .ret ⟨[(2, .c (.one (.v (.bool false))))], [], []⟩ =
    (k [.d .bool false]) := by kernel_rfl
theorem f13K0_x1 {R : Type} (n : Nat) (k : List Dt → Option R) (a0 : HistT) (vs16 : List EventT) (vs17 : Int) (vb1_0 : Int) (vb1_1 : List EventT) (xvs18 : Int) (xvs19 : Bool) : f13K0 n (exitK f13e [.ro] [false] true [.tmp 2] [4] [.d .hist a0] k) (.exit 0) ⟨[(1, .c (.one (.pt 1 0))), (16, .c (.one (.ro .event vs16))), (17, .c (.one (.v (.int .i64 vs17)))), (18, .c (.one (.v (.int .i64 xvs18)))), (19, .c (.one (.v (.bool xvs19))))], [(1, ⟨.hist, [.v (.int .i64 vb1_0), .ro .event vb1_1]⟩)], []⟩ =
    (k [.d .bool true]) := by kernel_rfl

theorem f13_run {R : Type} (n : Nat) (k : List Dt → Option R) (a0 : HistT) : evFn f13e f13k n f13c [.ro] [false] true [.tmp 2] [4] [.d .hist a0] k =
    (cond (!(inR (HistT.base a0) (0 : Int) (100000 : Int)))
    (k [.d .bool false])
    (cond (decide (((HistT.list a0).length : Int) > (60 : Int)))
      (k [.d .bool false])
      (f13L0 n (k [.d .bool false]) (fun (xvs18 : Int) (xvs19 : Bool) =>
        (k [.d .bool true])) (HistT.list a0) ((HistT.list a0).length : Int) (HistT.base a0) (HistT.list a0) n (0 : Int)))) := by
  refine Eq.trans (b := (cond (!(inR (HistT.base a0) (0 : Int) (100000 : Int)))
    (k [.d .bool false])
    (cond (decide (((HistT.list a0).length : Int) > (60 : Int)))
      (k [.d .bool false])
      (iter (fun st k => ev f13e f13k n (cAt [1,1,0,1,0,0] f13c) st k) n ⟨[(1, .c (.one (.pt 1 0))), (16, .c (.one (.ro .event (HistT.list a0)))), (17, .c (.one (.v (.int .i64 ((HistT.list a0).length : Int))))), (18, .c (.one (.v (.int .i64 (0 : Int)))))], [(1, ⟨.hist, [.v (.int .i64 (HistT.base a0)), .ro .event (HistT.list a0)]⟩)], []⟩ (f13K0 n (exitK f13e [.ro] [false] true [.tmp 2] [4] [.d .hist a0] k)))))) (by kernel_rfl) ?_
  simp only [f13L0_eq, f13K0_x0, f13K0_x1]
theorem f13_spec (a0 : HistT) (hg : sm_hist a0 = true) : ∃ keep rounds, ∀ {R : Type} (k : List Dt → Option R), evFn f13e keep rounds f13c [.ro] [false] true [.tmp 2] [4] [.d .hist a0] k = k [.d .bool (histOk a0)] := by
  simp only [sm_hist, Bool.and_eq_true] at hg
  have hl := smL_len hg.2
  refine ⟨f13k, a0.list.length + 1, fun {R} k => ?_⟩
  rw [f13_run]
  unfold histOk
  cases hb : inR a0.base 0 100000
  · rfl
  rw [inR_iff] at hb
  by_cases h60 : (a0.list.length : Int) > 60
  · simp only [h60, decide_true, Bool.not_true, cond_true, cond_false, Bool.and_false, Bool.false_and]
  simp only [h60, decide_false, Bool.not_true, Bool.not_false, cond_true, cond_false, Bool.true_and]
  refine Eq.trans (loop_idx (n := a0.list.length) (F := fun m i => f13L0 (a0.list.length + 1) _ _ a0.list (a0.list.length : Int) a0.base a0.list m i) (p := eventC a0) (good := k [.d .bool true]) (bad := k [.d .bool false])
    (fun m j hj => ?_) (fun m => by simp only [f13L0, idxE, cond_false]) (a0.list.length) 0 (a0.list.length + 1) (by omega) (by omega)) ?_
  · obtain ⟨h1, h0, hw, ht⟩ := idx hj (by omega)
    have hx := smL_at (t := .event) hg.2 hj
    simp only [sm_event, sm_item, Bool.and_eq_true] at hx
    replace hx := hx.2.2.1
    simp only [f13L0, h1, h0, hw, ht, hx, wrap_id (x := a0.base + 1) (by omega) (by omega), wrap_id (x := a0.base + 1 + (j : Int)) (by omega) (by omega), eta_order, eta_order2, Bool.and_self, cond_true]
    unfold eventC
    simp only [bne]
    rw [in12]
    cases ((atI (t := .event) a0.list j).seq == a0.base + 1 + (j : Int)) <;> cases orderOk (atI (t := .event) a0.list j).item.order <;> cases inR (atI (t := .event) a0.list j).item.ver 1 100000 <;> cases ((atI (t := .event) a0.list j).kind == (1 : Int)) <;> cases ((atI (t := .event) a0.list j).kind == (2 : Int)) <;> rfl
  · cases allN (eventC a0) 0 a0.list.length <;> rfl

noncomputable def q13 : List Dt → Option (Bool × List Dt)
  | [.d .hist a0] => some ((sm_hist a0), [.d .bool (histOk a0)])
  | _ => none
noncomputable def s13 : Gm.Spec := Gm.Spec.of [.ro] [false] true q13
theorem good13 : Gm.Good Try.prog (13, s13) := by
  have hl : ∀ x ∈ [(56, s56), (57, s57)], Gm.Good Try.prog x := List.forall_mem_cons.2 ⟨good56, List.forall_mem_cons.2 ⟨good57, List.forall_mem_nil _⟩⟩
  refine ⟨⟨spec_ok (tab_ok.env hl) (tab.natl hl) Try.func13 (by kernel_rfl : Try.f13.body = some f13c) [4] (by kernel_rfl) ?_, _, Try.func13, by kernel_rfl, of_decide_eq_true (by kernel_rfl)⟩, Gm.Spec.of_natl _ _ _ _⟩
  intro ds outs h
  unfold q13 at h
  split at h
  · simp only [Option.some.injEq, Prod.mk.injEq] at h; obtain ⟨hg, h⟩ := h; cases h; exact f13_spec _ hg
  · cases h
end Go.Proofs.Ytnbehmbjoanfoaa

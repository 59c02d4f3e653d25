/- What the functions compute, part 1. No conditions. -/
import Derived.Test.YtklmnopgogcbhaaGm4
import Derived.Test.YtklmnopgogcbhaaRows
import Derived.Lib.Strings
import Derived.Lib.Slices
import Derived.Lib.Walk
import Derived.Lib.Bytealg
/- The table of types of the program, and that it is the program's. Printed by gev.py of this session. -/
namespace Go.Proofs.Ytklmnopgogcbhaa
open Go Go.Gm
def tab : Tab := { code := [(2, (.i .i64)), (3, (.i .i64)), (4, .bool), (5, (.i .u8)), (6, (.i .u8)), (9, .str), (10, .str), (11, .str), (12, (.i .u64)), (21, (.i .i32)), (22, (.sl .str)), (24, .pick), (27, .pick), (32, (.sl .note)), (35, (.sl .note)), (39, (.sl (.i .u8))), (41, (.sl .item)), (43, .store), (44, (.sl .pick)), (50, (.sl (.i .i64))), (51, (.sl .item)), (53, .store), (54, (.sl .pick)), (73, .note), (74, .note), (84, (.sl .metric)), (86, .pace), (88, .order), (90, .item), (112, .cur), (119, (.sl .metric)), (120, .pace), (122, .order), (124, .item), (135, .metric), (137, (.i .u64)), (158, .metric), (171, (.i .u32)), (172, (.i .u8)), (173, (.i .u8)), (175, (.i .i32)), (176, (.i .i32))], eqs := [], fld := [(24, [(0, 3), (1, 9), (2, 22)]), (27, [(0, 3), (1, 9), (2, 22)]), (43, [(0, 41), (1, 3)]), (53, [(0, 51), (1, 3)]), (73, [(0, 9), (1, 9)]), (74, [(0, 9), (1, 9)]), (86, [(0, 3), (1, 3), (2, 3), (3, 3)]), (88, [(0, 9), (1, 9), (2, 3), (3, 3), (4, 84), (5, 86), (9, 35)]), (90, [(0, 88), (10, 3)]), (112, [(0, 39), (1, 3), (2, 3)]), (120, [(0, 3), (1, 3), (2, 3), (3, 3)]), (122, [(0, 9), (1, 9), (2, 3), (3, 3), (4, 119), (5, 120), (9, 32)]), (124, [(0, 122), (10, 3)]), (135, [(0, 9), (1, 3), (2, 3)]), (158, [(0, 9), (1, 3), (2, 3)])] }
theorem und2 : UndOk (tab.env []) Try.prog 2 (.i .i64) := (by kernel_rfl : Try.prog.underlying 2 = some (.int .i64))
theorem und3 : UndOk (tab.env []) Try.prog 3 (.i .i64) := (by kernel_rfl : Try.prog.underlying 3 = some (.int .i64))
theorem und4 : UndOk (tab.env []) Try.prog 4 .bool := (by kernel_rfl : Try.prog.underlying 4 = some .bool)
theorem und5 : UndOk (tab.env []) Try.prog 5 (.i .u8) := (by kernel_rfl : Try.prog.underlying 5 = some (.int .u8))
theorem und6 : UndOk (tab.env []) Try.prog 6 (.i .u8) := (by kernel_rfl : Try.prog.underlying 6 = some (.int .u8))
theorem und9 : UndOk (tab.env []) Try.prog 9 .str := (by kernel_rfl : Try.prog.underlying 9 = some .string)
theorem und10 : UndOk (tab.env []) Try.prog 10 .str := (by kernel_rfl : Try.prog.underlying 10 = some .string)
theorem und11 : UndOk (tab.env []) Try.prog 11 .str := (by kernel_rfl : Try.prog.underlying 11 = some .string)
theorem und12 : UndOk (tab.env []) Try.prog 12 (.i .u64) := (by kernel_rfl : Try.prog.underlying 12 = some (.int .u64))
theorem und21 : UndOk (tab.env []) Try.prog 21 (.i .i32) := (by kernel_rfl : Try.prog.underlying 21 = some (.int .i32))
theorem und22 : UndOk (tab.env []) Try.prog 22 (.sl .str) := ⟨9, by kernel_rfl, by kernel_rfl⟩
theorem und24 : UndOk (tab.env []) Try.prog 24 .pick := ⟨_, Try.underlying24⟩
theorem und27 : UndOk (tab.env []) Try.prog 27 .pick := ⟨_, Try.underlying27⟩
theorem und32 : UndOk (tab.env []) Try.prog 32 (.sl .note) := ⟨73, by kernel_rfl, by kernel_rfl⟩
theorem und35 : UndOk (tab.env []) Try.prog 35 (.sl .note) := ⟨74, by kernel_rfl, by kernel_rfl⟩
theorem und39 : UndOk (tab.env []) Try.prog 39 (.sl (.i .u8)) := ⟨5, by kernel_rfl, by kernel_rfl⟩
theorem und41 : UndOk (tab.env []) Try.prog 41 (.sl .item) := ⟨90, by kernel_rfl, by kernel_rfl⟩
theorem und43 : UndOk (tab.env []) Try.prog 43 .store := ⟨_, Try.underlying43⟩
theorem und44 : UndOk (tab.env []) Try.prog 44 (.sl .pick) := ⟨27, by kernel_rfl, by kernel_rfl⟩
theorem und50 : UndOk (tab.env []) Try.prog 50 (.sl (.i .i64)) := ⟨3, by kernel_rfl, by kernel_rfl⟩
theorem und51 : UndOk (tab.env []) Try.prog 51 (.sl .item) := ⟨124, by kernel_rfl, by kernel_rfl⟩
theorem und53 : UndOk (tab.env []) Try.prog 53 .store := ⟨_, Try.underlying53⟩
theorem und54 : UndOk (tab.env []) Try.prog 54 (.sl .pick) := ⟨24, by kernel_rfl, by kernel_rfl⟩
theorem und73 : UndOk (tab.env []) Try.prog 73 .note := ⟨_, Try.underlying73⟩
theorem und74 : UndOk (tab.env []) Try.prog 74 .note := ⟨_, Try.underlying74⟩
theorem und84 : UndOk (tab.env []) Try.prog 84 (.sl .metric) := ⟨135, by kernel_rfl, by kernel_rfl⟩
theorem und86 : UndOk (tab.env []) Try.prog 86 .pace := ⟨_, Try.underlying86⟩
theorem und88 : UndOk (tab.env []) Try.prog 88 .order := ⟨_, Try.underlying88⟩
theorem und90 : UndOk (tab.env []) Try.prog 90 .item := ⟨_, Try.underlying90⟩
theorem und112 : UndOk (tab.env []) Try.prog 112 .cur := ⟨_, Try.underlying112⟩
theorem und119 : UndOk (tab.env []) Try.prog 119 (.sl .metric) := ⟨158, by kernel_rfl, by kernel_rfl⟩
theorem und120 : UndOk (tab.env []) Try.prog 120 .pace := ⟨_, Try.underlying120⟩
theorem und122 : UndOk (tab.env []) Try.prog 122 .order := ⟨_, Try.underlying122⟩
theorem und124 : UndOk (tab.env []) Try.prog 124 .item := ⟨_, Try.underlying124⟩
theorem und135 : UndOk (tab.env []) Try.prog 135 .metric := ⟨_, Try.underlying135⟩
theorem und137 : UndOk (tab.env []) Try.prog 137 (.i .u64) := (by kernel_rfl : Try.prog.underlying 137 = some (.int .u64))
theorem und158 : UndOk (tab.env []) Try.prog 158 .metric := ⟨_, Try.underlying158⟩
theorem und171 : UndOk (tab.env []) Try.prog 171 (.i .u32) := (by kernel_rfl : Try.prog.underlying 171 = some (.int .u32))
theorem und172 : UndOk (tab.env []) Try.prog 172 (.i .u8) := (by kernel_rfl : Try.prog.underlying 172 = some (.int .u8))
theorem und173 : UndOk (tab.env []) Try.prog 173 (.i .u8) := (by kernel_rfl : Try.prog.underlying 173 = some (.int .u8))
theorem und175 : UndOk (tab.env []) Try.prog 175 (.i .i32) := (by kernel_rfl : Try.prog.underlying 175 = some (.int .i32))
theorem und176 : UndOk (tab.env []) Try.prog 176 (.i .i32) := (by kernel_rfl : Try.prog.underlying 176 = some (.int .i32))
theorem fld24 : ∃ fs : Array Field, Try.prog.underlying 24 = some (.struct fs) ∧ [(0, 3), (1, 9), (2, 22)] = fs.toList.map (fun f => (f.offset, f.type)) ∧ (∀ y ∈ ([(0, 3), (1, 9), (2, 22)] : List (Nat × Nat)), (aget tab.code y.2).isSome) ∧ (fs.toList.mapM (fun f => (Try.prog.info? f.type).map fun i => (f.offset, i.size))).isSome :=
  ⟨_, Try.underlying24, by kernel_rfl, List.all_eq_true.1 (by kernel_rfl), by kernel_rfl⟩
theorem fld27 : ∃ fs : Array Field, Try.prog.underlying 27 = some (.struct fs) ∧ [(0, 3), (1, 9), (2, 22)] = fs.toList.map (fun f => (f.offset, f.type)) ∧ (∀ y ∈ ([(0, 3), (1, 9), (2, 22)] : List (Nat × Nat)), (aget tab.code y.2).isSome) ∧ (fs.toList.mapM (fun f => (Try.prog.info? f.type).map fun i => (f.offset, i.size))).isSome :=
  ⟨_, Try.underlying27, by kernel_rfl, List.all_eq_true.1 (by kernel_rfl), by kernel_rfl⟩
theorem fld43 : ∃ fs : Array Field, Try.prog.underlying 43 = some (.struct fs) ∧ [(0, 41), (1, 3)] = fs.toList.map (fun f => (f.offset, f.type)) ∧ (∀ y ∈ ([(0, 41), (1, 3)] : List (Nat × Nat)), (aget tab.code y.2).isSome) ∧ (fs.toList.mapM (fun f => (Try.prog.info? f.type).map fun i => (f.offset, i.size))).isSome :=
  ⟨_, Try.underlying43, by kernel_rfl, List.all_eq_true.1 (by kernel_rfl), by kernel_rfl⟩
theorem fld53 : ∃ fs : Array Field, Try.prog.underlying 53 = some (.struct fs) ∧ [(0, 51), (1, 3)] = fs.toList.map (fun f => (f.offset, f.type)) ∧ (∀ y ∈ ([(0, 51), (1, 3)] : List (Nat × Nat)), (aget tab.code y.2).isSome) ∧ (fs.toList.mapM (fun f => (Try.prog.info? f.type).map fun i => (f.offset, i.size))).isSome :=
  ⟨_, Try.underlying53, by kernel_rfl, List.all_eq_true.1 (by kernel_rfl), by kernel_rfl⟩
theorem fld73 : ∃ fs : Array Field, Try.prog.underlying 73 = some (.struct fs) ∧ [(0, 9), (1, 9)] = fs.toList.map (fun f => (f.offset, f.type)) ∧ (∀ y ∈ ([(0, 9), (1, 9)] : List (Nat × Nat)), (aget tab.code y.2).isSome) ∧ (fs.toList.mapM (fun f => (Try.prog.info? f.type).map fun i => (f.offset, i.size))).isSome :=
  ⟨_, Try.underlying73, by kernel_rfl, List.all_eq_true.1 (by kernel_rfl), by kernel_rfl⟩
theorem fld74 : ∃ fs : Array Field, Try.prog.underlying 74 = some (.struct fs) ∧ [(0, 9), (1, 9)] = fs.toList.map (fun f => (f.offset, f.type)) ∧ (∀ y ∈ ([(0, 9), (1, 9)] : List (Nat × Nat)), (aget tab.code y.2).isSome) ∧ (fs.toList.mapM (fun f => (Try.prog.info? f.type).map fun i => (f.offset, i.size))).isSome :=
  ⟨_, Try.underlying74, by kernel_rfl, List.all_eq_true.1 (by kernel_rfl), by kernel_rfl⟩
theorem fld86 : ∃ fs : Array Field, Try.prog.underlying 86 = some (.struct fs) ∧ [(0, 3), (1, 3), (2, 3), (3, 3)] = fs.toList.map (fun f => (f.offset, f.type)) ∧ (∀ y ∈ ([(0, 3), (1, 3), (2, 3), (3, 3)] : List (Nat × Nat)), (aget tab.code y.2).isSome) ∧ (fs.toList.mapM (fun f => (Try.prog.info? f.type).map fun i => (f.offset, i.size))).isSome :=
  ⟨_, Try.underlying86, by kernel_rfl, List.all_eq_true.1 (by kernel_rfl), by kernel_rfl⟩
theorem fld88 : ∃ fs : Array Field, Try.prog.underlying 88 = some (.struct fs) ∧ [(0, 9), (1, 9), (2, 3), (3, 3), (4, 84), (5, 86), (9, 35)] = fs.toList.map (fun f => (f.offset, f.type)) ∧ (∀ y ∈ ([(0, 9), (1, 9), (2, 3), (3, 3), (4, 84), (5, 86), (9, 35)] : List (Nat × Nat)), (aget tab.code y.2).isSome) ∧ (fs.toList.mapM (fun f => (Try.prog.info? f.type).map fun i => (f.offset, i.size))).isSome :=
  ⟨_, Try.underlying88, by kernel_rfl, List.all_eq_true.1 (by kernel_rfl), by kernel_rfl⟩
theorem fld90 : ∃ fs : Array Field, Try.prog.underlying 90 = some (.struct fs) ∧ [(0, 88), (10, 3)] = fs.toList.map (fun f => (f.offset, f.type)) ∧ (∀ y ∈ ([(0, 88), (10, 3)] : List (Nat × Nat)), (aget tab.code y.2).isSome) ∧ (fs.toList.mapM (fun f => (Try.prog.info? f.type).map fun i => (f.offset, i.size))).isSome :=
  ⟨_, Try.underlying90, by kernel_rfl, List.all_eq_true.1 (by kernel_rfl), by kernel_rfl⟩
theorem fld112 : ∃ fs : Array Field, Try.prog.underlying 112 = some (.struct fs) ∧ [(0, 39), (1, 3), (2, 3)] = fs.toList.map (fun f => (f.offset, f.type)) ∧ (∀ y ∈ ([(0, 39), (1, 3), (2, 3)] : List (Nat × Nat)), (aget tab.code y.2).isSome) ∧ (fs.toList.mapM (fun f => (Try.prog.info? f.type).map fun i => (f.offset, i.size))).isSome :=
  ⟨_, Try.underlying112, by kernel_rfl, List.all_eq_true.1 (by kernel_rfl), by kernel_rfl⟩
theorem fld120 : ∃ fs : Array Field, Try.prog.underlying 120 = some (.struct fs) ∧ [(0, 3), (1, 3), (2, 3), (3, 3)] = fs.toList.map (fun f => (f.offset, f.type)) ∧ (∀ y ∈ ([(0, 3), (1, 3), (2, 3), (3, 3)] : List (Nat × Nat)), (aget tab.code y.2).isSome) ∧ (fs.toList.mapM (fun f => (Try.prog.info? f.type).map fun i => (f.offset, i.size))).isSome :=
  ⟨_, Try.underlying120, by kernel_rfl, List.all_eq_true.1 (by kernel_rfl), by kernel_rfl⟩
theorem fld122 : ∃ fs : Array Field, Try.prog.underlying 122 = some (.struct fs) ∧ [(0, 9), (1, 9), (2, 3), (3, 3), (4, 119), (5, 120), (9, 32)] = fs.toList.map (fun f => (f.offset, f.type)) ∧ (∀ y ∈ ([(0, 9), (1, 9), (2, 3), (3, 3), (4, 119), (5, 120), (9, 32)] : List (Nat × Nat)), (aget tab.code y.2).isSome) ∧ (fs.toList.mapM (fun f => (Try.prog.info? f.type).map fun i => (f.offset, i.size))).isSome :=
  ⟨_, Try.underlying122, by kernel_rfl, List.all_eq_true.1 (by kernel_rfl), by kernel_rfl⟩
theorem fld124 : ∃ fs : Array Field, Try.prog.underlying 124 = some (.struct fs) ∧ [(0, 122), (10, 3)] = fs.toList.map (fun f => (f.offset, f.type)) ∧ (∀ y ∈ ([(0, 122), (10, 3)] : List (Nat × Nat)), (aget tab.code y.2).isSome) ∧ (fs.toList.mapM (fun f => (Try.prog.info? f.type).map fun i => (f.offset, i.size))).isSome :=
  ⟨_, Try.underlying124, by kernel_rfl, List.all_eq_true.1 (by kernel_rfl), by kernel_rfl⟩
theorem fld135 : ∃ fs : Array Field, Try.prog.underlying 135 = some (.struct fs) ∧ [(0, 9), (1, 3), (2, 3)] = fs.toList.map (fun f => (f.offset, f.type)) ∧ (∀ y ∈ ([(0, 9), (1, 3), (2, 3)] : List (Nat × Nat)), (aget tab.code y.2).isSome) ∧ (fs.toList.mapM (fun f => (Try.prog.info? f.type).map fun i => (f.offset, i.size))).isSome :=
  ⟨_, Try.underlying135, by kernel_rfl, List.all_eq_true.1 (by kernel_rfl), by kernel_rfl⟩
theorem fld158 : ∃ fs : Array Field, Try.prog.underlying 158 = some (.struct fs) ∧ [(0, 9), (1, 3), (2, 3)] = fs.toList.map (fun f => (f.offset, f.type)) ∧ (∀ y ∈ ([(0, 9), (1, 3), (2, 3)] : List (Nat × Nat)), (aget tab.code y.2).isSome) ∧ (fs.toList.mapM (fun f => (Try.prog.info? f.type).map fun i => (f.offset, i.size))).isSome :=
  ⟨_, Try.underlying158, by kernel_rfl, List.all_eq_true.1 (by kernel_rfl), by kernel_rfl⟩
theorem tab_ok : tab.Ok Try.prog := {
  info := infoChk_ok (by kernel_rfl)
  und := List.forall_mem_cons.2 ⟨und2, List.forall_mem_cons.2 ⟨und3, List.forall_mem_cons.2 ⟨und4, List.forall_mem_cons.2 ⟨und5, List.forall_mem_cons.2 ⟨und6, List.forall_mem_cons.2 ⟨und9, List.forall_mem_cons.2 ⟨und10, List.forall_mem_cons.2 ⟨und11, List.forall_mem_cons.2 ⟨und12, List.forall_mem_cons.2 ⟨und21, List.forall_mem_cons.2 ⟨und22, List.forall_mem_cons.2 ⟨und24, List.forall_mem_cons.2 ⟨und27, List.forall_mem_cons.2 ⟨und32, List.forall_mem_cons.2 ⟨und35, List.forall_mem_cons.2 ⟨und39, List.forall_mem_cons.2 ⟨und41, List.forall_mem_cons.2 ⟨und43, List.forall_mem_cons.2 ⟨und44, List.forall_mem_cons.2 ⟨und50, List.forall_mem_cons.2 ⟨und51, List.forall_mem_cons.2 ⟨und53, List.forall_mem_cons.2 ⟨und54, List.forall_mem_cons.2 ⟨und73, List.forall_mem_cons.2 ⟨und74, List.forall_mem_cons.2 ⟨und84, List.forall_mem_cons.2 ⟨und86, List.forall_mem_cons.2 ⟨und88, List.forall_mem_cons.2 ⟨und90, List.forall_mem_cons.2 ⟨und112, List.forall_mem_cons.2 ⟨und119, List.forall_mem_cons.2 ⟨und120, List.forall_mem_cons.2 ⟨und122, List.forall_mem_cons.2 ⟨und124, List.forall_mem_cons.2 ⟨und135, List.forall_mem_cons.2 ⟨und137, List.forall_mem_cons.2 ⟨und158, List.forall_mem_cons.2 ⟨und171, List.forall_mem_cons.2 ⟨und172, List.forall_mem_cons.2 ⟨und173, List.forall_mem_cons.2 ⟨und175, List.forall_mem_cons.2 ⟨und176, List.forall_mem_nil _⟩⟩⟩⟩⟩⟩⟩⟩⟩⟩⟩⟩⟩⟩⟩⟩⟩⟩⟩⟩⟩⟩⟩⟩⟩⟩⟩⟩⟩⟩⟩⟩⟩⟩⟩⟩⟩⟩⟩⟩⟩⟩
  fld := List.forall_mem_cons.2 ⟨fld24, List.forall_mem_cons.2 ⟨fld27, List.forall_mem_cons.2 ⟨fld43, List.forall_mem_cons.2 ⟨fld53, List.forall_mem_cons.2 ⟨fld73, List.forall_mem_cons.2 ⟨fld74, List.forall_mem_cons.2 ⟨fld86, List.forall_mem_cons.2 ⟨fld88, List.forall_mem_cons.2 ⟨fld90, List.forall_mem_cons.2 ⟨fld112, List.forall_mem_cons.2 ⟨fld120, List.forall_mem_cons.2 ⟨fld122, List.forall_mem_cons.2 ⟨fld124, List.forall_mem_cons.2 ⟨fld135, List.forall_mem_cons.2 ⟨fld158, List.forall_mem_nil _⟩⟩⟩⟩⟩⟩⟩⟩⟩⟩⟩⟩⟩⟩⟩
  sts := List.forall_mem_cons.2 ⟨fun h => by first | (cases h; done) | (simp; done), List.forall_mem_cons.2 ⟨fun h => by first | (cases h; done) | (simp; done), List.forall_mem_cons.2 ⟨fun h => by first | (cases h; done) | (simp; done), List.forall_mem_cons.2 ⟨fun h => by first | (cases h; done) | (simp; done), List.forall_mem_cons.2 ⟨fun h => by first | (cases h; done) | (simp; done), List.forall_mem_cons.2 ⟨fun h => by first | (cases h; done) | (simp; done), List.forall_mem_cons.2 ⟨fun h => by first | (cases h; done) | (simp; done), List.forall_mem_cons.2 ⟨fun h => by first | (cases h; done) | (simp; done), List.forall_mem_cons.2 ⟨fun h => by first | (cases h; done) | (simp; done), List.forall_mem_cons.2 ⟨fun h => by first | (cases h; done) | (simp; done), List.forall_mem_cons.2 ⟨fun h => by first | (cases h; done) | (simp; done), List.forall_mem_cons.2 ⟨fun _ => by simp [tab], List.forall_mem_cons.2 ⟨fun _ => by simp [tab], List.forall_mem_cons.2 ⟨fun h => by first | (cases h; done) | (simp; done), List.forall_mem_cons.2 ⟨fun h => by first | (cases h; done) | (simp; done), List.forall_mem_cons.2 ⟨fun h => by first | (cases h; done) | (simp; done), List.forall_mem_cons.2 ⟨fun h => by first | (cases h; done) | (simp; done), List.forall_mem_cons.2 ⟨fun _ => by simp [tab], List.forall_mem_cons.2 ⟨fun h => by first | (cases h; done) | (simp; done), List.forall_mem_cons.2 ⟨fun h => by first | (cases h; done) | (simp; done), List.forall_mem_cons.2 ⟨fun h => by first | (cases h; done) | (simp; done), List.forall_mem_cons.2 ⟨fun _ => by simp [tab], List.forall_mem_cons.2 ⟨fun h => by first | (cases h; done) | (simp; done), List.forall_mem_cons.2 ⟨fun _ => by simp [tab], List.forall_mem_cons.2 ⟨fun _ => by simp [tab], List.forall_mem_cons.2 ⟨fun h => by first | (cases h; done) | (simp; done), List.forall_mem_cons.2 ⟨fun _ => by simp [tab], List.forall_mem_cons.2 ⟨fun _ => by simp [tab], List.forall_mem_cons.2 ⟨fun _ => by simp [tab], List.forall_mem_cons.2 ⟨fun _ => by simp [tab], List.forall_mem_cons.2 ⟨fun h => by first | (cases h; done) | (simp; done), List.forall_mem_cons.2 ⟨fun _ => by simp [tab], List.forall_mem_cons.2 ⟨fun _ => by simp [tab], List.forall_mem_cons.2 ⟨fun _ => by simp [tab], List.forall_mem_cons.2 ⟨fun _ => by simp [tab], List.forall_mem_cons.2 ⟨fun h => by first | (cases h; done) | (simp; done), List.forall_mem_cons.2 ⟨fun _ => by simp [tab], List.forall_mem_cons.2 ⟨fun h => by first | (cases h; done) | (simp; done), List.forall_mem_cons.2 ⟨fun h => by first | (cases h; done) | (simp; done), List.forall_mem_cons.2 ⟨fun h => by first | (cases h; done) | (simp; done), List.forall_mem_cons.2 ⟨fun h => by first | (cases h; done) | (simp; done), List.forall_mem_cons.2 ⟨fun h => by first | (cases h; done) | (simp; done), List.forall_mem_nil _⟩⟩⟩⟩⟩⟩⟩⟩⟩⟩⟩⟩⟩⟩⟩⟩⟩⟩⟩⟩⟩⟩⟩⟩⟩⟩⟩⟩⟩⟩⟩⟩⟩⟩⟩⟩⟩⟩⟩⟩⟩⟩
  eqs := List.forall_mem_nil _
  ord := by kernel_rfl }
end Go.Proofs.Ytklmnopgogcbhaa

/- x -/
namespace Go.Proofs.Ytklmnopgogcbhaa
open Go Go.Gm
/-! ### loop.example/g00465/spec.l1In -/
noncomputable def f40c : Code := (Try.f40.body).getD .skip
def f40k : Nat → Kp := kat [⟨[0, 1, 2], [], [], []⟩, ⟨[6], [], [], []⟩]
noncomputable def f40e : Env := tab.env []
theorem f40_run {R : Type} (n : Nat) (k : List Dt → Option R) (a0 : Int) (a1 : Int) (a2 : Int) : evFn f40e f40k n f40c [.ro, .ro, .ro] [false] true [.tmp 6] [4] [.d (.i .i64) a0, .d (.i .i64) a1, .d (.i .i64) a2] k =
    (cond (decide (a0 ≥ a1))
  (k [.d .bool (decide (a0 ≤ a2))])
  (k [.d .bool false])) := by kernel_rfl
theorem f40_spec (a0 : Int) (a1 : Int) (a2 : Int) : ∃ keep rounds, ∀ {R : Type} (k : List Dt → Option R), evFn f40e keep rounds f40c [.ro, .ro, .ro] [false] true [.tmp 6] [4] [.d (.i .i64) a0, .d (.i .i64) a1, .d (.i .i64) a2] k = k [.d .bool (inR a0 a1 a2)] := by
  refine ⟨f40k, 0, fun k => ?_⟩
  rw [f40_run]; unfold inR
  cases decide (a0 ≥ a1) <;> rfl

noncomputable def q40 : List Dt → Option (Bool × List Dt)
  | [.d (.i .i64) a0, .d (.i .i64) a1, .d (.i .i64) a2] => some (true, [.d .bool (inR a0 a1 a2)])
  | _ => none
noncomputable def s40 : Gm.Spec := Gm.Spec.of [.ro, .ro, .ro] [false] true q40
theorem good40 : Gm.Good Try.prog (40, s40) := by
  have hl : ∀ x ∈ ([] : List (Nat × Gm.Spec)), Gm.Good Try.prog x := fun _ h => by cases h
  refine ⟨⟨spec_ok (tab_ok.env hl) (tab.natl hl) Try.func40 (by kernel_rfl : Try.f40.body = some f40c) [4] (by kernel_rfl) ?_, _, Try.func40, by kernel_rfl, of_decide_eq_true (by kernel_rfl)⟩, Gm.Spec.of_natl _ _ _ _⟩
  intro ds outs h
  unfold q40 at h
  split at h
  · cases h; exact f40_spec _ _ _
  · cases h
/-! ### loop.example/g00465/impl.from -/
noncomputable def f43c : Code := (Try.f43.body).getD .skip
def f43k : Nat → Kp := kat [⟨[0, 1, 2], [], [], []⟩, ⟨[6], [], [], []⟩]
noncomputable def f43e : Env := tab.env []
theorem f43_run {R : Type} (n : Nat) (k : List Dt → Option R) (a0 : Int) (a1 : Int) (a2 : Int) : evFn f43e f43k n f43c [.ro, .ro, .ro] [false] true [.tmp 6] [4] [.d (.i .i64) a0, .d (.i .i64) a1, .d (.i .i64) a2] k =
    (cond (decide (a0 ≥ a1))
  (k [.d .bool (decide (a0 ≤ a2))])
  (k [.d .bool false])) := by kernel_rfl
theorem f43_spec (a0 : Int) (a1 : Int) (a2 : Int) : ∃ keep rounds, ∀ {R : Type} (k : List Dt → Option R), evFn f43e keep rounds f43c [.ro, .ro, .ro] [false] true [.tmp 6] [4] [.d (.i .i64) a0, .d (.i .i64) a1, .d (.i .i64) a2] k = k [.d .bool (inR a0 a1 a2)] := by
  refine ⟨f43k, 0, fun k => ?_⟩
  rw [f43_run]; unfold inR
  cases decide (a0 ≥ a1) <;> rfl

noncomputable def q43 : List Dt → Option (Bool × List Dt)
  | [.d (.i .i64) a0, .d (.i .i64) a1, .d (.i .i64) a2] => some (true, [.d .bool (inR a0 a1 a2)])
  | _ => none
noncomputable def s43 : Gm.Spec := Gm.Spec.of [.ro, .ro, .ro] [false] true q43
theorem good43 : Gm.Good Try.prog (43, s43) := by
  have hl : ∀ x ∈ ([] : List (Nat × Gm.Spec)), Gm.Good Try.prog x := fun _ h => by cases h
  refine ⟨⟨spec_ok (tab_ok.env hl) (tab.natl hl) Try.func43 (by kernel_rfl : Try.f43.body = some f43c) [4] (by kernel_rfl) ?_, _, Try.func43, by kernel_rfl, of_decide_eq_true (by kernel_rfl)⟩, Gm.Spec.of_natl _ _ _ _⟩
  intro ds outs h
  unfold q43 at h
  split at h
  · cases h; exact f43_spec _ _ _
  · cases h
/-! ### loop.example/g00465/spec.l5Letter -/
noncomputable def f66c : Code := (Try.f66.body).getD .skip
def f66k : Nat → Kp := kat [⟨[0], [], [], []⟩, ⟨[2], [], [], []⟩]
noncomputable def f66e : Env := tab.env []
theorem f66_run {R : Type} (n : Nat) (k : List Dt → Option R) (a0 : Int) : evFn f66e f66k n f66c [.ro] [false] true [.tmp 2] [4] [.d (.i .u8) a0] k =
    (cond (decide (a0 ≥ (97 : Int)))
  (cond (decide (a0 ≤ (122 : Int)))
   (k [.d .bool true])
   (cond (decide (a0 ≥ (65 : Int)))
    (k [.d .bool (decide (a0 ≤ (90 : Int)))])
    (k [.d .bool false])))
  (cond (decide (a0 ≥ (65 : Int)))
   (k [.d .bool (decide (a0 ≤ (90 : Int)))])
   (k [.d .bool false]))) := by kernel_rfl
theorem f66_spec (a0 : Int) : ∃ keep rounds, ∀ {R : Type} (k : List Dt → Option R), evFn f66e keep rounds f66c [.ro] [false] true [.tmp 2] [4] [.d (.i .u8) a0] k = k [.d .bool (letter a0)] := by
  refine ⟨f66k, 0, fun k => ?_⟩
  rw [f66_run]; unfold letter
  cases decide (a0 ≥ (97 : Int)) <;> cases decide (a0 ≤ (122 : Int)) <;> cases decide (a0 ≥ (65 : Int)) <;> rfl

noncomputable def q66 : List Dt → Option (Bool × List Dt)
  | [.d (.i .u8) a0] => some (true, [.d .bool (letter a0)])
  | _ => none
noncomputable def s66 : Gm.Spec := Gm.Spec.of [.ro] [false] true q66
theorem good66 : Gm.Good Try.prog (66, s66) := by
  have hl : ∀ x ∈ ([] : List (Nat × Gm.Spec)), Gm.Good Try.prog x := fun _ h => by cases h
  refine ⟨⟨spec_ok (tab_ok.env hl) (tab.natl hl) Try.func66 (by kernel_rfl : Try.f66.body = some f66c) [4] (by kernel_rfl) ?_, _, Try.func66, by kernel_rfl, of_decide_eq_true (by kernel_rfl)⟩, Gm.Spec.of_natl _ _ _ _⟩
  intro ds outs h
  unfold q66 at h
  split at h
  · cases h; exact f66_spec _
  · cases h
/-! ### loop.example/g00465/impl.isLetter -/
noncomputable def f67c : Code := (Try.f67.body).getD .skip
def f67k : Nat → Kp := kat [⟨[0], [], [], []⟩, ⟨[2], [], [], []⟩]
noncomputable def f67e : Env := tab.env []
theorem f67_run {R : Type} (n : Nat) (k : List Dt → Option R) (a0 : Int) : evFn f67e f67k n f67c [.ro] [false] true [.tmp 2] [4] [.d (.i .u8) a0] k =
    (cond (decide (a0 ≥ (97 : Int)))
  (cond (decide (a0 ≤ (122 : Int)))
   (k [.d .bool true])
   (cond (decide (a0 ≥ (65 : Int)))
    (k [.d .bool (decide (a0 ≤ (90 : Int)))])
    (k [.d .bool false])))
  (cond (decide (a0 ≥ (65 : Int)))
   (k [.d .bool (decide (a0 ≤ (90 : Int)))])
   (k [.d .bool false]))) := by kernel_rfl
theorem f67_spec (a0 : Int) : ∃ keep rounds, ∀ {R : Type} (k : List Dt → Option R), evFn f67e keep rounds f67c [.ro] [false] true [.tmp 2] [4] [.d (.i .u8) a0] k = k [.d .bool (letter a0)] := by
  refine ⟨f67k, 0, fun k => ?_⟩
  rw [f67_run]; unfold letter
  cases decide (a0 ≥ (97 : Int)) <;> cases decide (a0 ≤ (122 : Int)) <;> cases decide (a0 ≥ (65 : Int)) <;> rfl

noncomputable def q67 : List Dt → Option (Bool × List Dt)
  | [.d (.i .u8) a0] => some (true, [.d .bool (letter a0)])
  | _ => none
noncomputable def s67 : Gm.Spec := Gm.Spec.of [.ro] [false] true q67
theorem good67 : Gm.Good Try.prog (67, s67) := by
  have hl : ∀ x ∈ ([] : List (Nat × Gm.Spec)), Gm.Good Try.prog x := fun _ h => by cases h
  refine ⟨⟨spec_ok (tab_ok.env hl) (tab.natl hl) Try.func67 (by kernel_rfl : Try.f67.body = some f67c) [4] (by kernel_rfl) ?_, _, Try.func67, by kernel_rfl, of_decide_eq_true (by kernel_rfl)⟩, Gm.Spec.of_natl _ _ _ _⟩
  intro ds outs h
  unfold q67 at h
  split at h
  · cases h; exact f67_spec _
  · cases h
/-! ### loop.example/g00465/impl.isDigit -/
noncomputable def f68c : Code := (Try.f68.body).getD .skip
def f68k : Nat → Kp := kat [⟨[0], [], [], []⟩, ⟨[2], [], [], []⟩]
noncomputable def f68e : Env := tab.env []
theorem f68_run {R : Type} (n : Nat) (k : List Dt → Option R) (a0 : Int) : evFn f68e f68k n f68c [.ro] [false] true [.tmp 2] [4] [.d (.i .u8) a0] k =
    (cond (decide (a0 ≥ (48 : Int)))
  (k [.d .bool (decide (a0 ≤ (57 : Int)))])
  (k [.d .bool false])) := by kernel_rfl
theorem f68_spec (a0 : Int) : ∃ keep rounds, ∀ {R : Type} (k : List Dt → Option R), evFn f68e keep rounds f68c [.ro] [false] true [.tmp 2] [4] [.d (.i .u8) a0] k = k [.d .bool (digit a0)] := by
  refine ⟨f68k, 0, fun k => ?_⟩
  rw [f68_run]; unfold digit
  cases decide (a0 ≥ (48 : Int)) <;> rfl

noncomputable def q68 : List Dt → Option (Bool × List Dt)
  | [.d (.i .u8) a0] => some (true, [.d .bool (digit a0)])
  | _ => none
noncomputable def s68 : Gm.Spec := Gm.Spec.of [.ro] [false] true q68
theorem good68 : Gm.Good Try.prog (68, s68) := by
  have hl : ∀ x ∈ ([] : List (Nat × Gm.Spec)), Gm.Good Try.prog x := fun _ h => by cases h
  refine ⟨⟨spec_ok (tab_ok.env hl) (tab.natl hl) Try.func68 (by kernel_rfl : Try.f68.body = some f68c) [4] (by kernel_rfl) ?_, _, Try.func68, by kernel_rfl, of_decide_eq_true (by kernel_rfl)⟩, Gm.Spec.of_natl _ _ _ _⟩
  intro ds outs h
  unfold q68 at h
  split at h
  · cases h; exact f68_spec _
  · cases h
/-! ### loop.example/g00465/spec.NameOk -/
noncomputable def f116S0 (y0 : ByteArray) (y1 : Int) : St := ⟨[(0, .c (.one (.v (.string y0)))), (3, .c (.one (.v (.int .i64 y1))))], [], []⟩
noncomputable def f116S1 : St := ⟨[(2, .c (.one (.v (.bool false))))], [], []⟩
noncomputable def f116S2 (y0 : ByteArray) (y1 : Int) (y2 : Bool) : St := ⟨[(0, .c (.one (.v (.string y0)))), (3, .c (.one (.v (.int .i64 y1)))), (8, .c (.one (.v (.bool y2))))], [], []⟩
noncomputable def f116c : Code := (Try.f116.body).getD .skip
def f116k : Nat → Kp := kat [⟨[0], [], [], []⟩, ⟨[0, 3], [], [], []⟩, ⟨[0, 3, 8], [], [], []⟩, ⟨[0, 3], [], [], []⟩, ⟨[0, 3, 4], [], [], []⟩, ⟨[0, 3, 36], [], [], []⟩, ⟨[2], [], [], []⟩, ⟨[2], [], [], []⟩]
noncomputable def f116e : Env := tab.env [(40, s40)]
noncomputable def f116L0 {R : Type} (n : Nat) (x0 : Option R) (x1 : Int → Bool → Option R) (vs0 : ByteArray) : Nat → Int → Option R
  | 0, _ => none
  | m + 1, vs3 =>
    (cond (decide (vs3 < (ByteArray.size vs0 : Int)))
   (cond ((decide ((0 : Int) ≤ vs3)) && (decide (vs3 < (ByteArray.size vs0 : Int))))
    (cond (decide ((((ByteArray.data vs0).getD (Int.toNat vs3) 0).toNat : Int) ≥ (97 : Int)))
     (cond (decide ((((ByteArray.data vs0).getD (Int.toNat vs3) 0).toNat : Int) ≤ (122 : Int)))
      (f116L0 n x0 x1 vs0 m (IntKind.wrap .i64 (vs3 + (1 : Int))))
      (cond (decide (vs3 > (0 : Int)))
       (cond (decide ((((ByteArray.data vs0).getD (Int.toNat vs3) 0).toNat : Int) ≥ (48 : Int)))
        (cond (decide ((((ByteArray.data vs0).getD (Int.toNat vs3) 0).toNat : Int) ≤ (57 : Int)))
         (f116L0 n x0 x1 vs0 m (IntKind.wrap .i64 (vs3 + (1 : Int))))
         (cond (!((((ByteArray.data vs0).getD (Int.toNat vs3) 0).toNat : Int) == (45 : Int)))
          (x0)
          (f116L0 n x0 x1 vs0 m (IntKind.wrap .i64 (vs3 + (1 : Int))))))
        (cond (!((((ByteArray.data vs0).getD (Int.toNat vs3) 0).toNat : Int) == (45 : Int)))
         (x0)
         (f116L0 n x0 x1 vs0 m (IntKind.wrap .i64 (vs3 + (1 : Int))))))
       (x0)))
     (cond (decide (vs3 > (0 : Int)))
      (cond (decide ((((ByteArray.data vs0).getD (Int.toNat vs3) 0).toNat : Int) ≥ (48 : Int)))
       (cond (decide ((((ByteArray.data vs0).getD (Int.toNat vs3) 0).toNat : Int) ≤ (57 : Int)))
        (f116L0 n x0 x1 vs0 m (IntKind.wrap .i64 (vs3 + (1 : Int))))
        (cond (!((((ByteArray.data vs0).getD (Int.toNat vs3) 0).toNat : Int) == (45 : Int)))
         (x0)
         (f116L0 n x0 x1 vs0 m (IntKind.wrap .i64 (vs3 + (1 : Int))))))
       (cond (!((((ByteArray.data vs0).getD (Int.toNat vs3) 0).toNat : Int) == (45 : Int)))
        (x0)
        (f116L0 n x0 x1 vs0 m (IntKind.wrap .i64 (vs3 + (1 : Int))))))
      (x0)))
    none)
   (x1 vs3 (decide (vs3 < (ByteArray.size vs0 : Int)))))
theorem f116L0_b {R : Type} (n : Nat) (k' : Ex → St → Option R) (vs0 : ByteArray) (vs3 : Int) : ev f116e f116k n (cAt [1,0,1,0,0] f116c) (f116S0 vs0 vs3) k' =
    (cond (decide (vs3 < (ByteArray.size vs0 : Int)))
  (cond ((decide ((0 : Int) ≤ vs3)) && (decide (vs3 < (ByteArray.size vs0 : Int))))
   (cond (decide ((((ByteArray.data vs0).getD (Int.toNat vs3) 0).toNat : Int) ≥ (97 : Int)))
    (cond (decide ((((ByteArray.data vs0).getD (Int.toNat vs3) 0).toNat : Int) ≤ (122 : Int)))
     (k' .normal (f116S0 vs0 (IntKind.wrap .i64 (vs3 + (1 : Int)))))
     (cond (decide (vs3 > (0 : Int)))
      (cond (decide ((((ByteArray.data vs0).getD (Int.toNat vs3) 0).toNat : Int) ≥ (48 : Int)))
       (cond (decide ((((ByteArray.data vs0).getD (Int.toNat vs3) 0).toNat : Int) ≤ (57 : Int)))
        (k' .normal (f116S0 vs0 (IntKind.wrap .i64 (vs3 + (1 : Int)))))
        (cond (!((((ByteArray.data vs0).getD (Int.toNat vs3) 0).toNat : Int) == (45 : Int)))
         (k' .ret f116S1)
         (k' .normal (f116S0 vs0 (IntKind.wrap .i64 (vs3 + (1 : Int)))))))
       (cond (!((((ByteArray.data vs0).getD (Int.toNat vs3) 0).toNat : Int) == (45 : Int)))
        (k' .ret f116S1)
        (k' .normal (f116S0 vs0 (IntKind.wrap .i64 (vs3 + (1 : Int)))))))
      (k' .ret f116S1)))
    (cond (decide (vs3 > (0 : Int)))
     (cond (decide ((((ByteArray.data vs0).getD (Int.toNat vs3) 0).toNat : Int) ≥ (48 : Int)))
      (cond (decide ((((ByteArray.data vs0).getD (Int.toNat vs3) 0).toNat : Int) ≤ (57 : Int)))
       (k' .normal (f116S0 vs0 (IntKind.wrap .i64 (vs3 + (1 : Int)))))
       (cond (!((((ByteArray.data vs0).getD (Int.toNat vs3) 0).toNat : Int) == (45 : Int)))
        (k' .ret f116S1)
        (k' .normal (f116S0 vs0 (IntKind.wrap .i64 (vs3 + (1 : Int)))))))
      (cond (!((((ByteArray.data vs0).getD (Int.toNat vs3) 0).toNat : Int) == (45 : Int)))
       (k' .ret f116S1)
       (k' .normal (f116S0 vs0 (IntKind.wrap .i64 (vs3 + (1 : Int)))))))
     (k' .ret f116S1)))
   none)
  (k' (.exit 0) (f116S2 vs0 vs3 (decide (vs3 < (ByteArray.size vs0 : Int)))))) := by kernel_rfl
theorem f116L0_eq {R : Type} (n : Nat) (k' : Ex → St → Option R) (vs0 : ByteArray) : ∀ (m : Nat) (vs3 : Int), iter (fun st k => ev f116e f116k n (cAt [1,0,1,0,0] f116c) st k) m (f116S0 vs0 vs3) k' = f116L0 n (k' .ret f116S1) (fun (xvs3 : Int) (xvs8 : Bool) => k' (.exit 0) (f116S2 vs0 xvs3 xvs8)) vs0 m vs3 := by
  intro m; induction m with
  | zero => intros; rfl
  | succ m ih =>
    intro vs3
    simp only [iter]
    rw [f116L0_b]
    simp only [ih, f116L0]

noncomputable def f116K0 {R : Type} (n : Nat) (k' : Ex → St → Option R) : Ex → St → Option R := (blockK 0 (seqK f116e f116k n (cAt [1,1] f116c) k'))
theorem f116K0_x0 {R : Type} (n : Nat) (k : List Dt → Option R) (a0 : ByteArray)  : f116K0 n (exitK f116e [.ro] [false] true [.tmp 2] [4] [.d .str a0] k) .ret f116S1 =
    (k [.d .bool false]) := by kernel_rfl
theorem f116K0_x1 {R : Type} (n : Nat) (k : List Dt → Option R) (a0 : ByteArray) (vs0 : ByteArray) (xvs3 : Int) (xvs8 : Bool) : f116K0 n (exitK f116e [.ro] [false] true [.tmp 2] [4] [.d .str a0] k) (.exit 0) (f116S2 vs0 xvs3 xvs8) =
    (k [.d .bool (inR (ByteArray.size vs0 : Int) (1 : Int) (20 : Int))]) := by kernel_rfl

theorem f116_run {R : Type} (n : Nat) (k : List Dt → Option R) (a0 : ByteArray) : evFn f116e f116k n f116c [.ro] [false] true [.tmp 2] [4] [.d .str a0] k =
    (f116L0 n (k [.d .bool false]) (fun (xvs3 : Int) (xvs8 : Bool) =>
  (k [.d .bool (inR (ByteArray.size a0 : Int) (1 : Int) (20 : Int))])) a0 n (0 : Int)) := by
  refine Eq.trans (b := (iter (fun st k => ev f116e f116k n (cAt [1,0,1,0,0] f116c) st k) n (f116S0 a0 (0 : Int)) (f116K0 n (exitK f116e [.ro] [false] true [.tmp 2] [4] [.d .str a0] k)))) (by kernel_rfl) ?_
  simp only [f116L0_eq, f116K0_x0, f116K0_x1]
theorem f116_spec (a0 : ByteArray) (hg : okStr a0 = true) : ∃ keep rounds, ∀ {R : Type} (k : List Dt → Option R), evFn f116e keep rounds f116c [.ro] [false] true [.tmp 2] [4] [.d .str a0] k = k [.d .bool (nameOk a0)] := by
  have hl : a0.size ≤ 9223372036854775807 := bleN hg
  refine ⟨f116k, a0.size + 1, fun {R} k => ?_⟩
  rw [f116_run]
  refine Eq.trans (loop_idx (n := a0.size) (F := fun m i => f116L0 (a0.size + 1) _ _ a0 m i) (p := fun j => nameC (j : Int) (byteAt a0 j)) (good := _) (bad := k [.d .bool false])
    (fun m j hj => ?_) (fun m => by simp only [f116L0, idxE, cond_false]; rfl) a0.size 0 (a0.size + 1) (by omega) (by omega)) ?_
  · obtain ⟨h1, h0, hw, ht⟩ := idx hj (by omega)
    simp only [f116L0, h1, h0, hw, ht, Bool.and_self, cond_true]
    show _ = cond (nameC (j : Int) (((ByteArray.data a0).getD j 0).toNat : Int)) _ _
    generalize (((ByteArray.data a0).getD j 0).toNat : Int) = c
    unfold nameC
    rw [show decide ((j : Int) > (0 : Int)) = !((j : Int) == (0 : Int)) by rw [Bool.eq_iff_iff]; simp; omega]
    unfold digit
    cases decide (c ≥ (97 : Int)) <;> cases decide (c ≤ (122 : Int)) <;> cases ((j : Int) == (0 : Int)) <;> cases decide (c ≥ (48 : Int)) <;> cases decide (c ≤ (57 : Int)) <;> cases (c == (45 : Int)) <;> rfl
  · unfold nameOk
    cases allN (fun j => nameC (j : Int) (byteAt a0 j)) 0 a0.size <;> rfl

noncomputable def q116 : List Dt → Option (Bool × List Dt)
  | [.d .str a0] => some ((okStr a0), [.d .bool (nameOk a0)])
  | _ => none
noncomputable def s116 : Gm.Spec := Gm.Spec.of [.ro] [false] true q116
theorem good116 : Gm.Good Try.prog (116, s116) := by
  have hl : ∀ x ∈ [(40, s40)], Gm.Good Try.prog x := List.forall_mem_cons.2 ⟨good40, List.forall_mem_nil _⟩
  refine ⟨⟨spec_ok (tab_ok.env hl) (tab.natl hl) Try.func116 (by kernel_rfl : Try.f116.body = some f116c) [4] (by kernel_rfl) ?_, _, Try.func116, by kernel_rfl, of_decide_eq_true (by kernel_rfl)⟩, Gm.Spec.of_natl _ _ _ _⟩
  intro ds outs h
  unfold q116 at h
  split at h
  · simp only [Option.some.injEq, Prod.mk.injEq] at h; obtain ⟨hg, h⟩ := h; cases h; exact f116_spec _ hg
  · cases h
/-! ### loop.example/g00465/spec.TextOk -/
noncomputable def f122S0 (y0 : ByteArray) (y1 : Int) : St := ⟨[(0, .c (.one (.v (.string y0)))), (3, .c (.one (.v (.int .i64 y1))))], [], []⟩
noncomputable def f122S1 : St := ⟨[(2, .c (.one (.v (.bool false))))], [], []⟩
noncomputable def f122S2 (y0 : ByteArray) (y1 : Int) (y2 : Bool) : St := ⟨[(0, .c (.one (.v (.string y0)))), (3, .c (.one (.v (.int .i64 y1)))), (7, .c (.one (.v (.bool y2))))], [], []⟩
noncomputable def f122c : Code := (Try.f122.body).getD .skip
def f122k : Nat → Kp := kat [⟨[0], [], [], []⟩, ⟨[0, 3], [], [], []⟩, ⟨[0, 3, 7], [], [], []⟩, ⟨[0, 3], [], [], []⟩, ⟨[0, 3, 19], [], [], []⟩, ⟨[2], [], [], []⟩, ⟨[2], [], [], []⟩]
noncomputable def f122e : Env := tab.env []
noncomputable def f122L0 {R : Type} (n : Nat) (x0 : Option R) (x1 : Int → Bool → Option R) (vs0 : ByteArray) : Nat → Int → Option R
  | 0, _ => none
  | m + 1, vs3 =>
    (cond (decide (vs3 < (ByteArray.size vs0 : Int)))
   (cond ((decide ((0 : Int) ≤ vs3)) && (decide (vs3 < (ByteArray.size vs0 : Int))))
    (cond (decide ((((ByteArray.data vs0).getD (Int.toNat vs3) 0).toNat : Int) < (32 : Int)))
     (x0)
     (cond ((decide ((0 : Int) ≤ vs3)) && (decide (vs3 < (ByteArray.size vs0 : Int))))
      (cond (decide ((((ByteArray.data vs0).getD (Int.toNat vs3) 0).toNat : Int) > (126 : Int)))
       (x0)
       (f122L0 n x0 x1 vs0 m (IntKind.wrap .i64 (vs3 + (1 : Int)))))
      none))
    none)
   (x1 vs3 (decide (vs3 < (ByteArray.size vs0 : Int)))))
theorem f122L0_b {R : Type} (n : Nat) (k' : Ex → St → Option R) (vs0 : ByteArray) (vs3 : Int) : ev f122e f122k n (cAt [1,0,1,0,0] f122c) (f122S0 vs0 vs3) k' =
    (cond (decide (vs3 < (ByteArray.size vs0 : Int)))
  (cond ((decide ((0 : Int) ≤ vs3)) && (decide (vs3 < (ByteArray.size vs0 : Int))))
   (cond (decide ((((ByteArray.data vs0).getD (Int.toNat vs3) 0).toNat : Int) < (32 : Int)))
    (k' .ret f122S1)
    (cond ((decide ((0 : Int) ≤ vs3)) && (decide (vs3 < (ByteArray.size vs0 : Int))))
     (cond (decide ((((ByteArray.data vs0).getD (Int.toNat vs3) 0).toNat : Int) > (126 : Int)))
      (k' .ret f122S1)
      (k' .normal (f122S0 vs0 (IntKind.wrap .i64 (vs3 + (1 : Int))))))
     none))
   none)
  (k' (.exit 0) (f122S2 vs0 vs3 (decide (vs3 < (ByteArray.size vs0 : Int)))))) := by kernel_rfl
theorem f122L0_eq {R : Type} (n : Nat) (k' : Ex → St → Option R) (vs0 : ByteArray) : ∀ (m : Nat) (vs3 : Int), iter (fun st k => ev f122e f122k n (cAt [1,0,1,0,0] f122c) st k) m (f122S0 vs0 vs3) k' = f122L0 n (k' .ret f122S1) (fun (xvs3 : Int) (xvs7 : Bool) => k' (.exit 0) (f122S2 vs0 xvs3 xvs7)) vs0 m vs3 := by
  intro m; induction m with
  | zero => intros; rfl
  | succ m ih =>
    intro vs3
    simp only [iter]
    rw [f122L0_b]
    simp only [ih, f122L0]

noncomputable def f122K0 {R : Type} (n : Nat) (k' : Ex → St → Option R) : Ex → St → Option R := (blockK 0 (seqK f122e f122k n (cAt [1,1] f122c) k'))
theorem f122K0_x0 {R : Type} (n : Nat) (k : List Dt → Option R) (a0 : ByteArray)  : f122K0 n (exitK f122e [.ro] [false] true [.tmp 2] [4] [.d .str a0] k) .ret f122S1 =
    (k [.d .bool false]) := by kernel_rfl
theorem f122K0_x1 {R : Type} (n : Nat) (k : List Dt → Option R) (a0 : ByteArray) (vs0 : ByteArray) (xvs3 : Int) (xvs7 : Bool) : f122K0 n (exitK f122e [.ro] [false] true [.tmp 2] [4] [.d .str a0] k) (.exit 0) (f122S2 vs0 xvs3 xvs7) =
    (k [.d .bool (decide ((ByteArray.size vs0 : Int) ≤ (400 : Int)))]) := by kernel_rfl

theorem f122_run {R : Type} (n : Nat) (k : List Dt → Option R) (a0 : ByteArray) : evFn f122e f122k n f122c [.ro] [false] true [.tmp 2] [4] [.d .str a0] k =
    (f122L0 n (k [.d .bool false]) (fun (xvs3 : Int) (xvs7 : Bool) =>
  (k [.d .bool (decide ((ByteArray.size a0 : Int) ≤ (400 : Int)))])) a0 n (0 : Int)) := by
  refine Eq.trans (b := (iter (fun st k => ev f122e f122k n (cAt [1,0,1,0,0] f122c) st k) n (f122S0 a0 (0 : Int)) (f122K0 n (exitK f122e [.ro] [false] true [.tmp 2] [4] [.d .str a0] k)))) (by kernel_rfl) ?_
  simp only [f122L0_eq, f122K0_x0, f122K0_x1]
theorem f122_spec (a0 : ByteArray) (hg : okStr a0 = true) : ∃ keep rounds, ∀ {R : Type} (k : List Dt → Option R), evFn f122e keep rounds f122c [.ro] [false] true [.tmp 2] [4] [.d .str a0] k = k [.d .bool (textOk a0)] := by
  have hl : a0.size ≤ 9223372036854775807 := bleN hg
  refine ⟨f122k, a0.size + 1, fun {R} k => ?_⟩
  rw [f122_run]
  refine Eq.trans (loop_idx (n := a0.size) (F := fun m i => f122L0 (a0.size + 1) _ _ a0 m i) (p := fun j => inR (byteAt a0 j) 32 126) (good := _) (bad := k [.d .bool false])
    (fun m j hj => ?_) (fun m => by simp only [f122L0, idxE, cond_false]; rfl) a0.size 0 (a0.size + 1) (by omega) (by omega)) ?_
  · obtain ⟨h1, h0, hw, ht⟩ := idx hj (by omega)
    have hc : 0 ≤ byteAt a0 j ∧ byteAt a0 j < 256 := by
      unfold byteAt
      have := UInt8.toNat_lt (a0.data.getD j 0)
      omega
    simp only [f122L0, h1, h0, hw, ht, Bool.and_self, cond_true]
    change 0 ≤ (((ByteArray.data a0).getD j 0).toNat : Int) ∧ (((ByteArray.data a0).getD j 0).toNat : Int) < 256 at hc
    show _ = cond (inR (((ByteArray.data a0).getD j 0).toNat : Int) 32 126) _ _
    generalize (((ByteArray.data a0).getD j 0).toNat : Int) = c at *
    unfold inR
    rw [show decide (c < 32) = !(decide (c ≥ 32)) by rw [Bool.eq_iff_iff]; simp, show decide (c > 126) = !(decide (c ≤ 126)) by rw [Bool.eq_iff_iff]; simp]
    cases decide (c ≥ 32) <;> cases decide (c ≤ 126) <;> rfl
  · unfold textOk
    cases allN (fun j => inR (byteAt a0 j) 32 126) 0 a0.size <;> rfl

noncomputable def q122 : List Dt → Option (Bool × List Dt)
  | [.d .str a0] => some ((okStr a0), [.d .bool (textOk a0)])
  | _ => none
noncomputable def s122 : Gm.Spec := Gm.Spec.of [.ro] [false] true q122
theorem good122 : Gm.Good Try.prog (122, s122) := by
  have hl : ∀ x ∈ ([] : List (Nat × Gm.Spec)), Gm.Good Try.prog x := fun _ h => by cases h
  refine ⟨⟨spec_ok (tab_ok.env hl) (tab.natl hl) Try.func122 (by kernel_rfl : Try.f122.body = some f122c) [4] (by kernel_rfl) ?_, _, Try.func122, by kernel_rfl, of_decide_eq_true (by kernel_rfl)⟩, Gm.Spec.of_natl _ _ _ _⟩
  intro ds outs h
  unfold q122 at h
  split at h
  · simp only [Option.some.injEq, Prod.mk.injEq] at h; obtain ⟨hg, h⟩ := h; cases h; exact f122_spec _ hg
  · cases h
end Go.Proofs.Ytklmnopgogcbhaa

/- x -/
namespace Go.Proofs.Ytklmnopgogcbhaa
open Go Go.Gm

set_option maxHeartbeats 1000000 in
set_option maxRecDepth 100000 in
theorem liteIdx (s : ByteArray) (c : Int) (w : World) : Calls Try.prog 86 #[.string s, .int .u8 c] w fun e w' => e = .returned (.int .i64 (idxB s c)) ∧ w' = w := by
  go_enter Try.func86, Try.ntmps86
  go_wp2
  rw [run_callFunc_extern Try.func97 (by kernel_rfl) (by kernel_rfl) (by kernel_rfl) (e := Extern.BytealgIndexByte.indexByte) (by kernel_rfl), Lib.run_indexByteString]
  simp only [Result.andThen]
  rw [Oper.upon_value]
  go_wp2
  go_ret
  exact ⟨rfl, rfl⟩
noncomputable def q86 : List Dt → Option (Bool × List Dt)
  | [.d .str a0, .d (.i .u8) a1] => some (true, [.d (.i .i64) (idxB a0 a1)])
  | _ => none
noncomputable def s86 : Gm.Spec := Gm.Spec.of [.ro, .ro] [false] true q86
theorem good86 : Gm.Good Try.prog (86, s86) := by
  refine ⟨⟨spec_plain rfl ?_, _, Try.func86, by kernel_rfl, of_decide_eq_true (by kernel_rfl)⟩, Gm.Spec.of_natl _ _ _ _⟩
  intro ds outs h
  unfold q86 at h
  split at h
  · rename_i a0 a1
    cases h
    refine ⟨_, _, .int .i64 (idxB a0 a1), rfl, rfl, rfl, rfl, fun w us ROa Fs hA => ?_⟩
    cases hA with
    | cons h1 hA =>
      cases hA with
      | cons h2 hA =>
        cases hA
        have e1 := valRd_v (t := .str) (v := .string a0) rfl rfl h1
        have e2 := valRd_v (t := .i .u8) (v := .int .u8 a1) rfl rfl h2
        subst e1 e2
        exact liteIdx a0 a1 w
  · cases h
end Go.Proofs.Ytklmnopgogcbhaa

/- x -/
namespace Go.Proofs.Ytklmnopgogcbhaa
open Go Go.Gm
/-! ### strings.IndexByte -/
noncomputable def f69c : Code := (Try.f69.body).getD .skip
def f69k : Nat → Kp := kat [⟨[0, 1], [], [], []⟩, ⟨[4], [], [], []⟩]
noncomputable def f69e : Env := tab.env [(86, s86)]
theorem f69_run {R : Type} (n : Nat) (k : List Dt → Option R) (a0 : ByteArray) (a1 : Int) : evFn f69e f69k n f69c [.ro, .ro] [false] true [.tmp 4] [3] [.d .str a0, .d (.i .u8) a1] k =
    (k [.d (.i .i64) (idxB a0 a1)]) := by kernel_rfl
theorem f69_spec (a0 : ByteArray) (a1 : Int) : ∃ keep rounds, ∀ {R : Type} (k : List Dt → Option R), evFn f69e keep rounds f69c [.ro, .ro] [false] true [.tmp 4] [3] [.d .str a0, .d (.i .u8) a1] k = k [.d (.i .i64) (idxB a0 a1)] := ⟨f69k, 0, fun k => f69_run 0 k _ _⟩

noncomputable def q69 : List Dt → Option (Bool × List Dt)
  | [.d .str a0, .d (.i .u8) a1] => some (true, [.d (.i .i64) (idxB a0 a1)])
  | _ => none
noncomputable def s69 : Gm.Spec := Gm.Spec.of [.ro, .ro] [false] true q69
theorem good69 : Gm.Good Try.prog (69, s69) := by
  have hl : ∀ x ∈ [(86, s86)], Gm.Good Try.prog x := List.forall_mem_cons.2 ⟨good86, List.forall_mem_nil _⟩
  refine ⟨⟨spec_ok (tab_ok.env hl) (tab.natl hl) Try.func69 (by kernel_rfl : Try.f69.body = some f69c) [3] (by kernel_rfl) ?_, _, Try.func69, by kernel_rfl, of_decide_eq_true (by kernel_rfl)⟩, Gm.Spec.of_natl _ _ _ _⟩
  intro ds outs h
  unfold q69 at h
  split at h
  · cases h; exact f69_spec _ _
  · cases h
/-! ### loop.example/g00465/spec.PlainOk -/
noncomputable def f38S0 (y0 : ByteArray) (y1 : Int) : St := ⟨[(0, .c (.one (.v (.string y0)))), (3, .c (.one (.v (.int .i64 y1))))], [], []⟩
noncomputable def f38S1 : St := ⟨[(2, .c (.one (.v (.bool false))))], [], []⟩
noncomputable def f38S2 (y0 : ByteArray) (y1 : Int) (y2 : Bool) : St := ⟨[(0, .c (.one (.v (.string y0)))), (3, .c (.one (.v (.int .i64 y1)))), (8, .c (.one (.v (.bool y2))))], [], []⟩
noncomputable def f38c : Code := (Try.f38.body).getD .skip
def f38k : Nat → Kp := kat [⟨[0], [], [], []⟩, ⟨[0, 3], [], [], []⟩, ⟨[0, 3, 8], [], [], []⟩, ⟨[0, 3], [], [], []⟩, ⟨[0, 3, 4], [], [], []⟩, ⟨[0, 3, 45], [], [], []⟩, ⟨[2], [], [], []⟩, ⟨[2], [], [], []⟩]
noncomputable def f38e : Env := tab.env [(40, s40), (66, s66)]
noncomputable def f38L0 {R : Type} (n : Nat) (x0 : Option R) (x1 : Int → Bool → Option R) (vs0 : ByteArray) : Nat → Int → Option R
  | 0, _ => none
  | m + 1, vs3 =>
    (cond (decide (vs3 < (ByteArray.size vs0 : Int)))
   (cond ((decide ((0 : Int) ≤ vs3)) && (decide (vs3 < (ByteArray.size vs0 : Int))))
    (cond (!(letter (((ByteArray.data vs0).getD (Int.toNat vs3) 0).toNat : Int)))
     (cond (vs3 == (0 : Int))
      (x0)
      (cond (decide ((((ByteArray.data vs0).getD (Int.toNat vs3) 0).toNat : Int) ≥ (48 : Int)))
       (cond (decide ((((ByteArray.data vs0).getD (Int.toNat vs3) 0).toNat : Int) ≤ (57 : Int)))
        (f38L0 n x0 x1 vs0 m (IntKind.wrap .i64 (vs3 + (1 : Int))))
        (cond ((((ByteArray.data vs0).getD (Int.toNat vs3) 0).toNat : Int) == (95 : Int))
         (f38L0 n x0 x1 vs0 m (IntKind.wrap .i64 (vs3 + (1 : Int))))
         (cond ((((ByteArray.data vs0).getD (Int.toNat vs3) 0).toNat : Int) == (46 : Int))
          (f38L0 n x0 x1 vs0 m (IntKind.wrap .i64 (vs3 + (1 : Int))))
          (cond ((((ByteArray.data vs0).getD (Int.toNat vs3) 0).toNat : Int) == (47 : Int))
           (f38L0 n x0 x1 vs0 m (IntKind.wrap .i64 (vs3 + (1 : Int))))
           (cond (!((((ByteArray.data vs0).getD (Int.toNat vs3) 0).toNat : Int) == (45 : Int)))
            (x0)
            (f38L0 n x0 x1 vs0 m (IntKind.wrap .i64 (vs3 + (1 : Int)))))))))
       (cond ((((ByteArray.data vs0).getD (Int.toNat vs3) 0).toNat : Int) == (95 : Int))
        (f38L0 n x0 x1 vs0 m (IntKind.wrap .i64 (vs3 + (1 : Int))))
        (cond ((((ByteArray.data vs0).getD (Int.toNat vs3) 0).toNat : Int) == (46 : Int))
         (f38L0 n x0 x1 vs0 m (IntKind.wrap .i64 (vs3 + (1 : Int))))
         (cond ((((ByteArray.data vs0).getD (Int.toNat vs3) 0).toNat : Int) == (47 : Int))
          (f38L0 n x0 x1 vs0 m (IntKind.wrap .i64 (vs3 + (1 : Int))))
          (cond (!((((ByteArray.data vs0).getD (Int.toNat vs3) 0).toNat : Int) == (45 : Int)))
           (x0)
           (f38L0 n x0 x1 vs0 m (IntKind.wrap .i64 (vs3 + (1 : Int))))))))))
     (f38L0 n x0 x1 vs0 m (IntKind.wrap .i64 (vs3 + (1 : Int)))))
    none)
   (x1 vs3 (decide (vs3 < (ByteArray.size vs0 : Int)))))
theorem f38L0_b {R : Type} (n : Nat) (k' : Ex → St → Option R) (vs0 : ByteArray) (vs3 : Int) : ev f38e f38k n (cAt [1,0,1,0,0] f38c) (f38S0 vs0 vs3) k' =
    (cond (decide (vs3 < (ByteArray.size vs0 : Int)))
  (cond ((decide ((0 : Int) ≤ vs3)) && (decide (vs3 < (ByteArray.size vs0 : Int))))
   (cond (!(letter (((ByteArray.data vs0).getD (Int.toNat vs3) 0).toNat : Int)))
    (cond (vs3 == (0 : Int))
     (k' .ret f38S1)
     (cond (decide ((((ByteArray.data vs0).getD (Int.toNat vs3) 0).toNat : Int) ≥ (48 : Int)))
      (cond (decide ((((ByteArray.data vs0).getD (Int.toNat vs3) 0).toNat : Int) ≤ (57 : Int)))
       (k' .normal (f38S0 vs0 (IntKind.wrap .i64 (vs3 + (1 : Int)))))
       (cond ((((ByteArray.data vs0).getD (Int.toNat vs3) 0).toNat : Int) == (95 : Int))
        (k' .normal (f38S0 vs0 (IntKind.wrap .i64 (vs3 + (1 : Int)))))
        (cond ((((ByteArray.data vs0).getD (Int.toNat vs3) 0).toNat : Int) == (46 : Int))
         (k' .normal (f38S0 vs0 (IntKind.wrap .i64 (vs3 + (1 : Int)))))
         (cond ((((ByteArray.data vs0).getD (Int.toNat vs3) 0).toNat : Int) == (47 : Int))
          (k' .normal (f38S0 vs0 (IntKind.wrap .i64 (vs3 + (1 : Int)))))
          (cond (!((((ByteArray.data vs0).getD (Int.toNat vs3) 0).toNat : Int) == (45 : Int)))
           (k' .ret f38S1)
           (k' .normal (f38S0 vs0 (IntKind.wrap .i64 (vs3 + (1 : Int))))))))))
      (cond ((((ByteArray.data vs0).getD (Int.toNat vs3) 0).toNat : Int) == (95 : Int))
       (k' .normal (f38S0 vs0 (IntKind.wrap .i64 (vs3 + (1 : Int)))))
       (cond ((((ByteArray.data vs0).getD (Int.toNat vs3) 0).toNat : Int) == (46 : Int))
        (k' .normal (f38S0 vs0 (IntKind.wrap .i64 (vs3 + (1 : Int)))))
        (cond ((((ByteArray.data vs0).getD (Int.toNat vs3) 0).toNat : Int) == (47 : Int))
         (k' .normal (f38S0 vs0 (IntKind.wrap .i64 (vs3 + (1 : Int)))))
         (cond (!((((ByteArray.data vs0).getD (Int.toNat vs3) 0).toNat : Int) == (45 : Int)))
          (k' .ret f38S1)
          (k' .normal (f38S0 vs0 (IntKind.wrap .i64 (vs3 + (1 : Int)))))))))))
    (k' .normal (f38S0 vs0 (IntKind.wrap .i64 (vs3 + (1 : Int))))))
   none)
  (k' (.exit 0) (f38S2 vs0 vs3 (decide (vs3 < (ByteArray.size vs0 : Int)))))) := by kernel_rfl
theorem f38L0_eq {R : Type} (n : Nat) (k' : Ex → St → Option R) (vs0 : ByteArray) : ∀ (m : Nat) (vs3 : Int), iter (fun st k => ev f38e f38k n (cAt [1,0,1,0,0] f38c) st k) m (f38S0 vs0 vs3) k' = f38L0 n (k' .ret f38S1) (fun (xvs3 : Int) (xvs8 : Bool) => k' (.exit 0) (f38S2 vs0 xvs3 xvs8)) vs0 m vs3 := by
  intro m; induction m with
  | zero => intros; rfl
  | succ m ih =>
    intro vs3
    simp only [iter]
    rw [f38L0_b]
    simp only [ih, f38L0]

noncomputable def f38K0 {R : Type} (n : Nat) (k' : Ex → St → Option R) : Ex → St → Option R := (blockK 0 (seqK f38e f38k n (cAt [1,1] f38c) k'))
theorem f38K0_x0 {R : Type} (n : Nat) (k : List Dt → Option R) (a0 : ByteArray)  : f38K0 n (exitK f38e [.ro] [false] true [.tmp 2] [4] [.d .str a0] k) .ret f38S1 =
    (k [.d .bool false]) := by kernel_rfl
theorem f38K0_x1 {R : Type} (n : Nat) (k : List Dt → Option R) (a0 : ByteArray) (vs0 : ByteArray) (xvs3 : Int) (xvs8 : Bool) : f38K0 n (exitK f38e [.ro] [false] true [.tmp 2] [4] [.d .str a0] k) (.exit 0) (f38S2 vs0 xvs3 xvs8) =
    (cond (inR (ByteArray.size vs0 : Int) (1 : Int) (60 : Int))
  (cond (!(sEq vs0 (bs [110,117,108,108])))
   (cond (!(sEq vs0 (bs [116,114,117,101])))
    (k [.d .bool (!(sEq vs0 (bs [102,97,108,115,101])))])
    (k [.d .bool false]))
   (k [.d .bool false]))
  (k [.d .bool false])) := by kernel_rfl

theorem f38_run {R : Type} (n : Nat) (k : List Dt → Option R) (a0 : ByteArray) : evFn f38e f38k n f38c [.ro] [false] true [.tmp 2] [4] [.d .str a0] k =
    (f38L0 n (k [.d .bool false]) (fun (xvs3 : Int) (xvs8 : Bool) =>
  (cond (inR (ByteArray.size a0 : Int) (1 : Int) (60 : Int))
   (cond (!(sEq a0 (bs [110,117,108,108])))
    (cond (!(sEq a0 (bs [116,114,117,101])))
     (k [.d .bool (!(sEq a0 (bs [102,97,108,115,101])))])
     (k [.d .bool false]))
    (k [.d .bool false]))
   (k [.d .bool false]))) a0 n (0 : Int)) := by
  refine Eq.trans (b := (iter (fun st k => ev f38e f38k n (cAt [1,0,1,0,0] f38c) st k) n (f38S0 a0 (0 : Int)) (f38K0 n (exitK f38e [.ro] [false] true [.tmp 2] [4] [.d .str a0] k)))) (by kernel_rfl) ?_
  simp only [f38L0_eq, f38K0_x0, f38K0_x1]
theorem f38_spec (a0 : ByteArray) (hg : okStr a0 = true) : ∃ keep rounds, ∀ {R : Type} (k : List Dt → Option R), evFn f38e keep rounds f38c [.ro] [false] true [.tmp 2] [4] [.d .str a0] k = k [.d .bool (plainOk a0)] := by
  have hl : a0.size ≤ 9223372036854775807 := bleN hg
  refine ⟨f38k, a0.size + 1, fun k => ?_⟩
  rw [f38_run]
  refine Eq.trans (loop_idx (n := a0.size) (F := fun m i => f38L0 (a0.size + 1) _ _ a0 m i) (p := fun j => plainC (j : Int) (byteAt a0 j)) (good := _) (bad := k [.d .bool false])
    (fun m j hj => ?_) (fun m => by simp only [f38L0, idxE, cond_false]; rfl) a0.size 0 (a0.size + 1) (by omega) (by omega)) ?_
  · obtain ⟨h1, h0, hw, ht⟩ := idx hj (by omega)
    simp only [f38L0, h1, h0, hw, ht, Bool.and_self, cond_true]
    show _ = cond (plainC (j : Int) (((ByteArray.data a0).getD j 0).toNat : Int)) _ _
    generalize (((ByteArray.data a0).getD j 0).toNat : Int) = c
    unfold plainC digit
    cases letter c
    · cases ((j : Int) == (0 : Int))
      · cases decide (c ≥ (48 : Int)) <;> cases decide (c ≤ (57 : Int)) <;> cases (c == (95 : Int)) <;> cases (c == (46 : Int)) <;> cases (c == (47 : Int)) <;> cases (c == (45 : Int)) <;> rfl
      · rfl
    · rfl
  · unfold plainOk
    cases allN (fun j => plainC (j : Int) (byteAt a0 j)) 0 a0.size <;> cases inR (a0.size : Int) 1 60 <;> cases sEq a0 (bs [110,117,108,108]) <;> cases sEq a0 (bs [116,114,117,101]) <;> rfl

noncomputable def q38 : List Dt → Option (Bool × List Dt)
  | [.d .str a0] => some ((okStr a0), [.d .bool (plainOk a0)])
  | _ => none
noncomputable def s38 : Gm.Spec := Gm.Spec.of [.ro] [false] true q38
theorem good38 : Gm.Good Try.prog (38, s38) := by
  have hl : ∀ x ∈ [(40, s40), (66, s66)], Gm.Good Try.prog x := List.forall_mem_cons.2 ⟨good40, List.forall_mem_cons.2 ⟨good66, List.forall_mem_nil _⟩⟩
  refine ⟨⟨spec_ok (tab_ok.env hl) (tab.natl hl) Try.func38 (by kernel_rfl : Try.f38.body = some f38c) [4] (by kernel_rfl) ?_, _, Try.func38, by kernel_rfl, of_decide_eq_true (by kernel_rfl)⟩, Gm.Spec.of_natl _ _ _ _⟩
  intro ds outs h
  unfold q38 at h
  split at h
  · simp only [Option.some.injEq, Prod.mk.injEq] at h; obtain ⟨hg, h⟩ := h; cases h; exact f38_spec _ hg
  · cases h
/-! ### loop.example/g00465/impl.PlainOk -/
noncomputable def f42S0 (y0 : ByteArray) (y1 : Int) (y2 : Int) : St := ⟨[(0, .c (.one (.v (.string y0)))), (5, .c (.one (.v (.int .i64 y1)))), (6, .c (.one (.v (.int .i64 y2))))], [], []⟩
noncomputable def f42S1 : St := ⟨[(2, .c (.one (.v (.bool false))))], [], []⟩
noncomputable def f42S2 (y0 : ByteArray) (y1 : Int) (y2 : Int) (y3 : Bool) : St := ⟨[(0, .c (.one (.v (.string y0)))), (5, .c (.one (.v (.int .i64 y1)))), (6, .c (.one (.v (.int .i64 y2)))), (7, .c (.one (.v (.bool y3))))], [], []⟩
noncomputable def f42c : Code := (Try.f42.body).getD .skip
def f42k : Nat → Kp := kat [⟨[0], [], [], []⟩, ⟨[0, 5, 6], [], [], []⟩, ⟨[0, 5, 6, 7], [], [], []⟩, ⟨[0, 3, 5, 6], [], [], []⟩, ⟨[0, 5, 6, 31], [], [], []⟩, ⟨[2], [], [], []⟩, ⟨[0, 5, 6], [], [], []⟩, ⟨[2], [], [], []⟩]
noncomputable def f42e : Env := tab.env [(43, s43), (67, s67), (68, s68), (69, s69)]
noncomputable def f42L0 {R : Type} (n : Nat) (x0 : Option R) (x1 : Int → Bool → Option R) (vs0 : ByteArray) (vs5 : Int) : Nat → Int → Option R
  | 0, _ => none
  | m + 1, vs6 =>
    (cond (decide (vs6 < vs5))
   (cond ((decide ((0 : Int) ≤ vs6)) && (decide (vs6 < (ByteArray.size vs0 : Int))))
    (cond (!(letter (((ByteArray.data vs0).getD (Int.toNat vs6) 0).toNat : Int)))
     (cond (vs6 == (0 : Int))
      (x0)
      (cond ((decide ((0 : Int) ≤ vs6)) && (decide (vs6 < (ByteArray.size vs0 : Int))))
       (cond (!(digit (((ByteArray.data vs0).getD (Int.toNat vs6) 0).toNat : Int)))
        (cond ((decide ((0 : Int) ≤ vs6)) && (decide (vs6 < (ByteArray.size vs0 : Int))))
         (cond (decide ((idxB (bs [95,46,47,45]) (((ByteArray.data vs0).getD (Int.toNat vs6) 0).toNat : Int)) < (0 : Int)))
          (x0)
          (f42L0 n x0 x1 vs0 vs5 m (IntKind.wrap .i64 (vs6 + (1 : Int)))))
         none)
        (f42L0 n x0 x1 vs0 vs5 m (IntKind.wrap .i64 (vs6 + (1 : Int)))))
       none))
     (f42L0 n x0 x1 vs0 vs5 m (IntKind.wrap .i64 (vs6 + (1 : Int)))))
    none)
   (x1 vs6 (decide (vs6 < vs5))))
theorem f42L0_b {R : Type} (n : Nat) (k' : Ex → St → Option R) (vs0 : ByteArray) (vs5 : Int) (vs6 : Int) : ev f42e f42k n (cAt [1,0,1,0,0] f42c) (f42S0 vs0 vs5 vs6) k' =
    (cond (decide (vs6 < vs5))
  (cond ((decide ((0 : Int) ≤ vs6)) && (decide (vs6 < (ByteArray.size vs0 : Int))))
   (cond (!(letter (((ByteArray.data vs0).getD (Int.toNat vs6) 0).toNat : Int)))
    (cond (vs6 == (0 : Int))
     (k' .ret f42S1)
     (cond ((decide ((0 : Int) ≤ vs6)) && (decide (vs6 < (ByteArray.size vs0 : Int))))
      (cond (!(digit (((ByteArray.data vs0).getD (Int.toNat vs6) 0).toNat : Int)))
       (cond ((decide ((0 : Int) ≤ vs6)) && (decide (vs6 < (ByteArray.size vs0 : Int))))
        (cond (decide ((idxB (bs [95,46,47,45]) (((ByteArray.data vs0).getD (Int.toNat vs6) 0).toNat : Int)) < (0 : Int)))
         (k' .ret f42S1)
         (k' .normal (f42S0 vs0 vs5 (IntKind.wrap .i64 (vs6 + (1 : Int))))))
        none)
       (k' .normal (f42S0 vs0 vs5 (IntKind.wrap .i64 (vs6 + (1 : Int))))))
      none))
    (k' .normal (f42S0 vs0 vs5 (IntKind.wrap .i64 (vs6 + (1 : Int))))))
   none)
  (k' (.exit 0) (f42S2 vs0 vs5 vs6 (decide (vs6 < vs5))))) := by kernel_rfl
theorem f42L0_eq {R : Type} (n : Nat) (k' : Ex → St → Option R) (vs0 : ByteArray) (vs5 : Int) : ∀ (m : Nat) (vs6 : Int), iter (fun st k => ev f42e f42k n (cAt [1,0,1,0,0] f42c) st k) m (f42S0 vs0 vs5 vs6) k' = f42L0 n (k' .ret f42S1) (fun (xvs6 : Int) (xvs7 : Bool) => k' (.exit 0) (f42S2 vs0 vs5 xvs6 xvs7)) vs0 vs5 m vs6 := by
  intro m; induction m with
  | zero => intros; rfl
  | succ m ih =>
    intro vs6
    simp only [iter]
    rw [f42L0_b]
    simp only [ih, f42L0]

noncomputable def f42K0 {R : Type} (n : Nat) (k' : Ex → St → Option R) : Ex → St → Option R := (blockK 0 (seqK f42e f42k n (cAt [1,1] f42c) k'))
theorem f42K0_x0 {R : Type} (n : Nat) (k : List Dt → Option R) (a0 : ByteArray)  : f42K0 n (exitK f42e [.ro] [false] true [.tmp 2] [4] [.d .str a0] k) .ret f42S1 =
    (k [.d .bool false]) := by kernel_rfl
theorem f42K0_x1 {R : Type} (n : Nat) (k : List Dt → Option R) (a0 : ByteArray) (vs0 : ByteArray) (vs5 : Int) (xvs6 : Int) (xvs7 : Bool) : f42K0 n (exitK f42e [.ro] [false] true [.tmp 2] [4] [.d .str a0] k) (.exit 0) (f42S2 vs0 vs5 xvs6 xvs7) =
    (cond (inR (ByteArray.size vs0 : Int) (1 : Int) (60 : Int))
  (cond (!(sEq vs0 (bs [110,117,108,108])))
   (cond (!(sEq vs0 (bs [116,114,117,101])))
    (k [.d .bool (!(sEq vs0 (bs [102,97,108,115,101])))])
    (k [.d .bool false]))
   (k [.d .bool false]))
  (k [.d .bool false])) := by kernel_rfl

theorem f42_run {R : Type} (n : Nat) (k : List Dt → Option R) (a0 : ByteArray) : evFn f42e f42k n f42c [.ro] [false] true [.tmp 2] [4] [.d .str a0] k =
    (f42L0 n (k [.d .bool false]) (fun (xvs6 : Int) (xvs7 : Bool) =>
  (cond (inR (ByteArray.size a0 : Int) (1 : Int) (60 : Int))
   (cond (!(sEq a0 (bs [110,117,108,108])))
    (cond (!(sEq a0 (bs [116,114,117,101])))
     (k [.d .bool (!(sEq a0 (bs [102,97,108,115,101])))])
     (k [.d .bool false]))
    (k [.d .bool false]))
   (k [.d .bool false]))) a0 (ByteArray.size a0 : Int) n (0 : Int)) := by
  refine Eq.trans (b := (iter (fun st k => ev f42e f42k n (cAt [1,0,1,0,0] f42c) st k) n (f42S0 a0 (ByteArray.size a0 : Int) (0 : Int)) (f42K0 n (exitK f42e [.ro] [false] true [.tmp 2] [4] [.d .str a0] k)))) (by kernel_rfl) ?_
  simp only [f42L0_eq, f42K0_x0, f42K0_x1]
theorem f42_spec (a0 : ByteArray) (hg : okStr a0 = true) : ∃ keep rounds, ∀ {R : Type} (k : List Dt → Option R), evFn f42e keep rounds f42c [.ro] [false] true [.tmp 2] [4] [.d .str a0] k = k [.d .bool (plainOk a0)] := by
  have hl : a0.size ≤ 9223372036854775807 := bleN hg
  refine ⟨f42k, a0.size + 1, fun k => ?_⟩
  rw [f42_run]
  refine Eq.trans (loop_idx (n := a0.size) (F := fun m i => f42L0 (a0.size + 1) _ _ a0 (a0.size : Int) m i) (p := fun j => plainC (j : Int) (byteAt a0 j)) (good := _) (bad := k [.d .bool false])
    (fun m j hj => ?_) (fun m => by simp only [f42L0, idxE, cond_false]; rfl) a0.size 0 (a0.size + 1) (by omega) (by omega)) ?_
  · obtain ⟨h1, h0, hw, ht⟩ := idx hj (by omega)
    simp only [f42L0, h1, h0, hw, ht, Bool.and_self, cond_true, idx4 (UInt8.toNat_lt _)]
    show _ = cond (plainC (j : Int) (((ByteArray.data a0).getD j 0).toNat : Int)) _ _
    generalize (((ByteArray.data a0).getD j 0).toNat : Int) = c
    unfold plainC
    cases letter c
    · cases ((j : Int) == (0 : Int))
      · cases digit c <;> cases (c == (95 : Int)) <;> cases (c == (46 : Int)) <;> cases (c == (47 : Int)) <;> cases (c == (45 : Int)) <;> rfl
      · rfl
    · rfl
  · unfold plainOk
    cases allN (fun j => plainC (j : Int) (byteAt a0 j)) 0 a0.size <;> cases inR (a0.size : Int) 1 60 <;> cases sEq a0 (bs [110,117,108,108]) <;> cases sEq a0 (bs [116,114,117,101]) <;> rfl

noncomputable def q42 : List Dt → Option (Bool × List Dt)
  | [.d .str a0] => some ((okStr a0), [.d .bool (plainOk a0)])
  | _ => none
noncomputable def s42 : Gm.Spec := Gm.Spec.of [.ro] [false] true q42
theorem good42 : Gm.Good Try.prog (42, s42) := by
  have hl : ∀ x ∈ [(43, s43), (67, s67), (68, s68), (69, s69)], Gm.Good Try.prog x := List.forall_mem_cons.2 ⟨good43, List.forall_mem_cons.2 ⟨good67, List.forall_mem_cons.2 ⟨good68, List.forall_mem_cons.2 ⟨good69, List.forall_mem_nil _⟩⟩⟩⟩
  refine ⟨⟨spec_ok (tab_ok.env hl) (tab.natl hl) Try.func42 (by kernel_rfl : Try.f42.body = some f42c) [4] (by kernel_rfl) ?_, _, Try.func42, by kernel_rfl, of_decide_eq_true (by kernel_rfl)⟩, Gm.Spec.of_natl _ _ _ _⟩
  intro ds outs h
  unfold q42 at h
  split at h
  · simp only [Option.some.injEq, Prod.mk.injEq] at h; obtain ⟨hg, h⟩ := h; cases h; exact f42_spec _ hg
  · cases h
end Go.Proofs.Ytklmnopgogcbhaa

/- x -/
namespace Go.Proofs.Ytklmnopgogcbhaa
open Go Go.Gm
/-! ### loop.example/g00465/spec.l6Ours -/
noncomputable def f121c : Code := (Try.f121.body).getD .skip
def f121k : Nat → Kp := kat [⟨[0], [], [], []⟩, ⟨[2], [], [], []⟩]
noncomputable def f121e : Env := tab.env []
theorem f121_run {R : Type} (n : Nat) (k : List Dt → Option R) (a0 : ByteArray) : evFn f121e f121k n f121c [.ro] [false] true [.tmp 2] [4] [.d .str a0] k =
    (cond (decide ((ByteArray.size a0 : Int) ≥ (5 : Int)))
  (cond (decide ((5 : Int) ≤ (ByteArray.size a0 : Int)))
   (k [.d .bool (sEq (ByteArray.extract a0 0 5) (bs [113,117,97,121,47]))])
   none)
  (k [.d .bool false])) := by kernel_rfl
theorem f121_spec (a0 : ByteArray) : ∃ keep rounds, ∀ {R : Type} (k : List Dt → Option R), evFn f121e keep rounds f121c [.ro] [false] true [.tmp 2] [4] [.d .str a0] k = k [.d .bool (ours a0)] := by
  refine ⟨f121k, 0, fun k => ?_⟩
  rw [f121_run]; unfold ours hasPre
  show _ = k [.d .bool (decide ((a0.size : Int) ≥ (5 : Int)) && sEq (a0.extract 0 5) (bs [113,117,97,121,47]))]
  by_cases h : (a0.size : Int) ≥ (5 : Int)
  · have h2 : decide ((5 : Int) ≤ (a0.size : Int)) = true := decide_eq_true h
    simp only [h, h2, decide_true, cond_true, Bool.true_and]
  · simp only [h, decide_false, cond_false, Bool.false_and]

noncomputable def q121 : List Dt → Option (Bool × List Dt)
  | [.d .str a0] => some (true, [.d .bool (ours a0)])
  | _ => none
noncomputable def s121 : Gm.Spec := Gm.Spec.of [.ro] [false] true q121
theorem good121 : Gm.Good Try.prog (121, s121) := by
  have hl : ∀ x ∈ ([] : List (Nat × Gm.Spec)), Gm.Good Try.prog x := fun _ h => by cases h
  refine ⟨⟨spec_ok (tab_ok.env hl) (tab.natl hl) Try.func121 (by kernel_rfl : Try.f121.body = some f121c) [4] (by kernel_rfl) ?_, _, Try.func121, by kernel_rfl, of_decide_eq_true (by kernel_rfl)⟩, Gm.Spec.of_natl _ _ _ _⟩
  intro ds outs h
  unfold q121 at h
  split at h
  · cases h; exact f121_spec _
  · cases h
/-! ### loop.example/g00465/spec.PaceOk -/
noncomputable def f118c : Code := (Try.f118.body).getD .skip
def f118k : Nat → Kp := kat [⟨[1], [], [], []⟩, ⟨[2], [], [], []⟩]
noncomputable def f118e : Env := tab.env [(40, s40)]
theorem f118_run {R : Type} (n : Nat) (k : List Dt → Option R) (a0 : PaceT) : evFn f118e f118k n f118c [.ro] [false] true [.tmp 2] [4] [.d .pace a0] k =
    (cond (inR (PaceT.up a0) (0 : Int) (1000 : Int))
  (cond (inR (PaceT.down a0) (0 : Int) (1000 : Int))
   (cond (inR (PaceT.upSpan a0) (0 : Int) (3600 : Int))
    (k [.d .bool (inR (PaceT.downSpan a0) (0 : Int) (3600 : Int))])
    (k [.d .bool false]))
   (k [.d .bool false]))
  (k [.d .bool false])) := by kernel_rfl
theorem f118_spec (a0 : PaceT) : ∃ keep rounds, ∀ {R : Type} (k : List Dt → Option R), evFn f118e keep rounds f118c [.ro] [false] true [.tmp 2] [4] [.d .pace a0] k = k [.d .bool (paceOk a0)] := by
  refine ⟨f118k, 0, fun k => ?_⟩
  rw [f118_run]; unfold paceOk
  try simp only [isMany]
  cases inR a0.up 0 1000 <;> cases inR a0.down 0 1000 <;> cases inR a0.upSpan 0 3600 <;> rfl

noncomputable def q118 : List Dt → Option (Bool × List Dt)
  | [.d .pace a0] => some (true, [.d .bool (paceOk a0)])
  | _ => none
noncomputable def s118 : Gm.Spec := Gm.Spec.of [.ro] [false] true q118
theorem good118 : Gm.Good Try.prog (118, s118) := by
  have hl : ∀ x ∈ [(40, s40)], Gm.Good Try.prog x := List.forall_mem_cons.2 ⟨good40, List.forall_mem_nil _⟩
  refine ⟨⟨spec_ok (tab_ok.env hl) (tab.natl hl) Try.func118 (by kernel_rfl : Try.f118.body = some f118c) [4] (by kernel_rfl) ?_, _, Try.func118, by kernel_rfl, of_decide_eq_true (by kernel_rfl)⟩, Gm.Spec.of_natl _ _ _ _⟩
  intro ds outs h
  unfold q118 at h
  split at h
  · cases h; exact f118_spec _
  · cases h
/-! ### loop.example/g00465/spec.MetricOk -/
noncomputable def f120c : Code := (Try.f120.body).getD .skip
def f120k : Nat → Kp := kat [⟨[1], [], [], []⟩, ⟨[2], [], [], []⟩]
noncomputable def f120e : Env := tab.env [(40, s40), (116, s116)]
theorem f120_run {R : Type} (n : Nat) (k : List Dt → Option R) (a0 : MetricT) : evFn f120e f120k n f120c [.ro] [false] true [.tmp 2] [4] [.d .metric a0] k =
    (cond (okStr (MetricT.name a0))
  (cond (nameOk (MetricT.name a0))
   (cond (inR (MetricT.kind a0) (1 : Int) (3 : Int))
    (k [.d .bool (inR (MetricT.goal a0) (1 : Int) (1000000 : Int))])
    (k [.d .bool false]))
   (k [.d .bool false]))
  none) := by kernel_rfl
theorem f120_spec (a0 : MetricT) (hg : sm_metric a0 = true) : ∃ keep rounds, ∀ {R : Type} (k : List Dt → Option R), evFn f120e keep rounds f120c [.ro] [false] true [.tmp 2] [4] [.d .metric a0] k = k [.d .bool (metricOk a0)] := by
  simp only [sm_metric, Bool.and_eq_true] at hg
  refine ⟨f120k, 0, fun k => ?_⟩
  rw [f120_run, okStr_sm hg.1]; unfold metricOk
  cases nameOk a0.name <;> cases inR a0.kind 1 3 <;> rfl

noncomputable def q120 : List Dt → Option (Bool × List Dt)
  | [.d .metric a0] => some ((sm_metric a0), [.d .bool (metricOk a0)])
  | _ => none
noncomputable def s120 : Gm.Spec := Gm.Spec.of [.ro] [false] true q120
theorem good120 : Gm.Good Try.prog (120, s120) := by
  have hl : ∀ x ∈ [(40, s40), (116, s116)], Gm.Good Try.prog x := List.forall_mem_cons.2 ⟨good40, List.forall_mem_cons.2 ⟨good116, List.forall_mem_nil _⟩⟩
  refine ⟨⟨spec_ok (tab_ok.env hl) (tab.natl hl) Try.func120 (by kernel_rfl : Try.f120.body = some f120c) [4] (by kernel_rfl) ?_, _, Try.func120, by kernel_rfl, of_decide_eq_true (by kernel_rfl)⟩, Gm.Spec.of_natl _ _ _ _⟩
  intro ds outs h
  unfold q120 at h
  split at h
  · simp only [Option.some.injEq, Prod.mk.injEq] at h; obtain ⟨hg, h⟩ := h; cases h; exact f120_spec _ hg
  · cases h
/-! ### loop.example/g00465/spec.l6Notes -/
noncomputable def f119S0 (y0 : List NoteT) (y1 : Int) : St := ⟨[(0, .c (.one (.ro .note y0))), (3, .c (.one (.v (.int .i64 y1))))], [], []⟩
noncomputable def f119S1 : St := ⟨[(2, .c (.one (.v (.bool false))))], [], []⟩
noncomputable def f119S2 (y0 : List NoteT) (y1 : Int) (y2 : Bool) : St := ⟨[(0, .c (.one (.ro .note y0))), (3, .c (.one (.v (.int .i64 y1)))), (7, .c (.one (.v (.bool y2))))], [], []⟩
noncomputable def f119c : Code := (Try.f119.body).getD .skip
def f119k : Nat → Kp := kat [⟨[0], [], [], []⟩, ⟨[0, 3], [], [], []⟩, ⟨[0, 3, 7], [], [], []⟩, ⟨[0, 3], [], [], []⟩, ⟨[0, 3, 60], [], [], []⟩, ⟨[2], [], [], []⟩, ⟨[2], [], [], []⟩]
noncomputable def f119e : Env := tab.env [(38, s38), (121, s121), (122, s122)]
noncomputable def f119L0 {R : Type} (n : Nat) (x0 : Option R) (x1 : Int → Bool → Option R) (vs0 : List NoteT) : Nat → Int → Option R
  | 0, _ => none
  | m + 1, vs3 =>
    (cond (decide (vs3 < (vs0.length : Int)))
   (cond ((decide ((0 : Int) ≤ vs3)) && (decide (vs3 < (vs0.length : Int))))
    (cond (okStr (NoteT.key (atI (t := .note) vs0 (Int.toNat vs3))))
     (cond (!(plainOk (NoteT.key (atI (t := .note) vs0 (Int.toNat vs3)))))
      (x0)
      (cond ((decide ((0 : Int) ≤ vs3)) && (decide (vs3 < (vs0.length : Int))))
       (cond (ours (NoteT.key (atI (t := .note) vs0 (Int.toNat vs3))))
        (x0)
        (cond ((decide ((0 : Int) ≤ vs3)) && (decide (vs3 < (vs0.length : Int))))
         (cond (okStr (NoteT.text (atI (t := .note) vs0 (Int.toNat vs3))))
          (cond (!(textOk (NoteT.text (atI (t := .note) vs0 (Int.toNat vs3)))))
           (x0)
           (cond ((decide ((0 : Int) ≤ vs3)) && (decide (vs3 < (vs0.length : Int))))
            (cond (decide ((ByteArray.size (NoteT.text (atI (t := .note) vs0 (Int.toNat vs3))) : Int) > (40 : Int)))
             (x0)
             (cond (decide (vs3 > (0 : Int)))
              (cond ((decide ((0 : Int) ≤ (IntKind.wrap .i64 (vs3 - (1 : Int))))) && (decide ((IntKind.wrap .i64 (vs3 - (1 : Int))) < (vs0.length : Int))))
               (cond ((decide ((0 : Int) ≤ vs3)) && (decide (vs3 < (vs0.length : Int))))
                (cond (!(sLt (NoteT.key (atI (t := .note) vs0 (Int.toNat (IntKind.wrap .i64 (vs3 - (1 : Int)))))) (NoteT.key (atI (t := .note) vs0 (Int.toNat vs3)))))
                 (x0)
                 (f119L0 n x0 x1 vs0 m (IntKind.wrap .i64 (vs3 + (1 : Int)))))
                none)
               none)
              (f119L0 n x0 x1 vs0 m (IntKind.wrap .i64 (vs3 + (1 : Int))))))
            none))
          none)
         none))
       none))
     none)
    none)
   (x1 vs3 (decide (vs3 < (vs0.length : Int)))))
theorem f119L0_b {R : Type} (n : Nat) (k' : Ex → St → Option R) (vs0 : List NoteT) (vs3 : Int) : ev f119e f119k n (cAt [1,0,1,0,0] f119c) (f119S0 vs0 vs3) k' =
    (cond (decide (vs3 < (vs0.length : Int)))
  (cond ((decide ((0 : Int) ≤ vs3)) && (decide (vs3 < (vs0.length : Int))))
   (cond (okStr (NoteT.key (atI (t := .note) vs0 (Int.toNat vs3))))
    (cond (!(plainOk (NoteT.key (atI (t := .note) vs0 (Int.toNat vs3)))))
     (k' .ret f119S1)
     (cond ((decide ((0 : Int) ≤ vs3)) && (decide (vs3 < (vs0.length : Int))))
      (cond (ours (NoteT.key (atI (t := .note) vs0 (Int.toNat vs3))))
       (k' .ret f119S1)
       (cond ((decide ((0 : Int) ≤ vs3)) && (decide (vs3 < (vs0.length : Int))))
        (cond (okStr (NoteT.text (atI (t := .note) vs0 (Int.toNat vs3))))
         (cond (!(textOk (NoteT.text (atI (t := .note) vs0 (Int.toNat vs3)))))
          (k' .ret f119S1)
          (cond ((decide ((0 : Int) ≤ vs3)) && (decide (vs3 < (vs0.length : Int))))
           (cond (decide ((ByteArray.size (NoteT.text (atI (t := .note) vs0 (Int.toNat vs3))) : Int) > (40 : Int)))
            (k' .ret f119S1)
            (cond (decide (vs3 > (0 : Int)))
             (cond ((decide ((0 : Int) ≤ (IntKind.wrap .i64 (vs3 - (1 : Int))))) && (decide ((IntKind.wrap .i64 (vs3 - (1 : Int))) < (vs0.length : Int))))
              (cond ((decide ((0 : Int) ≤ vs3)) && (decide (vs3 < (vs0.length : Int))))
               (cond (!(sLt (NoteT.key (atI (t := .note) vs0 (Int.toNat (IntKind.wrap .i64 (vs3 - (1 : Int)))))) (NoteT.key (atI (t := .note) vs0 (Int.toNat vs3)))))
                (k' .ret f119S1)
                (k' .normal (f119S0 vs0 (IntKind.wrap .i64 (vs3 + (1 : Int))))))
               none)
              none)
             (k' .normal (f119S0 vs0 (IntKind.wrap .i64 (vs3 + (1 : Int)))))))
           none))
         none)
        none))
      none))
    none)
   none)
  (k' (.exit 0) (f119S2 vs0 vs3 (decide (vs3 < (vs0.length : Int)))))) := by kernel_rfl
theorem f119L0_eq {R : Type} (n : Nat) (k' : Ex → St → Option R) (vs0 : List NoteT) : ∀ (m : Nat) (vs3 : Int), iter (fun st k => ev f119e f119k n (cAt [1,0,1,0,0] f119c) st k) m (f119S0 vs0 vs3) k' = f119L0 n (k' .ret f119S1) (fun (xvs3 : Int) (xvs7 : Bool) => k' (.exit 0) (f119S2 vs0 xvs3 xvs7)) vs0 m vs3 := by
  intro m; induction m with
  | zero => intros; rfl
  | succ m ih =>
    intro vs3
    simp only [iter]
    rw [f119L0_b]
    simp only [ih, f119L0]

noncomputable def f119K0 {R : Type} (n : Nat) (k' : Ex → St → Option R) : Ex → St → Option R := (blockK 0 (seqK f119e f119k n (cAt [1,1] f119c) k'))
theorem f119K0_x0 {R : Type} (n : Nat) (k : List Dt → Option R) (a0 : List NoteT)  : f119K0 n (exitK f119e [.ro] [false] true [.tmp 2] [4] [.d (.sl .note) a0] k) .ret f119S1 =
    (k [.d .bool false]) := by kernel_rfl
theorem f119K0_x1 {R : Type} (n : Nat) (k : List Dt → Option R) (a0 : List NoteT) (vs0 : List NoteT) (xvs3 : Int) (xvs7 : Bool) : f119K0 n (exitK f119e [.ro] [false] true [.tmp 2] [4] [.d (.sl .note) a0] k) (.exit 0) (f119S2 vs0 xvs3 xvs7) =
    (k [.d .bool (decide ((vs0.length : Int) ≤ (4 : Int)))]) := by kernel_rfl

theorem f119_run {R : Type} (n : Nat) (k : List Dt → Option R) (a0 : List NoteT) : evFn f119e f119k n f119c [.ro] [false] true [.tmp 2] [4] [.d (.sl .note) a0] k =
    (f119L0 n (k [.d .bool false]) (fun (xvs3 : Int) (xvs7 : Bool) =>
  (k [.d .bool (decide ((a0.length : Int) ≤ (4 : Int)))])) a0 n (0 : Int)) := by
  refine Eq.trans (b := (iter (fun st k => ev f119e f119k n (cAt [1,0,1,0,0] f119c) st k) n (f119S0 a0 (0 : Int)) (f119K0 n (exitK f119e [.ro] [false] true [.tmp 2] [4] [.d (.sl .note) a0] k)))) (by kernel_rfl) ?_
  simp only [f119L0_eq, f119K0_x0, f119K0_x1]
theorem f119_spec (a0 : List NoteT) (hg : smL sm_note a0 = true) : ∃ keep rounds, ∀ {R : Type} (k : List Dt → Option R), evFn f119e keep rounds f119c [.ro] [false] true [.tmp 2] [4] [.d (.sl .note) a0] k = k [.d .bool (notesOk a0)] := by
  have hl := smL_len hg
  refine ⟨f119k, a0.length + 1, fun {R} k => ?_⟩
  rw [f119_run]
  refine Eq.trans (loop_idx (n := a0.length) (F := fun m i => f119L0 (a0.length + 1) _ _ a0 m i) (p := noteC a0) (good := k [.d .bool (decide ((a0.length : Int) ≤ (4 : Int)))]) (bad := k [.d .bool false])
    (fun m j hj => ?_) (fun m => by simp only [f119L0, idxE, cond_false]) (a0.length) 0 (a0.length + 1) (by omega) (by omega)) ?_
  · obtain ⟨h1, h0, hw, ht⟩ := idx hj (by omega)
    have hx := smL_at (t := .note) hg hj
    simp only [sm_note, Bool.and_eq_true] at hx
    simp only [f119L0, h1, h0, hw, ht, okStr_sm hx.1, okStr_sm hx.2, ours, Bool.and_self, cond_true]
    unfold noteC
    by_cases hz : (j : Int) > 0
    · obtain ⟨h2, h3, _, h5⟩ := idx (show j - 1 < a0.length by omega) (by omega)
      simp only [hz, decide_true, cond_true, idxM hj (by omega) (by omega), h2, h3, h5, Bool.and_self]
      cases plainOk (atI (t := .note) a0 j).key <;> cases hasPre (atI (t := .note) a0 j).key (bs [113,117,97,121,47]) <;> cases textOk (atI (t := .note) a0 j).text <;> cases decide (((atI (t := .note) a0 j).text.size : Int) > 40) <;> cases sLt (atI (t := .note) a0 (j - 1)).key (atI (t := .note) a0 j).key <;> rfl
    · simp only [hz, decide_false, cond_false]
      cases plainOk (atI (t := .note) a0 j).key <;> cases hasPre (atI (t := .note) a0 j).key (bs [113,117,97,121,47]) <;> cases textOk (atI (t := .note) a0 j).text <;> cases decide (((atI (t := .note) a0 j).text.size : Int) > 40) <;> rfl
  · unfold notesOk
    cases allN (noteC a0) 0 a0.length <;> rfl

noncomputable def q119 : List Dt → Option (Bool × List Dt)
  | [.d (.sl .note) a0] => some ((smL sm_note a0), [.d .bool (notesOk a0)])
  | _ => none
noncomputable def s119 : Gm.Spec := Gm.Spec.of [.ro] [false] true q119
theorem good119 : Gm.Good Try.prog (119, s119) := by
  have hl : ∀ x ∈ [(38, s38), (121, s121), (122, s122)], Gm.Good Try.prog x := List.forall_mem_cons.2 ⟨good38, List.forall_mem_cons.2 ⟨good121, List.forall_mem_cons.2 ⟨good122, List.forall_mem_nil _⟩⟩⟩
  refine ⟨⟨spec_ok (tab_ok.env hl) (tab.natl hl) Try.func119 (by kernel_rfl : Try.f119.body = some f119c) [4] (by kernel_rfl) ?_, _, Try.func119, by kernel_rfl, of_decide_eq_true (by kernel_rfl)⟩, Gm.Spec.of_natl _ _ _ _⟩
  intro ds outs h
  unfold q119 at h
  split at h
  · simp only [Option.some.injEq, Prod.mk.injEq] at h; obtain ⟨hg, h⟩ := h; cases h; exact f119_spec _ hg
  · cases h
/-! ### loop.example/g00465/spec.l6Metrics -/
noncomputable def f117S0 (y0 : List MetricT) (y1 : Int) : St := ⟨[(0, .c (.one (.ro .metric y0))), (3, .c (.one (.v (.int .i64 y1))))], [], []⟩
noncomputable def f117S1 : St := ⟨[(2, .c (.one (.v (.bool false))))], [], []⟩
noncomputable def f117S2 (y0 : List MetricT) (y1 : Int) (y2 : Bool) : St := ⟨[(0, .c (.one (.ro .metric y0))), (3, .c (.one (.v (.int .i64 y1)))), (7, .c (.one (.v (.bool y2))))], [], []⟩
noncomputable def f117c : Code := (Try.f117.body).getD .skip
def f117k : Nat → Kp := kat [⟨[0], [], [], []⟩, ⟨[0, 3], [], [], []⟩, ⟨[0, 3, 7], [], [], []⟩, ⟨[0, 3], [], [], []⟩, ⟨[0, 3, 33], [], [], []⟩, ⟨[2], [], [], []⟩, ⟨[2], [], [], []⟩]
noncomputable def f117e : Env := tab.env [(120, s120)]
noncomputable def f117L0 {R : Type} (n : Nat) (x0 : Option R) (x1 : Int → Bool → Option R) (vs0 : List MetricT) : Nat → Int → Option R
  | 0, _ => none
  | m + 1, vs3 =>
    (cond (decide (vs3 < (vs0.length : Int)))
   (cond ((decide ((0 : Int) ≤ vs3)) && (decide (vs3 < (vs0.length : Int))))
    (cond (sm_metric (atI (t := .metric) vs0 (Int.toNat vs3)))
     (cond (!(metricOk (atI (t := .metric) vs0 (Int.toNat vs3))))
      (x0)
      (cond (decide (vs3 > (0 : Int)))
       (cond ((decide ((0 : Int) ≤ (IntKind.wrap .i64 (vs3 - (1 : Int))))) && (decide ((IntKind.wrap .i64 (vs3 - (1 : Int))) < (vs0.length : Int))))
        (cond ((decide ((0 : Int) ≤ vs3)) && (decide (vs3 < (vs0.length : Int))))
         (cond (!(sLt (MetricT.name (atI (t := .metric) vs0 (Int.toNat (IntKind.wrap .i64 (vs3 - (1 : Int)))))) (MetricT.name (atI (t := .metric) vs0 (Int.toNat vs3)))))
          (x0)
          (f117L0 n x0 x1 vs0 m (IntKind.wrap .i64 (vs3 + (1 : Int)))))
         none)
        none)
       (f117L0 n x0 x1 vs0 m (IntKind.wrap .i64 (vs3 + (1 : Int))))))
     none)
    none)
   (x1 vs3 (decide (vs3 < (vs0.length : Int)))))
theorem f117L0_b {R : Type} (n : Nat) (k' : Ex → St → Option R) (vs0 : List MetricT) (vs3 : Int) : ev f117e f117k n (cAt [1,0,1,0,0] f117c) (f117S0 vs0 vs3) k' =
    (cond (decide (vs3 < (vs0.length : Int)))
  (cond ((decide ((0 : Int) ≤ vs3)) && (decide (vs3 < (vs0.length : Int))))
   (cond (sm_metric (atI (t := .metric) vs0 (Int.toNat vs3)))
    (cond (!(metricOk (atI (t := .metric) vs0 (Int.toNat vs3))))
     (k' .ret f117S1)
     (cond (decide (vs3 > (0 : Int)))
      (cond ((decide ((0 : Int) ≤ (IntKind.wrap .i64 (vs3 - (1 : Int))))) && (decide ((IntKind.wrap .i64 (vs3 - (1 : Int))) < (vs0.length : Int))))
       (cond ((decide ((0 : Int) ≤ vs3)) && (decide (vs3 < (vs0.length : Int))))
        (cond (!(sLt (MetricT.name (atI (t := .metric) vs0 (Int.toNat (IntKind.wrap .i64 (vs3 - (1 : Int)))))) (MetricT.name (atI (t := .metric) vs0 (Int.toNat vs3)))))
         (k' .ret f117S1)
         (k' .normal (f117S0 vs0 (IntKind.wrap .i64 (vs3 + (1 : Int))))))
        none)
       none)
      (k' .normal (f117S0 vs0 (IntKind.wrap .i64 (vs3 + (1 : Int)))))))
    none)
   none)
  (k' (.exit 0) (f117S2 vs0 vs3 (decide (vs3 < (vs0.length : Int)))))) := by kernel_rfl
theorem f117L0_eq {R : Type} (n : Nat) (k' : Ex → St → Option R) (vs0 : List MetricT) : ∀ (m : Nat) (vs3 : Int), iter (fun st k => ev f117e f117k n (cAt [1,0,1,0,0] f117c) st k) m (f117S0 vs0 vs3) k' = f117L0 n (k' .ret f117S1) (fun (xvs3 : Int) (xvs7 : Bool) => k' (.exit 0) (f117S2 vs0 xvs3 xvs7)) vs0 m vs3 := by
  intro m; induction m with
  | zero => intros; rfl
  | succ m ih =>
    intro vs3
    simp only [iter]
    rw [f117L0_b]
    simp only [ih, f117L0]

noncomputable def f117K0 {R : Type} (n : Nat) (k' : Ex → St → Option R) : Ex → St → Option R := (blockK 0 (seqK f117e f117k n (cAt [1,1] f117c) k'))
theorem f117K0_x0 {R : Type} (n : Nat) (k : List Dt → Option R) (a0 : List MetricT)  : f117K0 n (exitK f117e [.ro] [false] true [.tmp 2] [4] [.d (.sl .metric) a0] k) .ret f117S1 =
    (k [.d .bool false]) := by kernel_rfl
theorem f117K0_x1 {R : Type} (n : Nat) (k : List Dt → Option R) (a0 : List MetricT) (vs0 : List MetricT) (xvs3 : Int) (xvs7 : Bool) : f117K0 n (exitK f117e [.ro] [false] true [.tmp 2] [4] [.d (.sl .metric) a0] k) (.exit 0) (f117S2 vs0 xvs3 xvs7) =
    (k [.d .bool (decide ((vs0.length : Int) ≤ (4 : Int)))]) := by kernel_rfl

theorem f117_run {R : Type} (n : Nat) (k : List Dt → Option R) (a0 : List MetricT) : evFn f117e f117k n f117c [.ro] [false] true [.tmp 2] [4] [.d (.sl .metric) a0] k =
    (f117L0 n (k [.d .bool false]) (fun (xvs3 : Int) (xvs7 : Bool) =>
  (k [.d .bool (decide ((a0.length : Int) ≤ (4 : Int)))])) a0 n (0 : Int)) := by
  refine Eq.trans (b := (iter (fun st k => ev f117e f117k n (cAt [1,0,1,0,0] f117c) st k) n (f117S0 a0 (0 : Int)) (f117K0 n (exitK f117e [.ro] [false] true [.tmp 2] [4] [.d (.sl .metric) a0] k)))) (by kernel_rfl) ?_
  simp only [f117L0_eq, f117K0_x0, f117K0_x1]
theorem f117_spec (a0 : List MetricT) (hg : smL sm_metric a0 = true) : ∃ keep rounds, ∀ {R : Type} (k : List Dt → Option R), evFn f117e keep rounds f117c [.ro] [false] true [.tmp 2] [4] [.d (.sl .metric) a0] k = k [.d .bool (metsOk a0)] := by
  have hl := smL_len hg
  refine ⟨f117k, a0.length + 1, fun {R} k => ?_⟩
  rw [f117_run]
  refine Eq.trans (loop_idx (n := a0.length) (F := fun m i => f117L0 (a0.length + 1) _ _ a0 m i) (p := metC a0) (good := k [.d .bool (decide ((a0.length : Int) ≤ (4 : Int)))]) (bad := k [.d .bool false])
    (fun m j hj => ?_) (fun m => by simp only [f117L0, idxE, cond_false]) (a0.length) 0 (a0.length + 1) (by omega) (by omega)) ?_
  · obtain ⟨h1, h0, hw, ht⟩ := idx hj (by omega)
    have hx := smL_at (t := .metric) hg hj
    simp only [f117L0, h1, h0, hw, ht, hx, eta_metric, Bool.and_self, cond_true]
    unfold metC
    by_cases hz : (j : Int) > 0
    · obtain ⟨h2, h3, _, h5⟩ := idx (show j - 1 < a0.length by omega) (by omega)
      simp only [hz, decide_true, cond_true, idxM hj (by omega) (by omega), h2, h3, h5, Bool.and_self]
      cases metricOk (atI (t := .metric) a0 j) <;> cases sLt (atI (t := .metric) a0 (j - 1)).name (atI (t := .metric) a0 j).name <;> rfl
    · simp only [hz, decide_false, cond_false]
      cases metricOk (atI (t := .metric) a0 j) <;> rfl
  · unfold metsOk
    cases allN (metC a0) 0 a0.length <;> rfl

noncomputable def q117 : List Dt → Option (Bool × List Dt)
  | [.d (.sl .metric) a0] => some ((smL sm_metric a0), [.d .bool (metsOk a0)])
  | _ => none
noncomputable def s117 : Gm.Spec := Gm.Spec.of [.ro] [false] true q117
theorem good117 : Gm.Good Try.prog (117, s117) := by
  have hl : ∀ x ∈ [(120, s120)], Gm.Good Try.prog x := List.forall_mem_cons.2 ⟨good120, List.forall_mem_nil _⟩
  refine ⟨⟨spec_ok (tab_ok.env hl) (tab.natl hl) Try.func117 (by kernel_rfl : Try.f117.body = some f117c) [4] (by kernel_rfl) ?_, _, Try.func117, by kernel_rfl, of_decide_eq_true (by kernel_rfl)⟩, Gm.Spec.of_natl _ _ _ _⟩
  intro ds outs h
  unfold q117 at h
  split at h
  · simp only [Option.some.injEq, Prod.mk.injEq] at h; obtain ⟨hg, h⟩ := h; cases h; exact f117_spec _ hg
  · cases h
/-! ### loop.example/g00465/spec.OrderOk -/
noncomputable def f111c : Code := (Try.f111.body).getD .skip
def f111k : Nat → Kp := kat [⟨[1], [], [], []⟩, ⟨[2], [], [], []⟩]
noncomputable def f111e : Env := tab.env [(40, s40), (116, s116), (117, s117), (118, s118), (119, s119)]
theorem f111_run {R : Type} (n : Nat) (k : List Dt → Option R) (a0 : OrderT) : evFn f111e f111k n f111c [.ro] [false] true [.tmp 2] [4] [.d .order a0] k =
    (cond (okStr (OrderT.name a0))
  (cond (nameOk (OrderT.name a0))
   (cond (okStr (OrderT.target a0))
    (cond (nameOk (OrderT.target a0))
     (cond (inR (OrderT.low a0) (1 : Int) (OrderT.high a0))
      (cond (decide ((OrderT.high a0) ≤ (1000 : Int)))
       (cond (smL sm_metric (OrderT.metrics a0))
        (cond (metsOk (OrderT.metrics a0))
         (cond (paceOk (OrderT.pace a0))
          (cond (smL sm_note (OrderT.notes a0))
           (k [.d .bool (notesOk (OrderT.notes a0))])
           none)
          (k [.d .bool false]))
         (k [.d .bool false]))
        none)
       (k [.d .bool false]))
      (k [.d .bool false]))
     (k [.d .bool false]))
    none)
   (k [.d .bool false]))
  none) := by kernel_rfl
theorem f111_spec (a0 : OrderT) (hg : sm_order a0 = true) : ∃ keep rounds, ∀ {R : Type} (k : List Dt → Option R), evFn f111e keep rounds f111c [.ro] [false] true [.tmp 2] [4] [.d .order a0] k = k [.d .bool (orderOk a0)] := by
  simp only [sm_order, Bool.and_eq_true] at hg
  obtain ⟨hn, ht0, hlo, hhi, hm, hp, hno⟩ := hg
  have hl := smL_len hm
  refine ⟨f111k, 0, fun {R} k => ?_⟩
  rw [f111_run]
  simp only [okStr_sm hn, okStr_sm ht0, hm, hno, cond_true]
  unfold orderOk
  cases nameOk a0.name <;> cases nameOk a0.target <;> cases inR a0.low 1 a0.high <;> cases decide (a0.high ≤ 1000) <;> cases metsOk a0.metrics <;> cases paceOk a0.pace <;> rfl

noncomputable def q111 : List Dt → Option (Bool × List Dt)
  | [.d .order a0] => some ((sm_order a0), [.d .bool (orderOk a0)])
  | _ => none
noncomputable def s111 : Gm.Spec := Gm.Spec.of [.ro] [false] true q111
theorem good111 : Gm.Good Try.prog (111, s111) := by
  have hl : ∀ x ∈ [(40, s40), (116, s116), (117, s117), (118, s118), (119, s119)], Gm.Good Try.prog x := List.forall_mem_cons.2 ⟨good40, List.forall_mem_cons.2 ⟨good116, List.forall_mem_cons.2 ⟨good117, List.forall_mem_cons.2 ⟨good118, List.forall_mem_cons.2 ⟨good119, List.forall_mem_nil _⟩⟩⟩⟩⟩
  refine ⟨⟨spec_ok (tab_ok.env hl) (tab.natl hl) Try.func111 (by kernel_rfl : Try.f111.body = some f111c) [4] (by kernel_rfl) ?_, _, Try.func111, by kernel_rfl, of_decide_eq_true (by kernel_rfl)⟩, Gm.Spec.of_natl _ _ _ _⟩
  intro ds outs h
  unfold q111 at h
  split at h
  · simp only [Option.some.injEq, Prod.mk.injEq] at h; obtain ⟨hg, h⟩ := h; cases h; exact f111_spec _ hg
  · cases h
end Go.Proofs.Ytklmnopgogcbhaa

/- x -/
namespace Go.Proofs.Ytklmnopgogcbhaa
open Go Go.Gm
/-! ### loop.example/g00465/spec.StoreOk -/
noncomputable def f102S0 (y0 : Int) (y1 : Int) (y2 : List ItemT) (y3 : Int) (y4 : ByteArray) (y5 : ByteArray) (y6 : Int) (y7 : Int) (y8 : List MetricT) (y9 : Int) (y10 : Int) (y11 : Int) (y12 : Int) (y13 : List NoteT) (y14 : Int) : St := ⟨[(1, .c (.one (.pt 1 0))), (3, .c (.one (.v (.int .i64 y0)))), (4, .c (.one (.pt 4 0))), (5, .c (.one (.v (.int .i64 y1))))], [(1, ⟨.store, [.ro .item y2, .v (.int .i64 y3)]⟩), (4, ⟨.item, [.v (.string y4), .v (.string y5), .v (.int .i64 y6), .v (.int .i64 y7), .ro .metric y8, .v (.int .i64 y9), .v (.int .i64 y10), .v (.int .i64 y11), .v (.int .i64 y12), .ro .note y13, .v (.int .i64 y14)]⟩)], []⟩
noncomputable def f102S1 : St := ⟨[(2, .c (.one (.v (.bool false))))], [], []⟩
noncomputable def f102S2 (y0 : Int) (y1 : Int) (y2 : Bool) (y3 : List ItemT) (y4 : Int) (y5 : ByteArray) (y6 : ByteArray) (y7 : Int) (y8 : Int) (y9 : List MetricT) (y10 : Int) (y11 : Int) (y12 : Int) (y13 : Int) (y14 : List NoteT) (y15 : Int) : St := ⟨[(1, .c (.one (.pt 1 0))), (3, .c (.one (.v (.int .i64 y0)))), (4, .c (.one (.pt 4 0))), (5, .c (.one (.v (.int .i64 y1)))), (61, .c (.one (.v (.bool y2))))], [(1, ⟨.store, [.ro .item y3, .v (.int .i64 y4)]⟩), (4, ⟨.item, [.v (.string y5), .v (.string y6), .v (.int .i64 y7), .v (.int .i64 y8), .ro .metric y9, .v (.int .i64 y10), .v (.int .i64 y11), .v (.int .i64 y12), .v (.int .i64 y13), .ro .note y14, .v (.int .i64 y15)]⟩)], []⟩
noncomputable def f102S3 (y0 : Int) (y1 : List ItemT) (y2 : Int) : St := ⟨[(1, .c (.one (.pt 1 0))), (3, .c (.one (.v (.int .i64 y0))))], [(1, ⟨.store, [.ro .item y1, .v (.int .i64 y2)]⟩)], []⟩
noncomputable def f102S4 (y0 : Int) (y1 : Bool) (y2 : List ItemT) (y3 : Int) : St := ⟨[(1, .c (.one (.pt 1 0))), (3, .c (.one (.v (.int .i64 y0)))), (20, .c (.one (.v (.bool y1))))], [(1, ⟨.store, [.ro .item y2, .v (.int .i64 y3)]⟩)], []⟩
noncomputable def f102c : Code := (Try.f102.body).getD .skip
def f102k : Nat → Kp := kat [⟨[1], [], [], []⟩, ⟨[1, 15], [], [], []⟩, ⟨[2], [], [], []⟩, ⟨[1, 3], [], [], []⟩, ⟨[1, 3, 20], [], [], []⟩, ⟨[1, 3], [], [], []⟩, ⟨[1, 3, 4], [], [], []⟩, ⟨[1, 3, 4, 58], [], [], []⟩, ⟨[2], [], [], []⟩, ⟨[1, 3, 4, 5], [], [], []⟩, ⟨[1, 3, 4, 5, 61], [], [], []⟩, ⟨[1, 3, 4, 5], [], [], []⟩, ⟨[1, 3, 4, 5, 72], [], [], []⟩, ⟨[2], [], [], []⟩, ⟨[2], [], [], []⟩]
noncomputable def f102e : Env := tab.env [(40, s40), (111, s111)]
noncomputable def f102L0 {R : Type} (n : Nat) (x0 : Option R) (x1 : Int → Bool → Option R) (vs3 : Int) (vb1_0 : List ItemT) (vb1_1 : Int) (vb4_0 : ByteArray) (vb4_1 : ByteArray) (vb4_2 : Int) (vb4_3 : Int) (vb4_4 : List MetricT) (vb4_5 : Int) (vb4_6 : Int) (vb4_7 : Int) (vb4_8 : Int) (vb4_9 : List NoteT) (vb4_10 : Int) : Nat → Int → Option R
  | 0, _ => none
  | m + 1, vs5 =>
    (cond (decide (vs5 < vs3))
   (cond ((decide ((0 : Int) ≤ vs5)) && (decide (vs5 < (vb1_0.length : Int))))
    (cond ((ItemT.ver (atI (t := .item) vb1_0 (Int.toNat vs5))) == vb4_10)
     (x0)
     (f102L0 n x0 x1 vs3 vb1_0 vb1_1 vb4_0 vb4_1 vb4_2 vb4_3 vb4_4 vb4_5 vb4_6 vb4_7 vb4_8 vb4_9 vb4_10 m (IntKind.wrap .i64 (vs5 + (1 : Int)))))
    none)
   (x1 vs5 (decide (vs5 < vs3))))
theorem f102L0_b {R : Type} (n : Nat) (k' : Ex → St → Option R) (vs3 : Int) (vs5 : Int) (vb1_0 : List ItemT) (vb1_1 : Int) (vb4_0 : ByteArray) (vb4_1 : ByteArray) (vb4_2 : Int) (vb4_3 : Int) (vb4_4 : List MetricT) (vb4_5 : Int) (vb4_6 : Int) (vb4_7 : Int) (vb4_8 : Int) (vb4_9 : List NoteT) (vb4_10 : Int) : ev f102e f102k n (cAt [1,1,0,1,0,0,1,0,0,1,1,1,0,0] f102c) (f102S0 vs3 vs5 vb1_0 vb1_1 vb4_0 vb4_1 vb4_2 vb4_3 vb4_4 vb4_5 vb4_6 vb4_7 vb4_8 vb4_9 vb4_10) k' =
    (cond (decide (vs5 < vs3))
  (cond ((decide ((0 : Int) ≤ vs5)) && (decide (vs5 < (vb1_0.length : Int))))
   (cond ((ItemT.ver (atI (t := .item) vb1_0 (Int.toNat vs5))) == vb4_10)
    (k' .ret f102S1)
    (k' .normal (f102S0 vs3 (IntKind.wrap .i64 (vs5 + (1 : Int))) vb1_0 vb1_1 vb4_0 vb4_1 vb4_2 vb4_3 vb4_4 vb4_5 vb4_6 vb4_7 vb4_8 vb4_9 vb4_10)))
   none)
  (k' (.exit 2) (f102S2 vs3 vs5 (decide (vs5 < vs3)) vb1_0 vb1_1 vb4_0 vb4_1 vb4_2 vb4_3 vb4_4 vb4_5 vb4_6 vb4_7 vb4_8 vb4_9 vb4_10))) := by kernel_rfl
theorem f102L0_eq {R : Type} (n : Nat) (k' : Ex → St → Option R) (vs3 : Int) (vb1_0 : List ItemT) (vb1_1 : Int) (vb4_0 : ByteArray) (vb4_1 : ByteArray) (vb4_2 : Int) (vb4_3 : Int) (vb4_4 : List MetricT) (vb4_5 : Int) (vb4_6 : Int) (vb4_7 : Int) (vb4_8 : Int) (vb4_9 : List NoteT) (vb4_10 : Int) : ∀ (m : Nat) (vs5 : Int), iter (fun st k => ev f102e f102k n (cAt [1,1,0,1,0,0,1,0,0,1,1,1,0,0] f102c) st k) m (f102S0 vs3 vs5 vb1_0 vb1_1 vb4_0 vb4_1 vb4_2 vb4_3 vb4_4 vb4_5 vb4_6 vb4_7 vb4_8 vb4_9 vb4_10) k' = f102L0 n (k' .ret f102S1) (fun (xvs5 : Int) (xvs61 : Bool) => k' (.exit 2) (f102S2 vs3 xvs5 xvs61 vb1_0 vb1_1 vb4_0 vb4_1 vb4_2 vb4_3 vb4_4 vb4_5 vb4_6 vb4_7 vb4_8 vb4_9 vb4_10)) vs3 vb1_0 vb1_1 vb4_0 vb4_1 vb4_2 vb4_3 vb4_4 vb4_5 vb4_6 vb4_7 vb4_8 vb4_9 vb4_10 m vs5 := by
  intro m; induction m with
  | zero => intros; rfl
  | succ m ih =>
    intro vs5
    simp only [iter]
    rw [f102L0_b]
    simp only [ih, f102L0]

noncomputable def f102K0 {R : Type} (n : Nat) (k' : Ex → St → Option R) : Ex → St → Option R := (blockK 2 (blockK 1 (seqK f102e f102k n (cAt [1,1,0,1,0,0,1,1] f102c) k')))
theorem f102K0_x0 {R : Type} (n : Nat) (k' : Ex → St → Option R)  : f102K0 n k' .ret f102S1 =
    (k' .ret f102S1) := by kernel_rfl
theorem f102K0_x1 {R : Type} (n : Nat) (k' : Ex → St → Option R) (vs3 : Int) (vb1_0 : List ItemT) (vb1_1 : Int) (vb4_0 : ByteArray) (vb4_1 : ByteArray) (vb4_2 : Int) (vb4_3 : Int) (vb4_4 : List MetricT) (vb4_5 : Int) (vb4_6 : Int) (vb4_7 : Int) (vb4_8 : Int) (vb4_9 : List NoteT) (vb4_10 : Int) (xvs5 : Int) (xvs61 : Bool) : f102K0 n k' (.exit 2) (f102S2 vs3 xvs5 xvs61 vb1_0 vb1_1 vb4_0 vb4_1 vb4_2 vb4_3 vb4_4 vb4_5 vb4_6 vb4_7 vb4_8 vb4_9 vb4_10) =
    (k' .normal (f102S3 (IntKind.wrap .i64 (vs3 + (1 : Int))) vb1_0 vb1_1)) := by kernel_rfl

noncomputable def f102L1 {R : Type} (n : Nat) (x0 : Option R) (x1 : Int → Bool → Option R) (vb1_0 : List ItemT) (vb1_1 : Int) : Nat → Int → Option R
  | 0, _ => none
  | m + 1, vs3 =>
    (cond (decide (vs3 < (vb1_0.length : Int)))
   (cond ((decide ((0 : Int) ≤ vs3)) && (decide (vs3 < (vb1_0.length : Int))))
    (cond (sm_order (ItemT.order (atI (t := .item) vb1_0 (Int.toNat vs3))))
     (cond (!(orderOk (ItemT.order (atI (t := .item) vb1_0 (Int.toNat vs3)))))
      (x0)
      (cond (!(inR (ItemT.ver (atI (t := .item) vb1_0 (Int.toNat vs3))) (1 : Int) (IntKind.wrap .i64 (vb1_1 - (1 : Int)))))
       (x0)
       (cond (decide (vs3 > (0 : Int)))
        (cond ((decide ((0 : Int) ≤ (IntKind.wrap .i64 (vs3 - (1 : Int))))) && (decide ((IntKind.wrap .i64 (vs3 - (1 : Int))) < (vb1_0.length : Int))))
         (cond (!(sLt (OrderT.name (ItemT.order (atI (t := .item) vb1_0 (Int.toNat (IntKind.wrap .i64 (vs3 - (1 : Int))))))) (OrderT.name (ItemT.order (atI (t := .item) vb1_0 (Int.toNat vs3))))))
          (x0)
          (f102L0 n (x0) (fun (xvs5 : Int) (xvs61 : Bool) =>
           (f102L1 n x0 x1 vb1_0 vb1_1 m (IntKind.wrap .i64 (vs3 + (1 : Int))))) vs3 vb1_0 vb1_1 (OrderT.name (ItemT.order (atI (t := .item) vb1_0 (Int.toNat vs3)))) (OrderT.target (ItemT.order (atI (t := .item) vb1_0 (Int.toNat vs3)))) (OrderT.low (ItemT.order (atI (t := .item) vb1_0 (Int.toNat vs3)))) (OrderT.high (ItemT.order (atI (t := .item) vb1_0 (Int.toNat vs3)))) (OrderT.metrics (ItemT.order (atI (t := .item) vb1_0 (Int.toNat vs3)))) (PaceT.up (OrderT.pace (ItemT.order (atI (t := .item) vb1_0 (Int.toNat vs3))))) (PaceT.down (OrderT.pace (ItemT.order (atI (t := .item) vb1_0 (Int.toNat vs3))))) (PaceT.upSpan (OrderT.pace (ItemT.order (atI (t := .item) vb1_0 (Int.toNat vs3))))) (PaceT.downSpan (OrderT.pace (ItemT.order (atI (t := .item) vb1_0 (Int.toNat vs3))))) (OrderT.notes (ItemT.order (atI (t := .item) vb1_0 (Int.toNat vs3)))) (ItemT.ver (atI (t := .item) vb1_0 (Int.toNat vs3))) n (0 : Int)))
         none)
        (f102L0 n (x0) (fun (xvs5 : Int) (xvs61 : Bool) =>
         (f102L1 n x0 x1 vb1_0 vb1_1 m (IntKind.wrap .i64 (vs3 + (1 : Int))))) vs3 vb1_0 vb1_1 (OrderT.name (ItemT.order (atI (t := .item) vb1_0 (Int.toNat vs3)))) (OrderT.target (ItemT.order (atI (t := .item) vb1_0 (Int.toNat vs3)))) (OrderT.low (ItemT.order (atI (t := .item) vb1_0 (Int.toNat vs3)))) (OrderT.high (ItemT.order (atI (t := .item) vb1_0 (Int.toNat vs3)))) (OrderT.metrics (ItemT.order (atI (t := .item) vb1_0 (Int.toNat vs3)))) (PaceT.up (OrderT.pace (ItemT.order (atI (t := .item) vb1_0 (Int.toNat vs3))))) (PaceT.down (OrderT.pace (ItemT.order (atI (t := .item) vb1_0 (Int.toNat vs3))))) (PaceT.upSpan (OrderT.pace (ItemT.order (atI (t := .item) vb1_0 (Int.toNat vs3))))) (PaceT.downSpan (OrderT.pace (ItemT.order (atI (t := .item) vb1_0 (Int.toNat vs3))))) (OrderT.notes (ItemT.order (atI (t := .item) vb1_0 (Int.toNat vs3)))) (ItemT.ver (atI (t := .item) vb1_0 (Int.toNat vs3))) n (0 : Int)))))
     none)
    none)
   (x1 vs3 (decide (vs3 < (vb1_0.length : Int)))))
theorem f102L1_b {R : Type} (n : Nat) (k' : Ex → St → Option R) (vs3 : Int) (vb1_0 : List ItemT) (vb1_1 : Int) : ev f102e f102k n (cAt [1,1,0,1,0,0] f102c) (f102S3 vs3 vb1_0 vb1_1) k' =
    (cond (decide (vs3 < (vb1_0.length : Int)))
  (cond ((decide ((0 : Int) ≤ vs3)) && (decide (vs3 < (vb1_0.length : Int))))
   (cond (sm_order (ItemT.order (atI (t := .item) vb1_0 (Int.toNat vs3))))
    (cond (!(orderOk (ItemT.order (atI (t := .item) vb1_0 (Int.toNat vs3)))))
     (k' .ret f102S1)
     (cond (!(inR (ItemT.ver (atI (t := .item) vb1_0 (Int.toNat vs3))) (1 : Int) (IntKind.wrap .i64 (vb1_1 - (1 : Int)))))
      (k' .ret f102S1)
      (cond (decide (vs3 > (0 : Int)))
       (cond ((decide ((0 : Int) ≤ (IntKind.wrap .i64 (vs3 - (1 : Int))))) && (decide ((IntKind.wrap .i64 (vs3 - (1 : Int))) < (vb1_0.length : Int))))
        (cond (!(sLt (OrderT.name (ItemT.order (atI (t := .item) vb1_0 (Int.toNat (IntKind.wrap .i64 (vs3 - (1 : Int))))))) (OrderT.name (ItemT.order (atI (t := .item) vb1_0 (Int.toNat vs3))))))
         (k' .ret f102S1)
         (f102L0 n (k' .ret f102S1) (fun (xvs5 : Int) (xvs61 : Bool) =>
          (k' .normal (f102S3 (IntKind.wrap .i64 (vs3 + (1 : Int))) vb1_0 vb1_1))) vs3 vb1_0 vb1_1 (OrderT.name (ItemT.order (atI (t := .item) vb1_0 (Int.toNat vs3)))) (OrderT.target (ItemT.order (atI (t := .item) vb1_0 (Int.toNat vs3)))) (OrderT.low (ItemT.order (atI (t := .item) vb1_0 (Int.toNat vs3)))) (OrderT.high (ItemT.order (atI (t := .item) vb1_0 (Int.toNat vs3)))) (OrderT.metrics (ItemT.order (atI (t := .item) vb1_0 (Int.toNat vs3)))) (PaceT.up (OrderT.pace (ItemT.order (atI (t := .item) vb1_0 (Int.toNat vs3))))) (PaceT.down (OrderT.pace (ItemT.order (atI (t := .item) vb1_0 (Int.toNat vs3))))) (PaceT.upSpan (OrderT.pace (ItemT.order (atI (t := .item) vb1_0 (Int.toNat vs3))))) (PaceT.downSpan (OrderT.pace (ItemT.order (atI (t := .item) vb1_0 (Int.toNat vs3))))) (OrderT.notes (ItemT.order (atI (t := .item) vb1_0 (Int.toNat vs3)))) (ItemT.ver (atI (t := .item) vb1_0 (Int.toNat vs3))) n (0 : Int)))
        none)
       (f102L0 n (k' .ret f102S1) (fun (xvs5 : Int) (xvs61 : Bool) =>
        (k' .normal (f102S3 (IntKind.wrap .i64 (vs3 + (1 : Int))) vb1_0 vb1_1))) vs3 vb1_0 vb1_1 (OrderT.name (ItemT.order (atI (t := .item) vb1_0 (Int.toNat vs3)))) (OrderT.target (ItemT.order (atI (t := .item) vb1_0 (Int.toNat vs3)))) (OrderT.low (ItemT.order (atI (t := .item) vb1_0 (Int.toNat vs3)))) (OrderT.high (ItemT.order (atI (t := .item) vb1_0 (Int.toNat vs3)))) (OrderT.metrics (ItemT.order (atI (t := .item) vb1_0 (Int.toNat vs3)))) (PaceT.up (OrderT.pace (ItemT.order (atI (t := .item) vb1_0 (Int.toNat vs3))))) (PaceT.down (OrderT.pace (ItemT.order (atI (t := .item) vb1_0 (Int.toNat vs3))))) (PaceT.upSpan (OrderT.pace (ItemT.order (atI (t := .item) vb1_0 (Int.toNat vs3))))) (PaceT.downSpan (OrderT.pace (ItemT.order (atI (t := .item) vb1_0 (Int.toNat vs3))))) (OrderT.notes (ItemT.order (atI (t := .item) vb1_0 (Int.toNat vs3)))) (ItemT.ver (atI (t := .item) vb1_0 (Int.toNat vs3))) n (0 : Int)))))
    none)
   none)
  (k' (.exit 0) (f102S4 vs3 (decide (vs3 < (vb1_0.length : Int))) vb1_0 vb1_1))) := by
  refine Eq.trans (b := (cond (decide (vs3 < (vb1_0.length : Int)))
  (cond ((decide ((0 : Int) ≤ vs3)) && (decide (vs3 < (vb1_0.length : Int))))
   (cond (sm_order (ItemT.order (atI (t := .item) vb1_0 (Int.toNat vs3))))
    (cond (!(orderOk (ItemT.order (atI (t := .item) vb1_0 (Int.toNat vs3)))))
     (k' .ret f102S1)
     (cond (!(inR (ItemT.ver (atI (t := .item) vb1_0 (Int.toNat vs3))) (1 : Int) (IntKind.wrap .i64 (vb1_1 - (1 : Int)))))
      (k' .ret f102S1)
      (cond (decide (vs3 > (0 : Int)))
       (cond ((decide ((0 : Int) ≤ (IntKind.wrap .i64 (vs3 - (1 : Int))))) && (decide ((IntKind.wrap .i64 (vs3 - (1 : Int))) < (vb1_0.length : Int))))
        (cond (!(sLt (OrderT.name (ItemT.order (atI (t := .item) vb1_0 (Int.toNat (IntKind.wrap .i64 (vs3 - (1 : Int))))))) (OrderT.name (ItemT.order (atI (t := .item) vb1_0 (Int.toNat vs3))))))
         (k' .ret f102S1)
         (iter (fun st k => ev f102e f102k n (cAt [1,1,0,1,0,0,1,0,0,1,1,1,0,0] f102c) st k) n (f102S0 vs3 (0 : Int) vb1_0 vb1_1 (OrderT.name (ItemT.order (atI (t := .item) vb1_0 (Int.toNat vs3)))) (OrderT.target (ItemT.order (atI (t := .item) vb1_0 (Int.toNat vs3)))) (OrderT.low (ItemT.order (atI (t := .item) vb1_0 (Int.toNat vs3)))) (OrderT.high (ItemT.order (atI (t := .item) vb1_0 (Int.toNat vs3)))) (OrderT.metrics (ItemT.order (atI (t := .item) vb1_0 (Int.toNat vs3)))) (PaceT.up (OrderT.pace (ItemT.order (atI (t := .item) vb1_0 (Int.toNat vs3))))) (PaceT.down (OrderT.pace (ItemT.order (atI (t := .item) vb1_0 (Int.toNat vs3))))) (PaceT.upSpan (OrderT.pace (ItemT.order (atI (t := .item) vb1_0 (Int.toNat vs3))))) (PaceT.downSpan (OrderT.pace (ItemT.order (atI (t := .item) vb1_0 (Int.toNat vs3))))) (OrderT.notes (ItemT.order (atI (t := .item) vb1_0 (Int.toNat vs3)))) (ItemT.ver (atI (t := .item) vb1_0 (Int.toNat vs3)))) (f102K0 n k')))
        none)
       (iter (fun st k => ev f102e f102k n (cAt [1,1,0,1,0,0,1,0,0,1,1,1,0,0] f102c) st k) n (f102S0 vs3 (0 : Int) vb1_0 vb1_1 (OrderT.name (ItemT.order (atI (t := .item) vb1_0 (Int.toNat vs3)))) (OrderT.target (ItemT.order (atI (t := .item) vb1_0 (Int.toNat vs3)))) (OrderT.low (ItemT.order (atI (t := .item) vb1_0 (Int.toNat vs3)))) (OrderT.high (ItemT.order (atI (t := .item) vb1_0 (Int.toNat vs3)))) (OrderT.metrics (ItemT.order (atI (t := .item) vb1_0 (Int.toNat vs3)))) (PaceT.up (OrderT.pace (ItemT.order (atI (t := .item) vb1_0 (Int.toNat vs3))))) (PaceT.down (OrderT.pace (ItemT.order (atI (t := .item) vb1_0 (Int.toNat vs3))))) (PaceT.upSpan (OrderT.pace (ItemT.order (atI (t := .item) vb1_0 (Int.toNat vs3))))) (PaceT.downSpan (OrderT.pace (ItemT.order (atI (t := .item) vb1_0 (Int.toNat vs3))))) (OrderT.notes (ItemT.order (atI (t := .item) vb1_0 (Int.toNat vs3)))) (ItemT.ver (atI (t := .item) vb1_0 (Int.toNat vs3)))) (f102K0 n k')))))
    none)
   none)
  (k' (.exit 0) (f102S4 vs3 (decide (vs3 < (vb1_0.length : Int))) vb1_0 vb1_1)))) (by kernel_rfl) ?_
  simp only [f102L0_eq, f102K0_x0, f102K0_x1]
theorem f102L1_eq {R : Type} (n : Nat) (k' : Ex → St → Option R) (vb1_0 : List ItemT) (vb1_1 : Int) : ∀ (m : Nat) (vs3 : Int), iter (fun st k => ev f102e f102k n (cAt [1,1,0,1,0,0] f102c) st k) m (f102S3 vs3 vb1_0 vb1_1) k' = f102L1 n (k' .ret f102S1) (fun (xvs3 : Int) (xvs20 : Bool) => k' (.exit 0) (f102S4 xvs3 xvs20 vb1_0 vb1_1)) vb1_0 vb1_1 m vs3 := by
  intro m; induction m with
  | zero => intros; rfl
  | succ m ih =>
    intro vs3
    simp only [iter]
    rw [f102L1_b]
    simp only [ih, f102L1]

noncomputable def f102K1 {R : Type} (n : Nat) (k' : Ex → St → Option R) : Ex → St → Option R := (blockK 0 (seqK f102e f102k n (cAt [1,1,1] f102c) k'))
theorem f102K1_x0 {R : Type} (n : Nat) (k : List Dt → Option R) (a0 : StoreT)  : f102K1 n (exitK f102e [.ro] [false] true [.tmp 2] [4] [.d .store a0] k) .ret f102S1 =
    (k [.d .bool false]) := by kernel_rfl
theorem f102K1_x1 {R : Type} (n : Nat) (k : List Dt → Option R) (a0 : StoreT) (vb1_0 : List ItemT) (vb1_1 : Int) (xvs3 : Int) (xvs20 : Bool) : f102K1 n (exitK f102e [.ro] [false] true [.tmp 2] [4] [.d .store a0] k) (.exit 0) (f102S4 xvs3 xvs20 vb1_0 vb1_1) =
    (k [.d .bool true]) := by kernel_rfl

theorem f102_run {R : Type} (n : Nat) (k : List Dt → Option R) (a0 : StoreT) : evFn f102e f102k n f102c [.ro] [false] true [.tmp 2] [4] [.d .store a0] k =
    (cond (!(inR (StoreT.next a0) (1 : Int) (100000 : Int)))
  (k [.d .bool false])
  (cond (decide (((StoreT.items a0).length : Int) > (6 : Int)))
   (k [.d .bool false])
   (f102L1 n (k [.d .bool false]) (fun (xvs3 : Int) (xvs20 : Bool) =>
    (k [.d .bool true])) (StoreT.items a0) (StoreT.next a0) n (0 : Int)))) := by
  refine Eq.trans (b := (cond (!(inR (StoreT.next a0) (1 : Int) (100000 : Int)))
  (k [.d .bool false])
  (cond (decide (((StoreT.items a0).length : Int) > (6 : Int)))
   (k [.d .bool false])
   (iter (fun st k => ev f102e f102k n (cAt [1,1,0,1,0,0] f102c) st k) n (f102S3 (0 : Int) (StoreT.items a0) (StoreT.next a0)) (f102K1 n (exitK f102e [.ro] [false] true [.tmp 2] [4] [.d .store a0] k)))))) (by kernel_rfl) ?_
  simp only [f102L1_eq, f102K1_x0, f102K1_x1]
theorem f102_spec (a0 : StoreT) (hg : sm_store a0 = true) : ∃ keep rounds, ∀ {R : Type} (k : List Dt → Option R), evFn f102e keep rounds f102c [.ro] [false] true [.tmp 2] [4] [.d .store a0] k = k [.d .bool (storeOk a0)] := by
  simp only [sm_store, Bool.and_eq_true] at hg
  have hl := smL_len hg.1
  refine ⟨f102k, a0.items.length + 1, fun {R} k => ?_⟩
  rw [f102_run]
  unfold storeOk
  cases hb : inR a0.next 1 100000
  · cases decide ((a0.items.length : Int) > 6) <;> rfl
  rw [inR_iff] at hb
  by_cases h6 : (a0.items.length : Int) > 6
  · rw [decide_eq_true h6, decide_eq_false (show ¬ ((a0.items.length : Int) ≤ 6) by omega)]; rfl
  rw [decide_eq_false h6, decide_eq_true (show (a0.items.length : Int) ≤ 6 by omega)]
  simp only [Bool.not_true, cond_false, Bool.true_and]
  refine Eq.trans (loop_idx (n := a0.items.length) (F := fun m i => f102L1 (a0.items.length + 1) _ _ a0.items a0.next m i) (p := itemC a0.items a0.next) (good := k [.d .bool true]) (bad := k [.d .bool false])
    (fun m j hj => ?_) (fun m => by simp only [f102L1, idxE, cond_false]) (a0.items.length) 0 (a0.items.length + 1) (by omega) (by omega)) ?_
  · obtain ⟨h1, h0, hw, ht⟩ := idx hj (by omega)
    have hx := smL_at (t := .item) hg.1 hj
    simp only [sm_item, Bool.and_eq_true] at hx
    have hle : decide ((j : Int) ≤ (a0.items.length : Int)) = true := decide_eq_true (by omega)
    have hgl : gLenW (a0.items.take j) = true := gLenW_of (by rw [List.length_take]; omega)
    have inner : ∀ good : Option R, f102L0 (a0.items.length + 1) (k [.d .bool false]) (fun _ _ => good) (j : Int) a0.items a0.next (atI (t := .item) a0.items j).order.name (atI (t := .item) a0.items j).order.target (atI (t := .item) a0.items j).order.low (atI (t := .item) a0.items j).order.high (atI (t := .item) a0.items j).order.metrics (atI (t := .item) a0.items j).order.pace.up (atI (t := .item) a0.items j).order.pace.down (atI (t := .item) a0.items j).order.pace.upSpan (atI (t := .item) a0.items j).order.pace.downSpan (atI (t := .item) a0.items j).order.notes (atI (t := .item) a0.items j).ver (a0.items.length + 1) (0 : Int) = cond (!(verIn (a0.items.take j) (atI (t := .item) a0.items j))) good (k [.d .bool false]) := by
      intro good
      refine Eq.trans (loop_idx (n := j) (F := fun m i => f102L0 (a0.items.length + 1) (k [.d .bool false]) (fun _ _ => good) (j : Int) a0.items a0.next (atI (t := .item) a0.items j).order.name (atI (t := .item) a0.items j).order.target (atI (t := .item) a0.items j).order.low (atI (t := .item) a0.items j).order.high (atI (t := .item) a0.items j).order.metrics (atI (t := .item) a0.items j).order.pace.up (atI (t := .item) a0.items j).order.pace.down (atI (t := .item) a0.items j).order.pace.upSpan (atI (t := .item) a0.items j).order.pace.downSpan (atI (t := .item) a0.items j).order.notes (atI (t := .item) a0.items j).ver m i) (p := fun q => !(verIs (atI (t := .item) a0.items q) (atI (t := .item) a0.items j))) (good := good) (bad := k [.d .bool false])
        (fun m q hq => ?_) (fun m => ?_) j 0 (a0.items.length + 1) (by omega) (by omega)) ?_
      · obtain ⟨g1, g0, gw, gt⟩ := idx hq (by omega)
        obtain ⟨g2, _, _, _⟩ := idx (show q < a0.items.length by omega) (by omega)
        simp only [f102L0, g1, g0, gw, gt, g2, Bool.and_self, cond_true]
        show cond (verIs _ _) _ _ = _
        cases verIs (atI (t := .item) a0.items q) (atI (t := .item) a0.items j) <;> rfl
      · have : decide ((j : Int) < (j : Int)) = false := decide_eq_false (by omega)
        simp only [f102L0, this, cond_false]
      · rw [allN_take (t := .item) (fun x => verIs x (atI (t := .item) a0.items j)) a0.items j (by omega)]; rfl
    simp only [f102L1, h1, h0, hw, ht, hx.1, inner, wrap_id (x := a0.next - 1) (by omega) (by omega), Bool.and_self, cond_true]
    unfold itemC
    by_cases hz : (j : Int) > 0
    · obtain ⟨h2, h3, _, h5⟩ := idx (show j - 1 < a0.items.length by omega) (by omega)
      simp only [hz, decide_true, cond_true, idxM hj (by omega) (by omega), h2, h3, h5, Bool.and_self]
      cases orderOk (atI (t := .item) a0.items j).order <;> cases inR (atI (t := .item) a0.items j).ver 1 (a0.next - 1) <;> cases sLt (atI (t := .item) a0.items (j - 1)).order.name (atI (t := .item) a0.items j).order.name <;> cases verIn (a0.items.take j) (atI (t := .item) a0.items j) <;> rfl
    · simp only [hz, decide_false, cond_false]
      cases orderOk (atI (t := .item) a0.items j).order <;> cases inR (atI (t := .item) a0.items j).ver 1 (a0.next - 1) <;> cases verIn (a0.items.take j) (atI (t := .item) a0.items j) <;> rfl
  · cases allN (itemC a0.items a0.next) 0 a0.items.length <;> rfl

noncomputable def q102 : List Dt → Option (Bool × List Dt)
  | [.d .store a0] => some ((sm_store a0), [.d .bool (storeOk a0)])
  | _ => none
noncomputable def s102 : Gm.Spec := Gm.Spec.of [.ro] [false] true q102
theorem good102 : Gm.Good Try.prog (102, s102) := by
  have hl : ∀ x ∈ [(40, s40), (111, s111)], Gm.Good Try.prog x := List.forall_mem_cons.2 ⟨good40, List.forall_mem_cons.2 ⟨good111, List.forall_mem_nil _⟩⟩
  refine ⟨⟨spec_ok (tab_ok.env hl) (tab.natl hl) Try.func102 (by kernel_rfl : Try.f102.body = some f102c) [4] (by kernel_rfl) ?_, _, Try.func102, by kernel_rfl, of_decide_eq_true (by kernel_rfl)⟩, Gm.Spec.of_natl _ _ _ _⟩
  intro ds outs h
  unfold q102 at h
  split at h
  · simp only [Option.some.injEq, Prod.mk.injEq] at h; obtain ⟨hg, h⟩ := h; cases h; exact f102_spec _ hg
  · cases h
end Go.Proofs.Ytklmnopgogcbhaa

/- x -/
namespace Go.Proofs.Ytklmnopgogcbhaa
open Go Go.Gm
/-! ### loop.example/g00465/spec.l6Copy -/
noncomputable def f103c : Code := (Try.f103.body).getD .skip
def f103k : Nat → Kp := kat [⟨[1, 2], [], [], []⟩, ⟨[1, 2], [], [], []⟩, ⟨[1, 2], [], [], []⟩, ⟨[2], [], [], []⟩]
noncomputable def f103e : Env := tab.env []
theorem f103_run {R : Type} (n : Nat) (k : List Dt → Option R) (a0 : OrderT) : evFn f103e f103k n f103c [.ro] [false] true [.cell 2 88] [88] [.d .order a0] k =
    (cond (Nat.ble (0 + (OrderT.metrics a0).length) LIM)
  (cond (Nat.ble (0 + (OrderT.notes a0).length) LIM)
   (k [.d .order (⟨(OrderT.name a0), (OrderT.target a0), (OrderT.low a0), (OrderT.high a0), (([] : List MetricT) ++ (OrderT.metrics a0)), (OrderT.pace a0), (([] : List NoteT) ++ (OrderT.notes a0))⟩ : OrderT)])
   none)
  none) := by kernel_rfl
theorem f103_spec (a0 : OrderT) (hg : sm_order a0 = true) : ∃ keep rounds, ∀ {R : Type} (k : List Dt → Option R), evFn f103e keep rounds f103c [.ro] [false] true [.cell 2 88] [88] [.d .order a0] k = k [.d .order a0] := by
  simp only [sm_order, Bool.and_eq_true] at hg
  obtain ⟨_, _, _, _, hm, _, hno⟩ := hg
  have h1 := limLe (smL_len hm)
  have h2 := limLe (smL_len hno)
  refine ⟨f103k, 0, fun {R} k => ?_⟩
  rw [f103_run]
  simp only [Nat.zero_add, List.nil_append, h1, h2, cond_true]

noncomputable def q103 : List Dt → Option (Bool × List Dt)
  | [.d .order a0] => some ((sm_order a0), [.d .order a0])
  | _ => none
noncomputable def s103 : Gm.Spec := Gm.Spec.of [.ro] [false] true q103
theorem good103 : Gm.Good Try.prog (103, s103) := by
  have hl : ∀ x ∈ ([] : List (Nat × Gm.Spec)), Gm.Good Try.prog x := fun _ h => by cases h
  refine ⟨⟨spec_ok (tab_ok.env hl) (tab.natl hl) Try.func103 (by kernel_rfl : Try.f103.body = some f103c) [88] (by kernel_rfl) ?_, _, Try.func103, by kernel_rfl, of_decide_eq_true (by kernel_rfl)⟩, Gm.Spec.of_natl _ _ _ _⟩
  intro ds outs h
  unfold q103 at h
  split at h
  · simp only [Option.some.injEq, Prod.mk.injEq] at h; obtain ⟨hg, h⟩ := h; cases h; exact f103_spec _ hg
  · cases h
end Go.Proofs.Ytklmnopgogcbhaa

/- x -/
namespace Go.Proofs.Ytklmnopgogcbhaa
open Go Go.Gm
/-! ### loop.example/g00465/spec.StoreNew -/
noncomputable def f89c : Code := (Try.f89.body).getD .skip
def f89k : Nat → Kp := kat [⟨[0], [], [], []⟩, ⟨[0], [], [], []⟩]
noncomputable def f89e : Env := tab.env []
theorem f89_run {R : Type} (n : Nat) (k : List Dt → Option R)  : evFn f89e f89k n f89c [] [false] true [.cell 0 43] [43] [] k =
    (k [.d .store (⟨([] : List ItemT), (1 : Int)⟩ : StoreT)]) := by kernel_rfl
theorem f89_spec  : ∃ keep rounds, ∀ {R : Type} (k : List Dt → Option R), evFn f89e keep rounds f89c [] [false] true [.cell 0 43] [43] [] k = k [.d .store storeNew] := by
  exact ⟨f89k, 0, fun k => f89_run 0 k⟩

noncomputable def q89 : List Dt → Option (Bool × List Dt)
  | [] => some (true, [.d .store storeNew])
  | _ => none
noncomputable def s89 : Gm.Spec := Gm.Spec.of [] [false] true q89
theorem good89 : Gm.Good Try.prog (89, s89) := by
  have hl : ∀ x ∈ ([] : List (Nat × Gm.Spec)), Gm.Good Try.prog x := fun _ h => by cases h
  refine ⟨⟨spec_ok (tab_ok.env hl) (tab.natl hl) Try.func89 (by kernel_rfl : Try.f89.body = some f89c) [43] (by kernel_rfl) ?_, _, Try.func89, by kernel_rfl, of_decide_eq_true (by kernel_rfl)⟩, Gm.Spec.of_natl _ _ _ _⟩
  intro ds outs h
  unfold q89 at h
  split at h
  · cases h; exact f89_spec 
  · cases h
/-! ### loop.example/g00465/spec.l13Copy -/
noncomputable def f100S0 (y0 : Int) (y1 : List ItemT) (y2 : Int) (y4 : Int) (y5 : List ItemT) : St := ⟨[(1, .c (.one (.pt 1 0))), (2, .c (.one (.pt 2 0))), (3, .c (.one (.pt 3 0))), (4, .c (.one (.v (.int .i64 y0))))], [(1, ⟨.store, [.ro .item y1, .v (.int .i64 y2)]⟩), (2, ⟨.store, [.nl, .v (.int .i64 (0 : Int))]⟩), (3, ⟨.store, [.h 192 0 0 [], .v (.int .i64 y4)]⟩)], [(192, .live ⟨.item, .deep, 0, [], y5⟩)]⟩
noncomputable def f100S1 (y0 : Int) (y1 : Bool) (y2 : List ItemT) (y3 : Int) (y5 : Int) (y6 : List ItemT) : St := ⟨[(1, .c (.one (.pt 1 0))), (2, .c (.one (.pt 2 0))), (3, .c (.one (.pt 3 0))), (4, .c (.one (.v (.int .i64 y0)))), (12, .c (.one (.v (.bool y1))))], [(1, ⟨.store, [.ro .item y2, .v (.int .i64 y3)]⟩), (2, ⟨.store, [.nl, .v (.int .i64 (0 : Int))]⟩), (3, ⟨.store, [.h 192 0 0 [], .v (.int .i64 y5)]⟩)], [(192, .live ⟨.item, .deep, 0, [], y6⟩)]⟩
noncomputable def f100c : Code := (Try.f100.body).getD .skip
def f100k : Nat → Kp := kat [⟨[1, 2], [], [], []⟩, ⟨[1, 2, 3], [], [], []⟩, ⟨[1, 2, 3, 4], [⟨true, false, 3, 0, .item⟩], [], []⟩, ⟨[1, 2, 3, 4, 12], [], [], []⟩, ⟨[1, 2, 3, 4], [], [], []⟩, ⟨[1, 2, 3, 4], [], [], []⟩, ⟨[2], [], [], []⟩]
noncomputable def f100e : Env := tab.env [(103, s103)]
noncomputable def f100L0 {R : Type} (n : Nat) (x0 : Int → Bool → (List ItemT) → Option R) (vb1_0 : List ItemT) (vb1_1 : Int) (vb3_1 : Int) : Nat → Int → (List ItemT) → Option R
  | 0, _, _ => none
  | m + 1, vs4, vr192 =>
    (cond (decide (vs4 < (vb1_0.length : Int)))
   (cond ((decide ((0 : Int) ≤ vs4)) && (decide (vs4 < (vb1_0.length : Int))))
    (cond (sm_order (ItemT.order (atI (t := .item) vb1_0 (Int.toNat vs4))))
     (cond ((decide ((0 : Int) ≤ vs4)) && (decide (vs4 < (vb1_0.length : Int))))
      (cond (Nat.ble (vr192.length + 1) LIM)
       (f100L0 n x0 vb1_0 vb1_1 vb3_1 m (IntKind.wrap .i64 (vs4 + (1 : Int))) (vr192 ++ ([(atI (t := .item) vb1_0 (Int.toNat vs4))] : List ItemT)))
       none)
      none)
     none)
    none)
   (x0 vs4 (decide (vs4 < (vb1_0.length : Int))) vr192))
theorem f100L0_b {R : Type} (n : Nat) (k' : Ex → St → Option R) (vs4 : Int) (vb1_0 : List ItemT) (vb1_1 : Int) (vb3_1 : Int) (vr192 : List ItemT) : ev f100e f100k n (cAt [1,1,0,1,0,0] f100c) (f100S0 vs4 vb1_0 vb1_1 vb3_1 vr192) k' =
    (cond (decide (vs4 < (vb1_0.length : Int)))
  (cond ((decide ((0 : Int) ≤ vs4)) && (decide (vs4 < (vb1_0.length : Int))))
   (cond (sm_order (ItemT.order (atI (t := .item) vb1_0 (Int.toNat vs4))))
    (cond ((decide ((0 : Int) ≤ vs4)) && (decide (vs4 < (vb1_0.length : Int))))
     (cond (Nat.ble (vr192.length + 1) LIM)
      (k' .normal (f100S0 (IntKind.wrap .i64 (vs4 + (1 : Int))) vb1_0 vb1_1 vb3_1 (vr192 ++ ([(atI (t := .item) vb1_0 (Int.toNat vs4))] : List ItemT))))
      none)
     none)
    none)
   none)
  (k' (.exit 0) (f100S1 vs4 (decide (vs4 < (vb1_0.length : Int))) vb1_0 vb1_1 vb3_1 vr192))) := by kernel_rfl
theorem f100L0_eq {R : Type} (n : Nat) (k' : Ex → St → Option R) (vb1_0 : List ItemT) (vb1_1 : Int) (vb3_1 : Int) : ∀ (m : Nat) (vs4 : Int) (vr192 : List ItemT), iter (fun st k => ev f100e f100k n (cAt [1,1,0,1,0,0] f100c) st k) m (f100S0 vs4 vb1_0 vb1_1 vb3_1 vr192) k' = f100L0 n (fun (xvs4 : Int) (xvs12 : Bool) (xvr192 : List ItemT) => k' (.exit 0) (f100S1 xvs4 xvs12 vb1_0 vb1_1 vb3_1 xvr192)) vb1_0 vb1_1 vb3_1 m vs4 vr192 := by
  intro m; induction m with
  | zero => intros; rfl
  | succ m ih =>
    intro vs4 vr192
    simp only [iter]
    rw [f100L0_b]
    simp only [ih, f100L0]

noncomputable def f100K0 {R : Type} (n : Nat) (k' : Ex → St → Option R) : Ex → St → Option R := (blockK 0 (seqK f100e f100k n (cAt [1,1,1] f100c) k'))
theorem f100K0_x0 {R : Type} (n : Nat) (k : List Dt → Option R) (a0 : StoreT) (vb1_0 : List ItemT) (vb1_1 : Int) (vb3_1 : Int) (xvs4 : Int) (xvs12 : Bool) (xvr192 : List ItemT) : f100K0 n (exitK f100e [.ro] [false] true [.cell 2 43] [43] [.d .store a0] k) (.exit 0) (f100S1 xvs4 xvs12 vb1_0 vb1_1 vb3_1 xvr192) =
    (k [.d .store (⟨xvr192, vb3_1⟩ : StoreT)]) := by kernel_rfl

theorem f100_run {R : Type} (n : Nat) (k : List Dt → Option R) (a0 : StoreT) : evFn f100e f100k n f100c [.ro] [false] true [.cell 2 43] [43] [.d .store a0] k =
    (f100L0 n (fun (xvs4 : Int) (xvs12 : Bool) (xvr192 : List ItemT) =>
  (k [.d .store (⟨xvr192, (StoreT.next a0)⟩ : StoreT)])) (StoreT.items a0) (StoreT.next a0) (StoreT.next a0) n (0 : Int) ([] : List ItemT)) := by
  refine Eq.trans (b := (iter (fun st k => ev f100e f100k n (cAt [1,1,0,1,0,0] f100c) st k) n (f100S0 (0 : Int) (StoreT.items a0) (StoreT.next a0) (StoreT.next a0) ([] : List ItemT)) (f100K0 n (exitK f100e [.ro] [false] true [.cell 2 43] [43] [.d .store a0] k)))) (by kernel_rfl) ?_
  simp only [f100L0_eq, f100K0_x0]
theorem f100_spec (a0 : StoreT) (hg : sm_store a0 = true) : ∃ keep rounds, ∀ {R : Type} (k : List Dt → Option R), evFn f100e keep rounds f100c [.ro] [false] true [.cell 2 43] [43] [.d .store a0] k = k [.d .store a0] := by
  simp only [sm_store, Bool.and_eq_true] at hg
  obtain ⟨hg, _⟩ := hg
  have hl := smL_len hg
  refine ⟨f100k, a0.items.length + 1, fun {R} k => ?_⟩
  rw [f100_run]
  refine Eq.trans (loop_acc (xs := a0.items) (F := fun m j out => f100L0 (a0.items.length + 1) _ a0.items a0.next a0.next m (j : Int) out) (f := fun out x => out ++ [x]) (good := fun out => k [.d .store ⟨out, a0.next⟩]) (fun j out => out.length ≤ j)
    (fun j out x hx hi => by simp only [List.length_append, List.length_cons, List.length_nil]; omega) (fun m j out x hx hi => ?_) (fun m out hi => by simp only [f100L0, idxE, cond_false]) a0.items.length 0 (a0.items.length + 1) [] (by omega) (by omega) (by simp)) ?_
  · obtain ⟨h1, h0, hw, ht⟩ := idx (lt_of_get hx) (by omega)
    have hj := lt_of_get hx
    have hs := List.all_eq_true.1 (smL_all hg) x (List.mem_of_getElem? hx)
    simp only [sm_item, Bool.and_eq_true] at hs
    have hlim : Nat.ble (out.length + 1) LIM = true := Nat.ble_eq_true_of_le (by have : (LIM : Nat) = 4294967296 := rfl; omega)
    simp only [f100L0, h1, h0, hw, ht, atI_of (t := .item) hx, Bool.and_self, cond_true, hlim, hs.1]
  · rw [List.drop_zero, foldl_snoc, List.nil_append]

noncomputable def q100 : List Dt → Option (Bool × List Dt)
  | [.d .store a0] => some ((sm_store a0), [.d .store a0])
  | _ => none
noncomputable def s100 : Gm.Spec := Gm.Spec.of [.ro] [false] true q100
theorem good100 : Gm.Good Try.prog (100, s100) := by
  have hl : ∀ x ∈ [(103, s103)], Gm.Good Try.prog x := List.forall_mem_cons.2 ⟨good103, List.forall_mem_nil _⟩
  refine ⟨⟨spec_ok (tab_ok.env hl) (tab.natl hl) Try.func100 (by kernel_rfl : Try.f100.body = some f100c) [43] (by kernel_rfl) ?_, _, Try.func100, by kernel_rfl, of_decide_eq_true (by kernel_rfl)⟩, Gm.Spec.of_natl _ _ _ _⟩
  intro ds outs h
  unfold q100 at h
  split at h
  · simp only [Option.some.injEq, Prod.mk.injEq] at h; obtain ⟨hg, h⟩ := h; cases h; exact f100_spec _ hg
  · cases h
/-! ### loop.example/g00465/spec.l13At -/
noncomputable def f101S0 (y0 : ByteArray) (y1 : Int) (y2 : List ItemT) (y3 : Int) : St := ⟨[(1, .c (.one (.v (.string y0)))), (2, .c (.one (.pt 2 0))), (5, .c (.one (.v (.int .i64 y1))))], [(2, ⟨.store, [.ro .item y2, .v (.int .i64 y3)]⟩)], []⟩
noncomputable def f101S1 (y0 : Int) : St := ⟨[(4, .c (.one (.v (.int .i64 y0))))], [], []⟩
noncomputable def f101S2 (y0 : ByteArray) (y1 : Int) (y2 : Bool) (y3 : List ItemT) (y4 : Int) : St := ⟨[(1, .c (.one (.v (.string y0)))), (2, .c (.one (.pt 2 0))), (5, .c (.one (.v (.int .i64 y1)))), (10, .c (.one (.v (.bool y2))))], [(2, ⟨.store, [.ro .item y3, .v (.int .i64 y4)]⟩)], []⟩
noncomputable def f101c : Code := (Try.f101.body).getD .skip
def f101k : Nat → Kp := kat [⟨[1, 2], [], [], []⟩, ⟨[1, 2, 5], [], [], []⟩, ⟨[1, 2, 5, 10], [], [], []⟩, ⟨[1, 2, 5], [], [], []⟩, ⟨[1, 2, 5, 21], [], [], []⟩, ⟨[4], [], [], []⟩, ⟨[4], [], [], []⟩]
noncomputable def f101e : Env := tab.env []
noncomputable def f101L0 {R : Type} (n : Nat) (x0 : Int → Option R) (x1 : Int → Bool → Option R) (vs1 : ByteArray) (vb2_0 : List ItemT) (vb2_1 : Int) : Nat → Int → Option R
  | 0, _ => none
  | m + 1, vs5 =>
    (cond (decide (vs5 < (vb2_0.length : Int)))
   (cond ((decide ((0 : Int) ≤ vs5)) && (decide (vs5 < (vb2_0.length : Int))))
    (cond (sEq (OrderT.name (ItemT.order (atI (t := .item) vb2_0 (Int.toNat vs5)))) vs1)
     (x0 vs5)
     (f101L0 n x0 x1 vs1 vb2_0 vb2_1 m (IntKind.wrap .i64 (vs5 + (1 : Int)))))
    none)
   (x1 vs5 (decide (vs5 < (vb2_0.length : Int)))))
theorem f101L0_b {R : Type} (n : Nat) (k' : Ex → St → Option R) (vs1 : ByteArray) (vs5 : Int) (vb2_0 : List ItemT) (vb2_1 : Int) : ev f101e f101k n (cAt [1,0,1,0,0] f101c) (f101S0 vs1 vs5 vb2_0 vb2_1) k' =
    (cond (decide (vs5 < (vb2_0.length : Int)))
  (cond ((decide ((0 : Int) ≤ vs5)) && (decide (vs5 < (vb2_0.length : Int))))
   (cond (sEq (OrderT.name (ItemT.order (atI (t := .item) vb2_0 (Int.toNat vs5)))) vs1)
    (k' .ret (f101S1 vs5))
    (k' .normal (f101S0 vs1 (IntKind.wrap .i64 (vs5 + (1 : Int))) vb2_0 vb2_1)))
   none)
  (k' (.exit 0) (f101S2 vs1 vs5 (decide (vs5 < (vb2_0.length : Int))) vb2_0 vb2_1))) := by kernel_rfl
theorem f101L0_eq {R : Type} (n : Nat) (k' : Ex → St → Option R) (vs1 : ByteArray) (vb2_0 : List ItemT) (vb2_1 : Int) : ∀ (m : Nat) (vs5 : Int), iter (fun st k => ev f101e f101k n (cAt [1,0,1,0,0] f101c) st k) m (f101S0 vs1 vs5 vb2_0 vb2_1) k' = f101L0 n (fun (xvs4 : Int) => k' .ret (f101S1 xvs4)) (fun (xvs5 : Int) (xvs10 : Bool) => k' (.exit 0) (f101S2 vs1 xvs5 xvs10 vb2_0 vb2_1)) vs1 vb2_0 vb2_1 m vs5 := by
  intro m; induction m with
  | zero => intros; rfl
  | succ m ih =>
    intro vs5
    simp only [iter]
    rw [f101L0_b]
    simp only [ih, f101L0]

noncomputable def f101K0 {R : Type} (n : Nat) (k' : Ex → St → Option R) : Ex → St → Option R := (blockK 0 (seqK f101e f101k n (cAt [1,1] f101c) k'))
theorem f101K0_x0 {R : Type} (n : Nat) (k : List Dt → Option R) (a0 : StoreT) (a1 : ByteArray) (xvs4 : Int) : f101K0 n (exitK f101e [.ro, .ro] [false] true [.tmp 4] [3] [.d .store a0, .d .str a1] k) .ret (f101S1 xvs4) =
    (k [.d (.i .i64) xvs4]) := by kernel_rfl
theorem f101K0_x1 {R : Type} (n : Nat) (k : List Dt → Option R) (a0 : StoreT) (a1 : ByteArray) (vs1 : ByteArray) (vb2_0 : List ItemT) (vb2_1 : Int) (xvs5 : Int) (xvs10 : Bool) : f101K0 n (exitK f101e [.ro, .ro] [false] true [.tmp 4] [3] [.d .store a0, .d .str a1] k) (.exit 0) (f101S2 vs1 xvs5 xvs10 vb2_0 vb2_1) =
    (k [.d (.i .i64) (-1 : Int)]) := by kernel_rfl

theorem f101_run {R : Type} (n : Nat) (k : List Dt → Option R) (a0 : StoreT) (a1 : ByteArray) : evFn f101e f101k n f101c [.ro, .ro] [false] true [.tmp 4] [3] [.d .store a0, .d .str a1] k =
    (f101L0 n (fun (xvs4 : Int) =>
  (k [.d (.i .i64) xvs4])) (fun (xvs5 : Int) (xvs10 : Bool) =>
  (k [.d (.i .i64) (-1 : Int)])) a1 (StoreT.items a0) (StoreT.next a0) n (0 : Int)) := by
  refine Eq.trans (b := (iter (fun st k => ev f101e f101k n (cAt [1,0,1,0,0] f101c) st k) n (f101S0 a1 (0 : Int) (StoreT.items a0) (StoreT.next a0)) (f101K0 n (exitK f101e [.ro, .ro] [false] true [.tmp 4] [3] [.d .store a0, .d .str a1] k)))) (by kernel_rfl) ?_
  simp only [f101L0_eq, f101K0_x0, f101K0_x1]
theorem f101_spec (a0 : StoreT) (a1 : ByteArray) (hg : gLenW a0.items = true) : ∃ keep rounds, ∀ {R : Type} (k : List Dt → Option R), evFn f101e keep rounds f101c [.ro, .ro] [false] true [.tmp 4] [3] [.d .store a0, .d .str a1] k = k [.d (.i .i64) (itemAt a0 a1)] := by
  have hl := gLenW_le hg
  refine ⟨f101k, a0.items.length + 1, fun k => ?_⟩
  rw [f101_run]
  refine Eq.trans (loop_find (n := a0.items.length) (F := fun m i => f101L0 (a0.items.length + 1) _ _ a1 a0.items a0.next m i) (p := fun j => sEq (atI (t := .item) a0.items j).order.name a1) (hit := fun i => k [.d (.i .i64) i]) (miss := k [.d (.i .i64) (-1 : Int)])
    (fun m j hj => ?_) (fun m => by simp only [f101L0, idxE, cond_false]) a0.items.length 0 (a0.items.length + 1) (by omega) (by omega)) ?_
  · obtain ⟨h1, h0, hw, ht⟩ := idx hj (by omega)
    simp only [f101L0, h1, h0, hw, ht, Bool.and_self, cond_true]
  · show _ = k [.d (.i .i64) (plc _)]
    cases firstN (fun j => sEq (atI (t := .item) a0.items j).order.name a1) 0 a0.items.length <;> rfl

noncomputable def q101 : List Dt → Option (Bool × List Dt)
  | [.d .store a0, .d .str a1] => some (((fun (s : StoreT) (_ : ByteArray) => gLenW s.items) a0 a1), [.d (.i .i64) (itemAt a0 a1)])
  | _ => none
noncomputable def s101 : Gm.Spec := Gm.Spec.of [.ro, .ro] [false] true q101
theorem good101 : Gm.Good Try.prog (101, s101) := by
  have hl : ∀ x ∈ ([] : List (Nat × Gm.Spec)), Gm.Good Try.prog x := fun _ h => by cases h
  refine ⟨⟨spec_ok (tab_ok.env hl) (tab.natl hl) Try.func101 (by kernel_rfl : Try.f101.body = some f101c) [3] (by kernel_rfl) ?_, _, Try.func101, by kernel_rfl, of_decide_eq_true (by kernel_rfl)⟩, Gm.Spec.of_natl _ _ _ _⟩
  intro ds outs h
  unfold q101 at h
  split at h
  · simp only [Option.some.injEq, Prod.mk.injEq] at h; obtain ⟨hg, h⟩ := h; cases h; exact f101_spec _ _ hg
  · cases h
/-! ### loop.example/g00465/spec.Put -/
noncomputable def f91S0 (y0 : Int) (y1 : ByteArray) (y2 : ByteArray) (y3 : Int) (y4 : Int) (y5 : List MetricT) (y6 : Int) (y7 : Int) (y8 : Int) (y9 : Int) (y10 : List NoteT) (y12 : Int) (y13 : Int) (y14 : ByteArray) (y15 : ByteArray) (y16 : Int) (y17 : Int) (y18 : Int) (y19 : Int) (y20 : Int) (y21 : Int) (y22 : Int) (y23 : List ItemT) (y24 : List ItemT) (y25 : List MetricT) (y26 : List NoteT) : St := ⟨[(3, .c (.one (.pt 3 0))), (4, .c (.one (.pt 4 0))), (6, .c (.one (.pt 6 0))), (7, .c (.one (.pt 7 0))), (8, .c (.one (.pt 8 0))), (9, .c (.one (.v (.int .i64 y0))))], [(3, ⟨.order, [.v (.string y1), .v (.string y2), .v (.int .i64 y3), .v (.int .i64 y4), .ro .metric y5, .v (.int .i64 y6), .v (.int .i64 y7), .v (.int .i64 y8), .v (.int .i64 y9), .ro .note y10]⟩), (4, ⟨.store, [.nl, .v (.int .i64 (0 : Int))]⟩), (6, ⟨.store, [.h 768 0 0 [], .v (.int .i64 y12)]⟩), (7, ⟨.store, [.h 1152 0 0 [], .v (.int .i64 y13)]⟩), (8, ⟨.item, [.v (.string y14), .v (.string y15), .v (.int .i64 y16), .v (.int .i64 y17), .h 1280 0 0 [], .v (.int .i64 y18), .v (.int .i64 y19), .v (.int .i64 y20), .v (.int .i64 y21), .h 1281 0 0 [], .v (.int .i64 y22)]⟩)], [(768, .live ⟨.item, .deep, 0, [], y23⟩), (1152, .live ⟨.item, .deep, 0, [], y24⟩), (1280, .live ⟨.metric, .deep, 0, [], y25⟩), (1281, .live ⟨.note, .deep, 0, [], y26⟩)]⟩
noncomputable def f91S1 (y0 : Int) (y1 : Bool) (y2 : ByteArray) (y3 : ByteArray) (y4 : Int) (y5 : Int) (y6 : List MetricT) (y7 : Int) (y8 : Int) (y9 : Int) (y10 : Int) (y11 : List NoteT) (y13 : Int) (y14 : Int) (y15 : ByteArray) (y16 : ByteArray) (y17 : Int) (y18 : Int) (y19 : Int) (y20 : Int) (y21 : Int) (y22 : Int) (y23 : Int) (y24 : List ItemT) (y25 : List ItemT) (y26 : List MetricT) (y27 : List NoteT) : St := ⟨[(3, .c (.one (.pt 3 0))), (4, .c (.one (.pt 4 0))), (6, .c (.one (.pt 6 0))), (7, .c (.one (.pt 7 0))), (8, .c (.one (.pt 8 0))), (9, .c (.one (.v (.int .i64 y0)))), (55, .c (.one (.v (.bool y1))))], [(3, ⟨.order, [.v (.string y2), .v (.string y3), .v (.int .i64 y4), .v (.int .i64 y5), .ro .metric y6, .v (.int .i64 y7), .v (.int .i64 y8), .v (.int .i64 y9), .v (.int .i64 y10), .ro .note y11]⟩), (4, ⟨.store, [.nl, .v (.int .i64 (0 : Int))]⟩), (6, ⟨.store, [.h 768 0 0 [], .v (.int .i64 y13)]⟩), (7, ⟨.store, [.h 1152 0 0 [], .v (.int .i64 y14)]⟩), (8, ⟨.item, [.v (.string y15), .v (.string y16), .v (.int .i64 y17), .v (.int .i64 y18), .h 1280 0 0 [], .v (.int .i64 y19), .v (.int .i64 y20), .v (.int .i64 y21), .v (.int .i64 y22), .h 1281 0 0 [], .v (.int .i64 y23)]⟩)], [(768, .live ⟨.item, .deep, 0, [], y24⟩), (1152, .live ⟨.item, .deep, 0, [], y25⟩), (1280, .live ⟨.metric, .deep, 0, [], y26⟩), (1281, .live ⟨.note, .deep, 0, [], y27⟩)]⟩
noncomputable def f91c : Code := (Try.f91.body).getD .skip
def f91k : Nat → Kp := kat [⟨[2, 3, 4], [], [], []⟩, ⟨[2, 3, 4, 6], [], [], []⟩, ⟨[2, 3, 4, 6, 15], [], [], []⟩, ⟨[4, 5], [], [], []⟩, ⟨[2, 3, 4, 6, 7], [], [], []⟩, ⟨[2, 3, 4, 6, 7, 8], [], [], []⟩, ⟨[2, 3, 4, 6, 7, 8], [], [], []⟩, ⟨[3, 4, 6, 7, 8, 9], [], [], []⟩, ⟨[3, 4, 6, 7, 8, 9, 33], [], [], []⟩, ⟨[4, 6, 7], [], [], []⟩, ⟨[3, 4, 6, 7, 8, 9], [], [], []⟩, ⟨[3, 4, 6, 7, 8, 9, 55], [], [], []⟩, ⟨[3, 4, 6, 7, 8, 9], [], [], []⟩, ⟨[4, 6, 7, 8, 9, 10], [], [], []⟩, ⟨[4, 6, 7, 9, 10], [], [], []⟩, ⟨[4, 6, 7], [], [], []⟩, ⟨[4, 6, 7, 77], [], [], []⟩, ⟨[4, 5], [], [], []⟩, ⟨[4, 5], [], [], []⟩]
noncomputable def f91e : Env := tab.env [(100, s100), (101, s101), (102, s102), (103, s103)]
noncomputable def f91L0 {R : Type} (n : Nat) (x0 : Int → Bool → Option R) (x1 : Int → Option R) (vb3_0 : ByteArray) (vb3_1 : ByteArray) (vb3_2 : Int) (vb3_3 : Int) (vb3_4 : List MetricT) (vb3_5 : Int) (vb3_6 : Int) (vb3_7 : Int) (vb3_8 : Int) (vb3_9 : List NoteT) (vb6_1 : Int) (vb7_1 : Int) (vb8_0 : ByteArray) (vb8_1 : ByteArray) (vb8_2 : Int) (vb8_3 : Int) (vb8_5 : Int) (vb8_6 : Int) (vb8_7 : Int) (vb8_8 : Int) (vb8_10 : Int) (vr768 : List ItemT) (vr1152 : List ItemT) (vr1280 : List MetricT) (vr1281 : List NoteT) : Nat → Int → Option R
  | 0, _ => none
  | m + 1, vs9 =>
    (cond (decide (vs9 < (vr1152.length : Int)))
   (cond ((decide ((0 : Int) ≤ vs9)) && (decide (vs9 < (vr1152.length : Int))))
    (cond (sLt (OrderT.name (ItemT.order (atI (t := .item) vr1152 (Int.toNat vs9)))) vb3_0)
     (f91L0 n x0 x1 vb3_0 vb3_1 vb3_2 vb3_3 vb3_4 vb3_5 vb3_6 vb3_7 vb3_8 vb3_9 vb6_1 vb7_1 vb8_0 vb8_1 vb8_2 vb8_3 vb8_5 vb8_6 vb8_7 vb8_8 vb8_10 vr768 vr1152 vr1280 vr1281 m (IntKind.wrap .i64 (vs9 + (1 : Int))))
     (x0 vs9 (sLt (OrderT.name (ItemT.order (atI (t := .item) vr1152 (Int.toNat vs9)))) vb3_0)))
    none)
   (x1 vs9))
theorem f91L0_b {R : Type} (n : Nat) (k' : Ex → St → Option R) (vs9 : Int) (vb3_0 : ByteArray) (vb3_1 : ByteArray) (vb3_2 : Int) (vb3_3 : Int) (vb3_4 : List MetricT) (vb3_5 : Int) (vb3_6 : Int) (vb3_7 : Int) (vb3_8 : Int) (vb3_9 : List NoteT) (vb6_1 : Int) (vb7_1 : Int) (vb8_0 : ByteArray) (vb8_1 : ByteArray) (vb8_2 : Int) (vb8_3 : Int) (vb8_5 : Int) (vb8_6 : Int) (vb8_7 : Int) (vb8_8 : Int) (vb8_10 : Int) (vr768 : List ItemT) (vr1152 : List ItemT) (vr1280 : List MetricT) (vr1281 : List NoteT) : ev f91e f91k n (cAt [1,1,1,1,1,1,1,0,1,1,1,0,0,0] f91c) (f91S0 vs9 vb3_0 vb3_1 vb3_2 vb3_3 vb3_4 vb3_5 vb3_6 vb3_7 vb3_8 vb3_9 vb6_1 vb7_1 vb8_0 vb8_1 vb8_2 vb8_3 vb8_5 vb8_6 vb8_7 vb8_8 vb8_10 vr768 vr1152 vr1280 vr1281) k' =
    (cond (decide (vs9 < (vr1152.length : Int)))
  (cond ((decide ((0 : Int) ≤ vs9)) && (decide (vs9 < (vr1152.length : Int))))
   (cond (sLt (OrderT.name (ItemT.order (atI (t := .item) vr1152 (Int.toNat vs9)))) vb3_0)
    (k' .normal (f91S0 (IntKind.wrap .i64 (vs9 + (1 : Int))) vb3_0 vb3_1 vb3_2 vb3_3 vb3_4 vb3_5 vb3_6 vb3_7 vb3_8 vb3_9 vb6_1 vb7_1 vb8_0 vb8_1 vb8_2 vb8_3 vb8_5 vb8_6 vb8_7 vb8_8 vb8_10 vr768 vr1152 vr1280 vr1281))
    (k' (.exit 0) (f91S1 vs9 (sLt (OrderT.name (ItemT.order (atI (t := .item) vr1152 (Int.toNat vs9)))) vb3_0) vb3_0 vb3_1 vb3_2 vb3_3 vb3_4 vb3_5 vb3_6 vb3_7 vb3_8 vb3_9 vb6_1 vb7_1 vb8_0 vb8_1 vb8_2 vb8_3 vb8_5 vb8_6 vb8_7 vb8_8 vb8_10 vr768 vr1152 vr1280 vr1281)))
   none)
  (k' (.exit 0) (f91S1 vs9 false vb3_0 vb3_1 vb3_2 vb3_3 vb3_4 vb3_5 vb3_6 vb3_7 vb3_8 vb3_9 vb6_1 vb7_1 vb8_0 vb8_1 vb8_2 vb8_3 vb8_5 vb8_6 vb8_7 vb8_8 vb8_10 vr768 vr1152 vr1280 vr1281))) := by kernel_rfl
theorem f91L0_eq {R : Type} (n : Nat) (k' : Ex → St → Option R) (vb3_0 : ByteArray) (vb3_1 : ByteArray) (vb3_2 : Int) (vb3_3 : Int) (vb3_4 : List MetricT) (vb3_5 : Int) (vb3_6 : Int) (vb3_7 : Int) (vb3_8 : Int) (vb3_9 : List NoteT) (vb6_1 : Int) (vb7_1 : Int) (vb8_0 : ByteArray) (vb8_1 : ByteArray) (vb8_2 : Int) (vb8_3 : Int) (vb8_5 : Int) (vb8_6 : Int) (vb8_7 : Int) (vb8_8 : Int) (vb8_10 : Int) (vr768 : List ItemT) (vr1152 : List ItemT) (vr1280 : List MetricT) (vr1281 : List NoteT) : ∀ (m : Nat) (vs9 : Int), iter (fun st k => ev f91e f91k n (cAt [1,1,1,1,1,1,1,0,1,1,1,0,0,0] f91c) st k) m (f91S0 vs9 vb3_0 vb3_1 vb3_2 vb3_3 vb3_4 vb3_5 vb3_6 vb3_7 vb3_8 vb3_9 vb6_1 vb7_1 vb8_0 vb8_1 vb8_2 vb8_3 vb8_5 vb8_6 vb8_7 vb8_8 vb8_10 vr768 vr1152 vr1280 vr1281) k' = f91L0 n (fun (xvs9 : Int) (xvs55 : Bool) => k' (.exit 0) (f91S1 xvs9 xvs55 vb3_0 vb3_1 vb3_2 vb3_3 vb3_4 vb3_5 vb3_6 vb3_7 vb3_8 vb3_9 vb6_1 vb7_1 vb8_0 vb8_1 vb8_2 vb8_3 vb8_5 vb8_6 vb8_7 vb8_8 vb8_10 vr768 vr1152 vr1280 vr1281)) (fun (xvs9 : Int) => k' (.exit 0) (f91S1 xvs9 false vb3_0 vb3_1 vb3_2 vb3_3 vb3_4 vb3_5 vb3_6 vb3_7 vb3_8 vb3_9 vb6_1 vb7_1 vb8_0 vb8_1 vb8_2 vb8_3 vb8_5 vb8_6 vb8_7 vb8_8 vb8_10 vr768 vr1152 vr1280 vr1281)) vb3_0 vb3_1 vb3_2 vb3_3 vb3_4 vb3_5 vb3_6 vb3_7 vb3_8 vb3_9 vb6_1 vb7_1 vb8_0 vb8_1 vb8_2 vb8_3 vb8_5 vb8_6 vb8_7 vb8_8 vb8_10 vr768 vr1152 vr1280 vr1281 m vs9 := by
  intro m; induction m with
  | zero => intros; rfl
  | succ m ih =>
    intro vs9
    simp only [iter]
    rw [f91L0_b]
    simp only [ih, f91L0]

noncomputable def f91K0 {R : Type} (n : Nat) (k' : Ex → St → Option R) : Ex → St → Option R := (blockK 0 (seqK f91e f91k n (cAt [1,1,1,1,1,1,1,0,1,1,1,1] f91c) (seqK f91e f91k n (cAt [1,1,1,1,1,1,1,1] f91c) k')))
theorem f91K0_x0 {R : Type} (n : Nat) (k : List Dt → Option R) (a0 : StoreT) (a1 : OrderT) (vb3_0 : ByteArray) (vb3_1 : ByteArray) (vb3_2 : Int) (vb3_3 : Int) (vb3_4 : List MetricT) (vb3_5 : Int) (vb3_6 : Int) (vb3_7 : Int) (vb3_8 : Int) (vb3_9 : List NoteT) (vb6_1 : Int) (vb7_1 : Int) (vb8_0 : ByteArray) (vb8_1 : ByteArray) (vb8_2 : Int) (vb8_3 : Int) (vb8_5 : Int) (vb8_6 : Int) (vb8_7 : Int) (vb8_8 : Int) (vb8_10 : Int) (vr768 : List ItemT) (vr1152 : List ItemT) (vr1280 : List MetricT) (vr1281 : List NoteT) (xvs9 : Int) (xvs55 : Bool) : f91K0 n (exitK f91e [.ro, .ro] [false, false] true [.cell 4 43, .tmp 5] [43, 4] [.d .store a0, .d .order a1] k) (.exit 0) (f91S1 xvs9 xvs55 vb3_0 vb3_1 vb3_2 vb3_3 vb3_4 vb3_5 vb3_6 vb3_7 vb3_8 vb3_9 vb6_1 vb7_1 vb8_0 vb8_1 vb8_2 vb8_3 vb8_5 vb8_6 vb8_7 vb8_8 vb8_10 vr768 vr1152 vr1280 vr1281) =
    (cond ((decide ((0 : Int) ≤ xvs9)) && (decide (xvs9 ≤ (vr1152.length : Int))))
  (cond (Nat.ble (0 + ((vr1152.take (Int.toNat xvs9)).drop 0).length) LIM)
   (cond (Nat.ble ((([] : List ItemT) ++ ((vr1152.take (Int.toNat xvs9)).drop 0)).length + 1) LIM)
    (cond ((decide ((0 : Int) ≤ xvs9)) && ((decide (xvs9 ≤ (vr1152.length : Int))) && (decide ((vr1152.length : Int) ≤ (vr1152.length : Int)))))
     (cond (leC (Int.toNat xvs9) 0 (Int.toNat xvs9) 0)
      (cond (Nat.ble (((([] : List ItemT) ++ ((vr1152.take (Int.toNat xvs9)).drop 0)) ++ ([(⟨(⟨vb8_0, vb8_1, vb8_2, vb8_3, vr1280, (⟨vb8_5, vb8_6, vb8_7, vb8_8⟩ : PaceT), vr1281⟩ : OrderT), vb8_10⟩ : ItemT)] : List ItemT)).length + ((vr1152.take (Int.toNat (vr1152.length : Int))).drop (Int.toNat xvs9)).length) LIM)
       (cond (sm_store (⟨(((([] : List ItemT) ++ ((vr1152.take (Int.toNat xvs9)).drop 0)) ++ ([(⟨(⟨vb8_0, vb8_1, vb8_2, vb8_3, vr1280, (⟨vb8_5, vb8_6, vb8_7, vb8_8⟩ : PaceT), vr1281⟩ : OrderT), vb8_10⟩ : ItemT)] : List ItemT)) ++ ((vr1152.take (Int.toNat (vr1152.length : Int))).drop (Int.toNat xvs9))), vb7_1⟩ : StoreT))
        (cond (!(storeOk (⟨(((([] : List ItemT) ++ ((vr1152.take (Int.toNat xvs9)).drop 0)) ++ ([(⟨(⟨vb8_0, vb8_1, vb8_2, vb8_3, vr1280, (⟨vb8_5, vb8_6, vb8_7, vb8_8⟩ : PaceT), vr1281⟩ : OrderT), vb8_10⟩ : ItemT)] : List ItemT)) ++ ((vr1152.take (Int.toNat (vr1152.length : Int))).drop (Int.toNat xvs9))), vb7_1⟩ : StoreT)))
         (k [.d .store (⟨vr768, vb6_1⟩ : StoreT), .d .bool false])
         (k [.d .store (⟨(((([] : List ItemT) ++ ((vr1152.take (Int.toNat xvs9)).drop 0)) ++ ([(⟨(⟨vb8_0, vb8_1, vb8_2, vb8_3, vr1280, (⟨vb8_5, vb8_6, vb8_7, vb8_8⟩ : PaceT), vr1281⟩ : OrderT), vb8_10⟩ : ItemT)] : List ItemT)) ++ ((vr1152.take (Int.toNat (vr1152.length : Int))).drop (Int.toNat xvs9))), vb7_1⟩ : StoreT), .d .bool true]))
        none)
       none)
      none)
     none)
    none)
   none)
  none) := by kernel_rfl
theorem f91K0_x1 {R : Type} (n : Nat) (k : List Dt → Option R) (a0 : StoreT) (a1 : OrderT) (vb3_0 : ByteArray) (vb3_1 : ByteArray) (vb3_2 : Int) (vb3_3 : Int) (vb3_4 : List MetricT) (vb3_5 : Int) (vb3_6 : Int) (vb3_7 : Int) (vb3_8 : Int) (vb3_9 : List NoteT) (vb6_1 : Int) (vb7_1 : Int) (vb8_0 : ByteArray) (vb8_1 : ByteArray) (vb8_2 : Int) (vb8_3 : Int) (vb8_5 : Int) (vb8_6 : Int) (vb8_7 : Int) (vb8_8 : Int) (vb8_10 : Int) (vr768 : List ItemT) (vr1152 : List ItemT) (vr1280 : List MetricT) (vr1281 : List NoteT) (xvs9 : Int) : f91K0 n (exitK f91e [.ro, .ro] [false, false] true [.cell 4 43, .tmp 5] [43, 4] [.d .store a0, .d .order a1] k) (.exit 0) (f91S1 xvs9 false vb3_0 vb3_1 vb3_2 vb3_3 vb3_4 vb3_5 vb3_6 vb3_7 vb3_8 vb3_9 vb6_1 vb7_1 vb8_0 vb8_1 vb8_2 vb8_3 vb8_5 vb8_6 vb8_7 vb8_8 vb8_10 vr768 vr1152 vr1280 vr1281) =
    (cond ((decide ((0 : Int) ≤ xvs9)) && (decide (xvs9 ≤ (vr1152.length : Int))))
  (cond (Nat.ble (0 + ((vr1152.take (Int.toNat xvs9)).drop 0).length) LIM)
   (cond (Nat.ble ((([] : List ItemT) ++ ((vr1152.take (Int.toNat xvs9)).drop 0)).length + 1) LIM)
    (cond ((decide ((0 : Int) ≤ xvs9)) && ((decide (xvs9 ≤ (vr1152.length : Int))) && (decide ((vr1152.length : Int) ≤ (vr1152.length : Int)))))
     (cond (leC (Int.toNat xvs9) 0 (Int.toNat xvs9) 0)
      (cond (Nat.ble (((([] : List ItemT) ++ ((vr1152.take (Int.toNat xvs9)).drop 0)) ++ ([(⟨(⟨vb8_0, vb8_1, vb8_2, vb8_3, vr1280, (⟨vb8_5, vb8_6, vb8_7, vb8_8⟩ : PaceT), vr1281⟩ : OrderT), vb8_10⟩ : ItemT)] : List ItemT)).length + ((vr1152.take (Int.toNat (vr1152.length : Int))).drop (Int.toNat xvs9)).length) LIM)
       (cond (sm_store (⟨(((([] : List ItemT) ++ ((vr1152.take (Int.toNat xvs9)).drop 0)) ++ ([(⟨(⟨vb8_0, vb8_1, vb8_2, vb8_3, vr1280, (⟨vb8_5, vb8_6, vb8_7, vb8_8⟩ : PaceT), vr1281⟩ : OrderT), vb8_10⟩ : ItemT)] : List ItemT)) ++ ((vr1152.take (Int.toNat (vr1152.length : Int))).drop (Int.toNat xvs9))), vb7_1⟩ : StoreT))
        (cond (!(storeOk (⟨(((([] : List ItemT) ++ ((vr1152.take (Int.toNat xvs9)).drop 0)) ++ ([(⟨(⟨vb8_0, vb8_1, vb8_2, vb8_3, vr1280, (⟨vb8_5, vb8_6, vb8_7, vb8_8⟩ : PaceT), vr1281⟩ : OrderT), vb8_10⟩ : ItemT)] : List ItemT)) ++ ((vr1152.take (Int.toNat (vr1152.length : Int))).drop (Int.toNat xvs9))), vb7_1⟩ : StoreT)))
         (k [.d .store (⟨vr768, vb6_1⟩ : StoreT), .d .bool false])
         (k [.d .store (⟨(((([] : List ItemT) ++ ((vr1152.take (Int.toNat xvs9)).drop 0)) ++ ([(⟨(⟨vb8_0, vb8_1, vb8_2, vb8_3, vr1280, (⟨vb8_5, vb8_6, vb8_7, vb8_8⟩ : PaceT), vr1281⟩ : OrderT), vb8_10⟩ : ItemT)] : List ItemT)) ++ ((vr1152.take (Int.toNat (vr1152.length : Int))).drop (Int.toNat xvs9))), vb7_1⟩ : StoreT), .d .bool true]))
        none)
       none)
      none)
     none)
    none)
   none)
  none) := by kernel_rfl

theorem f91_run {R : Type} (n : Nat) (k : List Dt → Option R) (a0 : StoreT) (a1 : OrderT) : evFn f91e f91k n f91c [.ro, .ro] [false, false] true [.cell 4 43, .tmp 5] [43, 4] [.d .store a0, .d .order a1] k =
    (cond (sm_store a0)
  (cond (sm_store a0)
   (cond (!(storeOk a0))
    (k [.d .store a0, .d .bool false])
    (cond (sm_store a0)
     (cond (sm_order a1)
      (cond ((fun (s : StoreT) (_ : ByteArray) => gLenW s.items) a0 (OrderT.name a1))
       (cond (decide ((itemAt a0 (OrderT.name a1)) ≥ (0 : Int)))
        (cond ((decide ((0 : Int) ≤ (itemAt a0 (OrderT.name a1)))) && (decide ((itemAt a0 (OrderT.name a1)) < ((StoreT.items a0).length : Int))))
         (cond (sm_store (⟨((StoreT.items a0).set (Int.toNat (itemAt a0 (OrderT.name a1))) (⟨a1, (StoreT.next a0)⟩ : ItemT)), (IntKind.wrap .i64 ((StoreT.next a0) + (1 : Int)))⟩ : StoreT))
          (cond (!(storeOk (⟨((StoreT.items a0).set (Int.toNat (itemAt a0 (OrderT.name a1))) (⟨a1, (StoreT.next a0)⟩ : ItemT)), (IntKind.wrap .i64 ((StoreT.next a0) + (1 : Int)))⟩ : StoreT)))
           (k [.d .store a0, .d .bool false])
           (k [.d .store (⟨((StoreT.items a0).set (Int.toNat (itemAt a0 (OrderT.name a1))) (⟨a1, (StoreT.next a0)⟩ : ItemT)), (IntKind.wrap .i64 ((StoreT.next a0) + (1 : Int)))⟩ : StoreT), .d .bool true]))
          none)
         none)
        (f91L0 n (fun (xvs9 : Int) (xvs55 : Bool) =>
         (cond ((decide ((0 : Int) ≤ xvs9)) && (decide (xvs9 ≤ ((StoreT.items a0).length : Int))))
          (cond (Nat.ble (0 + (((StoreT.items a0).take (Int.toNat xvs9)).drop 0).length) LIM)
           (cond (Nat.ble ((([] : List ItemT) ++ (((StoreT.items a0).take (Int.toNat xvs9)).drop 0)).length + 1) LIM)
            (cond ((decide ((0 : Int) ≤ xvs9)) && ((decide (xvs9 ≤ ((StoreT.items a0).length : Int))) && (decide (((StoreT.items a0).length : Int) ≤ ((StoreT.items a0).length : Int)))))
             (cond (leC (Int.toNat xvs9) 0 (Int.toNat xvs9) 0)
              (cond (Nat.ble (((([] : List ItemT) ++ (((StoreT.items a0).take (Int.toNat xvs9)).drop 0)) ++ ([(⟨(⟨(OrderT.name a1), (OrderT.target a1), (OrderT.low a1), (OrderT.high a1), (OrderT.metrics a1), (⟨(PaceT.up (OrderT.pace a1)), (PaceT.down (OrderT.pace a1)), (PaceT.upSpan (OrderT.pace a1)), (PaceT.downSpan (OrderT.pace a1))⟩ : PaceT), (OrderT.notes a1)⟩ : OrderT), (StoreT.next a0)⟩ : ItemT)] : List ItemT)).length + (((StoreT.items a0).take (Int.toNat ((StoreT.items a0).length : Int))).drop (Int.toNat xvs9)).length) LIM)
               (cond (sm_store (⟨(((([] : List ItemT) ++ (((StoreT.items a0).take (Int.toNat xvs9)).drop 0)) ++ ([(⟨(⟨(OrderT.name a1), (OrderT.target a1), (OrderT.low a1), (OrderT.high a1), (OrderT.metrics a1), (⟨(PaceT.up (OrderT.pace a1)), (PaceT.down (OrderT.pace a1)), (PaceT.upSpan (OrderT.pace a1)), (PaceT.downSpan (OrderT.pace a1))⟩ : PaceT), (OrderT.notes a1)⟩ : OrderT), (StoreT.next a0)⟩ : ItemT)] : List ItemT)) ++ (((StoreT.items a0).take (Int.toNat ((StoreT.items a0).length : Int))).drop (Int.toNat xvs9))), (IntKind.wrap .i64 ((StoreT.next a0) + (1 : Int)))⟩ : StoreT))
                (cond (!(storeOk (⟨(((([] : List ItemT) ++ (((StoreT.items a0).take (Int.toNat xvs9)).drop 0)) ++ ([(⟨(⟨(OrderT.name a1), (OrderT.target a1), (OrderT.low a1), (OrderT.high a1), (OrderT.metrics a1), (⟨(PaceT.up (OrderT.pace a1)), (PaceT.down (OrderT.pace a1)), (PaceT.upSpan (OrderT.pace a1)), (PaceT.downSpan (OrderT.pace a1))⟩ : PaceT), (OrderT.notes a1)⟩ : OrderT), (StoreT.next a0)⟩ : ItemT)] : List ItemT)) ++ (((StoreT.items a0).take (Int.toNat ((StoreT.items a0).length : Int))).drop (Int.toNat xvs9))), (IntKind.wrap .i64 ((StoreT.next a0) + (1 : Int)))⟩ : StoreT)))
                 (k [.d .store (⟨(StoreT.items a0), (StoreT.next a0)⟩ : StoreT), .d .bool false])
                 (k [.d .store (⟨(((([] : List ItemT) ++ (((StoreT.items a0).take (Int.toNat xvs9)).drop 0)) ++ ([(⟨(⟨(OrderT.name a1), (OrderT.target a1), (OrderT.low a1), (OrderT.high a1), (OrderT.metrics a1), (⟨(PaceT.up (OrderT.pace a1)), (PaceT.down (OrderT.pace a1)), (PaceT.upSpan (OrderT.pace a1)), (PaceT.downSpan (OrderT.pace a1))⟩ : PaceT), (OrderT.notes a1)⟩ : OrderT), (StoreT.next a0)⟩ : ItemT)] : List ItemT)) ++ (((StoreT.items a0).take (Int.toNat ((StoreT.items a0).length : Int))).drop (Int.toNat xvs9))), (IntKind.wrap .i64 ((StoreT.next a0) + (1 : Int)))⟩ : StoreT), .d .bool true]))
                none)
               none)
              none)
             none)
            none)
           none)
          none)) (fun (xvs9 : Int) =>
         (cond ((decide ((0 : Int) ≤ xvs9)) && (decide (xvs9 ≤ ((StoreT.items a0).length : Int))))
          (cond (Nat.ble (0 + (((StoreT.items a0).take (Int.toNat xvs9)).drop 0).length) LIM)
           (cond (Nat.ble ((([] : List ItemT) ++ (((StoreT.items a0).take (Int.toNat xvs9)).drop 0)).length + 1) LIM)
            (cond ((decide ((0 : Int) ≤ xvs9)) && ((decide (xvs9 ≤ ((StoreT.items a0).length : Int))) && (decide (((StoreT.items a0).length : Int) ≤ ((StoreT.items a0).length : Int)))))
             (cond (leC (Int.toNat xvs9) 0 (Int.toNat xvs9) 0)
              (cond (Nat.ble (((([] : List ItemT) ++ (((StoreT.items a0).take (Int.toNat xvs9)).drop 0)) ++ ([(⟨(⟨(OrderT.name a1), (OrderT.target a1), (OrderT.low a1), (OrderT.high a1), (OrderT.metrics a1), (⟨(PaceT.up (OrderT.pace a1)), (PaceT.down (OrderT.pace a1)), (PaceT.upSpan (OrderT.pace a1)), (PaceT.downSpan (OrderT.pace a1))⟩ : PaceT), (OrderT.notes a1)⟩ : OrderT), (StoreT.next a0)⟩ : ItemT)] : List ItemT)).length + (((StoreT.items a0).take (Int.toNat ((StoreT.items a0).length : Int))).drop (Int.toNat xvs9)).length) LIM)
               (cond (sm_store (⟨(((([] : List ItemT) ++ (((StoreT.items a0).take (Int.toNat xvs9)).drop 0)) ++ ([(⟨(⟨(OrderT.name a1), (OrderT.target a1), (OrderT.low a1), (OrderT.high a1), (OrderT.metrics a1), (⟨(PaceT.up (OrderT.pace a1)), (PaceT.down (OrderT.pace a1)), (PaceT.upSpan (OrderT.pace a1)), (PaceT.downSpan (OrderT.pace a1))⟩ : PaceT), (OrderT.notes a1)⟩ : OrderT), (StoreT.next a0)⟩ : ItemT)] : List ItemT)) ++ (((StoreT.items a0).take (Int.toNat ((StoreT.items a0).length : Int))).drop (Int.toNat xvs9))), (IntKind.wrap .i64 ((StoreT.next a0) + (1 : Int)))⟩ : StoreT))
                (cond (!(storeOk (⟨(((([] : List ItemT) ++ (((StoreT.items a0).take (Int.toNat xvs9)).drop 0)) ++ ([(⟨(⟨(OrderT.name a1), (OrderT.target a1), (OrderT.low a1), (OrderT.high a1), (OrderT.metrics a1), (⟨(PaceT.up (OrderT.pace a1)), (PaceT.down (OrderT.pace a1)), (PaceT.upSpan (OrderT.pace a1)), (PaceT.downSpan (OrderT.pace a1))⟩ : PaceT), (OrderT.notes a1)⟩ : OrderT), (StoreT.next a0)⟩ : ItemT)] : List ItemT)) ++ (((StoreT.items a0).take (Int.toNat ((StoreT.items a0).length : Int))).drop (Int.toNat xvs9))), (IntKind.wrap .i64 ((StoreT.next a0) + (1 : Int)))⟩ : StoreT)))
                 (k [.d .store (⟨(StoreT.items a0), (StoreT.next a0)⟩ : StoreT), .d .bool false])
                 (k [.d .store (⟨(((([] : List ItemT) ++ (((StoreT.items a0).take (Int.toNat xvs9)).drop 0)) ++ ([(⟨(⟨(OrderT.name a1), (OrderT.target a1), (OrderT.low a1), (OrderT.high a1), (OrderT.metrics a1), (⟨(PaceT.up (OrderT.pace a1)), (PaceT.down (OrderT.pace a1)), (PaceT.upSpan (OrderT.pace a1)), (PaceT.downSpan (OrderT.pace a1))⟩ : PaceT), (OrderT.notes a1)⟩ : OrderT), (StoreT.next a0)⟩ : ItemT)] : List ItemT)) ++ (((StoreT.items a0).take (Int.toNat ((StoreT.items a0).length : Int))).drop (Int.toNat xvs9))), (IntKind.wrap .i64 ((StoreT.next a0) + (1 : Int)))⟩ : StoreT), .d .bool true]))
                none)
               none)
              none)
             none)
            none)
           none)
          none)) (OrderT.name a1) (OrderT.target a1) (OrderT.low a1) (OrderT.high a1) (OrderT.metrics a1) (PaceT.up (OrderT.pace a1)) (PaceT.down (OrderT.pace a1)) (PaceT.upSpan (OrderT.pace a1)) (PaceT.downSpan (OrderT.pace a1)) (OrderT.notes a1) (StoreT.next a0) (IntKind.wrap .i64 ((StoreT.next a0) + (1 : Int))) (OrderT.name a1) (OrderT.target a1) (OrderT.low a1) (OrderT.high a1) (PaceT.up (OrderT.pace a1)) (PaceT.down (OrderT.pace a1)) (PaceT.upSpan (OrderT.pace a1)) (PaceT.downSpan (OrderT.pace a1)) (StoreT.next a0) (StoreT.items a0) (StoreT.items a0) (OrderT.metrics a1) (OrderT.notes a1) n (0 : Int)))
       none)
      none)
     none))
   none)
  none) := by
  refine Eq.trans (b := (cond (sm_store a0)
  (cond (sm_store a0)
   (cond (!(storeOk a0))
    (k [.d .store a0, .d .bool false])
    (cond (sm_store a0)
     (cond (sm_order a1)
      (cond ((fun (s : StoreT) (_ : ByteArray) => gLenW s.items) a0 (OrderT.name a1))
       (cond (decide ((itemAt a0 (OrderT.name a1)) ≥ (0 : Int)))
        (cond ((decide ((0 : Int) ≤ (itemAt a0 (OrderT.name a1)))) && (decide ((itemAt a0 (OrderT.name a1)) < ((StoreT.items a0).length : Int))))
         (cond (sm_store (⟨((StoreT.items a0).set (Int.toNat (itemAt a0 (OrderT.name a1))) (⟨a1, (StoreT.next a0)⟩ : ItemT)), (IntKind.wrap .i64 ((StoreT.next a0) + (1 : Int)))⟩ : StoreT))
          (cond (!(storeOk (⟨((StoreT.items a0).set (Int.toNat (itemAt a0 (OrderT.name a1))) (⟨a1, (StoreT.next a0)⟩ : ItemT)), (IntKind.wrap .i64 ((StoreT.next a0) + (1 : Int)))⟩ : StoreT)))
           (k [.d .store a0, .d .bool false])
           (k [.d .store (⟨((StoreT.items a0).set (Int.toNat (itemAt a0 (OrderT.name a1))) (⟨a1, (StoreT.next a0)⟩ : ItemT)), (IntKind.wrap .i64 ((StoreT.next a0) + (1 : Int)))⟩ : StoreT), .d .bool true]))
          none)
         none)
        (iter (fun st k => ev f91e f91k n (cAt [1,1,1,1,1,1,1,0,1,1,1,0,0,0] f91c) st k) n (f91S0 (0 : Int) (OrderT.name a1) (OrderT.target a1) (OrderT.low a1) (OrderT.high a1) (OrderT.metrics a1) (PaceT.up (OrderT.pace a1)) (PaceT.down (OrderT.pace a1)) (PaceT.upSpan (OrderT.pace a1)) (PaceT.downSpan (OrderT.pace a1)) (OrderT.notes a1) (StoreT.next a0) (IntKind.wrap .i64 ((StoreT.next a0) + (1 : Int))) (OrderT.name a1) (OrderT.target a1) (OrderT.low a1) (OrderT.high a1) (PaceT.up (OrderT.pace a1)) (PaceT.down (OrderT.pace a1)) (PaceT.upSpan (OrderT.pace a1)) (PaceT.downSpan (OrderT.pace a1)) (StoreT.next a0) (StoreT.items a0) (StoreT.items a0) (OrderT.metrics a1) (OrderT.notes a1)) (f91K0 n (exitK f91e [.ro, .ro] [false, false] true [.cell 4 43, .tmp 5] [43, 4] [.d .store a0, .d .order a1] k))))
       none)
      none)
     none))
   none)
  none)) (by kernel_rfl) ?_
  simp only [f91L0_eq, f91K0_x0, f91K0_x1]
def f91_P (a0 : StoreT) (a1 : OrderT) (o : StoreT × Bool) : Prop := (fun s _ r => sm_store r.1 = true ∧ r.1.items.length ≤ s.items.length + 1) a0 a1 o ∧ ∃ n : Nat, ∀ {R : Type} (k : List Dt → Option R), evFn f91e f91k n f91c [.ro, .ro] [false, false] true [.cell 4 43, .tmp 5] [43, 4] [.d .store a0, .d .order a1] k = k [.d .store o.1, .d .bool o.2]
theorem f91_ex (a0 : StoreT) (a1 : OrderT) (hg : gSP a0 a1 = true) : ∃ o : StoreT × Bool, (fun s _ r => sm_store r.1 = true ∧ r.1.items.length ≤ s.items.length + 1) a0 a1 o ∧ ∃ n : Nat, ∀ {R : Type} (k : List Dt → Option R), evFn f91e f91k n f91c [.ro, .ro] [false, false] true [.cell 4 43, .tmp 5] [43, 4] [.d .store a0, .d .order a1] k = k [.d .store o.1, .d .bool o.2] := by
  have key : ∀ (nm b1 : ByteArray) (i2 i3 : Int) (ms : List MetricT) (i5 i6 i7 i8 : Int) (ns : List NoteT) (j1 j2 : Int) (c0 c1 : ByteArray) (e0 e1 e2 e3 e4 e5 e6 : Int) (ys xs : List ItemT) (ms2 : List MetricT) (ns2 : List NoteT), xs.length ≤ 1000 → ∀ (d m j : Nat), j + d = xs.length → d < m →
      ∃ q : Nat, q ≤ xs.length ∧ ∀ {R : Type} (X : Int → Bool → Option R) (Y Z : Int → Option R), (∀ i b, X i b = Z i) → (∀ i, Y i = Z i) → f91L0 1001 X Y nm b1 i2 i3 ms i5 i6 i7 i8 ns j1 j2 c0 c1 e0 e1 e2 e3 e4 e5 e6 ys xs ms2 ns2 m (j : Int) = Z (q : Int) := by
    intro nm b1 i2 i3 ms i5 i6 i7 i8 ns j1 j2 c0 c1 e0 e1 e2 e3 e4 e5 e6 ys xs ms2 ns2 hxs d
    induction d with
    | zero =>
      intro m j hj hm
      obtain ⟨m, rfl⟩ : ∃ m', m = m' + 1 := ⟨m - 1, by omega⟩
      refine ⟨j, by omega, fun {R} X Y Z hX hY => ?_⟩
      simp only [f91L0, decide_eq_false (show ¬ ((j : Int) < (xs.length : Int)) by omega), cond_false, hY]
    | succ d ih =>
      intro m j hj hm
      obtain ⟨m, rfl⟩ : ∃ m', m = m' + 1 := ⟨m - 1, by omega⟩
      obtain ⟨h1, h0, hw, ht⟩ := idx (show j < xs.length by omega) (by omega)
      cases hlt : sLt (atI (t := .item) xs j).order.name nm
      · refine ⟨j, by omega, fun {R} X Y Z hX hY => ?_⟩
        simp only [f91L0, h1, h0, ht, hlt, Bool.and_self, cond_true, cond_false, hX]
      · obtain ⟨q, hq, hh⟩ := ih m (j + 1) (by omega) (by omega)
        refine ⟨q, hq, fun {R} X Y Z hX hY => ?_⟩
        simp only [f91L0, h1, h0, hw, ht, hlt, Bool.and_self, cond_true, cond_false]
        exact hh X Y Z hX hY
  simp only [gSP, Bool.and_eq_true] at hg
  obtain ⟨hs, ho, hn⟩ := hg
  have hn := bleN hn
  obtain ⟨hi0, hnx⟩ := store_parts hs
  have gl : gLenW a0.items = true := gLenW_of (by omega)
  have hx := item_mk ho hnx
  cases hst : storeOk a0
  · refine ⟨(?az0, ?bz0), ?gz0, 0, ?rz0⟩
    case rz0 =>
      intro R k
      rw [f91_run]
      simp only [hs, hst, Bool.not_true, Bool.not_false, cond_true, cond_false]
      exact rfl
    case gz0 => exact ⟨hs, Nat.le_succ _⟩
  rcases itemAt_bd a0 a1.name with hneg | ⟨i, e, hi⟩
  · obtain ⟨q, hq, hh⟩ := key a1.name a1.target a1.low a1.high a1.metrics a1.pace.up a1.pace.down a1.pace.upSpan a1.pace.downSpan a1.notes a0.next (IntKind.wrap .i64 (a0.next + (1 : Int))) a1.name a1.target a1.low a1.high a1.pace.up a1.pace.down a1.pace.upSpan a1.pace.downSpan a0.next a0.items a0.items a1.metrics a1.notes hn a0.items.length 1001 0 (by omega) (by omega)
    have hge : decide (itemAt a0 a1.name ≥ (0 : Int)) = false := decide_eq_false (by omega)
    have d1 : decide ((0 : Int) ≤ (q : Int)) = true := decide_eq_true (by omega)
    have d2 : decide ((q : Int) ≤ (a0.items.length : Int)) = true := decide_eq_true (by omega)
    have d3 : decide ((a0.items.length : Int) ≤ (a0.items.length : Int)) = true := decide_eq_true (Int.le_refl _)
    have l1 : Nat.ble (0 + (a0.items.take q).length) LIM = true := lim_le (by rw [List.length_take]; omega)
    have l2 : Nat.ble ((a0.items.take q).length + 1) LIM = true := lim_le (by rw [List.length_take]; omega)
    have l3 : Nat.ble ((a0.items.take q ++ [(⟨a1, a0.next⟩ : ItemT)]).length + (a0.items.drop q).length) LIM = true := lim_le (by simp only [List.length_append, List.length_take, List.length_drop, List.length_cons, List.length_nil]; omega)
    have q1 : leC q 0 q 0 = true := leC_self _ _
    have so : sm_store (⟨a0.items.take q ++ [⟨a1, a0.next⟩] ++ a0.items.drop q, (IntKind.wrap .i64 (a0.next + (1 : Int)))⟩ : StoreT) = true := store_mk (items_put hi0 hx hn q) (okI_wrap _)
    cases hso : storeOk (⟨a0.items.take q ++ [⟨a1, a0.next⟩] ++ a0.items.drop q, (IntKind.wrap .i64 (a0.next + (1 : Int)))⟩ : StoreT)
    · refine ⟨(?az1, ?bz1), ?gz1, 1001, ?rz1⟩
      case rz1 =>
        intro R k
        rw [f91_run]
        simp only [hs, ho, gl, hst, hge, Bool.not_true, Bool.not_false, cond_true, cond_false]
        refine Eq.trans (hh _ _ _ (fun _ _ => rfl) (fun _ => rfl)) ?_
        simp only [List.nil_append, List.drop_zero, Int.toNat_natCast, List.take_length, eta_order2, eta_order, d1, d2, d3, l1, l2, l3, q1, so, hso, Bool.and_self, Bool.not_false, cond_true]
        exact rfl
      case gz1 => exact ⟨hs, Nat.le_succ _⟩
    · refine ⟨(?az2, ?bz2), ?gz2, 1001, ?rz2⟩
      case rz2 =>
        intro R k
        rw [f91_run]
        simp only [hs, ho, gl, hst, hge, Bool.not_true, Bool.not_false, cond_true, cond_false]
        refine Eq.trans (hh _ _ _ (fun _ _ => rfl) (fun _ => rfl)) ?_
        simp only [List.nil_append, List.drop_zero, Int.toNat_natCast, List.take_length, eta_order2, eta_order, d1, d2, d3, l1, l2, l3, q1, so, hso, Bool.and_self, Bool.not_true, cond_true, cond_false]
        exact rfl
      case gz2 => exact ⟨so, by simp only [List.length_append, List.length_take, List.length_drop, List.length_cons, List.length_nil]; omega⟩
  · have hge : decide ((i : Int) ≥ (0 : Int)) = true := decide_eq_true (by omega)
    have hix : decide ((i : Int) < (a0.items.length : Int)) = true := decide_eq_true (by omega)
    have so : sm_store (⟨a0.items.set i ⟨a1, a0.next⟩, (IntKind.wrap .i64 (a0.next + (1 : Int)))⟩ : StoreT) = true := store_mk (items_set hi0 hx i) (okI_wrap _)
    cases hso : storeOk (⟨a0.items.set i ⟨a1, a0.next⟩, (IntKind.wrap .i64 (a0.next + (1 : Int)))⟩ : StoreT)
    · refine ⟨(?az3, ?bz3), ?gz3, 0, ?rz3⟩
      case rz3 =>
        intro R k
        rw [f91_run]
        simp only [hs, ho, gl, hst, e, hge, hix, so, hso, Int.toNat_natCast, Bool.and_self, Bool.not_true, Bool.not_false, cond_true, cond_false]
        exact rfl
      case gz3 => exact ⟨hs, Nat.le_succ _⟩
    · refine ⟨(?az4, ?bz4), ?gz4, 0, ?rz4⟩
      case rz4 =>
        intro R k
        rw [f91_run]
        simp only [hs, ho, gl, hst, e, hge, hix, so, hso, Int.toNat_natCast, Bool.and_self, Bool.not_true, Bool.not_false, cond_true, cond_false]
        exact rfl
      case gz4 => exact ⟨so, by simp only [List.length_set]; omega⟩

theorem f91_ne (a0 : StoreT) (a1 : OrderT) : Nonempty {o : StoreT × Bool // gSP a0 a1 = true → f91_P a0 a1 o} := by
  by_cases hg : gSP a0 a1 = true
  · obtain ⟨o, ho⟩ := f91_ex a0 a1 hg
    exact ⟨⟨o, fun _ => ho⟩⟩
  · exact ⟨⟨((zero .store), (zero .bool)), fun h => absurd h hg⟩⟩
noncomputable def sPut (a0 : StoreT) (a1 : OrderT) : StoreT × Bool := (Classical.choice (f91_ne a0 a1)).val
theorem f91_sp (a0 : StoreT) (a1 : OrderT) (hg : gSP a0 a1 = true) : f91_P a0 a1 (sPut a0 a1) := (Classical.choice (f91_ne a0 a1)).property hg
theorem sPut_ok (a0 : StoreT) (a1 : OrderT) (hg : gSP a0 a1 = true) : (fun s _ r => sm_store r.1 = true ∧ r.1.items.length ≤ s.items.length + 1) a0 a1 (sPut a0 a1) := (f91_sp a0 a1 hg).1
theorem f91_spec (a0 : StoreT) (a1 : OrderT) (hg : gSP a0 a1 = true) : ∃ keep rounds, ∀ {R : Type} (k : List Dt → Option R), evFn f91e keep rounds f91c [.ro, .ro] [false, false] true [.cell 4 43, .tmp 5] [43, 4] [.d .store a0, .d .order a1] k = k [.d .store ((sPut a0 a1).1), .d .bool ((sPut a0 a1).2)] := by
  obtain ⟨n, hn⟩ := (f91_sp a0 a1 hg).2
  exact ⟨f91k, n, hn⟩

noncomputable def q91 : List Dt → Option (Bool × List Dt)
  | [.d .store a0, .d .order a1] => some ((gSP a0 a1), [.d .store ((sPut a0 a1).1), .d .bool ((sPut a0 a1).2)])
  | _ => none
noncomputable def s91 : Gm.Spec := Gm.Spec.of [.ro, .ro] [false, false] true q91
theorem good91 : Gm.Good Try.prog (91, s91) := by
  have hl : ∀ x ∈ [(100, s100), (101, s101), (102, s102), (103, s103)], Gm.Good Try.prog x := List.forall_mem_cons.2 ⟨good100, List.forall_mem_cons.2 ⟨good101, List.forall_mem_cons.2 ⟨good102, List.forall_mem_cons.2 ⟨good103, List.forall_mem_nil _⟩⟩⟩⟩
  refine ⟨⟨spec_ok (tab_ok.env hl) (tab.natl hl) Try.func91 (by kernel_rfl : Try.f91.body = some f91c) [43, 4] (by kernel_rfl) ?_, _, Try.func91, by kernel_rfl, of_decide_eq_true (by kernel_rfl)⟩, Gm.Spec.of_natl _ _ _ _⟩
  intro ds outs h
  unfold q91 at h
  split at h
  · simp only [Option.some.injEq, Prod.mk.injEq] at h; obtain ⟨hg, h⟩ := h; cases h; exact f91_spec _ _ hg
  · cases h
/-! ### loop.example/g00465/spec.Drop -/
noncomputable def f90c : Code := (Try.f90.body).getD .skip
def f90k : Nat → Kp := kat [⟨[1, 2, 4], [], [], []⟩, ⟨[1, 2, 4, 6], [], [], []⟩, ⟨[2, 4, 6, 7], [], [], []⟩, ⟨[4, 6, 7, 19], [], [], []⟩, ⟨[4, 5], [], [], []⟩, ⟨[4, 6], [], [], []⟩, ⟨[4, 5], [], [], []⟩]
noncomputable def f90e : Env := tab.env [(100, s100), (101, s101), (102, s102)]
theorem f90_run {R : Type} (n : Nat) (k : List Dt → Option R) (a0 : StoreT) (a1 : ByteArray) : evFn f90e f90k n f90c [.ro, .ro] [false, false] true [.cell 4 43, .tmp 5] [43, 4] [.d .store a0, .d .str a1] k =
    (cond (sm_store a0)
  (cond ((fun (s : StoreT) (_ : ByteArray) => gLenW s.items) a0 a1)
   (cond (sm_store a0)
    (cond (!(storeOk a0))
     (k [.d .store a0, .d .bool false])
     (cond (decide ((itemAt a0 a1) < (0 : Int)))
      (k [.d .store a0, .d .bool false])
      (cond ((decide ((0 : Int) ≤ (itemAt a0 a1))) && (decide ((itemAt a0 a1) ≤ ((StoreT.items a0).length : Int))))
       (cond (Nat.ble (0 + (((StoreT.items a0).take (Int.toNat (itemAt a0 a1))).drop 0).length) LIM)
        (cond ((decide ((0 : Int) ≤ (IntKind.wrap .i64 ((itemAt a0 a1) + (1 : Int))))) && ((decide ((IntKind.wrap .i64 ((itemAt a0 a1) + (1 : Int))) ≤ ((StoreT.items a0).length : Int))) && (decide (((StoreT.items a0).length : Int) ≤ ((StoreT.items a0).length : Int)))))
         (cond (leC (Int.toNat (itemAt a0 a1)) 0 (Int.toNat (IntKind.wrap .i64 ((itemAt a0 a1) + (1 : Int)))) 0)
          (cond (Nat.ble ((([] : List ItemT) ++ (((StoreT.items a0).take (Int.toNat (itemAt a0 a1))).drop 0)).length + (((StoreT.items a0).take (Int.toNat ((StoreT.items a0).length : Int))).drop (Int.toNat (IntKind.wrap .i64 ((itemAt a0 a1) + (1 : Int))))).length) LIM)
           (k [.d .store (⟨((([] : List ItemT) ++ (((StoreT.items a0).take (Int.toNat (itemAt a0 a1))).drop 0)) ++ (((StoreT.items a0).take (Int.toNat ((StoreT.items a0).length : Int))).drop (Int.toNat (IntKind.wrap .i64 ((itemAt a0 a1) + (1 : Int)))))), (StoreT.next a0)⟩ : StoreT), .d .bool true])
           none)
          none)
         none)
        none)
       none)))
    none)
   none)
  none) := by kernel_rfl
def f90_P (a0 : StoreT) (a1 : ByteArray) (o : StoreT × Bool) : Prop := (fun s _ r => sm_store r.1 = true ∧ r.1.items.length ≤ s.items.length) a0 a1 o ∧ ∃ n : Nat, ∀ {R : Type} (k : List Dt → Option R), evFn f90e f90k n f90c [.ro, .ro] [false, false] true [.cell 4 43, .tmp 5] [43, 4] [.d .store a0, .d .str a1] k = k [.d .store o.1, .d .bool o.2]
theorem f90_ex (a0 : StoreT) (a1 : ByteArray) (hg : gSD a0 a1 = true) : ∃ o : StoreT × Bool, (fun s _ r => sm_store r.1 = true ∧ r.1.items.length ≤ s.items.length) a0 a1 o ∧ ∃ n : Nat, ∀ {R : Type} (k : List Dt → Option R), evFn f90e f90k n f90c [.ro, .ro] [false, false] true [.cell 4 43, .tmp 5] [43, 4] [.d .store a0, .d .str a1] k = k [.d .store o.1, .d .bool o.2] := by
  simp only [gSD, Bool.and_eq_true] at hg
  obtain ⟨hs, hn⟩ := hg
  have hn := bleN hn
  obtain ⟨hi0, hnx⟩ := store_parts hs
  have gl : gLenW a0.items = true := gLenW_of (by omega)
  cases hst : storeOk a0
  · refine ⟨(?az0, ?bz0), ?gz0, 0, ?rz0⟩
    case rz0 =>
      intro R k
      rw [f90_run]
      simp only [hs, gl, hst, Bool.not_true, Bool.not_false, cond_true, cond_false]
      exact rfl
    case gz0 => exact ⟨hs, Nat.le_refl _⟩
  rcases itemAt_bd a0 a1 with hneg | ⟨i, e, hi⟩
  · have hlt : decide (itemAt a0 a1 < (0 : Int)) = true := decide_eq_true hneg
    refine ⟨(?az1, ?bz1), ?gz1, 0, ?rz1⟩
    case rz1 =>
      intro R k
      rw [f90_run]
      simp only [hs, gl, hst, hlt, Bool.not_true, Bool.not_false, cond_true, cond_false]
      exact rfl
    case gz1 => exact ⟨hs, Nat.le_refl _⟩
  · have hlt : decide ((i : Int) < (0 : Int)) = false := decide_eq_false (by omega)
    have hw : IntKind.wrap .i64 ((i : Int) + (1 : Int)) = ((i + 1 : Nat) : Int) := by rw [wrap_id (by omega) (by omega)]; omega
    have d1 : decide ((0 : Int) ≤ (i : Int)) = true := decide_eq_true (by omega)
    have d2 : decide ((i : Int) ≤ (a0.items.length : Int)) = true := decide_eq_true (by omega)
    have d3 : decide ((a0.items.length : Int) ≤ (a0.items.length : Int)) = true := decide_eq_true (Int.le_refl _)
    have d4 : decide ((0 : Int) ≤ ((i + 1 : Nat) : Int)) = true := decide_eq_true (by omega)
    have d5 : decide (((i + 1 : Nat) : Int) ≤ (a0.items.length : Int)) = true := decide_eq_true (by omega)
    have l1 : Nat.ble (0 + (a0.items.take i).length) LIM = true := lim_le (by rw [List.length_take]; omega)
    have l2 : Nat.ble ((a0.items.take i).length + (a0.items.drop (i + 1)).length) LIM = true := lim_le (by simp only [List.length_take, List.length_drop]; omega)
    have q1 : leC i 0 (i + 1) 0 = true := leC_lt (Nat.lt_succ_self i)
    have so : sm_store (⟨a0.items.take i ++ a0.items.drop (i + 1), a0.next⟩ : StoreT) = true := store_mk (items_cut hi0 i (i + 1) (Nat.le_succ i)) hnx
    refine ⟨(?az2, ?bz2), ?gz2, 0, ?rz2⟩
    case rz2 =>
      intro R k
      rw [f90_run]
      simp only [hs, gl, hst, e, hlt, hw, d1, d2, d3, d4, d5, Bool.and_self, List.nil_append, List.drop_zero, Int.toNat_natCast, List.take_length, eta_order2, eta_order, l1, l2, q1, Bool.not_true, Bool.not_false, cond_true, cond_false]
      exact rfl
    case gz2 => exact ⟨so, by simp only [List.length_append, List.length_take, List.length_drop]; omega⟩

theorem f90_ne (a0 : StoreT) (a1 : ByteArray) : Nonempty {o : StoreT × Bool // gSD a0 a1 = true → f90_P a0 a1 o} := by
  by_cases hg : gSD a0 a1 = true
  · obtain ⟨o, ho⟩ := f90_ex a0 a1 hg
    exact ⟨⟨o, fun _ => ho⟩⟩
  · exact ⟨⟨((zero .store), (zero .bool)), fun h => absurd h hg⟩⟩
noncomputable def sDrop (a0 : StoreT) (a1 : ByteArray) : StoreT × Bool := (Classical.choice (f90_ne a0 a1)).val
theorem f90_sp (a0 : StoreT) (a1 : ByteArray) (hg : gSD a0 a1 = true) : f90_P a0 a1 (sDrop a0 a1) := (Classical.choice (f90_ne a0 a1)).property hg
theorem sDrop_ok (a0 : StoreT) (a1 : ByteArray) (hg : gSD a0 a1 = true) : (fun s _ r => sm_store r.1 = true ∧ r.1.items.length ≤ s.items.length) a0 a1 (sDrop a0 a1) := (f90_sp a0 a1 hg).1
theorem f90_spec (a0 : StoreT) (a1 : ByteArray) (hg : gSD a0 a1 = true) : ∃ keep rounds, ∀ {R : Type} (k : List Dt → Option R), evFn f90e keep rounds f90c [.ro, .ro] [false, false] true [.cell 4 43, .tmp 5] [43, 4] [.d .store a0, .d .str a1] k = k [.d .store ((sDrop a0 a1).1), .d .bool ((sDrop a0 a1).2)] := by
  obtain ⟨n, hn⟩ := (f90_sp a0 a1 hg).2
  exact ⟨f90k, n, hn⟩

noncomputable def q90 : List Dt → Option (Bool × List Dt)
  | [.d .store a0, .d .str a1] => some ((gSD a0 a1), [.d .store ((sDrop a0 a1).1), .d .bool ((sDrop a0 a1).2)])
  | _ => none
noncomputable def s90 : Gm.Spec := Gm.Spec.of [.ro, .ro] [false, false] true q90
theorem good90 : Gm.Good Try.prog (90, s90) := by
  have hl : ∀ x ∈ [(100, s100), (101, s101), (102, s102)], Gm.Good Try.prog x := List.forall_mem_cons.2 ⟨good100, List.forall_mem_cons.2 ⟨good101, List.forall_mem_cons.2 ⟨good102, List.forall_mem_nil _⟩⟩⟩
  refine ⟨⟨spec_ok (tab_ok.env hl) (tab.natl hl) Try.func90 (by kernel_rfl : Try.f90.body = some f90c) [43, 4] (by kernel_rfl) ?_, _, Try.func90, by kernel_rfl, of_decide_eq_true (by kernel_rfl)⟩, Gm.Spec.of_natl _ _ _ _⟩
  intro ds outs h
  unfold q90 at h
  split at h
  · simp only [Option.some.injEq, Prod.mk.injEq] at h; obtain ⟨hg, h⟩ := h; cases h; exact f90_spec _ _ hg
  · cases h
end Go.Proofs.Ytklmnopgogcbhaa

/- x -/
namespace Go.Proofs.Ytklmnopgogcbhaa
open Go Go.Gm
/-! ### loop.example/g00465/spec.l1New -/
noncomputable def f53S0 (y0 : List Int) (y1 : Int) (y2 : Int) : St := ⟨[(0, .c (.one (.rk (.i .u8) y0))), (3, .c (.one (.v (.int .i64 y1)))), (4, .c (.one (.v (.int .i64 y2))))], [], []⟩
noncomputable def f53S1 (y0 : List Int) (y1 : Int) (y2 : Int) (y3 : Bool) : St := ⟨[(0, .c (.one (.rk (.i .u8) y0))), (3, .c (.one (.v (.int .i64 y1)))), (4, .c (.one (.v (.int .i64 y2)))), (15, .c (.one (.v (.bool y3))))], [], []⟩
noncomputable def f53c : Code := (Try.f53.body).getD .skip
def f53k : Nat → Kp := kat [⟨[0], [], [], []⟩, ⟨[0, 3], [], [], []⟩, ⟨[0, 3, 4], [], [], []⟩, ⟨[0, 3, 4, 15], [], [], []⟩, ⟨[0, 3, 4], [], [], []⟩, ⟨[0, 3, 4], [], [], []⟩, ⟨[2], [], [], []⟩]
noncomputable def f53e : Env := tab.env []
noncomputable def f53L0 {R : Type} (n : Nat) (x0 : Int → Int → Bool → Option R) (x1 : Int → Int → Option R) (vs0 : List Int) : Nat → Int → Int → Option R
  | 0, _, _ => none
  | m + 1, vs3, vs4 =>
    (cond (decide (vs4 < (vs0.length : Int)))
   (cond (decide (vs4 < (4000 : Int)))
    (cond ((decide ((0 : Int) ≤ vs4)) && (decide (vs4 < (vs0.length : Int))))
     (f53L0 n x0 x1 vs0 m (IntKind.wrap .i64 ((BitVec.toNat (BitVec.ofInt (IntKind.bits .i64) (IntKind.wrap .i64 ((IntKind.wrap .i64 ((IntKind.wrap .i64 (vs3 * (131 : Int))) + (IntKind.wrap .i64 (atI (t := (.i .u8)) vs0 (Int.toNat vs4))))) + (7 : Int))) &&& BitVec.ofInt (IntKind.bits .i64) (1073741823 : Int)) : Nat) : Int)) (IntKind.wrap .i64 (vs4 + (1 : Int))))
     none)
    (x0 vs3 vs4 (decide (vs4 < (4000 : Int)))))
   (x1 vs3 vs4))
theorem f53L0_b {R : Type} (n : Nat) (k' : Ex → St → Option R) (vs0 : List Int) (vs3 : Int) (vs4 : Int) : ev f53e f53k n (cAt [1,1,0,1,0,0] f53c) (f53S0 vs0 vs3 vs4) k' =
    (cond (decide (vs4 < (vs0.length : Int)))
  (cond (decide (vs4 < (4000 : Int)))
   (cond ((decide ((0 : Int) ≤ vs4)) && (decide (vs4 < (vs0.length : Int))))
    (k' .normal (f53S0 vs0 (IntKind.wrap .i64 ((BitVec.toNat (BitVec.ofInt (IntKind.bits .i64) (IntKind.wrap .i64 ((IntKind.wrap .i64 ((IntKind.wrap .i64 (vs3 * (131 : Int))) + (IntKind.wrap .i64 (atI (t := (.i .u8)) vs0 (Int.toNat vs4))))) + (7 : Int))) &&& BitVec.ofInt (IntKind.bits .i64) (1073741823 : Int)) : Nat) : Int)) (IntKind.wrap .i64 (vs4 + (1 : Int)))))
    none)
   (k' (.exit 0) (f53S1 vs0 vs3 vs4 (decide (vs4 < (4000 : Int))))))
  (k' (.exit 0) (f53S1 vs0 vs3 vs4 false))) := by kernel_rfl
theorem f53L0_eq {R : Type} (n : Nat) (k' : Ex → St → Option R) (vs0 : List Int) : ∀ (m : Nat) (vs3 : Int) (vs4 : Int), iter (fun st k => ev f53e f53k n (cAt [1,1,0,1,0,0] f53c) st k) m (f53S0 vs0 vs3 vs4) k' = f53L0 n (fun (xvs3 : Int) (xvs4 : Int) (xvs15 : Bool) => k' (.exit 0) (f53S1 vs0 xvs3 xvs4 xvs15)) (fun (xvs3 : Int) (xvs4 : Int) => k' (.exit 0) (f53S1 vs0 xvs3 xvs4 false)) vs0 m vs3 vs4 := by
  intro m; induction m with
  | zero => intros; rfl
  | succ m ih =>
    intro vs3 vs4
    simp only [iter]
    rw [f53L0_b]
    simp only [ih, f53L0]

noncomputable def f53K0 {R : Type} (n : Nat) (k' : Ex → St → Option R) : Ex → St → Option R := (blockK 0 (seqK f53e f53k n (cAt [1,1,1] f53c) k'))
theorem f53K0_x0 {R : Type} (n : Nat) (k : List Dt → Option R) (a0 : List Int) (vs0 : List Int) (xvs3 : Int) (xvs4 : Int) (xvs15 : Bool) : f53K0 n (exitK f53e [.kp] [true] true [.tmp 2] [79] [.d (.sl (.i .u8)) a0] k) (.exit 0) (f53S1 vs0 xvs3 xvs4 xvs15) =
    (k [.d .cur (⟨vs0, (0 : Int), xvs3⟩ : CurT)]) := by kernel_rfl
theorem f53K0_x1 {R : Type} (n : Nat) (k : List Dt → Option R) (a0 : List Int) (vs0 : List Int) (xvs3 : Int) (xvs4 : Int) : f53K0 n (exitK f53e [.kp] [true] true [.tmp 2] [79] [.d (.sl (.i .u8)) a0] k) (.exit 0) (f53S1 vs0 xvs3 xvs4 false) =
    (k [.d .cur (⟨vs0, (0 : Int), xvs3⟩ : CurT)]) := by kernel_rfl

theorem f53_run {R : Type} (n : Nat) (k : List Dt → Option R) (a0 : List Int) : evFn f53e f53k n f53c [.kp] [true] true [.tmp 2] [79] [.d (.sl (.i .u8)) a0] k =
    (f53L0 n (fun (xvs3 : Int) (xvs4 : Int) (xvs15 : Bool) =>
  (k [.d .cur (⟨a0, (0 : Int), xvs3⟩ : CurT)])) (fun (xvs3 : Int) (xvs4 : Int) =>
  (k [.d .cur (⟨a0, (0 : Int), xvs3⟩ : CurT)])) a0 n (IntKind.wrap .i64 ((27212 : Int) + (a0.length : Int))) (0 : Int)) := by
  refine Eq.trans (b := (iter (fun st k => ev f53e f53k n (cAt [1,1,0,1,0,0] f53c) st k) n (f53S0 a0 (IntKind.wrap .i64 ((27212 : Int) + (a0.length : Int))) (0 : Int)) (f53K0 n (exitK f53e [.kp] [true] true [.tmp 2] [79] [.d (.sl (.i .u8)) a0] k)))) (by kernel_rfl) ?_
  simp only [f53L0_eq, f53K0_x0, f53K0_x1]
def f53_P (a0 : List Int) (o : CurT) : Prop := (fun _ o => gCur o = true) a0 o ∧ ∃ n : Nat, ∀ {R : Type} (k : List Dt → Option R), evFn f53e f53k n f53c [.kp] [true] true [.tmp 2] [79] [.d (.sl (.i .u8)) a0] k = k [.d .cur o]
theorem f53_ex (a0 : List Int) (hg : gCode a0 = true) : ∃ o : CurT, (fun _ o => gCur o = true) a0 o ∧ ∃ n : Nat, ∀ {R : Type} (k : List Dt → Option R), evFn f53e f53k n f53c [.kp] [true] true [.tmp 2] [79] [.d (.sl (.i .u8)) a0] k = k [.d .cur o] := by
  have hl : a0.length ≤ 1048576 := bleN hg
  have key : ∀ (d : Nat) (m : Nat) (h : Int) (i : Nat), i + d = 4000 → d < m → ∃ h' : Int, ∀ {R : Type} (X : Int → Int → Bool → Option R) (Y : Int → Int → Option R) (Z : Int → Option R), (∀ x y z, X x y z = Z x) → (∀ x y, Y x y = Z x) → f53L0 4001 X Y a0 m h (i : Int) = Z h' := by
    intro d
    induction d with
    | zero =>
      intro m h i hi hm
      obtain ⟨m, rfl⟩ : ∃ m', m = m' + 1 := ⟨m - 1, by omega⟩
      refine ⟨h, fun {R} X Y Z hX hY => ?_⟩
      simp only [f53L0, decide_eq_false (show ¬ ((i : Int) < 4000) by omega), cond_false]
      cases decide ((i : Int) < (a0.length : Int)) <;> simp only [cond_true, cond_false, hX, hY]
    | succ d ih =>
      intro m h i hi hm
      obtain ⟨m, rfl⟩ : ∃ m', m = m' + 1 := ⟨m - 1, by omega⟩
      cases hd : decide ((i : Int) < (a0.length : Int))
      · refine ⟨h, fun {R} X Y Z hX hY => ?_⟩
        simp only [f53L0, hd, cond_false, hY]
      · obtain ⟨h', hh⟩ := ih m _ (i + 1) (by omega) (by omega)
        refine ⟨h', fun {R} X Y Z hX hY => ?_⟩
        simp only [f53L0, hd, decide_eq_true (show (i : Int) < 4000 by omega), decide_eq_true (show (0 : Int) ≤ (i : Int) by omega), Bool.and_self, cond_true, wrap_id (x := (i : Int) + 1) (by omega) (by omega)]
        exact hh X Y Z hX hY
  obtain ⟨h', hh⟩ := key 4000 4001 (IntKind.wrap .i64 ((27212 : Int) + (a0.length : Int))) 0 rfl (by omega)
  refine ⟨⟨a0, 0, h'⟩, gCur_iff.2 ⟨Int.le_refl _, hl⟩, 4001, fun {R} k => ?_⟩
  rw [f53_run]
  exact hh _ _ (fun x => k [.d .cur ⟨a0, 0, x⟩]) (fun _ _ _ => rfl) (fun _ _ => rfl)

theorem f53_ne (a0 : List Int) : Nonempty {o : CurT // gCode a0 = true → f53_P a0 o} := by
  by_cases hg : gCode a0 = true
  · obtain ⟨o, ho⟩ := f53_ex a0 hg
    exact ⟨⟨o, fun _ => ho⟩⟩
  · exact ⟨⟨((zero .cur)), fun h => absurd h hg⟩⟩
noncomputable def curNew (a0 : List Int) : CurT := (Classical.choice (f53_ne a0)).val
theorem f53_sp (a0 : List Int) (hg : gCode a0 = true) : f53_P a0 (curNew a0) := (Classical.choice (f53_ne a0)).property hg
theorem curNew_ok (a0 : List Int) (hg : gCode a0 = true) : (fun _ o => gCur o = true) a0 (curNew a0) := (f53_sp a0 hg).1
theorem curNew_g (a0 : List Int) (hg : gCode a0 = true) : gCur (curNew a0) = true := by
  have h := curNew_ok a0 hg
  first | exact h | exact h.2 | exact h.2.2 | exact h.2.2.2
theorem f53_spec (a0 : List Int) (hg : gCode a0 = true) : ∃ keep rounds, ∀ {R : Type} (k : List Dt → Option R), evFn f53e keep rounds f53c [.kp] [true] true [.tmp 2] [79] [.d (.sl (.i .u8)) a0] k = k [.d .cur (curNew a0)] := by
  obtain ⟨n, hn⟩ := (f53_sp a0 hg).2
  exact ⟨f53k, n, hn⟩

noncomputable def q53 : List Dt → Option (Bool × List Dt)
  | [.d (.sl (.i .u8)) a0] => some ((gCode a0), [.d .cur (curNew a0)])
  | _ => none
noncomputable def s53 : Gm.Spec := Gm.Spec.of [.kp] [true] true q53
theorem good53 : Gm.Good Try.prog (53, s53) := by
  have hl : ∀ x ∈ ([] : List (Nat × Gm.Spec)), Gm.Good Try.prog x := fun _ h => by cases h
  refine ⟨⟨spec_ok (tab_ok.env hl) (tab.natl hl) Try.func53 (by kernel_rfl : Try.f53.body = some f53c) [79] (by kernel_rfl) ?_, _, Try.func53, by kernel_rfl, of_decide_eq_true (by kernel_rfl)⟩, Gm.Spec.of_natl _ _ _ _⟩
  intro ds outs h
  unfold q53 at h
  split at h
  · simp only [Option.some.injEq, Prod.mk.injEq] at h; obtain ⟨hg, h⟩ := h; cases h; exact f53_spec _ hg
  · cases h
/-! ### loop.example/g00465/spec.l1Byte -/
noncomputable def f78c : Code := (Try.f78.body).getD .skip
def f78k : Nat → Kp := kat [⟨[0], [], [], []⟩, ⟨[0], [], [], []⟩, ⟨[0, 3], [], [], []⟩, ⟨[0, 3, 34], [], [], []⟩, ⟨[0, 3], [], [], []⟩, ⟨[0, 3], [], [], []⟩, ⟨[0, 2], [], [], []⟩]
noncomputable def f78e : Env := tab.env []
theorem f78_run {R : Type} (n : Nat) (k : List Dt → Option R) (a0 : CurT) : evFn f78e f78k n f78c [.pmut] [false] true [.tmp 2] [3] [.d .cur a0] k =
    (cond (decide ((CurT.i a0) < ((CurT.b a0).length : Int)))
  (cond ((decide ((0 : Int) ≤ (CurT.i a0))) && (decide ((CurT.i a0) < ((CurT.b a0).length : Int))))
   (k [.d (.i .i64) (IntKind.wrap .i64 ((BitVec.toNat (BitVec.ofInt (IntKind.bits .i64) (IntKind.wrap .i64 ((IntKind.wrap .i64 ((BitVec.toNat (BitVec.ofInt (IntKind.bits .i64) (IntKind.wrap .i64 ((BitVec.toNat (BitVec.ofInt (IntKind.bits .i64) (Int.fdiv (IntKind.wrap .i64 ((IntKind.wrap .i64 ((CurT.h a0) * (6364136223846793005 : Int))) + (1442695040888963407 : Int))) (2 ^ (min (Int.toNat (33 : Int)) (IntKind.bits .i64)))) ^^^ BitVec.ofInt (IntKind.bits .i64) (Int.fdiv (IntKind.wrap .i64 ((IntKind.wrap .i64 ((CurT.h a0) * (6364136223846793005 : Int))) + (1442695040888963407 : Int))) (2 ^ (min (Int.toNat (45 : Int)) (IntKind.bits .i64))))) : Nat) : Int)) &&& BitVec.ofInt (IntKind.bits .i64) (255 : Int)) : Nat) : Int)) + (IntKind.wrap .i64 (atI (t := (.i .u8)) (CurT.b a0) (Int.toNat (CurT.i a0)))))) &&& BitVec.ofInt (IntKind.bits .i64) (255 : Int)) : Nat) : Int)), .d .cur (⟨(CurT.b a0), (IntKind.wrap .i64 ((CurT.i a0) + (1 : Int))), (IntKind.wrap .i64 ((IntKind.wrap .i64 ((CurT.h a0) * (6364136223846793005 : Int))) + (1442695040888963407 : Int)))⟩ : CurT)])
   none)
  (k [.d (.i .i64) (IntKind.wrap .i64 ((BitVec.toNat (BitVec.ofInt (IntKind.bits .i64) (IntKind.wrap .i64 ((BitVec.toNat (BitVec.ofInt (IntKind.bits .i64) (Int.fdiv (IntKind.wrap .i64 ((IntKind.wrap .i64 ((CurT.h a0) * (6364136223846793005 : Int))) + (1442695040888963407 : Int))) (2 ^ (min (Int.toNat (33 : Int)) (IntKind.bits .i64)))) ^^^ BitVec.ofInt (IntKind.bits .i64) (Int.fdiv (IntKind.wrap .i64 ((IntKind.wrap .i64 ((CurT.h a0) * (6364136223846793005 : Int))) + (1442695040888963407 : Int))) (2 ^ (min (Int.toNat (45 : Int)) (IntKind.bits .i64))))) : Nat) : Int)) &&& BitVec.ofInt (IntKind.bits .i64) (255 : Int)) : Nat) : Int)), .d .cur (⟨(CurT.b a0), (CurT.i a0), (IntKind.wrap .i64 ((IntKind.wrap .i64 ((CurT.h a0) * (6364136223846793005 : Int))) + (1442695040888963407 : Int)))⟩ : CurT)])) := by kernel_rfl
def f78_P (a0 : CurT) (o : Int × CurT) : Prop := (fun _ o => (0 ≤ o.1 ∧ o.1 ≤ 255) ∧ gCur o.2 = true) a0 o ∧ ∃ n : Nat, ∀ {R : Type} (k : List Dt → Option R), evFn f78e f78k n f78c [.pmut] [false] true [.tmp 2] [3] [.d .cur a0] k = k [.d (.i .i64) o.1, .d .cur o.2]
theorem f78_ex (a0 : CurT) (hg : gCur a0 = true) : ∃ o : Int × CurT, (fun _ o => (0 ≤ o.1 ∧ o.1 ≤ 255) ∧ gCur o.2 = true) a0 o ∧ ∃ n : Nat, ∀ {R : Type} (k : List Dt → Option R), evFn f78e f78k n f78c [.pmut] [false] true [.tmp 2] [3] [.d .cur a0] k = k [.d (.i .i64) o.1, .d .cur o.2] := by
  obtain ⟨h0, hl⟩ := gCur_iff.1 hg
  cases hd : decide (CurT.i a0 < ((CurT.b a0).length : Int))
  · refine ⟨(?az0, ?bz0), ?gz0, 0, ?rz0⟩
    case rz0 =>
      intro R k
      rw [f78_run]
      simp only [hd, Bool.and_self, cond_true, cond_false]
      exact rfl
    case gz0 => exact ⟨and255w _, gCur_iff.2 ⟨h0, hl⟩⟩
  · have hlt := of_decide_eq_true hd
    refine ⟨(?az1, ?bz1), ?gz1, 0, ?rz1⟩
    case rz1 =>
      intro R k
      rw [f78_run]
      simp only [hd, decide_eq_true h0, Bool.and_self, cond_true, cond_false]
      exact rfl
    case gz1 =>
      refine ⟨and255w _, gCur_iff.2 ⟨?_, hl⟩⟩
      show 0 ≤ IntKind.wrap .i64 (CurT.i a0 + 1)
      rw [wrap_id (by omega) (by omega)]; omega

theorem f78_ne (a0 : CurT) : Nonempty {o : Int × CurT // gCur a0 = true → f78_P a0 o} := by
  by_cases hg : gCur a0 = true
  · obtain ⟨o, ho⟩ := f78_ex a0 hg
    exact ⟨⟨o, fun _ => ho⟩⟩
  · exact ⟨⟨((zero (.i .i64)), (zero .cur)), fun h => absurd h hg⟩⟩
noncomputable def curByte (a0 : CurT) : Int × CurT := (Classical.choice (f78_ne a0)).val
theorem f78_sp (a0 : CurT) (hg : gCur a0 = true) : f78_P a0 (curByte a0) := (Classical.choice (f78_ne a0)).property hg
theorem curByte_ok (a0 : CurT) (hg : gCur a0 = true) : (fun _ o => (0 ≤ o.1 ∧ o.1 ≤ 255) ∧ gCur o.2 = true) a0 (curByte a0) := (f78_sp a0 hg).1
theorem curByte_g (a0 : CurT) (hg : gCur a0 = true) : gCur (curByte a0).2 = true := by
  have h := curByte_ok a0 hg
  first | exact h | exact h.2 | exact h.2.2 | exact h.2.2.2
theorem f78_spec (a0 : CurT) (hg : gCur a0 = true) : ∃ keep rounds, ∀ {R : Type} (k : List Dt → Option R), evFn f78e keep rounds f78c [.pmut] [false] true [.tmp 2] [3] [.d .cur a0] k = k [.d (.i .i64) ((curByte a0).1), .d .cur ((curByte a0).2)] := by
  obtain ⟨n, hn⟩ := (f78_sp a0 hg).2
  exact ⟨f78k, n, hn⟩

noncomputable def q78 : List Dt → Option (Bool × List Dt)
  | [.d .cur a0] => some ((gCur a0), [.d (.i .i64) ((curByte a0).1), .d .cur ((curByte a0).2)])
  | _ => none
noncomputable def s78 : Gm.Spec := Gm.Spec.of [.pmut] [false] true q78
theorem good78 : Gm.Good Try.prog (78, s78) := by
  have hl : ∀ x ∈ ([] : List (Nat × Gm.Spec)), Gm.Good Try.prog x := fun _ h => by cases h
  refine ⟨⟨spec_ok (tab_ok.env hl) (tab.natl hl) Try.func78 (by kernel_rfl : Try.f78.body = some f78c) [3] (by kernel_rfl) ?_, _, Try.func78, by kernel_rfl, of_decide_eq_true (by kernel_rfl)⟩, Gm.Spec.of_natl _ _ _ _⟩
  intro ds outs h
  unfold q78 at h
  split at h
  · simp only [Option.some.injEq, Prod.mk.injEq] at h; obtain ⟨hg, h⟩ := h; cases h; exact f78_spec _ hg
  · cases h
/-! ### loop.example/g00465/spec.l1Below -/
noncomputable def f57c : Code := (Try.f57.body).getD .skip
def f57k : Nat → Kp := kat [⟨[0, 1], [], [], []⟩, ⟨[0, 1, 10], [], [], []⟩, ⟨[0, 4], [], [], []⟩, ⟨[0, 1, 12], [], [], []⟩, ⟨[0, 4], [], [], []⟩, ⟨[0, 1, 5], [], [], []⟩, ⟨[0, 1, 5, 6], [], [], []⟩, ⟨[0, 1, 5, 6, 7], [], [], []⟩, ⟨[0, 1, 5, 6, 7, 8], [], [], []⟩, ⟨[0, 4], [], [], []⟩]
noncomputable def f57e : Env := tab.env [(78, s78)]
theorem f57_run {R : Type} (n : Nat) (k : List Dt → Option R) (a0 : CurT) (a1 : Int) : evFn f57e f57k n f57c [.pmut, .ro] [false] true [.tmp 4] [3] [.d .cur a0, .d (.i .i64) a1] k =
    (cond (decide (a1 ≤ (0 : Int)))
  (k [.d (.i .i64) (0 : Int), .d .cur a0])
  (cond (decide (a1 ≤ (256 : Int)))
   (cond (gCur a0)
    (cond (decide (a1 = 0))
     none
     (k [.d (.i .i64) (Int.tmod ((curByte a0).1) a1), .d .cur ((curByte a0).2)]))
    none)
   (cond (gCur a0)
    (cond (gCur ((curByte a0).2))
     (cond (gCur ((curByte ((curByte a0).2)).2))
      (cond (gCur ((curByte ((curByte ((curByte a0).2)).2)).2))
       (cond (decide (a1 = 0))
        none
        (k [.d (.i .i64) (Int.tmod (IntKind.wrap .i64 ((IntKind.wrap .i64 ((IntKind.wrap .i64 ((IntKind.wrap .i64 (((curByte a0).1) * (16777216 : Int))) + (IntKind.wrap .i64 (((curByte ((curByte a0).2)).1) * (65536 : Int))))) + (IntKind.wrap .i64 (((curByte ((curByte ((curByte a0).2)).2)).1) * (256 : Int))))) + ((curByte ((curByte ((curByte ((curByte a0).2)).2)).2)).1))) a1), .d .cur ((curByte ((curByte ((curByte ((curByte a0).2)).2)).2)).2)]))
       none)
      none)
     none)
    none))) := by kernel_rfl
def f57_P (a0 : CurT) (a1 : Int) (o : Int × CurT) : Prop := (fun _ n o => 0 ≤ o.1 ∧ (0 < n → o.1 < n) ∧ gCur o.2 = true) a0 a1 o ∧ ∃ n : Nat, ∀ {R : Type} (k : List Dt → Option R), evFn f57e f57k n f57c [.pmut, .ro] [false] true [.tmp 4] [3] [.d .cur a0, .d (.i .i64) a1] k = k [.d (.i .i64) o.1, .d .cur o.2]
theorem f57_ex (a0 : CurT) (a1 : Int) (hg : (fun c _ => gCur c) a0 a1 = true) : ∃ o : Int × CurT, (fun _ n o => 0 ≤ o.1 ∧ (0 < n → o.1 < n) ∧ gCur o.2 = true) a0 a1 o ∧ ∃ n : Nat, ∀ {R : Type} (k : List Dt → Option R), evFn f57e f57k n f57c [.pmut, .ro] [false] true [.tmp 4] [3] [.d .cur a0, .d (.i .i64) a1] k = k [.d (.i .i64) o.1, .d .cur o.2] := by
  have hg : gCur a0 = true := hg
  cases h1 : decide (a1 ≤ (0 : Int))
  · have hn := of_decide_eq_false h1
    have hz : decide (a1 = 0) = false := decide_eq_false (by omega)
    obtain ⟨b1, g1⟩ := curByte_ok a0 hg
    cases h2 : decide (a1 ≤ (256 : Int))
    · obtain ⟨b2, g2⟩ := curByte_ok _ g1
      obtain ⟨b3, g3⟩ := curByte_ok _ g2
      obtain ⟨b4, g4⟩ := curByte_ok _ g3
      refine ⟨(?az0, ?bz0), ?gz0, 0, ?rz0⟩
      case rz0 =>
        intro R k
        rw [f57_run]
        simp only [h1, h2, hz, hg, g1, g2, g3, Bool.and_self, cond_true, cond_false]
        exact rfl
      case gz0 =>
        have := tmod_bd (below4 b1 b2 b3 b4) (show 0 < a1 by omega)
        exact ⟨this.1, fun _ => this.2, g4⟩
    · refine ⟨(?az1, ?bz1), ?gz1, 0, ?rz1⟩
      case rz1 =>
        intro R k
        rw [f57_run]
        simp only [h1, h2, hz, hg, Bool.and_self, cond_true, cond_false]
        exact rfl
      case gz1 =>
        have := tmod_bd b1.1 (show 0 < a1 by omega)
        exact ⟨this.1, fun _ => this.2, g1⟩
  · have hn := of_decide_eq_true h1
    refine ⟨(?az2, ?bz2), ?gz2, 0, ?rz2⟩
    case rz2 =>
      intro R k
      rw [f57_run]
      simp only [h1, Bool.and_self, cond_true, cond_false]
      exact rfl
    case gz2 => exact ⟨Int.le_refl _, fun h => by omega, hg⟩

theorem f57_ne (a0 : CurT) (a1 : Int) : Nonempty {o : Int × CurT // (fun c _ => gCur c) a0 a1 = true → f57_P a0 a1 o} := by
  by_cases hg : (fun c _ => gCur c) a0 a1 = true
  · obtain ⟨o, ho⟩ := f57_ex a0 a1 hg
    exact ⟨⟨o, fun _ => ho⟩⟩
  · exact ⟨⟨((zero (.i .i64)), (zero .cur)), fun h => absurd h hg⟩⟩
noncomputable def curBelow (a0 : CurT) (a1 : Int) : Int × CurT := (Classical.choice (f57_ne a0 a1)).val
theorem f57_sp (a0 : CurT) (a1 : Int) (hg : (fun c _ => gCur c) a0 a1 = true) : f57_P a0 a1 (curBelow a0 a1) := (Classical.choice (f57_ne a0 a1)).property hg
theorem curBelow_ok (a0 : CurT) (a1 : Int) (hg : (fun c _ => gCur c) a0 a1 = true) : (fun _ n o => 0 ≤ o.1 ∧ (0 < n → o.1 < n) ∧ gCur o.2 = true) a0 a1 (curBelow a0 a1) := (f57_sp a0 a1 hg).1
theorem curBelow_g (a0 : CurT) (a1 : Int) (hg : gCur a0 = true) : gCur (curBelow a0 a1).2 = true := by
  have h := curBelow_ok a0 a1 hg
  first | exact h | exact h.2 | exact h.2.2 | exact h.2.2.2
theorem f57_spec (a0 : CurT) (a1 : Int) (hg : (fun c _ => gCur c) a0 a1 = true) : ∃ keep rounds, ∀ {R : Type} (k : List Dt → Option R), evFn f57e keep rounds f57c [.pmut, .ro] [false] true [.tmp 4] [3] [.d .cur a0, .d (.i .i64) a1] k = k [.d (.i .i64) ((curBelow a0 a1).1), .d .cur ((curBelow a0 a1).2)] := by
  obtain ⟨n, hn⟩ := (f57_sp a0 a1 hg).2
  exact ⟨f57k, n, hn⟩

noncomputable def q57 : List Dt → Option (Bool × List Dt)
  | [.d .cur a0, .d (.i .i64) a1] => some (((fun c _ => gCur c) a0 a1), [.d (.i .i64) ((curBelow a0 a1).1), .d .cur ((curBelow a0 a1).2)])
  | _ => none
noncomputable def s57 : Gm.Spec := Gm.Spec.of [.pmut, .ro] [false] true q57
theorem good57 : Gm.Good Try.prog (57, s57) := by
  have hl : ∀ x ∈ [(78, s78)], Gm.Good Try.prog x := List.forall_mem_cons.2 ⟨good78, List.forall_mem_nil _⟩
  refine ⟨⟨spec_ok (tab_ok.env hl) (tab.natl hl) Try.func57 (by kernel_rfl : Try.f57.body = some f57c) [3] (by kernel_rfl) ?_, _, Try.func57, by kernel_rfl, of_decide_eq_true (by kernel_rfl)⟩, Gm.Spec.of_natl _ _ _ _⟩
  intro ds outs h
  unfold q57 at h
  split at h
  · simp only [Option.some.injEq, Prod.mk.injEq] at h; obtain ⟨hg, h⟩ := h; cases h; exact f57_spec _ _ hg
  · cases h
/-! ### loop.example/g00465/spec.l1Once -/
noncomputable def f55c : Code := (Try.f55.body).getD .skip
def f55k : Nat → Kp := kat [⟨[0, 1], [], [], []⟩, ⟨[0, 4], [], [], []⟩]
noncomputable def f55e : Env := tab.env [(57, s57)]
theorem f55_run {R : Type} (n : Nat) (k : List Dt → Option R) (a0 : CurT) (a1 : Int) : evFn f55e f55k n f55c [.pmut, .ro] [false] true [.tmp 4] [4] [.d .cur a0, .d (.i .i64) a1] k =
    (cond ((fun c _ => gCur c) a0 a1)
  (k [.d .bool (((curBelow a0 a1).1) == (0 : Int)), .d .cur ((curBelow a0 a1).2)])
  none) := by kernel_rfl
def f55_P (a0 : CurT) (a1 : Int) (o : Bool × CurT) : Prop := (fun _ _ o => gCur o.2 = true) a0 a1 o ∧ ∃ n : Nat, ∀ {R : Type} (k : List Dt → Option R), evFn f55e f55k n f55c [.pmut, .ro] [false] true [.tmp 4] [4] [.d .cur a0, .d (.i .i64) a1] k = k [.d .bool o.1, .d .cur o.2]
theorem f55_ex (a0 : CurT) (a1 : Int) (hg : (fun c _ => gCur c) a0 a1 = true) : ∃ o : Bool × CurT, (fun _ _ o => gCur o.2 = true) a0 a1 o ∧ ∃ n : Nat, ∀ {R : Type} (k : List Dt → Option R), evFn f55e f55k n f55c [.pmut, .ro] [false] true [.tmp 4] [4] [.d .cur a0, .d (.i .i64) a1] k = k [.d .bool o.1, .d .cur o.2] := by
  have hg : gCur a0 = true := hg
  obtain ⟨_, _, g1⟩ := curBelow_ok a0 a1 hg
  refine ⟨(?az0, ?bz0), ?gz0, 0, ?rz0⟩
  case rz0 =>
    intro R k
    rw [f55_run]
    simp only [hg, cond_true]
    exact rfl
  case gz0 => exact g1

theorem f55_ne (a0 : CurT) (a1 : Int) : Nonempty {o : Bool × CurT // (fun c _ => gCur c) a0 a1 = true → f55_P a0 a1 o} := by
  by_cases hg : (fun c _ => gCur c) a0 a1 = true
  · obtain ⟨o, ho⟩ := f55_ex a0 a1 hg
    exact ⟨⟨o, fun _ => ho⟩⟩
  · exact ⟨⟨((zero .bool), (zero .cur)), fun h => absurd h hg⟩⟩
noncomputable def curOnce (a0 : CurT) (a1 : Int) : Bool × CurT := (Classical.choice (f55_ne a0 a1)).val
theorem f55_sp (a0 : CurT) (a1 : Int) (hg : (fun c _ => gCur c) a0 a1 = true) : f55_P a0 a1 (curOnce a0 a1) := (Classical.choice (f55_ne a0 a1)).property hg
theorem curOnce_ok (a0 : CurT) (a1 : Int) (hg : (fun c _ => gCur c) a0 a1 = true) : (fun _ _ o => gCur o.2 = true) a0 a1 (curOnce a0 a1) := (f55_sp a0 a1 hg).1
theorem curOnce_g (a0 : CurT) (a1 : Int) (hg : gCur a0 = true) : gCur (curOnce a0 a1).2 = true := by
  have h := curOnce_ok a0 a1 hg
  first | exact h | exact h.2 | exact h.2.2 | exact h.2.2.2
theorem f55_spec (a0 : CurT) (a1 : Int) (hg : (fun c _ => gCur c) a0 a1 = true) : ∃ keep rounds, ∀ {R : Type} (k : List Dt → Option R), evFn f55e keep rounds f55c [.pmut, .ro] [false] true [.tmp 4] [4] [.d .cur a0, .d (.i .i64) a1] k = k [.d .bool ((curOnce a0 a1).1), .d .cur ((curOnce a0 a1).2)] := by
  obtain ⟨n, hn⟩ := (f55_sp a0 a1 hg).2
  exact ⟨f55k, n, hn⟩

noncomputable def q55 : List Dt → Option (Bool × List Dt)
  | [.d .cur a0, .d (.i .i64) a1] => some (((fun c _ => gCur c) a0 a1), [.d .bool ((curOnce a0 a1).1), .d .cur ((curOnce a0 a1).2)])
  | _ => none
noncomputable def s55 : Gm.Spec := Gm.Spec.of [.pmut, .ro] [false] true q55
theorem good55 : Gm.Good Try.prog (55, s55) := by
  have hl : ∀ x ∈ [(57, s57)], Gm.Good Try.prog x := List.forall_mem_cons.2 ⟨good57, List.forall_mem_nil _⟩
  refine ⟨⟨spec_ok (tab_ok.env hl) (tab.natl hl) Try.func55 (by kernel_rfl : Try.f55.body = some f55c) [4] (by kernel_rfl) ?_, _, Try.func55, by kernel_rfl, of_decide_eq_true (by kernel_rfl)⟩, Gm.Spec.of_natl _ _ _ _⟩
  intro ds outs h
  unfold q55 at h
  split at h
  · simp only [Option.some.injEq, Prod.mk.injEq] at h; obtain ⟨hg, h⟩ := h; cases h; exact f55_spec _ _ hg
  · cases h
/-! ### loop.example/g00465/spec.l1Pick -/
noncomputable def f77c : Code := (Try.f77.body).getD .skip
def f77k : Nat → Kp := kat [⟨[0, 1], [], [], []⟩, ⟨[0, 4], [], [], []⟩]
noncomputable def f77e : Env := tab.env [(57, s57)]
theorem f77_run {R : Type} (n : Nat) (k : List Dt → Option R) (a0 : CurT) (a1 : List ByteArray) : evFn f77e f77k n f77c [.pmut, .ro] [false] true [.tmp 4] [9] [.d .cur a0, .d (.sl .str) a1] k =
    (cond ((fun c _ => gCur c) a0 (a1.length : Int))
  (cond ((decide ((0 : Int) ≤ ((curBelow a0 (a1.length : Int)).1))) && (decide (((curBelow a0 (a1.length : Int)).1) < (a1.length : Int))))
   (k [.d .str (atI (t := .str) a1 (Int.toNat ((curBelow a0 (a1.length : Int)).1))), .d .cur ((curBelow a0 (a1.length : Int)).2)])
   none)
  none) := by kernel_rfl
def f77_P (a0 : CurT) (a1 : List ByteArray) (o : ByteArray × CurT) : Prop := (fun _ l o => o.1 ∈ l ∧ gCur o.2 = true) a0 a1 o ∧ ∃ n : Nat, ∀ {R : Type} (k : List Dt → Option R), evFn f77e f77k n f77c [.pmut, .ro] [false] true [.tmp 4] [9] [.d .cur a0, .d (.sl .str) a1] k = k [.d .str o.1, .d .cur o.2]
theorem f77_ex (a0 : CurT) (a1 : List ByteArray) (hg : gPickS a0 a1 = true) : ∃ o : ByteArray × CurT, (fun _ l o => o.1 ∈ l ∧ gCur o.2 = true) a0 a1 o ∧ ∃ n : Nat, ∀ {R : Type} (k : List Dt → Option R), evFn f77e f77k n f77c [.pmut, .ro] [false] true [.tmp 4] [9] [.d .cur a0, .d (.sl .str) a1] k = k [.d .str o.1, .d .cur o.2] := by
  obtain ⟨hg, hne⟩ := Bool.and_eq_true_iff.1 hg
  obtain ⟨hne, hl⟩ := Bool.and_eq_true_iff.1 hne
  obtain ⟨h0, h1, g1⟩ := curBelow_ok a0 (a1.length : Int) hg
  have h1 := h1 (lenPos hne)
  refine ⟨(?az0, ?bz0), ?gz0, 0, ?rz0⟩
  case rz0 =>
    intro R k
    rw [f77_run]
    simp only [hg, idxOk h0 h1, cond_true]
    exact rfl
  case gz0 => exact ⟨mem_atI (t := .str) h0 h1, g1⟩

theorem f77_ne (a0 : CurT) (a1 : List ByteArray) : Nonempty {o : ByteArray × CurT // gPickS a0 a1 = true → f77_P a0 a1 o} := by
  by_cases hg : gPickS a0 a1 = true
  · obtain ⟨o, ho⟩ := f77_ex a0 a1 hg
    exact ⟨⟨o, fun _ => ho⟩⟩
  · exact ⟨⟨((zero .str), (zero .cur)), fun h => absurd h hg⟩⟩
noncomputable def curPick (a0 : CurT) (a1 : List ByteArray) : ByteArray × CurT := (Classical.choice (f77_ne a0 a1)).val
theorem f77_sp (a0 : CurT) (a1 : List ByteArray) (hg : gPickS a0 a1 = true) : f77_P a0 a1 (curPick a0 a1) := (Classical.choice (f77_ne a0 a1)).property hg
theorem curPick_ok (a0 : CurT) (a1 : List ByteArray) (hg : gPickS a0 a1 = true) : (fun _ l o => o.1 ∈ l ∧ gCur o.2 = true) a0 a1 (curPick a0 a1) := (f77_sp a0 a1 hg).1
theorem curPick_g (a0 : CurT) (a1 : List ByteArray) (hg : gPickS a0 a1 = true) : gCur (curPick a0 a1).2 = true := by
  have h := curPick_ok a0 a1 hg
  first | exact h | exact h.2 | exact h.2.2 | exact h.2.2.2
theorem f77_spec (a0 : CurT) (a1 : List ByteArray) (hg : gPickS a0 a1 = true) : ∃ keep rounds, ∀ {R : Type} (k : List Dt → Option R), evFn f77e keep rounds f77c [.pmut, .ro] [false] true [.tmp 4] [9] [.d .cur a0, .d (.sl .str) a1] k = k [.d .str ((curPick a0 a1).1), .d .cur ((curPick a0 a1).2)] := by
  obtain ⟨n, hn⟩ := (f77_sp a0 a1 hg).2
  exact ⟨f77k, n, hn⟩

noncomputable def q77 : List Dt → Option (Bool × List Dt)
  | [.d .cur a0, .d (.sl .str) a1] => some ((gPickS a0 a1), [.d .str ((curPick a0 a1).1), .d .cur ((curPick a0 a1).2)])
  | _ => none
noncomputable def s77 : Gm.Spec := Gm.Spec.of [.pmut, .ro] [false] true q77
theorem good77 : Gm.Good Try.prog (77, s77) := by
  have hl : ∀ x ∈ [(57, s57)], Gm.Good Try.prog x := List.forall_mem_cons.2 ⟨good57, List.forall_mem_nil _⟩
  refine ⟨⟨spec_ok (tab_ok.env hl) (tab.natl hl) Try.func77 (by kernel_rfl : Try.f77.body = some f77c) [9] (by kernel_rfl) ?_, _, Try.func77, by kernel_rfl, of_decide_eq_true (by kernel_rfl)⟩, Gm.Spec.of_natl _ _ _ _⟩
  intro ds outs h
  unfold q77 at h
  split at h
  · simp only [Option.some.injEq, Prod.mk.injEq] at h; obtain ⟨hg, h⟩ := h; cases h; exact f77_spec _ _ hg
  · cases h
/-! ### loop.example/g00465/spec.l1PickInt -/
noncomputable def f75c : Code := (Try.f75.body).getD .skip
def f75k : Nat → Kp := kat [⟨[0, 1], [], [], []⟩, ⟨[0, 4], [], [], []⟩]
noncomputable def f75e : Env := tab.env [(57, s57)]
theorem f75_run {R : Type} (n : Nat) (k : List Dt → Option R) (a0 : CurT) (a1 : List Int) : evFn f75e f75k n f75c [.pmut, .ro] [false] true [.tmp 4] [3] [.d .cur a0, .d (.sl (.i .i64)) a1] k =
    (cond ((fun c _ => gCur c) a0 (a1.length : Int))
  (cond ((decide ((0 : Int) ≤ ((curBelow a0 (a1.length : Int)).1))) && (decide (((curBelow a0 (a1.length : Int)).1) < (a1.length : Int))))
   (k [.d (.i .i64) (atI (t := (.i .i64)) a1 (Int.toNat ((curBelow a0 (a1.length : Int)).1))), .d .cur ((curBelow a0 (a1.length : Int)).2)])
   none)
  none) := by kernel_rfl
def f75_P (a0 : CurT) (a1 : List Int) (o : Int × CurT) : Prop := (fun _ l o => o.1 ∈ l ∧ gCur o.2 = true) a0 a1 o ∧ ∃ n : Nat, ∀ {R : Type} (k : List Dt → Option R), evFn f75e f75k n f75c [.pmut, .ro] [false] true [.tmp 4] [3] [.d .cur a0, .d (.sl (.i .i64)) a1] k = k [.d (.i .i64) o.1, .d .cur o.2]
theorem f75_ex (a0 : CurT) (a1 : List Int) (hg : gPickI a0 a1 = true) : ∃ o : Int × CurT, (fun _ l o => o.1 ∈ l ∧ gCur o.2 = true) a0 a1 o ∧ ∃ n : Nat, ∀ {R : Type} (k : List Dt → Option R), evFn f75e f75k n f75c [.pmut, .ro] [false] true [.tmp 4] [3] [.d .cur a0, .d (.sl (.i .i64)) a1] k = k [.d (.i .i64) o.1, .d .cur o.2] := by
  obtain ⟨hg, hne⟩ := Bool.and_eq_true_iff.1 hg
  obtain ⟨hne, hl⟩ := Bool.and_eq_true_iff.1 hne
  obtain ⟨h0, h1, g1⟩ := curBelow_ok a0 (a1.length : Int) hg
  have h1 := h1 (lenPos hne)
  refine ⟨(?az0, ?bz0), ?gz0, 0, ?rz0⟩
  case rz0 =>
    intro R k
    rw [f75_run]
    simp only [hg, idxOk h0 h1, cond_true]
    exact rfl
  case gz0 => exact ⟨mem_atI (t := (.i .i64)) h0 h1, g1⟩

theorem f75_ne (a0 : CurT) (a1 : List Int) : Nonempty {o : Int × CurT // gPickI a0 a1 = true → f75_P a0 a1 o} := by
  by_cases hg : gPickI a0 a1 = true
  · obtain ⟨o, ho⟩ := f75_ex a0 a1 hg
    exact ⟨⟨o, fun _ => ho⟩⟩
  · exact ⟨⟨((zero (.i .i64)), (zero .cur)), fun h => absurd h hg⟩⟩
noncomputable def curPickI (a0 : CurT) (a1 : List Int) : Int × CurT := (Classical.choice (f75_ne a0 a1)).val
theorem f75_sp (a0 : CurT) (a1 : List Int) (hg : gPickI a0 a1 = true) : f75_P a0 a1 (curPickI a0 a1) := (Classical.choice (f75_ne a0 a1)).property hg
theorem curPickI_ok (a0 : CurT) (a1 : List Int) (hg : gPickI a0 a1 = true) : (fun _ l o => o.1 ∈ l ∧ gCur o.2 = true) a0 a1 (curPickI a0 a1) := (f75_sp a0 a1 hg).1
theorem curPickI_g (a0 : CurT) (a1 : List Int) (hg : gPickI a0 a1 = true) : gCur (curPickI a0 a1).2 = true := by
  have h := curPickI_ok a0 a1 hg
  first | exact h | exact h.2 | exact h.2.2 | exact h.2.2.2
theorem f75_spec (a0 : CurT) (a1 : List Int) (hg : gPickI a0 a1 = true) : ∃ keep rounds, ∀ {R : Type} (k : List Dt → Option R), evFn f75e keep rounds f75c [.pmut, .ro] [false] true [.tmp 4] [3] [.d .cur a0, .d (.sl (.i .i64)) a1] k = k [.d (.i .i64) ((curPickI a0 a1).1), .d .cur ((curPickI a0 a1).2)] := by
  obtain ⟨n, hn⟩ := (f75_sp a0 a1 hg).2
  exact ⟨f75k, n, hn⟩
theorem smStr_pick {c : CurT} {l : List ByteArray} (hg : gCur c = true) (hn : (!l.isEmpty && Nat.ble l.length 1048576) = true) (h : (l.all smStr) = true) : smStr (curPick c l).1 = true :=
  smStr_in (curPick_ok c l (gPickS_of hg hn)).1 h
theorem okI_pickI {c : CurT} {l : List Int} (hg : gCur c = true) (hn : (!l.isEmpty && Nat.ble l.length 1048576) = true) (h : (l.all okI) = true) : okI (curPickI c l).1 = true :=
  List.all_eq_true.1 h _ (curPickI_ok c l (gPickI_of hg hn)).1
theorem okI_below {c : CurT} {n : Int} (hg : gCur c = true) (h : 0 < n) (h2 : n ≤ 9223372036854775807) : okI (curBelow c n).1 = true := by
  obtain ⟨h0, h1, _⟩ := curBelow_ok c n hg
  have := h1 h
  exact okI_of (by omega) (by omega)

noncomputable def q75 : List Dt → Option (Bool × List Dt)
  | [.d .cur a0, .d (.sl (.i .i64)) a1] => some ((gPickI a0 a1), [.d (.i .i64) ((curPickI a0 a1).1), .d .cur ((curPickI a0 a1).2)])
  | _ => none
noncomputable def s75 : Gm.Spec := Gm.Spec.of [.pmut, .ro] [false] true q75
theorem good75 : Gm.Good Try.prog (75, s75) := by
  have hl : ∀ x ∈ [(57, s57)], Gm.Good Try.prog x := List.forall_mem_cons.2 ⟨good57, List.forall_mem_nil _⟩
  refine ⟨⟨spec_ok (tab_ok.env hl) (tab.natl hl) Try.func75 (by kernel_rfl : Try.f75.body = some f75c) [3] (by kernel_rfl) ?_, _, Try.func75, by kernel_rfl, of_decide_eq_true (by kernel_rfl)⟩, Gm.Spec.of_natl _ _ _ _⟩
  intro ds outs h
  unfold q75 at h
  split at h
  · simp only [Option.some.injEq, Prod.mk.injEq] at h; obtain ⟨hg, h⟩ := h; cases h; exact f75_spec _ _ hg
  · cases h
end Go.Proofs.Ytklmnopgogcbhaa

/- x -/
namespace Go.Proofs.Ytklmnopgogcbhaa
open Go Go.Gm
/-! ### loop.example/g00465/spec.PaceNew -/
noncomputable def f112c : Code := (Try.f112.body).getD .skip
def f112k : Nat → Kp := kat [⟨[0], [], [], []⟩, ⟨[0], [], [], []⟩]
noncomputable def f112e : Env := tab.env []
theorem f112_run {R : Type} (n : Nat) (k : List Dt → Option R)  : evFn f112e f112k n f112c [] [false] true [.cell 0 86] [86] [] k =
    (k [.d .pace (⟨(0 : Int), (0 : Int), (0 : Int), (300 : Int)⟩ : PaceT)]) := by kernel_rfl
theorem f112_spec  : ∃ keep rounds, ∀ {R : Type} (k : List Dt → Option R), evFn f112e keep rounds f112c [] [false] true [.cell 0 86] [86] [] k = k [.d .pace paceNew] := by
  exact ⟨f112k, 0, fun k => f112_run 0 k⟩

noncomputable def q112 : List Dt → Option (Bool × List Dt)
  | [] => some (true, [.d .pace paceNew])
  | _ => none
noncomputable def s112 : Gm.Spec := Gm.Spec.of [] [false] true q112
theorem good112 : Gm.Good Try.prog (112, s112) := by
  have hl : ∀ x ∈ ([] : List (Nat × Gm.Spec)), Gm.Good Try.prog x := fun _ h => by cases h
  refine ⟨⟨spec_ok (tab_ok.env hl) (tab.natl hl) Try.func112 (by kernel_rfl : Try.f112.body = some f112c) [86] (by kernel_rfl) ?_, _, Try.func112, by kernel_rfl, of_decide_eq_true (by kernel_rfl)⟩, Gm.Spec.of_natl _ _ _ _⟩
  intro ds outs h
  unfold q112 at h
  split at h
  · cases h; exact f112_spec 
  · cases h
/-! ### loop.example/g00465/spec.l3DrawText -/
noncomputable def f105c : Code := (Try.f105.body).getD .skip
def f105k : Nat → Kp := kat [⟨[0], [], [], []⟩, ⟨[0, 2], [], [], []⟩]
noncomputable def f105e : Env := tab.env [(77, s77)]
theorem f105_run {R : Type} (n : Nat) (k : List Dt → Option R) (a0 : CurT) : evFn f105e f105k n f105c [.pmut] [false] true [.tmp 2] [9] [.d .cur a0] k =
    (cond (gPickS a0 ([ByteArray.empty, (bs [97]), (bs [119,101,98]), (bs [116,114,117,101]), (bs [49,50]), (bs [115,97,121,32,34,110,111,34]), (bs [98,97,99,107,92]), (bs [97,58,32,98]), (bs [45,32,120]), (bs [35]), (bs [53,109]), (bs [110,117,108,108]), (bs [32,120])] : List ByteArray))
  (k [.d .str ((curPick a0 ([ByteArray.empty, (bs [97]), (bs [119,101,98]), (bs [116,114,117,101]), (bs [49,50]), (bs [115,97,121,32,34,110,111,34]), (bs [98,97,99,107,92]), (bs [97,58,32,98]), (bs [45,32,120]), (bs [35]), (bs [53,109]), (bs [110,117,108,108]), (bs [32,120])] : List ByteArray)).1), .d .cur ((curPick a0 ([ByteArray.empty, (bs [97]), (bs [119,101,98]), (bs [116,114,117,101]), (bs [49,50]), (bs [115,97,121,32,34,110,111,34]), (bs [98,97,99,107,92]), (bs [97,58,32,98]), (bs [45,32,120]), (bs [35]), (bs [53,109]), (bs [110,117,108,108]), (bs [32,120])] : List ByteArray)).2)])
  none) := by kernel_rfl
def f105_P (a0 : CurT) (o : ByteArray × CurT) : Prop := (fun _ o => smStr o.1 = true ∧ gCur o.2 = true) a0 o ∧ ∃ n : Nat, ∀ {R : Type} (k : List Dt → Option R), evFn f105e f105k n f105c [.pmut] [false] true [.tmp 2] [9] [.d .cur a0] k = k [.d .str o.1, .d .cur o.2]
theorem f105_ex (a0 : CurT) (hg : gCur a0 = true) : ∃ o : ByteArray × CurT, (fun _ o => smStr o.1 = true ∧ gCur o.2 = true) a0 o ∧ ∃ n : Nat, ∀ {R : Type} (k : List Dt → Option R), evFn f105e f105k n f105c [.pmut] [false] true [.tmp 2] [9] [.d .cur a0] k = k [.d .str o.1, .d .cur o.2] := by
  refine ⟨(?a0x0, ?a1x0), ?gx0, 0, ?rx0⟩
  case rx0 =>
    intro R k
    rw [f105_run]
    simp (decide := true) (maxDischargeDepth := 60) only [hg, curNew_g, curByte_g, curBelow_g, curOnce_g, curPick_g, curPickI_g, gPickS_of, gPickI_of, cond_true, cond_false, Bool.not_true, Bool.not_false]
    exact rfl
  case gx0 =>
    simp (decide := true) (maxDischargeDepth := 60) only [hg, curNew_g, curByte_g, curBelow_g, curOnce_g, curPick_g, curPickI_g, smStr_pick, okI_pickI, okI_wrap, okI_below, sm_metric, sm_pace, sm_note, Bool.and_eq_true, and_self, true_and, and_true, gPickS_of, gPickI_of]

theorem f105_ne (a0 : CurT) : Nonempty {o : ByteArray × CurT // gCur a0 = true → f105_P a0 o} := by
  by_cases hg : gCur a0 = true
  · obtain ⟨o, ho⟩ := f105_ex a0 hg
    exact ⟨⟨o, fun _ => ho⟩⟩
  · exact ⟨⟨((zero .str), (zero .cur)), fun h => absurd h hg⟩⟩
noncomputable def tText (a0 : CurT) : ByteArray × CurT := (Classical.choice (f105_ne a0)).val
theorem f105_sp (a0 : CurT) (hg : gCur a0 = true) : f105_P a0 (tText a0) := (Classical.choice (f105_ne a0)).property hg
theorem tText_ok (a0 : CurT) (hg : gCur a0 = true) : (fun _ o => smStr o.1 = true ∧ gCur o.2 = true) a0 (tText a0) := (f105_sp a0 hg).1
theorem tText_g (a0 : CurT) (hg : gCur a0 = true) : gCur (tText a0).2 = true := by
  have h := tText_ok a0 hg
  first | exact h | exact h.2 | exact h.2.2 | exact h.2.2.2
theorem f105_spec (a0 : CurT) (hg : gCur a0 = true) : ∃ keep rounds, ∀ {R : Type} (k : List Dt → Option R), evFn f105e keep rounds f105c [.pmut] [false] true [.tmp 2] [9] [.d .cur a0] k = k [.d .str ((tText a0).1), .d .cur ((tText a0).2)] := by
  obtain ⟨n, hn⟩ := (f105_sp a0 hg).2
  exact ⟨f105k, n, hn⟩

noncomputable def q105 : List Dt → Option (Bool × List Dt)
  | [.d .cur a0] => some ((gCur a0), [.d .str ((tText a0).1), .d .cur ((tText a0).2)])
  | _ => none
noncomputable def s105 : Gm.Spec := Gm.Spec.of [.pmut] [false] true q105
theorem good105 : Gm.Good Try.prog (105, s105) := by
  have hl : ∀ x ∈ [(77, s77)], Gm.Good Try.prog x := List.forall_mem_cons.2 ⟨good77, List.forall_mem_nil _⟩
  refine ⟨⟨spec_ok (tab_ok.env hl) (tab.natl hl) Try.func105 (by kernel_rfl : Try.f105.body = some f105c) [9] (by kernel_rfl) ?_, _, Try.func105, by kernel_rfl, of_decide_eq_true (by kernel_rfl)⟩, Gm.Spec.of_natl _ _ _ _⟩
  intro ds outs h
  unfold q105 at h
  split at h
  · simp only [Option.some.injEq, Prod.mk.injEq] at h; obtain ⟨hg, h⟩ := h; cases h; exact f105_spec _ hg
  · cases h
/-! ### loop.example/g00465/spec.l6DrawMetric -/
noncomputable def f93c : Code := (Try.f93.body).getD .skip
def f93k : Nat → Kp := kat [⟨[0, 2], [], [], []⟩, ⟨[0, 2, 3], [], [], []⟩, ⟨[0, 2, 3, 4], [], [], []⟩, ⟨[0, 2], [], [], []⟩]
noncomputable def f93e : Env := tab.env [(57, s57), (75, s75), (77, s77)]
theorem f93_run {R : Type} (n : Nat) (k : List Dt → Option R) (a0 : CurT) : evFn f93e f93k n f93c [.pmut] [false] true [.cell 2 135] [135] [.d .cur a0] k =
    (cond (gPickS a0 ([(bs [99,112,117]), (bs [109,101,109]), (bs [113,117,101,117,101]), (bs [104,105,116,115])] : List ByteArray))
  (cond ((fun c _ => gCur c) ((curPick a0 ([(bs [99,112,117]), (bs [109,101,109]), (bs [113,117,101,117,101]), (bs [104,105,116,115])] : List ByteArray)).2) (3 : Int))
   (cond (gPickI ((curBelow ((curPick a0 ([(bs [99,112,117]), (bs [109,101,109]), (bs [113,117,101,117,101]), (bs [104,105,116,115])] : List ByteArray)).2) (3 : Int)).2) ([(1 : Int), (500 : Int), (700 : Int), (800 : Int), (805 : Int), (1000 : Int), (50000 : Int), (1000000 : Int)] : List Int))
    (k [.d .metric (⟨((curPick a0 ([(bs [99,112,117]), (bs [109,101,109]), (bs [113,117,101,117,101]), (bs [104,105,116,115])] : List ByteArray)).1), (IntKind.wrap .i64 ((1 : Int) + ((curBelow ((curPick a0 ([(bs [99,112,117]), (bs [109,101,109]), (bs [113,117,101,117,101]), (bs [104,105,116,115])] : List ByteArray)).2) (3 : Int)).1))), ((curPickI ((curBelow ((curPick a0 ([(bs [99,112,117]), (bs [109,101,109]), (bs [113,117,101,117,101]), (bs [104,105,116,115])] : List ByteArray)).2) (3 : Int)).2) ([(1 : Int), (500 : Int), (700 : Int), (800 : Int), (805 : Int), (1000 : Int), (50000 : Int), (1000000 : Int)] : List Int)).1)⟩ : MetricT), .d .cur ((curPickI ((curBelow ((curPick a0 ([(bs [99,112,117]), (bs [109,101,109]), (bs [113,117,101,117,101]), (bs [104,105,116,115])] : List ByteArray)).2) (3 : Int)).2) ([(1 : Int), (500 : Int), (700 : Int), (800 : Int), (805 : Int), (1000 : Int), (50000 : Int), (1000000 : Int)] : List Int)).2)])
    none)
   none)
  none) := by kernel_rfl
def f93_P (a0 : CurT) (o : MetricT × CurT) : Prop := (fun _ o => sm_metric o.1 = true ∧ gCur o.2 = true) a0 o ∧ ∃ n : Nat, ∀ {R : Type} (k : List Dt → Option R), evFn f93e f93k n f93c [.pmut] [false] true [.cell 2 135] [135] [.d .cur a0] k = k [.d .metric o.1, .d .cur o.2]
theorem f93_ex (a0 : CurT) (hg : gCur a0 = true) : ∃ o : MetricT × CurT, (fun _ o => sm_metric o.1 = true ∧ gCur o.2 = true) a0 o ∧ ∃ n : Nat, ∀ {R : Type} (k : List Dt → Option R), evFn f93e f93k n f93c [.pmut] [false] true [.cell 2 135] [135] [.d .cur a0] k = k [.d .metric o.1, .d .cur o.2] := by
  refine ⟨(?a0x0, ?a1x0), ?gx0, 0, ?rx0⟩
  case rx0 =>
    intro R k
    rw [f93_run]
    simp (decide := true) (maxDischargeDepth := 60) only [hg, curNew_g, curByte_g, curBelow_g, curOnce_g, curPick_g, curPickI_g, tText_g, gPickS_of, gPickI_of, cond_true, cond_false, Bool.not_true, Bool.not_false]
    exact rfl
  case gx0 =>
    simp (decide := true) (maxDischargeDepth := 60) only [hg, curNew_g, curByte_g, curBelow_g, curOnce_g, curPick_g, curPickI_g, tText_g, smStr_pick, okI_pickI, okI_wrap, okI_below, sm_metric, sm_pace, sm_note, Bool.and_eq_true, and_self, true_and, and_true, gPickS_of, gPickI_of]

theorem f93_ne (a0 : CurT) : Nonempty {o : MetricT × CurT // gCur a0 = true → f93_P a0 o} := by
  by_cases hg : gCur a0 = true
  · obtain ⟨o, ho⟩ := f93_ex a0 hg
    exact ⟨⟨o, fun _ => ho⟩⟩
  · exact ⟨⟨((zero .metric), (zero .cur)), fun h => absurd h hg⟩⟩
noncomputable def oMet (a0 : CurT) : MetricT × CurT := (Classical.choice (f93_ne a0)).val
theorem f93_sp (a0 : CurT) (hg : gCur a0 = true) : f93_P a0 (oMet a0) := (Classical.choice (f93_ne a0)).property hg
theorem oMet_ok (a0 : CurT) (hg : gCur a0 = true) : (fun _ o => sm_metric o.1 = true ∧ gCur o.2 = true) a0 (oMet a0) := (f93_sp a0 hg).1
theorem oMet_g (a0 : CurT) (hg : gCur a0 = true) : gCur (oMet a0).2 = true := by
  have h := oMet_ok a0 hg
  first | exact h | exact h.2 | exact h.2.2 | exact h.2.2.2
theorem f93_spec (a0 : CurT) (hg : gCur a0 = true) : ∃ keep rounds, ∀ {R : Type} (k : List Dt → Option R), evFn f93e keep rounds f93c [.pmut] [false] true [.cell 2 135] [135] [.d .cur a0] k = k [.d .metric ((oMet a0).1), .d .cur ((oMet a0).2)] := by
  obtain ⟨n, hn⟩ := (f93_sp a0 hg).2
  exact ⟨f93k, n, hn⟩

noncomputable def q93 : List Dt → Option (Bool × List Dt)
  | [.d .cur a0] => some ((gCur a0), [.d .metric ((oMet a0).1), .d .cur ((oMet a0).2)])
  | _ => none
noncomputable def s93 : Gm.Spec := Gm.Spec.of [.pmut] [false] true q93
theorem good93 : Gm.Good Try.prog (93, s93) := by
  have hl : ∀ x ∈ [(57, s57), (75, s75), (77, s77)], Gm.Good Try.prog x := List.forall_mem_cons.2 ⟨good57, List.forall_mem_cons.2 ⟨good75, List.forall_mem_cons.2 ⟨good77, List.forall_mem_nil _⟩⟩⟩
  refine ⟨⟨spec_ok (tab_ok.env hl) (tab.natl hl) Try.func93 (by kernel_rfl : Try.f93.body = some f93c) [135] (by kernel_rfl) ?_, _, Try.func93, by kernel_rfl, of_decide_eq_true (by kernel_rfl)⟩, Gm.Spec.of_natl _ _ _ _⟩
  intro ds outs h
  unfold q93 at h
  split at h
  · simp only [Option.some.injEq, Prod.mk.injEq] at h; obtain ⟨hg, h⟩ := h; cases h; exact f93_spec _ hg
  · cases h
/-! ### loop.example/g00465/spec.l6DrawPace -/
noncomputable def f104c : Code := (Try.f104.body).getD .skip
def f104k : Nat → Kp := kat [⟨[0, 2], [], [], []⟩, ⟨[0, 2, 7], [], [], []⟩, ⟨[0, 2], [], [], []⟩, ⟨[0, 2, 3], [], [], []⟩, ⟨[0, 2, 3, 4], [], [], []⟩, ⟨[0, 2, 3, 4, 5], [], [], []⟩, ⟨[0, 2], [], [], []⟩]
noncomputable def f104e : Env := tab.env [(55, s55), (75, s75), (112, s112)]
theorem f104_run {R : Type} (n : Nat) (k : List Dt → Option R) (a0 : CurT) : evFn f104e f104k n f104c [.pmut] [false] true [.cell 2 86] [86] [.d .cur a0] k =
    (cond ((fun c _ => gCur c) a0 (3 : Int))
  (cond ((curOnce a0 (3 : Int)).1)
   (k [.d .pace paceNew, .d .cur ((curOnce a0 (3 : Int)).2)])
   (cond (gPickI ((curOnce a0 (3 : Int)).2) ([(0 : Int), (1 : Int), (4 : Int)] : List Int))
    (cond (gPickI ((curPickI ((curOnce a0 (3 : Int)).2) ([(0 : Int), (1 : Int), (4 : Int)] : List Int)).2) ([(0 : Int), (1 : Int), (2 : Int)] : List Int))
     (cond (gPickI ((curPickI ((curPickI ((curOnce a0 (3 : Int)).2) ([(0 : Int), (1 : Int), (4 : Int)] : List Int)).2) ([(0 : Int), (1 : Int), (2 : Int)] : List Int)).2) ([(0 : Int), (30 : Int), (60 : Int)] : List Int))
      (cond (gPickI ((curPickI ((curPickI ((curPickI ((curOnce a0 (3 : Int)).2) ([(0 : Int), (1 : Int), (4 : Int)] : List Int)).2) ([(0 : Int), (1 : Int), (2 : Int)] : List Int)).2) ([(0 : Int), (30 : Int), (60 : Int)] : List Int)).2) ([(0 : Int), (60 : Int), (300 : Int), (3600 : Int)] : List Int))
       (k [.d .pace (⟨((curPickI ((curOnce a0 (3 : Int)).2) ([(0 : Int), (1 : Int), (4 : Int)] : List Int)).1), ((curPickI ((curPickI ((curOnce a0 (3 : Int)).2) ([(0 : Int), (1 : Int), (4 : Int)] : List Int)).2) ([(0 : Int), (1 : Int), (2 : Int)] : List Int)).1), ((curPickI ((curPickI ((curPickI ((curOnce a0 (3 : Int)).2) ([(0 : Int), (1 : Int), (4 : Int)] : List Int)).2) ([(0 : Int), (1 : Int), (2 : Int)] : List Int)).2) ([(0 : Int), (30 : Int), (60 : Int)] : List Int)).1), ((curPickI ((curPickI ((curPickI ((curPickI ((curOnce a0 (3 : Int)).2) ([(0 : Int), (1 : Int), (4 : Int)] : List Int)).2) ([(0 : Int), (1 : Int), (2 : Int)] : List Int)).2) ([(0 : Int), (30 : Int), (60 : Int)] : List Int)).2) ([(0 : Int), (60 : Int), (300 : Int), (3600 : Int)] : List Int)).1)⟩ : PaceT), .d .cur ((curPickI ((curPickI ((curPickI ((curPickI ((curOnce a0 (3 : Int)).2) ([(0 : Int), (1 : Int), (4 : Int)] : List Int)).2) ([(0 : Int), (1 : Int), (2 : Int)] : List Int)).2) ([(0 : Int), (30 : Int), (60 : Int)] : List Int)).2) ([(0 : Int), (60 : Int), (300 : Int), (3600 : Int)] : List Int)).2)])
       none)
      none)
     none)
    none))
  none) := by kernel_rfl
def f104_P (a0 : CurT) (o : PaceT × CurT) : Prop := (fun _ o => sm_pace o.1 = true ∧ gCur o.2 = true) a0 o ∧ ∃ n : Nat, ∀ {R : Type} (k : List Dt → Option R), evFn f104e f104k n f104c [.pmut] [false] true [.cell 2 86] [86] [.d .cur a0] k = k [.d .pace o.1, .d .cur o.2]
theorem f104_ex (a0 : CurT) (hg : gCur a0 = true) : ∃ o : PaceT × CurT, (fun _ o => sm_pace o.1 = true ∧ gCur o.2 = true) a0 o ∧ ∃ n : Nat, ∀ {R : Type} (k : List Dt → Option R), evFn f104e f104k n f104c [.pmut] [false] true [.cell 2 86] [86] [.d .cur a0] k = k [.d .pace o.1, .d .cur o.2] := by
  cases e0 : ((curOnce a0 (3 : Int)).1)
  · skip
    refine ⟨(?a0x1, ?a1x1), ?gx1, 0, ?rx1⟩
    case rx1 =>
      intro R k
      rw [f104_run]
      simp (decide := true) (maxDischargeDepth := 60) only [hg, curNew_g, curByte_g, curBelow_g, curOnce_g, curPick_g, curPickI_g, tText_g, oMet_g, gPickS_of, gPickI_of, cond_true, cond_false, Bool.not_true, Bool.not_false, e0]
      exact rfl
    case gx1 =>
      simp (decide := true) (maxDischargeDepth := 60) only [hg, curNew_g, curByte_g, curBelow_g, curOnce_g, curPick_g, curPickI_g, tText_g, oMet_g, smStr_pick, okI_pickI, okI_wrap, okI_below, sm_metric, sm_pace, sm_note, Bool.and_eq_true, and_self, true_and, and_true, gPickS_of, gPickI_of, e0]
  refine ⟨(?a0x2, ?a1x2), ?gx2, 0, ?rx2⟩
  case rx2 =>
    intro R k
    rw [f104_run]
    simp (decide := true) (maxDischargeDepth := 60) only [hg, curNew_g, curByte_g, curBelow_g, curOnce_g, curPick_g, curPickI_g, tText_g, oMet_g, gPickS_of, gPickI_of, cond_true, cond_false, Bool.not_true, Bool.not_false, e0]
    exact rfl
  case gx2 =>
    simp (decide := true) (maxDischargeDepth := 60) only [hg, curNew_g, curByte_g, curBelow_g, curOnce_g, curPick_g, curPickI_g, tText_g, oMet_g, smStr_pick, okI_pickI, okI_wrap, okI_below, sm_metric, sm_pace, sm_note, Bool.and_eq_true, and_self, true_and, and_true, gPickS_of, gPickI_of, e0]

theorem f104_ne (a0 : CurT) : Nonempty {o : PaceT × CurT // gCur a0 = true → f104_P a0 o} := by
  by_cases hg : gCur a0 = true
  · obtain ⟨o, ho⟩ := f104_ex a0 hg
    exact ⟨⟨o, fun _ => ho⟩⟩
  · exact ⟨⟨((zero .pace), (zero .cur)), fun h => absurd h hg⟩⟩
noncomputable def oPace (a0 : CurT) : PaceT × CurT := (Classical.choice (f104_ne a0)).val
theorem f104_sp (a0 : CurT) (hg : gCur a0 = true) : f104_P a0 (oPace a0) := (Classical.choice (f104_ne a0)).property hg
theorem oPace_ok (a0 : CurT) (hg : gCur a0 = true) : (fun _ o => sm_pace o.1 = true ∧ gCur o.2 = true) a0 (oPace a0) := (f104_sp a0 hg).1
theorem oPace_g (a0 : CurT) (hg : gCur a0 = true) : gCur (oPace a0).2 = true := by
  have h := oPace_ok a0 hg
  first | exact h | exact h.2 | exact h.2.2 | exact h.2.2.2
theorem f104_spec (a0 : CurT) (hg : gCur a0 = true) : ∃ keep rounds, ∀ {R : Type} (k : List Dt → Option R), evFn f104e keep rounds f104c [.pmut] [false] true [.cell 2 86] [86] [.d .cur a0] k = k [.d .pace ((oPace a0).1), .d .cur ((oPace a0).2)] := by
  obtain ⟨n, hn⟩ := (f104_sp a0 hg).2
  exact ⟨f104k, n, hn⟩

noncomputable def q104 : List Dt → Option (Bool × List Dt)
  | [.d .cur a0] => some ((gCur a0), [.d .pace ((oPace a0).1), .d .cur ((oPace a0).2)])
  | _ => none
noncomputable def s104 : Gm.Spec := Gm.Spec.of [.pmut] [false] true q104
theorem good104 : Gm.Good Try.prog (104, s104) := by
  have hl : ∀ x ∈ [(55, s55), (75, s75), (112, s112)], Gm.Good Try.prog x := List.forall_mem_cons.2 ⟨good55, List.forall_mem_cons.2 ⟨good75, List.forall_mem_cons.2 ⟨good112, List.forall_mem_nil _⟩⟩⟩
  refine ⟨⟨spec_ok (tab_ok.env hl) (tab.natl hl) Try.func104 (by kernel_rfl : Try.f104.body = some f104c) [86] (by kernel_rfl) ?_, _, Try.func104, by kernel_rfl, of_decide_eq_true (by kernel_rfl)⟩, Gm.Spec.of_natl _ _ _ _⟩
  intro ds outs h
  unfold q104 at h
  split at h
  · simp only [Option.some.injEq, Prod.mk.injEq] at h; obtain ⟨hg, h⟩ := h; cases h; exact f104_spec _ hg
  · cases h
end Go.Proofs.Ytklmnopgogcbhaa

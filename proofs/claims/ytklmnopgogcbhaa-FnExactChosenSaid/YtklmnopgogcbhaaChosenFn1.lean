/- What the functions compute, part 1. No conditions. -/
import Derived.Test.YtklmnopgogcbhaaGm4
import Derived.Test.YtklmnopgogcbhaaRows
import Derived.Lib.Strings
import Derived.Lib.Slices
import Derived.Lib.Walk
import Derived.Lib.Bytealg
/- The table of types of the program, and that it is the program's. Printed by gev.py of this session. -/
namespace Go.Proofs.Ytklmnopgogcbhaa
open Go Go.Gm
def tab : Tab := { code := [(2, (.i .i64)), (3, (.i .i64)), (4, .bool), (5, (.i .u8)), (6, (.i .u8)), (9, .str), (10, .str), (11, .str), (12, (.i .u64)), (21, (.i .i32)), (22, (.sl .str)), (24, .pick), (27, .pick), (32, (.sl .note)), (35, (.sl .note)), (39, (.sl (.i .u8))), (41, (.sl .item)), (43, .store), (44, (.sl .pick)), (50, (.sl (.i .i64))), (51, (.sl .item)), (53, .store), (54, (.sl .pick)), (73, .note), (74, .note), (84, (.sl .metric)), (86, .pace), (88, .order), (90, .item), (112, .cur), (119, (.sl .metric)), (120, .pace), (122, .order), (124, .item), (135, .metric), (137, (.i .u64)), (158, .metric), (171, (.i .u32)), (172, (.i .u8)), (173, (.i .u8)), (175, (.i .i32)), (176, (.i .i32))], eqs := [], fld := [(24, [(0, 3), (1, 9), (2, 22)]), (27, [(0, 3), (1, 9), (2, 22)]), (43, [(0, 41), (1, 3)]), (53, [(0, 51), (1, 3)]), (73, [(0, 9), (1, 9)]), (74, [(0, 9), (1, 9)]), (86, [(0, 3), (1, 3), (2, 3), (3, 3)]), (88, [(0, 9), (1, 9), (2, 3), (3, 3), (4, 84), (5, 86), (9, 35)]), (90, [(0, 88), (10, 3)]), (112, [(0, 39), (1, 3), (2, 3)]), (120, [(0, 3), (1, 3), (2, 3), (3, 3)]), (122, [(0, 9), (1, 9), (2, 3), (3, 3), (4, 119), (5, 120), (9, 32)]), (124, [(0, 122), (10, 3)]), (135, [(0, 9), (1, 3), (2, 3)]), (158, [(0, 9), (1, 3), (2, 3)])] }
theorem und2 : UndOk (tab.env []) Try.prog 2 (.i .i64) := (by kernel_rfl : Try.prog.underlying 2 = some (.int .i64))
theorem und3 : UndOk (tab.env []) Try.prog 3 (.i .i64) := (by kernel_rfl : Try.prog.underlying 3 = some (.int .i64))
theorem und4 : UndOk (tab.env []) Try.prog 4 .bool := (by kernel_rfl : Try.prog.underlying 4 = some .bool)
theorem und5 : UndOk (tab.env []) Try.prog 5 (.i .u8) := (by kernel_rfl : Try.prog.underlying 5 = some (.int .u8))
theorem und6 : UndOk (tab.env []) Try.prog 6 (.i .u8) := (by kernel_rfl : Try.prog.underlying 6 = some (.int .u8))
theorem und9 : UndOk (tab.env []) Try.prog 9 .str := (by kernel_rfl : Try.prog.underlying 9 = some .string)
theorem und10 : UndOk (tab.env []) Try.prog 10 .str := (by kernel_rfl : Try.prog.underlying 10 = some .string)
theorem und11 : UndOk (tab.env []) Try.prog 11 .str := (by kernel_rfl : Try.prog.underlying 11 = some .string)
theorem und12 : UndOk (tab.env []) Try.prog 12 (.i .u64) := (by kernel_rfl : Try.prog.underlying 12 = some (.int .u64))
theorem und21 : UndOk (tab.env []) Try.prog 21 (.i .i32) := (by kernel_rfl : Try.prog.underlying 21 = some (.int .i32))
theorem und22 : UndOk (tab.env []) Try.prog 22 (.sl .str) := ⟨9, by kernel_rfl, by kernel_rfl⟩
theorem und24 : UndOk (tab.env []) Try.prog 24 .pick := ⟨_, Try.underlying24⟩
theorem und27 : UndOk (tab.env []) Try.prog 27 .pick := ⟨_, Try.underlying27⟩
theorem und32 : UndOk (tab.env []) Try.prog 32 (.sl .note) := ⟨73, by kernel_rfl, by kernel_rfl⟩
theorem und35 : UndOk (tab.env []) Try.prog 35 (.sl .note) := ⟨74, by kernel_rfl, by kernel_rfl⟩
theorem und39 : UndOk (tab.env []) Try.prog 39 (.sl (.i .u8)) := ⟨5, by kernel_rfl, by kernel_rfl⟩
theorem und41 : UndOk (tab.env []) Try.prog 41 (.sl .item) := ⟨90, by kernel_rfl, by kernel_rfl⟩
theorem und43 : UndOk (tab.env []) Try.prog 43 .store := ⟨_, Try.underlying43⟩
theorem und44 : UndOk (tab.env []) Try.prog 44 (.sl .pick) := ⟨27, by kernel_rfl, by kernel_rfl⟩
theorem und50 : UndOk (tab.env []) Try.prog 50 (.sl (.i .i64)) := ⟨3, by kernel_rfl, by kernel_rfl⟩
theorem und51 : UndOk (tab.env []) Try.prog 51 (.sl .item) := ⟨124, by kernel_rfl, by kernel_rfl⟩
theorem und53 : UndOk (tab.env []) Try.prog 53 .store := ⟨_, Try.underlying53⟩
theorem und54 : UndOk (tab.env []) Try.prog 54 (.sl .pick) := ⟨24, by kernel_rfl, by kernel_rfl⟩
theorem und73 : UndOk (tab.env []) Try.prog 73 .note := ⟨_, Try.underlying73⟩
theorem und74 : UndOk (tab.env []) Try.prog 74 .note := ⟨_, Try.underlying74⟩
theorem und84 : UndOk (tab.env []) Try.prog 84 (.sl .metric) := ⟨135, by kernel_rfl, by kernel_rfl⟩
theorem und86 : UndOk (tab.env []) Try.prog 86 .pace := ⟨_, Try.underlying86⟩
theorem und88 : UndOk (tab.env []) Try.prog 88 .order := ⟨_, Try.underlying88⟩
theorem und90 : UndOk (tab.env []) Try.prog 90 .item := ⟨_, Try.underlying90⟩
theorem und112 : UndOk (tab.env []) Try.prog 112 .cur := ⟨_, Try.underlying112⟩
theorem und119 : UndOk (tab.env []) Try.prog 119 (.sl .metric) := ⟨158, by kernel_rfl, by kernel_rfl⟩
theorem und120 : UndOk (tab.env []) Try.prog 120 .pace := ⟨_, Try.underlying120⟩
theorem und122 : UndOk (tab.env []) Try.prog 122 .order := ⟨_, Try.underlying122⟩
theorem und124 : UndOk (tab.env []) Try.prog 124 .item := ⟨_, Try.underlying124⟩
theorem und135 : UndOk (tab.env []) Try.prog 135 .metric := ⟨_, Try.underlying135⟩
theorem und137 : UndOk (tab.env []) Try.prog 137 (.i .u64) := (by kernel_rfl : Try.prog.underlying 137 = some (.int .u64))
theorem und158 : UndOk (tab.env []) Try.prog 158 .metric := ⟨_, Try.underlying158⟩
theorem und171 : UndOk (tab.env []) Try.prog 171 (.i .u32) := (by kernel_rfl : Try.prog.underlying 171 = some (.int .u32))
theorem und172 : UndOk (tab.env []) Try.prog 172 (.i .u8) := (by kernel_rfl : Try.prog.underlying 172 = some (.int .u8))
theorem und173 : UndOk (tab.env []) Try.prog 173 (.i .u8) := (by kernel_rfl : Try.prog.underlying 173 = some (.int .u8))
theorem und175 : UndOk (tab.env []) Try.prog 175 (.i .i32) := (by kernel_rfl : Try.prog.underlying 175 = some (.int .i32))
theorem und176 : UndOk (tab.env []) Try.prog 176 (.i .i32) := (by kernel_rfl : Try.prog.underlying 176 = some (.int .i32))
theorem fld24 : ∃ fs : Array Field, Try.prog.underlying 24 = some (.struct fs) ∧ [(0, 3), (1, 9), (2, 22)] = fs.toList.map (fun f => (f.offset, f.type)) ∧ (∀ y ∈ ([(0, 3), (1, 9), (2, 22)] : List (Nat × Nat)), (aget tab.code y.2).isSome) ∧ (fs.toList.mapM (fun f => (Try.prog.info? f.type).map fun i => (f.offset, i.size))).isSome :=
  ⟨_, Try.underlying24, by kernel_rfl, List.all_eq_true.1 (by kernel_rfl), by kernel_rfl⟩
theorem fld27 : ∃ fs : Array Field, Try.prog.underlying 27 = some (.struct fs) ∧ [(0, 3), (1, 9), (2, 22)] = fs.toList.map (fun f => (f.offset, f.type)) ∧ (∀ y ∈ ([(0, 3), (1, 9), (2, 22)] : List (Nat × Nat)), (aget tab.code y.2).isSome) ∧ (fs.toList.mapM (fun f => (Try.prog.info? f.type).map fun i => (f.offset, i.size))).isSome :=
  ⟨_, Try.underlying27, by kernel_rfl, List.all_eq_true.1 (by kernel_rfl), by kernel_rfl⟩
theorem fld43 : ∃ fs : Array Field, Try.prog.underlying 43 = some (.struct fs) ∧ [(0, 41), (1, 3)] = fs.toList.map (fun f => (f.offset, f.type)) ∧ (∀ y ∈ ([(0, 41), (1, 3)] : List (Nat × Nat)), (aget tab.code y.2).isSome) ∧ (fs.toList.mapM (fun f => (Try.prog.info? f.type).map fun i => (f.offset, i.size))).isSome :=
  ⟨_, Try.underlying43, by kernel_rfl, List.all_eq_true.1 (by kernel_rfl), by kernel_rfl⟩
theorem fld53 : ∃ fs : Array Field, Try.prog.underlying 53 = some (.struct fs) ∧ [(0, 51), (1, 3)] = fs.toList.map (fun f => (f.offset, f.type)) ∧ (∀ y ∈ ([(0, 51), (1, 3)] : List (Nat × Nat)), (aget tab.code y.2).isSome) ∧ (fs.toList.mapM (fun f => (Try.prog.info? f.type).map fun i => (f.offset, i.size))).isSome :=
  ⟨_, Try.underlying53, by kernel_rfl, List.all_eq_true.1 (by kernel_rfl), by kernel_rfl⟩
theorem fld73 : ∃ fs : Array Field, Try.prog.underlying 73 = some (.struct fs) ∧ [(0, 9), (1, 9)] = fs.toList.map (fun f => (f.offset, f.type)) ∧ (∀ y ∈ ([(0, 9), (1, 9)] : List (Nat × Nat)), (aget tab.code y.2).isSome) ∧ (fs.toList.mapM (fun f => (Try.prog.info? f.type).map fun i => (f.offset, i.size))).isSome :=
  ⟨_, Try.underlying73, by kernel_rfl, List.all_eq_true.1 (by kernel_rfl), by kernel_rfl⟩
theorem fld74 : ∃ fs : Array Field, Try.prog.underlying 74 = some (.struct fs) ∧ [(0, 9), (1, 9)] = fs.toList.map (fun f => (f.offset, f.type)) ∧ (∀ y ∈ ([(0, 9), (1, 9)] : List (Nat × Nat)), (aget tab.code y.2).isSome) ∧ (fs.toList.mapM (fun f => (Try.prog.info? f.type).map fun i => (f.offset, i.size))).isSome :=
  ⟨_, Try.underlying74, by kernel_rfl, List.all_eq_true.1 (by kernel_rfl), by kernel_rfl⟩
theorem fld86 : ∃ fs : Array Field, Try.prog.underlying 86 = some (.struct fs) ∧ [(0, 3), (1, 3), (2, 3), (3, 3)] = fs.toList.map (fun f => (f.offset, f.type)) ∧ (∀ y ∈ ([(0, 3), (1, 3), (2, 3), (3, 3)] : List (Nat × Nat)), (aget tab.code y.2).isSome) ∧ (fs.toList.mapM (fun f => (Try.prog.info? f.type).map fun i => (f.offset, i.size))).isSome :=
  ⟨_, Try.underlying86, by kernel_rfl, List.all_eq_true.1 (by kernel_rfl), by kernel_rfl⟩
theorem fld88 : ∃ fs : Array Field, Try.prog.underlying 88 = some (.struct fs) ∧ [(0, 9), (1, 9), (2, 3), (3, 3), (4, 84), (5, 86), (9, 35)] = fs.toList.map (fun f => (f.offset, f.type)) ∧ (∀ y ∈ ([(0, 9), (1, 9), (2, 3), (3, 3), (4, 84), (5, 86), (9, 35)] : List (Nat × Nat)), (aget tab.code y.2).isSome) ∧ (fs.toList.mapM (fun f => (Try.prog.info? f.type).map fun i => (f.offset, i.size))).isSome :=
  ⟨_, Try.underlying88, by kernel_rfl, List.all_eq_true.1 (by kernel_rfl), by kernel_rfl⟩
theorem fld90 : ∃ fs : Array Field, Try.prog.underlying 90 = some (.struct fs) ∧ [(0, 88), (10, 3)] = fs.toList.map (fun f => (f.offset, f.type)) ∧ (∀ y ∈ ([(0, 88), (10, 3)] : List (Nat × Nat)), (aget tab.code y.2).isSome) ∧ (fs.toList.mapM (fun f => (Try.prog.info? f.type).map fun i => (f.offset, i.size))).isSome :=
  ⟨_, Try.underlying90, by kernel_rfl, List.all_eq_true.1 (by kernel_rfl), by kernel_rfl⟩
theorem fld112 : ∃ fs : Array Field, Try.prog.underlying 112 = some (.struct fs) ∧ [(0, 39), (1, 3), (2, 3)] = fs.toList.map (fun f => (f.offset, f.type)) ∧ (∀ y ∈ ([(0, 39), (1, 3), (2, 3)] : List (Nat × Nat)), (aget tab.code y.2).isSome) ∧ (fs.toList.mapM (fun f => (Try.prog.info? f.type).map fun i => (f.offset, i.size))).isSome :=
  ⟨_, Try.underlying112, by kernel_rfl, List.all_eq_true.1 (by kernel_rfl), by kernel_rfl⟩
theorem fld120 : ∃ fs : Array Field, Try.prog.underlying 120 = some (.struct fs) ∧ [(0, 3), (1, 3), (2, 3), (3, 3)] = fs.toList.map (fun f => (f.offset, f.type)) ∧ (∀ y ∈ ([(0, 3), (1, 3), (2, 3), (3, 3)] : List (Nat × Nat)), (aget tab.code y.2).isSome) ∧ (fs.toList.mapM (fun f => (Try.prog.info? f.type).map fun i => (f.offset, i.size))).isSome :=
  ⟨_, Try.underlying120, by kernel_rfl, List.all_eq_true.1 (by kernel_rfl), by kernel_rfl⟩
theorem fld122 : ∃ fs : Array Field, Try.prog.underlying 122 = some (.struct fs) ∧ [(0, 9), (1, 9), (2, 3), (3, 3), (4, 119), (5, 120), (9, 32)] = fs.toList.map (fun f => (f.offset, f.type)) ∧ (∀ y ∈ ([(0, 9), (1, 9), (2, 3), (3, 3), (4, 119), (5, 120), (9, 32)] : List (Nat × Nat)), (aget tab.code y.2).isSome) ∧ (fs.toList.mapM (fun f => (Try.prog.info? f.type).map fun i => (f.offset, i.size))).isSome :=
  ⟨_, Try.underlying122, by kernel_rfl, List.all_eq_true.1 (by kernel_rfl), by kernel_rfl⟩
theorem fld124 : ∃ fs : Array Field, Try.prog.underlying 124 = some (.struct fs) ∧ [(0, 122), (10, 3)] = fs.toList.map (fun f => (f.offset, f.type)) ∧ (∀ y ∈ ([(0, 122), (10, 3)] : List (Nat × Nat)), (aget tab.code y.2).isSome) ∧ (fs.toList.mapM (fun f => (Try.prog.info? f.type).map fun i => (f.offset, i.size))).isSome :=
  ⟨_, Try.underlying124, by kernel_rfl, List.all_eq_true.1 (by kernel_rfl), by kernel_rfl⟩
theorem fld135 : ∃ fs : Array Field, Try.prog.underlying 135 = some (.struct fs) ∧ [(0, 9), (1, 3), (2, 3)] = fs.toList.map (fun f => (f.offset, f.type)) ∧ (∀ y ∈ ([(0, 9), (1, 3), (2, 3)] : List (Nat × Nat)), (aget tab.code y.2).isSome) ∧ (fs.toList.mapM (fun f => (Try.prog.info? f.type).map fun i => (f.offset, i.size))).isSome :=
  ⟨_, Try.underlying135, by kernel_rfl, List.all_eq_true.1 (by kernel_rfl), by kernel_rfl⟩
theorem fld158 : ∃ fs : Array Field, Try.prog.underlying 158 = some (.struct fs) ∧ [(0, 9), (1, 3), (2, 3)] = fs.toList.map (fun f => (f.offset, f.type)) ∧ (∀ y ∈ ([(0, 9), (1, 3), (2, 3)] : List (Nat × Nat)), (aget tab.code y.2).isSome) ∧ (fs.toList.mapM (fun f => (Try.prog.info? f.type).map fun i => (f.offset, i.size))).isSome :=
  ⟨_, Try.underlying158, by kernel_rfl, List.all_eq_true.1 (by kernel_rfl), by kernel_rfl⟩
theorem tab_ok : tab.Ok Try.prog := {
  info := infoChk_ok (by kernel_rfl)
  und := List.forall_mem_cons.2 ⟨und2, List.forall_mem_cons.2 ⟨und3, List.forall_mem_cons.2 ⟨und4, List.forall_mem_cons.2 ⟨und5, List.forall_mem_cons.2 ⟨und6, List.forall_mem_cons.2 ⟨und9, List.forall_mem_cons.2 ⟨und10, List.forall_mem_cons.2 ⟨und11, List.forall_mem_cons.2 ⟨und12, List.forall_mem_cons.2 ⟨und21, List.forall_mem_cons.2 ⟨und22, List.forall_mem_cons.2 ⟨und24, List.forall_mem_cons.2 ⟨und27, List.forall_mem_cons.2 ⟨und32, List.forall_mem_cons.2 ⟨und35, List.forall_mem_cons.2 ⟨und39, List.forall_mem_cons.2 ⟨und41, List.forall_mem_cons.2 ⟨und43, List.forall_mem_cons.2 ⟨und44, List.forall_mem_cons.2 ⟨und50, List.forall_mem_cons.2 ⟨und51, List.forall_mem_cons.2 ⟨und53, List.forall_mem_cons.2 ⟨und54, List.forall_mem_cons.2 ⟨und73, List.forall_mem_cons.2 ⟨und74, List.forall_mem_cons.2 ⟨und84, List.forall_mem_cons.2 ⟨und86, List.forall_mem_cons.2 ⟨und88, List.forall_mem_cons.2 ⟨und90, List.forall_mem_cons.2 ⟨und112, List.forall_mem_cons.2 ⟨und119, List.forall_mem_cons.2 ⟨und120, List.forall_mem_cons.2 ⟨und122, List.forall_mem_cons.2 ⟨und124, List.forall_mem_cons.2 ⟨und135, List.forall_mem_cons.2 ⟨und137, List.forall_mem_cons.2 ⟨und158, List.forall_mem_cons.2 ⟨und171, List.forall_mem_cons.2 ⟨und172, List.forall_mem_cons.2 ⟨und173, List.forall_mem_cons.2 ⟨und175, List.forall_mem_cons.2 ⟨und176, List.forall_mem_nil _⟩⟩⟩⟩⟩⟩⟩⟩⟩⟩⟩⟩⟩⟩⟩⟩⟩⟩⟩⟩⟩⟩⟩⟩⟩⟩⟩⟩⟩⟩⟩⟩⟩⟩⟩⟩⟩⟩⟩⟩⟩⟩
  fld := List.forall_mem_cons.2 ⟨fld24, List.forall_mem_cons.2 ⟨fld27, List.forall_mem_cons.2 ⟨fld43, List.forall_mem_cons.2 ⟨fld53, List.forall_mem_cons.2 ⟨fld73, List.forall_mem_cons.2 ⟨fld74, List.forall_mem_cons.2 ⟨fld86, List.forall_mem_cons.2 ⟨fld88, List.forall_mem_cons.2 ⟨fld90, List.forall_mem_cons.2 ⟨fld112, List.forall_mem_cons.2 ⟨fld120, List.forall_mem_cons.2 ⟨fld122, List.forall_mem_cons.2 ⟨fld124, List.forall_mem_cons.2 ⟨fld135, List.forall_mem_cons.2 ⟨fld158, List.forall_mem_nil _⟩⟩⟩⟩⟩⟩⟩⟩⟩⟩⟩⟩⟩⟩⟩
  sts := List.forall_mem_cons.2 ⟨fun h => by first | (cases h; done) | (simp; done), List.forall_mem_cons.2 ⟨fun h => by first | (cases h; done) | (simp; done), List.forall_mem_cons.2 ⟨fun h => by first | (cases h; done) | (simp; done), List.forall_mem_cons.2 ⟨fun h => by first | (cases h; done) | (simp; done), List.forall_mem_cons.2 ⟨fun h => by first | (cases h; done) | (simp; done), List.forall_mem_cons.2 ⟨fun h => by first | (cases h; done) | (simp; done), List.forall_mem_cons.2 ⟨fun h => by first | (cases h; done) | (simp; done), List.forall_mem_cons.2 ⟨fun h => by first | (cases h; done) | (simp; done), List.forall_mem_cons.2 ⟨fun h => by first | (cases h; done) | (simp; done), List.forall_mem_cons.2 ⟨fun h => by first | (cases h; done) | (simp; done), List.forall_mem_cons.2 ⟨fun h => by first | (cases h; done) | (simp; done), List.forall_mem_cons.2 ⟨fun _ => by simp [tab], List.forall_mem_cons.2 ⟨fun _ => by simp [tab], List.forall_mem_cons.2 ⟨fun h => by first | (cases h; done) | (simp; done), List.forall_mem_cons.2 ⟨fun h => by first | (cases h; done) | (simp; done), List.forall_mem_cons.2 ⟨fun h => by first | (cases h; done) | (simp; done), List.forall_mem_cons.2 ⟨fun h => by first | (cases h; done) | (simp; done), List.forall_mem_cons.2 ⟨fun _ => by simp [tab], List.forall_mem_cons.2 ⟨fun h => by first | (cases h; done) | (simp; done), List.forall_mem_cons.2 ⟨fun h => by first | (cases h; done) | (simp; done), List.forall_mem_cons.2 ⟨fun h => by first | (cases h; done) | (simp; done), List.forall_mem_cons.2 ⟨fun _ => by simp [tab], List.forall_mem_cons.2 ⟨fun h => by first | (cases h; done) | (simp; done), List.forall_mem_cons.2 ⟨fun _ => by simp [tab], List.forall_mem_cons.2 ⟨fun _ => by simp [tab], List.forall_mem_cons.2 ⟨fun h => by first | (cases h; done) | (simp; done), List.forall_mem_cons.2 ⟨fun _ => by simp [tab], List.forall_mem_cons.2 ⟨fun _ => by simp [tab], List.forall_mem_cons.2 ⟨fun _ => by simp [tab], List.forall_mem_cons.2 ⟨fun _ => by simp [tab], List.forall_mem_cons.2 ⟨fun h => by first | (cases h; done) | (simp; done), List.forall_mem_cons.2 ⟨fun _ => by simp [tab], List.forall_mem_cons.2 ⟨fun _ => by simp [tab], List.forall_mem_cons.2 ⟨fun _ => by simp [tab], List.forall_mem_cons.2 ⟨fun _ => by simp [tab], List.forall_mem_cons.2 ⟨fun h => by first | (cases h; done) | (simp; done), List.forall_mem_cons.2 ⟨fun _ => by simp [tab], List.forall_mem_cons.2 ⟨fun h => by first | (cases h; done) | (simp; done), List.forall_mem_cons.2 ⟨fun h => by first | (cases h; done) | (simp; done), List.forall_mem_cons.2 ⟨fun h => by first | (cases h; done) | (simp; done), List.forall_mem_cons.2 ⟨fun h => by first | (cases h; done) | (simp; done), List.forall_mem_cons.2 ⟨fun h => by first | (cases h; done) | (simp; done), List.forall_mem_nil _⟩⟩⟩⟩⟩⟩⟩⟩⟩⟩⟩⟩⟩⟩⟩⟩⟩⟩⟩⟩⟩⟩⟩⟩⟩⟩⟩⟩⟩⟩⟩⟩⟩⟩⟩⟩⟩⟩⟩⟩⟩⟩
  eqs := List.forall_mem_nil _
  ord := by kernel_rfl }
end Go.Proofs.Ytklmnopgogcbhaa

/- x -/
namespace Go.Proofs.Ytklmnopgogcbhaa
open Go Go.Gm
/-! ### loop.example/g00465/spec.l1In -/
noncomputable def f40c : Code := (Try.f40.body).getD .skip
def f40k : Nat → Kp := kat [⟨[0, 1, 2], []⟩, ⟨[6], []⟩]
noncomputable def f40e : Env := tab.env []
theorem f40_run {R : Type} (n : Nat) (k : List Dt → Option R) (a0 : Int) (a1 : Int) (a2 : Int) : evFn f40e f40k n f40c [.ro, .ro, .ro] [false] true [.tmp 6] [4] [.d (.i .i64) a0, .d (.i .i64) a1, .d (.i .i64) a2] k =
    (cond (decide (a0 ≥ a1))
    (k [.d .bool (decide (a0 ≤ a2))])
    (k [.d .bool false])) := by kernel_rfl
theorem f40_spec (a0 : Int) (a1 : Int) (a2 : Int) : ∃ keep rounds, ∀ {R : Type} (k : List Dt → Option R), evFn f40e keep rounds f40c [.ro, .ro, .ro] [false] true [.tmp 6] [4] [.d (.i .i64) a0, .d (.i .i64) a1, .d (.i .i64) a2] k = k [.d .bool (inR a0 a1 a2)] := by
  refine ⟨f40k, 0, fun k => ?_⟩
  rw [f40_run]; unfold inR
  cases decide (a0 ≥ a1) <;> rfl

noncomputable def q40 : List Dt → Option (Bool × List Dt)
  | [.d (.i .i64) a0, .d (.i .i64) a1, .d (.i .i64) a2] => some (true, [.d .bool (inR a0 a1 a2)])
  | _ => none
noncomputable def s40 : Gm.Spec := Gm.Spec.of [.ro, .ro, .ro] [false] true q40
theorem good40 : Gm.Good Try.prog (40, s40) := by
  have hl : ∀ x ∈ ([] : List (Nat × Gm.Spec)), Gm.Good Try.prog x := fun _ h => by cases h
  refine ⟨⟨spec_ok (tab_ok.env hl) (tab.natl hl) Try.func40 (by kernel_rfl : Try.f40.body = some f40c) [4] (by kernel_rfl) ?_, _, Try.func40, by kernel_rfl, of_decide_eq_true (by kernel_rfl)⟩, Gm.Spec.of_natl _ _ _ _⟩
  intro ds outs h
  unfold q40 at h
  split at h
  · cases h; exact f40_spec _ _ _
  · cases h
/-! ### loop.example/g00465/impl.from -/
noncomputable def f43c : Code := (Try.f43.body).getD .skip
def f43k : Nat → Kp := kat [⟨[0, 1, 2], []⟩, ⟨[6], []⟩]
noncomputable def f43e : Env := tab.env []
theorem f43_run {R : Type} (n : Nat) (k : List Dt → Option R) (a0 : Int) (a1 : Int) (a2 : Int) : evFn f43e f43k n f43c [.ro, .ro, .ro] [false] true [.tmp 6] [4] [.d (.i .i64) a0, .d (.i .i64) a1, .d (.i .i64) a2] k =
    (cond (decide (a0 ≥ a1))
    (k [.d .bool (decide (a0 ≤ a2))])
    (k [.d .bool false])) := by kernel_rfl
theorem f43_spec (a0 : Int) (a1 : Int) (a2 : Int) : ∃ keep rounds, ∀ {R : Type} (k : List Dt → Option R), evFn f43e keep rounds f43c [.ro, .ro, .ro] [false] true [.tmp 6] [4] [.d (.i .i64) a0, .d (.i .i64) a1, .d (.i .i64) a2] k = k [.d .bool (inR a0 a1 a2)] := by
  refine ⟨f43k, 0, fun k => ?_⟩
  rw [f43_run]; unfold inR
  cases decide (a0 ≥ a1) <;> rfl

noncomputable def q43 : List Dt → Option (Bool × List Dt)
  | [.d (.i .i64) a0, .d (.i .i64) a1, .d (.i .i64) a2] => some (true, [.d .bool (inR a0 a1 a2)])
  | _ => none
noncomputable def s43 : Gm.Spec := Gm.Spec.of [.ro, .ro, .ro] [false] true q43
theorem good43 : Gm.Good Try.prog (43, s43) := by
  have hl : ∀ x ∈ ([] : List (Nat × Gm.Spec)), Gm.Good Try.prog x := fun _ h => by cases h
  refine ⟨⟨spec_ok (tab_ok.env hl) (tab.natl hl) Try.func43 (by kernel_rfl : Try.f43.body = some f43c) [4] (by kernel_rfl) ?_, _, Try.func43, by kernel_rfl, of_decide_eq_true (by kernel_rfl)⟩, Gm.Spec.of_natl _ _ _ _⟩
  intro ds outs h
  unfold q43 at h
  split at h
  · cases h; exact f43_spec _ _ _
  · cases h
/-! ### loop.example/g00465/spec.l5Letter -/
noncomputable def f66c : Code := (Try.f66.body).getD .skip
def f66k : Nat → Kp := kat [⟨[0], []⟩, ⟨[2], []⟩]
noncomputable def f66e : Env := tab.env []
theorem f66_run {R : Type} (n : Nat) (k : List Dt → Option R) (a0 : Int) : evFn f66e f66k n f66c [.ro] [false] true [.tmp 2] [4] [.d (.i .u8) a0] k =
    (cond (decide (a0 ≥ (97 : Int)))
    (cond (decide (a0 ≤ (122 : Int)))
      (k [.d .bool true])
      (cond (decide (a0 ≥ (65 : Int)))
        (k [.d .bool (decide (a0 ≤ (90 : Int)))])
        (k [.d .bool false])))
    (cond (decide (a0 ≥ (65 : Int)))
      (k [.d .bool (decide (a0 ≤ (90 : Int)))])
      (k [.d .bool false]))) := by kernel_rfl
theorem f66_spec (a0 : Int) : ∃ keep rounds, ∀ {R : Type} (k : List Dt → Option R), evFn f66e keep rounds f66c [.ro] [false] true [.tmp 2] [4] [.d (.i .u8) a0] k = k [.d .bool (letter a0)] := by
  refine ⟨f66k, 0, fun k => ?_⟩
  rw [f66_run]; unfold letter
  cases decide (a0 ≥ (97 : Int)) <;> cases decide (a0 ≤ (122 : Int)) <;> cases decide (a0 ≥ (65 : Int)) <;> rfl

noncomputable def q66 : List Dt → Option (Bool × List Dt)
  | [.d (.i .u8) a0] => some (true, [.d .bool (letter a0)])
  | _ => none
noncomputable def s66 : Gm.Spec := Gm.Spec.of [.ro] [false] true q66
theorem good66 : Gm.Good Try.prog (66, s66) := by
  have hl : ∀ x ∈ ([] : List (Nat × Gm.Spec)), Gm.Good Try.prog x := fun _ h => by cases h
  refine ⟨⟨spec_ok (tab_ok.env hl) (tab.natl hl) Try.func66 (by kernel_rfl : Try.f66.body = some f66c) [4] (by kernel_rfl) ?_, _, Try.func66, by kernel_rfl, of_decide_eq_true (by kernel_rfl)⟩, Gm.Spec.of_natl _ _ _ _⟩
  intro ds outs h
  unfold q66 at h
  split at h
  · cases h; exact f66_spec _
  · cases h
/-! ### loop.example/g00465/impl.isLetter -/
noncomputable def f67c : Code := (Try.f67.body).getD .skip
def f67k : Nat → Kp := kat [⟨[0], []⟩, ⟨[2], []⟩]
noncomputable def f67e : Env := tab.env []
theorem f67_run {R : Type} (n : Nat) (k : List Dt → Option R) (a0 : Int) : evFn f67e f67k n f67c [.ro] [false] true [.tmp 2] [4] [.d (.i .u8) a0] k =
    (cond (decide (a0 ≥ (97 : Int)))
    (cond (decide (a0 ≤ (122 : Int)))
      (k [.d .bool true])
      (cond (decide (a0 ≥ (65 : Int)))
        (k [.d .bool (decide (a0 ≤ (90 : Int)))])
        (k [.d .bool false])))
    (cond (decide (a0 ≥ (65 : Int)))
      (k [.d .bool (decide (a0 ≤ (90 : Int)))])
      (k [.d .bool false]))) := by kernel_rfl
theorem f67_spec (a0 : Int) : ∃ keep rounds, ∀ {R : Type} (k : List Dt → Option R), evFn f67e keep rounds f67c [.ro] [false] true [.tmp 2] [4] [.d (.i .u8) a0] k = k [.d .bool (letter a0)] := by
  refine ⟨f67k, 0, fun k => ?_⟩
  rw [f67_run]; unfold letter
  cases decide (a0 ≥ (97 : Int)) <;> cases decide (a0 ≤ (122 : Int)) <;> cases decide (a0 ≥ (65 : Int)) <;> rfl

noncomputable def q67 : List Dt → Option (Bool × List Dt)
  | [.d (.i .u8) a0] => some (true, [.d .bool (letter a0)])
  | _ => none
noncomputable def s67 : Gm.Spec := Gm.Spec.of [.ro] [false] true q67
theorem good67 : Gm.Good Try.prog (67, s67) := by
  have hl : ∀ x ∈ ([] : List (Nat × Gm.Spec)), Gm.Good Try.prog x := fun _ h => by cases h
  refine ⟨⟨spec_ok (tab_ok.env hl) (tab.natl hl) Try.func67 (by kernel_rfl : Try.f67.body = some f67c) [4] (by kernel_rfl) ?_, _, Try.func67, by kernel_rfl, of_decide_eq_true (by kernel_rfl)⟩, Gm.Spec.of_natl _ _ _ _⟩
  intro ds outs h
  unfold q67 at h
  split at h
  · cases h; exact f67_spec _
  · cases h
/-! ### loop.example/g00465/impl.isDigit -/
noncomputable def f68c : Code := (Try.f68.body).getD .skip
def f68k : Nat → Kp := kat [⟨[0], []⟩, ⟨[2], []⟩]
noncomputable def f68e : Env := tab.env []
theorem f68_run {R : Type} (n : Nat) (k : List Dt → Option R) (a0 : Int) : evFn f68e f68k n f68c [.ro] [false] true [.tmp 2] [4] [.d (.i .u8) a0] k =
    (cond (decide (a0 ≥ (48 : Int)))
    (k [.d .bool (decide (a0 ≤ (57 : Int)))])
    (k [.d .bool false])) := by kernel_rfl
theorem f68_spec (a0 : Int) : ∃ keep rounds, ∀ {R : Type} (k : List Dt → Option R), evFn f68e keep rounds f68c [.ro] [false] true [.tmp 2] [4] [.d (.i .u8) a0] k = k [.d .bool (digit a0)] := by
  refine ⟨f68k, 0, fun k => ?_⟩
  rw [f68_run]; unfold digit
  cases decide (a0 ≥ (48 : Int)) <;> rfl

noncomputable def q68 : List Dt → Option (Bool × List Dt)
  | [.d (.i .u8) a0] => some (true, [.d .bool (digit a0)])
  | _ => none
noncomputable def s68 : Gm.Spec := Gm.Spec.of [.ro] [false] true q68
theorem good68 : Gm.Good Try.prog (68, s68) := by
  have hl : ∀ x ∈ ([] : List (Nat × Gm.Spec)), Gm.Good Try.prog x := fun _ h => by cases h
  refine ⟨⟨spec_ok (tab_ok.env hl) (tab.natl hl) Try.func68 (by kernel_rfl : Try.f68.body = some f68c) [4] (by kernel_rfl) ?_, _, Try.func68, by kernel_rfl, of_decide_eq_true (by kernel_rfl)⟩, Gm.Spec.of_natl _ _ _ _⟩
  intro ds outs h
  unfold q68 at h
  split at h
  · cases h; exact f68_spec _
  · cases h
end Go.Proofs.Ytklmnopgogcbhaa

/- x -/
namespace Go.Proofs.Ytklmnopgogcbhaa
open Go Go.Gm

set_option maxHeartbeats 1000000 in
set_option maxRecDepth 100000 in
theorem liteIdx (s : ByteArray) (c : Int) (w : World) : Calls Try.prog 86 #[.string s, .int .u8 c] w fun e w' => e = .returned (.int .i64 (idxB s c)) ∧ w' = w := by
  go_enter Try.func86, Try.ntmps86
  go_wp2
  rw [run_callFunc_extern Try.func97 (by kernel_rfl) (by kernel_rfl) (by kernel_rfl) (e := Extern.BytealgIndexByte.indexByte) (by kernel_rfl), Lib.run_indexByteString]
  simp only [Result.andThen]
  rw [Oper.upon_value]
  go_wp2
  go_ret
  exact ⟨rfl, rfl⟩
noncomputable def q86 : List Dt → Option (Bool × List Dt)
  | [.d .str a0, .d (.i .u8) a1] => some (true, [.d (.i .i64) (idxB a0 a1)])
  | _ => none
noncomputable def s86 : Gm.Spec := Gm.Spec.of [.ro, .ro] [false] true q86
theorem good86 : Gm.Good Try.prog (86, s86) := by
  refine ⟨⟨spec_plain rfl ?_, _, Try.func86, by kernel_rfl, of_decide_eq_true (by kernel_rfl)⟩, Gm.Spec.of_natl _ _ _ _⟩
  intro ds outs h
  unfold q86 at h
  split at h
  · rename_i a0 a1
    cases h
    refine ⟨_, _, .int .i64 (idxB a0 a1), rfl, rfl, rfl, rfl, fun w us ROa Fs hA => ?_⟩
    cases hA with
    | cons h1 hA =>
      cases hA with
      | cons h2 hA =>
        cases hA
        have e1 := valRd_v (t := .str) (v := .string a0) rfl rfl h1
        have e2 := valRd_v (t := .i .u8) (v := .int .u8 a1) rfl rfl h2
        subst e1 e2
        exact liteIdx a0 a1 w
  · cases h
end Go.Proofs.Ytklmnopgogcbhaa

/- x -/
namespace Go.Proofs.Ytklmnopgogcbhaa
open Go Go.Gm
/-! ### strings.IndexByte -/
noncomputable def f69c : Code := (Try.f69.body).getD .skip
def f69k : Nat → Kp := kat [⟨[0, 1], []⟩, ⟨[4], []⟩]
noncomputable def f69e : Env := tab.env [(86, s86)]
theorem f69_run {R : Type} (n : Nat) (k : List Dt → Option R) (a0 : ByteArray) (a1 : Int) : evFn f69e f69k n f69c [.ro, .ro] [false] true [.tmp 4] [3] [.d .str a0, .d (.i .u8) a1] k =
    (k [.d (.i .i64) (idxB a0 a1)]) := by kernel_rfl
theorem f69_spec (a0 : ByteArray) (a1 : Int) : ∃ keep rounds, ∀ {R : Type} (k : List Dt → Option R), evFn f69e keep rounds f69c [.ro, .ro] [false] true [.tmp 4] [3] [.d .str a0, .d (.i .u8) a1] k = k [.d (.i .i64) (idxB a0 a1)] := ⟨f69k, 0, fun k => f69_run 0 k _ _⟩

noncomputable def q69 : List Dt → Option (Bool × List Dt)
  | [.d .str a0, .d (.i .u8) a1] => some (true, [.d (.i .i64) (idxB a0 a1)])
  | _ => none
noncomputable def s69 : Gm.Spec := Gm.Spec.of [.ro, .ro] [false] true q69
theorem good69 : Gm.Good Try.prog (69, s69) := by
  have hl : ∀ x ∈ [(86, s86)], Gm.Good Try.prog x := List.forall_mem_cons.2 ⟨good86, List.forall_mem_nil _⟩
  refine ⟨⟨spec_ok (tab_ok.env hl) (tab.natl hl) Try.func69 (by kernel_rfl : Try.f69.body = some f69c) [3] (by kernel_rfl) ?_, _, Try.func69, by kernel_rfl, of_decide_eq_true (by kernel_rfl)⟩, Gm.Spec.of_natl _ _ _ _⟩
  intro ds outs h
  unfold q69 at h
  split at h
  · cases h; exact f69_spec _ _
  · cases h
/-! ### loop.example/g00465/spec.PlainOk -/
noncomputable def f38c : Code := (Try.f38.body).getD .skip
def f38k : Nat → Kp := kat [⟨[0], []⟩, ⟨[0, 3], []⟩, ⟨[0, 3, 8], []⟩, ⟨[0, 3], []⟩, ⟨[0, 3, 4], []⟩, ⟨[0, 3, 45], []⟩, ⟨[2], []⟩, ⟨[2], []⟩]
noncomputable def f38e : Env := tab.env [(40, s40), (66, s66)]
noncomputable def f38L0 {R : Type} (n : Nat) (x0 : Option R) (x1 : Int → Bool → Option R) (vs0 : ByteArray) : Nat → Int → Option R
  | 0, _ => none
  | m + 1, vs3 =>
    (cond (decide (vs3 < (ByteArray.size vs0 : Int)))
      (cond ((decide ((0 : Int) ≤ vs3)) && (decide (vs3 < (ByteArray.size vs0 : Int))))
        (cond (!(letter (((ByteArray.data vs0).getD (Int.toNat vs3) 0).toNat : Int)))
          (cond (vs3 == (0 : Int))
            (x0)
            (cond (decide ((((ByteArray.data vs0).getD (Int.toNat vs3) 0).toNat : Int) ≥ (48 : Int)))
              (cond (decide ((((ByteArray.data vs0).getD (Int.toNat vs3) 0).toNat : Int) ≤ (57 : Int)))
                (f38L0 n x0 x1 vs0 m (IntKind.wrap .i64 (vs3 + (1 : Int))))
                (cond ((((ByteArray.data vs0).getD (Int.toNat vs3) 0).toNat : Int) == (95 : Int))
                  (f38L0 n x0 x1 vs0 m (IntKind.wrap .i64 (vs3 + (1 : Int))))
                  (cond ((((ByteArray.data vs0).getD (Int.toNat vs3) 0).toNat : Int) == (46 : Int))
                    (f38L0 n x0 x1 vs0 m (IntKind.wrap .i64 (vs3 + (1 : Int))))
                    (cond ((((ByteArray.data vs0).getD (Int.toNat vs3) 0).toNat : Int) == (47 : Int))
                      (f38L0 n x0 x1 vs0 m (IntKind.wrap .i64 (vs3 + (1 : Int))))
                      (cond (!((((ByteArray.data vs0).getD (Int.toNat vs3) 0).toNat : Int) == (45 : Int)))
                        (x0)
                        (f38L0 n x0 x1 vs0 m (IntKind.wrap .i64 (vs3 + (1 : Int)))))))))
              (cond ((((ByteArray.data vs0).getD (Int.toNat vs3) 0).toNat : Int) == (95 : Int))
                (f38L0 n x0 x1 vs0 m (IntKind.wrap .i64 (vs3 + (1 : Int))))
                (cond ((((ByteArray.data vs0).getD (Int.toNat vs3) 0).toNat : Int) == (46 : Int))
                  (f38L0 n x0 x1 vs0 m (IntKind.wrap .i64 (vs3 + (1 : Int))))
                  (cond ((((ByteArray.data vs0).getD (Int.toNat vs3) 0).toNat : Int) == (47 : Int))
                    (f38L0 n x0 x1 vs0 m (IntKind.wrap .i64 (vs3 + (1 : Int))))
                    (cond (!((((ByteArray.data vs0).getD (Int.toNat vs3) 0).toNat : Int) == (45 : Int)))
                      (x0)
                      (f38L0 n x0 x1 vs0 m (IntKind.wrap .i64 (vs3 + (1 : Int))))))))))
          (f38L0 n x0 x1 vs0 m (IntKind.wrap .i64 (vs3 + (1 : Int)))))
        none)
      (x1 vs3 (decide (vs3 < (ByteArray.size vs0 : Int)))))
theorem f38L0_b {R : Type} (n : Nat) (k' : Ex → St → Option R) (vs0 : ByteArray) (vs3 : Int) : ev f38e f38k n (cAt [1,0,1,0,0] f38c) ⟨[(0, .c (.one (.v (.string vs0)))), (3, .c (.one (.v (.int .i64 vs3))))], [], []⟩ k' =
    (cond (decide (vs3 < (ByteArray.size vs0 : Int)))
    (cond ((decide ((0 : Int) ≤ vs3)) && (decide (vs3 < (ByteArray.size vs0 : Int))))
      (cond (!(letter (((ByteArray.data vs0).getD (Int.toNat vs3) 0).toNat : Int)))
        (cond (vs3 == (0 : Int))
          (k' .ret ⟨[(2, .c (.one (.v (.bool false))))], [], []⟩)
          (cond (decide ((((ByteArray.data vs0).getD (Int.toNat vs3) 0).toNat : Int) ≥ (48 : Int)))
            (cond (decide ((((ByteArray.data vs0).getD (Int.toNat vs3) 0).toNat : Int) ≤ (57 : Int)))
              (k' .normal ⟨[(0, .c (.one (.v (.string vs0)))), (3, .c (.one (.v (.int .i64 (IntKind.wrap .i64 (vs3 + (1 : Int)))))))], [], []⟩)
              (cond ((((ByteArray.data vs0).getD (Int.toNat vs3) 0).toNat : Int) == (95 : Int))
                (k' .normal ⟨[(0, .c (.one (.v (.string vs0)))), (3, .c (.one (.v (.int .i64 (IntKind.wrap .i64 (vs3 + (1 : Int)))))))], [], []⟩)
                (cond ((((ByteArray.data vs0).getD (Int.toNat vs3) 0).toNat : Int) == (46 : Int))
                  (k' .normal ⟨[(0, .c (.one (.v (.string vs0)))), (3, .c (.one (.v (.int .i64 (IntKind.wrap .i64 (vs3 + (1 : Int)))))))], [], []⟩)
                  (cond ((((ByteArray.data vs0).getD (Int.toNat vs3) 0).toNat : Int) == (47 : Int))
                    (k' .normal ⟨[(0, .c (.one (.v (.string vs0)))), (3, .c (.one (.v (.int .i64 (IntKind.wrap .i64 (vs3 + (1 : Int)))))))], [], []⟩)
                    (cond (!((((ByteArray.data vs0).getD (Int.toNat vs3) 0).toNat : Int) == (45 : Int)))
                      (k' .ret ⟨[(2, .c (.one (.v (.bool false))))], [], []⟩)
                      (k' .normal ⟨[(0, .c (.one (.v (.string vs0)))), (3, .c (.one (.v (.int .i64 (IntKind.wrap .i64 (vs3 + (1 : Int)))))))], [], []⟩))))))
            (cond ((((ByteArray.data vs0).getD (Int.toNat vs3) 0).toNat : Int) == (95 : Int))
              (k' .normal ⟨[(0, .c (.one (.v (.string vs0)))), (3, .c (.one (.v (.int .i64 (IntKind.wrap .i64 (vs3 + (1 : Int)))))))], [], []⟩)
              (cond ((((ByteArray.data vs0).getD (Int.toNat vs3) 0).toNat : Int) == (46 : Int))
                (k' .normal ⟨[(0, .c (.one (.v (.string vs0)))), (3, .c (.one (.v (.int .i64 (IntKind.wrap .i64 (vs3 + (1 : Int)))))))], [], []⟩)
                (cond ((((ByteArray.data vs0).getD (Int.toNat vs3) 0).toNat : Int) == (47 : Int))
                  (k' .normal ⟨[(0, .c (.one (.v (.string vs0)))), (3, .c (.one (.v (.int .i64 (IntKind.wrap .i64 (vs3 + (1 : Int)))))))], [], []⟩)
                  (cond (!((((ByteArray.data vs0).getD (Int.toNat vs3) 0).toNat : Int) == (45 : Int)))
                    (k' .ret ⟨[(2, .c (.one (.v (.bool false))))], [], []⟩)
                    (k' .normal ⟨[(0, .c (.one (.v (.string vs0)))), (3, .c (.one (.v (.int .i64 (IntKind.wrap .i64 (vs3 + (1 : Int)))))))], [], []⟩)))))))
        (k' .normal ⟨[(0, .c (.one (.v (.string vs0)))), (3, .c (.one (.v (.int .i64 (IntKind.wrap .i64 (vs3 + (1 : Int)))))))], [], []⟩))
      none)
    (k' (.exit 0) ⟨[(0, .c (.one (.v (.string vs0)))), (3, .c (.one (.v (.int .i64 vs3)))), (8, .c (.one (.v (.bool (decide (vs3 < (ByteArray.size vs0 : Int)))))))], [], []⟩)) := by kernel_rfl
theorem f38L0_eq {R : Type} (n : Nat) (k' : Ex → St → Option R) (vs0 : ByteArray) : ∀ (m : Nat) (vs3 : Int), iter (fun st k => ev f38e f38k n (cAt [1,0,1,0,0] f38c) st k) m ⟨[(0, .c (.one (.v (.string vs0)))), (3, .c (.one (.v (.int .i64 vs3))))], [], []⟩ k' = f38L0 n (k' .ret ⟨[(2, .c (.one (.v (.bool false))))], [], []⟩) (fun (xvs3 : Int) (xvs8 : Bool) => k' (.exit 0) ⟨[(0, .c (.one (.v (.string vs0)))), (3, .c (.one (.v (.int .i64 xvs3)))), (8, .c (.one (.v (.bool xvs8))))], [], []⟩) vs0 m vs3 := by
  intro m; induction m with
  | zero => intros; rfl
  | succ m ih =>
    intro vs3
    simp only [iter]
    rw [f38L0_b]
    simp only [ih, f38L0]

noncomputable def f38K0 {R : Type} (n : Nat) (k' : Ex → St → Option R) : Ex → St → Option R := (blockK 0 (seqK f38e f38k n (cAt [1,1] f38c) k'))
theorem f38K0_x0 {R : Type} (n : Nat) (k : List Dt → Option R) (a0 : ByteArray)  : f38K0 n (exitK f38e [.ro] [false] true [.tmp 2] [4] [.d .str a0] k) .ret ⟨[(2, .c (.one (.v (.bool false))))], [], []⟩ =
    (k [.d .bool false]) := by kernel_rfl
theorem f38K0_x1 {R : Type} (n : Nat) (k : List Dt → Option R) (a0 : ByteArray) (vs0 : ByteArray) (xvs3 : Int) (xvs8 : Bool) : f38K0 n (exitK f38e [.ro] [false] true [.tmp 2] [4] [.d .str a0] k) (.exit 0) ⟨[(0, .c (.one (.v (.string vs0)))), (3, .c (.one (.v (.int .i64 xvs3)))), (8, .c (.one (.v (.bool xvs8))))], [], []⟩ =
    (cond (inR (ByteArray.size vs0 : Int) (1 : Int) (60 : Int))
    (cond (!(sEq vs0 (bs [110,117,108,108])))
      (cond (!(sEq vs0 (bs [116,114,117,101])))
        (k [.d .bool (!(sEq vs0 (bs [102,97,108,115,101])))])
        (k [.d .bool false]))
      (k [.d .bool false]))
    (k [.d .bool false])) := by kernel_rfl

theorem f38_run {R : Type} (n : Nat) (k : List Dt → Option R) (a0 : ByteArray) : evFn f38e f38k n f38c [.ro] [false] true [.tmp 2] [4] [.d .str a0] k =
    (f38L0 n (k [.d .bool false]) (fun (xvs3 : Int) (xvs8 : Bool) =>
    (cond (inR (ByteArray.size a0 : Int) (1 : Int) (60 : Int))
      (cond (!(sEq a0 (bs [110,117,108,108])))
        (cond (!(sEq a0 (bs [116,114,117,101])))
          (k [.d .bool (!(sEq a0 (bs [102,97,108,115,101])))])
          (k [.d .bool false]))
        (k [.d .bool false]))
      (k [.d .bool false]))) a0 n (0 : Int)) := by
  refine Eq.trans (b := (iter (fun st k => ev f38e f38k n (cAt [1,0,1,0,0] f38c) st k) n ⟨[(0, .c (.one (.v (.string a0)))), (3, .c (.one (.v (.int .i64 (0 : Int)))))], [], []⟩ (f38K0 n (exitK f38e [.ro] [false] true [.tmp 2] [4] [.d .str a0] k)))) (by kernel_rfl) ?_
  simp only [f38L0_eq, f38K0_x0, f38K0_x1]
theorem f38_spec (a0 : ByteArray) (hg : okStr a0 = true) : ∃ keep rounds, ∀ {R : Type} (k : List Dt → Option R), evFn f38e keep rounds f38c [.ro] [false] true [.tmp 2] [4] [.d .str a0] k = k [.d .bool (plainOk a0)] := by
  have hl : a0.size ≤ 9223372036854775807 := bleN hg
  refine ⟨f38k, a0.size + 1, fun k => ?_⟩
  rw [f38_run]
  refine Eq.trans (loop_idx (n := a0.size) (F := fun m i => f38L0 (a0.size + 1) _ _ a0 m i) (p := fun j => plainC (j : Int) (byteAt a0 j)) (good := _) (bad := k [.d .bool false])
    (fun m j hj => ?_) (fun m => by simp only [f38L0, idxE, cond_false]; rfl) a0.size 0 (a0.size + 1) (by omega) (by omega)) ?_
  · obtain ⟨h1, h0, hw, ht⟩ := idx hj (by omega)
    simp only [f38L0, h1, h0, hw, ht, Bool.and_self, cond_true]
    show _ = cond (plainC (j : Int) (((ByteArray.data a0).getD j 0).toNat : Int)) _ _
    generalize (((ByteArray.data a0).getD j 0).toNat : Int) = c
    unfold plainC digit
    cases letter c
    · cases ((j : Int) == (0 : Int))
      · cases decide (c ≥ (48 : Int)) <;> cases decide (c ≤ (57 : Int)) <;> cases (c == (95 : Int)) <;> cases (c == (46 : Int)) <;> cases (c == (47 : Int)) <;> cases (c == (45 : Int)) <;> rfl
      · rfl
    · rfl
  · unfold plainOk
    cases allN (fun j => plainC (j : Int) (byteAt a0 j)) 0 a0.size <;> cases inR (a0.size : Int) 1 60 <;> cases sEq a0 (bs [110,117,108,108]) <;> cases sEq a0 (bs [116,114,117,101]) <;> rfl

noncomputable def q38 : List Dt → Option (Bool × List Dt)
  | [.d .str a0] => some ((okStr a0), [.d .bool (plainOk a0)])
  | _ => none
noncomputable def s38 : Gm.Spec := Gm.Spec.of [.ro] [false] true q38
theorem good38 : Gm.Good Try.prog (38, s38) := by
  have hl : ∀ x ∈ [(40, s40), (66, s66)], Gm.Good Try.prog x := List.forall_mem_cons.2 ⟨good40, List.forall_mem_cons.2 ⟨good66, List.forall_mem_nil _⟩⟩
  refine ⟨⟨spec_ok (tab_ok.env hl) (tab.natl hl) Try.func38 (by kernel_rfl : Try.f38.body = some f38c) [4] (by kernel_rfl) ?_, _, Try.func38, by kernel_rfl, of_decide_eq_true (by kernel_rfl)⟩, Gm.Spec.of_natl _ _ _ _⟩
  intro ds outs h
  unfold q38 at h
  split at h
  · simp only [Option.some.injEq, Prod.mk.injEq] at h; obtain ⟨hg, h⟩ := h; cases h; exact f38_spec _ hg
  · cases h
/-! ### loop.example/g00465/impl.PlainOk -/
noncomputable def f42c : Code := (Try.f42.body).getD .skip
def f42k : Nat → Kp := kat [⟨[0], []⟩, ⟨[0, 5, 6], []⟩, ⟨[0, 5, 6, 7], []⟩, ⟨[0, 3, 5, 6], []⟩, ⟨[0, 5, 6, 31], []⟩, ⟨[2], []⟩, ⟨[0, 5, 6], []⟩, ⟨[2], []⟩]
noncomputable def f42e : Env := tab.env [(43, s43), (67, s67), (68, s68), (69, s69)]
noncomputable def f42L0 {R : Type} (n : Nat) (x0 : Option R) (x1 : Int → Bool → Option R) (vs0 : ByteArray) (vs5 : Int) : Nat → Int → Option R
  | 0, _ => none
  | m + 1, vs6 =>
    (cond (decide (vs6 < vs5))
      (cond ((decide ((0 : Int) ≤ vs6)) && (decide (vs6 < (ByteArray.size vs0 : Int))))
        (cond (!(letter (((ByteArray.data vs0).getD (Int.toNat vs6) 0).toNat : Int)))
          (cond (vs6 == (0 : Int))
            (x0)
            (cond ((decide ((0 : Int) ≤ vs6)) && (decide (vs6 < (ByteArray.size vs0 : Int))))
              (cond (!(digit (((ByteArray.data vs0).getD (Int.toNat vs6) 0).toNat : Int)))
                (cond ((decide ((0 : Int) ≤ vs6)) && (decide (vs6 < (ByteArray.size vs0 : Int))))
                  (cond (decide ((idxB (bs [95,46,47,45]) (((ByteArray.data vs0).getD (Int.toNat vs6) 0).toNat : Int)) < (0 : Int)))
                    (x0)
                    (f42L0 n x0 x1 vs0 vs5 m (IntKind.wrap .i64 (vs6 + (1 : Int)))))
                  none)
                (f42L0 n x0 x1 vs0 vs5 m (IntKind.wrap .i64 (vs6 + (1 : Int)))))
              none))
          (f42L0 n x0 x1 vs0 vs5 m (IntKind.wrap .i64 (vs6 + (1 : Int)))))
        none)
      (x1 vs6 (decide (vs6 < vs5))))
theorem f42L0_b {R : Type} (n : Nat) (k' : Ex → St → Option R) (vs0 : ByteArray) (vs5 : Int) (vs6 : Int) : ev f42e f42k n (cAt [1,0,1,0,0] f42c) ⟨[(0, .c (.one (.v (.string vs0)))), (5, .c (.one (.v (.int .i64 vs5)))), (6, .c (.one (.v (.int .i64 vs6))))], [], []⟩ k' =
    (cond (decide (vs6 < vs5))
    (cond ((decide ((0 : Int) ≤ vs6)) && (decide (vs6 < (ByteArray.size vs0 : Int))))
      (cond (!(letter (((ByteArray.data vs0).getD (Int.toNat vs6) 0).toNat : Int)))
        (cond (vs6 == (0 : Int))
          (k' .ret ⟨[(2, .c (.one (.v (.bool false))))], [], []⟩)
          (cond ((decide ((0 : Int) ≤ vs6)) && (decide (vs6 < (ByteArray.size vs0 : Int))))
            (cond (!(digit (((ByteArray.data vs0).getD (Int.toNat vs6) 0).toNat : Int)))
              (cond ((decide ((0 : Int) ≤ vs6)) && (decide (vs6 < (ByteArray.size vs0 : Int))))
                (cond (decide ((idxB (bs [95,46,47,45]) (((ByteArray.data vs0).getD (Int.toNat vs6) 0).toNat : Int)) < (0 : Int)))
                  (k' .ret ⟨[(2, .c (.one (.v (.bool false))))], [], []⟩)
                  (k' .normal ⟨[(0, .c (.one (.v (.string vs0)))), (5, .c (.one (.v (.int .i64 vs5)))), (6, .c (.one (.v (.int .i64 (IntKind.wrap .i64 (vs6 + (1 : Int)))))))], [], []⟩))
                none)
              (k' .normal ⟨[(0, .c (.one (.v (.string vs0)))), (5, .c (.one (.v (.int .i64 vs5)))), (6, .c (.one (.v (.int .i64 (IntKind.wrap .i64 (vs6 + (1 : Int)))))))], [], []⟩))
            none))
        (k' .normal ⟨[(0, .c (.one (.v (.string vs0)))), (5, .c (.one (.v (.int .i64 vs5)))), (6, .c (.one (.v (.int .i64 (IntKind.wrap .i64 (vs6 + (1 : Int)))))))], [], []⟩))
      none)
    (k' (.exit 0) ⟨[(0, .c (.one (.v (.string vs0)))), (5, .c (.one (.v (.int .i64 vs5)))), (6, .c (.one (.v (.int .i64 vs6)))), (7, .c (.one (.v (.bool (decide (vs6 < vs5))))))], [], []⟩)) := by kernel_rfl
theorem f42L0_eq {R : Type} (n : Nat) (k' : Ex → St → Option R) (vs0 : ByteArray) (vs5 : Int) : ∀ (m : Nat) (vs6 : Int), iter (fun st k => ev f42e f42k n (cAt [1,0,1,0,0] f42c) st k) m ⟨[(0, .c (.one (.v (.string vs0)))), (5, .c (.one (.v (.int .i64 vs5)))), (6, .c (.one (.v (.int .i64 vs6))))], [], []⟩ k' = f42L0 n (k' .ret ⟨[(2, .c (.one (.v (.bool false))))], [], []⟩) (fun (xvs6 : Int) (xvs7 : Bool) => k' (.exit 0) ⟨[(0, .c (.one (.v (.string vs0)))), (5, .c (.one (.v (.int .i64 vs5)))), (6, .c (.one (.v (.int .i64 xvs6)))), (7, .c (.one (.v (.bool xvs7))))], [], []⟩) vs0 vs5 m vs6 := by
  intro m; induction m with
  | zero => intros; rfl
  | succ m ih =>
    intro vs6
    simp only [iter]
    rw [f42L0_b]
    simp only [ih, f42L0]

noncomputable def f42K0 {R : Type} (n : Nat) (k' : Ex → St → Option R) : Ex → St → Option R := (blockK 0 (seqK f42e f42k n (cAt [1,1] f42c) k'))
theorem f42K0_x0 {R : Type} (n : Nat) (k : List Dt → Option R) (a0 : ByteArray)  : f42K0 n (exitK f42e [.ro] [false] true [.tmp 2] [4] [.d .str a0] k) .ret ⟨[(2, .c (.one (.v (.bool false))))], [], []⟩ =
    (k [.d .bool false]) := by kernel_rfl
theorem f42K0_x1 {R : Type} (n : Nat) (k : List Dt → Option R) (a0 : ByteArray) (vs0 : ByteArray) (vs5 : Int) (xvs6 : Int) (xvs7 : Bool) : f42K0 n (exitK f42e [.ro] [false] true [.tmp 2] [4] [.d .str a0] k) (.exit 0) ⟨[(0, .c (.one (.v (.string vs0)))), (5, .c (.one (.v (.int .i64 vs5)))), (6, .c (.one (.v (.int .i64 xvs6)))), (7, .c (.one (.v (.bool xvs7))))], [], []⟩ =
    (cond (inR (ByteArray.size vs0 : Int) (1 : Int) (60 : Int))
    (cond (!(sEq vs0 (bs [110,117,108,108])))
      (cond (!(sEq vs0 (bs [116,114,117,101])))
        (k [.d .bool (!(sEq vs0 (bs [102,97,108,115,101])))])
        (k [.d .bool false]))
      (k [.d .bool false]))
    (k [.d .bool false])) := by kernel_rfl

theorem f42_run {R : Type} (n : Nat) (k : List Dt → Option R) (a0 : ByteArray) : evFn f42e f42k n f42c [.ro] [false] true [.tmp 2] [4] [.d .str a0] k =
    (f42L0 n (k [.d .bool false]) (fun (xvs6 : Int) (xvs7 : Bool) =>
    (cond (inR (ByteArray.size a0 : Int) (1 : Int) (60 : Int))
      (cond (!(sEq a0 (bs [110,117,108,108])))
        (cond (!(sEq a0 (bs [116,114,117,101])))
          (k [.d .bool (!(sEq a0 (bs [102,97,108,115,101])))])
          (k [.d .bool false]))
        (k [.d .bool false]))
      (k [.d .bool false]))) a0 (ByteArray.size a0 : Int) n (0 : Int)) := by
  refine Eq.trans (b := (iter (fun st k => ev f42e f42k n (cAt [1,0,1,0,0] f42c) st k) n ⟨[(0, .c (.one (.v (.string a0)))), (5, .c (.one (.v (.int .i64 (ByteArray.size a0 : Int))))), (6, .c (.one (.v (.int .i64 (0 : Int)))))], [], []⟩ (f42K0 n (exitK f42e [.ro] [false] true [.tmp 2] [4] [.d .str a0] k)))) (by kernel_rfl) ?_
  simp only [f42L0_eq, f42K0_x0, f42K0_x1]
theorem f42_spec (a0 : ByteArray) (hg : okStr a0 = true) : ∃ keep rounds, ∀ {R : Type} (k : List Dt → Option R), evFn f42e keep rounds f42c [.ro] [false] true [.tmp 2] [4] [.d .str a0] k = k [.d .bool (plainOk a0)] := by
  have hl : a0.size ≤ 9223372036854775807 := bleN hg
  refine ⟨f42k, a0.size + 1, fun k => ?_⟩
  rw [f42_run]
  refine Eq.trans (loop_idx (n := a0.size) (F := fun m i => f42L0 (a0.size + 1) _ _ a0 (a0.size : Int) m i) (p := fun j => plainC (j : Int) (byteAt a0 j)) (good := _) (bad := k [.d .bool false])
    (fun m j hj => ?_) (fun m => by simp only [f42L0, idxE, cond_false]; rfl) a0.size 0 (a0.size + 1) (by omega) (by omega)) ?_
  · obtain ⟨h1, h0, hw, ht⟩ := idx hj (by omega)
    simp only [f42L0, h1, h0, hw, ht, Bool.and_self, cond_true, idx4 (UInt8.toNat_lt _)]
    show _ = cond (plainC (j : Int) (((ByteArray.data a0).getD j 0).toNat : Int)) _ _
    generalize (((ByteArray.data a0).getD j 0).toNat : Int) = c
    unfold plainC
    cases letter c
    · cases ((j : Int) == (0 : Int))
      · cases digit c <;> cases (c == (95 : Int)) <;> cases (c == (46 : Int)) <;> cases (c == (47 : Int)) <;> cases (c == (45 : Int)) <;> rfl
      · rfl
    · rfl
  · unfold plainOk
    cases allN (fun j => plainC (j : Int) (byteAt a0 j)) 0 a0.size <;> cases inR (a0.size : Int) 1 60 <;> cases sEq a0 (bs [110,117,108,108]) <;> cases sEq a0 (bs [116,114,117,101]) <;> rfl

noncomputable def q42 : List Dt → Option (Bool × List Dt)
  | [.d .str a0] => some ((okStr a0), [.d .bool (plainOk a0)])
  | _ => none
noncomputable def s42 : Gm.Spec := Gm.Spec.of [.ro] [false] true q42
theorem good42 : Gm.Good Try.prog (42, s42) := by
  have hl : ∀ x ∈ [(43, s43), (67, s67), (68, s68), (69, s69)], Gm.Good Try.prog x := List.forall_mem_cons.2 ⟨good43, List.forall_mem_cons.2 ⟨good67, List.forall_mem_cons.2 ⟨good68, List.forall_mem_cons.2 ⟨good69, List.forall_mem_nil _⟩⟩⟩⟩
  refine ⟨⟨spec_ok (tab_ok.env hl) (tab.natl hl) Try.func42 (by kernel_rfl : Try.f42.body = some f42c) [4] (by kernel_rfl) ?_, _, Try.func42, by kernel_rfl, of_decide_eq_true (by kernel_rfl)⟩, Gm.Spec.of_natl _ _ _ _⟩
  intro ds outs h
  unfold q42 at h
  split at h
  · simp only [Option.some.injEq, Prod.mk.injEq] at h; obtain ⟨hg, h⟩ := h; cases h; exact f42_spec _ hg
  · cases h
end Go.Proofs.Ytklmnopgogcbhaa

/- x -/
namespace Go.Proofs.Ytklmnopgogcbhaa
open Go Go.Gm
/-! ### loop.example/g00465/spec.l25Vals -/
noncomputable def f39c : Code := (Try.f39.body).getD .skip
def f39k : Nat → Kp := kat [⟨[0], []⟩, ⟨[0, 3], []⟩, ⟨[0, 3, 7], []⟩, ⟨[0, 3], []⟩, ⟨[0, 3, 31], []⟩, ⟨[2], []⟩, ⟨[2], []⟩]
noncomputable def f39e : Env := tab.env [(38, s38)]
noncomputable def f39L0 {R : Type} (n : Nat) (x0 : Option R) (x1 : Int → Bool → Option R) (vs0 : List ByteArray) : Nat → Int → Option R
  | 0, _ => none
  | m + 1, vs3 =>
    (cond (decide (vs3 < (vs0.length : Int)))
      (cond ((decide ((0 : Int) ≤ vs3)) && (decide (vs3 < (vs0.length : Int))))
        (cond (okStr (atI (t := .str) vs0 (Int.toNat vs3)))
          (cond (!(plainOk (atI (t := .str) vs0 (Int.toNat vs3))))
            (x0)
            (cond (decide (vs3 > (0 : Int)))
              (cond ((decide ((0 : Int) ≤ (IntKind.wrap .i64 (vs3 - (1 : Int))))) && (decide ((IntKind.wrap .i64 (vs3 - (1 : Int))) < (vs0.length : Int))))
                (cond ((decide ((0 : Int) ≤ vs3)) && (decide (vs3 < (vs0.length : Int))))
                  (cond (!(sLt (atI (t := .str) vs0 (Int.toNat (IntKind.wrap .i64 (vs3 - (1 : Int))))) (atI (t := .str) vs0 (Int.toNat vs3))))
                    (x0)
                    (f39L0 n x0 x1 vs0 m (IntKind.wrap .i64 (vs3 + (1 : Int)))))
                  none)
                none)
              (f39L0 n x0 x1 vs0 m (IntKind.wrap .i64 (vs3 + (1 : Int))))))
          none)
        none)
      (x1 vs3 (decide (vs3 < (vs0.length : Int)))))
theorem f39L0_b {R : Type} (n : Nat) (k' : Ex → St → Option R) (vs0 : List ByteArray) (vs3 : Int) : ev f39e f39k n (cAt [1,0,1,0,0] f39c) ⟨[(0, .c (.one (.ro .str vs0))), (3, .c (.one (.v (.int .i64 vs3))))], [], []⟩ k' =
    (cond (decide (vs3 < (vs0.length : Int)))
    (cond ((decide ((0 : Int) ≤ vs3)) && (decide (vs3 < (vs0.length : Int))))
      (cond (okStr (atI (t := .str) vs0 (Int.toNat vs3)))
        (cond (!(plainOk (atI (t := .str) vs0 (Int.toNat vs3))))
          (k' .ret ⟨[(2, .c (.one (.v (.bool false))))], [], []⟩)
          (cond (decide (vs3 > (0 : Int)))
            (cond ((decide ((0 : Int) ≤ (IntKind.wrap .i64 (vs3 - (1 : Int))))) && (decide ((IntKind.wrap .i64 (vs3 - (1 : Int))) < (vs0.length : Int))))
              (cond ((decide ((0 : Int) ≤ vs3)) && (decide (vs3 < (vs0.length : Int))))
                (cond (!(sLt (atI (t := .str) vs0 (Int.toNat (IntKind.wrap .i64 (vs3 - (1 : Int))))) (atI (t := .str) vs0 (Int.toNat vs3))))
                  (k' .ret ⟨[(2, .c (.one (.v (.bool false))))], [], []⟩)
                  (k' .normal ⟨[(0, .c (.one (.ro .str vs0))), (3, .c (.one (.v (.int .i64 (IntKind.wrap .i64 (vs3 + (1 : Int)))))))], [], []⟩))
                none)
              none)
            (k' .normal ⟨[(0, .c (.one (.ro .str vs0))), (3, .c (.one (.v (.int .i64 (IntKind.wrap .i64 (vs3 + (1 : Int)))))))], [], []⟩)))
        none)
      none)
    (k' (.exit 0) ⟨[(0, .c (.one (.ro .str vs0))), (3, .c (.one (.v (.int .i64 vs3)))), (7, .c (.one (.v (.bool (decide (vs3 < (vs0.length : Int)))))))], [], []⟩)) := by kernel_rfl
theorem f39L0_eq {R : Type} (n : Nat) (k' : Ex → St → Option R) (vs0 : List ByteArray) : ∀ (m : Nat) (vs3 : Int), iter (fun st k => ev f39e f39k n (cAt [1,0,1,0,0] f39c) st k) m ⟨[(0, .c (.one (.ro .str vs0))), (3, .c (.one (.v (.int .i64 vs3))))], [], []⟩ k' = f39L0 n (k' .ret ⟨[(2, .c (.one (.v (.bool false))))], [], []⟩) (fun (xvs3 : Int) (xvs7 : Bool) => k' (.exit 0) ⟨[(0, .c (.one (.ro .str vs0))), (3, .c (.one (.v (.int .i64 xvs3)))), (7, .c (.one (.v (.bool xvs7))))], [], []⟩) vs0 m vs3 := by
  intro m; induction m with
  | zero => intros; rfl
  | succ m ih =>
    intro vs3
    simp only [iter]
    rw [f39L0_b]
    simp only [ih, f39L0]

noncomputable def f39K0 {R : Type} (n : Nat) (k' : Ex → St → Option R) : Ex → St → Option R := (blockK 0 (seqK f39e f39k n (cAt [1,1] f39c) k'))
theorem f39K0_x0 {R : Type} (n : Nat) (k : List Dt → Option R) (a0 : List ByteArray)  : f39K0 n (exitK f39e [.ro] [false] true [.tmp 2] [4] [.d (.sl .str) a0] k) .ret ⟨[(2, .c (.one (.v (.bool false))))], [], []⟩ =
    (k [.d .bool false]) := by kernel_rfl
theorem f39K0_x1 {R : Type} (n : Nat) (k : List Dt → Option R) (a0 : List ByteArray) (vs0 : List ByteArray) (xvs3 : Int) (xvs7 : Bool) : f39K0 n (exitK f39e [.ro] [false] true [.tmp 2] [4] [.d (.sl .str) a0] k) (.exit 0) ⟨[(0, .c (.one (.ro .str vs0))), (3, .c (.one (.v (.int .i64 xvs3)))), (7, .c (.one (.v (.bool xvs7))))], [], []⟩ =
    (k [.d .bool true]) := by kernel_rfl

theorem f39_run {R : Type} (n : Nat) (k : List Dt → Option R) (a0 : List ByteArray) : evFn f39e f39k n f39c [.ro] [false] true [.tmp 2] [4] [.d (.sl .str) a0] k =
    (f39L0 n (k [.d .bool false]) (fun (xvs3 : Int) (xvs7 : Bool) =>
    (k [.d .bool true])) a0 n (0 : Int)) := by
  refine Eq.trans (b := (iter (fun st k => ev f39e f39k n (cAt [1,0,1,0,0] f39c) st k) n ⟨[(0, .c (.one (.ro .str a0))), (3, .c (.one (.v (.int .i64 (0 : Int)))))], [], []⟩ (f39K0 n (exitK f39e [.ro] [false] true [.tmp 2] [4] [.d (.sl .str) a0] k)))) (by kernel_rfl) ?_
  simp only [f39L0_eq, f39K0_x0, f39K0_x1]
theorem f39_spec (a0 : List ByteArray) (hg : okL okStr a0 = true) : ∃ keep rounds, ∀ {R : Type} (k : List Dt → Option R), evFn f39e keep rounds f39c [.ro] [false] true [.tmp 2] [4] [.d (.sl .str) a0] k = k [.d .bool (valsOk a0)] := by
  simp only [okL, Bool.and_eq_true] at hg
  obtain ⟨hl, hs⟩ := hg
  have hl : a0.length ≤ 9223372036854775807 := bleN hl
  refine ⟨f39k, a0.length + 1, fun k => ?_⟩
  rw [f39_run]
  refine Eq.trans (loop_idx (n := a0.length) (F := fun m i => f39L0 (a0.length + 1) _ _ a0 m i) (p := valC a0) (good := _) (bad := k [.d .bool false])
    (fun m j hj => ?_) (fun m => by simp only [f39L0, idxE, cond_false]; rfl) a0.length 0 (a0.length + 1) (by omega) (by omega)) ?_
  · obtain ⟨h1, h0, hw, ht⟩ := idx hj (by omega)
    simp only [f39L0, h1, h0, hw, ht, okStr_at hs hj, Bool.and_self, cond_true]
    unfold valC
    cases plainOk (atI (t := .str) a0 j)
    · rfl
    · by_cases hz : (j : Int) > 0
      · obtain ⟨h2, h3, _, h5⟩ := idx (show j - 1 < a0.length by omega) (by omega)
        simp only [hz, decide_true, cond_true, idxM hj (by omega) (by omega), h2, h3, h5, Bool.and_self]
        cases sLt (atI (t := .str) a0 (j - 1)) (atI (t := .str) a0 j) <;> rfl
      · simp only [hz, decide_false, cond_false]; rfl
  · unfold valsOk
    cases allN (valC a0) 0 a0.length <;> rfl

noncomputable def q39 : List Dt → Option (Bool × List Dt)
  | [.d (.sl .str) a0] => some ((okL okStr a0), [.d .bool (valsOk a0)])
  | _ => none
noncomputable def s39 : Gm.Spec := Gm.Spec.of [.ro] [false] true q39
theorem good39 : Gm.Good Try.prog (39, s39) := by
  have hl : ∀ x ∈ [(38, s38)], Gm.Good Try.prog x := List.forall_mem_cons.2 ⟨good38, List.forall_mem_nil _⟩
  refine ⟨⟨spec_ok (tab_ok.env hl) (tab.natl hl) Try.func39 (by kernel_rfl : Try.f39.body = some f39c) [4] (by kernel_rfl) ?_, _, Try.func39, by kernel_rfl, of_decide_eq_true (by kernel_rfl)⟩, Gm.Spec.of_natl _ _ _ _⟩
  intro ds outs h
  unfold q39 at h
  split at h
  · simp only [Option.some.injEq, Prod.mk.injEq] at h; obtain ⟨hg, h⟩ := h; cases h; exact f39_spec _ hg
  · cases h
/-! ### loop.example/g00465/spec.PickOk -/
noncomputable def f9c : Code := (Try.f9.body).getD .skip
def f9k : Nat → Kp := kat [⟨[1], []⟩, ⟨[1, 3, 4], []⟩, ⟨[1, 3, 4, 6], []⟩, ⟨[2], []⟩, ⟨[1, 3, 4, 6, 7], []⟩, ⟨[1, 3, 4, 6, 7], []⟩, ⟨[1, 3, 4], []⟩, ⟨[1, 3, 4, 6, 10], []⟩, ⟨[1, 3, 4, 6, 10], []⟩, ⟨[1, 3, 4], []⟩, ⟨[1, 3, 4, 6, 13], []⟩, ⟨[1, 3, 4, 13], []⟩, ⟨[2], []⟩]
noncomputable def f9e : Env := tab.env [(38, s38), (39, s39), (40, s40)]
theorem f9_run {R : Type} (n : Nat) (k : List Dt → Option R) (a0 : PickT) : evFn f9e f9k n f9c [.ro] [false] true [.tmp 2] [4] [.d .pick a0] k =
    (cond ((PickT.op a0) == (1 : Int))
    (cond ((PickT.op a0) == (1 : Int))
      (cond (okStr (PickT.key a0))
        (cond (plainOk (PickT.key a0))
          (cond (okL okStr (PickT.vals a0))
            (cond (valsOk (PickT.vals a0))
              (k [.d .bool (inR ((PickT.vals a0).length : Int) (1 : Int) (1 : Int))])
              (k [.d .bool false]))
            none)
          (k [.d .bool false]))
        none)
      (cond ((PickT.op a0) == (3 : Int))
        (cond ((PickT.op a0) == (3 : Int))
          (cond (okStr (PickT.key a0))
            (cond (plainOk (PickT.key a0))
              (cond (okL okStr (PickT.vals a0))
                (cond (valsOk (PickT.vals a0))
                  (k [.d .bool (inR ((PickT.vals a0).length : Int) (1 : Int) (4 : Int))])
                  (k [.d .bool false]))
                none)
              (k [.d .bool false]))
            none)
          (cond ((PickT.op a0) == (5 : Int))
            (cond ((PickT.op a0) == (5 : Int))
              (cond (okStr (PickT.key a0))
                (cond (plainOk (PickT.key a0))
                  (cond (okL okStr (PickT.vals a0))
                    (cond (valsOk (PickT.vals a0))
                      (k [.d .bool (inR ((PickT.vals a0).length : Int) (0 : Int) (0 : Int))])
                      (k [.d .bool false]))
                    none)
                  (k [.d .bool false]))
                none)
              (k [.d .bool false]))
            (cond ((PickT.op a0) == (6 : Int))
              (cond (okStr (PickT.key a0))
                (cond (plainOk (PickT.key a0))
                  (cond (okL okStr (PickT.vals a0))
                    (cond (valsOk (PickT.vals a0))
                      (k [.d .bool (inR ((PickT.vals a0).length : Int) (0 : Int) (0 : Int))])
                      (k [.d .bool false]))
                    none)
                  (k [.d .bool false]))
                none)
              (k [.d .bool false]))))
        (cond ((PickT.op a0) == (4 : Int))
          (cond (okStr (PickT.key a0))
            (cond (plainOk (PickT.key a0))
              (cond (okL okStr (PickT.vals a0))
                (cond (valsOk (PickT.vals a0))
                  (k [.d .bool (inR ((PickT.vals a0).length : Int) (1 : Int) (4 : Int))])
                  (k [.d .bool false]))
                none)
              (k [.d .bool false]))
            none)
          (cond ((PickT.op a0) == (5 : Int))
            (cond ((PickT.op a0) == (5 : Int))
              (cond (okStr (PickT.key a0))
                (cond (plainOk (PickT.key a0))
                  (cond (okL okStr (PickT.vals a0))
                    (cond (valsOk (PickT.vals a0))
                      (k [.d .bool (inR ((PickT.vals a0).length : Int) (0 : Int) (0 : Int))])
                      (k [.d .bool false]))
                    none)
                  (k [.d .bool false]))
                none)
              (k [.d .bool false]))
            (cond ((PickT.op a0) == (6 : Int))
              (cond (okStr (PickT.key a0))
                (cond (plainOk (PickT.key a0))
                  (cond (okL okStr (PickT.vals a0))
                    (cond (valsOk (PickT.vals a0))
                      (k [.d .bool (inR ((PickT.vals a0).length : Int) (0 : Int) (0 : Int))])
                      (k [.d .bool false]))
                    none)
                  (k [.d .bool false]))
                none)
              (k [.d .bool false]))))))
    (cond ((PickT.op a0) == (2 : Int))
      (cond (okStr (PickT.key a0))
        (cond (plainOk (PickT.key a0))
          (cond (okL okStr (PickT.vals a0))
            (cond (valsOk (PickT.vals a0))
              (k [.d .bool (inR ((PickT.vals a0).length : Int) (1 : Int) (1 : Int))])
              (k [.d .bool false]))
            none)
          (k [.d .bool false]))
        none)
      (cond ((PickT.op a0) == (3 : Int))
        (cond ((PickT.op a0) == (3 : Int))
          (cond (okStr (PickT.key a0))
            (cond (plainOk (PickT.key a0))
              (cond (okL okStr (PickT.vals a0))
                (cond (valsOk (PickT.vals a0))
                  (k [.d .bool (inR ((PickT.vals a0).length : Int) (1 : Int) (4 : Int))])
                  (k [.d .bool false]))
                none)
              (k [.d .bool false]))
            none)
          (cond ((PickT.op a0) == (5 : Int))
            (cond ((PickT.op a0) == (5 : Int))
              (cond (okStr (PickT.key a0))
                (cond (plainOk (PickT.key a0))
                  (cond (okL okStr (PickT.vals a0))
                    (cond (valsOk (PickT.vals a0))
                      (k [.d .bool (inR ((PickT.vals a0).length : Int) (0 : Int) (0 : Int))])
                      (k [.d .bool false]))
                    none)
                  (k [.d .bool false]))
                none)
              (k [.d .bool false]))
            (cond ((PickT.op a0) == (6 : Int))
              (cond (okStr (PickT.key a0))
                (cond (plainOk (PickT.key a0))
                  (cond (okL okStr (PickT.vals a0))
                    (cond (valsOk (PickT.vals a0))
                      (k [.d .bool (inR ((PickT.vals a0).length : Int) (0 : Int) (0 : Int))])
                      (k [.d .bool false]))
                    none)
                  (k [.d .bool false]))
                none)
              (k [.d .bool false]))))
        (cond ((PickT.op a0) == (4 : Int))
          (cond (okStr (PickT.key a0))
            (cond (plainOk (PickT.key a0))
              (cond (okL okStr (PickT.vals a0))
                (cond (valsOk (PickT.vals a0))
                  (k [.d .bool (inR ((PickT.vals a0).length : Int) (1 : Int) (4 : Int))])
                  (k [.d .bool false]))
                none)
              (k [.d .bool false]))
            none)
          (cond ((PickT.op a0) == (5 : Int))
            (cond ((PickT.op a0) == (5 : Int))
              (cond (okStr (PickT.key a0))
                (cond (plainOk (PickT.key a0))
                  (cond (okL okStr (PickT.vals a0))
                    (cond (valsOk (PickT.vals a0))
                      (k [.d .bool (inR ((PickT.vals a0).length : Int) (0 : Int) (0 : Int))])
                      (k [.d .bool false]))
                    none)
                  (k [.d .bool false]))
                none)
              (k [.d .bool false]))
            (cond ((PickT.op a0) == (6 : Int))
              (cond (okStr (PickT.key a0))
                (cond (plainOk (PickT.key a0))
                  (cond (okL okStr (PickT.vals a0))
                    (cond (valsOk (PickT.vals a0))
                      (k [.d .bool (inR ((PickT.vals a0).length : Int) (0 : Int) (0 : Int))])
                      (k [.d .bool false]))
                    none)
                  (k [.d .bool false]))
                none)
              (k [.d .bool false]))))))) := by kernel_rfl
theorem f9_spec (a0 : PickT) (hg : okPick a0 = true) : ∃ keep rounds, ∀ {R : Type} (k : List Dt → Option R), evFn f9e keep rounds f9c [.ro] [false] true [.tmp 2] [4] [.d .pick a0] k = k [.d .bool (pickOk a0)] := by
  simp only [okPick, Bool.and_eq_true] at hg
  obtain ⟨hk, hv⟩ := hg
  refine ⟨f9k, 0, fun k => ?_⟩
  rw [f9_run, hk, hv]
  simp only [cond_true]
  unfold pickOk
  cases plainOk a0.key <;> cases valsOk a0.vals <;>
    cases h1 : (a0.op == (1 : Int)) <;> cases h2 : (a0.op == (2 : Int)) <;> cases h3 : (a0.op == (3 : Int)) <;> cases h4 : (a0.op == (4 : Int)) <;> cases h5 : (a0.op == (5 : Int)) <;> cases h6 : (a0.op == (6 : Int)) <;>
    first
      | (exfalso; simp only [beq_iff_eq] at h1 h2 h3 h4 h5 h6; omega)
      | (simp only [cond_true, cond_false, Bool.true_and, Bool.false_and, Bool.or_false, Bool.false_or, Bool.true_or, Bool.or_true])
      | rfl

noncomputable def q9 : List Dt → Option (Bool × List Dt)
  | [.d .pick a0] => some ((okPick a0), [.d .bool (pickOk a0)])
  | _ => none
noncomputable def s9 : Gm.Spec := Gm.Spec.of [.ro] [false] true q9
theorem good9 : Gm.Good Try.prog (9, s9) := by
  have hl : ∀ x ∈ [(38, s38), (39, s39), (40, s40)], Gm.Good Try.prog x := List.forall_mem_cons.2 ⟨good38, List.forall_mem_cons.2 ⟨good39, List.forall_mem_cons.2 ⟨good40, List.forall_mem_nil _⟩⟩⟩
  refine ⟨⟨spec_ok (tab_ok.env hl) (tab.natl hl) Try.func9 (by kernel_rfl : Try.f9.body = some f9c) [4] (by kernel_rfl) ?_, _, Try.func9, by kernel_rfl, of_decide_eq_true (by kernel_rfl)⟩, Gm.Spec.of_natl _ _ _ _⟩
  intro ds outs h
  unfold q9 at h
  split at h
  · simp only [Option.some.injEq, Prod.mk.injEq] at h; obtain ⟨hg, h⟩ := h; cases h; exact f9_spec _ hg
  · cases h
/-! ### loop.example/g00465/impl.PickOk -/
noncomputable def f11c : Code := (Try.f11.body).getD .skip
def f11k : Nat → Kp := kat [⟨[1], []⟩, ⟨[1, 8, 9, 10], []⟩, ⟨[1, 8, 9, 10, 11], []⟩, ⟨[1, 3, 4, 8, 9, 10], []⟩, ⟨[1, 8, 9, 10, 31], []⟩, ⟨[2], []⟩, ⟨[1, 8, 9, 10], []⟩, ⟨[1, 5, 6], []⟩, ⟨[1, 5, 6, 34], []⟩, ⟨[2], []⟩, ⟨[1, 5, 6, 34, 35], []⟩, ⟨[1, 5, 6, 34, 35], []⟩, ⟨[1, 5, 6], []⟩, ⟨[1, 5, 6, 34, 38], []⟩, ⟨[1, 5, 6, 34, 38], []⟩, ⟨[1, 5, 6], []⟩, ⟨[1, 5, 6, 34, 41], []⟩, ⟨[1, 5, 6, 41], []⟩, ⟨[2], []⟩]
noncomputable def f11e : Env := tab.env [(42, s42), (43, s43)]
noncomputable def f11L0 {R : Type} (n : Nat) (x0 : Option R) (x1 : Int → Bool → Option R) (vs8 : List ByteArray) (vs9 : Int) (vb1_0 : Int) (vb1_1 : ByteArray) (vb1_2 : List ByteArray) : Nat → Int → Option R
  | 0, _ => none
  | m + 1, vs10 =>
    (cond (decide (vs10 < vs9))
      (cond ((decide ((0 : Int) ≤ vs10)) && (decide (vs10 < (vs8.length : Int))))
        (cond (okStr (atI (t := .str) vs8 (Int.toNat vs10)))
          (cond (!(plainOk (atI (t := .str) vs8 (Int.toNat vs10))))
            (x0)
            (cond (decide (vs10 > (0 : Int)))
              (cond ((decide ((0 : Int) ≤ (IntKind.wrap .i64 (vs10 - (1 : Int))))) && (decide ((IntKind.wrap .i64 (vs10 - (1 : Int))) < (vb1_2.length : Int))))
                (cond (!(sLt (atI (t := .str) vb1_2 (Int.toNat (IntKind.wrap .i64 (vs10 - (1 : Int))))) (atI (t := .str) vs8 (Int.toNat vs10))))
                  (x0)
                  (f11L0 n x0 x1 vs8 vs9 vb1_0 vb1_1 vb1_2 m (IntKind.wrap .i64 (vs10 + (1 : Int)))))
                none)
              (f11L0 n x0 x1 vs8 vs9 vb1_0 vb1_1 vb1_2 m (IntKind.wrap .i64 (vs10 + (1 : Int))))))
          none)
        none)
      (x1 vs10 (decide (vs10 < vs9))))
theorem f11L0_b {R : Type} (n : Nat) (k' : Ex → St → Option R) (vs8 : List ByteArray) (vs9 : Int) (vs10 : Int) (vb1_0 : Int) (vb1_1 : ByteArray) (vb1_2 : List ByteArray) : ev f11e f11k n (cAt [1,0,1,0,0] f11c) ⟨[(1, .c (.one (.pt 1 0))), (8, .c (.one (.ro .str vs8))), (9, .c (.one (.v (.int .i64 vs9)))), (10, .c (.one (.v (.int .i64 vs10))))], [(1, ⟨.pick, [.v (.int .i64 vb1_0), .v (.string vb1_1), .ro .str vb1_2]⟩)], []⟩ k' =
    (cond (decide (vs10 < vs9))
    (cond ((decide ((0 : Int) ≤ vs10)) && (decide (vs10 < (vs8.length : Int))))
      (cond (okStr (atI (t := .str) vs8 (Int.toNat vs10)))
        (cond (!(plainOk (atI (t := .str) vs8 (Int.toNat vs10))))
          (k' .ret ⟨[(2, .c (.one (.v (.bool false))))], [], []⟩)
          (cond (decide (vs10 > (0 : Int)))
            (cond ((decide ((0 : Int) ≤ (IntKind.wrap .i64 (vs10 - (1 : Int))))) && (decide ((IntKind.wrap .i64 (vs10 - (1 : Int))) < (vb1_2.length : Int))))
              (cond (!(sLt (atI (t := .str) vb1_2 (Int.toNat (IntKind.wrap .i64 (vs10 - (1 : Int))))) (atI (t := .str) vs8 (Int.toNat vs10))))
                (k' .ret ⟨[(2, .c (.one (.v (.bool false))))], [], []⟩)
                (k' .normal ⟨[(1, .c (.one (.pt 1 0))), (8, .c (.one (.ro .str vs8))), (9, .c (.one (.v (.int .i64 vs9)))), (10, .c (.one (.v (.int .i64 (IntKind.wrap .i64 (vs10 + (1 : Int)))))))], [(1, ⟨.pick, [.v (.int .i64 vb1_0), .v (.string vb1_1), .ro .str vb1_2]⟩)], []⟩))
              none)
            (k' .normal ⟨[(1, .c (.one (.pt 1 0))), (8, .c (.one (.ro .str vs8))), (9, .c (.one (.v (.int .i64 vs9)))), (10, .c (.one (.v (.int .i64 (IntKind.wrap .i64 (vs10 + (1 : Int)))))))], [(1, ⟨.pick, [.v (.int .i64 vb1_0), .v (.string vb1_1), .ro .str vb1_2]⟩)], []⟩)))
        none)
      none)
    (k' (.exit 0) ⟨[(1, .c (.one (.pt 1 0))), (8, .c (.one (.ro .str vs8))), (9, .c (.one (.v (.int .i64 vs9)))), (10, .c (.one (.v (.int .i64 vs10)))), (11, .c (.one (.v (.bool (decide (vs10 < vs9))))))], [(1, ⟨.pick, [.v (.int .i64 vb1_0), .v (.string vb1_1), .ro .str vb1_2]⟩)], []⟩)) := by kernel_rfl
theorem f11L0_eq {R : Type} (n : Nat) (k' : Ex → St → Option R) (vs8 : List ByteArray) (vs9 : Int) (vb1_0 : Int) (vb1_1 : ByteArray) (vb1_2 : List ByteArray) : ∀ (m : Nat) (vs10 : Int), iter (fun st k => ev f11e f11k n (cAt [1,0,1,0,0] f11c) st k) m ⟨[(1, .c (.one (.pt 1 0))), (8, .c (.one (.ro .str vs8))), (9, .c (.one (.v (.int .i64 vs9)))), (10, .c (.one (.v (.int .i64 vs10))))], [(1, ⟨.pick, [.v (.int .i64 vb1_0), .v (.string vb1_1), .ro .str vb1_2]⟩)], []⟩ k' = f11L0 n (k' .ret ⟨[(2, .c (.one (.v (.bool false))))], [], []⟩) (fun (xvs10 : Int) (xvs11 : Bool) => k' (.exit 0) ⟨[(1, .c (.one (.pt 1 0))), (8, .c (.one (.ro .str vs8))), (9, .c (.one (.v (.int .i64 vs9)))), (10, .c (.one (.v (.int .i64 xvs10)))), (11, .c (.one (.v (.bool xvs11))))], [(1, ⟨.pick, [.v (.int .i64 vb1_0), .v (.string vb1_1), .ro .str vb1_2]⟩)], []⟩) vs8 vs9 vb1_0 vb1_1 vb1_2 m vs10 := by
  intro m; induction m with
  | zero => intros; rfl
  | succ m ih =>
    intro vs10
    simp only [iter]
    rw [f11L0_b]
    simp only [ih, f11L0]

noncomputable def f11K0 {R : Type} (n : Nat) (k' : Ex → St → Option R) : Ex → St → Option R := (blockK 0 (seqK f11e f11k n (cAt [1,1] f11c) k'))
theorem f11K0_x0 {R : Type} (n : Nat) (k : List Dt → Option R) (a0 : PickT)  : f11K0 n (exitK f11e [.ro] [false] true [.tmp 2] [4] [.d .pick a0] k) .ret ⟨[(2, .c (.one (.v (.bool false))))], [], []⟩ =
    (k [.d .bool false]) := by kernel_rfl
theorem f11K0_x1 {R : Type} (n : Nat) (k : List Dt → Option R) (a0 : PickT) (vs8 : List ByteArray) (vs9 : Int) (vb1_0 : Int) (vb1_1 : ByteArray) (vb1_2 : List ByteArray) (xvs10 : Int) (xvs11 : Bool) : f11K0 n (exitK f11e [.ro] [false] true [.tmp 2] [4] [.d .pick a0] k) (.exit 0) ⟨[(1, .c (.one (.pt 1 0))), (8, .c (.one (.ro .str vs8))), (9, .c (.one (.v (.int .i64 vs9)))), (10, .c (.one (.v (.int .i64 xvs10)))), (11, .c (.one (.v (.bool xvs11))))], [(1, ⟨.pick, [.v (.int .i64 vb1_0), .v (.string vb1_1), .ro .str vb1_2]⟩)], []⟩ =
    (cond (vb1_0 == (1 : Int))
    (cond (vb1_0 == (1 : Int))
      (cond (okStr vb1_1)
        (cond (plainOk vb1_1)
          (k [.d .bool (inR (vb1_2.length : Int) (1 : Int) (1 : Int))])
          (k [.d .bool false]))
        none)
      (cond (vb1_0 == (3 : Int))
        (cond (vb1_0 == (3 : Int))
          (cond (okStr vb1_1)
            (cond (plainOk vb1_1)
              (k [.d .bool (inR (vb1_2.length : Int) (1 : Int) (4 : Int))])
              (k [.d .bool false]))
            none)
          (cond (vb1_0 == (5 : Int))
            (cond (vb1_0 == (5 : Int))
              (cond (okStr vb1_1)
                (cond (plainOk vb1_1)
                  (k [.d .bool (inR (vb1_2.length : Int) (0 : Int) (0 : Int))])
                  (k [.d .bool false]))
                none)
              (k [.d .bool false]))
            (cond (vb1_0 == (6 : Int))
              (cond (okStr vb1_1)
                (cond (plainOk vb1_1)
                  (k [.d .bool (inR (vb1_2.length : Int) (0 : Int) (0 : Int))])
                  (k [.d .bool false]))
                none)
              (k [.d .bool false]))))
        (cond (vb1_0 == (4 : Int))
          (cond (okStr vb1_1)
            (cond (plainOk vb1_1)
              (k [.d .bool (inR (vb1_2.length : Int) (1 : Int) (4 : Int))])
              (k [.d .bool false]))
            none)
          (cond (vb1_0 == (5 : Int))
            (cond (vb1_0 == (5 : Int))
              (cond (okStr vb1_1)
                (cond (plainOk vb1_1)
                  (k [.d .bool (inR (vb1_2.length : Int) (0 : Int) (0 : Int))])
                  (k [.d .bool false]))
                none)
              (k [.d .bool false]))
            (cond (vb1_0 == (6 : Int))
              (cond (okStr vb1_1)
                (cond (plainOk vb1_1)
                  (k [.d .bool (inR (vb1_2.length : Int) (0 : Int) (0 : Int))])
                  (k [.d .bool false]))
                none)
              (k [.d .bool false]))))))
    (cond (vb1_0 == (2 : Int))
      (cond (okStr vb1_1)
        (cond (plainOk vb1_1)
          (k [.d .bool (inR (vb1_2.length : Int) (1 : Int) (1 : Int))])
          (k [.d .bool false]))
        none)
      (cond (vb1_0 == (3 : Int))
        (cond (vb1_0 == (3 : Int))
          (cond (okStr vb1_1)
            (cond (plainOk vb1_1)
              (k [.d .bool (inR (vb1_2.length : Int) (1 : Int) (4 : Int))])
              (k [.d .bool false]))
            none)
          (cond (vb1_0 == (5 : Int))
            (cond (vb1_0 == (5 : Int))
              (cond (okStr vb1_1)
                (cond (plainOk vb1_1)
                  (k [.d .bool (inR (vb1_2.length : Int) (0 : Int) (0 : Int))])
                  (k [.d .bool false]))
                none)
              (k [.d .bool false]))
            (cond (vb1_0 == (6 : Int))
              (cond (okStr vb1_1)
                (cond (plainOk vb1_1)
                  (k [.d .bool (inR (vb1_2.length : Int) (0 : Int) (0 : Int))])
                  (k [.d .bool false]))
                none)
              (k [.d .bool false]))))
        (cond (vb1_0 == (4 : Int))
          (cond (okStr vb1_1)
            (cond (plainOk vb1_1)
              (k [.d .bool (inR (vb1_2.length : Int) (1 : Int) (4 : Int))])
              (k [.d .bool false]))
            none)
          (cond (vb1_0 == (5 : Int))
            (cond (vb1_0 == (5 : Int))
              (cond (okStr vb1_1)
                (cond (plainOk vb1_1)
                  (k [.d .bool (inR (vb1_2.length : Int) (0 : Int) (0 : Int))])
                  (k [.d .bool false]))
                none)
              (k [.d .bool false]))
            (cond (vb1_0 == (6 : Int))
              (cond (okStr vb1_1)
                (cond (plainOk vb1_1)
                  (k [.d .bool (inR (vb1_2.length : Int) (0 : Int) (0 : Int))])
                  (k [.d .bool false]))
                none)
              (k [.d .bool false]))))))) := by kernel_rfl

theorem f11_run {R : Type} (n : Nat) (k : List Dt → Option R) (a0 : PickT) : evFn f11e f11k n f11c [.ro] [false] true [.tmp 2] [4] [.d .pick a0] k =
    (f11L0 n (k [.d .bool false]) (fun (xvs10 : Int) (xvs11 : Bool) =>
    (cond ((PickT.op a0) == (1 : Int))
      (cond ((PickT.op a0) == (1 : Int))
        (cond (okStr (PickT.key a0))
          (cond (plainOk (PickT.key a0))
            (k [.d .bool (inR ((PickT.vals a0).length : Int) (1 : Int) (1 : Int))])
            (k [.d .bool false]))
          none)
        (cond ((PickT.op a0) == (3 : Int))
          (cond ((PickT.op a0) == (3 : Int))
            (cond (okStr (PickT.key a0))
              (cond (plainOk (PickT.key a0))
                (k [.d .bool (inR ((PickT.vals a0).length : Int) (1 : Int) (4 : Int))])
                (k [.d .bool false]))
              none)
            (cond ((PickT.op a0) == (5 : Int))
              (cond ((PickT.op a0) == (5 : Int))
                (cond (okStr (PickT.key a0))
                  (cond (plainOk (PickT.key a0))
                    (k [.d .bool (inR ((PickT.vals a0).length : Int) (0 : Int) (0 : Int))])
                    (k [.d .bool false]))
                  none)
                (k [.d .bool false]))
              (cond ((PickT.op a0) == (6 : Int))
                (cond (okStr (PickT.key a0))
                  (cond (plainOk (PickT.key a0))
                    (k [.d .bool (inR ((PickT.vals a0).length : Int) (0 : Int) (0 : Int))])
                    (k [.d .bool false]))
                  none)
                (k [.d .bool false]))))
          (cond ((PickT.op a0) == (4 : Int))
            (cond (okStr (PickT.key a0))
              (cond (plainOk (PickT.key a0))
                (k [.d .bool (inR ((PickT.vals a0).length : Int) (1 : Int) (4 : Int))])
                (k [.d .bool false]))
              none)
            (cond ((PickT.op a0) == (5 : Int))
              (cond ((PickT.op a0) == (5 : Int))
                (cond (okStr (PickT.key a0))
                  (cond (plainOk (PickT.key a0))
                    (k [.d .bool (inR ((PickT.vals a0).length : Int) (0 : Int) (0 : Int))])
                    (k [.d .bool false]))
                  none)
                (k [.d .bool false]))
              (cond ((PickT.op a0) == (6 : Int))
                (cond (okStr (PickT.key a0))
                  (cond (plainOk (PickT.key a0))
                    (k [.d .bool (inR ((PickT.vals a0).length : Int) (0 : Int) (0 : Int))])
                    (k [.d .bool false]))
                  none)
                (k [.d .bool false]))))))
      (cond ((PickT.op a0) == (2 : Int))
        (cond (okStr (PickT.key a0))
          (cond (plainOk (PickT.key a0))
            (k [.d .bool (inR ((PickT.vals a0).length : Int) (1 : Int) (1 : Int))])
            (k [.d .bool false]))
          none)
        (cond ((PickT.op a0) == (3 : Int))
          (cond ((PickT.op a0) == (3 : Int))
            (cond (okStr (PickT.key a0))
              (cond (plainOk (PickT.key a0))
                (k [.d .bool (inR ((PickT.vals a0).length : Int) (1 : Int) (4 : Int))])
                (k [.d .bool false]))
              none)
            (cond ((PickT.op a0) == (5 : Int))
              (cond ((PickT.op a0) == (5 : Int))
                (cond (okStr (PickT.key a0))
                  (cond (plainOk (PickT.key a0))
                    (k [.d .bool (inR ((PickT.vals a0).length : Int) (0 : Int) (0 : Int))])
                    (k [.d .bool false]))
                  none)
                (k [.d .bool false]))
              (cond ((PickT.op a0) == (6 : Int))
                (cond (okStr (PickT.key a0))
                  (cond (plainOk (PickT.key a0))
                    (k [.d .bool (inR ((PickT.vals a0).length : Int) (0 : Int) (0 : Int))])
                    (k [.d .bool false]))
                  none)
                (k [.d .bool false]))))
          (cond ((PickT.op a0) == (4 : Int))
            (cond (okStr (PickT.key a0))
              (cond (plainOk (PickT.key a0))
                (k [.d .bool (inR ((PickT.vals a0).length : Int) (1 : Int) (4 : Int))])
                (k [.d .bool false]))
              none)
            (cond ((PickT.op a0) == (5 : Int))
              (cond ((PickT.op a0) == (5 : Int))
                (cond (okStr (PickT.key a0))
                  (cond (plainOk (PickT.key a0))
                    (k [.d .bool (inR ((PickT.vals a0).length : Int) (0 : Int) (0 : Int))])
                    (k [.d .bool false]))
                  none)
                (k [.d .bool false]))
              (cond ((PickT.op a0) == (6 : Int))
                (cond (okStr (PickT.key a0))
                  (cond (plainOk (PickT.key a0))
                    (k [.d .bool (inR ((PickT.vals a0).length : Int) (0 : Int) (0 : Int))])
                    (k [.d .bool false]))
                  none)
                (k [.d .bool false])))))))) (PickT.vals a0) ((PickT.vals a0).length : Int) (PickT.op a0) (PickT.key a0) (PickT.vals a0) n (0 : Int)) := by
  refine Eq.trans (b := (iter (fun st k => ev f11e f11k n (cAt [1,0,1,0,0] f11c) st k) n ⟨[(1, .c (.one (.pt 1 0))), (8, .c (.one (.ro .str (PickT.vals a0)))), (9, .c (.one (.v (.int .i64 ((PickT.vals a0).length : Int))))), (10, .c (.one (.v (.int .i64 (0 : Int)))))], [(1, ⟨.pick, [.v (.int .i64 (PickT.op a0)), .v (.string (PickT.key a0)), .ro .str (PickT.vals a0)]⟩)], []⟩ (f11K0 n (exitK f11e [.ro] [false] true [.tmp 2] [4] [.d .pick a0] k)))) (by kernel_rfl) ?_
  simp only [f11L0_eq, f11K0_x0, f11K0_x1]
theorem f11_spec (a0 : PickT) (hg : okPick a0 = true) : ∃ keep rounds, ∀ {R : Type} (k : List Dt → Option R), evFn f11e keep rounds f11c [.ro] [false] true [.tmp 2] [4] [.d .pick a0] k = k [.d .bool (pickOk a0)] := by
  simp only [okPick, okL, Bool.and_eq_true] at hg
  obtain ⟨hk, hl, hs⟩ := hg
  have hl : a0.vals.length ≤ 9223372036854775807 := bleN hl
  refine ⟨f11k, a0.vals.length + 1, fun k => ?_⟩
  rw [f11_run]
  refine Eq.trans (loop_idx (n := a0.vals.length) (F := fun m i => f11L0 (a0.vals.length + 1) _ _ a0.vals (a0.vals.length : Int) a0.op a0.key a0.vals m i) (p := valC a0.vals) (good := _) (bad := k [.d .bool false])
    (fun m j hj => ?_) (fun m => by simp only [f11L0, idxE, cond_false]; rfl) a0.vals.length 0 (a0.vals.length + 1) (by omega) (by omega)) ?_
  · obtain ⟨h1, h0, hw, ht⟩ := idx hj (by omega)
    simp only [f11L0, h1, h0, hw, ht, okStr_at hs hj, Bool.and_self, cond_true]
    unfold valC
    cases plainOk (atI (t := .str) a0.vals j)
    · rfl
    · by_cases hz : (j : Int) > 0
      · obtain ⟨h2, h3, _, h5⟩ := idx (show j - 1 < a0.vals.length by omega) (by omega)
        simp only [hz, decide_true, cond_true, idxM hj (by omega) (by omega), h2, h3, h5, Bool.and_self]
        cases sLt (atI (t := .str) a0.vals (j - 1)) (atI (t := .str) a0.vals j) <;> rfl
      · simp only [hz, decide_false, cond_false]; rfl
  · rw [hk]
    simp only [cond_true]
    unfold pickOk valsOk
    cases plainOk a0.key <;> cases allN (valC a0.vals) 0 a0.vals.length <;>
      cases h1 : (a0.op == (1 : Int)) <;> cases h2 : (a0.op == (2 : Int)) <;> cases h3 : (a0.op == (3 : Int)) <;> cases h4 : (a0.op == (4 : Int)) <;> cases h5 : (a0.op == (5 : Int)) <;> cases h6 : (a0.op == (6 : Int)) <;>
      first
        | (exfalso; simp only [beq_iff_eq] at h1 h2 h3 h4 h5 h6; omega)
        | (simp only [cond_true, cond_false, Bool.true_and, Bool.false_and, Bool.or_false, Bool.false_or, Bool.true_or, Bool.or_true])
        | rfl

noncomputable def q11 : List Dt → Option (Bool × List Dt)
  | [.d .pick a0] => some ((okPick a0), [.d .bool (pickOk a0)])
  | _ => none
noncomputable def s11 : Gm.Spec := Gm.Spec.of [.ro] [false] true q11
theorem good11 : Gm.Good Try.prog (11, s11) := by
  have hl : ∀ x ∈ [(42, s42), (43, s43)], Gm.Good Try.prog x := List.forall_mem_cons.2 ⟨good42, List.forall_mem_cons.2 ⟨good43, List.forall_mem_nil _⟩⟩
  refine ⟨⟨spec_ok (tab_ok.env hl) (tab.natl hl) Try.func11 (by kernel_rfl : Try.f11.body = some f11c) [4] (by kernel_rfl) ?_, _, Try.func11, by kernel_rfl, of_decide_eq_true (by kernel_rfl)⟩, Gm.Spec.of_natl _ _ _ _⟩
  intro ds outs h
  unfold q11 at h
  split at h
  · simp only [Option.some.injEq, Prod.mk.injEq] at h; obtain ⟨hg, h⟩ := h; cases h; exact f11_spec _ hg
  · cases h
end Go.Proofs.Ytklmnopgogcbhaa

/- x -/
namespace Go.Proofs.Ytklmnopgogcbhaa
open Go Go.Gm
/-! ### slices.Index[[]string,string] -/
noncomputable def f73c : Code := (Try.f73.body).getD .skip
def f73k : Nat → Kp := kat [⟨[0, 1], []⟩, ⟨[0, 1, 7, 8], []⟩, ⟨[0, 1, 7, 8, 9], []⟩, ⟨[0, 1, 5, 7, 8], []⟩, ⟨[0, 1, 5, 7, 8, 16], []⟩, ⟨[4], []⟩, ⟨[0, 1, 7, 8], []⟩, ⟨[4], []⟩]
noncomputable def f73e : Env := tab.env []
noncomputable def f73L0 {R : Type} (n : Nat) (x0 : Int → Option R) (x1 : Int → Bool → Option R) (vs0 : List ByteArray) (vs1 : ByteArray) (vs7 : Int) : Nat → Int → Option R
  | 0, _ => none
  | m + 1, vs8 =>
    (cond (decide (vs8 < vs7))
      (cond ((decide ((0 : Int) ≤ vs8)) && (decide (vs8 < (vs0.length : Int))))
        (cond (sEq vs1 (atI (t := .str) vs0 (Int.toNat vs8)))
          (x0 vs8)
          (f73L0 n x0 x1 vs0 vs1 vs7 m (IntKind.wrap .i64 (vs8 + (1 : Int)))))
        none)
      (x1 vs8 (decide (vs8 < vs7))))
theorem f73L0_b {R : Type} (n : Nat) (k' : Ex → St → Option R) (vs0 : List ByteArray) (vs1 : ByteArray) (vs7 : Int) (vs8 : Int) : ev f73e f73k n (cAt [1,0,1,0,0] f73c) ⟨[(0, .c (.one (.ro .str vs0))), (1, .c (.one (.v (.string vs1)))), (7, .c (.one (.v (.int .i64 vs7)))), (8, .c (.one (.v (.int .i64 vs8))))], [], []⟩ k' =
    (cond (decide (vs8 < vs7))
    (cond ((decide ((0 : Int) ≤ vs8)) && (decide (vs8 < (vs0.length : Int))))
      (cond (sEq vs1 (atI (t := .str) vs0 (Int.toNat vs8)))
        (k' .ret ⟨[(4, .c (.one (.v (.int .i64 vs8))))], [], []⟩)
        (k' .normal ⟨[(0, .c (.one (.ro .str vs0))), (1, .c (.one (.v (.string vs1)))), (7, .c (.one (.v (.int .i64 vs7)))), (8, .c (.one (.v (.int .i64 (IntKind.wrap .i64 (vs8 + (1 : Int)))))))], [], []⟩))
      none)
    (k' (.exit 0) ⟨[(0, .c (.one (.ro .str vs0))), (1, .c (.one (.v (.string vs1)))), (7, .c (.one (.v (.int .i64 vs7)))), (8, .c (.one (.v (.int .i64 vs8)))), (9, .c (.one (.v (.bool (decide (vs8 < vs7))))))], [], []⟩)) := by kernel_rfl
theorem f73L0_eq {R : Type} (n : Nat) (k' : Ex → St → Option R) (vs0 : List ByteArray) (vs1 : ByteArray) (vs7 : Int) : ∀ (m : Nat) (vs8 : Int), iter (fun st k => ev f73e f73k n (cAt [1,0,1,0,0] f73c) st k) m ⟨[(0, .c (.one (.ro .str vs0))), (1, .c (.one (.v (.string vs1)))), (7, .c (.one (.v (.int .i64 vs7)))), (8, .c (.one (.v (.int .i64 vs8))))], [], []⟩ k' = f73L0 n (fun (xvs4 : Int) => k' .ret ⟨[(4, .c (.one (.v (.int .i64 xvs4))))], [], []⟩) (fun (xvs8 : Int) (xvs9 : Bool) => k' (.exit 0) ⟨[(0, .c (.one (.ro .str vs0))), (1, .c (.one (.v (.string vs1)))), (7, .c (.one (.v (.int .i64 vs7)))), (8, .c (.one (.v (.int .i64 xvs8)))), (9, .c (.one (.v (.bool xvs9))))], [], []⟩) vs0 vs1 vs7 m vs8 := by
  intro m; induction m with
  | zero => intros; rfl
  | succ m ih =>
    intro vs8
    simp only [iter]
    rw [f73L0_b]
    simp only [ih, f73L0]

noncomputable def f73K0 {R : Type} (n : Nat) (k' : Ex → St → Option R) : Ex → St → Option R := (blockK 0 (seqK f73e f73k n (cAt [1,1] f73c) k'))
theorem f73K0_x0 {R : Type} (n : Nat) (k : List Dt → Option R) (a0 : List ByteArray) (a1 : ByteArray) (xvs4 : Int) : f73K0 n (exitK f73e [.ro, .ro] [false] true [.tmp 4] [3] [.d (.sl .str) a0, .d .str a1] k) .ret ⟨[(4, .c (.one (.v (.int .i64 xvs4))))], [], []⟩ =
    (k [.d (.i .i64) xvs4]) := by kernel_rfl
theorem f73K0_x1 {R : Type} (n : Nat) (k : List Dt → Option R) (a0 : List ByteArray) (a1 : ByteArray) (vs0 : List ByteArray) (vs1 : ByteArray) (vs7 : Int) (xvs8 : Int) (xvs9 : Bool) : f73K0 n (exitK f73e [.ro, .ro] [false] true [.tmp 4] [3] [.d (.sl .str) a0, .d .str a1] k) (.exit 0) ⟨[(0, .c (.one (.ro .str vs0))), (1, .c (.one (.v (.string vs1)))), (7, .c (.one (.v (.int .i64 vs7)))), (8, .c (.one (.v (.int .i64 xvs8)))), (9, .c (.one (.v (.bool xvs9))))], [], []⟩ =
    (k [.d (.i .i64) (-1 : Int)]) := by kernel_rfl

theorem f73_run {R : Type} (n : Nat) (k : List Dt → Option R) (a0 : List ByteArray) (a1 : ByteArray) : evFn f73e f73k n f73c [.ro, .ro] [false] true [.tmp 4] [3] [.d (.sl .str) a0, .d .str a1] k =
    (f73L0 n (fun (xvs4 : Int) =>
    (k [.d (.i .i64) xvs4])) (fun (xvs8 : Int) (xvs9 : Bool) =>
    (k [.d (.i .i64) (-1 : Int)])) a0 a1 (a0.length : Int) n (0 : Int)) := by
  refine Eq.trans (b := (iter (fun st k => ev f73e f73k n (cAt [1,0,1,0,0] f73c) st k) n ⟨[(0, .c (.one (.ro .str a0))), (1, .c (.one (.v (.string a1)))), (7, .c (.one (.v (.int .i64 (a0.length : Int))))), (8, .c (.one (.v (.int .i64 (0 : Int)))))], [], []⟩ (f73K0 n (exitK f73e [.ro, .ro] [false] true [.tmp 4] [3] [.d (.sl .str) a0, .d .str a1] k)))) (by kernel_rfl) ?_
  simp only [f73L0_eq, f73K0_x0, f73K0_x1]
theorem f73_spec (a0 : List ByteArray) (a1 : ByteArray) (hg : gLenW a0 = true) : ∃ keep rounds, ∀ {R : Type} (k : List Dt → Option R), evFn f73e keep rounds f73c [.ro, .ro] [false] true [.tmp 4] [3] [.d (.sl .str) a0, .d .str a1] k = k [.d (.i .i64) (idxS a0 a1)] := by
  have hl := gLenW_le hg
  refine ⟨f73k, a0.length + 1, fun k => ?_⟩
  rw [f73_run]
  refine Eq.trans (loop_find (n := a0.length) (F := fun m i => f73L0 (a0.length + 1) _ _ a0 a1 (a0.length : Int) m i) (p := fun j => sEq a1 (atI (t := .str) a0 j)) (hit := fun i => k [.d (.i .i64) i]) (miss := k [.d (.i .i64) (-1 : Int)])
    (fun m j hj => ?_) (fun m => by simp only [f73L0, idxE, cond_false]) a0.length 0 (a0.length + 1) (by omega) (by omega)) ?_
  · obtain ⟨h1, h0, hw, ht⟩ := idx hj (by omega)
    simp only [f73L0, h1, h0, hw, ht, Bool.and_self, cond_true]
  · show _ = k [.d (.i .i64) (plc _)]
    cases firstN (fun j => sEq a1 (atI (t := .str) a0 j)) 0 a0.length <;> rfl

noncomputable def q73 : List Dt → Option (Bool × List Dt)
  | [.d (.sl .str) a0, .d .str a1] => some (((fun (x : List ByteArray) (_ : ByteArray) => gLenW x) a0 a1), [.d (.i .i64) (idxS a0 a1)])
  | _ => none
noncomputable def s73 : Gm.Spec := Gm.Spec.of [.ro, .ro] [false] true q73
theorem good73 : Gm.Good Try.prog (73, s73) := by
  have hl : ∀ x ∈ ([] : List (Nat × Gm.Spec)), Gm.Good Try.prog x := fun _ h => by cases h
  refine ⟨⟨spec_ok (tab_ok.env hl) (tab.natl hl) Try.func73 (by kernel_rfl : Try.f73.body = some f73c) [3] (by kernel_rfl) ?_, _, Try.func73, by kernel_rfl, of_decide_eq_true (by kernel_rfl)⟩, Gm.Spec.of_natl _ _ _ _⟩
  intro ds outs h
  unfold q73 at h
  split at h
  · simp only [Option.some.injEq, Prod.mk.injEq] at h; obtain ⟨hg, h⟩ := h; cases h; exact f73_spec _ _ hg
  · cases h
/-! ### slices.Contains[[]string,string] -/
noncomputable def f51c : Code := (Try.f51.body).getD .skip
def f51k : Nat → Kp := kat [⟨[0, 1], []⟩, ⟨[4], []⟩]
noncomputable def f51e : Env := tab.env [(73, s73)]
theorem f51_run {R : Type} (n : Nat) (k : List Dt → Option R) (a0 : List ByteArray) (a1 : ByteArray) : evFn f51e f51k n f51c [.ro, .ro] [false] true [.tmp 4] [4] [.d (.sl .str) a0, .d .str a1] k =
    (cond ((fun (x : List ByteArray) (_ : ByteArray) => gLenW x) a0 a1)
    (k [.d .bool (decide ((idxS a0 a1) ≥ (0 : Int)))])
    none) := by kernel_rfl
theorem f51_spec (a0 : List ByteArray) (a1 : ByteArray) (hg : gLenW a0 = true) : ∃ keep rounds, ∀ {R : Type} (k : List Dt → Option R), evFn f51e keep rounds f51c [.ro, .ro] [false] true [.tmp 4] [4] [.d (.sl .str) a0, .d .str a1] k = k [.d .bool (isIn a0 a1)] := by
  refine ⟨f51k, 0, fun k => ?_⟩
  rw [f51_run]; simp only [hg, cond_true, idxS_isIn]

noncomputable def q51 : List Dt → Option (Bool × List Dt)
  | [.d (.sl .str) a0, .d .str a1] => some (((fun (x : List ByteArray) (_ : ByteArray) => gLenW x) a0 a1), [.d .bool (isIn a0 a1)])
  | _ => none
noncomputable def s51 : Gm.Spec := Gm.Spec.of [.ro, .ro] [false] true q51
theorem good51 : Gm.Good Try.prog (51, s51) := by
  have hl : ∀ x ∈ [(73, s73)], Gm.Good Try.prog x := List.forall_mem_cons.2 ⟨good73, List.forall_mem_nil _⟩
  refine ⟨⟨spec_ok (tab_ok.env hl) (tab.natl hl) Try.func51 (by kernel_rfl : Try.f51.body = some f51c) [4] (by kernel_rfl) ?_, _, Try.func51, by kernel_rfl, of_decide_eq_true (by kernel_rfl)⟩, Gm.Spec.of_natl _ _ _ _⟩
  intro ds outs h
  unfold q51 at h
  split at h
  · simp only [Option.some.injEq, Prod.mk.injEq] at h; obtain ⟨hg, h⟩ := h; cases h; exact f51_spec _ _ hg
  · cases h
/-! ### loop.example/g00465/spec.l25In -/
noncomputable def f47c : Code := (Try.f47.body).getD .skip
def f47k : Nat → Kp := kat [⟨[0, 1], []⟩, ⟨[0, 1, 5], []⟩, ⟨[0, 1, 5, 9], []⟩, ⟨[0, 1, 5], []⟩, ⟨[0, 1, 5, 17], []⟩, ⟨[4], []⟩, ⟨[4], []⟩]
noncomputable def f47e : Env := tab.env []
noncomputable def f47L0 {R : Type} (n : Nat) (x0 : Option R) (x1 : Int → Bool → Option R) (vs0 : List ByteArray) (vs1 : ByteArray) : Nat → Int → Option R
  | 0, _ => none
  | m + 1, vs5 =>
    (cond (decide (vs5 < (vs0.length : Int)))
      (cond ((decide ((0 : Int) ≤ vs5)) && (decide (vs5 < (vs0.length : Int))))
        (cond (sEq (atI (t := .str) vs0 (Int.toNat vs5)) vs1)
          (x0)
          (f47L0 n x0 x1 vs0 vs1 m (IntKind.wrap .i64 (vs5 + (1 : Int)))))
        none)
      (x1 vs5 (decide (vs5 < (vs0.length : Int)))))
theorem f47L0_b {R : Type} (n : Nat) (k' : Ex → St → Option R) (vs0 : List ByteArray) (vs1 : ByteArray) (vs5 : Int) : ev f47e f47k n (cAt [1,0,1,0,0] f47c) ⟨[(0, .c (.one (.ro .str vs0))), (1, .c (.one (.v (.string vs1)))), (5, .c (.one (.v (.int .i64 vs5))))], [], []⟩ k' =
    (cond (decide (vs5 < (vs0.length : Int)))
    (cond ((decide ((0 : Int) ≤ vs5)) && (decide (vs5 < (vs0.length : Int))))
      (cond (sEq (atI (t := .str) vs0 (Int.toNat vs5)) vs1)
        (k' .ret ⟨[(4, .c (.one (.v (.bool true))))], [], []⟩)
        (k' .normal ⟨[(0, .c (.one (.ro .str vs0))), (1, .c (.one (.v (.string vs1)))), (5, .c (.one (.v (.int .i64 (IntKind.wrap .i64 (vs5 + (1 : Int)))))))], [], []⟩))
      none)
    (k' (.exit 0) ⟨[(0, .c (.one (.ro .str vs0))), (1, .c (.one (.v (.string vs1)))), (5, .c (.one (.v (.int .i64 vs5)))), (9, .c (.one (.v (.bool (decide (vs5 < (vs0.length : Int)))))))], [], []⟩)) := by kernel_rfl
theorem f47L0_eq {R : Type} (n : Nat) (k' : Ex → St → Option R) (vs0 : List ByteArray) (vs1 : ByteArray) : ∀ (m : Nat) (vs5 : Int), iter (fun st k => ev f47e f47k n (cAt [1,0,1,0,0] f47c) st k) m ⟨[(0, .c (.one (.ro .str vs0))), (1, .c (.one (.v (.string vs1)))), (5, .c (.one (.v (.int .i64 vs5))))], [], []⟩ k' = f47L0 n (k' .ret ⟨[(4, .c (.one (.v (.bool true))))], [], []⟩) (fun (xvs5 : Int) (xvs9 : Bool) => k' (.exit 0) ⟨[(0, .c (.one (.ro .str vs0))), (1, .c (.one (.v (.string vs1)))), (5, .c (.one (.v (.int .i64 xvs5)))), (9, .c (.one (.v (.bool xvs9))))], [], []⟩) vs0 vs1 m vs5 := by
  intro m; induction m with
  | zero => intros; rfl
  | succ m ih =>
    intro vs5
    simp only [iter]
    rw [f47L0_b]
    simp only [ih, f47L0]

noncomputable def f47K0 {R : Type} (n : Nat) (k' : Ex → St → Option R) : Ex → St → Option R := (blockK 0 (seqK f47e f47k n (cAt [1,1] f47c) k'))
theorem f47K0_x0 {R : Type} (n : Nat) (k : List Dt → Option R) (a0 : List ByteArray) (a1 : ByteArray)  : f47K0 n (exitK f47e [.ro, .ro] [false] true [.tmp 4] [4] [.d (.sl .str) a0, .d .str a1] k) .ret ⟨[(4, .c (.one (.v (.bool true))))], [], []⟩ =
    (k [.d .bool true]) := by kernel_rfl
theorem f47K0_x1 {R : Type} (n : Nat) (k : List Dt → Option R) (a0 : List ByteArray) (a1 : ByteArray) (vs0 : List ByteArray) (vs1 : ByteArray) (xvs5 : Int) (xvs9 : Bool) : f47K0 n (exitK f47e [.ro, .ro] [false] true [.tmp 4] [4] [.d (.sl .str) a0, .d .str a1] k) (.exit 0) ⟨[(0, .c (.one (.ro .str vs0))), (1, .c (.one (.v (.string vs1)))), (5, .c (.one (.v (.int .i64 xvs5)))), (9, .c (.one (.v (.bool xvs9))))], [], []⟩ =
    (k [.d .bool false]) := by kernel_rfl

theorem f47_run {R : Type} (n : Nat) (k : List Dt → Option R) (a0 : List ByteArray) (a1 : ByteArray) : evFn f47e f47k n f47c [.ro, .ro] [false] true [.tmp 4] [4] [.d (.sl .str) a0, .d .str a1] k =
    (f47L0 n (k [.d .bool true]) (fun (xvs5 : Int) (xvs9 : Bool) =>
    (k [.d .bool false])) a0 a1 n (0 : Int)) := by
  refine Eq.trans (b := (iter (fun st k => ev f47e f47k n (cAt [1,0,1,0,0] f47c) st k) n ⟨[(0, .c (.one (.ro .str a0))), (1, .c (.one (.v (.string a1)))), (5, .c (.one (.v (.int .i64 (0 : Int)))))], [], []⟩ (f47K0 n (exitK f47e [.ro, .ro] [false] true [.tmp 4] [4] [.d (.sl .str) a0, .d .str a1] k)))) (by kernel_rfl) ?_
  simp only [f47L0_eq, f47K0_x0, f47K0_x1]
theorem f47_spec (a0 : List ByteArray) (a1 : ByteArray) (hg : gLenW a0 = true) : ∃ keep rounds, ∀ {R : Type} (k : List Dt → Option R), evFn f47e keep rounds f47c [.ro, .ro] [false] true [.tmp 4] [4] [.d (.sl .str) a0, .d .str a1] k = k [.d .bool (isIn a0 a1)] := by
  have hl := gLenW_le hg
  refine ⟨f47k, a0.length + 1, fun k => ?_⟩
  rw [f47_run]
  refine Eq.trans (loop_find (n := a0.length) (F := fun m i => f47L0 (a0.length + 1) _ _ a0 a1 m i) (p := fun j => sEq (atI (t := .str) a0 j) a1) (hit := fun i => k [.d .bool true]) (miss := k [.d .bool false])
    (fun m j hj => ?_) (fun m => by simp only [f47L0, idxE, cond_false]) a0.length 0 (a0.length + 1) (by omega) (by omega)) ?_
  · obtain ⟨h1, h0, hw, ht⟩ := idx hj (by omega)
    simp only [f47L0, h1, h0, hw, ht, Bool.and_self, cond_true]
  · show _ = k [.d .bool (isIn a0 a1)]
    unfold isIn
    rw [← firstN_any (t := .str)]
    cases firstN (fun j => sEq (atI (t := .str) a0 j) a1) 0 a0.length <;> rfl

noncomputable def q47 : List Dt → Option (Bool × List Dt)
  | [.d (.sl .str) a0, .d .str a1] => some (((fun (x : List ByteArray) (_ : ByteArray) => gLenW x) a0 a1), [.d .bool (isIn a0 a1)])
  | _ => none
noncomputable def s47 : Gm.Spec := Gm.Spec.of [.ro, .ro] [false] true q47
theorem good47 : Gm.Good Try.prog (47, s47) := by
  have hl : ∀ x ∈ ([] : List (Nat × Gm.Spec)), Gm.Good Try.prog x := fun _ h => by cases h
  refine ⟨⟨spec_ok (tab_ok.env hl) (tab.natl hl) Try.func47 (by kernel_rfl : Try.f47.body = some f47c) [4] (by kernel_rfl) ?_, _, Try.func47, by kernel_rfl, of_decide_eq_true (by kernel_rfl)⟩, Gm.Spec.of_natl _ _ _ _⟩
  intro ds outs h
  unfold q47 at h
  split at h
  · simp only [Option.some.injEq, Prod.mk.injEq] at h; obtain ⟨hg, h⟩ := h; cases h; exact f47_spec _ _ hg
  · cases h
/-! ### loop.example/g00465/impl.Fits$1 -/
noncomputable def f50c : Code := (Try.f50.body).getD .skip
def f50k : Nat → Kp := kat [⟨[1, 2], []⟩, ⟨[3], []⟩]
noncomputable def f50e : Env := tab.env []
theorem f50_run {R : Type} (n : Nat) (k : List Dt → Option R) (a0 : NoteT) (a1 : PickT) : evFn f50e f50k n f50c [.ro, .pro] [false] true [.tmp 3] [4] [.d .note a0, .d .pick a1] k =
    (k [.d .bool (sEq (NoteT.key a0) (PickT.key a1))]) := by kernel_rfl
theorem f50_spec (a0 : NoteT) (a1 : PickT) : ∃ keep rounds, ∀ {R : Type} (k : List Dt → Option R), evFn f50e keep rounds f50c [.ro, .pro] [false] true [.tmp 3] [4] [.d .note a0, .d .pick a1] k = k [.d .bool (noteIs a0 a1)] := by
  exact ⟨f50k, 0, fun k => f50_run 0 k a0 a1⟩

noncomputable def q50 : List Dt → Option (Bool × List Dt)
  | [.d .note a0, .d .pick a1] => some (true, [.d .bool (noteIs a0 a1)])
  | _ => none
noncomputable def s50 : Gm.Spec := Gm.Spec.of [.ro, .pro] [false] true q50
theorem good50 : Gm.Good Try.prog (50, s50) := by
  have hl : ∀ x ∈ ([] : List (Nat × Gm.Spec)), Gm.Good Try.prog x := fun _ h => by cases h
  refine ⟨⟨spec_ok (tab_ok.env hl) (tab.natl hl) Try.func50 (by kernel_rfl : Try.f50.body = some f50c) [4] (by kernel_rfl) ?_, _, Try.func50, by kernel_rfl, of_decide_eq_true (by kernel_rfl)⟩, Gm.Spec.of_natl _ _ _ _⟩
  intro ds outs h
  unfold q50 at h
  split at h
  · cases h; exact f50_spec _ _
  · cases h
/-! ### slices.IndexFunc[[]loop.example/g00465/impl.Note,loop.example/g00465/impl.Note] -/
noncomputable def f49c : Code := (Try.f49.body).getD .skip
def f49k : Nat → Kp := kat [⟨[0, 1], []⟩, ⟨[0, 1, 7, 8], []⟩, ⟨[0, 1, 7, 8, 9], []⟩, ⟨[0, 1, 5, 7, 8], []⟩, ⟨[0, 1, 5, 7, 8, 16], []⟩, ⟨[4], []⟩, ⟨[0, 1, 7, 8], []⟩, ⟨[4], []⟩]
noncomputable def f49e : Env := tab.env [(50, s50)]
noncomputable def f49L0 {R : Type} (n : Nat) (x0 : Int → Option R) (x1 : Int → Bool → Option R) (vs0 : List NoteT) (vs1c0 : PickT) (vs7 : Int) : Nat → Int → Option R
  | 0, _ => none
  | m + 1, vs8 =>
    (cond (decide (vs8 < vs7))
      (cond ((decide ((0 : Int) ≤ vs8)) && (decide (vs8 < (vs0.length : Int))))
        (cond (noteIs (atI (t := .note) vs0 (Int.toNat vs8)) vs1c0)
          (x0 vs8)
          (f49L0 n x0 x1 vs0 vs1c0 vs7 m (IntKind.wrap .i64 (vs8 + (1 : Int)))))
        none)
      (x1 vs8 (decide (vs8 < vs7))))
theorem f49L0_b {R : Type} (n : Nat) (k' : Ex → St → Option R) (vs0 : List NoteT) (vs1c0 : PickT) (vs7 : Int) (vs8 : Int) : ev f49e f49k n (cAt [1,0,1,0,0] f49c) ⟨[(0, .c (.one (.ro .note vs0))), (1, .c (.one (.cloR 50 [⟨.pick, vs1c0⟩]))), (7, .c (.one (.v (.int .i64 vs7)))), (8, .c (.one (.v (.int .i64 vs8))))], [], []⟩ k' =
    (cond (decide (vs8 < vs7))
    (cond ((decide ((0 : Int) ≤ vs8)) && (decide (vs8 < (vs0.length : Int))))
      (cond (noteIs (atI (t := .note) vs0 (Int.toNat vs8)) vs1c0)
        (k' .ret ⟨[(4, .c (.one (.v (.int .i64 vs8))))], [], []⟩)
        (k' .normal ⟨[(0, .c (.one (.ro .note vs0))), (1, .c (.one (.cloR 50 [⟨.pick, vs1c0⟩]))), (7, .c (.one (.v (.int .i64 vs7)))), (8, .c (.one (.v (.int .i64 (IntKind.wrap .i64 (vs8 + (1 : Int)))))))], [], []⟩))
      none)
    (k' (.exit 0) ⟨[(0, .c (.one (.ro .note vs0))), (1, .c (.one (.cloR 50 [⟨.pick, vs1c0⟩]))), (7, .c (.one (.v (.int .i64 vs7)))), (8, .c (.one (.v (.int .i64 vs8)))), (9, .c (.one (.v (.bool (decide (vs8 < vs7))))))], [], []⟩)) := by kernel_rfl
theorem f49L0_eq {R : Type} (n : Nat) (k' : Ex → St → Option R) (vs0 : List NoteT) (vs1c0 : PickT) (vs7 : Int) : ∀ (m : Nat) (vs8 : Int), iter (fun st k => ev f49e f49k n (cAt [1,0,1,0,0] f49c) st k) m ⟨[(0, .c (.one (.ro .note vs0))), (1, .c (.one (.cloR 50 [⟨.pick, vs1c0⟩]))), (7, .c (.one (.v (.int .i64 vs7)))), (8, .c (.one (.v (.int .i64 vs8))))], [], []⟩ k' = f49L0 n (fun (xvs4 : Int) => k' .ret ⟨[(4, .c (.one (.v (.int .i64 xvs4))))], [], []⟩) (fun (xvs8 : Int) (xvs9 : Bool) => k' (.exit 0) ⟨[(0, .c (.one (.ro .note vs0))), (1, .c (.one (.cloR 50 [⟨.pick, vs1c0⟩]))), (7, .c (.one (.v (.int .i64 vs7)))), (8, .c (.one (.v (.int .i64 xvs8)))), (9, .c (.one (.v (.bool xvs9))))], [], []⟩) vs0 vs1c0 vs7 m vs8 := by
  intro m; induction m with
  | zero => intros; rfl
  | succ m ih =>
    intro vs8
    simp only [iter]
    rw [f49L0_b]
    simp only [ih, f49L0]

noncomputable def f49K0 {R : Type} (n : Nat) (k' : Ex → St → Option R) : Ex → St → Option R := (blockK 0 (seqK f49e f49k n (cAt [1,1] f49c) k'))
theorem f49K0_x0 {R : Type} (n : Nat) (k : List Dt → Option R) (a0 : List NoteT) (a1 : PickT) (xvs4 : Int) : f49K0 n (exitK f49e [.ro, .fn] [false] true [.tmp 4] [3] [.d (.sl .note) a0, .clo 50 [⟨.pick, a1⟩]] k) .ret ⟨[(4, .c (.one (.v (.int .i64 xvs4))))], [], []⟩ =
    (k [.d (.i .i64) xvs4]) := by kernel_rfl
theorem f49K0_x1 {R : Type} (n : Nat) (k : List Dt → Option R) (a0 : List NoteT) (a1 : PickT) (vs0 : List NoteT) (vs1c0 : PickT) (vs7 : Int) (xvs8 : Int) (xvs9 : Bool) : f49K0 n (exitK f49e [.ro, .fn] [false] true [.tmp 4] [3] [.d (.sl .note) a0, .clo 50 [⟨.pick, a1⟩]] k) (.exit 0) ⟨[(0, .c (.one (.ro .note vs0))), (1, .c (.one (.cloR 50 [⟨.pick, vs1c0⟩]))), (7, .c (.one (.v (.int .i64 vs7)))), (8, .c (.one (.v (.int .i64 xvs8)))), (9, .c (.one (.v (.bool xvs9))))], [], []⟩ =
    (k [.d (.i .i64) (-1 : Int)]) := by kernel_rfl

theorem f49_run {R : Type} (n : Nat) (k : List Dt → Option R) (a0 : List NoteT) (a1 : PickT) : evFn f49e f49k n f49c [.ro, .fn] [false] true [.tmp 4] [3] [.d (.sl .note) a0, .clo 50 [⟨.pick, a1⟩]] k =
    (f49L0 n (fun (xvs4 : Int) =>
    (k [.d (.i .i64) xvs4])) (fun (xvs8 : Int) (xvs9 : Bool) =>
    (k [.d (.i .i64) (-1 : Int)])) a0 a1 (a0.length : Int) n (0 : Int)) := by
  refine Eq.trans (b := (iter (fun st k => ev f49e f49k n (cAt [1,0,1,0,0] f49c) st k) n ⟨[(0, .c (.one (.ro .note a0))), (1, .c (.one (.cloR 50 [⟨.pick, a1⟩]))), (7, .c (.one (.v (.int .i64 (a0.length : Int))))), (8, .c (.one (.v (.int .i64 (0 : Int)))))], [], []⟩ (f49K0 n (exitK f49e [.ro, .fn] [false] true [.tmp 4] [3] [.d (.sl .note) a0, .clo 50 [⟨.pick, a1⟩]] k)))) (by kernel_rfl) ?_
  simp only [f49L0_eq, f49K0_x0, f49K0_x1]
theorem f49_spec (a0 : List NoteT) (a1 : PickT) (hg : gLenW a0 = true) : ∃ keep rounds, ∀ {R : Type} (k : List Dt → Option R), evFn f49e keep rounds f49c [.ro, .fn] [false] true [.tmp 4] [3] [.d (.sl .note) a0, .clo 50 [⟨.pick, a1⟩]] k = k [.d (.i .i64) (noteAt a0 a1)] := by
  have hl := gLenW_le hg
  refine ⟨f49k, a0.length + 1, fun k => ?_⟩
  rw [f49_run]
  refine Eq.trans (loop_find (n := a0.length) (F := fun m i => f49L0 (a0.length + 1) _ _ a0 a1 (a0.length : Int) m i) (p := fun j => noteIs (atI (t := .note) a0 j) a1) (hit := fun i => k [.d (.i .i64) i]) (miss := k [.d (.i .i64) (-1 : Int)])
    (fun m j hj => ?_) (fun m => by simp only [f49L0, idxE, cond_false]) a0.length 0 (a0.length + 1) (by omega) (by omega)) ?_
  · obtain ⟨h1, h0, hw, ht⟩ := idx hj (by omega)
    simp only [f49L0, h1, h0, hw, ht, Bool.and_self, cond_true]
  · show _ = k [.d (.i .i64) (plc _)]
    cases firstN (fun j => noteIs (atI (t := .note) a0 j) a1) 0 a0.length <;> rfl

noncomputable def q49 : List Dt → Option (Bool × List Dt)
  | [.d (.sl .note) a0, .clo 50 [⟨.pick, a1⟩]] => some (((fun (x : List NoteT) (_ : PickT) => gLenW x) a0 a1), [.d (.i .i64) (noteAt a0 a1)])
  | _ => none
noncomputable def s49 : Gm.Spec := Gm.Spec.of [.ro, .fn] [false] true q49
theorem good49 : Gm.Good Try.prog (49, s49) := by
  have hl : ∀ x ∈ [(50, s50)], Gm.Good Try.prog x := List.forall_mem_cons.2 ⟨good50, List.forall_mem_nil _⟩
  refine ⟨⟨spec_ok (tab_ok.env hl) (tab.natl hl) Try.func49 (by kernel_rfl : Try.f49.body = some f49c) [3] (by kernel_rfl) ?_, _, Try.func49, by kernel_rfl, of_decide_eq_true (by kernel_rfl)⟩, Gm.Spec.of_natl _ _ _ _⟩
  intro ds outs h
  unfold q49 at h
  split at h
  · simp only [Option.some.injEq, Prod.mk.injEq] at h; obtain ⟨hg, h⟩ := h; cases h; exact f49_spec _ _ hg
  · cases h
/-! ### loop.example/g00465/spec.Fits -/
noncomputable def f16c : Code := (Try.f16.body).getD .skip
def f16k : Nat → Kp := kat [⟨[1, 2], []⟩, ⟨[1, 2, 10], []⟩, ⟨[4], []⟩, ⟨[1, 2, 5], []⟩, ⟨[1, 2, 5, 6], []⟩, ⟨[1, 2, 5, 6, 7], []⟩, ⟨[1, 2, 5, 6, 7, 15], []⟩, ⟨[1, 2, 5, 6, 7], []⟩, ⟨[1, 2, 5, 6, 7, 25], []⟩, ⟨[1, 2, 5, 7], []⟩, ⟨[1, 2, 5, 6, 7], []⟩, ⟨[2, 5, 6, 32], []⟩, ⟨[2, 5, 6, 32, 33], []⟩, ⟨[2, 5, 6, 32, 33], []⟩, ⟨[4], []⟩, ⟨[2, 5, 6, 32, 43], []⟩, ⟨[2, 5, 6, 43], []⟩, ⟨[4], []⟩, ⟨[4], []⟩]
noncomputable def f16e : Env := tab.env [(9, s9), (47, s47)]
noncomputable def f16L0 {R : Type} (n : Nat) (x0 : Bool → ByteArray → Int → Bool → Option R) (vs1 : List NoteT) (vb2_0 : Int) (vb2_1 : ByteArray) (vb2_2 : List ByteArray) : Nat → Bool → ByteArray → Int → Option R
  | 0, _, _, _ => none
  | m + 1, vs5, vs6, vs7 =>
    (cond (decide (vs7 ≥ (0 : Int)))
      (cond ((decide ((0 : Int) ≤ vs7)) && (decide (vs7 < (vs1.length : Int))))
        (cond (sEq (NoteT.key (atI (t := .note) vs1 (Int.toNat vs7))) vb2_1)
          (cond ((decide ((0 : Int) ≤ vs7)) && (decide (vs7 < (vs1.length : Int))))
            (f16L0 n x0 vs1 vb2_0 vb2_1 vb2_2 m true (NoteT.text (atI (t := .note) vs1 (Int.toNat vs7))) (IntKind.wrap .i64 (vs7 - (1 : Int))))
            none)
          (f16L0 n x0 vs1 vb2_0 vb2_1 vb2_2 m vs5 vs6 (IntKind.wrap .i64 (vs7 - (1 : Int)))))
        none)
      (x0 vs5 vs6 vs7 (decide (vs7 ≥ (0 : Int)))))
theorem f16L0_b {R : Type} (n : Nat) (k' : Ex → St → Option R) (vs1 : List NoteT) (vs5 : Bool) (vs6 : ByteArray) (vs7 : Int) (vb2_0 : Int) (vb2_1 : ByteArray) (vb2_2 : List ByteArray) : ev f16e f16k n (cAt [1,1,1,1,0,1,0,0] f16c) ⟨[(1, .c (.one (.ro .note vs1))), (2, .c (.one (.pt 2 0))), (5, .c (.one (.v (.bool vs5)))), (6, .c (.one (.v (.string vs6)))), (7, .c (.one (.v (.int .i64 vs7))))], [(2, ⟨.pick, [.v (.int .i64 vb2_0), .v (.string vb2_1), .ro .str vb2_2]⟩)], []⟩ k' =
    (cond (decide (vs7 ≥ (0 : Int)))
    (cond ((decide ((0 : Int) ≤ vs7)) && (decide (vs7 < (vs1.length : Int))))
      (cond (sEq (NoteT.key (atI (t := .note) vs1 (Int.toNat vs7))) vb2_1)
        (cond ((decide ((0 : Int) ≤ vs7)) && (decide (vs7 < (vs1.length : Int))))
          (k' .normal ⟨[(1, .c (.one (.ro .note vs1))), (2, .c (.one (.pt 2 0))), (5, .c (.one (.v (.bool true)))), (6, .c (.one (.v (.string (NoteT.text (atI (t := .note) vs1 (Int.toNat vs7))))))), (7, .c (.one (.v (.int .i64 (IntKind.wrap .i64 (vs7 - (1 : Int)))))))], [(2, ⟨.pick, [.v (.int .i64 vb2_0), .v (.string vb2_1), .ro .str vb2_2]⟩)], []⟩)
          none)
        (k' .normal ⟨[(1, .c (.one (.ro .note vs1))), (2, .c (.one (.pt 2 0))), (5, .c (.one (.v (.bool vs5)))), (6, .c (.one (.v (.string vs6)))), (7, .c (.one (.v (.int .i64 (IntKind.wrap .i64 (vs7 - (1 : Int)))))))], [(2, ⟨.pick, [.v (.int .i64 vb2_0), .v (.string vb2_1), .ro .str vb2_2]⟩)], []⟩))
      none)
    (k' (.exit 0) ⟨[(1, .c (.one (.ro .note vs1))), (2, .c (.one (.pt 2 0))), (5, .c (.one (.v (.bool vs5)))), (6, .c (.one (.v (.string vs6)))), (7, .c (.one (.v (.int .i64 vs7)))), (15, .c (.one (.v (.bool (decide (vs7 ≥ (0 : Int)))))))], [(2, ⟨.pick, [.v (.int .i64 vb2_0), .v (.string vb2_1), .ro .str vb2_2]⟩)], []⟩)) := by kernel_rfl
theorem f16L0_eq {R : Type} (n : Nat) (k' : Ex → St → Option R) (vs1 : List NoteT) (vb2_0 : Int) (vb2_1 : ByteArray) (vb2_2 : List ByteArray) : ∀ (m : Nat) (vs5 : Bool) (vs6 : ByteArray) (vs7 : Int), iter (fun st k => ev f16e f16k n (cAt [1,1,1,1,0,1,0,0] f16c) st k) m ⟨[(1, .c (.one (.ro .note vs1))), (2, .c (.one (.pt 2 0))), (5, .c (.one (.v (.bool vs5)))), (6, .c (.one (.v (.string vs6)))), (7, .c (.one (.v (.int .i64 vs7))))], [(2, ⟨.pick, [.v (.int .i64 vb2_0), .v (.string vb2_1), .ro .str vb2_2]⟩)], []⟩ k' = f16L0 n (fun (xvs5 : Bool) (xvs6 : ByteArray) (xvs7 : Int) (xvs15 : Bool) => k' (.exit 0) ⟨[(1, .c (.one (.ro .note vs1))), (2, .c (.one (.pt 2 0))), (5, .c (.one (.v (.bool xvs5)))), (6, .c (.one (.v (.string xvs6)))), (7, .c (.one (.v (.int .i64 xvs7)))), (15, .c (.one (.v (.bool xvs15))))], [(2, ⟨.pick, [.v (.int .i64 vb2_0), .v (.string vb2_1), .ro .str vb2_2]⟩)], []⟩) vs1 vb2_0 vb2_1 vb2_2 m vs5 vs6 vs7 := by
  intro m; induction m with
  | zero => intros; rfl
  | succ m ih =>
    intro vs5 vs6 vs7
    simp only [iter]
    rw [f16L0_b]
    simp only [ih, f16L0]

noncomputable def f16K0 {R : Type} (n : Nat) (k' : Ex → St → Option R) : Ex → St → Option R := (blockK 0 (seqK f16e f16k n (cAt [1,1,1,1,1] f16c) k'))
theorem f16K0_x0 {R : Type} (n : Nat) (k : List Dt → Option R) (a0 : PickT) (a1 : List NoteT) (vs1 : List NoteT) (vb2_0 : Int) (vb2_1 : ByteArray) (vb2_2 : List ByteArray) (xvs5 : Bool) (xvs6 : ByteArray) (xvs7 : Int) (xvs15 : Bool) : f16K0 n (exitK f16e [.ro, .ro] [false] true [.tmp 4] [4] [.d .pick a0, .d (.sl .note) a1] k) (.exit 0) ⟨[(1, .c (.one (.ro .note vs1))), (2, .c (.one (.pt 2 0))), (5, .c (.one (.v (.bool xvs5)))), (6, .c (.one (.v (.string xvs6)))), (7, .c (.one (.v (.int .i64 xvs7)))), (15, .c (.one (.v (.bool xvs15))))], [(2, ⟨.pick, [.v (.int .i64 vb2_0), .v (.string vb2_1), .ro .str vb2_2]⟩)], []⟩ =
    (cond (vb2_0 == (1 : Int))
    (cond (vb2_0 == (1 : Int))
      (cond xvs5
        (cond ((fun (x : List ByteArray) (_ : ByteArray) => gLenW x) vb2_2 xvs6)
          (k [.d .bool (isIn vb2_2 xvs6)])
          none)
        (k [.d .bool false]))
      (cond (vb2_0 == (2 : Int))
        (cond (vb2_0 == (2 : Int))
          (cond (!xvs5)
            (k [.d .bool true])
            (cond ((fun (x : List ByteArray) (_ : ByteArray) => gLenW x) vb2_2 xvs6)
              (k [.d .bool (!(isIn vb2_2 xvs6))])
              none))
          (k [.d .bool (xvs5 == (vb2_0 == (5 : Int)))]))
        (cond (vb2_0 == (4 : Int))
          (cond (!xvs5)
            (k [.d .bool true])
            (cond ((fun (x : List ByteArray) (_ : ByteArray) => gLenW x) vb2_2 xvs6)
              (k [.d .bool (!(isIn vb2_2 xvs6))])
              none))
          (k [.d .bool (xvs5 == (vb2_0 == (5 : Int)))]))))
    (cond (vb2_0 == (3 : Int))
      (cond xvs5
        (cond ((fun (x : List ByteArray) (_ : ByteArray) => gLenW x) vb2_2 xvs6)
          (k [.d .bool (isIn vb2_2 xvs6)])
          none)
        (k [.d .bool false]))
      (cond (vb2_0 == (2 : Int))
        (cond (vb2_0 == (2 : Int))
          (cond (!xvs5)
            (k [.d .bool true])
            (cond ((fun (x : List ByteArray) (_ : ByteArray) => gLenW x) vb2_2 xvs6)
              (k [.d .bool (!(isIn vb2_2 xvs6))])
              none))
          (k [.d .bool (xvs5 == (vb2_0 == (5 : Int)))]))
        (cond (vb2_0 == (4 : Int))
          (cond (!xvs5)
            (k [.d .bool true])
            (cond ((fun (x : List ByteArray) (_ : ByteArray) => gLenW x) vb2_2 xvs6)
              (k [.d .bool (!(isIn vb2_2 xvs6))])
              none))
          (k [.d .bool (xvs5 == (vb2_0 == (5 : Int)))]))))) := by kernel_rfl

theorem f16_run {R : Type} (n : Nat) (k : List Dt → Option R) (a0 : PickT) (a1 : List NoteT) : evFn f16e f16k n f16c [.ro, .ro] [false] true [.tmp 4] [4] [.d .pick a0, .d (.sl .note) a1] k =
    (cond (okPick a0)
    (cond (!(pickOk a0))
      (k [.d .bool false])
      (f16L0 n (fun (xvs5 : Bool) (xvs6 : ByteArray) (xvs7 : Int) (xvs15 : Bool) =>
        (cond ((PickT.op a0) == (1 : Int))
          (cond ((PickT.op a0) == (1 : Int))
            (cond xvs5
              (cond ((fun (x : List ByteArray) (_ : ByteArray) => gLenW x) (PickT.vals a0) xvs6)
                (k [.d .bool (isIn (PickT.vals a0) xvs6)])
                none)
              (k [.d .bool false]))
            (cond ((PickT.op a0) == (2 : Int))
              (cond ((PickT.op a0) == (2 : Int))
                (cond (!xvs5)
                  (k [.d .bool true])
                  (cond ((fun (x : List ByteArray) (_ : ByteArray) => gLenW x) (PickT.vals a0) xvs6)
                    (k [.d .bool (!(isIn (PickT.vals a0) xvs6))])
                    none))
                (k [.d .bool (xvs5 == ((PickT.op a0) == (5 : Int)))]))
              (cond ((PickT.op a0) == (4 : Int))
                (cond (!xvs5)
                  (k [.d .bool true])
                  (cond ((fun (x : List ByteArray) (_ : ByteArray) => gLenW x) (PickT.vals a0) xvs6)
                    (k [.d .bool (!(isIn (PickT.vals a0) xvs6))])
                    none))
                (k [.d .bool (xvs5 == ((PickT.op a0) == (5 : Int)))]))))
          (cond ((PickT.op a0) == (3 : Int))
            (cond xvs5
              (cond ((fun (x : List ByteArray) (_ : ByteArray) => gLenW x) (PickT.vals a0) xvs6)
                (k [.d .bool (isIn (PickT.vals a0) xvs6)])
                none)
              (k [.d .bool false]))
            (cond ((PickT.op a0) == (2 : Int))
              (cond ((PickT.op a0) == (2 : Int))
                (cond (!xvs5)
                  (k [.d .bool true])
                  (cond ((fun (x : List ByteArray) (_ : ByteArray) => gLenW x) (PickT.vals a0) xvs6)
                    (k [.d .bool (!(isIn (PickT.vals a0) xvs6))])
                    none))
                (k [.d .bool (xvs5 == ((PickT.op a0) == (5 : Int)))]))
              (cond ((PickT.op a0) == (4 : Int))
                (cond (!xvs5)
                  (k [.d .bool true])
                  (cond ((fun (x : List ByteArray) (_ : ByteArray) => gLenW x) (PickT.vals a0) xvs6)
                    (k [.d .bool (!(isIn (PickT.vals a0) xvs6))])
                    none))
                (k [.d .bool (xvs5 == ((PickT.op a0) == (5 : Int)))])))))) a1 (PickT.op a0) (PickT.key a0) (PickT.vals a0) n false ByteArray.empty (IntKind.wrap .i64 ((a1.length : Int) - (1 : Int)))))
    none) := by
  refine Eq.trans (b := (cond (okPick a0)
    (cond (!(pickOk a0))
      (k [.d .bool false])
      (iter (fun st k => ev f16e f16k n (cAt [1,1,1,1,0,1,0,0] f16c) st k) n ⟨[(1, .c (.one (.ro .note a1))), (2, .c (.one (.pt 2 0))), (5, .c (.one (.v (.bool false)))), (6, .c (.one (.v (.string ByteArray.empty)))), (7, .c (.one (.v (.int .i64 (IntKind.wrap .i64 ((a1.length : Int) - (1 : Int)))))))], [(2, ⟨.pick, [.v (.int .i64 (PickT.op a0)), .v (.string (PickT.key a0)), .ro .str (PickT.vals a0)]⟩)], []⟩ (f16K0 n (exitK f16e [.ro, .ro] [false] true [.tmp 4] [4] [.d .pick a0, .d (.sl .note) a1] k))))
    none)) (by kernel_rfl) ?_
  simp only [f16L0_eq, f16K0_x0]
theorem f16_spec (a0 : PickT) (a1 : List NoteT) (hg : gFits a0 a1 = true) : ∃ keep rounds, ∀ {R : Type} (k : List Dt → Option R), evFn f16e keep rounds f16c [.ro, .ro] [false] true [.tmp 4] [4] [.d .pick a0, .d (.sl .note) a1] k = k [.d .bool (fits a0 a1)] := by
  simp only [gFits, Bool.and_eq_true] at hg
  obtain ⟨hp, hn⟩ := hg
  have hl := gLenW_le hn
  have hv : gLenW a0.vals = true := by simp only [okPick, okL, Bool.and_eq_true] at hp; exact hp.2.1
  refine ⟨f16k, a1.length + 1, fun {R} k => ?_⟩
  rw [f16_run]
  simp only [hp, cond_true]
  cases ho : pickOk a0 with
  | false => unfold fits; rw [ho]; rfl
  | true =>
    simp only [Bool.not_true, cond_false]
    rw [wrap_id (x := (a1.length : Int) - 1) (by omega) (by omega)]
    generalize hX : (fun (xvs5 : Bool) (xvs6 : ByteArray) (xvs7 : Int) (xvs15 : Bool) => _) = X
    refine Eq.trans (loop_down (xs := a1) (F := fun m i (a : Bool × ByteArray) => f16L0 (a1.length + 1) X a1 a0.op a0.key a0.vals m a.1 a.2 i) (f := fun a n => cond (noteIs n a0) (true, n.text) a) (good := fun a => X a.1 a.2 (-1) false)
      (fun m j a x hx => ?_) (fun m a => rfl) a1.length (a1.length + 1) (false, ByteArray.empty) (by omega) (by omega)) ?_
    · obtain ⟨h1, h0, hw, ht⟩ := idx (lt_of_get hx) (by omega)
      have hj := lt_of_get hx
      have hd : decide ((j : Int) ≥ (0 : Int)) = true := decide_eq_true (by omega)
      simp only [f16L0, hd, h1, h0, ht, atI_of (t := .note) hx, Bool.and_self, cond_true, wrap_id (x := (j : Int) - 1) (by omega) (by omega)]
      show cond (noteIs x a0) _ _ = _
      cases noteIs x a0 <;> rfl
    · rw [List.take_length, find_pair a0 a1, ← hX]
      have hf := find_any (fun n => noteIs n a0) a1
      show _ = k [.d .bool (fits a0 a1)]
      unfold fits among
      simp only [ho, hv, cond_true, Bool.true_and]
      cases hfi : a1.find? (fun n => noteIs n a0) with
      | none =>
        rw [hfi] at hf
        rw [← hf]
        simp only [Option.elim_none, Option.isSome_none]
        cases h1 : (a0.op == (1 : Int)) <;> cases h2 : (a0.op == (2 : Int)) <;> cases h3 : (a0.op == (3 : Int)) <;> cases h4 : (a0.op == (4 : Int)) <;> cases h5 : (a0.op == (5 : Int)) <;> first | (exfalso; simp only [beq_iff_eq] at h1 h2 h3 h4 h5; omega) | rfl
      | some y =>
        rw [hfi] at hf
        rw [← hf]
        simp only [Option.elim_some, Option.isSome_some]
        cases h1 : (a0.op == (1 : Int)) <;> cases h2 : (a0.op == (2 : Int)) <;> cases h3 : (a0.op == (3 : Int)) <;> cases h4 : (a0.op == (4 : Int)) <;> cases h5 : (a0.op == (5 : Int)) <;> first | (exfalso; simp only [beq_iff_eq] at h1 h2 h3 h4 h5; omega) | rfl

noncomputable def q16 : List Dt → Option (Bool × List Dt)
  | [.d .pick a0, .d (.sl .note) a1] => some ((gFits a0 a1), [.d .bool (fits a0 a1)])
  | _ => none
noncomputable def s16 : Gm.Spec := Gm.Spec.of [.ro, .ro] [false] true q16
theorem good16 : Gm.Good Try.prog (16, s16) := by
  have hl : ∀ x ∈ [(9, s9), (47, s47)], Gm.Good Try.prog x := List.forall_mem_cons.2 ⟨good9, List.forall_mem_cons.2 ⟨good47, List.forall_mem_nil _⟩⟩
  refine ⟨⟨spec_ok (tab_ok.env hl) (tab.natl hl) Try.func16 (by kernel_rfl : Try.f16.body = some f16c) [4] (by kernel_rfl) ?_, _, Try.func16, by kernel_rfl, of_decide_eq_true (by kernel_rfl)⟩, Gm.Spec.of_natl _ _ _ _⟩
  intro ds outs h
  unfold q16 at h
  split at h
  · simp only [Option.some.injEq, Prod.mk.injEq] at h; obtain ⟨hg, h⟩ := h; cases h; exact f16_spec _ _ hg
  · cases h
/-! ### loop.example/g00465/impl.Fits -/
noncomputable def f18c : Code := (Try.f18.body).getD .skip
def f18k : Nat → Kp := kat [⟨[1, 2], []⟩, ⟨[1, 2, 9], []⟩, ⟨[4], []⟩, ⟨[1, 2, 5], []⟩, ⟨[2, 5, 6], []⟩, ⟨[5, 6, 26], []⟩, ⟨[5, 6, 26, 27], []⟩, ⟨[5, 6, 26, 27], []⟩, ⟨[4], []⟩, ⟨[5, 6, 26, 31], []⟩, ⟨[5, 6, 26, 31], []⟩, ⟨[4], []⟩, ⟨[5, 36], []⟩, ⟨[4], []⟩, ⟨[4], []⟩]
noncomputable def f18e : Env := tab.env [(11, s11), (49, s49), (50, s50), (51, s51)]
theorem f18_run {R : Type} (n : Nat) (k : List Dt → Option R) (a0 : PickT) (a1 : List NoteT) : evFn f18e f18k n f18c [.ro, .ro] [false] true [.tmp 4] [4] [.d .pick a0, .d (.sl .note) a1] k =
    (cond (okPick a0)
    (cond (!(pickOk a0))
      (k [.d .bool false])
      (cond ((fun (x : List NoteT) (_ : PickT) => gLenW x) a1 a0)
        (cond (decide ((noteAt a1 a0) ≥ (0 : Int)))
          (cond ((decide ((0 : Int) ≤ (noteAt a1 a0))) && (decide ((noteAt a1 a0) < (a1.length : Int))))
            (cond ((fun (x : List ByteArray) (_ : ByteArray) => gLenW x) (PickT.vals a0) (NoteT.text (atI (t := .note) a1 (Int.toNat (noteAt a1 a0)))))
              (cond ((PickT.op a0) == (1 : Int))
                (cond ((PickT.op a0) == (1 : Int))
                  (k [.d .bool (isIn (PickT.vals a0) (NoteT.text (atI (t := .note) a1 (Int.toNat (noteAt a1 a0)))))])
                  (cond ((PickT.op a0) == (2 : Int))
                    (cond ((PickT.op a0) == (2 : Int))
                      (k [.d .bool (!(isIn (PickT.vals a0) (NoteT.text (atI (t := .note) a1 (Int.toNat (noteAt a1 a0))))))])
                      (cond ((PickT.op a0) == (5 : Int))
                        (k [.d .bool (decide ((noteAt a1 a0) ≥ (0 : Int)))])
                        (k [.d .bool (decide ((noteAt a1 a0) < (0 : Int)))])))
                    (cond ((PickT.op a0) == (4 : Int))
                      (k [.d .bool (!(isIn (PickT.vals a0) (NoteT.text (atI (t := .note) a1 (Int.toNat (noteAt a1 a0))))))])
                      (cond ((PickT.op a0) == (5 : Int))
                        (k [.d .bool (decide ((noteAt a1 a0) ≥ (0 : Int)))])
                        (k [.d .bool (decide ((noteAt a1 a0) < (0 : Int)))])))))
                (cond ((PickT.op a0) == (3 : Int))
                  (k [.d .bool (isIn (PickT.vals a0) (NoteT.text (atI (t := .note) a1 (Int.toNat (noteAt a1 a0)))))])
                  (cond ((PickT.op a0) == (2 : Int))
                    (cond ((PickT.op a0) == (2 : Int))
                      (k [.d .bool (!(isIn (PickT.vals a0) (NoteT.text (atI (t := .note) a1 (Int.toNat (noteAt a1 a0))))))])
                      (cond ((PickT.op a0) == (5 : Int))
                        (k [.d .bool (decide ((noteAt a1 a0) ≥ (0 : Int)))])
                        (k [.d .bool (decide ((noteAt a1 a0) < (0 : Int)))])))
                    (cond ((PickT.op a0) == (4 : Int))
                      (k [.d .bool (!(isIn (PickT.vals a0) (NoteT.text (atI (t := .note) a1 (Int.toNat (noteAt a1 a0))))))])
                      (cond ((PickT.op a0) == (5 : Int))
                        (k [.d .bool (decide ((noteAt a1 a0) ≥ (0 : Int)))])
                        (k [.d .bool (decide ((noteAt a1 a0) < (0 : Int)))]))))))
              none)
            none)
          (cond ((PickT.op a0) == (1 : Int))
            (cond ((PickT.op a0) == (1 : Int))
              (k [.d .bool false])
              (cond ((PickT.op a0) == (2 : Int))
                (cond ((PickT.op a0) == (2 : Int))
                  (k [.d .bool true])
                  (cond ((PickT.op a0) == (5 : Int))
                    (k [.d .bool (decide ((noteAt a1 a0) ≥ (0 : Int)))])
                    (k [.d .bool (decide ((noteAt a1 a0) < (0 : Int)))])))
                (cond ((PickT.op a0) == (4 : Int))
                  (k [.d .bool true])
                  (cond ((PickT.op a0) == (5 : Int))
                    (k [.d .bool (decide ((noteAt a1 a0) ≥ (0 : Int)))])
                    (k [.d .bool (decide ((noteAt a1 a0) < (0 : Int)))])))))
            (cond ((PickT.op a0) == (3 : Int))
              (k [.d .bool false])
              (cond ((PickT.op a0) == (2 : Int))
                (cond ((PickT.op a0) == (2 : Int))
                  (k [.d .bool true])
                  (cond ((PickT.op a0) == (5 : Int))
                    (k [.d .bool (decide ((noteAt a1 a0) ≥ (0 : Int)))])
                    (k [.d .bool (decide ((noteAt a1 a0) < (0 : Int)))])))
                (cond ((PickT.op a0) == (4 : Int))
                  (k [.d .bool true])
                  (cond ((PickT.op a0) == (5 : Int))
                    (k [.d .bool (decide ((noteAt a1 a0) ≥ (0 : Int)))])
                    (k [.d .bool (decide ((noteAt a1 a0) < (0 : Int)))])))))))
        none))
    none) := by kernel_rfl
theorem f18_spec (a0 : PickT) (a1 : List NoteT) (hg : gFits a0 a1 = true) : ∃ keep rounds, ∀ {R : Type} (k : List Dt → Option R), evFn f18e keep rounds f18c [.ro, .ro] [false] true [.tmp 4] [4] [.d .pick a0, .d (.sl .note) a1] k = k [.d .bool (fits a0 a1)] := by
  simp only [gFits, Bool.and_eq_true] at hg
  obtain ⟨hp, hn⟩ := hg
  have hl := gLenW_le hn
  have hv : gLenW a0.vals = true := by simp only [okPick, okL, Bool.and_eq_true] at hp; exact hp.2.1
  refine ⟨f18k, 0, fun {R} k => ?_⟩
  rw [f18_run]
  simp only [hp, hn, hv, cond_true]
  cases ho : pickOk a0 with
  | false => unfold fits; rw [ho]; rfl
  | true =>
    simp only [Bool.not_true, cond_false]
    show _ = k [.d .bool (fits a0 a1)]
    unfold fits among
    rcases findI_cases (t := .note) (fun n => noteIs n a0) a1 with ⟨h1, h2, h3⟩ | ⟨i, h1, hi, h2, h3, _⟩
    · have e : noteAt a1 a0 = -1 := h1
      rw [h2, h3, e]
      simp only [ho, Option.elim_none, Bool.true_and]
      cases h1 : (a0.op == (1 : Int)) <;> cases h2 : (a0.op == (2 : Int)) <;> cases h3 : (a0.op == (3 : Int)) <;> cases h4 : (a0.op == (4 : Int)) <;> cases h5 : (a0.op == (5 : Int)) <;> first | (exfalso; simp only [beq_iff_eq] at h1 h2 h3 h4 h5; omega) | rfl
    · have e : noteAt a1 a0 = (i : Int) := h1
      obtain ⟨h1, h0, hw, ht⟩ := idx hi (by omega)
      have hd : decide ((i : Int) ≥ (0 : Int)) = true := decide_eq_true (by omega)
      have hd2 : decide ((i : Int) < (0 : Int)) = false := decide_eq_false (by omega)
      rw [h2, h3, e]
      simp only [ho, hd, hd2, h1, h0, ht, Option.elim_some, Bool.true_and, Bool.and_self, cond_true]
      cases h1 : (a0.op == (1 : Int)) <;> cases h2 : (a0.op == (2 : Int)) <;> cases h3 : (a0.op == (3 : Int)) <;> cases h4 : (a0.op == (4 : Int)) <;> cases h5 : (a0.op == (5 : Int)) <;> first | (exfalso; simp only [beq_iff_eq] at h1 h2 h3 h4 h5; omega) | rfl

noncomputable def q18 : List Dt → Option (Bool × List Dt)
  | [.d .pick a0, .d (.sl .note) a1] => some ((gFits a0 a1), [.d .bool (fits a0 a1)])
  | _ => none
noncomputable def s18 : Gm.Spec := Gm.Spec.of [.ro, .ro] [false] true q18
theorem good18 : Gm.Good Try.prog (18, s18) := by
  have hl : ∀ x ∈ [(11, s11), (49, s49), (50, s50), (51, s51)], Gm.Good Try.prog x := List.forall_mem_cons.2 ⟨good11, List.forall_mem_cons.2 ⟨good49, List.forall_mem_cons.2 ⟨good50, List.forall_mem_cons.2 ⟨good51, List.forall_mem_nil _⟩⟩⟩⟩
  refine ⟨⟨spec_ok (tab_ok.env hl) (tab.natl hl) Try.func18 (by kernel_rfl : Try.f18.body = some f18c) [4] (by kernel_rfl) ?_, _, Try.func18, by kernel_rfl, of_decide_eq_true (by kernel_rfl)⟩, Gm.Spec.of_natl _ _ _ _⟩
  intro ds outs h
  unfold q18 at h
  split at h
  · simp only [Option.some.injEq, Prod.mk.injEq] at h; obtain ⟨hg, h⟩ := h; cases h; exact f18_spec _ _ hg
  · cases h
end Go.Proofs.Ytklmnopgogcbhaa

/- x -/
namespace Go.Proofs.Ytklmnopgogcbhaa
open Go Go.Gm
/-! ### loop.example/g00465/impl.Chosen$1 -/
noncomputable def f60c : Code := (Try.f60.body).getD .skip
def f60k : Nat → Kp := kat [⟨[1, 2], []⟩, ⟨[3], []⟩]
noncomputable def f60e : Env := tab.env [(18, s18)]
theorem f60_run {R : Type} (n : Nat) (k : List Dt → Option R) (a0 : PickT) (a1 : ItemT) : evFn f60e f60k n f60c [.ro, .pro] [false] true [.tmp 3] [4] [.d .pick a0, .d .item a1] k =
    (cond (gFits a0 (OrderT.notes (ItemT.order a1)))
    (k [.d .bool (!(fits a0 (OrderT.notes (ItemT.order a1))))])
    none) := by kernel_rfl
theorem f60_spec (a0 : PickT) (a1 : ItemT) (hg : gFits a0 a1.order.notes = true) : ∃ keep rounds, ∀ {R : Type} (k : List Dt → Option R), evFn f60e keep rounds f60c [.ro, .pro] [false] true [.tmp 3] [4] [.d .pick a0, .d .item a1] k = k [.d .bool (fitsNot a0 a1)] := by
  refine ⟨f60k, 0, fun k => ?_⟩
  rw [f60_run]; simp only [hg, cond_true]; rfl

noncomputable def q60 : List Dt → Option (Bool × List Dt)
  | [.d .pick a0, .d .item a1] => some (((fun p (i : ItemT) => gFits p i.order.notes) a0 a1), [.d .bool (fitsNot a0 a1)])
  | _ => none
noncomputable def s60 : Gm.Spec := Gm.Spec.of [.ro, .pro] [false] true q60
theorem good60 : Gm.Good Try.prog (60, s60) := by
  have hl : ∀ x ∈ [(18, s18)], Gm.Good Try.prog x := List.forall_mem_cons.2 ⟨good18, List.forall_mem_nil _⟩
  refine ⟨⟨spec_ok (tab_ok.env hl) (tab.natl hl) Try.func60 (by kernel_rfl : Try.f60.body = some f60c) [4] (by kernel_rfl) ?_, _, Try.func60, by kernel_rfl, of_decide_eq_true (by kernel_rfl)⟩, Gm.Spec.of_natl _ _ _ _⟩
  intro ds outs h
  unfold q60 at h
  split at h
  · simp only [Option.some.injEq, Prod.mk.injEq] at h; obtain ⟨hg, h⟩ := h; cases h; exact f60_spec _ _ hg
  · cases h
/-! ### slices.IndexFunc[[]loop.example/g00465/impl.Pick,loop.example/g00465/impl.Pick] -/
noncomputable def f80c : Code := (Try.f80.body).getD .skip
def f80k : Nat → Kp := kat [⟨[0, 1], []⟩, ⟨[0, 1, 7, 8], []⟩, ⟨[0, 1, 7, 8, 9], []⟩, ⟨[0, 1, 5, 7, 8], []⟩, ⟨[0, 1, 5, 7, 8, 16], []⟩, ⟨[4], []⟩, ⟨[0, 1, 7, 8], []⟩, ⟨[4], []⟩]
noncomputable def f80e : Env := tab.env [(60, s60)]
noncomputable def f80L0 {R : Type} (n : Nat) (x0 : Int → Option R) (x1 : Int → Bool → Option R) (vs0 : List PickT) (vs1c0 : ItemT) (vs7 : Int) : Nat → Int → Option R
  | 0, _ => none
  | m + 1, vs8 =>
    (cond (decide (vs8 < vs7))
      (cond ((decide ((0 : Int) ≤ vs8)) && (decide (vs8 < (vs0.length : Int))))
        (cond ((fun p (i : ItemT) => gFits p i.order.notes) (atI (t := .pick) vs0 (Int.toNat vs8)) vs1c0)
          (cond (fitsNot (atI (t := .pick) vs0 (Int.toNat vs8)) vs1c0)
            (x0 vs8)
            (f80L0 n x0 x1 vs0 vs1c0 vs7 m (IntKind.wrap .i64 (vs8 + (1 : Int)))))
          none)
        none)
      (x1 vs8 (decide (vs8 < vs7))))
theorem f80L0_b {R : Type} (n : Nat) (k' : Ex → St → Option R) (vs0 : List PickT) (vs1c0 : ItemT) (vs7 : Int) (vs8 : Int) : ev f80e f80k n (cAt [1,0,1,0,0] f80c) ⟨[(0, .c (.one (.ro .pick vs0))), (1, .c (.one (.cloR 60 [⟨.item, vs1c0⟩]))), (7, .c (.one (.v (.int .i64 vs7)))), (8, .c (.one (.v (.int .i64 vs8))))], [], []⟩ k' =
    (cond (decide (vs8 < vs7))
    (cond ((decide ((0 : Int) ≤ vs8)) && (decide (vs8 < (vs0.length : Int))))
      (cond ((fun p (i : ItemT) => gFits p i.order.notes) (atI (t := .pick) vs0 (Int.toNat vs8)) vs1c0)
        (cond (fitsNot (atI (t := .pick) vs0 (Int.toNat vs8)) vs1c0)
          (k' .ret ⟨[(4, .c (.one (.v (.int .i64 vs8))))], [], []⟩)
          (k' .normal ⟨[(0, .c (.one (.ro .pick vs0))), (1, .c (.one (.cloR 60 [⟨.item, vs1c0⟩]))), (7, .c (.one (.v (.int .i64 vs7)))), (8, .c (.one (.v (.int .i64 (IntKind.wrap .i64 (vs8 + (1 : Int)))))))], [], []⟩))
        none)
      none)
    (k' (.exit 0) ⟨[(0, .c (.one (.ro .pick vs0))), (1, .c (.one (.cloR 60 [⟨.item, vs1c0⟩]))), (7, .c (.one (.v (.int .i64 vs7)))), (8, .c (.one (.v (.int .i64 vs8)))), (9, .c (.one (.v (.bool (decide (vs8 < vs7))))))], [], []⟩)) := by kernel_rfl
theorem f80L0_eq {R : Type} (n : Nat) (k' : Ex → St → Option R) (vs0 : List PickT) (vs1c0 : ItemT) (vs7 : Int) : ∀ (m : Nat) (vs8 : Int), iter (fun st k => ev f80e f80k n (cAt [1,0,1,0,0] f80c) st k) m ⟨[(0, .c (.one (.ro .pick vs0))), (1, .c (.one (.cloR 60 [⟨.item, vs1c0⟩]))), (7, .c (.one (.v (.int .i64 vs7)))), (8, .c (.one (.v (.int .i64 vs8))))], [], []⟩ k' = f80L0 n (fun (xvs4 : Int) => k' .ret ⟨[(4, .c (.one (.v (.int .i64 xvs4))))], [], []⟩) (fun (xvs8 : Int) (xvs9 : Bool) => k' (.exit 0) ⟨[(0, .c (.one (.ro .pick vs0))), (1, .c (.one (.cloR 60 [⟨.item, vs1c0⟩]))), (7, .c (.one (.v (.int .i64 vs7)))), (8, .c (.one (.v (.int .i64 xvs8)))), (9, .c (.one (.v (.bool xvs9))))], [], []⟩) vs0 vs1c0 vs7 m vs8 := by
  intro m; induction m with
  | zero => intros; rfl
  | succ m ih =>
    intro vs8
    simp only [iter]
    rw [f80L0_b]
    simp only [ih, f80L0]

noncomputable def f80K0 {R : Type} (n : Nat) (k' : Ex → St → Option R) : Ex → St → Option R := (blockK 0 (seqK f80e f80k n (cAt [1,1] f80c) k'))
theorem f80K0_x0 {R : Type} (n : Nat) (k : List Dt → Option R) (a0 : List PickT) (a1 : ItemT) (xvs4 : Int) : f80K0 n (exitK f80e [.ro, .fn] [false] true [.tmp 4] [3] [.d (.sl .pick) a0, .clo 60 [⟨.item, a1⟩]] k) .ret ⟨[(4, .c (.one (.v (.int .i64 xvs4))))], [], []⟩ =
    (k [.d (.i .i64) xvs4]) := by kernel_rfl
theorem f80K0_x1 {R : Type} (n : Nat) (k : List Dt → Option R) (a0 : List PickT) (a1 : ItemT) (vs0 : List PickT) (vs1c0 : ItemT) (vs7 : Int) (xvs8 : Int) (xvs9 : Bool) : f80K0 n (exitK f80e [.ro, .fn] [false] true [.tmp 4] [3] [.d (.sl .pick) a0, .clo 60 [⟨.item, a1⟩]] k) (.exit 0) ⟨[(0, .c (.one (.ro .pick vs0))), (1, .c (.one (.cloR 60 [⟨.item, vs1c0⟩]))), (7, .c (.one (.v (.int .i64 vs7)))), (8, .c (.one (.v (.int .i64 xvs8)))), (9, .c (.one (.v (.bool xvs9))))], [], []⟩ =
    (k [.d (.i .i64) (-1 : Int)]) := by kernel_rfl

theorem f80_run {R : Type} (n : Nat) (k : List Dt → Option R) (a0 : List PickT) (a1 : ItemT) : evFn f80e f80k n f80c [.ro, .fn] [false] true [.tmp 4] [3] [.d (.sl .pick) a0, .clo 60 [⟨.item, a1⟩]] k =
    (f80L0 n (fun (xvs4 : Int) =>
    (k [.d (.i .i64) xvs4])) (fun (xvs8 : Int) (xvs9 : Bool) =>
    (k [.d (.i .i64) (-1 : Int)])) a0 a1 (a0.length : Int) n (0 : Int)) := by
  refine Eq.trans (b := (iter (fun st k => ev f80e f80k n (cAt [1,0,1,0,0] f80c) st k) n ⟨[(0, .c (.one (.ro .pick a0))), (1, .c (.one (.cloR 60 [⟨.item, a1⟩]))), (7, .c (.one (.v (.int .i64 (a0.length : Int))))), (8, .c (.one (.v (.int .i64 (0 : Int)))))], [], []⟩ (f80K0 n (exitK f80e [.ro, .fn] [false] true [.tmp 4] [3] [.d (.sl .pick) a0, .clo 60 [⟨.item, a1⟩]] k)))) (by kernel_rfl) ?_
  simp only [f80L0_eq, f80K0_x0, f80K0_x1]
theorem f80_spec (a0 : List PickT) (a1 : ItemT) (hg : gFitsAll a0 a1 = true) : ∃ keep rounds, ∀ {R : Type} (k : List Dt → Option R), evFn f80e keep rounds f80c [.ro, .fn] [false] true [.tmp 4] [3] [.d (.sl .pick) a0, .clo 60 [⟨.item, a1⟩]] k = k [.d (.i .i64) (fitsNotAt a0 a1)] := by
  simp only [gFitsAll, Bool.and_eq_true] at hg
  obtain ⟨hn, hp, hi⟩ := hg
  have hl := gLenW_le hn
  refine ⟨f80k, a0.length + 1, fun k => ?_⟩
  rw [f80_run]
  refine Eq.trans (loop_find (n := a0.length) (F := fun m i => f80L0 (a0.length + 1) _ _ a0 a1 (a0.length : Int) m i) (p := fun j => fitsNot (atI (t := .pick) a0 j) a1) (hit := fun i => k [.d (.i .i64) i]) (miss := k [.d (.i .i64) (-1 : Int)])
    (fun m j hj => ?_) (fun m => by simp only [f80L0, idxE, cond_false]) a0.length 0 (a0.length + 1) (by omega) (by omega)) ?_
  · obtain ⟨h1, h0, hw, ht⟩ := idx hj (by omega)
    simp only [f80L0, h1, h0, hw, ht, Bool.and_self, cond_true, show gFits (atI (t := .pick) a0 j) a1.order.notes = true from by unfold gFits; rw [all_at (t := .pick) hp hj, hi]; rfl]
  · show _ = k [.d (.i .i64) (plc _)]
    cases firstN (fun j => fitsNot (atI (t := .pick) a0 j) a1) 0 a0.length <;> rfl

noncomputable def q80 : List Dt → Option (Bool × List Dt)
  | [.d (.sl .pick) a0, .clo 60 [⟨.item, a1⟩]] => some ((gFitsAll a0 a1), [.d (.i .i64) (fitsNotAt a0 a1)])
  | _ => none
noncomputable def s80 : Gm.Spec := Gm.Spec.of [.ro, .fn] [false] true q80
theorem good80 : Gm.Good Try.prog (80, s80) := by
  have hl : ∀ x ∈ [(60, s60)], Gm.Good Try.prog x := List.forall_mem_cons.2 ⟨good60, List.forall_mem_nil _⟩
  refine ⟨⟨spec_ok (tab_ok.env hl) (tab.natl hl) Try.func80 (by kernel_rfl : Try.f80.body = some f80c) [3] (by kernel_rfl) ?_, _, Try.func80, by kernel_rfl, of_decide_eq_true (by kernel_rfl)⟩, Gm.Spec.of_natl _ _ _ _⟩
  intro ds outs h
  unfold q80 at h
  split at h
  · simp only [Option.some.injEq, Prod.mk.injEq] at h; obtain ⟨hg, h⟩ := h; cases h; exact f80_spec _ _ hg
  · cases h
/-! ### slices.ContainsFunc[[]loop.example/g00465/impl.Pick,loop.example/g00465/impl.Pick] -/
noncomputable def f59c : Code := (Try.f59.body).getD .skip
def f59k : Nat → Kp := kat [⟨[0, 1], []⟩, ⟨[4], []⟩]
noncomputable def f59e : Env := tab.env [(60, s60), (80, s80)]
theorem f59_run {R : Type} (n : Nat) (k : List Dt → Option R) (a0 : List PickT) (a1 : ItemT) : evFn f59e f59k n f59c [.ro, .fn] [false] true [.tmp 4] [4] [.d (.sl .pick) a0, .clo 60 [⟨.item, a1⟩]] k =
    (cond (gFitsAll a0 a1)
    (k [.d .bool (decide ((fitsNotAt a0 a1) ≥ (0 : Int)))])
    none) := by kernel_rfl
theorem f59_spec (a0 : List PickT) (a1 : ItemT) (hg : gFitsAll a0 a1 = true) : ∃ keep rounds, ∀ {R : Type} (k : List Dt → Option R), evFn f59e keep rounds f59c [.ro, .fn] [false] true [.tmp 4] [4] [.d (.sl .pick) a0, .clo 60 [⟨.item, a1⟩]] k = k [.d .bool (fitsNotAny a0 a1)] := by
  refine ⟨f59k, 0, fun k => ?_⟩
  rw [f59_run]; simp only [hg, cond_true]
  unfold fitsNotAt
  rw [findI_ge]; rfl

noncomputable def q59 : List Dt → Option (Bool × List Dt)
  | [.d (.sl .pick) a0, .clo 60 [⟨.item, a1⟩]] => some ((gFitsAll a0 a1), [.d .bool (fitsNotAny a0 a1)])
  | _ => none
noncomputable def s59 : Gm.Spec := Gm.Spec.of [.ro, .fn] [false] true q59
theorem good59 : Gm.Good Try.prog (59, s59) := by
  have hl : ∀ x ∈ [(60, s60), (80, s80)], Gm.Good Try.prog x := List.forall_mem_cons.2 ⟨good60, List.forall_mem_cons.2 ⟨good80, List.forall_mem_nil _⟩⟩
  refine ⟨⟨spec_ok (tab_ok.env hl) (tab.natl hl) Try.func59 (by kernel_rfl : Try.f59.body = some f59c) [4] (by kernel_rfl) ?_, _, Try.func59, by kernel_rfl, of_decide_eq_true (by kernel_rfl)⟩, Gm.Spec.of_natl _ _ _ _⟩
  intro ds outs h
  unfold q59 at h
  split at h
  · simp only [Option.some.injEq, Prod.mk.injEq] at h; obtain ⟨hg, h⟩ := h; cases h; exact f59_spec _ _ hg
  · cases h
/-! ### loop.example/g00465/impl.Chosen -/
noncomputable def f22c : Code := (Try.f22.body).getD .skip
def f22k : Nat → Kp := kat [⟨[1, 2], []⟩, ⟨[1, 2, 5], []⟩, ⟨[1, 5, 10, 11, 12], []⟩, ⟨[1, 5, 10, 11, 12, 13], []⟩, ⟨[1, 5, 7, 10, 11, 12], []⟩, ⟨[1, 5, 7, 10, 11, 12, 19], []⟩, ⟨[1, 5, 10, 11, 12], []⟩, ⟨[1, 5, 10, 11, 12], []⟩, ⟨[4], []⟩]
noncomputable def f22e : Env := tab.env [(59, s59), (60, s60)]
noncomputable def f22L0 {R : Type} (n : Nat) (x0 : Int → Bool → (List ByteArray) → Option R) (vs1 : List PickT) (vs10 : List ItemT) (vs11 : Int) : Nat → Int → (List ByteArray) → Option R
  | 0, _, _ => none
  | m + 1, vs12, vr512 =>
    (cond (decide (vs12 < vs11))
      (cond ((decide ((0 : Int) ≤ vs12)) && (decide (vs12 < (vs10.length : Int))))
        (cond (gFitsAll vs1 (atI (t := .item) vs10 (Int.toNat vs12)))
          (cond (!(fitsNotAny vs1 (atI (t := .item) vs10 (Int.toNat vs12))))
            (cond (Nat.ble (vr512.length + 1) LIM)
              (f22L0 n x0 vs1 vs10 vs11 m (IntKind.wrap .i64 (vs12 + (1 : Int))) (vr512 ++ ([(OrderT.name (ItemT.order (atI (t := .item) vs10 (Int.toNat vs12))))] : List ByteArray)))
              none)
            (f22L0 n x0 vs1 vs10 vs11 m (IntKind.wrap .i64 (vs12 + (1 : Int))) vr512))
          none)
        none)
      (x0 vs12 (decide (vs12 < vs11)) vr512))
theorem f22L0_b {R : Type} (n : Nat) (k' : Ex → St → Option R) (vs1 : List PickT) (vs10 : List ItemT) (vs11 : Int) (vs12 : Int) (vr512 : List ByteArray) : ev f22e f22k n (cAt [1,1,0,1,0,0] f22c) ⟨[(1, .c (.one (.ro .pick vs1))), (5, .c (.one (.h 512 0 0 []))), (10, .c (.one (.ro .item vs10))), (11, .c (.one (.v (.int .i64 vs11)))), (12, .c (.one (.v (.int .i64 vs12))))], [], [(512, .live ⟨.str, .deep, 0, [], vr512⟩)]⟩ k' =
    (cond (decide (vs12 < vs11))
    (cond ((decide ((0 : Int) ≤ vs12)) && (decide (vs12 < (vs10.length : Int))))
      (cond (gFitsAll vs1 (atI (t := .item) vs10 (Int.toNat vs12)))
        (cond (!(fitsNotAny vs1 (atI (t := .item) vs10 (Int.toNat vs12))))
          (cond (Nat.ble (vr512.length + 1) LIM)
            (k' .normal ⟨[(1, .c (.one (.ro .pick vs1))), (5, .c (.one (.h 512 0 0 []))), (10, .c (.one (.ro .item vs10))), (11, .c (.one (.v (.int .i64 vs11)))), (12, .c (.one (.v (.int .i64 (IntKind.wrap .i64 (vs12 + (1 : Int)))))))], [], [(512, .live ⟨.str, .deep, 0, [], (vr512 ++ ([(OrderT.name (ItemT.order (atI (t := .item) vs10 (Int.toNat vs12))))] : List ByteArray))⟩)]⟩)
            none)
          (k' .normal ⟨[(1, .c (.one (.ro .pick vs1))), (5, .c (.one (.h 512 0 0 []))), (10, .c (.one (.ro .item vs10))), (11, .c (.one (.v (.int .i64 vs11)))), (12, .c (.one (.v (.int .i64 (IntKind.wrap .i64 (vs12 + (1 : Int)))))))], [], [(512, .live ⟨.str, .deep, 0, [], vr512⟩)]⟩))
        none)
      none)
    (k' (.exit 0) ⟨[(1, .c (.one (.ro .pick vs1))), (5, .c (.one (.h 512 0 0 []))), (10, .c (.one (.ro .item vs10))), (11, .c (.one (.v (.int .i64 vs11)))), (12, .c (.one (.v (.int .i64 vs12)))), (13, .c (.one (.v (.bool (decide (vs12 < vs11))))))], [], [(512, .live ⟨.str, .deep, 0, [], vr512⟩)]⟩)) := by kernel_rfl
theorem f22L0_eq {R : Type} (n : Nat) (k' : Ex → St → Option R) (vs1 : List PickT) (vs10 : List ItemT) (vs11 : Int) : ∀ (m : Nat) (vs12 : Int) (vr512 : List ByteArray), iter (fun st k => ev f22e f22k n (cAt [1,1,0,1,0,0] f22c) st k) m ⟨[(1, .c (.one (.ro .pick vs1))), (5, .c (.one (.h 512 0 0 []))), (10, .c (.one (.ro .item vs10))), (11, .c (.one (.v (.int .i64 vs11)))), (12, .c (.one (.v (.int .i64 vs12))))], [], [(512, .live ⟨.str, .deep, 0, [], vr512⟩)]⟩ k' = f22L0 n (fun (xvs12 : Int) (xvs13 : Bool) (xvr512 : List ByteArray) => k' (.exit 0) ⟨[(1, .c (.one (.ro .pick vs1))), (5, .c (.one (.h 512 0 0 []))), (10, .c (.one (.ro .item vs10))), (11, .c (.one (.v (.int .i64 vs11)))), (12, .c (.one (.v (.int .i64 xvs12)))), (13, .c (.one (.v (.bool xvs13))))], [], [(512, .live ⟨.str, .deep, 0, [], xvr512⟩)]⟩) vs1 vs10 vs11 m vs12 vr512 := by
  intro m; induction m with
  | zero => intros; rfl
  | succ m ih =>
    intro vs12 vr512
    simp only [iter]
    rw [f22L0_b]
    simp only [ih, f22L0]

noncomputable def f22K0 {R : Type} (n : Nat) (k' : Ex → St → Option R) : Ex → St → Option R := (blockK 0 (seqK f22e f22k n (cAt [1,1,1] f22c) k'))
theorem f22K0_x0 {R : Type} (n : Nat) (k : List Dt → Option R) (a0 : StoreT) (a1 : List PickT) (vs1 : List PickT) (vs10 : List ItemT) (vs11 : Int) (xvs12 : Int) (xvs13 : Bool) (xvr512 : List ByteArray) : f22K0 n (exitK f22e [.ro, .ro] [false] true [.tmp 4] [22] [.d .store a0, .d (.sl .pick) a1] k) (.exit 0) ⟨[(1, .c (.one (.ro .pick vs1))), (5, .c (.one (.h 512 0 0 []))), (10, .c (.one (.ro .item vs10))), (11, .c (.one (.v (.int .i64 vs11)))), (12, .c (.one (.v (.int .i64 xvs12)))), (13, .c (.one (.v (.bool xvs13))))], [], [(512, .live ⟨.str, .deep, 0, [], xvr512⟩)]⟩ =
    (k [.d (.sl .str) xvr512]) := by kernel_rfl

theorem f22_run {R : Type} (n : Nat) (k : List Dt → Option R) (a0 : StoreT) (a1 : List PickT) : evFn f22e f22k n f22c [.ro, .ro] [false] true [.tmp 4] [22] [.d .store a0, .d (.sl .pick) a1] k =
    (f22L0 n (fun (xvs12 : Int) (xvs13 : Bool) (xvr512 : List ByteArray) =>
    (k [.d (.sl .str) xvr512])) a1 (StoreT.items a0) ((StoreT.items a0).length : Int) n (0 : Int) ([] : List ByteArray)) := by
  refine Eq.trans (b := (iter (fun st k => ev f22e f22k n (cAt [1,1,0,1,0,0] f22c) st k) n ⟨[(1, .c (.one (.ro .pick a1))), (5, .c (.one (.h 512 0 0 []))), (10, .c (.one (.ro .item (StoreT.items a0)))), (11, .c (.one (.v (.int .i64 ((StoreT.items a0).length : Int))))), (12, .c (.one (.v (.int .i64 (0 : Int)))))], [], [(512, .live ⟨.str, .deep, 0, [], ([] : List ByteArray)⟩)]⟩ (f22K0 n (exitK f22e [.ro, .ro] [false] true [.tmp 4] [22] [.d .store a0, .d (.sl .pick) a1] k)))) (by kernel_rfl) ?_
  simp only [f22L0_eq, f22K0_x0]
theorem f22_spec (a0 : StoreT) (a1 : List PickT) (hg : gChosen a0 a1 = true) : ∃ keep rounds, ∀ {R : Type} (k : List Dt → Option R), evFn f22e keep rounds f22c [.ro, .ro] [false] true [.tmp 4] [22] [.d .store a0, .d (.sl .pick) a1] k = k [.d (.sl .str) (chosen a0 a1)] := by
  simp only [gChosen, sm_store, Bool.and_eq_true] at hg
  obtain ⟨⟨hi, _⟩, hp⟩ := hg
  have hl := smL_len hi
  have hlp := smL_len hp
  have hpo : a1.all okPick = true := List.all_eq_true.2 fun p h => okPick_sm (List.all_eq_true.1 (smL_all hp) p h)
  have hgi : ∀ x ∈ a0.items, gFitsAll a1 x = true := by
    intro x hx
    have := List.all_eq_true.1 (smL_all hi) x hx
    simp only [sm_item, sm_order, Bool.and_eq_true] at this
    unfold gFitsAll
    rw [gLenW_sm hp, hpo, gLenW_sm this.1.2.2.2.2.2.2]; rfl
  refine ⟨f22k, a0.items.length + 1, fun {R} k => ?_⟩
  rw [f22_run]
  refine Eq.trans (loop_acc (xs := a0.items) (F := fun m j out => f22L0 (a0.items.length + 1) _ a1 a0.items (a0.items.length : Int) m (j : Int) out) (f := chosenStep a1) (good := fun out => k [.d (.sl .str) out]) (fun j out => out.length ≤ j)
    (fun j out x hx hi => ?_) (fun m j out x hx hi => ?_) (fun m out hi => by simp only [f22L0, idxE, cond_false]) a0.items.length 0 (a0.items.length + 1) [] (by omega) (by omega) (by simp)) ?_
  · unfold chosenStep
    cases fitsNotAny a1 x
    · simp only [cond_false, List.length_append, List.length_cons, List.length_nil]; omega
    · simp only [cond_true]; omega
  · obtain ⟨h1, h0, hw, ht⟩ := idx (lt_of_get hx) (by omega)
    have hj := lt_of_get hx
    have hlim : Nat.ble (out.length + 1) LIM = true := Nat.ble_eq_true_of_le (by have : (LIM : Nat) = 4294967296 := rfl; omega)
    simp only [f22L0, h1, h0, hw, ht, atI_of (t := .item) hx, Bool.and_self, cond_true, hgi x (List.mem_of_getElem? hx), hlim]
    unfold chosenStep
    cases fitsNotAny a1 x <;> rfl
  · rfl

noncomputable def q22 : List Dt → Option (Bool × List Dt)
  | [.d .store a0, .d (.sl .pick) a1] => some ((gChosen a0 a1), [.d (.sl .str) (chosen a0 a1)])
  | _ => none
noncomputable def s22 : Gm.Spec := Gm.Spec.of [.ro, .ro] [false] true q22
theorem good22 : Gm.Good Try.prog (22, s22) := by
  have hl : ∀ x ∈ [(59, s59), (60, s60)], Gm.Good Try.prog x := List.forall_mem_cons.2 ⟨good59, List.forall_mem_cons.2 ⟨good60, List.forall_mem_nil _⟩⟩
  refine ⟨⟨spec_ok (tab_ok.env hl) (tab.natl hl) Try.func22 (by kernel_rfl : Try.f22.body = some f22c) [22] (by kernel_rfl) ?_, _, Try.func22, by kernel_rfl, of_decide_eq_true (by kernel_rfl)⟩, Gm.Spec.of_natl _ _ _ _⟩
  intro ds outs h
  unfold q22 at h
  split at h
  · simp only [Option.some.injEq, Prod.mk.injEq] at h; obtain ⟨hg, h⟩ := h; cases h; exact f22_spec _ _ hg
  · cases h
/-! ### loop.example/g00465/spec.Chosen -/
noncomputable def f24c : Code := (Try.f24.body).getD .skip
def f24k : Nat → Kp := kat [⟨[1, 2], []⟩, ⟨[1, 2, 5], []⟩, ⟨[1, 2, 5, 6], []⟩, ⟨[1, 2, 5, 6, 14], []⟩, ⟨[1, 2, 5, 6], []⟩, ⟨[1, 2, 5, 6, 7], []⟩, ⟨[1, 2, 5, 6, 7, 8], []⟩, ⟨[1, 2, 5, 6, 7, 8, 20], []⟩, ⟨[1, 2, 5, 6, 7, 8], []⟩, ⟨[1, 2, 5, 6, 7, 8], []⟩, ⟨[1, 2, 5, 6, 38], []⟩, ⟨[1, 2, 5, 6], []⟩, ⟨[4], []⟩]
noncomputable def f24e : Env := tab.env [(16, s16)]
noncomputable def f24L0 {R : Type} (n : Nat) (x0 : Bool → Int → Bool → Option R) (vs1 : List PickT) (vs6 : Int) (vb2_0 : List ItemT) (vb2_1 : Int) (vr576 : List ByteArray) : Nat → Bool → Int → Option R
  | 0, _, _ => none
  | m + 1, vs7, vs8 =>
    (cond (decide (vs8 < (vs1.length : Int)))
      (cond vs7
        (cond ((decide ((0 : Int) ≤ vs8)) && (decide (vs8 < (vs1.length : Int))))
          (cond ((decide ((0 : Int) ≤ vs6)) && (decide (vs6 < (vb2_0.length : Int))))
            (cond (gFits (atI (t := .pick) vs1 (Int.toNat vs8)) (OrderT.notes (ItemT.order (atI (t := .item) vb2_0 (Int.toNat vs6)))))
              (f24L0 n x0 vs1 vs6 vb2_0 vb2_1 vr576 m (fits (atI (t := .pick) vs1 (Int.toNat vs8)) (OrderT.notes (ItemT.order (atI (t := .item) vb2_0 (Int.toNat vs6))))) (IntKind.wrap .i64 (vs8 + (1 : Int))))
              none)
            none)
          none)
        (f24L0 n x0 vs1 vs6 vb2_0 vb2_1 vr576 m false (IntKind.wrap .i64 (vs8 + (1 : Int)))))
      (x0 vs7 vs8 (decide (vs8 < (vs1.length : Int)))))
theorem f24L0_b {R : Type} (n : Nat) (k' : Ex → St → Option R) (vs1 : List PickT) (vs6 : Int) (vs7 : Bool) (vs8 : Int) (vb2_0 : List ItemT) (vb2_1 : Int) (vr576 : List ByteArray) : ev f24e f24k n (cAt [1,1,0,1,0,0,1,0,0,1,0,1,0,0] f24c) ⟨[(1, .c (.one (.ro .pick vs1))), (2, .c (.one (.pt 2 0))), (5, .c (.one (.h 576 0 0 []))), (6, .c (.one (.v (.int .i64 vs6)))), (7, .c (.one (.v (.bool vs7)))), (8, .c (.one (.v (.int .i64 vs8))))], [(2, ⟨.store, [.ro .item vb2_0, .v (.int .i64 vb2_1)]⟩)], [(576, .live ⟨.str, .deep, 0, [], vr576⟩)]⟩ k' =
    (cond (decide (vs8 < (vs1.length : Int)))
    (cond vs7
      (cond ((decide ((0 : Int) ≤ vs8)) && (decide (vs8 < (vs1.length : Int))))
        (cond ((decide ((0 : Int) ≤ vs6)) && (decide (vs6 < (vb2_0.length : Int))))
          (cond (gFits (atI (t := .pick) vs1 (Int.toNat vs8)) (OrderT.notes (ItemT.order (atI (t := .item) vb2_0 (Int.toNat vs6)))))
            (k' .normal ⟨[(1, .c (.one (.ro .pick vs1))), (2, .c (.one (.pt 2 0))), (5, .c (.one (.h 576 0 0 []))), (6, .c (.one (.v (.int .i64 vs6)))), (7, .c (.one (.v (.bool (fits (atI (t := .pick) vs1 (Int.toNat vs8)) (OrderT.notes (ItemT.order (atI (t := .item) vb2_0 (Int.toNat vs6))))))))), (8, .c (.one (.v (.int .i64 (IntKind.wrap .i64 (vs8 + (1 : Int)))))))], [(2, ⟨.store, [.ro .item vb2_0, .v (.int .i64 vb2_1)]⟩)], [(576, .live ⟨.str, .deep, 0, [], vr576⟩)]⟩)
            none)
          none)
        none)
      (k' .normal ⟨[(1, .c (.one (.ro .pick vs1))), (2, .c (.one (.pt 2 0))), (5, .c (.one (.h 576 0 0 []))), (6, .c (.one (.v (.int .i64 vs6)))), (7, .c (.one (.v (.bool false)))), (8, .c (.one (.v (.int .i64 (IntKind.wrap .i64 (vs8 + (1 : Int)))))))], [(2, ⟨.store, [.ro .item vb2_0, .v (.int .i64 vb2_1)]⟩)], [(576, .live ⟨.str, .deep, 0, [], vr576⟩)]⟩))
    (k' (.exit 2) ⟨[(1, .c (.one (.ro .pick vs1))), (2, .c (.one (.pt 2 0))), (5, .c (.one (.h 576 0 0 []))), (6, .c (.one (.v (.int .i64 vs6)))), (7, .c (.one (.v (.bool vs7)))), (8, .c (.one (.v (.int .i64 vs8)))), (20, .c (.one (.v (.bool (decide (vs8 < (vs1.length : Int)))))))], [(2, ⟨.store, [.ro .item vb2_0, .v (.int .i64 vb2_1)]⟩)], [(576, .live ⟨.str, .deep, 0, [], vr576⟩)]⟩)) := by kernel_rfl
theorem f24L0_eq {R : Type} (n : Nat) (k' : Ex → St → Option R) (vs1 : List PickT) (vs6 : Int) (vb2_0 : List ItemT) (vb2_1 : Int) (vr576 : List ByteArray) : ∀ (m : Nat) (vs7 : Bool) (vs8 : Int), iter (fun st k => ev f24e f24k n (cAt [1,1,0,1,0,0,1,0,0,1,0,1,0,0] f24c) st k) m ⟨[(1, .c (.one (.ro .pick vs1))), (2, .c (.one (.pt 2 0))), (5, .c (.one (.h 576 0 0 []))), (6, .c (.one (.v (.int .i64 vs6)))), (7, .c (.one (.v (.bool vs7)))), (8, .c (.one (.v (.int .i64 vs8))))], [(2, ⟨.store, [.ro .item vb2_0, .v (.int .i64 vb2_1)]⟩)], [(576, .live ⟨.str, .deep, 0, [], vr576⟩)]⟩ k' = f24L0 n (fun (xvs7 : Bool) (xvs8 : Int) (xvs20 : Bool) => k' (.exit 2) ⟨[(1, .c (.one (.ro .pick vs1))), (2, .c (.one (.pt 2 0))), (5, .c (.one (.h 576 0 0 []))), (6, .c (.one (.v (.int .i64 vs6)))), (7, .c (.one (.v (.bool xvs7)))), (8, .c (.one (.v (.int .i64 xvs8)))), (20, .c (.one (.v (.bool xvs20))))], [(2, ⟨.store, [.ro .item vb2_0, .v (.int .i64 vb2_1)]⟩)], [(576, .live ⟨.str, .deep, 0, [], vr576⟩)]⟩) vs1 vs6 vb2_0 vb2_1 vr576 m vs7 vs8 := by
  intro m; induction m with
  | zero => intros; rfl
  | succ m ih =>
    intro vs7 vs8
    simp only [iter]
    rw [f24L0_b]
    simp only [ih, f24L0]

noncomputable def f24K0 {R : Type} (n : Nat) (k' : Ex → St → Option R) : Ex → St → Option R := (blockK 2 (seqK f24e f24k n (cAt [1,1,0,1,0,0,1,0,0,1,1] f24c) (blockK 1 (seqK f24e f24k n (cAt [1,1,0,1,0,0,1,1] f24c) k'))))
theorem f24K0_x0 {R : Type} (n : Nat) (k' : Ex → St → Option R) (vs1 : List PickT) (vs6 : Int) (vb2_0 : List ItemT) (vb2_1 : Int) (vr576 : List ByteArray) (xvs7 : Bool) (xvs8 : Int) (xvs20 : Bool) : f24K0 n k' (.exit 2) ⟨[(1, .c (.one (.ro .pick vs1))), (2, .c (.one (.pt 2 0))), (5, .c (.one (.h 576 0 0 []))), (6, .c (.one (.v (.int .i64 vs6)))), (7, .c (.one (.v (.bool xvs7)))), (8, .c (.one (.v (.int .i64 xvs8)))), (20, .c (.one (.v (.bool xvs20))))], [(2, ⟨.store, [.ro .item vb2_0, .v (.int .i64 vb2_1)]⟩)], [(576, .live ⟨.str, .deep, 0, [], vr576⟩)]⟩ =
    (cond xvs7
    (cond ((decide ((0 : Int) ≤ vs6)) && (decide (vs6 < (vb2_0.length : Int))))
      (cond (Nat.ble (vr576.length + 1) LIM)
        (k' .normal ⟨[(1, .c (.one (.ro .pick vs1))), (2, .c (.one (.pt 2 0))), (5, .c (.one (.h 576 0 0 []))), (6, .c (.one (.v (.int .i64 (IntKind.wrap .i64 (vs6 + (1 : Int)))))))], [(2, ⟨.store, [.ro .item vb2_0, .v (.int .i64 vb2_1)]⟩)], [(576, .live ⟨.str, .deep, 0, [], (vr576 ++ ([(OrderT.name (ItemT.order (atI (t := .item) vb2_0 (Int.toNat vs6))))] : List ByteArray))⟩)]⟩)
        none)
      none)
    (k' .normal ⟨[(1, .c (.one (.ro .pick vs1))), (2, .c (.one (.pt 2 0))), (5, .c (.one (.h 576 0 0 []))), (6, .c (.one (.v (.int .i64 (IntKind.wrap .i64 (vs6 + (1 : Int)))))))], [(2, ⟨.store, [.ro .item vb2_0, .v (.int .i64 vb2_1)]⟩)], [(576, .live ⟨.str, .deep, 0, [], vr576⟩)]⟩)) := by kernel_rfl

noncomputable def f24L1 {R : Type} (n : Nat) (x0 : Int → Bool → (List ByteArray) → Option R) (vs1 : List PickT) (vb2_0 : List ItemT) (vb2_1 : Int) : Nat → Int → (List ByteArray) → Option R
  | 0, _, _ => none
  | m + 1, vs6, vr576 =>
    (cond (decide (vs6 < (vb2_0.length : Int)))
      (f24L0 n (fun (xvs7 : Bool) (xvs8 : Int) (xvs20 : Bool) =>
        (cond xvs7
          (cond ((decide ((0 : Int) ≤ vs6)) && (decide (vs6 < (vb2_0.length : Int))))
            (cond (Nat.ble (vr576.length + 1) LIM)
              (f24L1 n x0 vs1 vb2_0 vb2_1 m (IntKind.wrap .i64 (vs6 + (1 : Int))) (vr576 ++ ([(OrderT.name (ItemT.order (atI (t := .item) vb2_0 (Int.toNat vs6))))] : List ByteArray)))
              none)
            none)
          (f24L1 n x0 vs1 vb2_0 vb2_1 m (IntKind.wrap .i64 (vs6 + (1 : Int))) vr576))) vs1 vs6 vb2_0 vb2_1 vr576 n true (0 : Int))
      (x0 vs6 (decide (vs6 < (vb2_0.length : Int))) vr576))
theorem f24L1_b {R : Type} (n : Nat) (k' : Ex → St → Option R) (vs1 : List PickT) (vs6 : Int) (vb2_0 : List ItemT) (vb2_1 : Int) (vr576 : List ByteArray) : ev f24e f24k n (cAt [1,1,0,1,0,0] f24c) ⟨[(1, .c (.one (.ro .pick vs1))), (2, .c (.one (.pt 2 0))), (5, .c (.one (.h 576 0 0 []))), (6, .c (.one (.v (.int .i64 vs6))))], [(2, ⟨.store, [.ro .item vb2_0, .v (.int .i64 vb2_1)]⟩)], [(576, .live ⟨.str, .deep, 0, [], vr576⟩)]⟩ k' =
    (cond (decide (vs6 < (vb2_0.length : Int)))
    (f24L0 n (fun (xvs7 : Bool) (xvs8 : Int) (xvs20 : Bool) =>
      (cond xvs7
        (cond ((decide ((0 : Int) ≤ vs6)) && (decide (vs6 < (vb2_0.length : Int))))
          (cond (Nat.ble (vr576.length + 1) LIM)
            (k' .normal ⟨[(1, .c (.one (.ro .pick vs1))), (2, .c (.one (.pt 2 0))), (5, .c (.one (.h 576 0 0 []))), (6, .c (.one (.v (.int .i64 (IntKind.wrap .i64 (vs6 + (1 : Int)))))))], [(2, ⟨.store, [.ro .item vb2_0, .v (.int .i64 vb2_1)]⟩)], [(576, .live ⟨.str, .deep, 0, [], (vr576 ++ ([(OrderT.name (ItemT.order (atI (t := .item) vb2_0 (Int.toNat vs6))))] : List ByteArray))⟩)]⟩)
            none)
          none)
        (k' .normal ⟨[(1, .c (.one (.ro .pick vs1))), (2, .c (.one (.pt 2 0))), (5, .c (.one (.h 576 0 0 []))), (6, .c (.one (.v (.int .i64 (IntKind.wrap .i64 (vs6 + (1 : Int)))))))], [(2, ⟨.store, [.ro .item vb2_0, .v (.int .i64 vb2_1)]⟩)], [(576, .live ⟨.str, .deep, 0, [], vr576⟩)]⟩))) vs1 vs6 vb2_0 vb2_1 vr576 n true (0 : Int))
    (k' (.exit 0) ⟨[(1, .c (.one (.ro .pick vs1))), (2, .c (.one (.pt 2 0))), (5, .c (.one (.h 576 0 0 []))), (6, .c (.one (.v (.int .i64 vs6)))), (14, .c (.one (.v (.bool (decide (vs6 < (vb2_0.length : Int)))))))], [(2, ⟨.store, [.ro .item vb2_0, .v (.int .i64 vb2_1)]⟩)], [(576, .live ⟨.str, .deep, 0, [], vr576⟩)]⟩)) := by
  refine Eq.trans (b := (cond (decide (vs6 < (vb2_0.length : Int)))
    (iter (fun st k => ev f24e f24k n (cAt [1,1,0,1,0,0,1,0,0,1,0,1,0,0] f24c) st k) n ⟨[(1, .c (.one (.ro .pick vs1))), (2, .c (.one (.pt 2 0))), (5, .c (.one (.h 576 0 0 []))), (6, .c (.one (.v (.int .i64 vs6)))), (7, .c (.one (.v (.bool true)))), (8, .c (.one (.v (.int .i64 (0 : Int)))))], [(2, ⟨.store, [.ro .item vb2_0, .v (.int .i64 vb2_1)]⟩)], [(576, .live ⟨.str, .deep, 0, [], vr576⟩)]⟩ (f24K0 n k'))
    (k' (.exit 0) ⟨[(1, .c (.one (.ro .pick vs1))), (2, .c (.one (.pt 2 0))), (5, .c (.one (.h 576 0 0 []))), (6, .c (.one (.v (.int .i64 vs6)))), (14, .c (.one (.v (.bool (decide (vs6 < (vb2_0.length : Int)))))))], [(2, ⟨.store, [.ro .item vb2_0, .v (.int .i64 vb2_1)]⟩)], [(576, .live ⟨.str, .deep, 0, [], vr576⟩)]⟩))) (by kernel_rfl) ?_
  simp only [f24L0_eq, f24K0_x0]
theorem f24L1_eq {R : Type} (n : Nat) (k' : Ex → St → Option R) (vs1 : List PickT) (vb2_0 : List ItemT) (vb2_1 : Int) : ∀ (m : Nat) (vs6 : Int) (vr576 : List ByteArray), iter (fun st k => ev f24e f24k n (cAt [1,1,0,1,0,0] f24c) st k) m ⟨[(1, .c (.one (.ro .pick vs1))), (2, .c (.one (.pt 2 0))), (5, .c (.one (.h 576 0 0 []))), (6, .c (.one (.v (.int .i64 vs6))))], [(2, ⟨.store, [.ro .item vb2_0, .v (.int .i64 vb2_1)]⟩)], [(576, .live ⟨.str, .deep, 0, [], vr576⟩)]⟩ k' = f24L1 n (fun (xvs6 : Int) (xvs14 : Bool) (xvr576 : List ByteArray) => k' (.exit 0) ⟨[(1, .c (.one (.ro .pick vs1))), (2, .c (.one (.pt 2 0))), (5, .c (.one (.h 576 0 0 []))), (6, .c (.one (.v (.int .i64 xvs6)))), (14, .c (.one (.v (.bool xvs14))))], [(2, ⟨.store, [.ro .item vb2_0, .v (.int .i64 vb2_1)]⟩)], [(576, .live ⟨.str, .deep, 0, [], xvr576⟩)]⟩) vs1 vb2_0 vb2_1 m vs6 vr576 := by
  intro m; induction m with
  | zero => intros; rfl
  | succ m ih =>
    intro vs6 vr576
    simp only [iter]
    rw [f24L1_b]
    simp only [ih, f24L1]

noncomputable def f24K1 {R : Type} (n : Nat) (k' : Ex → St → Option R) : Ex → St → Option R := (blockK 0 (seqK f24e f24k n (cAt [1,1,1] f24c) k'))
theorem f24K1_x0 {R : Type} (n : Nat) (k : List Dt → Option R) (a0 : StoreT) (a1 : List PickT) (vs1 : List PickT) (vb2_0 : List ItemT) (vb2_1 : Int) (xvs6 : Int) (xvs14 : Bool) (xvr576 : List ByteArray) : f24K1 n (exitK f24e [.ro, .ro] [false] true [.tmp 4] [22] [.d .store a0, .d (.sl .pick) a1] k) (.exit 0) ⟨[(1, .c (.one (.ro .pick vs1))), (2, .c (.one (.pt 2 0))), (5, .c (.one (.h 576 0 0 []))), (6, .c (.one (.v (.int .i64 xvs6)))), (14, .c (.one (.v (.bool xvs14))))], [(2, ⟨.store, [.ro .item vb2_0, .v (.int .i64 vb2_1)]⟩)], [(576, .live ⟨.str, .deep, 0, [], xvr576⟩)]⟩ =
    (k [.d (.sl .str) xvr576]) := by kernel_rfl

theorem f24_run {R : Type} (n : Nat) (k : List Dt → Option R) (a0 : StoreT) (a1 : List PickT) : evFn f24e f24k n f24c [.ro, .ro] [false] true [.tmp 4] [22] [.d .store a0, .d (.sl .pick) a1] k =
    (f24L1 n (fun (xvs6 : Int) (xvs14 : Bool) (xvr576 : List ByteArray) =>
    (k [.d (.sl .str) xvr576])) a1 (StoreT.items a0) (StoreT.next a0) n (0 : Int) ([] : List ByteArray)) := by
  refine Eq.trans (b := (iter (fun st k => ev f24e f24k n (cAt [1,1,0,1,0,0] f24c) st k) n ⟨[(1, .c (.one (.ro .pick a1))), (2, .c (.one (.pt 2 0))), (5, .c (.one (.h 576 0 0 []))), (6, .c (.one (.v (.int .i64 (0 : Int)))))], [(2, ⟨.store, [.ro .item (StoreT.items a0), .v (.int .i64 (StoreT.next a0))]⟩)], [(576, .live ⟨.str, .deep, 0, [], ([] : List ByteArray)⟩)]⟩ (f24K1 n (exitK f24e [.ro, .ro] [false] true [.tmp 4] [22] [.d .store a0, .d (.sl .pick) a1] k)))) (by kernel_rfl) ?_
  simp only [f24L1_eq, f24K1_x0]
theorem f24_spec (a0 : StoreT) (a1 : List PickT) (hg : gChosen a0 a1 = true) : ∃ keep rounds, ∀ {R : Type} (k : List Dt → Option R), evFn f24e keep rounds f24c [.ro, .ro] [false] true [.tmp 4] [22] [.d .store a0, .d (.sl .pick) a1] k = k [.d (.sl .str) (chosen a0 a1)] := by
  simp only [gChosen, sm_store, Bool.and_eq_true] at hg
  obtain ⟨⟨hi, _⟩, hp⟩ := hg
  have hl := smL_len hi
  have hlp := smL_len hp
  have hpo : a1.all okPick = true := List.all_eq_true.2 fun p h => okPick_sm (List.all_eq_true.1 (smL_all hp) p h)
  have hgi : ∀ x ∈ a0.items, gFitsAll a1 x = true := by
    intro x hx
    have := List.all_eq_true.1 (smL_all hi) x hx
    simp only [sm_item, sm_order, Bool.and_eq_true] at this
    unfold gFitsAll
    rw [gLenW_sm hp, hpo, gLenW_sm this.1.2.2.2.2.2.2]; rfl
  refine ⟨f24k, a0.items.length + a1.length + 1, fun {R} k => ?_⟩
  rw [f24_run]
  generalize hX : (fun (xvs6 : Int) (xvs14 : Bool) (xvr576 : List ByteArray) => k [Dt.d (.sl .str) xvr576]) = X
  refine Eq.trans (loop_acc (xs := a0.items) (F := fun m j out => f24L1 (a0.items.length + a1.length + 1) X a1 a0.items a0.next m (j : Int) out) (f := chosenStep a1) (good := fun out => X (a0.items.length : Int) false out) (fun j out => out.length ≤ j)
    (fun j out x hx hi => ?_) (fun m j out x hx hi => ?_) (fun m out hi => by simp only [f24L1, idxE, cond_false]) a0.items.length 0 (a0.items.length + a1.length + 1) [] (by omega) (by omega) (by simp)) ?_
  · unfold chosenStep
    cases fitsNotAny a1 x
    · simp only [cond_false, List.length_append, List.length_cons, List.length_nil]; omega
    · simp only [cond_true]; omega
  · obtain ⟨h1, h0, hw, ht⟩ := idx (lt_of_get hx) (by omega)
    have hj := lt_of_get hx
    have hlim : Nat.ble (out.length + 1) LIM = true := Nat.ble_eq_true_of_le (by have : (LIM : Nat) = 4294967296 := rfl; omega)
    have hx2 := List.mem_of_getElem? hx
    have hno : gLenW x.order.notes = true := by
      have := hgi x hx2
      simp only [gFitsAll, Bool.and_eq_true] at this
      exact this.2.2
    simp only [f24L1, h1, h0, hw, ht, atI_of (t := .item) hx, Bool.and_self, cond_true, hlim]
    refine Eq.trans (loop_acc (xs := a1) (F := fun m2 j2 b => f24L0 (a0.items.length + a1.length + 1) _ a1 (j : Int) a0.items a0.next out m2 b (j2 : Int)) (f := fun b p => b && fits p x.order.notes)
      (good := fun b => cond b (f24L1 (a0.items.length + a1.length + 1) X a1 a0.items a0.next m (j + 1 : Nat) (out ++ [x.order.name])) (f24L1 (a0.items.length + a1.length + 1) X a1 a0.items a0.next m (j + 1 : Nat) out)) (fun _ _ => True)
      (fun _ _ _ _ _ => trivial) (fun m2 j2 b p hp2 _ => ?_) (fun m2 b _ => by simp only [f24L0, idxE, cond_false]) a1.length 0 (a0.items.length + a1.length + 1) true (by omega) (by omega) trivial) ?_
    · obtain ⟨g1, g0, gw, gt⟩ := idx (lt_of_get hp2) (by omega)
      have hgf : gFits p x.order.notes = true := by unfold gFits; rw [List.all_eq_true.1 hpo p (List.mem_of_getElem? hp2), hno]; rfl
      simp only [f24L0, g1, g0, gw, gt, h1, h0, ht, atI_of (t := .pick) hp2, atI_of (t := .item) hx, Bool.and_self, cond_true, hgf]
      cases b <;> rfl
    · rw [List.drop_zero, foldl_and, Bool.true_and]
      unfold chosenStep fitsNotAny
      rw [← any_not (fun p => fits p x.order.notes)]
      have e : (a1.any fun p => fitsNot p x) = a1.any fun p => !(fits p x.order.notes) := rfl
      rw [e]
      cases a1.any fun p => !(fits p x.order.notes) <;> rfl
  · rw [← hX]; rfl

noncomputable def q24 : List Dt → Option (Bool × List Dt)
  | [.d .store a0, .d (.sl .pick) a1] => some ((gChosen a0 a1), [.d (.sl .str) (chosen a0 a1)])
  | _ => none
noncomputable def s24 : Gm.Spec := Gm.Spec.of [.ro, .ro] [false] true q24
theorem good24 : Gm.Good Try.prog (24, s24) := by
  have hl : ∀ x ∈ [(16, s16)], Gm.Good Try.prog x := List.forall_mem_cons.2 ⟨good16, List.forall_mem_nil _⟩
  refine ⟨⟨spec_ok (tab_ok.env hl) (tab.natl hl) Try.func24 (by kernel_rfl : Try.f24.body = some f24c) [22] (by kernel_rfl) ?_, _, Try.func24, by kernel_rfl, of_decide_eq_true (by kernel_rfl)⟩, Gm.Spec.of_natl _ _ _ _⟩
  intro ds outs h
  unfold q24 at h
  split at h
  · simp only [Option.some.injEq, Prod.mk.injEq] at h; obtain ⟨hg, h⟩ := h; cases h; exact f24_spec _ _ hg
  · cases h
end Go.Proofs.Ytklmnopgogcbhaa

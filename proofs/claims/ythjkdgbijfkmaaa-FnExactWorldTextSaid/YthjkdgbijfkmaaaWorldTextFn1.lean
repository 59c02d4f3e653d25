/- What the functions compute, part 1. No conditions. -/
import Derived.Test.YthjkdgbijfkmaaaGm4
import Derived.Test.YthjkdgbijfkmaaaRows
import Derived.Ground.NamesProg
/- The table of types of the program, and that it is the program's. Printed by gev.py of this session. -/
namespace Go.Proofs.Ythjkdgbijfkmaaa
open Go Go.Gm
def tab : Tab := { code := [(2, (.i .i64)), (3, (.i .i64)), (4, .bool), (5, (.i .u8)), (6, (.i .u8)), (9, .str), (10, .str), (11, .str), (12, (.i .u64)), (21, (.i .i32)), (23, .answer), (26, .answer), (29, (.sl .rcd)), (31, .scale), (34, (.sl .rcd)), (36, .scale), (40, (.sl .metric)), (42, .pace), (43, (.sl .note)), (45, .order), (48, (.sl .metric)), (49, .pace), (50, (.sl .note)), (52, .order), (56, (.sl .item)), (58, .store), (59, (.sl .scale)), (60, (.sl .told)), (62, .world), (65, (.sl .item)), (67, .store), (68, (.sl .scale)), (69, (.sl .told)), (71, .world), (75, (.sl .str)), (81, .rcd), (87, .metric), (98, .item), (105, (.sl (.i .u8))), (108, .rcd), (111, .metric), (114, .note), (116, .note), (124, .told), (126, .told), (141, .item), (154, (.i .u32)), (155, (.i .u8)), (156, (.i .u8)), (158, (.i .i32)), (159, (.i .i32))], eqs := [], fld := [(23, [(0, 3), (1, 3), (2, 9)]), (26, [(0, 3), (1, 3), (2, 9)]), (31, [(0, 9), (1, 3), (2, 29)]), (36, [(0, 9), (1, 3), (2, 34)]), (42, [(0, 3), (1, 3), (2, 3), (3, 3)]), (45, [(0, 9), (1, 9), (2, 3), (3, 3), (4, 40), (5, 42), (9, 43)]), (49, [(0, 3), (1, 3), (2, 3), (3, 3)]), (52, [(0, 9), (1, 9), (2, 3), (3, 3), (4, 48), (5, 49), (9, 50)]), (58, [(0, 56), (1, 3)]), (62, [(0, 58), (2, 59), (3, 3), (4, 60)]), (67, [(0, 65), (1, 3)]), (71, [(0, 67), (2, 68), (3, 3), (4, 69)]), (81, [(0, 3), (1, 3)]), (87, [(0, 9), (1, 3), (2, 3)]), (98, [(0, 52), (10, 3)]), (108, [(0, 3), (1, 3)]), (111, [(0, 9), (1, 3), (2, 3)]), (114, [(0, 9), (1, 9)]), (116, [(0, 9), (1, 9)]), (124, [(0, 3), (1, 9), (2, 3)]), (126, [(0, 3), (1, 9), (2, 3)]), (141, [(0, 45), (10, 3)])] }
theorem und2 : UndOk (tab.env []) Try.prog 2 (.i .i64) := (by kernel_rfl : Try.prog.underlying 2 = some (.int .i64))
theorem und3 : UndOk (tab.env []) Try.prog 3 (.i .i64) := (by kernel_rfl : Try.prog.underlying 3 = some (.int .i64))
theorem und4 : UndOk (tab.env []) Try.prog 4 .bool := (by kernel_rfl : Try.prog.underlying 4 = some .bool)
theorem und5 : UndOk (tab.env []) Try.prog 5 (.i .u8) := (by kernel_rfl : Try.prog.underlying 5 = some (.int .u8))
theorem und6 : UndOk (tab.env []) Try.prog 6 (.i .u8) := (by kernel_rfl : Try.prog.underlying 6 = some (.int .u8))
theorem und9 : UndOk (tab.env []) Try.prog 9 .str := (by kernel_rfl : Try.prog.underlying 9 = some .string)
theorem und10 : UndOk (tab.env []) Try.prog 10 .str := (by kernel_rfl : Try.prog.underlying 10 = some .string)
theorem und11 : UndOk (tab.env []) Try.prog 11 .str := (by kernel_rfl : Try.prog.underlying 11 = some .string)
theorem und12 : UndOk (tab.env []) Try.prog 12 (.i .u64) := (by kernel_rfl : Try.prog.underlying 12 = some (.int .u64))
theorem und21 : UndOk (tab.env []) Try.prog 21 (.i .i32) := (by kernel_rfl : Try.prog.underlying 21 = some (.int .i32))
theorem und23 : UndOk (tab.env []) Try.prog 23 .answer := ⟨_, Try.underlying23⟩
theorem und26 : UndOk (tab.env []) Try.prog 26 .answer := ⟨_, Try.underlying26⟩
theorem und29 : UndOk (tab.env []) Try.prog 29 (.sl .rcd) := ⟨108, by kernel_rfl, by kernel_rfl⟩
theorem und31 : UndOk (tab.env []) Try.prog 31 .scale := ⟨_, Try.underlying31⟩
theorem und34 : UndOk (tab.env []) Try.prog 34 (.sl .rcd) := ⟨81, by kernel_rfl, by kernel_rfl⟩
theorem und36 : UndOk (tab.env []) Try.prog 36 .scale := ⟨_, Try.underlying36⟩
theorem und40 : UndOk (tab.env []) Try.prog 40 (.sl .metric) := ⟨111, by kernel_rfl, by kernel_rfl⟩
theorem und42 : UndOk (tab.env []) Try.prog 42 .pace := ⟨_, Try.underlying42⟩
theorem und43 : UndOk (tab.env []) Try.prog 43 (.sl .note) := ⟨114, by kernel_rfl, by kernel_rfl⟩
theorem und45 : UndOk (tab.env []) Try.prog 45 .order := ⟨_, Try.underlying45⟩
theorem und48 : UndOk (tab.env []) Try.prog 48 (.sl .metric) := ⟨87, by kernel_rfl, by kernel_rfl⟩
theorem und49 : UndOk (tab.env []) Try.prog 49 .pace := ⟨_, Try.underlying49⟩
theorem und50 : UndOk (tab.env []) Try.prog 50 (.sl .note) := ⟨116, by kernel_rfl, by kernel_rfl⟩
theorem und52 : UndOk (tab.env []) Try.prog 52 .order := ⟨_, Try.underlying52⟩
theorem und56 : UndOk (tab.env []) Try.prog 56 (.sl .item) := ⟨141, by kernel_rfl, by kernel_rfl⟩
theorem und58 : UndOk (tab.env []) Try.prog 58 .store := ⟨_, Try.underlying58⟩
theorem und59 : UndOk (tab.env []) Try.prog 59 (.sl .scale) := ⟨31, by kernel_rfl, by kernel_rfl⟩
theorem und60 : UndOk (tab.env []) Try.prog 60 (.sl .told) := ⟨124, by kernel_rfl, by kernel_rfl⟩
theorem und62 : UndOk (tab.env []) Try.prog 62 .world := ⟨_, Try.underlying62⟩
theorem und65 : UndOk (tab.env []) Try.prog 65 (.sl .item) := ⟨98, by kernel_rfl, by kernel_rfl⟩
theorem und67 : UndOk (tab.env []) Try.prog 67 .store := ⟨_, Try.underlying67⟩
theorem und68 : UndOk (tab.env []) Try.prog 68 (.sl .scale) := ⟨36, by kernel_rfl, by kernel_rfl⟩
theorem und69 : UndOk (tab.env []) Try.prog 69 (.sl .told) := ⟨126, by kernel_rfl, by kernel_rfl⟩
theorem und71 : UndOk (tab.env []) Try.prog 71 .world := ⟨_, Try.underlying71⟩
theorem und75 : UndOk (tab.env []) Try.prog 75 (.sl .str) := ⟨9, by kernel_rfl, by kernel_rfl⟩
theorem und81 : UndOk (tab.env []) Try.prog 81 .rcd := ⟨_, Try.underlying81⟩
theorem und87 : UndOk (tab.env []) Try.prog 87 .metric := ⟨_, Try.underlying87⟩
theorem und98 : UndOk (tab.env []) Try.prog 98 .item := ⟨_, Try.underlying98⟩
theorem und105 : UndOk (tab.env []) Try.prog 105 (.sl (.i .u8)) := ⟨5, by kernel_rfl, by kernel_rfl⟩
theorem und108 : UndOk (tab.env []) Try.prog 108 .rcd := ⟨_, Try.underlying108⟩
theorem und111 : UndOk (tab.env []) Try.prog 111 .metric := ⟨_, Try.underlying111⟩
theorem und114 : UndOk (tab.env []) Try.prog 114 .note := ⟨_, Try.underlying114⟩
theorem und116 : UndOk (tab.env []) Try.prog 116 .note := ⟨_, Try.underlying116⟩
theorem und124 : UndOk (tab.env []) Try.prog 124 .told := ⟨_, Try.underlying124⟩
theorem und126 : UndOk (tab.env []) Try.prog 126 .told := ⟨_, Try.underlying126⟩
theorem und141 : UndOk (tab.env []) Try.prog 141 .item := ⟨_, Try.underlying141⟩
theorem und154 : UndOk (tab.env []) Try.prog 154 (.i .u32) := (by kernel_rfl : Try.prog.underlying 154 = some (.int .u32))
theorem und155 : UndOk (tab.env []) Try.prog 155 (.i .u8) := (by kernel_rfl : Try.prog.underlying 155 = some (.int .u8))
theorem und156 : UndOk (tab.env []) Try.prog 156 (.i .u8) := (by kernel_rfl : Try.prog.underlying 156 = some (.int .u8))
theorem und158 : UndOk (tab.env []) Try.prog 158 (.i .i32) := (by kernel_rfl : Try.prog.underlying 158 = some (.int .i32))
theorem und159 : UndOk (tab.env []) Try.prog 159 (.i .i32) := (by kernel_rfl : Try.prog.underlying 159 = some (.int .i32))
theorem fld23 : ∃ fs : Array Field, Try.prog.underlying 23 = some (.struct fs) ∧ [(0, 3), (1, 3), (2, 9)] = fs.toList.map (fun f => (f.offset, f.type)) ∧ (∀ y ∈ ([(0, 3), (1, 3), (2, 9)] : List (Nat × Nat)), (aget tab.code y.2).isSome) ∧ (fs.toList.mapM (fun f => (Try.prog.info? f.type).map fun i => (f.offset, i.size))).isSome :=
  ⟨_, Try.underlying23, by kernel_rfl, List.all_eq_true.1 (by kernel_rfl), by kernel_rfl⟩
theorem fld26 : ∃ fs : Array Field, Try.prog.underlying 26 = some (.struct fs) ∧ [(0, 3), (1, 3), (2, 9)] = fs.toList.map (fun f => (f.offset, f.type)) ∧ (∀ y ∈ ([(0, 3), (1, 3), (2, 9)] : List (Nat × Nat)), (aget tab.code y.2).isSome) ∧ (fs.toList.mapM (fun f => (Try.prog.info? f.type).map fun i => (f.offset, i.size))).isSome :=
  ⟨_, Try.underlying26, by kernel_rfl, List.all_eq_true.1 (by kernel_rfl), by kernel_rfl⟩
theorem fld31 : ∃ fs : Array Field, Try.prog.underlying 31 = some (.struct fs) ∧ [(0, 9), (1, 3), (2, 29)] = fs.toList.map (fun f => (f.offset, f.type)) ∧ (∀ y ∈ ([(0, 9), (1, 3), (2, 29)] : List (Nat × Nat)), (aget tab.code y.2).isSome) ∧ (fs.toList.mapM (fun f => (Try.prog.info? f.type).map fun i => (f.offset, i.size))).isSome :=
  ⟨_, Try.underlying31, by kernel_rfl, List.all_eq_true.1 (by kernel_rfl), by kernel_rfl⟩
theorem fld36 : ∃ fs : Array Field, Try.prog.underlying 36 = some (.struct fs) ∧ [(0, 9), (1, 3), (2, 34)] = fs.toList.map (fun f => (f.offset, f.type)) ∧ (∀ y ∈ ([(0, 9), (1, 3), (2, 34)] : List (Nat × Nat)), (aget tab.code y.2).isSome) ∧ (fs.toList.mapM (fun f => (Try.prog.info? f.type).map fun i => (f.offset, i.size))).isSome :=
  ⟨_, Try.underlying36, by kernel_rfl, List.all_eq_true.1 (by kernel_rfl), by kernel_rfl⟩
theorem fld42 : ∃ fs : Array Field, Try.prog.underlying 42 = some (.struct fs) ∧ [(0, 3), (1, 3), (2, 3), (3, 3)] = fs.toList.map (fun f => (f.offset, f.type)) ∧ (∀ y ∈ ([(0, 3), (1, 3), (2, 3), (3, 3)] : List (Nat × Nat)), (aget tab.code y.2).isSome) ∧ (fs.toList.mapM (fun f => (Try.prog.info? f.type).map fun i => (f.offset, i.size))).isSome :=
  ⟨_, Try.underlying42, by kernel_rfl, List.all_eq_true.1 (by kernel_rfl), by kernel_rfl⟩
theorem fld45 : ∃ fs : Array Field, Try.prog.underlying 45 = some (.struct fs) ∧ [(0, 9), (1, 9), (2, 3), (3, 3), (4, 40), (5, 42), (9, 43)] = fs.toList.map (fun f => (f.offset, f.type)) ∧ (∀ y ∈ ([(0, 9), (1, 9), (2, 3), (3, 3), (4, 40), (5, 42), (9, 43)] : List (Nat × Nat)), (aget tab.code y.2).isSome) ∧ (fs.toList.mapM (fun f => (Try.prog.info? f.type).map fun i => (f.offset, i.size))).isSome :=
  ⟨_, Try.underlying45, by kernel_rfl, List.all_eq_true.1 (by kernel_rfl), by kernel_rfl⟩
theorem fld49 : ∃ fs : Array Field, Try.prog.underlying 49 = some (.struct fs) ∧ [(0, 3), (1, 3), (2, 3), (3, 3)] = fs.toList.map (fun f => (f.offset, f.type)) ∧ (∀ y ∈ ([(0, 3), (1, 3), (2, 3), (3, 3)] : List (Nat × Nat)), (aget tab.code y.2).isSome) ∧ (fs.toList.mapM (fun f => (Try.prog.info? f.type).map fun i => (f.offset, i.size))).isSome :=
  ⟨_, Try.underlying49, by kernel_rfl, List.all_eq_true.1 (by kernel_rfl), by kernel_rfl⟩
theorem fld52 : ∃ fs : Array Field, Try.prog.underlying 52 = some (.struct fs) ∧ [(0, 9), (1, 9), (2, 3), (3, 3), (4, 48), (5, 49), (9, 50)] = fs.toList.map (fun f => (f.offset, f.type)) ∧ (∀ y ∈ ([(0, 9), (1, 9), (2, 3), (3, 3), (4, 48), (5, 49), (9, 50)] : List (Nat × Nat)), (aget tab.code y.2).isSome) ∧ (fs.toList.mapM (fun f => (Try.prog.info? f.type).map fun i => (f.offset, i.size))).isSome :=
  ⟨_, Try.underlying52, by kernel_rfl, List.all_eq_true.1 (by kernel_rfl), by kernel_rfl⟩
theorem fld58 : ∃ fs : Array Field, Try.prog.underlying 58 = some (.struct fs) ∧ [(0, 56), (1, 3)] = fs.toList.map (fun f => (f.offset, f.type)) ∧ (∀ y ∈ ([(0, 56), (1, 3)] : List (Nat × Nat)), (aget tab.code y.2).isSome) ∧ (fs.toList.mapM (fun f => (Try.prog.info? f.type).map fun i => (f.offset, i.size))).isSome :=
  ⟨_, Try.underlying58, by kernel_rfl, List.all_eq_true.1 (by kernel_rfl), by kernel_rfl⟩
theorem fld62 : ∃ fs : Array Field, Try.prog.underlying 62 = some (.struct fs) ∧ [(0, 58), (2, 59), (3, 3), (4, 60)] = fs.toList.map (fun f => (f.offset, f.type)) ∧ (∀ y ∈ ([(0, 58), (2, 59), (3, 3), (4, 60)] : List (Nat × Nat)), (aget tab.code y.2).isSome) ∧ (fs.toList.mapM (fun f => (Try.prog.info? f.type).map fun i => (f.offset, i.size))).isSome :=
  ⟨_, Try.underlying62, by kernel_rfl, List.all_eq_true.1 (by kernel_rfl), by kernel_rfl⟩
theorem fld67 : ∃ fs : Array Field, Try.prog.underlying 67 = some (.struct fs) ∧ [(0, 65), (1, 3)] = fs.toList.map (fun f => (f.offset, f.type)) ∧ (∀ y ∈ ([(0, 65), (1, 3)] : List (Nat × Nat)), (aget tab.code y.2).isSome) ∧ (fs.toList.mapM (fun f => (Try.prog.info? f.type).map fun i => (f.offset, i.size))).isSome :=
  ⟨_, Try.underlying67, by kernel_rfl, List.all_eq_true.1 (by kernel_rfl), by kernel_rfl⟩
theorem fld71 : ∃ fs : Array Field, Try.prog.underlying 71 = some (.struct fs) ∧ [(0, 67), (2, 68), (3, 3), (4, 69)] = fs.toList.map (fun f => (f.offset, f.type)) ∧ (∀ y ∈ ([(0, 67), (2, 68), (3, 3), (4, 69)] : List (Nat × Nat)), (aget tab.code y.2).isSome) ∧ (fs.toList.mapM (fun f => (Try.prog.info? f.type).map fun i => (f.offset, i.size))).isSome :=
  ⟨_, Try.underlying71, by kernel_rfl, List.all_eq_true.1 (by kernel_rfl), by kernel_rfl⟩
theorem fld81 : ∃ fs : Array Field, Try.prog.underlying 81 = some (.struct fs) ∧ [(0, 3), (1, 3)] = fs.toList.map (fun f => (f.offset, f.type)) ∧ (∀ y ∈ ([(0, 3), (1, 3)] : List (Nat × Nat)), (aget tab.code y.2).isSome) ∧ (fs.toList.mapM (fun f => (Try.prog.info? f.type).map fun i => (f.offset, i.size))).isSome :=
  ⟨_, Try.underlying81, by kernel_rfl, List.all_eq_true.1 (by kernel_rfl), by kernel_rfl⟩
theorem fld87 : ∃ fs : Array Field, Try.prog.underlying 87 = some (.struct fs) ∧ [(0, 9), (1, 3), (2, 3)] = fs.toList.map (fun f => (f.offset, f.type)) ∧ (∀ y ∈ ([(0, 9), (1, 3), (2, 3)] : List (Nat × Nat)), (aget tab.code y.2).isSome) ∧ (fs.toList.mapM (fun f => (Try.prog.info? f.type).map fun i => (f.offset, i.size))).isSome :=
  ⟨_, Try.underlying87, by kernel_rfl, List.all_eq_true.1 (by kernel_rfl), by kernel_rfl⟩
theorem fld98 : ∃ fs : Array Field, Try.prog.underlying 98 = some (.struct fs) ∧ [(0, 52), (10, 3)] = fs.toList.map (fun f => (f.offset, f.type)) ∧ (∀ y ∈ ([(0, 52), (10, 3)] : List (Nat × Nat)), (aget tab.code y.2).isSome) ∧ (fs.toList.mapM (fun f => (Try.prog.info? f.type).map fun i => (f.offset, i.size))).isSome :=
  ⟨_, Try.underlying98, by kernel_rfl, List.all_eq_true.1 (by kernel_rfl), by kernel_rfl⟩
theorem fld108 : ∃ fs : Array Field, Try.prog.underlying 108 = some (.struct fs) ∧ [(0, 3), (1, 3)] = fs.toList.map (fun f => (f.offset, f.type)) ∧ (∀ y ∈ ([(0, 3), (1, 3)] : List (Nat × Nat)), (aget tab.code y.2).isSome) ∧ (fs.toList.mapM (fun f => (Try.prog.info? f.type).map fun i => (f.offset, i.size))).isSome :=
  ⟨_, Try.underlying108, by kernel_rfl, List.all_eq_true.1 (by kernel_rfl), by kernel_rfl⟩
theorem fld111 : ∃ fs : Array Field, Try.prog.underlying 111 = some (.struct fs) ∧ [(0, 9), (1, 3), (2, 3)] = fs.toList.map (fun f => (f.offset, f.type)) ∧ (∀ y ∈ ([(0, 9), (1, 3), (2, 3)] : List (Nat × Nat)), (aget tab.code y.2).isSome) ∧ (fs.toList.mapM (fun f => (Try.prog.info? f.type).map fun i => (f.offset, i.size))).isSome :=
  ⟨_, Try.underlying111, by kernel_rfl, List.all_eq_true.1 (by kernel_rfl), by kernel_rfl⟩
theorem fld114 : ∃ fs : Array Field, Try.prog.underlying 114 = some (.struct fs) ∧ [(0, 9), (1, 9)] = fs.toList.map (fun f => (f.offset, f.type)) ∧ (∀ y ∈ ([(0, 9), (1, 9)] : List (Nat × Nat)), (aget tab.code y.2).isSome) ∧ (fs.toList.mapM (fun f => (Try.prog.info? f.type).map fun i => (f.offset, i.size))).isSome :=
  ⟨_, Try.underlying114, by kernel_rfl, List.all_eq_true.1 (by kernel_rfl), by kernel_rfl⟩
theorem fld116 : ∃ fs : Array Field, Try.prog.underlying 116 = some (.struct fs) ∧ [(0, 9), (1, 9)] = fs.toList.map (fun f => (f.offset, f.type)) ∧ (∀ y ∈ ([(0, 9), (1, 9)] : List (Nat × Nat)), (aget tab.code y.2).isSome) ∧ (fs.toList.mapM (fun f => (Try.prog.info? f.type).map fun i => (f.offset, i.size))).isSome :=
  ⟨_, Try.underlying116, by kernel_rfl, List.all_eq_true.1 (by kernel_rfl), by kernel_rfl⟩
theorem fld124 : ∃ fs : Array Field, Try.prog.underlying 124 = some (.struct fs) ∧ [(0, 3), (1, 9), (2, 3)] = fs.toList.map (fun f => (f.offset, f.type)) ∧ (∀ y ∈ ([(0, 3), (1, 9), (2, 3)] : List (Nat × Nat)), (aget tab.code y.2).isSome) ∧ (fs.toList.mapM (fun f => (Try.prog.info? f.type).map fun i => (f.offset, i.size))).isSome :=
  ⟨_, Try.underlying124, by kernel_rfl, List.all_eq_true.1 (by kernel_rfl), by kernel_rfl⟩
theorem fld126 : ∃ fs : Array Field, Try.prog.underlying 126 = some (.struct fs) ∧ [(0, 3), (1, 9), (2, 3)] = fs.toList.map (fun f => (f.offset, f.type)) ∧ (∀ y ∈ ([(0, 3), (1, 9), (2, 3)] : List (Nat × Nat)), (aget tab.code y.2).isSome) ∧ (fs.toList.mapM (fun f => (Try.prog.info? f.type).map fun i => (f.offset, i.size))).isSome :=
  ⟨_, Try.underlying126, by kernel_rfl, List.all_eq_true.1 (by kernel_rfl), by kernel_rfl⟩
theorem fld141 : ∃ fs : Array Field, Try.prog.underlying 141 = some (.struct fs) ∧ [(0, 45), (10, 3)] = fs.toList.map (fun f => (f.offset, f.type)) ∧ (∀ y ∈ ([(0, 45), (10, 3)] : List (Nat × Nat)), (aget tab.code y.2).isSome) ∧ (fs.toList.mapM (fun f => (Try.prog.info? f.type).map fun i => (f.offset, i.size))).isSome :=
  ⟨_, Try.underlying141, by kernel_rfl, List.all_eq_true.1 (by kernel_rfl), by kernel_rfl⟩
theorem tab_ok : tab.Ok Try.prog := {
  info := infoChk_ok (by kernel_rfl)
  und := List.forall_mem_cons.2 ⟨und2, List.forall_mem_cons.2 ⟨und3, List.forall_mem_cons.2 ⟨und4, List.forall_mem_cons.2 ⟨und5, List.forall_mem_cons.2 ⟨und6, List.forall_mem_cons.2 ⟨und9, List.forall_mem_cons.2 ⟨und10, List.forall_mem_cons.2 ⟨und11, List.forall_mem_cons.2 ⟨und12, List.forall_mem_cons.2 ⟨und21, List.forall_mem_cons.2 ⟨und23, List.forall_mem_cons.2 ⟨und26, List.forall_mem_cons.2 ⟨und29, List.forall_mem_cons.2 ⟨und31, List.forall_mem_cons.2 ⟨und34, List.forall_mem_cons.2 ⟨und36, List.forall_mem_cons.2 ⟨und40, List.forall_mem_cons.2 ⟨und42, List.forall_mem_cons.2 ⟨und43, List.forall_mem_cons.2 ⟨und45, List.forall_mem_cons.2 ⟨und48, List.forall_mem_cons.2 ⟨und49, List.forall_mem_cons.2 ⟨und50, List.forall_mem_cons.2 ⟨und52, List.forall_mem_cons.2 ⟨und56, List.forall_mem_cons.2 ⟨und58, List.forall_mem_cons.2 ⟨und59, List.forall_mem_cons.2 ⟨und60, List.forall_mem_cons.2 ⟨und62, List.forall_mem_cons.2 ⟨und65, List.forall_mem_cons.2 ⟨und67, List.forall_mem_cons.2 ⟨und68, List.forall_mem_cons.2 ⟨und69, List.forall_mem_cons.2 ⟨und71, List.forall_mem_cons.2 ⟨und75, List.forall_mem_cons.2 ⟨und81, List.forall_mem_cons.2 ⟨und87, List.forall_mem_cons.2 ⟨und98, List.forall_mem_cons.2 ⟨und105, List.forall_mem_cons.2 ⟨und108, List.forall_mem_cons.2 ⟨und111, List.forall_mem_cons.2 ⟨und114, List.forall_mem_cons.2 ⟨und116, List.forall_mem_cons.2 ⟨und124, List.forall_mem_cons.2 ⟨und126, List.forall_mem_cons.2 ⟨und141, List.forall_mem_cons.2 ⟨und154, List.forall_mem_cons.2 ⟨und155, List.forall_mem_cons.2 ⟨und156, List.forall_mem_cons.2 ⟨und158, List.forall_mem_cons.2 ⟨und159, List.forall_mem_nil _⟩⟩⟩⟩⟩⟩⟩⟩⟩⟩⟩⟩⟩⟩⟩⟩⟩⟩⟩⟩⟩⟩⟩⟩⟩⟩⟩⟩⟩⟩⟩⟩⟩⟩⟩⟩⟩⟩⟩⟩⟩⟩⟩⟩⟩⟩⟩⟩⟩⟩⟩
  fld := List.forall_mem_cons.2 ⟨fld23, List.forall_mem_cons.2 ⟨fld26, List.forall_mem_cons.2 ⟨fld31, List.forall_mem_cons.2 ⟨fld36, List.forall_mem_cons.2 ⟨fld42, List.forall_mem_cons.2 ⟨fld45, List.forall_mem_cons.2 ⟨fld49, List.forall_mem_cons.2 ⟨fld52, List.forall_mem_cons.2 ⟨fld58, List.forall_mem_cons.2 ⟨fld62, List.forall_mem_cons.2 ⟨fld67, List.forall_mem_cons.2 ⟨fld71, List.forall_mem_cons.2 ⟨fld81, List.forall_mem_cons.2 ⟨fld87, List.forall_mem_cons.2 ⟨fld98, List.forall_mem_cons.2 ⟨fld108, List.forall_mem_cons.2 ⟨fld111, List.forall_mem_cons.2 ⟨fld114, List.forall_mem_cons.2 ⟨fld116, List.forall_mem_cons.2 ⟨fld124, List.forall_mem_cons.2 ⟨fld126, List.forall_mem_cons.2 ⟨fld141, List.forall_mem_nil _⟩⟩⟩⟩⟩⟩⟩⟩⟩⟩⟩⟩⟩⟩⟩⟩⟩⟩⟩⟩⟩⟩
  sts := List.forall_mem_cons.2 ⟨fun h => by first | (cases h; done) | (simp; done), List.forall_mem_cons.2 ⟨fun h => by first | (cases h; done) | (simp; done), List.forall_mem_cons.2 ⟨fun h => by first | (cases h; done) | (simp; done), List.forall_mem_cons.2 ⟨fun h => by first | (cases h; done) | (simp; done), List.forall_mem_cons.2 ⟨fun h => by first | (cases h; done) | (simp; done), List.forall_mem_cons.2 ⟨fun h => by first | (cases h; done) | (simp; done), List.forall_mem_cons.2 ⟨fun h => by first | (cases h; done) | (simp; done), List.forall_mem_cons.2 ⟨fun h => by first | (cases h; done) | (simp; done), List.forall_mem_cons.2 ⟨fun h => by first | (cases h; done) | (simp; done), List.forall_mem_cons.2 ⟨fun h => by first | (cases h; done) | (simp; done), List.forall_mem_cons.2 ⟨fun _ => by simp [tab], List.forall_mem_cons.2 ⟨fun _ => by simp [tab], List.forall_mem_cons.2 ⟨fun h => by first | (cases h; done) | (simp; done), List.forall_mem_cons.2 ⟨fun _ => by simp [tab], List.forall_mem_cons.2 ⟨fun h => by first | (cases h; done) | (simp; done), List.forall_mem_cons.2 ⟨fun _ => by simp [tab], List.forall_mem_cons.2 ⟨fun h => by first | (cases h; done) | (simp; done), List.forall_mem_cons.2 ⟨fun _ => by simp [tab], List.forall_mem_cons.2 ⟨fun h => by first | (cases h; done) | (simp; done), List.forall_mem_cons.2 ⟨fun _ => by simp [tab], List.forall_mem_cons.2 ⟨fun h => by first | (cases h; done) | (simp; done), List.forall_mem_cons.2 ⟨fun _ => by simp [tab], List.forall_mem_cons.2 ⟨fun h => by first | (cases h; done) | (simp; done), List.forall_mem_cons.2 ⟨fun _ => by simp [tab], List.forall_mem_cons.2 ⟨fun h => by first | (cases h; done) | (simp; done), List.forall_mem_cons.2 ⟨fun _ => by simp [tab], List.forall_mem_cons.2 ⟨fun h => by first | (cases h; done) | (simp; done), List.forall_mem_cons.2 ⟨fun h => by first | (cases h; done) | (simp; done), List.forall_mem_cons.2 ⟨fun _ => by simp [tab], List.forall_mem_cons.2 ⟨fun h => by first | (cases h; done) | (simp; done), List.forall_mem_cons.2 ⟨fun _ => by simp [tab], List.forall_mem_cons.2 ⟨fun h => by first | (cases h; done) | (simp; done), List.forall_mem_cons.2 ⟨fun h => by first | (cases h; done) | (simp; done), List.forall_mem_cons.2 ⟨fun _ => by simp [tab], List.forall_mem_cons.2 ⟨fun h => by first | (cases h; done) | (simp; done), List.forall_mem_cons.2 ⟨fun _ => by simp [tab], List.forall_mem_cons.2 ⟨fun _ => by simp [tab], List.forall_mem_cons.2 ⟨fun _ => by simp [tab], List.forall_mem_cons.2 ⟨fun h => by first | (cases h; done) | (simp; done), List.forall_mem_cons.2 ⟨fun _ => by simp [tab], List.forall_mem_cons.2 ⟨fun _ => by simp [tab], List.forall_mem_cons.2 ⟨fun _ => by simp [tab], List.forall_mem_cons.2 ⟨fun _ => by simp [tab], List.forall_mem_cons.2 ⟨fun _ => by simp [tab], List.forall_mem_cons.2 ⟨fun _ => by simp [tab], List.forall_mem_cons.2 ⟨fun _ => by simp [tab], List.forall_mem_cons.2 ⟨fun h => by first | (cases h; done) | (simp; done), List.forall_mem_cons.2 ⟨fun h => by first | (cases h; done) | (simp; done), List.forall_mem_cons.2 ⟨fun h => by first | (cases h; done) | (simp; done), List.forall_mem_cons.2 ⟨fun h => by first | (cases h; done) | (simp; done), List.forall_mem_cons.2 ⟨fun h => by first | (cases h; done) | (simp; done), List.forall_mem_nil _⟩⟩⟩⟩⟩⟩⟩⟩⟩⟩⟩⟩⟩⟩⟩⟩⟩⟩⟩⟩⟩⟩⟩⟩⟩⟩⟩⟩⟩⟩⟩⟩⟩⟩⟩⟩⟩⟩⟩⟩⟩⟩⟩⟩⟩⟩⟩⟩⟩⟩⟩
  eqs := List.forall_mem_nil _
  ord := by kernel_rfl }
end Go.Proofs.Ythjkdgbijfkmaaa

/- x -/
namespace Go.Proofs
open Go.Shelf Go.RowKit
def Try.laysJoin_ren : Go.Shelf.Ren := ⟨fun | 156 => 55 | 165 => 71 | 166 => 72 | 169 => 73 | 240 => 77 | 241 => 78 | 276 => 79 | 277 => 80 | n => n, fun | 31 => 75 | 9 => 9 | 3 => 3 | 4 => 4 | 0 => 0 | 20 => 20 | 72 => 132 | 76 => 136 | 70 => 130 | 37 => 105 | 75 => 135 | 127 => 144 | 164 => 145 | 5 => 5 | 80 => 138 | n => n, fun | n => n⟩
theorem Try.laysJoin : Go.Proofs.Lays.n156 Try.prog Try.laysJoin_ren := {
  mixed := by kernel_rfl
  f156 := Try.func55.trans (congrArg some (by kernel_rfl))
  f165 := Try.func71.trans (congrArg some (by kernel_rfl))
  f166 := Try.func72.trans (congrArg some (by kernel_rfl))
  f169 := Try.func73.trans (congrArg some (by kernel_rfl))
  f240 := Try.func77.trans (congrArg some (by kernel_rfl))
  f241 := Try.func78.trans (congrArg some (by kernel_rfl))
  f276 := Try.func79.trans (congrArg some (by kernel_rfl))
  f277 := Try.func80.trans (congrArg some (by kernel_rfl))
  t0 := Try.underlying0
  a0 := Try.isAgg0
  z0 := Try.sizeOf0
  v0 := Try.zeroValue0
  t3 := Try.underlying3
  a3 := Try.isAgg3
  z3 := Try.sizeOf3
  v3 := Try.zeroValue3
  t4 := Try.underlying4
  a4 := Try.isAgg4
  z4 := Try.sizeOf4
  v4 := Try.zeroValue4
  t9 := Try.underlying9
  a9 := Try.isAgg9
  z9 := Try.sizeOf9
  v9 := Try.zeroValue9
  t20 := Try.underlying20
  a20 := Try.isAgg20
  z20 := Try.sizeOf20
  v20 := Try.zeroValue20
  t31 := Try.underlying75
  a31 := Try.isAgg75
  z31 := Try.sizeOf75
  v31 := Try.zeroValue75
  t37 := Try.underlying105
  a37 := Try.isAgg105
  z37 := Try.sizeOf105
  v37 := Try.zeroValue105
  t70 := Try.underlying130
  a70 := Try.isAgg130
  z70 := Try.sizeOf130
  v70 := Try.zeroValue130
  t72 := Try.underlying132
  a72 := Try.isAgg132
  z72 := Try.sizeOf132
  v72 := Try.zeroValue132
  t75 := Try.underlying135
  a75 := Try.isAgg135
  z75 := Try.sizeOf135
  v75 := Try.zeroValue135
  t76 := Try.underlying136
  a76 := Try.isAgg136
  z76 := Try.sizeOf136
  v76 := Try.zeroValue136
  t127 := Try.underlying144
  a127 := Try.isAgg144
  z127 := Try.sizeOf144
  v127 := Try.zeroValue144
  t164 := Try.underlying145
  a164 := Try.isAgg145
  z164 := Try.sizeOf145
  v164 := Try.zeroValue145 }

theorem Try.extra : Builder.Extra Try.prog Try.laysJoin_ren := {
  sizeBuilder := by kernel_rfl
  liesBuilder := by kernel_rfl
  t5 := Try.underlying5
  a5 := Try.isAgg5
  z5 := Try.sizeOf5
  v5 := Try.zeroValue5
  infoByte := by kernel_rfl
  cellsByte := by kernel_rfl
  sizeByte := by kernel_rfl
  neB5 := by decide }
end Go.Proofs
namespace Go.Proofs.Ythjkdgbijfkmaaa
open Go Go.Gm Go.RowKit
noncomputable def q55 : List Dt → Option (Bool × List Dt)
  | [.d (.sl .str) a0, .d .str a1] => some (gJoinW a0 a1, [.d .str (joinS a0 a1)])
  | _ => none
noncomputable def s55 : Gm.Spec := Gm.Spec.of [.ro, .ro] [false] true q55
theorem good55 : Gm.Good Try.prog (55, s55) := by
  refine ⟨⟨spec_grow rfl ?_, _, Try.func55, by kernel_rfl, of_decide_eq_true (by kernel_rfl)⟩, Gm.Spec.of_natl _ _ _ _⟩
  intro ds outs h
  unfold q55 at h
  split at h
  · rename_i a0 a1
    simp only [Option.some.injEq, Prod.mk.injEq] at h
    obtain ⟨hg, h⟩ := h
    cases h
    refine ⟨_, _, .string (joinS a0 a1), rfl, rfl, rfl, rfl, fun w us ROa Fs hA hlt => ?_⟩
    cases hA with
    | cons h1 hA =>
      cases hA with
      | cons h2 hA =>
        cases hA
        have e2 := valRd_v (t := .str) (v := .string a1) rfl rfl h2
        subst e2
        have hlen := gJoinW_len hg
        rcases rdStrs h1 hlt with ⟨rfl, a, c, rfl⟩ | ⟨b, o, c, rfl, hc, hb, hcell⟩
        · refine Calls.mono (Go.Proofs.Any.strings_Join_none Go.Proofs.Try.laysJoin Go.Proofs.Try.extra a c a1 w) ?_
          rintro e w' ⟨rfl, rfl⟩
          exact ⟨rfl, Below.refl _ _⟩
        · have hN : a0.length ≤ 140737488355328 := by
            simp only [gJoinW, Bool.and_eq_true] at hg
            have := bleN hg.1
            have := szL_ge ByteArray.size a0
            omega
          exact Go.Proofs.Any.strings_Join Go.Proofs.Try.laysJoin Go.Proofs.Try.extra b o c a0 a1 w hcell hb hN hc hlen
  · cases h
end Go.Proofs.Ythjkdgbijfkmaaa

/- x -/
namespace Go.Proofs.Ythjkdgbijfkmaaa
open Go Go.Gm
/-! ### loop.example/g00465/spec.l1In -/
noncomputable def f26c : Code := (Try.f26.body).getD .skip
def f26k : Nat → Kp := kat [⟨[0, 1, 2], []⟩, ⟨[6], []⟩]
noncomputable def f26e : Env := tab.env []
theorem f26_run {R : Type} (n : Nat) (k : List Dt → Option R) (a0 : Int) (a1 : Int) (a2 : Int) : evFn f26e f26k n f26c [.ro, .ro, .ro] [false] true [.tmp 6] [4] [.d (.i .i64) a0, .d (.i .i64) a1, .d (.i .i64) a2] k =
    (cond (decide (a0 ≥ a1))
    (k [.d .bool (decide (a0 ≤ a2))])
    (k [.d .bool false])) := by kernel_rfl
theorem f26_spec (a0 : Int) (a1 : Int) (a2 : Int) : ∃ keep rounds, ∀ {R : Type} (k : List Dt → Option R), evFn f26e keep rounds f26c [.ro, .ro, .ro] [false] true [.tmp 6] [4] [.d (.i .i64) a0, .d (.i .i64) a1, .d (.i .i64) a2] k = k [.d .bool (inR a0 a1 a2)] := by
  refine ⟨f26k, 0, fun k => ?_⟩
  rw [f26_run]; unfold inR
  cases decide (a0 ≥ a1) <;> rfl

noncomputable def q26 : List Dt → Option (Bool × List Dt)
  | [.d (.i .i64) a0, .d (.i .i64) a1, .d (.i .i64) a2] => some (true, [.d .bool (inR a0 a1 a2)])
  | _ => none
noncomputable def s26 : Gm.Spec := Gm.Spec.of [.ro, .ro, .ro] [false] true q26
theorem good26 : Gm.Good Try.prog (26, s26) := by
  have hl : ∀ x ∈ ([] : List (Nat × Gm.Spec)), Gm.Good Try.prog x := fun _ h => by cases h
  refine ⟨⟨spec_ok (tab_ok.env hl) (tab.natl hl) Try.func26 (by kernel_rfl : Try.f26.body = some f26c) [4] (by kernel_rfl) ?_, _, Try.func26, by kernel_rfl, of_decide_eq_true (by kernel_rfl)⟩, Gm.Spec.of_natl _ _ _ _⟩
  intro ds outs h
  unfold q26 at h
  split at h
  · cases h; exact f26_spec _ _ _
  · cases h
/-! ### loop.example/g00465/impl.from -/
noncomputable def f28c : Code := (Try.f28.body).getD .skip
def f28k : Nat → Kp := kat [⟨[0, 1, 2], []⟩, ⟨[6], []⟩]
noncomputable def f28e : Env := tab.env []
theorem f28_run {R : Type} (n : Nat) (k : List Dt → Option R) (a0 : Int) (a1 : Int) (a2 : Int) : evFn f28e f28k n f28c [.ro, .ro, .ro] [false] true [.tmp 6] [4] [.d (.i .i64) a0, .d (.i .i64) a1, .d (.i .i64) a2] k =
    (cond (decide (a0 ≥ a1))
    (k [.d .bool (decide (a0 ≤ a2))])
    (k [.d .bool false])) := by kernel_rfl
theorem f28_spec (a0 : Int) (a1 : Int) (a2 : Int) : ∃ keep rounds, ∀ {R : Type} (k : List Dt → Option R), evFn f28e keep rounds f28c [.ro, .ro, .ro] [false] true [.tmp 6] [4] [.d (.i .i64) a0, .d (.i .i64) a1, .d (.i .i64) a2] k = k [.d .bool (inR a0 a1 a2)] := by
  refine ⟨f28k, 0, fun k => ?_⟩
  rw [f28_run]; unfold inR
  cases decide (a0 ≥ a1) <;> rfl

noncomputable def q28 : List Dt → Option (Bool × List Dt)
  | [.d (.i .i64) a0, .d (.i .i64) a1, .d (.i .i64) a2] => some (true, [.d .bool (inR a0 a1 a2)])
  | _ => none
noncomputable def s28 : Gm.Spec := Gm.Spec.of [.ro, .ro, .ro] [false] true q28
theorem good28 : Gm.Good Try.prog (28, s28) := by
  have hl : ∀ x ∈ ([] : List (Nat × Gm.Spec)), Gm.Good Try.prog x := fun _ h => by cases h
  refine ⟨⟨spec_ok (tab_ok.env hl) (tab.natl hl) Try.func28 (by kernel_rfl : Try.f28.body = some f28c) [4] (by kernel_rfl) ?_, _, Try.func28, by kernel_rfl, of_decide_eq_true (by kernel_rfl)⟩, Gm.Spec.of_natl _ _ _ _⟩
  intro ds outs h
  unfold q28 at h
  split at h
  · cases h; exact f28_spec _ _ _
  · cases h
noncomputable def q30 : List Dt → Option (Bool × List Dt)
  | [.d (.i .i64) a0] => some ((okI a0), [.d .str (digS a0)])
  | _ => none
noncomputable def mu30 : List Dt → Nat
  | [.d (.i .i64) a0] => muDig a0
  | _ => 0
noncomputable def s30r (N : Nat) : Gm.Spec := Gm.Spec.of [.ro] [false] true (qlt mu30 N q30)
/-! ### loop.example/g00465/impl.Digits -/
noncomputable def f30c : Code := (Try.f30.body).getD .skip
def f30k : Nat → Kp := kat [⟨[0], []⟩, ⟨[0, 3], []⟩, ⟨[2], []⟩, ⟨[0, 14], []⟩, ⟨[2], []⟩, ⟨[0, 25], []⟩, ⟨[2], []⟩, ⟨[2], []⟩]
noncomputable def f30e (N : Nat) : Env := tab.env [(30, s30r N)]
theorem f30_run {R : Type} (N : Nat) (n : Nat) (k : List Dt → Option R) (a0 : Int) : evFn (f30e N) f30k n f30c [.ro] [false] true [.tmp 2] [9] [.d (.i .i64) a0] k =
    (cond (decide (a0 < (0 : Int)))
    (cond (decide (a0 > (-10 : Int)))
      (cond ((okI (IntKind.wrap .i64 (0 - a0))) && (Nat.blt (muDig (IntKind.wrap .i64 (0 - a0))) N))
        (cond (decide (ByteArray.size (bs [45]) + ByteArray.size (digS (IntKind.wrap .i64 (0 - a0))) ≤ 9223372036854775807))
          (k [.d .str ((bs [45]) ++ (digS (IntKind.wrap .i64 (0 - a0))))])
          none)
        none)
      (cond (decide (a0 < (0 : Int)))
        (cond ((okI (IntKind.wrap .i64 (Int.tdiv a0 (10 : Int)))) && (Nat.blt (muDig (IntKind.wrap .i64 (Int.tdiv a0 (10 : Int)))) N))
          (cond ((okI (IntKind.wrap .i64 (0 - (Int.tmod a0 (10 : Int))))) && (Nat.blt (muDig (IntKind.wrap .i64 (0 - (Int.tmod a0 (10 : Int))))) N))
            (cond (decide (ByteArray.size (digS (IntKind.wrap .i64 (Int.tdiv a0 (10 : Int)))) + ByteArray.size (digS (IntKind.wrap .i64 (0 - (Int.tmod a0 (10 : Int))))) ≤ 9223372036854775807))
              (k [.d .str ((digS (IntKind.wrap .i64 (Int.tdiv a0 (10 : Int)))) ++ (digS (IntKind.wrap .i64 (0 - (Int.tmod a0 (10 : Int))))))])
              none)
            none)
          none)
        (cond (decide (a0 < (10 : Int)))
          (k [.d .str (Utf8.encode (IntKind.wrap .i32 (IntKind.wrap .i64 ((48 : Int) + a0))))])
          (cond ((okI (IntKind.wrap .i64 (Int.tdiv a0 (10 : Int)))) && (Nat.blt (muDig (IntKind.wrap .i64 (Int.tdiv a0 (10 : Int)))) N))
            (cond (decide (ByteArray.size (digS (IntKind.wrap .i64 (Int.tdiv a0 (10 : Int)))) + ByteArray.size (Utf8.encode (IntKind.wrap .i32 (IntKind.wrap .i64 ((48 : Int) + (Int.tmod a0 (10 : Int)))))) ≤ 9223372036854775807))
              (k [.d .str ((digS (IntKind.wrap .i64 (Int.tdiv a0 (10 : Int)))) ++ (Utf8.encode (IntKind.wrap .i32 (IntKind.wrap .i64 ((48 : Int) + (Int.tmod a0 (10 : Int)))))))])
              none)
            none))))
    (cond (decide (a0 < (0 : Int)))
      (cond ((okI (IntKind.wrap .i64 (Int.tdiv a0 (10 : Int)))) && (Nat.blt (muDig (IntKind.wrap .i64 (Int.tdiv a0 (10 : Int)))) N))
        (cond ((okI (IntKind.wrap .i64 (0 - (Int.tmod a0 (10 : Int))))) && (Nat.blt (muDig (IntKind.wrap .i64 (0 - (Int.tmod a0 (10 : Int))))) N))
          (cond (decide (ByteArray.size (digS (IntKind.wrap .i64 (Int.tdiv a0 (10 : Int)))) + ByteArray.size (digS (IntKind.wrap .i64 (0 - (Int.tmod a0 (10 : Int))))) ≤ 9223372036854775807))
            (k [.d .str ((digS (IntKind.wrap .i64 (Int.tdiv a0 (10 : Int)))) ++ (digS (IntKind.wrap .i64 (0 - (Int.tmod a0 (10 : Int))))))])
            none)
          none)
        none)
      (cond (decide (a0 < (10 : Int)))
        (k [.d .str (Utf8.encode (IntKind.wrap .i32 (IntKind.wrap .i64 ((48 : Int) + a0))))])
        (cond ((okI (IntKind.wrap .i64 (Int.tdiv a0 (10 : Int)))) && (Nat.blt (muDig (IntKind.wrap .i64 (Int.tdiv a0 (10 : Int)))) N))
          (cond (decide (ByteArray.size (digS (IntKind.wrap .i64 (Int.tdiv a0 (10 : Int)))) + ByteArray.size (Utf8.encode (IntKind.wrap .i32 (IntKind.wrap .i64 ((48 : Int) + (Int.tmod a0 (10 : Int)))))) ≤ 9223372036854775807))
            (k [.d .str ((digS (IntKind.wrap .i64 (Int.tdiv a0 (10 : Int)))) ++ (Utf8.encode (IntKind.wrap .i32 (IntKind.wrap .i64 ((48 : Int) + (Int.tmod a0 (10 : Int)))))))])
            none)
          none)))) := by kernel_rfl
theorem f30_spec (N : Nat) (a0 : Int) (hg : okI a0 = true) (hm : mu30 [.d (.i .i64) a0] = N) : ∃ keep rounds, ∀ {R : Type} (k : List Dt → Option R), evFn (f30e N) keep rounds f30c [.ro] [false] true [.tmp 2] [9] [.d (.i .i64) a0] k = k [.d .str (digS a0)] := by
  refine ⟨f30k, 0, fun k => ?_⟩
  rw [f30_run]
  have hm : muDig a0 = N := hm
  subst hm
  have hg0 := hg
  rw [okI_iff] at hg
  by_cases h1 : a0 < 0
  · by_cases h2 : a0 > -10
    · have o1 : okI (IntKind.wrap .i64 (0 - a0)) = true := by rw [wrap_id (by omega) (by omega), okI_iff]; omega
      have m1 : Nat.blt (muDig (IntKind.wrap .i64 (0 - a0))) (muDig a0) = true := by
        rw [wrap_id (by omega) (by omega), Nat.blt_eq]; unfold muDig; rw [if_pos h1, if_neg (by omega)]; omega
      have s1 := digS_size o1
      have b1 : (bs [45]).size = 1 := rfl
      simp only [h1, h2, o1, m1, decide_true, cond_true, Bool.and_self, app_le (show (bs [45]).size + (digS (IntKind.wrap .i64 (0 - a0))).size ≤ 9223372036854775807 by omega), digS_negone h1 h2]
    · have t1 : IntKind.wrap .i64 (Int.tdiv a0 10) = Int.tdiv a0 10 := by rw [tdiv_neg h1]; exact wrap_id (by omega) (by omega)
      have o1 : okI (Int.tdiv a0 10) = true := by rw [tdiv_neg h1, okI_iff]; omega
      have m1 : Nat.blt (muDig (Int.tdiv a0 10)) (muDig a0) = true := by
        rw [tdiv_neg h1, Nat.blt_eq]; unfold muDig; rw [if_pos h1]; split <;> omega
      have e2 : IntKind.wrap .i64 (0 - (Int.tmod a0 10)) = ((a0.natAbs % 10 : Nat) : Int) := by
        rw [tmod_neg h1, wrap_id (by omega) (by omega)]; omega
      have o2 : okI (IntKind.wrap .i64 (0 - (Int.tmod a0 10))) = true := by rw [e2, okI_iff]; omega
      have m2 : Nat.blt (muDig (IntKind.wrap .i64 (0 - (Int.tmod a0 10)))) (muDig a0) = true := by
        rw [e2, Nat.blt_eq]; unfold muDig; rw [if_pos h1, if_neg (by omega)]; omega
      have s1 := digS_size o1
      have s2 := digS_size o2
      simp only [h1, h2, t1, o1, m1, o2, m2, decide_true, decide_false, cond_true, cond_false, Bool.and_self, app_le (show (digS (Int.tdiv a0 10)).size + (digS (IntKind.wrap .i64 (0 - (Int.tmod a0 10)))).size ≤ 9223372036854775807 by omega), digS_le h2]
  · by_cases h2 : a0 < 10
    · simp only [h1, h2, decide_true, decide_false, cond_true, cond_false, digS_one (show 0 ≤ a0 by omega) h2]
    · have t1 : IntKind.wrap .i64 (Int.tdiv a0 10) = Int.tdiv a0 10 := by rw [tdiv_pos (by omega)]; exact wrap_id (by omega) (by omega)
      have o1 : okI (Int.tdiv a0 10) = true := by rw [tdiv_pos (by omega), okI_iff]; omega
      have m1 : Nat.blt (muDig (Int.tdiv a0 10)) (muDig a0) = true := by
        rw [tdiv_pos (by omega), Nat.blt_eq]; unfold muDig; rw [if_neg h1, if_neg (by omega)]; omega
      have s1 := digS_size o1
      have s2 : (Utf8.encode (IntKind.wrap .i32 (IntKind.wrap .i64 ((48 : Int) + (Int.tmod a0 10))))).size ≤ 4 := encode_size_le _
      simp only [h1, h2, t1, o1, m1, decide_true, decide_false, cond_true, cond_false, Bool.and_self, app_le (show (digS (Int.tdiv a0 10)).size + (Utf8.encode (IntKind.wrap .i32 (IntKind.wrap .i64 ((48 : Int) + (Int.tmod a0 10))))).size ≤ 9223372036854775807 by omega), digS_ge h2]

noncomputable def s30 : Gm.Spec := Gm.Spec.of [.ro] [false] true q30
theorem good30 : Gm.Good Try.prog (30, s30) := by
  refine ⟨⟨spec_rec mu30 fun N hr => ?_, _, Try.func30, by kernel_rfl, of_decide_eq_true (by kernel_rfl)⟩, Gm.Spec.of_natl _ _ _ _⟩
  have hl : ∀ x ∈ [(30, s30r N)], Gm.Good Try.prog x := List.forall_mem_cons.2 ⟨⟨⟨hr, _, Try.func30, by kernel_rfl, of_decide_eq_true (by kernel_rfl)⟩, Gm.Spec.of_natl _ _ _ _⟩, List.forall_mem_nil _⟩
  intro R
  refine spec_ok (E := f30e N) (tab_ok.env hl) (tab.natl hl) Try.func30 (by kernel_rfl : Try.f30.body = some f30c) [9] (by kernel_rfl) ?_
  intro ds outs h
  obtain ⟨h, hm⟩ := qeq_some h
  unfold q30 at h
  split at h
  · simp only [Option.some.injEq, Prod.mk.injEq] at h; obtain ⟨hg, h⟩ := h; cases h; exact f30_spec N _ hg hm
  · cases h
/-! ### loop.example/g00465/spec.Digits -/
noncomputable def f27c : Code := (Try.f27.body).getD .skip
def f27k : Nat → Kp := kat [⟨[0], []⟩, ⟨[0, 7], []⟩, ⟨[2], []⟩, ⟨[0, 3], []⟩, ⟨[0, 3, 4], []⟩, ⟨[0, 3, 4, 11], []⟩, ⟨[0, 3, 4, 5], []⟩, ⟨[0, 3, 4, 5, 15], []⟩, ⟨[0, 3, 4, 5], []⟩, ⟨[0, 3, 4], []⟩, ⟨[0, 3, 4], []⟩, ⟨[4, 27], []⟩, ⟨[2], []⟩, ⟨[2], []⟩]
noncomputable def f27e : Env := tab.env []
noncomputable def f27L0 {R : Type} (n : Nat) (x0 : Int → ByteArray → Bool → Option R) (vs3 : Bool) : Nat → Int → ByteArray → Option R
  | 0, _, _ => none
  | m + 1, vs0, vs4 =>
    (cond (vs0 != (0 : Int))
      (cond (decide ((Int.tmod vs0 (10 : Int)) < (0 : Int)))
        (cond (decide (ByteArray.size (bytesOf ([(IntKind.wrap .u8 (IntKind.wrap .i64 ((48 : Int) + (IntKind.wrap .i64 ((0 : Int) - (Int.tmod vs0 (10 : Int)))))))] : List Int)) + ByteArray.size vs4 ≤ 9223372036854775807))
          (f27L0 n x0 vs3 m (IntKind.wrap .i64 (Int.tdiv vs0 (10 : Int))) ((bytesOf ([(IntKind.wrap .u8 (IntKind.wrap .i64 ((48 : Int) + (IntKind.wrap .i64 ((0 : Int) - (Int.tmod vs0 (10 : Int)))))))] : List Int)) ++ vs4))
          none)
        (cond (decide (ByteArray.size (bytesOf ([(IntKind.wrap .u8 (IntKind.wrap .i64 ((48 : Int) + (Int.tmod vs0 (10 : Int)))))] : List Int)) + ByteArray.size vs4 ≤ 9223372036854775807))
          (f27L0 n x0 vs3 m (IntKind.wrap .i64 (Int.tdiv vs0 (10 : Int))) ((bytesOf ([(IntKind.wrap .u8 (IntKind.wrap .i64 ((48 : Int) + (Int.tmod vs0 (10 : Int)))))] : List Int)) ++ vs4))
          none))
      (x0 vs0 vs4 (vs0 != (0 : Int))))
theorem f27L0_b {R : Type} (n : Nat) (k' : Ex → St → Option R) (vs0 : Int) (vs3 : Bool) (vs4 : ByteArray) : ev f27e f27k n (cAt [1,1,1,1,0,0,0] f27c) ⟨[(0, .c (.one (.v (.int .i64 vs0)))), (3, .c (.one (.v (.bool vs3)))), (4, .c (.one (.v (.string vs4))))], [], []⟩ k' =
    (cond (vs0 != (0 : Int))
    (cond (decide ((Int.tmod vs0 (10 : Int)) < (0 : Int)))
      (cond (decide (ByteArray.size (bytesOf ([(IntKind.wrap .u8 (IntKind.wrap .i64 ((48 : Int) + (IntKind.wrap .i64 ((0 : Int) - (Int.tmod vs0 (10 : Int)))))))] : List Int)) + ByteArray.size vs4 ≤ 9223372036854775807))
        (k' .normal ⟨[(0, .c (.one (.v (.int .i64 (IntKind.wrap .i64 (Int.tdiv vs0 (10 : Int))))))), (3, .c (.one (.v (.bool vs3)))), (4, .c (.one (.v (.string ((bytesOf ([(IntKind.wrap .u8 (IntKind.wrap .i64 ((48 : Int) + (IntKind.wrap .i64 ((0 : Int) - (Int.tmod vs0 (10 : Int)))))))] : List Int)) ++ vs4)))))], [], []⟩)
        none)
      (cond (decide (ByteArray.size (bytesOf ([(IntKind.wrap .u8 (IntKind.wrap .i64 ((48 : Int) + (Int.tmod vs0 (10 : Int)))))] : List Int)) + ByteArray.size vs4 ≤ 9223372036854775807))
        (k' .normal ⟨[(0, .c (.one (.v (.int .i64 (IntKind.wrap .i64 (Int.tdiv vs0 (10 : Int))))))), (3, .c (.one (.v (.bool vs3)))), (4, .c (.one (.v (.string ((bytesOf ([(IntKind.wrap .u8 (IntKind.wrap .i64 ((48 : Int) + (Int.tmod vs0 (10 : Int)))))] : List Int)) ++ vs4)))))], [], []⟩)
        none))
    (k' (.exit 0) ⟨[(0, .c (.one (.v (.int .i64 vs0)))), (3, .c (.one (.v (.bool vs3)))), (4, .c (.one (.v (.string vs4)))), (11, .c (.one (.v (.bool (vs0 != (0 : Int))))))], [], []⟩)) := by kernel_rfl
theorem f27L0_eq {R : Type} (n : Nat) (k' : Ex → St → Option R) (vs3 : Bool) : ∀ (m : Nat) (vs0 : Int) (vs4 : ByteArray), iter (fun st k => ev f27e f27k n (cAt [1,1,1,1,0,0,0] f27c) st k) m ⟨[(0, .c (.one (.v (.int .i64 vs0)))), (3, .c (.one (.v (.bool vs3)))), (4, .c (.one (.v (.string vs4))))], [], []⟩ k' = f27L0 n (fun (xvs0 : Int) (xvs4 : ByteArray) (xvs11 : Bool) => k' (.exit 0) ⟨[(0, .c (.one (.v (.int .i64 xvs0)))), (3, .c (.one (.v (.bool vs3)))), (4, .c (.one (.v (.string xvs4)))), (11, .c (.one (.v (.bool xvs11))))], [], []⟩) vs3 m vs0 vs4 := by
  intro m; induction m with
  | zero => intros; rfl
  | succ m ih =>
    intro vs0 vs4
    simp only [iter]
    rw [f27L0_b]
    simp only [ih, f27L0]

noncomputable def f27K0 {R : Type} (n : Nat) (k' : Ex → St → Option R) : Ex → St → Option R := (blockK 0 (seqK f27e f27k n (cAt [1,1,1,1,1] f27c) k'))
theorem f27K0_x0 {R : Type} (n : Nat) (k : List Dt → Option R) (a0 : Int) (vs3 : Bool) (xvs0 : Int) (xvs4 : ByteArray) (xvs11 : Bool) : f27K0 n (exitK f27e [.ro] [false] true [.tmp 2] [9] [.d (.i .i64) a0] k) (.exit 0) ⟨[(0, .c (.one (.v (.int .i64 xvs0)))), (3, .c (.one (.v (.bool vs3)))), (4, .c (.one (.v (.string xvs4)))), (11, .c (.one (.v (.bool xvs11))))], [], []⟩ =
    (cond vs3
    (cond (decide (ByteArray.size (bs [45]) + ByteArray.size xvs4 ≤ 9223372036854775807))
      (k [.d .str ((bs [45]) ++ xvs4)])
      none)
    (k [.d .str xvs4])) := by kernel_rfl

theorem f27_run {R : Type} (n : Nat) (k : List Dt → Option R) (a0 : Int) : evFn f27e f27k n f27c [.ro] [false] true [.tmp 2] [9] [.d (.i .i64) a0] k =
    (cond (a0 == (0 : Int))
    (k [.d .str (bs [48])])
    (f27L0 n (fun (xvs0 : Int) (xvs4 : ByteArray) (xvs11 : Bool) =>
      (cond (decide (a0 < (0 : Int)))
        (cond (decide (ByteArray.size (bs [45]) + ByteArray.size xvs4 ≤ 9223372036854775807))
          (k [.d .str ((bs [45]) ++ xvs4)])
          none)
        (k [.d .str xvs4]))) (decide (a0 < (0 : Int))) n a0 ByteArray.empty)) := by
  refine Eq.trans (b := (cond (a0 == (0 : Int))
    (k [.d .str (bs [48])])
    (iter (fun st k => ev f27e f27k n (cAt [1,1,1,1,0,0,0] f27c) st k) n ⟨[(0, .c (.one (.v (.int .i64 a0)))), (3, .c (.one (.v (.bool (decide (a0 < (0 : Int))))))), (4, .c (.one (.v (.string ByteArray.empty))))], [], []⟩ (f27K0 n (exitK f27e [.ro] [false] true [.tmp 2] [9] [.d (.i .i64) a0] k))))) (by kernel_rfl) ?_
  simp only [f27L0_eq, f27K0_x0]
theorem f27_spec (a0 : Int) (hg : okI a0 = true) : ∃ keep rounds, ∀ {R : Type} (k : List Dt → Option R), evFn f27e keep rounds f27c [.ro] [false] true [.tmp 2] [9] [.d (.i .i64) a0] k = k [.d .str (digS a0)] := by
  have hg0 := hg
  rw [okI_iff] at hg
  refine ⟨f27k, 25, fun {R} k => ?_⟩
  rw [f27_run]
  by_cases hz : a0 = 0
  · subst hz
    have e : digS 0 = bs [48] := by rw [show (0 : Int) = ((0 : Nat) : Int) from rfl, digS_nat, natDig_lt (by omega)]; rfl
    rw [e]; rfl
  have hz' : (a0 == (0 : Int)) = false := by rw [beq_eq_false_iff_ne]; exact hz
  rw [hz', cond_false]
  have key : ∀ (d m : Nat) (n : Int) (out : ByteArray), n.natAbs < 10 ^ d → d ≤ 20 → d < m → (n ≤ 9223372036854775807 ∧ -9223372036854775808 ≤ n) → out.size + d ≤ 100 → ∀ X : Int → ByteArray → Bool → Option R, (∀ o b, X 0 o b = X 0 o false) →
      f27L0 25 X (decide (a0 < (0 : Int))) m n out = X 0 (digR n.natAbs out) false := by
    intro d
    induction d with
    | zero =>
      intro m n out hn hd hm hw hs X hX
      obtain ⟨m, rfl⟩ : ∃ m', m = m' + 1 := ⟨m - 1, by omega⟩
      have : n = 0 := by omega
      subst this
      simp only [f27L0]
      rfl
    | succ d ih =>
      intro m n out hn hd hm hw hs X hX
      obtain ⟨m, rfl⟩ : ∃ m', m = m' + 1 := ⟨m - 1, by omega⟩
      by_cases h0 : n = 0
      · subst h0
        simp only [f27L0]
        rfl
      have h0' : (n != (0 : Int)) = true := by rw [bne_iff_ne]; exact h0
      have hn2 : n.natAbs / 10 < 10 ^ d := by rw [Nat.pow_succ] at hn; omega
      have hb := byte_dig (n.natAbs % 10) (by omega)
      have hsz : ByteArray.size ⟨#[UInt8.ofNat (48 + n.natAbs % 10)]⟩ = 1 := rfl
      simp only [f27L0, h0', cond_true]
      by_cases h1 : n < 0
      · have t1 : IntKind.wrap .i64 (Int.tdiv n 10) = -((n.natAbs / 10 : Nat) : Int) := by rw [tdiv_neg h1]; exact wrap_id (by omega) (by omega)
        have t2 : Int.tmod n 10 = -((n.natAbs % 10 : Nat) : Int) := tmod_neg h1
        have e1 : IntKind.wrap .i64 ((0 : Int) - -((n.natAbs % 10 : Nat) : Int)) = ((n.natAbs % 10 : Nat) : Int) := by rw [wrap_id (by omega) (by omega)]; omega
        rw [t1, t2, e1, hb]
        have fin := ih m (-((n.natAbs / 10 : Nat) : Int)) (⟨#[UInt8.ofNat (48 + n.natAbs % 10)]⟩ ++ out) (by omega) (by omega) (by omega) (by omega) (by rw [ByteArray.size_append]; omega) X hX
        rw [show (-((n.natAbs / 10 : Nat) : Int)).natAbs = n.natAbs / 10 by omega, digR_step (by omega)] at fin
        rw [← fin]
        have hle := app_le (a := ⟨#[UInt8.ofNat (48 + n.natAbs % 10)]⟩) (b := out) (by omega)
        by_cases h2 : -((n.natAbs % 10 : Nat) : Int) < 0
        · simp only [h2, decide_true, cond_true, hle]
        · have h3 : n.natAbs % 10 = 0 := by omega
          simp only [h2, decide_false, cond_false]
          have hb0 : bytesOf [IntKind.wrap .u8 (IntKind.wrap .i64 ((48 : Int) + -((n.natAbs % 10 : Nat) : Int)))] = ⟨#[UInt8.ofNat (48 + n.natAbs % 10)]⟩ := by rw [h3]; rfl
          rw [hb0, hle, cond_true]
      · have t1 : IntKind.wrap .i64 (Int.tdiv n 10) = ((n.natAbs / 10 : Nat) : Int) := by rw [tdiv_pos (by omega)]; exact wrap_id (by omega) (by omega)
        have t2 : Int.tmod n 10 = ((n.natAbs % 10 : Nat) : Int) := tmod_pos (by omega)
        rw [t1, t2, hb]
        have fin := ih m (((n.natAbs / 10 : Nat) : Int)) (⟨#[UInt8.ofNat (48 + n.natAbs % 10)]⟩ ++ out) (by omega) (by omega) (by omega) (by omega) (by rw [ByteArray.size_append]; omega) X hX
        rw [show (((n.natAbs / 10 : Nat) : Int)).natAbs = n.natAbs / 10 by omega, digR_step (by omega)] at fin
        rw [← fin]
        have hle := app_le (a := ⟨#[UInt8.ofNat (48 + n.natAbs % 10)]⟩) (b := out) (by omega)
        have h2 : ¬ ((n.natAbs % 10 : Nat) : Int) < 0 := by omega
        simp only [h2, decide_false, cond_false, cond_true, hle]
  refine Eq.trans (key 20 25 a0 ByteArray.empty (by have : (10 : Nat) ^ 20 = 100000000000000000000 := rfl; omega) (by omega) (by omega) (by omega) (by show 0 + 20 ≤ 100; omega) _ (fun _ _ => rfl)) ?_
  have e : digR a0.natAbs ByteArray.empty = ⟨(natDig a0.natAbs).toArray⟩ := by
    unfold digR; rw [if_neg (by omega)]; apply ba_ext; simp
  rw [e]
  by_cases h1 : a0 < 0
  · have hs := digS_size hg0
    have ed : digS a0 = bs [45] ++ ⟨(natDig a0.natAbs).toArray⟩ := by
      unfold digS; rw [if_pos h1]; apply ba_ext; rw [ba_app]; simp [bs]
    have hs2 : (bs [45]).size + ByteArray.size ⟨(natDig a0.natAbs).toArray⟩ ≤ 9223372036854775807 := by
      rw [ed, ByteArray.size_append] at hs; omega
    simp only [h1, decide_true, cond_true, app_le hs2, ed]
  · have ed : digS a0 = ⟨(natDig a0.natAbs).toArray⟩ := by
      unfold digS; rw [if_neg h1]; simp
    simp only [h1, decide_false, cond_false, ed]

noncomputable def q27 : List Dt → Option (Bool × List Dt)
  | [.d (.i .i64) a0] => some ((okI a0), [.d .str (digS a0)])
  | _ => none
noncomputable def s27 : Gm.Spec := Gm.Spec.of [.ro] [false] true q27
theorem good27 : Gm.Good Try.prog (27, s27) := by
  have hl : ∀ x ∈ ([] : List (Nat × Gm.Spec)), Gm.Good Try.prog x := fun _ h => by cases h
  refine ⟨⟨spec_ok (tab_ok.env hl) (tab.natl hl) Try.func27 (by kernel_rfl : Try.f27.body = some f27c) [9] (by kernel_rfl) ?_, _, Try.func27, by kernel_rfl, of_decide_eq_true (by kernel_rfl)⟩, Gm.Spec.of_natl _ _ _ _⟩
  intro ds outs h
  unfold q27 at h
  split at h
  · simp only [Option.some.injEq, Prod.mk.injEq] at h; obtain ⟨hg, h⟩ := h; cases h; exact f27_spec _ hg
  · cases h
/-! ### loop.example/g00465/impl.spaced -/
noncomputable def f29c : Code := (Try.f29.body).getD .skip
def f29k : Nat → Kp := kat [⟨[0], []⟩, ⟨[2], []⟩]
noncomputable def f29e : Env := tab.env [(55, s55)]
theorem f29_run {R : Type} (n : Nat) (k : List Dt → Option R) (a0 : List ByteArray) : evFn f29e f29k n f29c [.ro] [false] true [.tmp 2] [9] [.d (.sl .str) a0] k =
    (cond (gJoinW a0 (bs [32]))
    (k [.d .str (joinS a0 (bs [32]))])
    none) := by kernel_rfl
theorem f29_spec (a0 : List ByteArray) (hg : gSpaced a0 = true) : ∃ keep rounds, ∀ {R : Type} (k : List Dt → Option R), evFn f29e keep rounds f29c [.ro] [false] true [.tmp 2] [9] [.d (.sl .str) a0] k = k [.d .str (spaced a0)] := by
  refine ⟨f29k, 0, fun k => ?_⟩
  rw [f29_run]; simp only [gSpaced_j hg, cond_true]; rfl

noncomputable def q29 : List Dt → Option (Bool × List Dt)
  | [.d (.sl .str) a0] => some ((gSpaced a0), [.d .str (spaced a0)])
  | _ => none
noncomputable def s29 : Gm.Spec := Gm.Spec.of [.ro] [false] true q29
theorem good29 : Gm.Good Try.prog (29, s29) := by
  have hl : ∀ x ∈ [(55, s55)], Gm.Good Try.prog x := List.forall_mem_cons.2 ⟨good55, List.forall_mem_nil _⟩
  refine ⟨⟨spec_ok (tab_ok.env hl) (tab.natl hl) Try.func29 (by kernel_rfl : Try.f29.body = some f29c) [9] (by kernel_rfl) ?_, _, Try.func29, by kernel_rfl, of_decide_eq_true (by kernel_rfl)⟩, Gm.Spec.of_natl _ _ _ _⟩
  intro ds outs h
  unfold q29 at h
  split at h
  · simp only [Option.some.injEq, Prod.mk.injEq] at h; obtain ⟨hg, h⟩ := h; cases h; exact f29_spec _ hg
  · cases h
end Go.Proofs.Ythjkdgbijfkmaaa

/- x -/
namespace Go.Proofs.Ythjkdgbijfkmaaa
open Go Go.Gm
/-! ### loop.example/g00465/impl.ScaleText -/
noncomputable def f14c : Code := (Try.f14.body).getD .skip
def f14k : Nat → Kp := kat [⟨[1], []⟩, ⟨[1, 3], []⟩, ⟨[3, 14, 15, 16], []⟩, ⟨[3, 14, 15, 16, 17], []⟩, ⟨[3, 5, 14, 15, 16], []⟩, ⟨[3, 14, 15, 16], []⟩, ⟨[3, 14, 15, 16], []⟩, ⟨[2], []⟩]
noncomputable def f14e : Env := tab.env [(29, s29), (30, s30)]
noncomputable def f14L0 {R : Type} (n : Nat) (x0 : ByteArray → Int → Bool → Option R) (vs14 : List RcdT) (vs15 : Int) : Nat → ByteArray → Int → Option R
  | 0, _, _ => none
  | m + 1, vs3, vs16 =>
    (cond (decide (vs16 < vs15))
      (cond ((decide ((0 : Int) ≤ vs16)) && (decide (vs16 < (vs14.length : Int))))
        (cond (okI (RcdT.time (atI (t := .rcd) vs14 (Int.toNat vs16))))
          (cond (decide (ByteArray.size (digS (RcdT.time (atI (t := .rcd) vs14 (Int.toNat vs16)))) + ByteArray.size (bs [58]) ≤ 9223372036854775807))
            (cond (okI (RcdT.n (atI (t := .rcd) vs14 (Int.toNat vs16))))
              (cond (decide (ByteArray.size ((digS (RcdT.time (atI (t := .rcd) vs14 (Int.toNat vs16)))) ++ (bs [58])) + ByteArray.size (digS (RcdT.n (atI (t := .rcd) vs14 (Int.toNat vs16)))) ≤ 9223372036854775807))
                (cond (gSpaced ([vs3, (((digS (RcdT.time (atI (t := .rcd) vs14 (Int.toNat vs16)))) ++ (bs [58])) ++ (digS (RcdT.n (atI (t := .rcd) vs14 (Int.toNat vs16)))))] : List ByteArray))
                  (f14L0 n x0 vs14 vs15 m (spaced ([vs3, (((digS (RcdT.time (atI (t := .rcd) vs14 (Int.toNat vs16)))) ++ (bs [58])) ++ (digS (RcdT.n (atI (t := .rcd) vs14 (Int.toNat vs16)))))] : List ByteArray)) (IntKind.wrap .i64 (vs16 + (1 : Int))))
                  none)
                none)
              none)
            none)
          none)
        none)
      (x0 vs3 vs16 (decide (vs16 < vs15))))
theorem f14L0_b {R : Type} (n : Nat) (k' : Ex → St → Option R) (vs3 : ByteArray) (vs14 : List RcdT) (vs15 : Int) (vs16 : Int) : ev f14e f14k n (cAt [1,1,0,1,0,0] f14c) ⟨[(3, .c (.one (.v (.string vs3)))), (14, .c (.one (.ro .rcd vs14))), (15, .c (.one (.v (.int .i64 vs15)))), (16, .c (.one (.v (.int .i64 vs16))))], [], []⟩ k' =
    (cond (decide (vs16 < vs15))
    (cond ((decide ((0 : Int) ≤ vs16)) && (decide (vs16 < (vs14.length : Int))))
      (cond (okI (RcdT.time (atI (t := .rcd) vs14 (Int.toNat vs16))))
        (cond (decide (ByteArray.size (digS (RcdT.time (atI (t := .rcd) vs14 (Int.toNat vs16)))) + ByteArray.size (bs [58]) ≤ 9223372036854775807))
          (cond (okI (RcdT.n (atI (t := .rcd) vs14 (Int.toNat vs16))))
            (cond (decide (ByteArray.size ((digS (RcdT.time (atI (t := .rcd) vs14 (Int.toNat vs16)))) ++ (bs [58])) + ByteArray.size (digS (RcdT.n (atI (t := .rcd) vs14 (Int.toNat vs16)))) ≤ 9223372036854775807))
              (cond (gSpaced ([vs3, (((digS (RcdT.time (atI (t := .rcd) vs14 (Int.toNat vs16)))) ++ (bs [58])) ++ (digS (RcdT.n (atI (t := .rcd) vs14 (Int.toNat vs16)))))] : List ByteArray))
                (k' .normal ⟨[(3, .c (.one (.v (.string (spaced ([vs3, (((digS (RcdT.time (atI (t := .rcd) vs14 (Int.toNat vs16)))) ++ (bs [58])) ++ (digS (RcdT.n (atI (t := .rcd) vs14 (Int.toNat vs16)))))] : List ByteArray)))))), (14, .c (.one (.ro .rcd vs14))), (15, .c (.one (.v (.int .i64 vs15)))), (16, .c (.one (.v (.int .i64 (IntKind.wrap .i64 (vs16 + (1 : Int)))))))], [], []⟩)
                none)
              none)
            none)
          none)
        none)
      none)
    (k' (.exit 0) ⟨[(3, .c (.one (.v (.string vs3)))), (14, .c (.one (.ro .rcd vs14))), (15, .c (.one (.v (.int .i64 vs15)))), (16, .c (.one (.v (.int .i64 vs16)))), (17, .c (.one (.v (.bool (decide (vs16 < vs15))))))], [], []⟩)) := by kernel_rfl
theorem f14L0_eq {R : Type} (n : Nat) (k' : Ex → St → Option R) (vs14 : List RcdT) (vs15 : Int) : ∀ (m : Nat) (vs3 : ByteArray) (vs16 : Int), iter (fun st k => ev f14e f14k n (cAt [1,1,0,1,0,0] f14c) st k) m ⟨[(3, .c (.one (.v (.string vs3)))), (14, .c (.one (.ro .rcd vs14))), (15, .c (.one (.v (.int .i64 vs15)))), (16, .c (.one (.v (.int .i64 vs16))))], [], []⟩ k' = f14L0 n (fun (xvs3 : ByteArray) (xvs16 : Int) (xvs17 : Bool) => k' (.exit 0) ⟨[(3, .c (.one (.v (.string xvs3)))), (14, .c (.one (.ro .rcd vs14))), (15, .c (.one (.v (.int .i64 vs15)))), (16, .c (.one (.v (.int .i64 xvs16)))), (17, .c (.one (.v (.bool xvs17))))], [], []⟩) vs14 vs15 m vs3 vs16 := by
  intro m; induction m with
  | zero => intros; rfl
  | succ m ih =>
    intro vs3 vs16
    simp only [iter]
    rw [f14L0_b]
    simp only [ih, f14L0]

noncomputable def f14K0 {R : Type} (n : Nat) (k' : Ex → St → Option R) : Ex → St → Option R := (blockK 0 (seqK f14e f14k n (cAt [1,1,1] f14c) k'))
theorem f14K0_x0 {R : Type} (n : Nat) (k : List Dt → Option R) (a0 : ScaleT) (vs14 : List RcdT) (vs15 : Int) (xvs3 : ByteArray) (xvs16 : Int) (xvs17 : Bool) : f14K0 n (exitK f14e [.ro] [false] true [.tmp 2] [9] [.d .scale a0] k) (.exit 0) ⟨[(3, .c (.one (.v (.string xvs3)))), (14, .c (.one (.ro .rcd vs14))), (15, .c (.one (.v (.int .i64 vs15)))), (16, .c (.one (.v (.int .i64 xvs16)))), (17, .c (.one (.v (.bool xvs17))))], [], []⟩ =
    (k [.d .str xvs3]) := by kernel_rfl

theorem f14_run {R : Type} (n : Nat) (k : List Dt → Option R) (a0 : ScaleT) : evFn f14e f14k n f14c [.ro] [false] true [.tmp 2] [9] [.d .scale a0] k =
    (cond (okI (ScaleT.now a0))
    (cond (gSpaced ([(ScaleT.name a0), (digS (ScaleT.now a0))] : List ByteArray))
      (f14L0 n (fun (xvs3 : ByteArray) (xvs16 : Int) (xvs17 : Bool) =>
        (k [.d .str xvs3])) (ScaleT.recs a0) ((ScaleT.recs a0).length : Int) n (spaced ([(ScaleT.name a0), (digS (ScaleT.now a0))] : List ByteArray)) (0 : Int))
      none)
    none) := by
  refine Eq.trans (b := (cond (okI (ScaleT.now a0))
    (cond (gSpaced ([(ScaleT.name a0), (digS (ScaleT.now a0))] : List ByteArray))
      (iter (fun st k => ev f14e f14k n (cAt [1,1,0,1,0,0] f14c) st k) n ⟨[(3, .c (.one (.v (.string (spaced ([(ScaleT.name a0), (digS (ScaleT.now a0))] : List ByteArray)))))), (14, .c (.one (.ro .rcd (ScaleT.recs a0)))), (15, .c (.one (.v (.int .i64 ((ScaleT.recs a0).length : Int))))), (16, .c (.one (.v (.int .i64 (0 : Int)))))], [], []⟩ (f14K0 n (exitK f14e [.ro] [false] true [.tmp 2] [9] [.d .scale a0] k)))
      none)
    none)) (by kernel_rfl) ?_
  simp only [f14L0_eq, f14K0_x0]
theorem f14_spec (a0 : ScaleT) (hg : sm_scale a0 = true) : ∃ keep rounds, ∀ {R : Type} (k : List Dt → Option R), evFn f14e keep rounds f14c [.ro] [false] true [.tmp 2] [9] [.d .scale a0] k = k [.d .str (scaleText a0)] := by
  simp only [sm_scale, Bool.and_eq_true] at hg
  obtain ⟨hn, hv, hr⟩ := hg
  have hn : a0.name.size ≤ 1048576 := bleN hn
  have hd := digS_size hv
  have hl := smL_len hr
  have hr' := smL_all hr
  refine ⟨f14k, a0.recs.length + 1, fun {R} k => ?_⟩
  rw [f14_run]
  rw [hv, gSpaced2 (by omega)]
  simp only [cond_true]
  rw [show spaced [a0.name, digS a0.now] = a0.name ++ bs [32] ++ digS a0.now from joinS2 _ _ _]
  refine Eq.trans (loop_acc (xs := a0.recs) (F := fun m j out => f14L0 (a0.recs.length + 1) _ a0.recs (a0.recs.length : Int) m out (j : Int)) (f := recText) (good := fun out => k [.d .str out]) (fun j out => out.size ≤ 1048676 + 100 * j)
    (fun j out x hx hi => ?_) (fun m j out x hx hi => ?_) (fun m out hi => by simp only [f14L0, idxE, cond_false]) a0.recs.length 0 (a0.recs.length + 1) (a0.name ++ bs [32] ++ digS a0.now) (by omega) (by omega) (by first | (simp only [ByteArray.size_append, bs_size, List.length_cons, List.length_nil]; omega) | omega)) ?_
  · have hx := List.all_eq_true.1 hr' x (List.mem_of_getElem? hx)
    simp only [sm_rcd, Bool.and_eq_true] at hx
    have h1 := digS_size hx.1
    have h2 := digS_size hx.2
    show (recText out x).size ≤ _
    unfold recText
    simp only [ByteArray.size_append, bs_size, List.length_cons, List.length_nil]; omega
  · obtain ⟨h1, h0, hw, ht⟩ := idx (lt_of_get hx) (by omega)
    have hj := lt_of_get hx
    have hx2 := List.all_eq_true.1 hr' x (List.mem_of_getElem? hx)
    simp only [sm_rcd, Bool.and_eq_true] at hx2
    have d1 := digS_size hx2.1
    have d2 := digS_size hx2.2
    simp only [f14L0, h1, h0, hw, ht, atI_of (t := .rcd) hx, Bool.and_self, cond_true, hx2.1, hx2.2]
    rw [app_le (by first | (simp only [ByteArray.size_append, bs_size, List.length_cons, List.length_nil]; omega) | omega), app_le (by first | (simp only [ByteArray.size_append, bs_size, List.length_cons, List.length_nil]; omega) | omega), gSpaced2 (by first | (simp only [ByteArray.size_append, bs_size, List.length_cons, List.length_nil]; omega) | omega)]
    simp only [cond_true]
    rw [show spaced [out, digS x.time ++ bs [58] ++ digS x.n] = recText out x by unfold recText spaced; rw [joinS2]; simp only [ByteArray.append_assoc]]
  · rfl

noncomputable def q14 : List Dt → Option (Bool × List Dt)
  | [.d .scale a0] => some ((sm_scale a0), [.d .str (scaleText a0)])
  | _ => none
noncomputable def s14 : Gm.Spec := Gm.Spec.of [.ro] [false] true q14
theorem good14 : Gm.Good Try.prog (14, s14) := by
  have hl : ∀ x ∈ [(29, s29), (30, s30)], Gm.Good Try.prog x := List.forall_mem_cons.2 ⟨good29, List.forall_mem_cons.2 ⟨good30, List.forall_mem_nil _⟩⟩
  refine ⟨⟨spec_ok (tab_ok.env hl) (tab.natl hl) Try.func14 (by kernel_rfl : Try.f14.body = some f14c) [9] (by kernel_rfl) ?_, _, Try.func14, by kernel_rfl, of_decide_eq_true (by kernel_rfl)⟩, Gm.Spec.of_natl _ _ _ _⟩
  intro ds outs h
  unfold q14 at h
  split at h
  · simp only [Option.some.injEq, Prod.mk.injEq] at h; obtain ⟨hg, h⟩ := h; cases h; exact f14_spec _ hg
  · cases h
/-! ### loop.example/g00465/spec.ScaleText -/
noncomputable def f12c : Code := (Try.f12.body).getD .skip
def f12k : Nat → Kp := kat [⟨[1], []⟩, ⟨[1, 3], []⟩, ⟨[1, 3, 4], []⟩, ⟨[1, 3, 4, 16], []⟩, ⟨[1, 3, 4], []⟩, ⟨[1, 3, 4], []⟩, ⟨[2], []⟩]
noncomputable def f12e : Env := tab.env [(27, s27)]
noncomputable def f12L0 {R : Type} (n : Nat) (x0 : ByteArray → Int → Bool → Option R) (vb1_0 : ByteArray) (vb1_1 : Int) (vb1_2 : List RcdT) : Nat → ByteArray → Int → Option R
  | 0, _, _ => none
  | m + 1, vs3, vs4 =>
    (cond (decide (vs4 < (vb1_2.length : Int)))
      (cond (decide (ByteArray.size vs3 + ByteArray.size (bs [32]) ≤ 9223372036854775807))
        (cond ((decide ((0 : Int) ≤ vs4)) && (decide (vs4 < (vb1_2.length : Int))))
          (cond (okI (RcdT.time (atI (t := .rcd) vb1_2 (Int.toNat vs4))))
            (cond (decide (ByteArray.size (vs3 ++ (bs [32])) + ByteArray.size (digS (RcdT.time (atI (t := .rcd) vb1_2 (Int.toNat vs4)))) ≤ 9223372036854775807))
              (cond (decide (ByteArray.size ((vs3 ++ (bs [32])) ++ (digS (RcdT.time (atI (t := .rcd) vb1_2 (Int.toNat vs4))))) + ByteArray.size (bs [58]) ≤ 9223372036854775807))
                (cond ((decide ((0 : Int) ≤ vs4)) && (decide (vs4 < (vb1_2.length : Int))))
                  (cond (okI (RcdT.n (atI (t := .rcd) vb1_2 (Int.toNat vs4))))
                    (cond (decide (ByteArray.size (((vs3 ++ (bs [32])) ++ (digS (RcdT.time (atI (t := .rcd) vb1_2 (Int.toNat vs4))))) ++ (bs [58])) + ByteArray.size (digS (RcdT.n (atI (t := .rcd) vb1_2 (Int.toNat vs4)))) ≤ 9223372036854775807))
                      (f12L0 n x0 vb1_0 vb1_1 vb1_2 m ((((vs3 ++ (bs [32])) ++ (digS (RcdT.time (atI (t := .rcd) vb1_2 (Int.toNat vs4))))) ++ (bs [58])) ++ (digS (RcdT.n (atI (t := .rcd) vb1_2 (Int.toNat vs4))))) (IntKind.wrap .i64 (vs4 + (1 : Int))))
                      none)
                    none)
                  none)
                none)
              none)
            none)
          none)
        none)
      (x0 vs3 vs4 (decide (vs4 < (vb1_2.length : Int)))))
theorem f12L0_b {R : Type} (n : Nat) (k' : Ex → St → Option R) (vs3 : ByteArray) (vs4 : Int) (vb1_0 : ByteArray) (vb1_1 : Int) (vb1_2 : List RcdT) : ev f12e f12k n (cAt [1,1,0,1,0,0] f12c) ⟨[(1, .c (.one (.pt 1 0))), (3, .c (.one (.v (.string vs3)))), (4, .c (.one (.v (.int .i64 vs4))))], [(1, ⟨.scale, [.v (.string vb1_0), .v (.int .i64 vb1_1), .ro .rcd vb1_2]⟩)], []⟩ k' =
    (cond (decide (vs4 < (vb1_2.length : Int)))
    (cond (decide (ByteArray.size vs3 + ByteArray.size (bs [32]) ≤ 9223372036854775807))
      (cond ((decide ((0 : Int) ≤ vs4)) && (decide (vs4 < (vb1_2.length : Int))))
        (cond (okI (RcdT.time (atI (t := .rcd) vb1_2 (Int.toNat vs4))))
          (cond (decide (ByteArray.size (vs3 ++ (bs [32])) + ByteArray.size (digS (RcdT.time (atI (t := .rcd) vb1_2 (Int.toNat vs4)))) ≤ 9223372036854775807))
            (cond (decide (ByteArray.size ((vs3 ++ (bs [32])) ++ (digS (RcdT.time (atI (t := .rcd) vb1_2 (Int.toNat vs4))))) + ByteArray.size (bs [58]) ≤ 9223372036854775807))
              (cond ((decide ((0 : Int) ≤ vs4)) && (decide (vs4 < (vb1_2.length : Int))))
                (cond (okI (RcdT.n (atI (t := .rcd) vb1_2 (Int.toNat vs4))))
                  (cond (decide (ByteArray.size (((vs3 ++ (bs [32])) ++ (digS (RcdT.time (atI (t := .rcd) vb1_2 (Int.toNat vs4))))) ++ (bs [58])) + ByteArray.size (digS (RcdT.n (atI (t := .rcd) vb1_2 (Int.toNat vs4)))) ≤ 9223372036854775807))
                    (k' .normal ⟨[(1, .c (.one (.pt 1 0))), (3, .c (.one (.v (.string ((((vs3 ++ (bs [32])) ++ (digS (RcdT.time (atI (t := .rcd) vb1_2 (Int.toNat vs4))))) ++ (bs [58])) ++ (digS (RcdT.n (atI (t := .rcd) vb1_2 (Int.toNat vs4))))))))), (4, .c (.one (.v (.int .i64 (IntKind.wrap .i64 (vs4 + (1 : Int)))))))], [(1, ⟨.scale, [.v (.string vb1_0), .v (.int .i64 vb1_1), .ro .rcd vb1_2]⟩)], []⟩)
                    none)
                  none)
                none)
              none)
            none)
          none)
        none)
      none)
    (k' (.exit 0) ⟨[(1, .c (.one (.pt 1 0))), (3, .c (.one (.v (.string vs3)))), (4, .c (.one (.v (.int .i64 vs4)))), (16, .c (.one (.v (.bool (decide (vs4 < (vb1_2.length : Int)))))))], [(1, ⟨.scale, [.v (.string vb1_0), .v (.int .i64 vb1_1), .ro .rcd vb1_2]⟩)], []⟩)) := by kernel_rfl
theorem f12L0_eq {R : Type} (n : Nat) (k' : Ex → St → Option R) (vb1_0 : ByteArray) (vb1_1 : Int) (vb1_2 : List RcdT) : ∀ (m : Nat) (vs3 : ByteArray) (vs4 : Int), iter (fun st k => ev f12e f12k n (cAt [1,1,0,1,0,0] f12c) st k) m ⟨[(1, .c (.one (.pt 1 0))), (3, .c (.one (.v (.string vs3)))), (4, .c (.one (.v (.int .i64 vs4))))], [(1, ⟨.scale, [.v (.string vb1_0), .v (.int .i64 vb1_1), .ro .rcd vb1_2]⟩)], []⟩ k' = f12L0 n (fun (xvs3 : ByteArray) (xvs4 : Int) (xvs16 : Bool) => k' (.exit 0) ⟨[(1, .c (.one (.pt 1 0))), (3, .c (.one (.v (.string xvs3)))), (4, .c (.one (.v (.int .i64 xvs4)))), (16, .c (.one (.v (.bool xvs16))))], [(1, ⟨.scale, [.v (.string vb1_0), .v (.int .i64 vb1_1), .ro .rcd vb1_2]⟩)], []⟩) vb1_0 vb1_1 vb1_2 m vs3 vs4 := by
  intro m; induction m with
  | zero => intros; rfl
  | succ m ih =>
    intro vs3 vs4
    simp only [iter]
    rw [f12L0_b]
    simp only [ih, f12L0]

noncomputable def f12K0 {R : Type} (n : Nat) (k' : Ex → St → Option R) : Ex → St → Option R := (blockK 0 (seqK f12e f12k n (cAt [1,1,1] f12c) k'))
theorem f12K0_x0 {R : Type} (n : Nat) (k : List Dt → Option R) (a0 : ScaleT) (vb1_0 : ByteArray) (vb1_1 : Int) (vb1_2 : List RcdT) (xvs3 : ByteArray) (xvs4 : Int) (xvs16 : Bool) : f12K0 n (exitK f12e [.ro] [false] true [.tmp 2] [9] [.d .scale a0] k) (.exit 0) ⟨[(1, .c (.one (.pt 1 0))), (3, .c (.one (.v (.string xvs3)))), (4, .c (.one (.v (.int .i64 xvs4)))), (16, .c (.one (.v (.bool xvs16))))], [(1, ⟨.scale, [.v (.string vb1_0), .v (.int .i64 vb1_1), .ro .rcd vb1_2]⟩)], []⟩ =
    (k [.d .str xvs3]) := by kernel_rfl

theorem f12_run {R : Type} (n : Nat) (k : List Dt → Option R) (a0 : ScaleT) : evFn f12e f12k n f12c [.ro] [false] true [.tmp 2] [9] [.d .scale a0] k =
    (cond (decide (ByteArray.size (ScaleT.name a0) + ByteArray.size (bs [32]) ≤ 9223372036854775807))
    (cond (okI (ScaleT.now a0))
      (cond (decide (ByteArray.size ((ScaleT.name a0) ++ (bs [32])) + ByteArray.size (digS (ScaleT.now a0)) ≤ 9223372036854775807))
        (f12L0 n (fun (xvs3 : ByteArray) (xvs4 : Int) (xvs16 : Bool) =>
          (k [.d .str xvs3])) (ScaleT.name a0) (ScaleT.now a0) (ScaleT.recs a0) n (((ScaleT.name a0) ++ (bs [32])) ++ (digS (ScaleT.now a0))) (0 : Int))
        none)
      none)
    none) := by
  refine Eq.trans (b := (cond (decide (ByteArray.size (ScaleT.name a0) + ByteArray.size (bs [32]) ≤ 9223372036854775807))
    (cond (okI (ScaleT.now a0))
      (cond (decide (ByteArray.size ((ScaleT.name a0) ++ (bs [32])) + ByteArray.size (digS (ScaleT.now a0)) ≤ 9223372036854775807))
        (iter (fun st k => ev f12e f12k n (cAt [1,1,0,1,0,0] f12c) st k) n ⟨[(1, .c (.one (.pt 1 0))), (3, .c (.one (.v (.string (((ScaleT.name a0) ++ (bs [32])) ++ (digS (ScaleT.now a0))))))), (4, .c (.one (.v (.int .i64 (0 : Int)))))], [(1, ⟨.scale, [.v (.string (ScaleT.name a0)), .v (.int .i64 (ScaleT.now a0)), .ro .rcd (ScaleT.recs a0)]⟩)], []⟩ (f12K0 n (exitK f12e [.ro] [false] true [.tmp 2] [9] [.d .scale a0] k)))
        none)
      none)
    none)) (by kernel_rfl) ?_
  simp only [f12L0_eq, f12K0_x0]
theorem f12_spec (a0 : ScaleT) (hg : sm_scale a0 = true) : ∃ keep rounds, ∀ {R : Type} (k : List Dt → Option R), evFn f12e keep rounds f12c [.ro] [false] true [.tmp 2] [9] [.d .scale a0] k = k [.d .str (scaleText a0)] := by
  simp only [sm_scale, Bool.and_eq_true] at hg
  obtain ⟨hn, hv, hr⟩ := hg
  have hn : a0.name.size ≤ 1048576 := bleN hn
  have hd := digS_size hv
  have hl := smL_len hr
  have hr' := smL_all hr
  refine ⟨f12k, a0.recs.length + 1, fun {R} k => ?_⟩
  rw [f12_run]
  rw [hv, app_le (by first | (simp only [ByteArray.size_append, bs_size, List.length_cons, List.length_nil]; omega) | omega), app_le (by first | (simp only [ByteArray.size_append, bs_size, List.length_cons, List.length_nil]; omega) | omega)]
  simp only [cond_true]
  refine Eq.trans (loop_acc (xs := a0.recs) (F := fun m j out => f12L0 (a0.recs.length + 1) _ a0.name a0.now a0.recs m out (j : Int)) (f := recText) (good := fun out => k [.d .str out]) (fun j out => out.size ≤ 1048676 + 100 * j)
    (fun j out x hx hi => ?_) (fun m j out x hx hi => ?_) (fun m out hi => by simp only [f12L0, idxE, cond_false]) a0.recs.length 0 (a0.recs.length + 1) (a0.name ++ bs [32] ++ digS a0.now) (by omega) (by omega) (by first | (simp only [ByteArray.size_append, bs_size, List.length_cons, List.length_nil]; omega) | omega)) ?_
  · have hx := List.all_eq_true.1 hr' x (List.mem_of_getElem? hx)
    simp only [sm_rcd, Bool.and_eq_true] at hx
    have h1 := digS_size hx.1
    have h2 := digS_size hx.2
    show (recText out x).size ≤ _
    unfold recText
    simp only [ByteArray.size_append, bs_size, List.length_cons, List.length_nil]; omega
  · obtain ⟨h1, h0, hw, ht⟩ := idx (lt_of_get hx) (by omega)
    have hj := lt_of_get hx
    have hx2 := List.all_eq_true.1 hr' x (List.mem_of_getElem? hx)
    simp only [sm_rcd, Bool.and_eq_true] at hx2
    have d1 := digS_size hx2.1
    have d2 := digS_size hx2.2
    simp only [f12L0, h1, h0, hw, ht, atI_of (t := .rcd) hx, Bool.and_self, cond_true, hx2.1, hx2.2]
    rw [app_le (by first | (simp only [ByteArray.size_append, bs_size, List.length_cons, List.length_nil]; omega) | omega), app_le (by first | (simp only [ByteArray.size_append, bs_size, List.length_cons, List.length_nil]; omega) | omega), app_le (by first | (simp only [ByteArray.size_append, bs_size, List.length_cons, List.length_nil]; omega) | omega), app_le (by first | (simp only [ByteArray.size_append, bs_size, List.length_cons, List.length_nil]; omega) | omega)]
    simp only [cond_true]
    rfl
  · rfl

noncomputable def q12 : List Dt → Option (Bool × List Dt)
  | [.d .scale a0] => some ((sm_scale a0), [.d .str (scaleText a0)])
  | _ => none
noncomputable def s12 : Gm.Spec := Gm.Spec.of [.ro] [false] true q12
theorem good12 : Gm.Good Try.prog (12, s12) := by
  have hl : ∀ x ∈ [(27, s27)], Gm.Good Try.prog x := List.forall_mem_cons.2 ⟨good27, List.forall_mem_nil _⟩
  refine ⟨⟨spec_ok (tab_ok.env hl) (tab.natl hl) Try.func12 (by kernel_rfl : Try.f12.body = some f12c) [9] (by kernel_rfl) ?_, _, Try.func12, by kernel_rfl, of_decide_eq_true (by kernel_rfl)⟩, Gm.Spec.of_natl _ _ _ _⟩
  intro ds outs h
  unfold q12 at h
  split at h
  · simp only [Option.some.injEq, Prod.mk.injEq] at h; obtain ⟨hg, h⟩ := h; cases h; exact f12_spec _ hg
  · cases h
end Go.Proofs.Ythjkdgbijfkmaaa

/- x -/
namespace Go.Proofs.Ythjkdgbijfkmaaa
open Go Go.Gm
/-! ### loop.example/g00465/impl.isAmount -/
noncomputable def f62c : Code := (Try.f62.body).getD .skip
def f62k : Nat → Kp := kat [⟨[0], []⟩, ⟨[2], []⟩]
noncomputable def f62e : Env := tab.env [(28, s28)]
theorem f62_run {R : Type} (n : Nat) (k : List Dt → Option R) (a0 : Int) : evFn f62e f62k n f62c [.ro] [false] true [.tmp 2] [4] [.d (.i .i64) a0] k =
    (k [.d .bool (inR a0 (0 : Int) (1000000000000 : Int))]) := by kernel_rfl
theorem f62_spec (a0 : Int) : ∃ keep rounds, ∀ {R : Type} (k : List Dt → Option R), evFn f62e keep rounds f62c [.ro] [false] true [.tmp 2] [4] [.d (.i .i64) a0] k = k [.d .bool (isAmt a0)] := by
  exact ⟨f62k, 0, fun k => f62_run 0 k a0⟩

noncomputable def q62 : List Dt → Option (Bool × List Dt)
  | [.d (.i .i64) a0] => some (true, [.d .bool (isAmt a0)])
  | _ => none
noncomputable def s62 : Gm.Spec := Gm.Spec.of [.ro] [false] true q62
theorem good62 : Gm.Good Try.prog (62, s62) := by
  have hl : ∀ x ∈ [(28, s28)], Gm.Good Try.prog x := List.forall_mem_cons.2 ⟨good28, List.forall_mem_nil _⟩
  refine ⟨⟨spec_ok (tab_ok.env hl) (tab.natl hl) Try.func62 (by kernel_rfl : Try.f62.body = some f62c) [4] (by kernel_rfl) ?_, _, Try.func62, by kernel_rfl, of_decide_eq_true (by kernel_rfl)⟩, Gm.Spec.of_natl _ _ _ _⟩
  intro ds outs h
  unfold q62 at h
  split at h
  · cases h; exact f62_spec _
  · cases h
/-! ### loop.example/g00465/impl.AmountText -/
noncomputable def f42c : Code := (Try.f42.body).getD .skip
def f42k : Nat → Kp := kat [⟨[0], []⟩, ⟨[0, 3], []⟩, ⟨[2], []⟩, ⟨[0, 7], []⟩, ⟨[2], []⟩, ⟨[0, 19], []⟩, ⟨[2], []⟩, ⟨[2], []⟩]
noncomputable def f42e : Env := tab.env [(30, s30), (62, s62)]
theorem f42_run {R : Type} (n : Nat) (k : List Dt → Option R) (a0 : Int) : evFn f42e f42k n f42c [.ro] [false] true [.tmp 2] [9] [.d (.i .i64) a0] k =
    (cond (!(isAmt a0))
    (k [.d .str ByteArray.empty])
    (cond (a0 != (0 : Int))
      (cond ((Int.tmod a0 (1000000 : Int)) == (0 : Int))
        (cond (okI (IntKind.wrap .i64 (Int.tdiv a0 (1000000 : Int))))
          (cond (decide (ByteArray.size (digS (IntKind.wrap .i64 (Int.tdiv a0 (1000000 : Int)))) + ByteArray.size (bs [107]) ≤ 9223372036854775807))
            (k [.d .str ((digS (IntKind.wrap .i64 (Int.tdiv a0 (1000000 : Int)))) ++ (bs [107]))])
            none)
          none)
        (cond ((Int.tmod a0 (1000 : Int)) == (0 : Int))
          (cond (okI (IntKind.wrap .i64 (Int.tdiv a0 (1000 : Int))))
            (k [.d .str (digS (IntKind.wrap .i64 (Int.tdiv a0 (1000 : Int))))])
            none)
          (cond (okI a0)
            (cond (decide (ByteArray.size (digS a0) + ByteArray.size (bs [109]) ≤ 9223372036854775807))
              (k [.d .str ((digS a0) ++ (bs [109]))])
              none)
            none)))
      (cond ((Int.tmod a0 (1000 : Int)) == (0 : Int))
        (cond (okI (IntKind.wrap .i64 (Int.tdiv a0 (1000 : Int))))
          (k [.d .str (digS (IntKind.wrap .i64 (Int.tdiv a0 (1000 : Int))))])
          none)
        (cond (okI a0)
          (cond (decide (ByteArray.size (digS a0) + ByteArray.size (bs [109]) ≤ 9223372036854775807))
            (k [.d .str ((digS a0) ++ (bs [109]))])
            none)
          none)))) := by kernel_rfl
theorem f42_spec (a0 : Int) (hg : okI a0 = true) : ∃ keep rounds, ∀ {R : Type} (k : List Dt → Option R), evFn f42e keep rounds f42c [.ro] [false] true [.tmp 2] [9] [.d (.i .i64) a0] k = k [.d .str (amtText a0)] := by
  refine ⟨f42k, 0, fun {R} k => ?_⟩
  rw [f42_run]
  show _ = k [.d .str (amtText a0)]
  unfold amtText
  cases h : isAmt a0 with
  | false => rfl
  | true =>
    have h1 := tdiv_bd (d := 1000000) h (by omega)
    have h2 := tdiv_bd (d := 1000) h (by omega)
    have o1 : okI (Int.tdiv a0 1000000) = true := okI_of (by omega) (by omega)
    have o2 : okI (Int.tdiv a0 1000) = true := okI_of (by omega) (by omega)
    have s1 := digS_size o1
    have s3 := digS_size hg
    rw [wrap_id (x := Int.tdiv a0 1000000) (by omega) (by omega), wrap_id (x := Int.tdiv a0 1000) (by omega) (by omega), o1, o2, hg, app_le (by first | (simp only [ByteArray.size_append, bs_size, List.length_cons, List.length_nil]; omega) | omega), app_le (by first | (simp only [ByteArray.size_append, bs_size, List.length_cons, List.length_nil]; omega) | omega)]
    simp only [Bool.not_true, cond_true, cond_false]
    cases a0 != (0 : Int) <;> cases Int.tmod a0 1000000 == (0 : Int) <;> cases Int.tmod a0 1000 == (0 : Int) <;> rfl

noncomputable def q42 : List Dt → Option (Bool × List Dt)
  | [.d (.i .i64) a0] => some ((okI a0), [.d .str (amtText a0)])
  | _ => none
noncomputable def s42 : Gm.Spec := Gm.Spec.of [.ro] [false] true q42
theorem good42 : Gm.Good Try.prog (42, s42) := by
  have hl : ∀ x ∈ [(30, s30), (62, s62)], Gm.Good Try.prog x := List.forall_mem_cons.2 ⟨good30, List.forall_mem_cons.2 ⟨good62, List.forall_mem_nil _⟩⟩
  refine ⟨⟨spec_ok (tab_ok.env hl) (tab.natl hl) Try.func42 (by kernel_rfl : Try.f42.body = some f42c) [9] (by kernel_rfl) ?_, _, Try.func42, by kernel_rfl, of_decide_eq_true (by kernel_rfl)⟩, Gm.Spec.of_natl _ _ _ _⟩
  intro ds outs h
  unfold q42 at h
  split at h
  · simp only [Option.some.injEq, Prod.mk.injEq] at h; obtain ⟨hg, h⟩ := h; cases h; exact f42_spec _ hg
  · cases h
/-! ### loop.example/g00465/spec.AmountText -/
noncomputable def f37c : Code := (Try.f37.body).getD .skip
def f37k : Nat → Kp := kat [⟨[0], []⟩, ⟨[0, 3], []⟩, ⟨[2], []⟩, ⟨[0, 7], []⟩, ⟨[2], []⟩, ⟨[0, 19], []⟩, ⟨[2], []⟩, ⟨[2], []⟩]
noncomputable def f37e : Env := tab.env [(26, s26), (27, s27)]
theorem f37_run {R : Type} (n : Nat) (k : List Dt → Option R) (a0 : Int) : evFn f37e f37k n f37c [.ro] [false] true [.tmp 2] [9] [.d (.i .i64) a0] k =
    (cond (!(inR a0 (0 : Int) (1000000000000 : Int)))
    (k [.d .str ByteArray.empty])
    (cond (decide (a0 > (0 : Int)))
      (cond ((Int.tmod a0 (1000000 : Int)) == (0 : Int))
        (cond (okI (IntKind.wrap .i64 (Int.tdiv a0 (1000000 : Int))))
          (cond (decide (ByteArray.size (digS (IntKind.wrap .i64 (Int.tdiv a0 (1000000 : Int)))) + ByteArray.size (bs [107]) ≤ 9223372036854775807))
            (k [.d .str ((digS (IntKind.wrap .i64 (Int.tdiv a0 (1000000 : Int)))) ++ (bs [107]))])
            none)
          none)
        (cond ((Int.tmod a0 (1000 : Int)) == (0 : Int))
          (cond (okI (IntKind.wrap .i64 (Int.tdiv a0 (1000 : Int))))
            (k [.d .str (digS (IntKind.wrap .i64 (Int.tdiv a0 (1000 : Int))))])
            none)
          (cond (okI a0)
            (cond (decide (ByteArray.size (digS a0) + ByteArray.size (bs [109]) ≤ 9223372036854775807))
              (k [.d .str ((digS a0) ++ (bs [109]))])
              none)
            none)))
      (cond ((Int.tmod a0 (1000 : Int)) == (0 : Int))
        (cond (okI (IntKind.wrap .i64 (Int.tdiv a0 (1000 : Int))))
          (k [.d .str (digS (IntKind.wrap .i64 (Int.tdiv a0 (1000 : Int))))])
          none)
        (cond (okI a0)
          (cond (decide (ByteArray.size (digS a0) + ByteArray.size (bs [109]) ≤ 9223372036854775807))
            (k [.d .str ((digS a0) ++ (bs [109]))])
            none)
          none)))) := by kernel_rfl
theorem f37_spec (a0 : Int) (hg : okI a0 = true) : ∃ keep rounds, ∀ {R : Type} (k : List Dt → Option R), evFn f37e keep rounds f37c [.ro] [false] true [.tmp 2] [9] [.d (.i .i64) a0] k = k [.d .str (amtText a0)] := by
  refine ⟨f37k, 0, fun {R} k => ?_⟩
  rw [f37_run]
  show _ = k [.d .str (amtText a0)]
  unfold amtText
  rw [show inR a0 0 1000000000000 = isAmt a0 from rfl]
  cases h : isAmt a0 with
  | false => rfl
  | true =>
    have h1 := tdiv_bd (d := 1000000) h (by omega)
    have h2 := tdiv_bd (d := 1000) h (by omega)
    have o1 : okI (Int.tdiv a0 1000000) = true := okI_of (by omega) (by omega)
    have o2 : okI (Int.tdiv a0 1000) = true := okI_of (by omega) (by omega)
    have s1 := digS_size o1
    have s3 := digS_size hg
    rw [wrap_id (x := Int.tdiv a0 1000000) (by omega) (by omega), wrap_id (x := Int.tdiv a0 1000) (by omega) (by omega), o1, o2, hg, app_le (by first | (simp only [ByteArray.size_append, bs_size, List.length_cons, List.length_nil]; omega) | omega), app_le (by first | (simp only [ByteArray.size_append, bs_size, List.length_cons, List.length_nil]; omega) | omega)]
    simp only [Bool.not_true, cond_true, cond_false, show decide (a0 > 0) = (a0 != (0 : Int)) from by have h0 := inR_iff.1 (show inR a0 0 1000000000000 = true from h); rw [Bool.eq_iff_iff]; simp; omega]
    cases a0 != (0 : Int) <;> cases Int.tmod a0 1000000 == (0 : Int) <;> cases Int.tmod a0 1000 == (0 : Int) <;> rfl

noncomputable def q37 : List Dt → Option (Bool × List Dt)
  | [.d (.i .i64) a0] => some ((okI a0), [.d .str (amtText a0)])
  | _ => none
noncomputable def s37 : Gm.Spec := Gm.Spec.of [.ro] [false] true q37
theorem good37 : Gm.Good Try.prog (37, s37) := by
  have hl : ∀ x ∈ [(26, s26), (27, s27)], Gm.Good Try.prog x := List.forall_mem_cons.2 ⟨good26, List.forall_mem_cons.2 ⟨good27, List.forall_mem_nil _⟩⟩
  refine ⟨⟨spec_ok (tab_ok.env hl) (tab.natl hl) Try.func37 (by kernel_rfl : Try.f37.body = some f37c) [9] (by kernel_rfl) ?_, _, Try.func37, by kernel_rfl, of_decide_eq_true (by kernel_rfl)⟩, Gm.Spec.of_natl _ _ _ _⟩
  intro ds outs h
  unfold q37 at h
  split at h
  · simp only [Option.some.injEq, Prod.mk.injEq] at h; obtain ⟨hg, h⟩ := h; cases h; exact f37_spec _ hg
  · cases h
/-! ### loop.example/g00465/impl.kindWord -/
noncomputable def f41c : Code := (Try.f41.body).getD .skip
def f41k : Nat → Kp := kat [⟨[0], []⟩, ⟨[3], []⟩, ⟨[3, 4], []⟩, ⟨[2], []⟩, ⟨[3, 6], []⟩, ⟨[2], []⟩, ⟨[8], []⟩, ⟨[2], []⟩, ⟨[2], []⟩]
noncomputable def f41e : Env := tab.env []
theorem f41_run {R : Type} (n : Nat) (k : List Dt → Option R) (a0 : Int) : evFn f41e f41k n f41c [.ro] [false] true [.tmp 2] [9] [.d (.i .i64) a0] k =
    (cond (a0 == (1 : Int))
    (k [.d .str (bs [115,104,97,114,101])])
    (cond (a0 == (2 : Int))
      (k [.d .str (bs [109,101,97,110])])
      (cond (a0 == (3 : Int))
        (k [.d .str (bs [119,104,111,108,101])])
        (k [.d .str (bs [110,111,110,101])])))) := by kernel_rfl
theorem f41_spec (a0 : Int) : ∃ keep rounds, ∀ {R : Type} (k : List Dt → Option R), evFn f41e keep rounds f41c [.ro] [false] true [.tmp 2] [9] [.d (.i .i64) a0] k = k [.d .str (kindW a0)] := by
  refine ⟨f41k, 0, fun k => ?_⟩
  rw [f41_run]; unfold kindW
  cases a0 == (1 : Int) <;> cases a0 == (2 : Int) <;> cases a0 == (3 : Int) <;> rfl

noncomputable def q41 : List Dt → Option (Bool × List Dt)
  | [.d (.i .i64) a0] => some (true, [.d .str (kindW a0)])
  | _ => none
noncomputable def s41 : Gm.Spec := Gm.Spec.of [.ro] [false] true q41
theorem good41 : Gm.Good Try.prog (41, s41) := by
  have hl : ∀ x ∈ ([] : List (Nat × Gm.Spec)), Gm.Good Try.prog x := fun _ h => by cases h
  refine ⟨⟨spec_ok (tab_ok.env hl) (tab.natl hl) Try.func41 (by kernel_rfl : Try.f41.body = some f41c) [9] (by kernel_rfl) ?_, _, Try.func41, by kernel_rfl, of_decide_eq_true (by kernel_rfl)⟩, Gm.Spec.of_natl _ _ _ _⟩
  intro ds outs h
  unfold q41 at h
  split at h
  · cases h; exact f41_spec _
  · cases h
/-! ### loop.example/g00465/spec.l7Kind -/
noncomputable def f36c : Code := (Try.f36.body).getD .skip
def f36k : Nat → Kp := kat [⟨[0], []⟩, ⟨[0, 5], []⟩, ⟨[2], []⟩, ⟨[2], []⟩]
noncomputable def f36e : Env := tab.env [(26, s26)]
theorem f36_run {R : Type} (n : Nat) (k : List Dt → Option R) (a0 : Int) : evFn f36e f36k n f36c [.ro] [false] true [.tmp 2] [9] [.d (.i .i64) a0] k =
    (cond (!(inR a0 (1 : Int) (3 : Int)))
    (k [.d .str (bs [110,111,110,101])])
    (cond ((decide ((0 : Int) ≤ a0)) && (decide (a0 < (4 : Int))))
      (k [.d .str (atI (t := .str) ([ByteArray.empty, (bs [115,104,97,114,101]), (bs [109,101,97,110]), (bs [119,104,111,108,101])] : List ByteArray) (Int.toNat a0))])
      none)) := by kernel_rfl
theorem f36_spec (a0 : Int) : ∃ keep rounds, ∀ {R : Type} (k : List Dt → Option R), evFn f36e keep rounds f36c [.ro] [false] true [.tmp 2] [9] [.d (.i .i64) a0] k = k [.d .str (kindW a0)] := by
  refine ⟨f36k, 0, fun k => ?_⟩
  rw [f36_run]
  show _ = k [.d .str (kindW a0)]
  cases h : inR a0 1 3 with
  | true =>
    have h2 := inR_iff.1 h
    have : a0 = 1 ∨ a0 = 2 ∨ a0 = 3 := by omega
    rcases this with rfl | rfl | rfl <;> rfl
  | false =>
    have hn : ¬ (1 ≤ a0 ∧ a0 ≤ 3) := fun hh => by rw [inR_iff.2 hh] at h; cases h
    unfold kindW
    rw [beq_eq_false_iff_ne.2 (show a0 ≠ 1 by omega), beq_eq_false_iff_ne.2 (show a0 ≠ 2 by omega), beq_eq_false_iff_ne.2 (show a0 ≠ 3 by omega)]
    rfl

noncomputable def q36 : List Dt → Option (Bool × List Dt)
  | [.d (.i .i64) a0] => some (true, [.d .str (kindW a0)])
  | _ => none
noncomputable def s36 : Gm.Spec := Gm.Spec.of [.ro] [false] true q36
theorem good36 : Gm.Good Try.prog (36, s36) := by
  have hl : ∀ x ∈ [(26, s26)], Gm.Good Try.prog x := List.forall_mem_cons.2 ⟨good26, List.forall_mem_nil _⟩
  refine ⟨⟨spec_ok (tab_ok.env hl) (tab.natl hl) Try.func36 (by kernel_rfl : Try.f36.body = some f36c) [9] (by kernel_rfl) ?_, _, Try.func36, by kernel_rfl, of_decide_eq_true (by kernel_rfl)⟩, Gm.Spec.of_natl _ _ _ _⟩
  intro ds outs h
  unfold q36 at h
  split at h
  · cases h; exact f36_spec _
  · cases h
/-! ### loop.example/g00465/impl.OrderText -/
noncomputable def f19c : Code := (Try.f19.body).getD .skip
def f19k : Nat → Kp := kat [⟨[1], []⟩, ⟨[1, 3], []⟩, ⟨[3, 21, 22, 23], []⟩, ⟨[3, 21, 22, 23, 24], []⟩, ⟨[3, 5, 21, 22, 23], []⟩, ⟨[3, 21, 22, 23], []⟩, ⟨[3, 21, 22, 23], []⟩, ⟨[2], []⟩]
noncomputable def f19e : Env := tab.env [(29, s29), (30, s30), (41, s41), (42, s42)]
noncomputable def f19L0 {R : Type} (n : Nat) (x0 : ByteArray → Int → Bool → Option R) (vs21 : List MetricT) (vs22 : Int) : Nat → ByteArray → Int → Option R
  | 0, _, _ => none
  | m + 1, vs3, vs23 =>
    (cond (decide (vs23 < vs22))
      (cond ((decide ((0 : Int) ≤ vs23)) && (decide (vs23 < (vs21.length : Int))))
        (cond (decide (ByteArray.size (MetricT.name (atI (t := .metric) vs21 (Int.toNat vs23))) + ByteArray.size (bs [58]) ≤ 9223372036854775807))
          (cond (decide (ByteArray.size ((MetricT.name (atI (t := .metric) vs21 (Int.toNat vs23))) ++ (bs [58])) + ByteArray.size (kindW (MetricT.kind (atI (t := .metric) vs21 (Int.toNat vs23)))) ≤ 9223372036854775807))
            (cond (decide (ByteArray.size (((MetricT.name (atI (t := .metric) vs21 (Int.toNat vs23))) ++ (bs [58])) ++ (kindW (MetricT.kind (atI (t := .metric) vs21 (Int.toNat vs23))))) + ByteArray.size (bs [61]) ≤ 9223372036854775807))
              (cond (okI (MetricT.goal (atI (t := .metric) vs21 (Int.toNat vs23))))
                (cond (decide (ByteArray.size ((((MetricT.name (atI (t := .metric) vs21 (Int.toNat vs23))) ++ (bs [58])) ++ (kindW (MetricT.kind (atI (t := .metric) vs21 (Int.toNat vs23))))) ++ (bs [61])) + ByteArray.size (amtText (MetricT.goal (atI (t := .metric) vs21 (Int.toNat vs23)))) ≤ 9223372036854775807))
                  (cond (gSpaced ([vs3, (((((MetricT.name (atI (t := .metric) vs21 (Int.toNat vs23))) ++ (bs [58])) ++ (kindW (MetricT.kind (atI (t := .metric) vs21 (Int.toNat vs23))))) ++ (bs [61])) ++ (amtText (MetricT.goal (atI (t := .metric) vs21 (Int.toNat vs23)))))] : List ByteArray))
                    (f19L0 n x0 vs21 vs22 m (spaced ([vs3, (((((MetricT.name (atI (t := .metric) vs21 (Int.toNat vs23))) ++ (bs [58])) ++ (kindW (MetricT.kind (atI (t := .metric) vs21 (Int.toNat vs23))))) ++ (bs [61])) ++ (amtText (MetricT.goal (atI (t := .metric) vs21 (Int.toNat vs23)))))] : List ByteArray)) (IntKind.wrap .i64 (vs23 + (1 : Int))))
                    none)
                  none)
                none)
              none)
            none)
          none)
        none)
      (x0 vs3 vs23 (decide (vs23 < vs22))))
theorem f19L0_b {R : Type} (n : Nat) (k' : Ex → St → Option R) (vs3 : ByteArray) (vs21 : List MetricT) (vs22 : Int) (vs23 : Int) : ev f19e f19k n (cAt [1,1,0,1,0,0] f19c) ⟨[(3, .c (.one (.v (.string vs3)))), (21, .c (.one (.ro .metric vs21))), (22, .c (.one (.v (.int .i64 vs22)))), (23, .c (.one (.v (.int .i64 vs23))))], [], []⟩ k' =
    (cond (decide (vs23 < vs22))
    (cond ((decide ((0 : Int) ≤ vs23)) && (decide (vs23 < (vs21.length : Int))))
      (cond (decide (ByteArray.size (MetricT.name (atI (t := .metric) vs21 (Int.toNat vs23))) + ByteArray.size (bs [58]) ≤ 9223372036854775807))
        (cond (decide (ByteArray.size ((MetricT.name (atI (t := .metric) vs21 (Int.toNat vs23))) ++ (bs [58])) + ByteArray.size (kindW (MetricT.kind (atI (t := .metric) vs21 (Int.toNat vs23)))) ≤ 9223372036854775807))
          (cond (decide (ByteArray.size (((MetricT.name (atI (t := .metric) vs21 (Int.toNat vs23))) ++ (bs [58])) ++ (kindW (MetricT.kind (atI (t := .metric) vs21 (Int.toNat vs23))))) + ByteArray.size (bs [61]) ≤ 9223372036854775807))
            (cond (okI (MetricT.goal (atI (t := .metric) vs21 (Int.toNat vs23))))
              (cond (decide (ByteArray.size ((((MetricT.name (atI (t := .metric) vs21 (Int.toNat vs23))) ++ (bs [58])) ++ (kindW (MetricT.kind (atI (t := .metric) vs21 (Int.toNat vs23))))) ++ (bs [61])) + ByteArray.size (amtText (MetricT.goal (atI (t := .metric) vs21 (Int.toNat vs23)))) ≤ 9223372036854775807))
                (cond (gSpaced ([vs3, (((((MetricT.name (atI (t := .metric) vs21 (Int.toNat vs23))) ++ (bs [58])) ++ (kindW (MetricT.kind (atI (t := .metric) vs21 (Int.toNat vs23))))) ++ (bs [61])) ++ (amtText (MetricT.goal (atI (t := .metric) vs21 (Int.toNat vs23)))))] : List ByteArray))
                  (k' .normal ⟨[(3, .c (.one (.v (.string (spaced ([vs3, (((((MetricT.name (atI (t := .metric) vs21 (Int.toNat vs23))) ++ (bs [58])) ++ (kindW (MetricT.kind (atI (t := .metric) vs21 (Int.toNat vs23))))) ++ (bs [61])) ++ (amtText (MetricT.goal (atI (t := .metric) vs21 (Int.toNat vs23)))))] : List ByteArray)))))), (21, .c (.one (.ro .metric vs21))), (22, .c (.one (.v (.int .i64 vs22)))), (23, .c (.one (.v (.int .i64 (IntKind.wrap .i64 (vs23 + (1 : Int)))))))], [], []⟩)
                  none)
                none)
              none)
            none)
          none)
        none)
      none)
    (k' (.exit 0) ⟨[(3, .c (.one (.v (.string vs3)))), (21, .c (.one (.ro .metric vs21))), (22, .c (.one (.v (.int .i64 vs22)))), (23, .c (.one (.v (.int .i64 vs23)))), (24, .c (.one (.v (.bool (decide (vs23 < vs22))))))], [], []⟩)) := by kernel_rfl
theorem f19L0_eq {R : Type} (n : Nat) (k' : Ex → St → Option R) (vs21 : List MetricT) (vs22 : Int) : ∀ (m : Nat) (vs3 : ByteArray) (vs23 : Int), iter (fun st k => ev f19e f19k n (cAt [1,1,0,1,0,0] f19c) st k) m ⟨[(3, .c (.one (.v (.string vs3)))), (21, .c (.one (.ro .metric vs21))), (22, .c (.one (.v (.int .i64 vs22)))), (23, .c (.one (.v (.int .i64 vs23))))], [], []⟩ k' = f19L0 n (fun (xvs3 : ByteArray) (xvs23 : Int) (xvs24 : Bool) => k' (.exit 0) ⟨[(3, .c (.one (.v (.string xvs3)))), (21, .c (.one (.ro .metric vs21))), (22, .c (.one (.v (.int .i64 vs22)))), (23, .c (.one (.v (.int .i64 xvs23)))), (24, .c (.one (.v (.bool xvs24))))], [], []⟩) vs21 vs22 m vs3 vs23 := by
  intro m; induction m with
  | zero => intros; rfl
  | succ m ih =>
    intro vs3 vs23
    simp only [iter]
    rw [f19L0_b]
    simp only [ih, f19L0]

noncomputable def f19K0 {R : Type} (n : Nat) (k' : Ex → St → Option R) : Ex → St → Option R := (blockK 0 (seqK f19e f19k n (cAt [1,1,1] f19c) k'))
theorem f19K0_x0 {R : Type} (n : Nat) (k : List Dt → Option R) (a0 : OrderT) (vs21 : List MetricT) (vs22 : Int) (xvs3 : ByteArray) (xvs23 : Int) (xvs24 : Bool) : f19K0 n (exitK f19e [.ro] [false] true [.tmp 2] [9] [.d .order a0] k) (.exit 0) ⟨[(3, .c (.one (.v (.string xvs3)))), (21, .c (.one (.ro .metric vs21))), (22, .c (.one (.v (.int .i64 vs22)))), (23, .c (.one (.v (.int .i64 xvs23)))), (24, .c (.one (.v (.bool xvs24))))], [], []⟩ =
    (k [.d .str xvs3]) := by kernel_rfl

theorem f19_run {R : Type} (n : Nat) (k : List Dt → Option R) (a0 : OrderT) : evFn f19e f19k n f19c [.ro] [false] true [.tmp 2] [9] [.d .order a0] k =
    (cond (decide (ByteArray.size (OrderT.name a0) + ByteArray.size (bs [62]) ≤ 9223372036854775807))
    (cond (decide (ByteArray.size ((OrderT.name a0) ++ (bs [62])) + ByteArray.size (OrderT.target a0) ≤ 9223372036854775807))
      (cond (okI (OrderT.low a0))
        (cond (okI (OrderT.high a0))
          (cond (gSpaced ([(((OrderT.name a0) ++ (bs [62])) ++ (OrderT.target a0)), (digS (OrderT.low a0)), (digS (OrderT.high a0))] : List ByteArray))
            (f19L0 n (fun (xvs3 : ByteArray) (xvs23 : Int) (xvs24 : Bool) =>
              (k [.d .str xvs3])) (OrderT.metrics a0) ((OrderT.metrics a0).length : Int) n (spaced ([(((OrderT.name a0) ++ (bs [62])) ++ (OrderT.target a0)), (digS (OrderT.low a0)), (digS (OrderT.high a0))] : List ByteArray)) (0 : Int))
            none)
          none)
        none)
      none)
    none) := by
  refine Eq.trans (b := (cond (decide (ByteArray.size (OrderT.name a0) + ByteArray.size (bs [62]) ≤ 9223372036854775807))
    (cond (decide (ByteArray.size ((OrderT.name a0) ++ (bs [62])) + ByteArray.size (OrderT.target a0) ≤ 9223372036854775807))
      (cond (okI (OrderT.low a0))
        (cond (okI (OrderT.high a0))
          (cond (gSpaced ([(((OrderT.name a0) ++ (bs [62])) ++ (OrderT.target a0)), (digS (OrderT.low a0)), (digS (OrderT.high a0))] : List ByteArray))
            (iter (fun st k => ev f19e f19k n (cAt [1,1,0,1,0,0] f19c) st k) n ⟨[(3, .c (.one (.v (.string (spaced ([(((OrderT.name a0) ++ (bs [62])) ++ (OrderT.target a0)), (digS (OrderT.low a0)), (digS (OrderT.high a0))] : List ByteArray)))))), (21, .c (.one (.ro .metric (OrderT.metrics a0)))), (22, .c (.one (.v (.int .i64 ((OrderT.metrics a0).length : Int))))), (23, .c (.one (.v (.int .i64 (0 : Int)))))], [], []⟩ (f19K0 n (exitK f19e [.ro] [false] true [.tmp 2] [9] [.d .order a0] k)))
            none)
          none)
        none)
      none)
    none)) (by kernel_rfl) ?_
  simp only [f19L0_eq, f19K0_x0]
theorem f19_spec (a0 : OrderT) (hg : sm_order a0 = true) : ∃ keep rounds, ∀ {R : Type} (k : List Dt → Option R), evFn f19e keep rounds f19c [.ro] [false] true [.tmp 2] [9] [.d .order a0] k = k [.d .str (orderText a0)] := by
  simp only [sm_order, Bool.and_eq_true] at hg
  obtain ⟨hn, ht, hlo, hhi, hm, _⟩ := hg
  have hn : a0.name.size ≤ 1048576 := bleN hn
  have ht : a0.target.size ≤ 1048576 := bleN ht
  have d1 := digS_size hlo
  have d2 := digS_size hhi
  have hl := smL_len hm
  have hma := smL_all hm
  refine ⟨f19k, a0.metrics.length + 1, fun {R} k => ?_⟩
  rw [f19_run, hlo, hhi]
  rw [app_le (by first | (simp only [ByteArray.size_append, bs_size, List.length_cons, List.length_nil]; omega) | omega), app_le (by first | (simp only [ByteArray.size_append, bs_size, List.length_cons, List.length_nil]; omega) | omega), gSpaced3 (by first | (simp only [ByteArray.size_append, bs_size, List.length_cons, List.length_nil]; omega) | omega)]
  simp only [cond_true]
  rw [show spaced [a0.name ++ bs [62] ++ a0.target, digS a0.low, digS a0.high] = a0.name ++ bs [62] ++ a0.target ++ bs [32] ++ digS a0.low ++ bs [32] ++ digS a0.high from joinS3 _ _ _ _]
  refine Eq.trans (loop_acc (xs := a0.metrics) (F := fun m j out => f19L0 (a0.metrics.length + 1) _ a0.metrics (a0.metrics.length : Int) m out (j : Int)) (f := metText) (good := fun out => k [.d .str out]) (fun j out => out.size ≤ 2097200 + 1048606 * j)
    (fun j out x hx hi => ?_) (fun m j out x hx hi => ?_) (fun m out hi => by simp only [f19L0, idxE, cond_false]) a0.metrics.length 0 (a0.metrics.length + 1) (a0.name ++ bs [62] ++ a0.target ++ bs [32] ++ digS a0.low ++ bs [32] ++ digS a0.high) (by omega) (by omega) (by first | (simp only [ByteArray.size_append, bs_size, List.length_cons, List.length_nil]; omega) | omega)) ?_
  · have := metText_size (out := out) (List.all_eq_true.1 hma x (List.mem_of_getElem? hx))
    have hi : out.size ≤ 2097200 + 1048606 * j := hi
    show (metText out x).size ≤ 2097200 + 1048606 * (j + 1)
    rw [Nat.mul_add_one, ← Nat.add_assoc]
    omega
  · obtain ⟨h1, h0, hw, ht⟩ := idx (lt_of_get hx) (by omega)
    have hj := lt_of_get hx
    have hx2 := List.all_eq_true.1 hma x (List.mem_of_getElem? hx)
    simp only [sm_metric, Bool.and_eq_true] at hx2
    have e1 : x.name.size ≤ 1048576 := bleN hx2.1
    have e2 := kindW_size x.kind
    have e3 := amtText_size x.goal
    simp only [f19L0, h1, h0, hw, ht, atI_of (t := .metric) hx, Bool.and_self, cond_true, hx2.2.2]
    rw [app_le (by first | (simp only [ByteArray.size_append, bs_size, List.length_cons, List.length_nil]; omega) | omega), app_le (by first | (simp only [ByteArray.size_append, bs_size, List.length_cons, List.length_nil]; omega) | omega), app_le (by first | (simp only [ByteArray.size_append, bs_size, List.length_cons, List.length_nil]; omega) | omega), app_le (by first | (simp only [ByteArray.size_append, bs_size, List.length_cons, List.length_nil]; omega) | omega), gSpaced2 (by first | (simp only [ByteArray.size_append, bs_size, List.length_cons, List.length_nil]; omega) | omega)]
    simp only [cond_true]
    rw [show spaced [out, x.name ++ bs [58] ++ kindW x.kind ++ bs [61] ++ amtText x.goal] = metText out x by unfold metText spaced; rw [joinS2]; simp only [ByteArray.append_assoc]]
  · rfl

noncomputable def q19 : List Dt → Option (Bool × List Dt)
  | [.d .order a0] => some ((sm_order a0), [.d .str (orderText a0)])
  | _ => none
noncomputable def s19 : Gm.Spec := Gm.Spec.of [.ro] [false] true q19
theorem good19 : Gm.Good Try.prog (19, s19) := by
  have hl : ∀ x ∈ [(29, s29), (30, s30), (41, s41), (42, s42)], Gm.Good Try.prog x := List.forall_mem_cons.2 ⟨good29, List.forall_mem_cons.2 ⟨good30, List.forall_mem_cons.2 ⟨good41, List.forall_mem_cons.2 ⟨good42, List.forall_mem_nil _⟩⟩⟩⟩
  refine ⟨⟨spec_ok (tab_ok.env hl) (tab.natl hl) Try.func19 (by kernel_rfl : Try.f19.body = some f19c) [9] (by kernel_rfl) ?_, _, Try.func19, by kernel_rfl, of_decide_eq_true (by kernel_rfl)⟩, Gm.Spec.of_natl _ _ _ _⟩
  intro ds outs h
  unfold q19 at h
  split at h
  · simp only [Option.some.injEq, Prod.mk.injEq] at h; obtain ⟨hg, h⟩ := h; cases h; exact f19_spec _ hg
  · cases h
/-! ### loop.example/g00465/spec.OrderText -/
noncomputable def f17c : Code := (Try.f17.body).getD .skip
def f17k : Nat → Kp := kat [⟨[1], []⟩, ⟨[1, 3], []⟩, ⟨[1, 3, 4], []⟩, ⟨[1, 3, 4, 26], []⟩, ⟨[1, 3, 4], []⟩, ⟨[1, 3, 4, 5], []⟩, ⟨[1, 3, 4], []⟩, ⟨[2], []⟩]
noncomputable def f17e : Env := tab.env [(27, s27), (36, s36), (37, s37)]
noncomputable def f17L0 {R : Type} (n : Nat) (x0 : ByteArray → Int → Bool → Option R) (vb1_0 : ByteArray) (vb1_1 : ByteArray) (vb1_2 : Int) (vb1_3 : Int) (vb1_4 : List MetricT) (vb1_5 : Int) (vb1_6 : Int) (vb1_7 : Int) (vb1_8 : Int) (vb1_9 : List NoteT) : Nat → ByteArray → Int → Option R
  | 0, _, _ => none
  | m + 1, vs3, vs4 =>
    (cond (decide (vs4 < (vb1_4.length : Int)))
      (cond ((decide ((0 : Int) ≤ vs4)) && (decide (vs4 < (vb1_4.length : Int))))
        (cond (decide (ByteArray.size vs3 + ByteArray.size (bs [32]) ≤ 9223372036854775807))
          (cond (decide (ByteArray.size (vs3 ++ (bs [32])) + ByteArray.size (MetricT.name (atI (t := .metric) vb1_4 (Int.toNat vs4))) ≤ 9223372036854775807))
            (cond (decide (ByteArray.size ((vs3 ++ (bs [32])) ++ (MetricT.name (atI (t := .metric) vb1_4 (Int.toNat vs4)))) + ByteArray.size (bs [58]) ≤ 9223372036854775807))
              (cond (decide (ByteArray.size (((vs3 ++ (bs [32])) ++ (MetricT.name (atI (t := .metric) vb1_4 (Int.toNat vs4)))) ++ (bs [58])) + ByteArray.size (kindW (MetricT.kind (atI (t := .metric) vb1_4 (Int.toNat vs4)))) ≤ 9223372036854775807))
                (cond (decide (ByteArray.size ((((vs3 ++ (bs [32])) ++ (MetricT.name (atI (t := .metric) vb1_4 (Int.toNat vs4)))) ++ (bs [58])) ++ (kindW (MetricT.kind (atI (t := .metric) vb1_4 (Int.toNat vs4))))) + ByteArray.size (bs [61]) ≤ 9223372036854775807))
                  (cond (okI (MetricT.goal (atI (t := .metric) vb1_4 (Int.toNat vs4))))
                    (cond (decide (ByteArray.size (((((vs3 ++ (bs [32])) ++ (MetricT.name (atI (t := .metric) vb1_4 (Int.toNat vs4)))) ++ (bs [58])) ++ (kindW (MetricT.kind (atI (t := .metric) vb1_4 (Int.toNat vs4))))) ++ (bs [61])) + ByteArray.size (amtText (MetricT.goal (atI (t := .metric) vb1_4 (Int.toNat vs4)))) ≤ 9223372036854775807))
                      (f17L0 n x0 vb1_0 vb1_1 vb1_2 vb1_3 vb1_4 vb1_5 vb1_6 vb1_7 vb1_8 vb1_9 m ((((((vs3 ++ (bs [32])) ++ (MetricT.name (atI (t := .metric) vb1_4 (Int.toNat vs4)))) ++ (bs [58])) ++ (kindW (MetricT.kind (atI (t := .metric) vb1_4 (Int.toNat vs4))))) ++ (bs [61])) ++ (amtText (MetricT.goal (atI (t := .metric) vb1_4 (Int.toNat vs4))))) (IntKind.wrap .i64 (vs4 + (1 : Int))))
                      none)
                    none)
                  none)
                none)
              none)
            none)
          none)
        none)
      (x0 vs3 vs4 (decide (vs4 < (vb1_4.length : Int)))))
theorem f17L0_b {R : Type} (n : Nat) (k' : Ex → St → Option R) (vs3 : ByteArray) (vs4 : Int) (vb1_0 : ByteArray) (vb1_1 : ByteArray) (vb1_2 : Int) (vb1_3 : Int) (vb1_4 : List MetricT) (vb1_5 : Int) (vb1_6 : Int) (vb1_7 : Int) (vb1_8 : Int) (vb1_9 : List NoteT) : ev f17e f17k n (cAt [1,1,0,1,0,0] f17c) ⟨[(1, .c (.one (.pt 1 0))), (3, .c (.one (.v (.string vs3)))), (4, .c (.one (.v (.int .i64 vs4))))], [(1, ⟨.order, [.v (.string vb1_0), .v (.string vb1_1), .v (.int .i64 vb1_2), .v (.int .i64 vb1_3), .ro .metric vb1_4, .v (.int .i64 vb1_5), .v (.int .i64 vb1_6), .v (.int .i64 vb1_7), .v (.int .i64 vb1_8), .ro .note vb1_9]⟩)], []⟩ k' =
    (cond (decide (vs4 < (vb1_4.length : Int)))
    (cond ((decide ((0 : Int) ≤ vs4)) && (decide (vs4 < (vb1_4.length : Int))))
      (cond (decide (ByteArray.size vs3 + ByteArray.size (bs [32]) ≤ 9223372036854775807))
        (cond (decide (ByteArray.size (vs3 ++ (bs [32])) + ByteArray.size (MetricT.name (atI (t := .metric) vb1_4 (Int.toNat vs4))) ≤ 9223372036854775807))
          (cond (decide (ByteArray.size ((vs3 ++ (bs [32])) ++ (MetricT.name (atI (t := .metric) vb1_4 (Int.toNat vs4)))) + ByteArray.size (bs [58]) ≤ 9223372036854775807))
            (cond (decide (ByteArray.size (((vs3 ++ (bs [32])) ++ (MetricT.name (atI (t := .metric) vb1_4 (Int.toNat vs4)))) ++ (bs [58])) + ByteArray.size (kindW (MetricT.kind (atI (t := .metric) vb1_4 (Int.toNat vs4)))) ≤ 9223372036854775807))
              (cond (decide (ByteArray.size ((((vs3 ++ (bs [32])) ++ (MetricT.name (atI (t := .metric) vb1_4 (Int.toNat vs4)))) ++ (bs [58])) ++ (kindW (MetricT.kind (atI (t := .metric) vb1_4 (Int.toNat vs4))))) + ByteArray.size (bs [61]) ≤ 9223372036854775807))
                (cond (okI (MetricT.goal (atI (t := .metric) vb1_4 (Int.toNat vs4))))
                  (cond (decide (ByteArray.size (((((vs3 ++ (bs [32])) ++ (MetricT.name (atI (t := .metric) vb1_4 (Int.toNat vs4)))) ++ (bs [58])) ++ (kindW (MetricT.kind (atI (t := .metric) vb1_4 (Int.toNat vs4))))) ++ (bs [61])) + ByteArray.size (amtText (MetricT.goal (atI (t := .metric) vb1_4 (Int.toNat vs4)))) ≤ 9223372036854775807))
                    (k' .normal ⟨[(1, .c (.one (.pt 1 0))), (3, .c (.one (.v (.string ((((((vs3 ++ (bs [32])) ++ (MetricT.name (atI (t := .metric) vb1_4 (Int.toNat vs4)))) ++ (bs [58])) ++ (kindW (MetricT.kind (atI (t := .metric) vb1_4 (Int.toNat vs4))))) ++ (bs [61])) ++ (amtText (MetricT.goal (atI (t := .metric) vb1_4 (Int.toNat vs4))))))))), (4, .c (.one (.v (.int .i64 (IntKind.wrap .i64 (vs4 + (1 : Int)))))))], [(1, ⟨.order, [.v (.string vb1_0), .v (.string vb1_1), .v (.int .i64 vb1_2), .v (.int .i64 vb1_3), .ro .metric vb1_4, .v (.int .i64 vb1_5), .v (.int .i64 vb1_6), .v (.int .i64 vb1_7), .v (.int .i64 vb1_8), .ro .note vb1_9]⟩)], []⟩)
                    none)
                  none)
                none)
              none)
            none)
          none)
        none)
      none)
    (k' (.exit 0) ⟨[(1, .c (.one (.pt 1 0))), (3, .c (.one (.v (.string vs3)))), (4, .c (.one (.v (.int .i64 vs4)))), (26, .c (.one (.v (.bool (decide (vs4 < (vb1_4.length : Int)))))))], [(1, ⟨.order, [.v (.string vb1_0), .v (.string vb1_1), .v (.int .i64 vb1_2), .v (.int .i64 vb1_3), .ro .metric vb1_4, .v (.int .i64 vb1_5), .v (.int .i64 vb1_6), .v (.int .i64 vb1_7), .v (.int .i64 vb1_8), .ro .note vb1_9]⟩)], []⟩)) := by kernel_rfl
theorem f17L0_eq {R : Type} (n : Nat) (k' : Ex → St → Option R) (vb1_0 : ByteArray) (vb1_1 : ByteArray) (vb1_2 : Int) (vb1_3 : Int) (vb1_4 : List MetricT) (vb1_5 : Int) (vb1_6 : Int) (vb1_7 : Int) (vb1_8 : Int) (vb1_9 : List NoteT) : ∀ (m : Nat) (vs3 : ByteArray) (vs4 : Int), iter (fun st k => ev f17e f17k n (cAt [1,1,0,1,0,0] f17c) st k) m ⟨[(1, .c (.one (.pt 1 0))), (3, .c (.one (.v (.string vs3)))), (4, .c (.one (.v (.int .i64 vs4))))], [(1, ⟨.order, [.v (.string vb1_0), .v (.string vb1_1), .v (.int .i64 vb1_2), .v (.int .i64 vb1_3), .ro .metric vb1_4, .v (.int .i64 vb1_5), .v (.int .i64 vb1_6), .v (.int .i64 vb1_7), .v (.int .i64 vb1_8), .ro .note vb1_9]⟩)], []⟩ k' = f17L0 n (fun (xvs3 : ByteArray) (xvs4 : Int) (xvs26 : Bool) => k' (.exit 0) ⟨[(1, .c (.one (.pt 1 0))), (3, .c (.one (.v (.string xvs3)))), (4, .c (.one (.v (.int .i64 xvs4)))), (26, .c (.one (.v (.bool xvs26))))], [(1, ⟨.order, [.v (.string vb1_0), .v (.string vb1_1), .v (.int .i64 vb1_2), .v (.int .i64 vb1_3), .ro .metric vb1_4, .v (.int .i64 vb1_5), .v (.int .i64 vb1_6), .v (.int .i64 vb1_7), .v (.int .i64 vb1_8), .ro .note vb1_9]⟩)], []⟩) vb1_0 vb1_1 vb1_2 vb1_3 vb1_4 vb1_5 vb1_6 vb1_7 vb1_8 vb1_9 m vs3 vs4 := by
  intro m; induction m with
  | zero => intros; rfl
  | succ m ih =>
    intro vs3 vs4
    simp only [iter]
    rw [f17L0_b]
    simp only [ih, f17L0]

noncomputable def f17K0 {R : Type} (n : Nat) (k' : Ex → St → Option R) : Ex → St → Option R := (blockK 0 (seqK f17e f17k n (cAt [1,1,1] f17c) k'))
theorem f17K0_x0 {R : Type} (n : Nat) (k : List Dt → Option R) (a0 : OrderT) (vb1_0 : ByteArray) (vb1_1 : ByteArray) (vb1_2 : Int) (vb1_3 : Int) (vb1_4 : List MetricT) (vb1_5 : Int) (vb1_6 : Int) (vb1_7 : Int) (vb1_8 : Int) (vb1_9 : List NoteT) (xvs3 : ByteArray) (xvs4 : Int) (xvs26 : Bool) : f17K0 n (exitK f17e [.ro] [false] true [.tmp 2] [9] [.d .order a0] k) (.exit 0) ⟨[(1, .c (.one (.pt 1 0))), (3, .c (.one (.v (.string xvs3)))), (4, .c (.one (.v (.int .i64 xvs4)))), (26, .c (.one (.v (.bool xvs26))))], [(1, ⟨.order, [.v (.string vb1_0), .v (.string vb1_1), .v (.int .i64 vb1_2), .v (.int .i64 vb1_3), .ro .metric vb1_4, .v (.int .i64 vb1_5), .v (.int .i64 vb1_6), .v (.int .i64 vb1_7), .v (.int .i64 vb1_8), .ro .note vb1_9]⟩)], []⟩ =
    (k [.d .str xvs3]) := by kernel_rfl

theorem f17_run {R : Type} (n : Nat) (k : List Dt → Option R) (a0 : OrderT) : evFn f17e f17k n f17c [.ro] [false] true [.tmp 2] [9] [.d .order a0] k =
    (cond (decide (ByteArray.size (OrderT.name a0) + ByteArray.size (bs [62]) ≤ 9223372036854775807))
    (cond (decide (ByteArray.size ((OrderT.name a0) ++ (bs [62])) + ByteArray.size (OrderT.target a0) ≤ 9223372036854775807))
      (cond (decide (ByteArray.size (((OrderT.name a0) ++ (bs [62])) ++ (OrderT.target a0)) + ByteArray.size (bs [32]) ≤ 9223372036854775807))
        (cond (okI (OrderT.low a0))
          (cond (decide (ByteArray.size ((((OrderT.name a0) ++ (bs [62])) ++ (OrderT.target a0)) ++ (bs [32])) + ByteArray.size (digS (OrderT.low a0)) ≤ 9223372036854775807))
            (cond (decide (ByteArray.size (((((OrderT.name a0) ++ (bs [62])) ++ (OrderT.target a0)) ++ (bs [32])) ++ (digS (OrderT.low a0))) + ByteArray.size (bs [32]) ≤ 9223372036854775807))
              (cond (okI (OrderT.high a0))
                (cond (decide (ByteArray.size ((((((OrderT.name a0) ++ (bs [62])) ++ (OrderT.target a0)) ++ (bs [32])) ++ (digS (OrderT.low a0))) ++ (bs [32])) + ByteArray.size (digS (OrderT.high a0)) ≤ 9223372036854775807))
                  (f17L0 n (fun (xvs3 : ByteArray) (xvs4 : Int) (xvs26 : Bool) =>
                    (k [.d .str xvs3])) (OrderT.name a0) (OrderT.target a0) (OrderT.low a0) (OrderT.high a0) (OrderT.metrics a0) (PaceT.up (OrderT.pace a0)) (PaceT.down (OrderT.pace a0)) (PaceT.upSpan (OrderT.pace a0)) (PaceT.downSpan (OrderT.pace a0)) (OrderT.notes a0) n (((((((OrderT.name a0) ++ (bs [62])) ++ (OrderT.target a0)) ++ (bs [32])) ++ (digS (OrderT.low a0))) ++ (bs [32])) ++ (digS (OrderT.high a0))) (0 : Int))
                  none)
                none)
              none)
            none)
          none)
        none)
      none)
    none) := by
  refine Eq.trans (b := (cond (decide (ByteArray.size (OrderT.name a0) + ByteArray.size (bs [62]) ≤ 9223372036854775807))
    (cond (decide (ByteArray.size ((OrderT.name a0) ++ (bs [62])) + ByteArray.size (OrderT.target a0) ≤ 9223372036854775807))
      (cond (decide (ByteArray.size (((OrderT.name a0) ++ (bs [62])) ++ (OrderT.target a0)) + ByteArray.size (bs [32]) ≤ 9223372036854775807))
        (cond (okI (OrderT.low a0))
          (cond (decide (ByteArray.size ((((OrderT.name a0) ++ (bs [62])) ++ (OrderT.target a0)) ++ (bs [32])) + ByteArray.size (digS (OrderT.low a0)) ≤ 9223372036854775807))
            (cond (decide (ByteArray.size (((((OrderT.name a0) ++ (bs [62])) ++ (OrderT.target a0)) ++ (bs [32])) ++ (digS (OrderT.low a0))) + ByteArray.size (bs [32]) ≤ 9223372036854775807))
              (cond (okI (OrderT.high a0))
                (cond (decide (ByteArray.size ((((((OrderT.name a0) ++ (bs [62])) ++ (OrderT.target a0)) ++ (bs [32])) ++ (digS (OrderT.low a0))) ++ (bs [32])) + ByteArray.size (digS (OrderT.high a0)) ≤ 9223372036854775807))
                  (iter (fun st k => ev f17e f17k n (cAt [1,1,0,1,0,0] f17c) st k) n ⟨[(1, .c (.one (.pt 1 0))), (3, .c (.one (.v (.string (((((((OrderT.name a0) ++ (bs [62])) ++ (OrderT.target a0)) ++ (bs [32])) ++ (digS (OrderT.low a0))) ++ (bs [32])) ++ (digS (OrderT.high a0))))))), (4, .c (.one (.v (.int .i64 (0 : Int)))))], [(1, ⟨.order, [.v (.string (OrderT.name a0)), .v (.string (OrderT.target a0)), .v (.int .i64 (OrderT.low a0)), .v (.int .i64 (OrderT.high a0)), .ro .metric (OrderT.metrics a0), .v (.int .i64 (PaceT.up (OrderT.pace a0))), .v (.int .i64 (PaceT.down (OrderT.pace a0))), .v (.int .i64 (PaceT.upSpan (OrderT.pace a0))), .v (.int .i64 (PaceT.downSpan (OrderT.pace a0))), .ro .note (OrderT.notes a0)]⟩)], []⟩ (f17K0 n (exitK f17e [.ro] [false] true [.tmp 2] [9] [.d .order a0] k)))
                  none)
                none)
              none)
            none)
          none)
        none)
      none)
    none)) (by kernel_rfl) ?_
  simp only [f17L0_eq, f17K0_x0]
theorem f17_spec (a0 : OrderT) (hg : sm_order a0 = true) : ∃ keep rounds, ∀ {R : Type} (k : List Dt → Option R), evFn f17e keep rounds f17c [.ro] [false] true [.tmp 2] [9] [.d .order a0] k = k [.d .str (orderText a0)] := by
  simp only [sm_order, Bool.and_eq_true] at hg
  obtain ⟨hn, ht, hlo, hhi, hm, _⟩ := hg
  have hn : a0.name.size ≤ 1048576 := bleN hn
  have ht : a0.target.size ≤ 1048576 := bleN ht
  have d1 := digS_size hlo
  have d2 := digS_size hhi
  have hl := smL_len hm
  have hma := smL_all hm
  refine ⟨f17k, a0.metrics.length + 1, fun {R} k => ?_⟩
  rw [f17_run, hlo, hhi]
  rw [app_le (by first | (simp only [ByteArray.size_append, bs_size, List.length_cons, List.length_nil]; omega) | omega), app_le (by first | (simp only [ByteArray.size_append, bs_size, List.length_cons, List.length_nil]; omega) | omega), app_le (by first | (simp only [ByteArray.size_append, bs_size, List.length_cons, List.length_nil]; omega) | omega), app_le (by first | (simp only [ByteArray.size_append, bs_size, List.length_cons, List.length_nil]; omega) | omega), app_le (by first | (simp only [ByteArray.size_append, bs_size, List.length_cons, List.length_nil]; omega) | omega), app_le (by first | (simp only [ByteArray.size_append, bs_size, List.length_cons, List.length_nil]; omega) | omega)]
  simp only [cond_true]
  refine Eq.trans (loop_acc (xs := a0.metrics) (F := fun m j out => f17L0 (a0.metrics.length + 1) _ a0.name a0.target a0.low a0.high a0.metrics a0.pace.up a0.pace.down a0.pace.upSpan a0.pace.downSpan a0.notes m out (j : Int)) (f := metText) (good := fun out => k [.d .str out]) (fun j out => out.size ≤ 2097200 + 1048606 * j)
    (fun j out x hx hi => ?_) (fun m j out x hx hi => ?_) (fun m out hi => by simp only [f17L0, idxE, cond_false]) a0.metrics.length 0 (a0.metrics.length + 1) (a0.name ++ bs [62] ++ a0.target ++ bs [32] ++ digS a0.low ++ bs [32] ++ digS a0.high) (by omega) (by omega) (by first | (simp only [ByteArray.size_append, bs_size, List.length_cons, List.length_nil]; omega) | omega)) ?_
  · have := metText_size (out := out) (List.all_eq_true.1 hma x (List.mem_of_getElem? hx))
    have hi : out.size ≤ 2097200 + 1048606 * j := hi
    show (metText out x).size ≤ 2097200 + 1048606 * (j + 1)
    rw [Nat.mul_add_one, ← Nat.add_assoc]
    omega
  · obtain ⟨h1, h0, hw, ht⟩ := idx (lt_of_get hx) (by omega)
    have hj := lt_of_get hx
    have hx2 := List.all_eq_true.1 hma x (List.mem_of_getElem? hx)
    simp only [sm_metric, Bool.and_eq_true] at hx2
    have e1 : x.name.size ≤ 1048576 := bleN hx2.1
    have e2 := kindW_size x.kind
    have e3 := amtText_size x.goal
    simp only [f17L0, h1, h0, hw, ht, atI_of (t := .metric) hx, Bool.and_self, cond_true, hx2.2.2]
    rw [app_le (by first | (simp only [ByteArray.size_append, bs_size, List.length_cons, List.length_nil]; omega) | omega), app_le (by first | (simp only [ByteArray.size_append, bs_size, List.length_cons, List.length_nil]; omega) | omega), app_le (by first | (simp only [ByteArray.size_append, bs_size, List.length_cons, List.length_nil]; omega) | omega), app_le (by first | (simp only [ByteArray.size_append, bs_size, List.length_cons, List.length_nil]; omega) | omega), app_le (by first | (simp only [ByteArray.size_append, bs_size, List.length_cons, List.length_nil]; omega) | omega), app_le (by first | (simp only [ByteArray.size_append, bs_size, List.length_cons, List.length_nil]; omega) | omega)]
    rfl
  · rfl

noncomputable def q17 : List Dt → Option (Bool × List Dt)
  | [.d .order a0] => some ((sm_order a0), [.d .str (orderText a0)])
  | _ => none
noncomputable def s17 : Gm.Spec := Gm.Spec.of [.ro] [false] true q17
theorem good17 : Gm.Good Try.prog (17, s17) := by
  have hl : ∀ x ∈ [(27, s27), (36, s36), (37, s37)], Gm.Good Try.prog x := List.forall_mem_cons.2 ⟨good27, List.forall_mem_cons.2 ⟨good36, List.forall_mem_cons.2 ⟨good37, List.forall_mem_nil _⟩⟩⟩
  refine ⟨⟨spec_ok (tab_ok.env hl) (tab.natl hl) Try.func17 (by kernel_rfl : Try.f17.body = some f17c) [9] (by kernel_rfl) ?_, _, Try.func17, by kernel_rfl, of_decide_eq_true (by kernel_rfl)⟩, Gm.Spec.of_natl _ _ _ _⟩
  intro ds outs h
  unfold q17 at h
  split at h
  · simp only [Option.some.injEq, Prod.mk.injEq] at h; obtain ⟨hg, h⟩ := h; cases h; exact f17_spec _ hg
  · cases h
end Go.Proofs.Ythjkdgbijfkmaaa

/- x -/
namespace Go.Proofs.Ythjkdgbijfkmaaa
open Go Go.Gm
/-! ### loop.example/g00465/impl.WorldText -/
noncomputable def f24c : Code := (Try.f24.body).getD .skip
def f24k : Nat → Kp := kat [⟨[1], []⟩, ⟨[1, 3], []⟩, ⟨[1, 3, 20, 21, 22], []⟩, ⟨[1, 3, 20, 21, 22, 23], []⟩, ⟨[1, 3, 5, 20, 21, 22], []⟩, ⟨[1, 3, 20, 21, 22], []⟩, ⟨[1, 3, 20, 21, 22], []⟩, ⟨[3, 34, 35, 36], []⟩, ⟨[3, 34, 35, 36, 37], []⟩, ⟨[3, 7, 34, 35, 36], []⟩, ⟨[3, 34, 35, 36], []⟩, ⟨[3, 34, 35, 36], []⟩, ⟨[2], []⟩]
noncomputable def f24e : Env := tab.env [(14, s14), (19, s19), (29, s29), (30, s30)]
noncomputable def f24L0 {R : Type} (n : Nat) (x0 : ByteArray → Int → Bool → Option R) (vs20 : List ItemT) (vs21 : Int) (vb1_0 : List ItemT) (vb1_1 : Int) (vb1_2 : List ScaleT) (vb1_3 : Int) (vb1_4 : List ToldT) : Nat → ByteArray → Int → Option R
  | 0, _, _ => none
  | m + 1, vs3, vs22 =>
    (cond (decide (vs22 < vs21))
      (cond ((decide ((0 : Int) ≤ vs22)) && (decide (vs22 < (vs20.length : Int))))
        (cond (sm_order (ItemT.order (atI (t := .item) vs20 (Int.toNat vs22))))
          (cond (decide (ByteArray.size (orderText (ItemT.order (atI (t := .item) vs20 (Int.toNat vs22)))) + ByteArray.size (bs [10]) ≤ 9223372036854775807))
            (cond (decide (ByteArray.size vs3 + ByteArray.size ((orderText (ItemT.order (atI (t := .item) vs20 (Int.toNat vs22)))) ++ (bs [10])) ≤ 9223372036854775807))
              (f24L0 n x0 vs20 vs21 vb1_0 vb1_1 vb1_2 vb1_3 vb1_4 m (vs3 ++ ((orderText (ItemT.order (atI (t := .item) vs20 (Int.toNat vs22)))) ++ (bs [10]))) (IntKind.wrap .i64 (vs22 + (1 : Int))))
              none)
            none)
          none)
        none)
      (x0 vs3 vs22 (decide (vs22 < vs21))))
theorem f24L0_b {R : Type} (n : Nat) (k' : Ex → St → Option R) (vs3 : ByteArray) (vs20 : List ItemT) (vs21 : Int) (vs22 : Int) (vb1_0 : List ItemT) (vb1_1 : Int) (vb1_2 : List ScaleT) (vb1_3 : Int) (vb1_4 : List ToldT) : ev f24e f24k n (cAt [1,1,0,1,0,0] f24c) ⟨[(1, .c (.one (.pt 1 0))), (3, .c (.one (.v (.string vs3)))), (20, .c (.one (.ro .item vs20))), (21, .c (.one (.v (.int .i64 vs21)))), (22, .c (.one (.v (.int .i64 vs22))))], [(1, ⟨.world, [.ro .item vb1_0, .v (.int .i64 vb1_1), .ro .scale vb1_2, .v (.int .i64 vb1_3), .ro .told vb1_4]⟩)], []⟩ k' =
    (cond (decide (vs22 < vs21))
    (cond ((decide ((0 : Int) ≤ vs22)) && (decide (vs22 < (vs20.length : Int))))
      (cond (sm_order (ItemT.order (atI (t := .item) vs20 (Int.toNat vs22))))
        (cond (decide (ByteArray.size (orderText (ItemT.order (atI (t := .item) vs20 (Int.toNat vs22)))) + ByteArray.size (bs [10]) ≤ 9223372036854775807))
          (cond (decide (ByteArray.size vs3 + ByteArray.size ((orderText (ItemT.order (atI (t := .item) vs20 (Int.toNat vs22)))) ++ (bs [10])) ≤ 9223372036854775807))
            (k' .normal ⟨[(1, .c (.one (.pt 1 0))), (3, .c (.one (.v (.string (vs3 ++ ((orderText (ItemT.order (atI (t := .item) vs20 (Int.toNat vs22)))) ++ (bs [10]))))))), (20, .c (.one (.ro .item vs20))), (21, .c (.one (.v (.int .i64 vs21)))), (22, .c (.one (.v (.int .i64 (IntKind.wrap .i64 (vs22 + (1 : Int)))))))], [(1, ⟨.world, [.ro .item vb1_0, .v (.int .i64 vb1_1), .ro .scale vb1_2, .v (.int .i64 vb1_3), .ro .told vb1_4]⟩)], []⟩)
            none)
          none)
        none)
      none)
    (k' (.exit 0) ⟨[(1, .c (.one (.pt 1 0))), (3, .c (.one (.v (.string vs3)))), (20, .c (.one (.ro .item vs20))), (21, .c (.one (.v (.int .i64 vs21)))), (22, .c (.one (.v (.int .i64 vs22)))), (23, .c (.one (.v (.bool (decide (vs22 < vs21))))))], [(1, ⟨.world, [.ro .item vb1_0, .v (.int .i64 vb1_1), .ro .scale vb1_2, .v (.int .i64 vb1_3), .ro .told vb1_4]⟩)], []⟩)) := by kernel_rfl
theorem f24L0_eq {R : Type} (n : Nat) (k' : Ex → St → Option R) (vs20 : List ItemT) (vs21 : Int) (vb1_0 : List ItemT) (vb1_1 : Int) (vb1_2 : List ScaleT) (vb1_3 : Int) (vb1_4 : List ToldT) : ∀ (m : Nat) (vs3 : ByteArray) (vs22 : Int), iter (fun st k => ev f24e f24k n (cAt [1,1,0,1,0,0] f24c) st k) m ⟨[(1, .c (.one (.pt 1 0))), (3, .c (.one (.v (.string vs3)))), (20, .c (.one (.ro .item vs20))), (21, .c (.one (.v (.int .i64 vs21)))), (22, .c (.one (.v (.int .i64 vs22))))], [(1, ⟨.world, [.ro .item vb1_0, .v (.int .i64 vb1_1), .ro .scale vb1_2, .v (.int .i64 vb1_3), .ro .told vb1_4]⟩)], []⟩ k' = f24L0 n (fun (xvs3 : ByteArray) (xvs22 : Int) (xvs23 : Bool) => k' (.exit 0) ⟨[(1, .c (.one (.pt 1 0))), (3, .c (.one (.v (.string xvs3)))), (20, .c (.one (.ro .item vs20))), (21, .c (.one (.v (.int .i64 vs21)))), (22, .c (.one (.v (.int .i64 xvs22)))), (23, .c (.one (.v (.bool xvs23))))], [(1, ⟨.world, [.ro .item vb1_0, .v (.int .i64 vb1_1), .ro .scale vb1_2, .v (.int .i64 vb1_3), .ro .told vb1_4]⟩)], []⟩) vs20 vs21 vb1_0 vb1_1 vb1_2 vb1_3 vb1_4 m vs3 vs22 := by
  intro m; induction m with
  | zero => intros; rfl
  | succ m ih =>
    intro vs3 vs22
    simp only [iter]
    rw [f24L0_b]
    simp only [ih, f24L0]

noncomputable def f24L1 {R : Type} (n : Nat) (x0 : ByteArray → Int → Bool → Option R) (vs34 : List ScaleT) (vs35 : Int) : Nat → ByteArray → Int → Option R
  | 0, _, _ => none
  | m + 1, vs3, vs36 =>
    (cond (decide (vs36 < vs35))
      (cond ((decide ((0 : Int) ≤ vs36)) && (decide (vs36 < (vs34.length : Int))))
        (cond (sm_scale (atI (t := .scale) vs34 (Int.toNat vs36)))
          (cond (decide (ByteArray.size (scaleText (atI (t := .scale) vs34 (Int.toNat vs36))) + ByteArray.size (bs [10]) ≤ 9223372036854775807))
            (cond (decide (ByteArray.size vs3 + ByteArray.size ((scaleText (atI (t := .scale) vs34 (Int.toNat vs36))) ++ (bs [10])) ≤ 9223372036854775807))
              (f24L1 n x0 vs34 vs35 m (vs3 ++ ((scaleText (atI (t := .scale) vs34 (Int.toNat vs36))) ++ (bs [10]))) (IntKind.wrap .i64 (vs36 + (1 : Int))))
              none)
            none)
          none)
        none)
      (x0 vs3 vs36 (decide (vs36 < vs35))))
theorem f24L1_b {R : Type} (n : Nat) (k' : Ex → St → Option R) (vs3 : ByteArray) (vs34 : List ScaleT) (vs35 : Int) (vs36 : Int) : ev f24e f24k n (cAt [1,1,1,0,1,0,0] f24c) ⟨[(3, .c (.one (.v (.string vs3)))), (34, .c (.one (.ro .scale vs34))), (35, .c (.one (.v (.int .i64 vs35)))), (36, .c (.one (.v (.int .i64 vs36))))], [], []⟩ k' =
    (cond (decide (vs36 < vs35))
    (cond ((decide ((0 : Int) ≤ vs36)) && (decide (vs36 < (vs34.length : Int))))
      (cond (sm_scale (atI (t := .scale) vs34 (Int.toNat vs36)))
        (cond (decide (ByteArray.size (scaleText (atI (t := .scale) vs34 (Int.toNat vs36))) + ByteArray.size (bs [10]) ≤ 9223372036854775807))
          (cond (decide (ByteArray.size vs3 + ByteArray.size ((scaleText (atI (t := .scale) vs34 (Int.toNat vs36))) ++ (bs [10])) ≤ 9223372036854775807))
            (k' .normal ⟨[(3, .c (.one (.v (.string (vs3 ++ ((scaleText (atI (t := .scale) vs34 (Int.toNat vs36))) ++ (bs [10]))))))), (34, .c (.one (.ro .scale vs34))), (35, .c (.one (.v (.int .i64 vs35)))), (36, .c (.one (.v (.int .i64 (IntKind.wrap .i64 (vs36 + (1 : Int)))))))], [], []⟩)
            none)
          none)
        none)
      none)
    (k' (.exit 2) ⟨[(3, .c (.one (.v (.string vs3)))), (34, .c (.one (.ro .scale vs34))), (35, .c (.one (.v (.int .i64 vs35)))), (36, .c (.one (.v (.int .i64 vs36)))), (37, .c (.one (.v (.bool (decide (vs36 < vs35))))))], [], []⟩)) := by kernel_rfl
theorem f24L1_eq {R : Type} (n : Nat) (k' : Ex → St → Option R) (vs34 : List ScaleT) (vs35 : Int) : ∀ (m : Nat) (vs3 : ByteArray) (vs36 : Int), iter (fun st k => ev f24e f24k n (cAt [1,1,1,0,1,0,0] f24c) st k) m ⟨[(3, .c (.one (.v (.string vs3)))), (34, .c (.one (.ro .scale vs34))), (35, .c (.one (.v (.int .i64 vs35)))), (36, .c (.one (.v (.int .i64 vs36))))], [], []⟩ k' = f24L1 n (fun (xvs3 : ByteArray) (xvs36 : Int) (xvs37 : Bool) => k' (.exit 2) ⟨[(3, .c (.one (.v (.string xvs3)))), (34, .c (.one (.ro .scale vs34))), (35, .c (.one (.v (.int .i64 vs35)))), (36, .c (.one (.v (.int .i64 xvs36)))), (37, .c (.one (.v (.bool xvs37))))], [], []⟩) vs34 vs35 m vs3 vs36 := by
  intro m; induction m with
  | zero => intros; rfl
  | succ m ih =>
    intro vs3 vs36
    simp only [iter]
    rw [f24L1_b]
    simp only [ih, f24L1]

noncomputable def f24K1 {R : Type} (n : Nat) (k' : Ex → St → Option R) : Ex → St → Option R := (blockK 2 (seqK f24e f24k n (cAt [1,1,1,1] f24c) k'))
theorem f24K1_x0 {R : Type} (n : Nat) (k : List Dt → Option R) (a0 : WorldT) (vs34 : List ScaleT) (vs35 : Int) (xvs3 : ByteArray) (xvs36 : Int) (xvs37 : Bool) : f24K1 n (exitK f24e [.ro] [false] true [.tmp 2] [9] [.d .world a0] k) (.exit 2) ⟨[(3, .c (.one (.v (.string xvs3)))), (34, .c (.one (.ro .scale vs34))), (35, .c (.one (.v (.int .i64 vs35)))), (36, .c (.one (.v (.int .i64 xvs36)))), (37, .c (.one (.v (.bool xvs37))))], [], []⟩ =
    (k [.d .str xvs3]) := by kernel_rfl

noncomputable def f24K0 {R : Type} (n : Nat) (k' : Ex → St → Option R) : Ex → St → Option R := (blockK 0 (seqK f24e f24k n (cAt [1,1,1] f24c) k'))
theorem f24K0_x0 {R : Type} (n : Nat) (k : List Dt → Option R) (a0 : WorldT) (vs20 : List ItemT) (vs21 : Int) (vb1_0 : List ItemT) (vb1_1 : Int) (vb1_2 : List ScaleT) (vb1_3 : Int) (vb1_4 : List ToldT) (xvs3 : ByteArray) (xvs22 : Int) (xvs23 : Bool) : f24K0 n (exitK f24e [.ro] [false] true [.tmp 2] [9] [.d .world a0] k) (.exit 0) ⟨[(1, .c (.one (.pt 1 0))), (3, .c (.one (.v (.string xvs3)))), (20, .c (.one (.ro .item vs20))), (21, .c (.one (.v (.int .i64 vs21)))), (22, .c (.one (.v (.int .i64 xvs22)))), (23, .c (.one (.v (.bool xvs23))))], [(1, ⟨.world, [.ro .item vb1_0, .v (.int .i64 vb1_1), .ro .scale vb1_2, .v (.int .i64 vb1_3), .ro .told vb1_4]⟩)], []⟩ =
    (f24L1 n (fun (xvs3 : ByteArray) (xvs36 : Int) (xvs37 : Bool) =>
    (k [.d .str xvs3])) vb1_2 (vb1_2.length : Int) n xvs3 (0 : Int)) := by
  refine Eq.trans (b := (iter (fun st k => ev f24e f24k n (cAt [1,1,1,0,1,0,0] f24c) st k) n ⟨[(3, .c (.one (.v (.string xvs3)))), (34, .c (.one (.ro .scale vb1_2))), (35, .c (.one (.v (.int .i64 (vb1_2.length : Int))))), (36, .c (.one (.v (.int .i64 (0 : Int)))))], [], []⟩ (f24K1 n (exitK f24e [.ro] [false] true [.tmp 2] [9] [.d .world a0] k)))) (by kernel_rfl) ?_
  simp only [f24L1_eq, f24K1_x0]

theorem f24_run {R : Type} (n : Nat) (k : List Dt → Option R) (a0 : WorldT) : evFn f24e f24k n f24c [.ro] [false] true [.tmp 2] [9] [.d .world a0] k =
    (cond (okI (WorldT.time a0))
    (cond (okI (StoreT.next (WorldT.store a0)))
      (cond (gSpaced ([(bs [116,105,109,101]), (digS (WorldT.time a0)), (bs [110,101,120,116]), (digS (StoreT.next (WorldT.store a0)))] : List ByteArray))
        (cond (decide (ByteArray.size (spaced ([(bs [116,105,109,101]), (digS (WorldT.time a0)), (bs [110,101,120,116]), (digS (StoreT.next (WorldT.store a0)))] : List ByteArray)) + ByteArray.size (bs [10]) ≤ 9223372036854775807))
          (f24L0 n (fun (xvs3 : ByteArray) (xvs22 : Int) (xvs23 : Bool) =>
            (f24L1 n (fun (xvs3 : ByteArray) (xvs36 : Int) (xvs37 : Bool) =>
              (k [.d .str xvs3])) (WorldT.scales a0) ((WorldT.scales a0).length : Int) n xvs3 (0 : Int))) (StoreT.items (WorldT.store a0)) ((StoreT.items (WorldT.store a0)).length : Int) (StoreT.items (WorldT.store a0)) (StoreT.next (WorldT.store a0)) (WorldT.scales a0) (WorldT.time a0) (WorldT.log a0) n ((spaced ([(bs [116,105,109,101]), (digS (WorldT.time a0)), (bs [110,101,120,116]), (digS (StoreT.next (WorldT.store a0)))] : List ByteArray)) ++ (bs [10])) (0 : Int))
          none)
        none)
      none)
    none) := by
  refine Eq.trans (b := (cond (okI (WorldT.time a0))
    (cond (okI (StoreT.next (WorldT.store a0)))
      (cond (gSpaced ([(bs [116,105,109,101]), (digS (WorldT.time a0)), (bs [110,101,120,116]), (digS (StoreT.next (WorldT.store a0)))] : List ByteArray))
        (cond (decide (ByteArray.size (spaced ([(bs [116,105,109,101]), (digS (WorldT.time a0)), (bs [110,101,120,116]), (digS (StoreT.next (WorldT.store a0)))] : List ByteArray)) + ByteArray.size (bs [10]) ≤ 9223372036854775807))
          (iter (fun st k => ev f24e f24k n (cAt [1,1,0,1,0,0] f24c) st k) n ⟨[(1, .c (.one (.pt 1 0))), (3, .c (.one (.v (.string ((spaced ([(bs [116,105,109,101]), (digS (WorldT.time a0)), (bs [110,101,120,116]), (digS (StoreT.next (WorldT.store a0)))] : List ByteArray)) ++ (bs [10])))))), (20, .c (.one (.ro .item (StoreT.items (WorldT.store a0))))), (21, .c (.one (.v (.int .i64 ((StoreT.items (WorldT.store a0)).length : Int))))), (22, .c (.one (.v (.int .i64 (0 : Int)))))], [(1, ⟨.world, [.ro .item (StoreT.items (WorldT.store a0)), .v (.int .i64 (StoreT.next (WorldT.store a0))), .ro .scale (WorldT.scales a0), .v (.int .i64 (WorldT.time a0)), .ro .told (WorldT.log a0)]⟩)], []⟩ (f24K0 n (exitK f24e [.ro] [false] true [.tmp 2] [9] [.d .world a0] k)))
          none)
        none)
      none)
    none)) (by kernel_rfl) ?_
  simp only [f24L0_eq, f24K0_x0, f24L1_eq, f24K1_x0]
theorem f24_spec (a0 : WorldT) (hg : sm_world a0 = true) : ∃ keep rounds, ∀ {R : Type} (k : List Dt → Option R), evFn f24e keep rounds f24c [.ro] [false] true [.tmp 2] [9] [.d .world a0] k = k [.d .str (worldText a0)] := by
  simp only [sm_world, sm_store, Bool.and_eq_true] at hg
  obtain ⟨⟨hi, hnx⟩, hs, htm, _⟩ := hg
  have d1 := digS_size htm
  have d2 := digS_size hnx
  have hli := smL_len hi
  have hls := smL_len hs
  have hio : ∀ x ∈ a0.store.items, sm_order x.order = true := fun x hx => by
    have := List.all_eq_true.1 (smL_all hi) x hx
    simp only [sm_item, Bool.and_eq_true] at this
    exact this.1
  have hso : ∀ x ∈ a0.scales, sm_scale x = true := fun x hx => List.all_eq_true.1 (smL_all hs) x hx
  refine ⟨f24k, a0.store.items.length + a0.scales.length + 1, fun {R} k => ?_⟩
  rw [f24_run, htm, hnx]
  rw [gSpaced4 (by first | (simp only [ByteArray.size_append, bs_size, List.length_cons, List.length_nil]; omega) | omega), show spaced [bs [116,105,109,101], digS a0.time, bs [110,101,120,116], digS a0.store.next] = bs [116,105,109,101,32] ++ digS a0.time ++ bs [32,110,101,120,116,32] ++ digS a0.store.next from (joinS4 _ _ _ _ _).trans (time_next _ _), app_le (by first | (simp only [ByteArray.size_append, bs_size, List.length_cons, List.length_nil]; omega) | omega)]
  simp only [cond_true]
  refine Eq.trans (loop_acc (xs := a0.store.items) (F := fun m j out => f24L0 (a0.store.items.length + a0.scales.length + 1) _ a0.store.items (a0.store.items.length : Int) a0.store.items a0.store.next a0.scales a0.time a0.log m out (j : Int)) (f := itemText)
    (good := fun out => f24L1 (a0.store.items.length + a0.scales.length + 1) (fun (xvs3 : ByteArray) (_ : Int) (_ : Bool) => k [.d .str xvs3]) a0.scales (a0.scales.length : Int) (a0.store.items.length + a0.scales.length + 1) out (0 : Int)) (fun j out => out.size ≤ 100 + 1099600000001 * j)
    (fun j out x hx hi => ?_) (fun m j out x hx hi => ?_) (fun m out hi => by simp only [f24L0, idxE, cond_false]) a0.store.items.length 0 (a0.store.items.length + a0.scales.length + 1) (bs [116,105,109,101,32] ++ digS a0.time ++ bs [32,110,101,120,116,32] ++ digS a0.store.next ++ bs [10]) (by omega) (by omega) (by first | (simp only [ByteArray.size_append, bs_size, List.length_cons, List.length_nil]; omega) | omega)) ?_
  · have := orderText_size (hio x (List.mem_of_getElem? hx))
    have hi : out.size ≤ 100 + 1099600000001 * j := hi
    show (itemText out x).size ≤ 100 + 1099600000001 * (j + 1)
    rw [Nat.mul_add_one, ← Nat.add_assoc]
    unfold itemText
    simp only [ByteArray.size_append, bs_size, List.length_cons, List.length_nil]; omega
  · obtain ⟨h1, h0, hw, ht⟩ := idx (lt_of_get hx) (by omega)
    have hj := lt_of_get hx
    have hx2 := hio x (List.mem_of_getElem? hx)
    have e1 := orderText_size hx2
    simp only [f24L0, h1, h0, hw, ht, atI_of (t := .item) hx, Bool.and_self, cond_true, hx2]
    rw [app_le (by first | (simp only [ByteArray.size_append, bs_size, List.length_cons, List.length_nil]; omega) | omega), app_le (by first | (simp only [ByteArray.size_append, bs_size, List.length_cons, List.length_nil]; omega) | omega)]
    simp only [cond_true]
    unfold itemText
    rw [ByteArray.append_assoc]
  have hsz : (a0.store.items.foldl itemText (bs [116,105,109,101,32] ++ digS a0.time ++ bs [32,110,101,120,116,32] ++ digS a0.store.next ++ bs [10])).size ≤ 100 + 1153017000000000000 := by
    have h1 := fold_size (f := itemText) (C := 1099600000001) a0.store.items (bs [116,105,109,101,32] ++ digS a0.time ++ bs [32,110,101,120,116,32] ++ digS a0.store.next ++ bs [10]) fun out x hx => by
      have := orderText_size (hio x hx)
      unfold itemText
      simp only [ByteArray.size_append, bs_size, List.length_cons, List.length_nil]; omega
    have h2 : a0.store.items.length * 1099600000001 ≤ 1048576 * 1099600000001 := Nat.mul_le_mul_right _ hli
    have h3 : (bs [116,105,109,101,32] ++ digS a0.time ++ bs [32,110,101,120,116,32] ++ digS a0.store.next ++ bs [10]).size ≤ 100 := (by first | (simp only [ByteArray.size_append, bs_size, List.length_cons, List.length_nil]; omega) | omega)
    omega
  rw [List.drop_zero]
  refine Eq.trans (loop_acc (xs := a0.scales) (F := fun m j out => f24L1 (a0.store.items.length + a0.scales.length + 1) _ a0.scales (a0.scales.length : Int) m out (j : Int)) (f := scText) (good := fun out => k [.d .str out]) (fun j out => out.size ≤ 1153017000000000100 + 60000001 * j)
    (fun j out x hx hi => ?_) (fun m j out x hx hi => ?_) (fun m out hi => by simp only [f24L1, idxE, cond_false]) a0.scales.length 0 (a0.store.items.length + a0.scales.length + 1) _ (by omega) (by omega) (by omega)) ?_
  · have := scaleText_size (hso x (List.mem_of_getElem? hx))
    have hi : out.size ≤ 1153017000000000100 + 60000001 * j := hi
    show (scText out x).size ≤ 1153017000000000100 + 60000001 * (j + 1)
    rw [Nat.mul_add_one, ← Nat.add_assoc]
    unfold scText
    simp only [ByteArray.size_append, bs_size, List.length_cons, List.length_nil]; omega
  · obtain ⟨h1, h0, hw, ht⟩ := idx (lt_of_get hx) (by omega)
    have hj := lt_of_get hx
    have hx2 := hso x (List.mem_of_getElem? hx)
    have e1 := scaleText_size hx2
    simp only [f24L1, h1, h0, hw, ht, atI_of (t := .scale) hx, Bool.and_self, cond_true, hx2]
    rw [app_le (by first | (simp only [ByteArray.size_append, bs_size, List.length_cons, List.length_nil]; omega) | omega), app_le (by first | (simp only [ByteArray.size_append, bs_size, List.length_cons, List.length_nil]; omega) | omega)]
    simp only [cond_true]
    unfold scText
    rw [ByteArray.append_assoc]
  · rfl

noncomputable def q24 : List Dt → Option (Bool × List Dt)
  | [.d .world a0] => some ((sm_world a0), [.d .str (worldText a0)])
  | _ => none
noncomputable def s24 : Gm.Spec := Gm.Spec.of [.ro] [false] true q24
theorem good24 : Gm.Good Try.prog (24, s24) := by
  have hl : ∀ x ∈ [(14, s14), (19, s19), (29, s29), (30, s30)], Gm.Good Try.prog x := List.forall_mem_cons.2 ⟨good14, List.forall_mem_cons.2 ⟨good19, List.forall_mem_cons.2 ⟨good29, List.forall_mem_cons.2 ⟨good30, List.forall_mem_nil _⟩⟩⟩⟩
  refine ⟨⟨spec_ok (tab_ok.env hl) (tab.natl hl) Try.func24 (by kernel_rfl : Try.f24.body = some f24c) [9] (by kernel_rfl) ?_, _, Try.func24, by kernel_rfl, of_decide_eq_true (by kernel_rfl)⟩, Gm.Spec.of_natl _ _ _ _⟩
  intro ds outs h
  unfold q24 at h
  split at h
  · simp only [Option.some.injEq, Prod.mk.injEq] at h; obtain ⟨hg, h⟩ := h; cases h; exact f24_spec _ hg
  · cases h
/-! ### loop.example/g00465/spec.WorldText -/
noncomputable def f22c : Code := (Try.f22.body).getD .skip
def f22k : Nat → Kp := kat [⟨[1], []⟩, ⟨[1, 3], []⟩, ⟨[1, 3, 4], []⟩, ⟨[1, 3, 4, 22], []⟩, ⟨[1, 3, 4], []⟩, ⟨[1, 3, 4], []⟩, ⟨[1, 3, 5], []⟩, ⟨[1, 3, 5, 40], []⟩, ⟨[1, 3, 5], []⟩, ⟨[1, 3, 5], []⟩, ⟨[2], []⟩]
noncomputable def f22e : Env := tab.env [(12, s12), (17, s17), (27, s27)]
noncomputable def f22L0 {R : Type} (n : Nat) (x0 : ByteArray → Int → Bool → Option R) (vb1_0 : List ItemT) (vb1_1 : Int) (vb1_2 : List ScaleT) (vb1_3 : Int) (vb1_4 : List ToldT) : Nat → ByteArray → Int → Option R
  | 0, _, _ => none
  | m + 1, vs3, vs4 =>
    (cond (decide (vs4 < (vb1_0.length : Int)))
      (cond ((decide ((0 : Int) ≤ vs4)) && (decide (vs4 < (vb1_0.length : Int))))
        (cond (sm_order (ItemT.order (atI (t := .item) vb1_0 (Int.toNat vs4))))
          (cond (decide (ByteArray.size vs3 + ByteArray.size (orderText (ItemT.order (atI (t := .item) vb1_0 (Int.toNat vs4)))) ≤ 9223372036854775807))
            (cond (decide (ByteArray.size (vs3 ++ (orderText (ItemT.order (atI (t := .item) vb1_0 (Int.toNat vs4))))) + ByteArray.size (bs [10]) ≤ 9223372036854775807))
              (f22L0 n x0 vb1_0 vb1_1 vb1_2 vb1_3 vb1_4 m ((vs3 ++ (orderText (ItemT.order (atI (t := .item) vb1_0 (Int.toNat vs4))))) ++ (bs [10])) (IntKind.wrap .i64 (vs4 + (1 : Int))))
              none)
            none)
          none)
        none)
      (x0 vs3 vs4 (decide (vs4 < (vb1_0.length : Int)))))
theorem f22L0_b {R : Type} (n : Nat) (k' : Ex → St → Option R) (vs3 : ByteArray) (vs4 : Int) (vb1_0 : List ItemT) (vb1_1 : Int) (vb1_2 : List ScaleT) (vb1_3 : Int) (vb1_4 : List ToldT) : ev f22e f22k n (cAt [1,1,0,1,0,0] f22c) ⟨[(1, .c (.one (.pt 1 0))), (3, .c (.one (.v (.string vs3)))), (4, .c (.one (.v (.int .i64 vs4))))], [(1, ⟨.world, [.ro .item vb1_0, .v (.int .i64 vb1_1), .ro .scale vb1_2, .v (.int .i64 vb1_3), .ro .told vb1_4]⟩)], []⟩ k' =
    (cond (decide (vs4 < (vb1_0.length : Int)))
    (cond ((decide ((0 : Int) ≤ vs4)) && (decide (vs4 < (vb1_0.length : Int))))
      (cond (sm_order (ItemT.order (atI (t := .item) vb1_0 (Int.toNat vs4))))
        (cond (decide (ByteArray.size vs3 + ByteArray.size (orderText (ItemT.order (atI (t := .item) vb1_0 (Int.toNat vs4)))) ≤ 9223372036854775807))
          (cond (decide (ByteArray.size (vs3 ++ (orderText (ItemT.order (atI (t := .item) vb1_0 (Int.toNat vs4))))) + ByteArray.size (bs [10]) ≤ 9223372036854775807))
            (k' .normal ⟨[(1, .c (.one (.pt 1 0))), (3, .c (.one (.v (.string ((vs3 ++ (orderText (ItemT.order (atI (t := .item) vb1_0 (Int.toNat vs4))))) ++ (bs [10])))))), (4, .c (.one (.v (.int .i64 (IntKind.wrap .i64 (vs4 + (1 : Int)))))))], [(1, ⟨.world, [.ro .item vb1_0, .v (.int .i64 vb1_1), .ro .scale vb1_2, .v (.int .i64 vb1_3), .ro .told vb1_4]⟩)], []⟩)
            none)
          none)
        none)
      none)
    (k' (.exit 0) ⟨[(1, .c (.one (.pt 1 0))), (3, .c (.one (.v (.string vs3)))), (4, .c (.one (.v (.int .i64 vs4)))), (22, .c (.one (.v (.bool (decide (vs4 < (vb1_0.length : Int)))))))], [(1, ⟨.world, [.ro .item vb1_0, .v (.int .i64 vb1_1), .ro .scale vb1_2, .v (.int .i64 vb1_3), .ro .told vb1_4]⟩)], []⟩)) := by kernel_rfl
theorem f22L0_eq {R : Type} (n : Nat) (k' : Ex → St → Option R) (vb1_0 : List ItemT) (vb1_1 : Int) (vb1_2 : List ScaleT) (vb1_3 : Int) (vb1_4 : List ToldT) : ∀ (m : Nat) (vs3 : ByteArray) (vs4 : Int), iter (fun st k => ev f22e f22k n (cAt [1,1,0,1,0,0] f22c) st k) m ⟨[(1, .c (.one (.pt 1 0))), (3, .c (.one (.v (.string vs3)))), (4, .c (.one (.v (.int .i64 vs4))))], [(1, ⟨.world, [.ro .item vb1_0, .v (.int .i64 vb1_1), .ro .scale vb1_2, .v (.int .i64 vb1_3), .ro .told vb1_4]⟩)], []⟩ k' = f22L0 n (fun (xvs3 : ByteArray) (xvs4 : Int) (xvs22 : Bool) => k' (.exit 0) ⟨[(1, .c (.one (.pt 1 0))), (3, .c (.one (.v (.string xvs3)))), (4, .c (.one (.v (.int .i64 xvs4)))), (22, .c (.one (.v (.bool xvs22))))], [(1, ⟨.world, [.ro .item vb1_0, .v (.int .i64 vb1_1), .ro .scale vb1_2, .v (.int .i64 vb1_3), .ro .told vb1_4]⟩)], []⟩) vb1_0 vb1_1 vb1_2 vb1_3 vb1_4 m vs3 vs4 := by
  intro m; induction m with
  | zero => intros; rfl
  | succ m ih =>
    intro vs3 vs4
    simp only [iter]
    rw [f22L0_b]
    simp only [ih, f22L0]

noncomputable def f22L1 {R : Type} (n : Nat) (x0 : ByteArray → Int → Bool → Option R) (vb1_0 : List ItemT) (vb1_1 : Int) (vb1_2 : List ScaleT) (vb1_3 : Int) (vb1_4 : List ToldT) : Nat → ByteArray → Int → Option R
  | 0, _, _ => none
  | m + 1, vs3, vs5 =>
    (cond (decide (vs5 < (vb1_2.length : Int)))
      (cond ((decide ((0 : Int) ≤ vs5)) && (decide (vs5 < (vb1_2.length : Int))))
        (cond (sm_scale (atI (t := .scale) vb1_2 (Int.toNat vs5)))
          (cond (decide (ByteArray.size vs3 + ByteArray.size (scaleText (atI (t := .scale) vb1_2 (Int.toNat vs5))) ≤ 9223372036854775807))
            (cond (decide (ByteArray.size (vs3 ++ (scaleText (atI (t := .scale) vb1_2 (Int.toNat vs5)))) + ByteArray.size (bs [10]) ≤ 9223372036854775807))
              (f22L1 n x0 vb1_0 vb1_1 vb1_2 vb1_3 vb1_4 m ((vs3 ++ (scaleText (atI (t := .scale) vb1_2 (Int.toNat vs5)))) ++ (bs [10])) (IntKind.wrap .i64 (vs5 + (1 : Int))))
              none)
            none)
          none)
        none)
      (x0 vs3 vs5 (decide (vs5 < (vb1_2.length : Int)))))
theorem f22L1_b {R : Type} (n : Nat) (k' : Ex → St → Option R) (vs3 : ByteArray) (vs5 : Int) (vb1_0 : List ItemT) (vb1_1 : Int) (vb1_2 : List ScaleT) (vb1_3 : Int) (vb1_4 : List ToldT) : ev f22e f22k n (cAt [1,1,1,0,1,0,0] f22c) ⟨[(1, .c (.one (.pt 1 0))), (3, .c (.one (.v (.string vs3)))), (5, .c (.one (.v (.int .i64 vs5))))], [(1, ⟨.world, [.ro .item vb1_0, .v (.int .i64 vb1_1), .ro .scale vb1_2, .v (.int .i64 vb1_3), .ro .told vb1_4]⟩)], []⟩ k' =
    (cond (decide (vs5 < (vb1_2.length : Int)))
    (cond ((decide ((0 : Int) ≤ vs5)) && (decide (vs5 < (vb1_2.length : Int))))
      (cond (sm_scale (atI (t := .scale) vb1_2 (Int.toNat vs5)))
        (cond (decide (ByteArray.size vs3 + ByteArray.size (scaleText (atI (t := .scale) vb1_2 (Int.toNat vs5))) ≤ 9223372036854775807))
          (cond (decide (ByteArray.size (vs3 ++ (scaleText (atI (t := .scale) vb1_2 (Int.toNat vs5)))) + ByteArray.size (bs [10]) ≤ 9223372036854775807))
            (k' .normal ⟨[(1, .c (.one (.pt 1 0))), (3, .c (.one (.v (.string ((vs3 ++ (scaleText (atI (t := .scale) vb1_2 (Int.toNat vs5)))) ++ (bs [10])))))), (5, .c (.one (.v (.int .i64 (IntKind.wrap .i64 (vs5 + (1 : Int)))))))], [(1, ⟨.world, [.ro .item vb1_0, .v (.int .i64 vb1_1), .ro .scale vb1_2, .v (.int .i64 vb1_3), .ro .told vb1_4]⟩)], []⟩)
            none)
          none)
        none)
      none)
    (k' (.exit 2) ⟨[(1, .c (.one (.pt 1 0))), (3, .c (.one (.v (.string vs3)))), (5, .c (.one (.v (.int .i64 vs5)))), (40, .c (.one (.v (.bool (decide (vs5 < (vb1_2.length : Int)))))))], [(1, ⟨.world, [.ro .item vb1_0, .v (.int .i64 vb1_1), .ro .scale vb1_2, .v (.int .i64 vb1_3), .ro .told vb1_4]⟩)], []⟩)) := by kernel_rfl
theorem f22L1_eq {R : Type} (n : Nat) (k' : Ex → St → Option R) (vb1_0 : List ItemT) (vb1_1 : Int) (vb1_2 : List ScaleT) (vb1_3 : Int) (vb1_4 : List ToldT) : ∀ (m : Nat) (vs3 : ByteArray) (vs5 : Int), iter (fun st k => ev f22e f22k n (cAt [1,1,1,0,1,0,0] f22c) st k) m ⟨[(1, .c (.one (.pt 1 0))), (3, .c (.one (.v (.string vs3)))), (5, .c (.one (.v (.int .i64 vs5))))], [(1, ⟨.world, [.ro .item vb1_0, .v (.int .i64 vb1_1), .ro .scale vb1_2, .v (.int .i64 vb1_3), .ro .told vb1_4]⟩)], []⟩ k' = f22L1 n (fun (xvs3 : ByteArray) (xvs5 : Int) (xvs40 : Bool) => k' (.exit 2) ⟨[(1, .c (.one (.pt 1 0))), (3, .c (.one (.v (.string xvs3)))), (5, .c (.one (.v (.int .i64 xvs5)))), (40, .c (.one (.v (.bool xvs40))))], [(1, ⟨.world, [.ro .item vb1_0, .v (.int .i64 vb1_1), .ro .scale vb1_2, .v (.int .i64 vb1_3), .ro .told vb1_4]⟩)], []⟩) vb1_0 vb1_1 vb1_2 vb1_3 vb1_4 m vs3 vs5 := by
  intro m; induction m with
  | zero => intros; rfl
  | succ m ih =>
    intro vs3 vs5
    simp only [iter]
    rw [f22L1_b]
    simp only [ih, f22L1]

noncomputable def f22K1 {R : Type} (n : Nat) (k' : Ex → St → Option R) : Ex → St → Option R := (blockK 2 (seqK f22e f22k n (cAt [1,1,1,1] f22c) k'))
theorem f22K1_x0 {R : Type} (n : Nat) (k : List Dt → Option R) (a0 : WorldT) (vb1_0 : List ItemT) (vb1_1 : Int) (vb1_2 : List ScaleT) (vb1_3 : Int) (vb1_4 : List ToldT) (xvs3 : ByteArray) (xvs5 : Int) (xvs40 : Bool) : f22K1 n (exitK f22e [.ro] [false] true [.tmp 2] [9] [.d .world a0] k) (.exit 2) ⟨[(1, .c (.one (.pt 1 0))), (3, .c (.one (.v (.string xvs3)))), (5, .c (.one (.v (.int .i64 xvs5)))), (40, .c (.one (.v (.bool xvs40))))], [(1, ⟨.world, [.ro .item vb1_0, .v (.int .i64 vb1_1), .ro .scale vb1_2, .v (.int .i64 vb1_3), .ro .told vb1_4]⟩)], []⟩ =
    (k [.d .str xvs3]) := by kernel_rfl

noncomputable def f22K0 {R : Type} (n : Nat) (k' : Ex → St → Option R) : Ex → St → Option R := (blockK 0 (seqK f22e f22k n (cAt [1,1,1] f22c) k'))
theorem f22K0_x0 {R : Type} (n : Nat) (k : List Dt → Option R) (a0 : WorldT) (vb1_0 : List ItemT) (vb1_1 : Int) (vb1_2 : List ScaleT) (vb1_3 : Int) (vb1_4 : List ToldT) (xvs3 : ByteArray) (xvs4 : Int) (xvs22 : Bool) : f22K0 n (exitK f22e [.ro] [false] true [.tmp 2] [9] [.d .world a0] k) (.exit 0) ⟨[(1, .c (.one (.pt 1 0))), (3, .c (.one (.v (.string xvs3)))), (4, .c (.one (.v (.int .i64 xvs4)))), (22, .c (.one (.v (.bool xvs22))))], [(1, ⟨.world, [.ro .item vb1_0, .v (.int .i64 vb1_1), .ro .scale vb1_2, .v (.int .i64 vb1_3), .ro .told vb1_4]⟩)], []⟩ =
    (f22L1 n (fun (xvs3 : ByteArray) (xvs5 : Int) (xvs40 : Bool) =>
    (k [.d .str xvs3])) vb1_0 vb1_1 vb1_2 vb1_3 vb1_4 n xvs3 (0 : Int)) := by
  refine Eq.trans (b := (iter (fun st k => ev f22e f22k n (cAt [1,1,1,0,1,0,0] f22c) st k) n ⟨[(1, .c (.one (.pt 1 0))), (3, .c (.one (.v (.string xvs3)))), (5, .c (.one (.v (.int .i64 (0 : Int)))))], [(1, ⟨.world, [.ro .item vb1_0, .v (.int .i64 vb1_1), .ro .scale vb1_2, .v (.int .i64 vb1_3), .ro .told vb1_4]⟩)], []⟩ (f22K1 n (exitK f22e [.ro] [false] true [.tmp 2] [9] [.d .world a0] k)))) (by kernel_rfl) ?_
  simp only [f22L1_eq, f22K1_x0]

theorem f22_run {R : Type} (n : Nat) (k : List Dt → Option R) (a0 : WorldT) : evFn f22e f22k n f22c [.ro] [false] true [.tmp 2] [9] [.d .world a0] k =
    (cond (okI (WorldT.time a0))
    (cond (decide (ByteArray.size (bs [116,105,109,101,32]) + ByteArray.size (digS (WorldT.time a0)) ≤ 9223372036854775807))
      (cond (decide (ByteArray.size ((bs [116,105,109,101,32]) ++ (digS (WorldT.time a0))) + ByteArray.size (bs [32,110,101,120,116,32]) ≤ 9223372036854775807))
        (cond (okI (StoreT.next (WorldT.store a0)))
          (cond (decide (ByteArray.size (((bs [116,105,109,101,32]) ++ (digS (WorldT.time a0))) ++ (bs [32,110,101,120,116,32])) + ByteArray.size (digS (StoreT.next (WorldT.store a0))) ≤ 9223372036854775807))
            (cond (decide (ByteArray.size ((((bs [116,105,109,101,32]) ++ (digS (WorldT.time a0))) ++ (bs [32,110,101,120,116,32])) ++ (digS (StoreT.next (WorldT.store a0)))) + ByteArray.size (bs [10]) ≤ 9223372036854775807))
              (f22L0 n (fun (xvs3 : ByteArray) (xvs4 : Int) (xvs22 : Bool) =>
                (f22L1 n (fun (xvs3 : ByteArray) (xvs5 : Int) (xvs40 : Bool) =>
                  (k [.d .str xvs3])) (StoreT.items (WorldT.store a0)) (StoreT.next (WorldT.store a0)) (WorldT.scales a0) (WorldT.time a0) (WorldT.log a0) n xvs3 (0 : Int))) (StoreT.items (WorldT.store a0)) (StoreT.next (WorldT.store a0)) (WorldT.scales a0) (WorldT.time a0) (WorldT.log a0) n (((((bs [116,105,109,101,32]) ++ (digS (WorldT.time a0))) ++ (bs [32,110,101,120,116,32])) ++ (digS (StoreT.next (WorldT.store a0)))) ++ (bs [10])) (0 : Int))
              none)
            none)
          none)
        none)
      none)
    none) := by
  refine Eq.trans (b := (cond (okI (WorldT.time a0))
    (cond (decide (ByteArray.size (bs [116,105,109,101,32]) + ByteArray.size (digS (WorldT.time a0)) ≤ 9223372036854775807))
      (cond (decide (ByteArray.size ((bs [116,105,109,101,32]) ++ (digS (WorldT.time a0))) + ByteArray.size (bs [32,110,101,120,116,32]) ≤ 9223372036854775807))
        (cond (okI (StoreT.next (WorldT.store a0)))
          (cond (decide (ByteArray.size (((bs [116,105,109,101,32]) ++ (digS (WorldT.time a0))) ++ (bs [32,110,101,120,116,32])) + ByteArray.size (digS (StoreT.next (WorldT.store a0))) ≤ 9223372036854775807))
            (cond (decide (ByteArray.size ((((bs [116,105,109,101,32]) ++ (digS (WorldT.time a0))) ++ (bs [32,110,101,120,116,32])) ++ (digS (StoreT.next (WorldT.store a0)))) + ByteArray.size (bs [10]) ≤ 9223372036854775807))
              (iter (fun st k => ev f22e f22k n (cAt [1,1,0,1,0,0] f22c) st k) n ⟨[(1, .c (.one (.pt 1 0))), (3, .c (.one (.v (.string (((((bs [116,105,109,101,32]) ++ (digS (WorldT.time a0))) ++ (bs [32,110,101,120,116,32])) ++ (digS (StoreT.next (WorldT.store a0)))) ++ (bs [10])))))), (4, .c (.one (.v (.int .i64 (0 : Int)))))], [(1, ⟨.world, [.ro .item (StoreT.items (WorldT.store a0)), .v (.int .i64 (StoreT.next (WorldT.store a0))), .ro .scale (WorldT.scales a0), .v (.int .i64 (WorldT.time a0)), .ro .told (WorldT.log a0)]⟩)], []⟩ (f22K0 n (exitK f22e [.ro] [false] true [.tmp 2] [9] [.d .world a0] k)))
              none)
            none)
          none)
        none)
      none)
    none)) (by kernel_rfl) ?_
  simp only [f22L0_eq, f22K0_x0, f22L1_eq, f22K1_x0]
theorem f22_spec (a0 : WorldT) (hg : sm_world a0 = true) : ∃ keep rounds, ∀ {R : Type} (k : List Dt → Option R), evFn f22e keep rounds f22c [.ro] [false] true [.tmp 2] [9] [.d .world a0] k = k [.d .str (worldText a0)] := by
  simp only [sm_world, sm_store, Bool.and_eq_true] at hg
  obtain ⟨⟨hi, hnx⟩, hs, htm, _⟩ := hg
  have d1 := digS_size htm
  have d2 := digS_size hnx
  have hli := smL_len hi
  have hls := smL_len hs
  have hio : ∀ x ∈ a0.store.items, sm_order x.order = true := fun x hx => by
    have := List.all_eq_true.1 (smL_all hi) x hx
    simp only [sm_item, Bool.and_eq_true] at this
    exact this.1
  have hso : ∀ x ∈ a0.scales, sm_scale x = true := fun x hx => List.all_eq_true.1 (smL_all hs) x hx
  refine ⟨f22k, a0.store.items.length + a0.scales.length + 1, fun {R} k => ?_⟩
  rw [f22_run, htm, hnx]
  rw [app_le (by first | (simp only [ByteArray.size_append, bs_size, List.length_cons, List.length_nil]; omega) | omega), app_le (by first | (simp only [ByteArray.size_append, bs_size, List.length_cons, List.length_nil]; omega) | omega), app_le (by first | (simp only [ByteArray.size_append, bs_size, List.length_cons, List.length_nil]; omega) | omega), app_le (by first | (simp only [ByteArray.size_append, bs_size, List.length_cons, List.length_nil]; omega) | omega)]
  simp only [cond_true]
  refine Eq.trans (loop_acc (xs := a0.store.items) (F := fun m j out => f22L0 (a0.store.items.length + a0.scales.length + 1) _ a0.store.items a0.store.next a0.scales a0.time a0.log m out (j : Int)) (f := itemText)
    (good := fun out => f22L1 (a0.store.items.length + a0.scales.length + 1) (fun (xvs3 : ByteArray) (_ : Int) (_ : Bool) => k [.d .str xvs3]) a0.store.items a0.store.next a0.scales a0.time a0.log (a0.store.items.length + a0.scales.length + 1) out (0 : Int)) (fun j out => out.size ≤ 100 + 1099600000001 * j)
    (fun j out x hx hi => ?_) (fun m j out x hx hi => ?_) (fun m out hi => by simp only [f22L0, idxE, cond_false]) a0.store.items.length 0 (a0.store.items.length + a0.scales.length + 1) (bs [116,105,109,101,32] ++ digS a0.time ++ bs [32,110,101,120,116,32] ++ digS a0.store.next ++ bs [10]) (by omega) (by omega) (by first | (simp only [ByteArray.size_append, bs_size, List.length_cons, List.length_nil]; omega) | omega)) ?_
  · have := orderText_size (hio x (List.mem_of_getElem? hx))
    have hi : out.size ≤ 100 + 1099600000001 * j := hi
    show (itemText out x).size ≤ 100 + 1099600000001 * (j + 1)
    rw [Nat.mul_add_one, ← Nat.add_assoc]
    unfold itemText
    simp only [ByteArray.size_append, bs_size, List.length_cons, List.length_nil]; omega
  · obtain ⟨h1, h0, hw, ht⟩ := idx (lt_of_get hx) (by omega)
    have hj := lt_of_get hx
    have hx2 := hio x (List.mem_of_getElem? hx)
    have e1 := orderText_size hx2
    simp only [f22L0, h1, h0, hw, ht, atI_of (t := .item) hx, Bool.and_self, cond_true, hx2]
    rw [app_le (by first | (simp only [ByteArray.size_append, bs_size, List.length_cons, List.length_nil]; omega) | omega), app_le (by first | (simp only [ByteArray.size_append, bs_size, List.length_cons, List.length_nil]; omega) | omega)]
    simp only [cond_true]
    rfl
  have hsz : (a0.store.items.foldl itemText (bs [116,105,109,101,32] ++ digS a0.time ++ bs [32,110,101,120,116,32] ++ digS a0.store.next ++ bs [10])).size ≤ 100 + 1153017000000000000 := by
    have h1 := fold_size (f := itemText) (C := 1099600000001) a0.store.items (bs [116,105,109,101,32] ++ digS a0.time ++ bs [32,110,101,120,116,32] ++ digS a0.store.next ++ bs [10]) fun out x hx => by
      have := orderText_size (hio x hx)
      unfold itemText
      simp only [ByteArray.size_append, bs_size, List.length_cons, List.length_nil]; omega
    have h2 : a0.store.items.length * 1099600000001 ≤ 1048576 * 1099600000001 := Nat.mul_le_mul_right _ hli
    have h3 : (bs [116,105,109,101,32] ++ digS a0.time ++ bs [32,110,101,120,116,32] ++ digS a0.store.next ++ bs [10]).size ≤ 100 := (by first | (simp only [ByteArray.size_append, bs_size, List.length_cons, List.length_nil]; omega) | omega)
    omega
  rw [List.drop_zero]
  refine Eq.trans (loop_acc (xs := a0.scales) (F := fun m j out => f22L1 (a0.store.items.length + a0.scales.length + 1) _ a0.store.items a0.store.next a0.scales a0.time a0.log m out (j : Int)) (f := scText) (good := fun out => k [.d .str out]) (fun j out => out.size ≤ 1153017000000000100 + 60000001 * j)
    (fun j out x hx hi => ?_) (fun m j out x hx hi => ?_) (fun m out hi => by simp only [f22L1, idxE, cond_false]) a0.scales.length 0 (a0.store.items.length + a0.scales.length + 1) _ (by omega) (by omega) (by omega)) ?_
  · have := scaleText_size (hso x (List.mem_of_getElem? hx))
    have hi : out.size ≤ 1153017000000000100 + 60000001 * j := hi
    show (scText out x).size ≤ 1153017000000000100 + 60000001 * (j + 1)
    rw [Nat.mul_add_one, ← Nat.add_assoc]
    unfold scText
    simp only [ByteArray.size_append, bs_size, List.length_cons, List.length_nil]; omega
  · obtain ⟨h1, h0, hw, ht⟩ := idx (lt_of_get hx) (by omega)
    have hj := lt_of_get hx
    have hx2 := hso x (List.mem_of_getElem? hx)
    have e1 := scaleText_size hx2
    simp only [f22L1, h1, h0, hw, ht, atI_of (t := .scale) hx, Bool.and_self, cond_true, hx2]
    rw [app_le (by first | (simp only [ByteArray.size_append, bs_size, List.length_cons, List.length_nil]; omega) | omega), app_le (by first | (simp only [ByteArray.size_append, bs_size, List.length_cons, List.length_nil]; omega) | omega)]
    simp only [cond_true]
    rfl
  · rfl

noncomputable def q22 : List Dt → Option (Bool × List Dt)
  | [.d .world a0] => some ((sm_world a0), [.d .str (worldText a0)])
  | _ => none
noncomputable def s22 : Gm.Spec := Gm.Spec.of [.ro] [false] true q22
theorem good22 : Gm.Good Try.prog (22, s22) := by
  have hl : ∀ x ∈ [(12, s12), (17, s17), (27, s27)], Gm.Good Try.prog x := List.forall_mem_cons.2 ⟨good12, List.forall_mem_cons.2 ⟨good17, List.forall_mem_cons.2 ⟨good27, List.forall_mem_nil _⟩⟩⟩
  refine ⟨⟨spec_ok (tab_ok.env hl) (tab.natl hl) Try.func22 (by kernel_rfl : Try.f22.body = some f22c) [9] (by kernel_rfl) ?_, _, Try.func22, by kernel_rfl, of_decide_eq_true (by kernel_rfl)⟩, Gm.Spec.of_natl _ _ _ _⟩
  intro ds outs h
  unfold q22 at h
  split at h
  · simp only [Option.some.injEq, Prod.mk.injEq] at h; obtain ⟨hg, h⟩ := h; cases h; exact f22_spec _ hg
  · cases h
end Go.Proofs.Ythjkdgbijfkmaaa

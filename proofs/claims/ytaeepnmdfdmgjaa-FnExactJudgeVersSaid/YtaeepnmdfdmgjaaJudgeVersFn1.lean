/- What the functions compute, part 1. No conditions. -/
import Derived.Test.YtaeepnmdfdmgjaaGm4
import Derived.Test.YtaeepnmdfdmgjaaRows
import Derived.Lib.Strings
import Derived.Lib.Slices
import Derived.Lib.Walk
import Derived.Lib.Bytealg
/- The table of types of the program, and that it is the program's. Printed by gev.py of this session. -/
namespace Go.Proofs.Ytaeepnmdfdmgjaa
open Go Go.Gm
def tab : Tab := { code := [(2, (.i .i64)), (3, (.i .i64)), (4, .bool), (5, (.i .u8)), (6, (.i .u8)), (9, .str), (10, .str), (11, .str), (12, (.i .u64)), (21, (.i .i32)), (22, (.sl .item)), (24, .store), (25, (.sl .scale)), (26, (.sl .told)), (28, .world), (31, (.sl .item)), (33, .store), (34, (.sl .scale)), (35, (.sl .told)), (37, .world), (45, (.sl .rcd)), (47, .scale), (56, (.sl .metric)), (58, .pace), (59, (.sl .note)), (61, .order), (63, .item), (66, (.sl .rcd)), (68, .scale), (71, .told), (74, .rcd), (77, .told), (86, (.sl .metric)), (87, .pace), (88, (.sl .note)), (90, .order), (92, .item), (109, .rcd), (111, .metric), (119, .note), (128, .metric), (130, .note), (143, (.i .u32)), (144, (.i .u8)), (145, (.i .u8)), (148, (.i .i32)), (149, (.i .i32))], eqs := [], fld := [(24, [(0, 22), (1, 3)]), (28, [(0, 24), (2, 25), (3, 3), (4, 26)]), (33, [(0, 31), (1, 3)]), (37, [(0, 33), (2, 34), (3, 3), (4, 35)]), (47, [(0, 9), (1, 3), (2, 45)]), (58, [(0, 3), (1, 3), (2, 3), (3, 3)]), (61, [(0, 9), (1, 9), (2, 3), (3, 3), (4, 56), (5, 58), (9, 59)]), (63, [(0, 61), (10, 3)]), (68, [(0, 9), (1, 3), (2, 66)]), (71, [(0, 3), (1, 9), (2, 3)]), (74, [(0, 3), (1, 3)]), (77, [(0, 3), (1, 9), (2, 3)]), (87, [(0, 3), (1, 3), (2, 3), (3, 3)]), (90, [(0, 9), (1, 9), (2, 3), (3, 3), (4, 86), (5, 87), (9, 88)]), (92, [(0, 90), (10, 3)]), (109, [(0, 3), (1, 3)]), (111, [(0, 9), (1, 3), (2, 3)]), (119, [(0, 9), (1, 9)]), (128, [(0, 9), (1, 3), (2, 3)]), (130, [(0, 9), (1, 9)])] }
theorem und2 : UndOk (tab.env []) Try.prog 2 (.i .i64) := (by kernel_rfl : Try.prog.underlying 2 = some (.int .i64))
theorem und3 : UndOk (tab.env []) Try.prog 3 (.i .i64) := (by kernel_rfl : Try.prog.underlying 3 = some (.int .i64))
theorem und4 : UndOk (tab.env []) Try.prog 4 .bool := (by kernel_rfl : Try.prog.underlying 4 = some .bool)
theorem und5 : UndOk (tab.env []) Try.prog 5 (.i .u8) := (by kernel_rfl : Try.prog.underlying 5 = some (.int .u8))
theorem und6 : UndOk (tab.env []) Try.prog 6 (.i .u8) := (by kernel_rfl : Try.prog.underlying 6 = some (.int .u8))
theorem und9 : UndOk (tab.env []) Try.prog 9 .str := (by kernel_rfl : Try.prog.underlying 9 = some .string)
theorem und10 : UndOk (tab.env []) Try.prog 10 .str := (by kernel_rfl : Try.prog.underlying 10 = some .string)
theorem und11 : UndOk (tab.env []) Try.prog 11 .str := (by kernel_rfl : Try.prog.underlying 11 = some .string)
theorem und12 : UndOk (tab.env []) Try.prog 12 (.i .u64) := (by kernel_rfl : Try.prog.underlying 12 = some (.int .u64))
theorem und21 : UndOk (tab.env []) Try.prog 21 (.i .i32) := (by kernel_rfl : Try.prog.underlying 21 = some (.int .i32))
theorem und22 : UndOk (tab.env []) Try.prog 22 (.sl .item) := ⟨92, by kernel_rfl, by kernel_rfl⟩
theorem und24 : UndOk (tab.env []) Try.prog 24 .store := ⟨_, Try.underlying24⟩
theorem und25 : UndOk (tab.env []) Try.prog 25 (.sl .scale) := ⟨68, by kernel_rfl, by kernel_rfl⟩
theorem und26 : UndOk (tab.env []) Try.prog 26 (.sl .told) := ⟨71, by kernel_rfl, by kernel_rfl⟩
theorem und28 : UndOk (tab.env []) Try.prog 28 .world := ⟨_, Try.underlying28⟩
theorem und31 : UndOk (tab.env []) Try.prog 31 (.sl .item) := ⟨63, by kernel_rfl, by kernel_rfl⟩
theorem und33 : UndOk (tab.env []) Try.prog 33 .store := ⟨_, Try.underlying33⟩
theorem und34 : UndOk (tab.env []) Try.prog 34 (.sl .scale) := ⟨47, by kernel_rfl, by kernel_rfl⟩
theorem und35 : UndOk (tab.env []) Try.prog 35 (.sl .told) := ⟨77, by kernel_rfl, by kernel_rfl⟩
theorem und37 : UndOk (tab.env []) Try.prog 37 .world := ⟨_, Try.underlying37⟩
theorem und45 : UndOk (tab.env []) Try.prog 45 (.sl .rcd) := ⟨74, by kernel_rfl, by kernel_rfl⟩
theorem und47 : UndOk (tab.env []) Try.prog 47 .scale := ⟨_, Try.underlying47⟩
theorem und56 : UndOk (tab.env []) Try.prog 56 (.sl .metric) := ⟨111, by kernel_rfl, by kernel_rfl⟩
theorem und58 : UndOk (tab.env []) Try.prog 58 .pace := ⟨_, Try.underlying58⟩
theorem und59 : UndOk (tab.env []) Try.prog 59 (.sl .note) := ⟨119, by kernel_rfl, by kernel_rfl⟩
theorem und61 : UndOk (tab.env []) Try.prog 61 .order := ⟨_, Try.underlying61⟩
theorem und63 : UndOk (tab.env []) Try.prog 63 .item := ⟨_, Try.underlying63⟩
theorem und66 : UndOk (tab.env []) Try.prog 66 (.sl .rcd) := ⟨109, by kernel_rfl, by kernel_rfl⟩
theorem und68 : UndOk (tab.env []) Try.prog 68 .scale := ⟨_, Try.underlying68⟩
theorem und71 : UndOk (tab.env []) Try.prog 71 .told := ⟨_, Try.underlying71⟩
theorem und74 : UndOk (tab.env []) Try.prog 74 .rcd := ⟨_, Try.underlying74⟩
theorem und77 : UndOk (tab.env []) Try.prog 77 .told := ⟨_, Try.underlying77⟩
theorem und86 : UndOk (tab.env []) Try.prog 86 (.sl .metric) := ⟨128, by kernel_rfl, by kernel_rfl⟩
theorem und87 : UndOk (tab.env []) Try.prog 87 .pace := ⟨_, Try.underlying87⟩
theorem und88 : UndOk (tab.env []) Try.prog 88 (.sl .note) := ⟨130, by kernel_rfl, by kernel_rfl⟩
theorem und90 : UndOk (tab.env []) Try.prog 90 .order := ⟨_, Try.underlying90⟩
theorem und92 : UndOk (tab.env []) Try.prog 92 .item := ⟨_, Try.underlying92⟩
theorem und109 : UndOk (tab.env []) Try.prog 109 .rcd := ⟨_, Try.underlying109⟩
theorem und111 : UndOk (tab.env []) Try.prog 111 .metric := ⟨_, Try.underlying111⟩
theorem und119 : UndOk (tab.env []) Try.prog 119 .note := ⟨_, Try.underlying119⟩
theorem und128 : UndOk (tab.env []) Try.prog 128 .metric := ⟨_, Try.underlying128⟩
theorem und130 : UndOk (tab.env []) Try.prog 130 .note := ⟨_, Try.underlying130⟩
theorem und143 : UndOk (tab.env []) Try.prog 143 (.i .u32) := (by kernel_rfl : Try.prog.underlying 143 = some (.int .u32))
theorem und144 : UndOk (tab.env []) Try.prog 144 (.i .u8) := (by kernel_rfl : Try.prog.underlying 144 = some (.int .u8))
theorem und145 : UndOk (tab.env []) Try.prog 145 (.i .u8) := (by kernel_rfl : Try.prog.underlying 145 = some (.int .u8))
theorem und148 : UndOk (tab.env []) Try.prog 148 (.i .i32) := (by kernel_rfl : Try.prog.underlying 148 = some (.int .i32))
theorem und149 : UndOk (tab.env []) Try.prog 149 (.i .i32) := (by kernel_rfl : Try.prog.underlying 149 = some (.int .i32))
theorem fld24 : ∃ fs : Array Field, Try.prog.underlying 24 = some (.struct fs) ∧ [(0, 22), (1, 3)] = fs.toList.map (fun f => (f.offset, f.type)) ∧ (∀ y ∈ ([(0, 22), (1, 3)] : List (Nat × Nat)), (aget tab.code y.2).isSome) ∧ (fs.toList.mapM (fun f => (Try.prog.info? f.type).map fun i => (f.offset, i.size))).isSome :=
  ⟨_, Try.underlying24, by kernel_rfl, List.all_eq_true.1 (by kernel_rfl), by kernel_rfl⟩
theorem fld28 : ∃ fs : Array Field, Try.prog.underlying 28 = some (.struct fs) ∧ [(0, 24), (2, 25), (3, 3), (4, 26)] = fs.toList.map (fun f => (f.offset, f.type)) ∧ (∀ y ∈ ([(0, 24), (2, 25), (3, 3), (4, 26)] : List (Nat × Nat)), (aget tab.code y.2).isSome) ∧ (fs.toList.mapM (fun f => (Try.prog.info? f.type).map fun i => (f.offset, i.size))).isSome :=
  ⟨_, Try.underlying28, by kernel_rfl, List.all_eq_true.1 (by kernel_rfl), by kernel_rfl⟩
theorem fld33 : ∃ fs : Array Field, Try.prog.underlying 33 = some (.struct fs) ∧ [(0, 31), (1, 3)] = fs.toList.map (fun f => (f.offset, f.type)) ∧ (∀ y ∈ ([(0, 31), (1, 3)] : List (Nat × Nat)), (aget tab.code y.2).isSome) ∧ (fs.toList.mapM (fun f => (Try.prog.info? f.type).map fun i => (f.offset, i.size))).isSome :=
  ⟨_, Try.underlying33, by kernel_rfl, List.all_eq_true.1 (by kernel_rfl), by kernel_rfl⟩
theorem fld37 : ∃ fs : Array Field, Try.prog.underlying 37 = some (.struct fs) ∧ [(0, 33), (2, 34), (3, 3), (4, 35)] = fs.toList.map (fun f => (f.offset, f.type)) ∧ (∀ y ∈ ([(0, 33), (2, 34), (3, 3), (4, 35)] : List (Nat × Nat)), (aget tab.code y.2).isSome) ∧ (fs.toList.mapM (fun f => (Try.prog.info? f.type).map fun i => (f.offset, i.size))).isSome :=
  ⟨_, Try.underlying37, by kernel_rfl, List.all_eq_true.1 (by kernel_rfl), by kernel_rfl⟩
theorem fld47 : ∃ fs : Array Field, Try.prog.underlying 47 = some (.struct fs) ∧ [(0, 9), (1, 3), (2, 45)] = fs.toList.map (fun f => (f.offset, f.type)) ∧ (∀ y ∈ ([(0, 9), (1, 3), (2, 45)] : List (Nat × Nat)), (aget tab.code y.2).isSome) ∧ (fs.toList.mapM (fun f => (Try.prog.info? f.type).map fun i => (f.offset, i.size))).isSome :=
  ⟨_, Try.underlying47, by kernel_rfl, List.all_eq_true.1 (by kernel_rfl), by kernel_rfl⟩
theorem fld58 : ∃ fs : Array Field, Try.prog.underlying 58 = some (.struct fs) ∧ [(0, 3), (1, 3), (2, 3), (3, 3)] = fs.toList.map (fun f => (f.offset, f.type)) ∧ (∀ y ∈ ([(0, 3), (1, 3), (2, 3), (3, 3)] : List (Nat × Nat)), (aget tab.code y.2).isSome) ∧ (fs.toList.mapM (fun f => (Try.prog.info? f.type).map fun i => (f.offset, i.size))).isSome :=
  ⟨_, Try.underlying58, by kernel_rfl, List.all_eq_true.1 (by kernel_rfl), by kernel_rfl⟩
theorem fld61 : ∃ fs : Array Field, Try.prog.underlying 61 = some (.struct fs) ∧ [(0, 9), (1, 9), (2, 3), (3, 3), (4, 56), (5, 58), (9, 59)] = fs.toList.map (fun f => (f.offset, f.type)) ∧ (∀ y ∈ ([(0, 9), (1, 9), (2, 3), (3, 3), (4, 56), (5, 58), (9, 59)] : List (Nat × Nat)), (aget tab.code y.2).isSome) ∧ (fs.toList.mapM (fun f => (Try.prog.info? f.type).map fun i => (f.offset, i.size))).isSome :=
  ⟨_, Try.underlying61, by kernel_rfl, List.all_eq_true.1 (by kernel_rfl), by kernel_rfl⟩
theorem fld63 : ∃ fs : Array Field, Try.prog.underlying 63 = some (.struct fs) ∧ [(0, 61), (10, 3)] = fs.toList.map (fun f => (f.offset, f.type)) ∧ (∀ y ∈ ([(0, 61), (10, 3)] : List (Nat × Nat)), (aget tab.code y.2).isSome) ∧ (fs.toList.mapM (fun f => (Try.prog.info? f.type).map fun i => (f.offset, i.size))).isSome :=
  ⟨_, Try.underlying63, by kernel_rfl, List.all_eq_true.1 (by kernel_rfl), by kernel_rfl⟩
theorem fld68 : ∃ fs : Array Field, Try.prog.underlying 68 = some (.struct fs) ∧ [(0, 9), (1, 3), (2, 66)] = fs.toList.map (fun f => (f.offset, f.type)) ∧ (∀ y ∈ ([(0, 9), (1, 3), (2, 66)] : List (Nat × Nat)), (aget tab.code y.2).isSome) ∧ (fs.toList.mapM (fun f => (Try.prog.info? f.type).map fun i => (f.offset, i.size))).isSome :=
  ⟨_, Try.underlying68, by kernel_rfl, List.all_eq_true.1 (by kernel_rfl), by kernel_rfl⟩
theorem fld71 : ∃ fs : Array Field, Try.prog.underlying 71 = some (.struct fs) ∧ [(0, 3), (1, 9), (2, 3)] = fs.toList.map (fun f => (f.offset, f.type)) ∧ (∀ y ∈ ([(0, 3), (1, 9), (2, 3)] : List (Nat × Nat)), (aget tab.code y.2).isSome) ∧ (fs.toList.mapM (fun f => (Try.prog.info? f.type).map fun i => (f.offset, i.size))).isSome :=
  ⟨_, Try.underlying71, by kernel_rfl, List.all_eq_true.1 (by kernel_rfl), by kernel_rfl⟩
theorem fld74 : ∃ fs : Array Field, Try.prog.underlying 74 = some (.struct fs) ∧ [(0, 3), (1, 3)] = fs.toList.map (fun f => (f.offset, f.type)) ∧ (∀ y ∈ ([(0, 3), (1, 3)] : List (Nat × Nat)), (aget tab.code y.2).isSome) ∧ (fs.toList.mapM (fun f => (Try.prog.info? f.type).map fun i => (f.offset, i.size))).isSome :=
  ⟨_, Try.underlying74, by kernel_rfl, List.all_eq_true.1 (by kernel_rfl), by kernel_rfl⟩
theorem fld77 : ∃ fs : Array Field, Try.prog.underlying 77 = some (.struct fs) ∧ [(0, 3), (1, 9), (2, 3)] = fs.toList.map (fun f => (f.offset, f.type)) ∧ (∀ y ∈ ([(0, 3), (1, 9), (2, 3)] : List (Nat × Nat)), (aget tab.code y.2).isSome) ∧ (fs.toList.mapM (fun f => (Try.prog.info? f.type).map fun i => (f.offset, i.size))).isSome :=
  ⟨_, Try.underlying77, by kernel_rfl, List.all_eq_true.1 (by kernel_rfl), by kernel_rfl⟩
theorem fld87 : ∃ fs : Array Field, Try.prog.underlying 87 = some (.struct fs) ∧ [(0, 3), (1, 3), (2, 3), (3, 3)] = fs.toList.map (fun f => (f.offset, f.type)) ∧ (∀ y ∈ ([(0, 3), (1, 3), (2, 3), (3, 3)] : List (Nat × Nat)), (aget tab.code y.2).isSome) ∧ (fs.toList.mapM (fun f => (Try.prog.info? f.type).map fun i => (f.offset, i.size))).isSome :=
  ⟨_, Try.underlying87, by kernel_rfl, List.all_eq_true.1 (by kernel_rfl), by kernel_rfl⟩
theorem fld90 : ∃ fs : Array Field, Try.prog.underlying 90 = some (.struct fs) ∧ [(0, 9), (1, 9), (2, 3), (3, 3), (4, 86), (5, 87), (9, 88)] = fs.toList.map (fun f => (f.offset, f.type)) ∧ (∀ y ∈ ([(0, 9), (1, 9), (2, 3), (3, 3), (4, 86), (5, 87), (9, 88)] : List (Nat × Nat)), (aget tab.code y.2).isSome) ∧ (fs.toList.mapM (fun f => (Try.prog.info? f.type).map fun i => (f.offset, i.size))).isSome :=
  ⟨_, Try.underlying90, by kernel_rfl, List.all_eq_true.1 (by kernel_rfl), by kernel_rfl⟩
theorem fld92 : ∃ fs : Array Field, Try.prog.underlying 92 = some (.struct fs) ∧ [(0, 90), (10, 3)] = fs.toList.map (fun f => (f.offset, f.type)) ∧ (∀ y ∈ ([(0, 90), (10, 3)] : List (Nat × Nat)), (aget tab.code y.2).isSome) ∧ (fs.toList.mapM (fun f => (Try.prog.info? f.type).map fun i => (f.offset, i.size))).isSome :=
  ⟨_, Try.underlying92, by kernel_rfl, List.all_eq_true.1 (by kernel_rfl), by kernel_rfl⟩
theorem fld109 : ∃ fs : Array Field, Try.prog.underlying 109 = some (.struct fs) ∧ [(0, 3), (1, 3)] = fs.toList.map (fun f => (f.offset, f.type)) ∧ (∀ y ∈ ([(0, 3), (1, 3)] : List (Nat × Nat)), (aget tab.code y.2).isSome) ∧ (fs.toList.mapM (fun f => (Try.prog.info? f.type).map fun i => (f.offset, i.size))).isSome :=
  ⟨_, Try.underlying109, by kernel_rfl, List.all_eq_true.1 (by kernel_rfl), by kernel_rfl⟩
theorem fld111 : ∃ fs : Array Field, Try.prog.underlying 111 = some (.struct fs) ∧ [(0, 9), (1, 3), (2, 3)] = fs.toList.map (fun f => (f.offset, f.type)) ∧ (∀ y ∈ ([(0, 9), (1, 3), (2, 3)] : List (Nat × Nat)), (aget tab.code y.2).isSome) ∧ (fs.toList.mapM (fun f => (Try.prog.info? f.type).map fun i => (f.offset, i.size))).isSome :=
  ⟨_, Try.underlying111, by kernel_rfl, List.all_eq_true.1 (by kernel_rfl), by kernel_rfl⟩
theorem fld119 : ∃ fs : Array Field, Try.prog.underlying 119 = some (.struct fs) ∧ [(0, 9), (1, 9)] = fs.toList.map (fun f => (f.offset, f.type)) ∧ (∀ y ∈ ([(0, 9), (1, 9)] : List (Nat × Nat)), (aget tab.code y.2).isSome) ∧ (fs.toList.mapM (fun f => (Try.prog.info? f.type).map fun i => (f.offset, i.size))).isSome :=
  ⟨_, Try.underlying119, by kernel_rfl, List.all_eq_true.1 (by kernel_rfl), by kernel_rfl⟩
theorem fld128 : ∃ fs : Array Field, Try.prog.underlying 128 = some (.struct fs) ∧ [(0, 9), (1, 3), (2, 3)] = fs.toList.map (fun f => (f.offset, f.type)) ∧ (∀ y ∈ ([(0, 9), (1, 3), (2, 3)] : List (Nat × Nat)), (aget tab.code y.2).isSome) ∧ (fs.toList.mapM (fun f => (Try.prog.info? f.type).map fun i => (f.offset, i.size))).isSome :=
  ⟨_, Try.underlying128, by kernel_rfl, List.all_eq_true.1 (by kernel_rfl), by kernel_rfl⟩
theorem fld130 : ∃ fs : Array Field, Try.prog.underlying 130 = some (.struct fs) ∧ [(0, 9), (1, 9)] = fs.toList.map (fun f => (f.offset, f.type)) ∧ (∀ y ∈ ([(0, 9), (1, 9)] : List (Nat × Nat)), (aget tab.code y.2).isSome) ∧ (fs.toList.mapM (fun f => (Try.prog.info? f.type).map fun i => (f.offset, i.size))).isSome :=
  ⟨_, Try.underlying130, by kernel_rfl, List.all_eq_true.1 (by kernel_rfl), by kernel_rfl⟩
theorem tab_ok : tab.Ok Try.prog := {
  info := infoChk_ok (by kernel_rfl)
  und := List.forall_mem_cons.2 ⟨und2, List.forall_mem_cons.2 ⟨und3, List.forall_mem_cons.2 ⟨und4, List.forall_mem_cons.2 ⟨und5, List.forall_mem_cons.2 ⟨und6, List.forall_mem_cons.2 ⟨und9, List.forall_mem_cons.2 ⟨und10, List.forall_mem_cons.2 ⟨und11, List.forall_mem_cons.2 ⟨und12, List.forall_mem_cons.2 ⟨und21, List.forall_mem_cons.2 ⟨und22, List.forall_mem_cons.2 ⟨und24, List.forall_mem_cons.2 ⟨und25, List.forall_mem_cons.2 ⟨und26, List.forall_mem_cons.2 ⟨und28, List.forall_mem_cons.2 ⟨und31, List.forall_mem_cons.2 ⟨und33, List.forall_mem_cons.2 ⟨und34, List.forall_mem_cons.2 ⟨und35, List.forall_mem_cons.2 ⟨und37, List.forall_mem_cons.2 ⟨und45, List.forall_mem_cons.2 ⟨und47, List.forall_mem_cons.2 ⟨und56, List.forall_mem_cons.2 ⟨und58, List.forall_mem_cons.2 ⟨und59, List.forall_mem_cons.2 ⟨und61, List.forall_mem_cons.2 ⟨und63, List.forall_mem_cons.2 ⟨und66, List.forall_mem_cons.2 ⟨und68, List.forall_mem_cons.2 ⟨und71, List.forall_mem_cons.2 ⟨und74, List.forall_mem_cons.2 ⟨und77, List.forall_mem_cons.2 ⟨und86, List.forall_mem_cons.2 ⟨und87, List.forall_mem_cons.2 ⟨und88, List.forall_mem_cons.2 ⟨und90, List.forall_mem_cons.2 ⟨und92, List.forall_mem_cons.2 ⟨und109, List.forall_mem_cons.2 ⟨und111, List.forall_mem_cons.2 ⟨und119, List.forall_mem_cons.2 ⟨und128, List.forall_mem_cons.2 ⟨und130, List.forall_mem_cons.2 ⟨und143, List.forall_mem_cons.2 ⟨und144, List.forall_mem_cons.2 ⟨und145, List.forall_mem_cons.2 ⟨und148, List.forall_mem_cons.2 ⟨und149, List.forall_mem_nil _⟩⟩⟩⟩⟩⟩⟩⟩⟩⟩⟩⟩⟩⟩⟩⟩⟩⟩⟩⟩⟩⟩⟩⟩⟩⟩⟩⟩⟩⟩⟩⟩⟩⟩⟩⟩⟩⟩⟩⟩⟩⟩⟩⟩⟩⟩⟩
  fld := List.forall_mem_cons.2 ⟨fld24, List.forall_mem_cons.2 ⟨fld28, List.forall_mem_cons.2 ⟨fld33, List.forall_mem_cons.2 ⟨fld37, List.forall_mem_cons.2 ⟨fld47, List.forall_mem_cons.2 ⟨fld58, List.forall_mem_cons.2 ⟨fld61, List.forall_mem_cons.2 ⟨fld63, List.forall_mem_cons.2 ⟨fld68, List.forall_mem_cons.2 ⟨fld71, List.forall_mem_cons.2 ⟨fld74, List.forall_mem_cons.2 ⟨fld77, List.forall_mem_cons.2 ⟨fld87, List.forall_mem_cons.2 ⟨fld90, List.forall_mem_cons.2 ⟨fld92, List.forall_mem_cons.2 ⟨fld109, List.forall_mem_cons.2 ⟨fld111, List.forall_mem_cons.2 ⟨fld119, List.forall_mem_cons.2 ⟨fld128, List.forall_mem_cons.2 ⟨fld130, List.forall_mem_nil _⟩⟩⟩⟩⟩⟩⟩⟩⟩⟩⟩⟩⟩⟩⟩⟩⟩⟩⟩⟩
  sts := List.forall_mem_cons.2 ⟨fun h => by first | (cases h; done) | (simp; done), List.forall_mem_cons.2 ⟨fun h => by first | (cases h; done) | (simp; done), List.forall_mem_cons.2 ⟨fun h => by first | (cases h; done) | (simp; done), List.forall_mem_cons.2 ⟨fun h => by first | (cases h; done) | (simp; done), List.forall_mem_cons.2 ⟨fun h => by first | (cases h; done) | (simp; done), List.forall_mem_cons.2 ⟨fun h => by first | (cases h; done) | (simp; done), List.forall_mem_cons.2 ⟨fun h => by first | (cases h; done) | (simp; done), List.forall_mem_cons.2 ⟨fun h => by first | (cases h; done) | (simp; done), List.forall_mem_cons.2 ⟨fun h => by first | (cases h; done) | (simp; done), List.forall_mem_cons.2 ⟨fun h => by first | (cases h; done) | (simp; done), List.forall_mem_cons.2 ⟨fun h => by first | (cases h; done) | (simp; done), List.forall_mem_cons.2 ⟨fun _ => by simp [tab], List.forall_mem_cons.2 ⟨fun h => by first | (cases h; done) | (simp; done), List.forall_mem_cons.2 ⟨fun h => by first | (cases h; done) | (simp; done), List.forall_mem_cons.2 ⟨fun _ => by simp [tab], List.forall_mem_cons.2 ⟨fun h => by first | (cases h; done) | (simp; done), List.forall_mem_cons.2 ⟨fun _ => by simp [tab], List.forall_mem_cons.2 ⟨fun h => by first | (cases h; done) | (simp; done), List.forall_mem_cons.2 ⟨fun h => by first | (cases h; done) | (simp; done), List.forall_mem_cons.2 ⟨fun _ => by simp [tab], List.forall_mem_cons.2 ⟨fun h => by first | (cases h; done) | (simp; done), List.forall_mem_cons.2 ⟨fun _ => by simp [tab], List.forall_mem_cons.2 ⟨fun h => by first | (cases h; done) | (simp; done), List.forall_mem_cons.2 ⟨fun _ => by simp [tab], List.forall_mem_cons.2 ⟨fun h => by first | (cases h; done) | (simp; done), List.forall_mem_cons.2 ⟨fun _ => by simp [tab], List.forall_mem_cons.2 ⟨fun _ => by simp [tab], List.forall_mem_cons.2 ⟨fun h => by first | (cases h; done) | (simp; done), List.forall_mem_cons.2 ⟨fun _ => by simp [tab], List.forall_mem_cons.2 ⟨fun _ => by simp [tab], List.forall_mem_cons.2 ⟨fun _ => by simp [tab], List.forall_mem_cons.2 ⟨fun _ => by simp [tab], List.forall_mem_cons.2 ⟨fun h => by first | (cases h; done) | (simp; done), List.forall_mem_cons.2 ⟨fun _ => by simp [tab], List.forall_mem_cons.2 ⟨fun h => by first | (cases h; done) | (simp; done), List.forall_mem_cons.2 ⟨fun _ => by simp [tab], List.forall_mem_cons.2 ⟨fun _ => by simp [tab], List.forall_mem_cons.2 ⟨fun _ => by simp [tab], List.forall_mem_cons.2 ⟨fun _ => by simp [tab], List.forall_mem_cons.2 ⟨fun _ => by simp [tab], List.forall_mem_cons.2 ⟨fun _ => by simp [tab], List.forall_mem_cons.2 ⟨fun _ => by simp [tab], List.forall_mem_cons.2 ⟨fun h => by first | (cases h; done) | (simp; done), List.forall_mem_cons.2 ⟨fun h => by first | (cases h; done) | (simp; done), List.forall_mem_cons.2 ⟨fun h => by first | (cases h; done) | (simp; done), List.forall_mem_cons.2 ⟨fun h => by first | (cases h; done) | (simp; done), List.forall_mem_cons.2 ⟨fun h => by first | (cases h; done) | (simp; done), List.forall_mem_nil _⟩⟩⟩⟩⟩⟩⟩⟩⟩⟩⟩⟩⟩⟩⟩⟩⟩⟩⟩⟩⟩⟩⟩⟩⟩⟩⟩⟩⟩⟩⟩⟩⟩⟩⟩⟩⟩⟩⟩⟩⟩⟩⟩⟩⟩⟩⟩
  eqs := List.forall_mem_nil _
  ord := by kernel_rfl }
end Go.Proofs.Ytaeepnmdfdmgjaa

/- x -/
namespace Go.Proofs.Ytaeepnmdfdmgjaa
open Go Go.Gm
/-! ### loop.example/g00465/spec.l1In -/
noncomputable def f16c : Code := (Try.f16.body).getD .skip
def f16k : Nat → Kp := kat [⟨[0, 1, 2], [], [], []⟩, ⟨[6], [], [], []⟩]
noncomputable def f16e : Env := tab.env []
theorem f16_run {R : Type} (n : Nat) (k : List Dt → Option R) (a0 : Int) (a1 : Int) (a2 : Int) : evFn f16e f16k n f16c [.ro, .ro, .ro] [false] true [.tmp 6] [4] [.d (.i .i64) a0, .d (.i .i64) a1, .d (.i .i64) a2] k =
    (cond (decide (a0 ≥ a1))
    (k [.d .bool (decide (a0 ≤ a2))])
    (k [.d .bool false])) := by kernel_rfl
theorem f16_spec (a0 : Int) (a1 : Int) (a2 : Int) : ∃ keep rounds, ∀ {R : Type} (k : List Dt → Option R), evFn f16e keep rounds f16c [.ro, .ro, .ro] [false] true [.tmp 6] [4] [.d (.i .i64) a0, .d (.i .i64) a1, .d (.i .i64) a2] k = k [.d .bool (inR a0 a1 a2)] := by
  refine ⟨f16k, 0, fun k => ?_⟩
  rw [f16_run]; unfold inR
  cases decide (a0 ≥ a1) <;> rfl

noncomputable def q16 : List Dt → Option (Bool × List Dt)
  | [.d (.i .i64) a0, .d (.i .i64) a1, .d (.i .i64) a2] => some (true, [.d .bool (inR a0 a1 a2)])
  | _ => none
noncomputable def s16 : Gm.Spec := Gm.Spec.of [.ro, .ro, .ro] [false] true q16
theorem good16 : Gm.Good Try.prog (16, s16) := by
  have hl : ∀ x ∈ ([] : List (Nat × Gm.Spec)), Gm.Good Try.prog x := fun _ h => by cases h
  refine ⟨⟨spec_ok (tab_ok.env hl) (tab.natl hl) Try.func16 (by kernel_rfl : Try.f16.body = some f16c) [4] (by kernel_rfl) ?_, _, Try.func16, by kernel_rfl, of_decide_eq_true (by kernel_rfl)⟩, Gm.Spec.of_natl _ _ _ _⟩
  intro ds outs h
  unfold q16 at h
  split at h
  · cases h; exact f16_spec _ _ _
  · cases h
/-! ### loop.example/g00465/impl.from -/
noncomputable def f23c : Code := (Try.f23.body).getD .skip
def f23k : Nat → Kp := kat [⟨[0, 1, 2], [], [], []⟩, ⟨[6], [], [], []⟩]
noncomputable def f23e : Env := tab.env []
theorem f23_run {R : Type} (n : Nat) (k : List Dt → Option R) (a0 : Int) (a1 : Int) (a2 : Int) : evFn f23e f23k n f23c [.ro, .ro, .ro] [false] true [.tmp 6] [4] [.d (.i .i64) a0, .d (.i .i64) a1, .d (.i .i64) a2] k =
    (cond (decide (a0 ≥ a1))
    (k [.d .bool (decide (a0 ≤ a2))])
    (k [.d .bool false])) := by kernel_rfl
theorem f23_spec (a0 : Int) (a1 : Int) (a2 : Int) : ∃ keep rounds, ∀ {R : Type} (k : List Dt → Option R), evFn f23e keep rounds f23c [.ro, .ro, .ro] [false] true [.tmp 6] [4] [.d (.i .i64) a0, .d (.i .i64) a1, .d (.i .i64) a2] k = k [.d .bool (inR a0 a1 a2)] := by
  refine ⟨f23k, 0, fun k => ?_⟩
  rw [f23_run]; unfold inR
  cases decide (a0 ≥ a1) <;> rfl

noncomputable def q23 : List Dt → Option (Bool × List Dt)
  | [.d (.i .i64) a0, .d (.i .i64) a1, .d (.i .i64) a2] => some (true, [.d .bool (inR a0 a1 a2)])
  | _ => none
noncomputable def s23 : Gm.Spec := Gm.Spec.of [.ro, .ro, .ro] [false] true q23
theorem good23 : Gm.Good Try.prog (23, s23) := by
  have hl : ∀ x ∈ ([] : List (Nat × Gm.Spec)), Gm.Good Try.prog x := fun _ h => by cases h
  refine ⟨⟨spec_ok (tab_ok.env hl) (tab.natl hl) Try.func23 (by kernel_rfl : Try.f23.body = some f23c) [4] (by kernel_rfl) ?_, _, Try.func23, by kernel_rfl, of_decide_eq_true (by kernel_rfl)⟩, Gm.Spec.of_natl _ _ _ _⟩
  intro ds outs h
  unfold q23 at h
  split at h
  · cases h; exact f23_spec _ _ _
  · cases h
/-! ### loop.example/g00465/spec.l5Letter -/
noncomputable def f88c : Code := (Try.f88.body).getD .skip
def f88k : Nat → Kp := kat [⟨[0], [], [], []⟩, ⟨[2], [], [], []⟩]
noncomputable def f88e : Env := tab.env []
theorem f88_run {R : Type} (n : Nat) (k : List Dt → Option R) (a0 : Int) : evFn f88e f88k n f88c [.ro] [false] true [.tmp 2] [4] [.d (.i .u8) a0] k =
    (cond (decide (a0 ≥ (97 : Int)))
    (cond (decide (a0 ≤ (122 : Int)))
      (k [.d .bool true])
      (cond (decide (a0 ≥ (65 : Int)))
        (k [.d .bool (decide (a0 ≤ (90 : Int)))])
        (k [.d .bool false])))
    (cond (decide (a0 ≥ (65 : Int)))
      (k [.d .bool (decide (a0 ≤ (90 : Int)))])
      (k [.d .bool false]))) := by kernel_rfl
theorem f88_spec (a0 : Int) : ∃ keep rounds, ∀ {R : Type} (k : List Dt → Option R), evFn f88e keep rounds f88c [.ro] [false] true [.tmp 2] [4] [.d (.i .u8) a0] k = k [.d .bool (letter a0)] := by
  refine ⟨f88k, 0, fun k => ?_⟩
  rw [f88_run]; unfold letter
  cases decide (a0 ≥ (97 : Int)) <;> cases decide (a0 ≤ (122 : Int)) <;> cases decide (a0 ≥ (65 : Int)) <;> rfl

noncomputable def q88 : List Dt → Option (Bool × List Dt)
  | [.d (.i .u8) a0] => some (true, [.d .bool (letter a0)])
  | _ => none
noncomputable def s88 : Gm.Spec := Gm.Spec.of [.ro] [false] true q88
theorem good88 : Gm.Good Try.prog (88, s88) := by
  have hl : ∀ x ∈ ([] : List (Nat × Gm.Spec)), Gm.Good Try.prog x := fun _ h => by cases h
  refine ⟨⟨spec_ok (tab_ok.env hl) (tab.natl hl) Try.func88 (by kernel_rfl : Try.f88.body = some f88c) [4] (by kernel_rfl) ?_, _, Try.func88, by kernel_rfl, of_decide_eq_true (by kernel_rfl)⟩, Gm.Spec.of_natl _ _ _ _⟩
  intro ds outs h
  unfold q88 at h
  split at h
  · cases h; exact f88_spec _
  · cases h
/-! ### loop.example/g00465/impl.isLetter -/
noncomputable def f91c : Code := (Try.f91.body).getD .skip
def f91k : Nat → Kp := kat [⟨[0], [], [], []⟩, ⟨[2], [], [], []⟩]
noncomputable def f91e : Env := tab.env []
theorem f91_run {R : Type} (n : Nat) (k : List Dt → Option R) (a0 : Int) : evFn f91e f91k n f91c [.ro] [false] true [.tmp 2] [4] [.d (.i .u8) a0] k =
    (cond (decide (a0 ≥ (97 : Int)))
    (cond (decide (a0 ≤ (122 : Int)))
      (k [.d .bool true])
      (cond (decide (a0 ≥ (65 : Int)))
        (k [.d .bool (decide (a0 ≤ (90 : Int)))])
        (k [.d .bool false])))
    (cond (decide (a0 ≥ (65 : Int)))
      (k [.d .bool (decide (a0 ≤ (90 : Int)))])
      (k [.d .bool false]))) := by kernel_rfl
theorem f91_spec (a0 : Int) : ∃ keep rounds, ∀ {R : Type} (k : List Dt → Option R), evFn f91e keep rounds f91c [.ro] [false] true [.tmp 2] [4] [.d (.i .u8) a0] k = k [.d .bool (letter a0)] := by
  refine ⟨f91k, 0, fun k => ?_⟩
  rw [f91_run]; unfold letter
  cases decide (a0 ≥ (97 : Int)) <;> cases decide (a0 ≤ (122 : Int)) <;> cases decide (a0 ≥ (65 : Int)) <;> rfl

noncomputable def q91 : List Dt → Option (Bool × List Dt)
  | [.d (.i .u8) a0] => some (true, [.d .bool (letter a0)])
  | _ => none
noncomputable def s91 : Gm.Spec := Gm.Spec.of [.ro] [false] true q91
theorem good91 : Gm.Good Try.prog (91, s91) := by
  have hl : ∀ x ∈ ([] : List (Nat × Gm.Spec)), Gm.Good Try.prog x := fun _ h => by cases h
  refine ⟨⟨spec_ok (tab_ok.env hl) (tab.natl hl) Try.func91 (by kernel_rfl : Try.f91.body = some f91c) [4] (by kernel_rfl) ?_, _, Try.func91, by kernel_rfl, of_decide_eq_true (by kernel_rfl)⟩, Gm.Spec.of_natl _ _ _ _⟩
  intro ds outs h
  unfold q91 at h
  split at h
  · cases h; exact f91_spec _
  · cases h
/-! ### loop.example/g00465/impl.isDigit -/
noncomputable def f56c : Code := (Try.f56.body).getD .skip
def f56k : Nat → Kp := kat [⟨[0], [], [], []⟩, ⟨[2], [], [], []⟩]
noncomputable def f56e : Env := tab.env []
theorem f56_run {R : Type} (n : Nat) (k : List Dt → Option R) (a0 : Int) : evFn f56e f56k n f56c [.ro] [false] true [.tmp 2] [4] [.d (.i .u8) a0] k =
    (cond (decide (a0 ≥ (48 : Int)))
    (k [.d .bool (decide (a0 ≤ (57 : Int)))])
    (k [.d .bool false])) := by kernel_rfl
theorem f56_spec (a0 : Int) : ∃ keep rounds, ∀ {R : Type} (k : List Dt → Option R), evFn f56e keep rounds f56c [.ro] [false] true [.tmp 2] [4] [.d (.i .u8) a0] k = k [.d .bool (digit a0)] := by
  refine ⟨f56k, 0, fun k => ?_⟩
  rw [f56_run]; unfold digit
  cases decide (a0 ≥ (48 : Int)) <;> rfl

noncomputable def q56 : List Dt → Option (Bool × List Dt)
  | [.d (.i .u8) a0] => some (true, [.d .bool (digit a0)])
  | _ => none
noncomputable def s56 : Gm.Spec := Gm.Spec.of [.ro] [false] true q56
theorem good56 : Gm.Good Try.prog (56, s56) := by
  have hl : ∀ x ∈ ([] : List (Nat × Gm.Spec)), Gm.Good Try.prog x := fun _ h => by cases h
  refine ⟨⟨spec_ok (tab_ok.env hl) (tab.natl hl) Try.func56 (by kernel_rfl : Try.f56.body = some f56c) [4] (by kernel_rfl) ?_, _, Try.func56, by kernel_rfl, of_decide_eq_true (by kernel_rfl)⟩, Gm.Spec.of_natl _ _ _ _⟩
  intro ds outs h
  unfold q56 at h
  split at h
  · cases h; exact f56_spec _
  · cases h
/-! ### loop.example/g00465/spec.NameOk -/
noncomputable def f48c : Code := (Try.f48.body).getD .skip
def f48k : Nat → Kp := kat [⟨[0], [], [], []⟩, ⟨[0, 3], [], [], []⟩, ⟨[0, 3, 8], [], [], []⟩, ⟨[0, 3], [], [], []⟩, ⟨[0, 3, 4], [], [], []⟩, ⟨[0, 3, 36], [], [], []⟩, ⟨[2], [], [], []⟩, ⟨[2], [], [], []⟩]
noncomputable def f48e : Env := tab.env [(16, s16)]
noncomputable def f48L0 {R : Type} (n : Nat) (x0 : Option R) (x1 : Int → Bool → Option R) (vs0 : ByteArray) : Nat → Int → Option R
  | 0, _ => none
  | m + 1, vs3 =>
    (cond (decide (vs3 < (ByteArray.size vs0 : Int)))
      (cond ((decide ((0 : Int) ≤ vs3)) && (decide (vs3 < (ByteArray.size vs0 : Int))))
        (cond (decide ((((ByteArray.data vs0).getD (Int.toNat vs3) 0).toNat : Int) ≥ (97 : Int)))
          (cond (decide ((((ByteArray.data vs0).getD (Int.toNat vs3) 0).toNat : Int) ≤ (122 : Int)))
            (f48L0 n x0 x1 vs0 m (IntKind.wrap .i64 (vs3 + (1 : Int))))
            (cond (decide (vs3 > (0 : Int)))
              (cond (decide ((((ByteArray.data vs0).getD (Int.toNat vs3) 0).toNat : Int) ≥ (48 : Int)))
                (cond (decide ((((ByteArray.data vs0).getD (Int.toNat vs3) 0).toNat : Int) ≤ (57 : Int)))
                  (f48L0 n x0 x1 vs0 m (IntKind.wrap .i64 (vs3 + (1 : Int))))
                  (cond (!((((ByteArray.data vs0).getD (Int.toNat vs3) 0).toNat : Int) == (45 : Int)))
                    (x0)
                    (f48L0 n x0 x1 vs0 m (IntKind.wrap .i64 (vs3 + (1 : Int))))))
                (cond (!((((ByteArray.data vs0).getD (Int.toNat vs3) 0).toNat : Int) == (45 : Int)))
                  (x0)
                  (f48L0 n x0 x1 vs0 m (IntKind.wrap .i64 (vs3 + (1 : Int))))))
              (x0)))
          (cond (decide (vs3 > (0 : Int)))
            (cond (decide ((((ByteArray.data vs0).getD (Int.toNat vs3) 0).toNat : Int) ≥ (48 : Int)))
              (cond (decide ((((ByteArray.data vs0).getD (Int.toNat vs3) 0).toNat : Int) ≤ (57 : Int)))
                (f48L0 n x0 x1 vs0 m (IntKind.wrap .i64 (vs3 + (1 : Int))))
                (cond (!((((ByteArray.data vs0).getD (Int.toNat vs3) 0).toNat : Int) == (45 : Int)))
                  (x0)
                  (f48L0 n x0 x1 vs0 m (IntKind.wrap .i64 (vs3 + (1 : Int))))))
              (cond (!((((ByteArray.data vs0).getD (Int.toNat vs3) 0).toNat : Int) == (45 : Int)))
                (x0)
                (f48L0 n x0 x1 vs0 m (IntKind.wrap .i64 (vs3 + (1 : Int))))))
            (x0)))
        none)
      (x1 vs3 (decide (vs3 < (ByteArray.size vs0 : Int)))))
theorem f48L0_b {R : Type} (n : Nat) (k' : Ex → St → Option R) (vs0 : ByteArray) (vs3 : Int) : ev f48e f48k n (cAt [1,0,1,0,0] f48c) ⟨[(0, .c (.one (.v (.string vs0)))), (3, .c (.one (.v (.int .i64 vs3))))], [], []⟩ k' =
    (cond (decide (vs3 < (ByteArray.size vs0 : Int)))
    (cond ((decide ((0 : Int) ≤ vs3)) && (decide (vs3 < (ByteArray.size vs0 : Int))))
      (cond (decide ((((ByteArray.data vs0).getD (Int.toNat vs3) 0).toNat : Int) ≥ (97 : Int)))
        (cond (decide ((((ByteArray.data vs0).getD (Int.toNat vs3) 0).toNat : Int) ≤ (122 : Int)))
          (k' .normal ⟨[(0, .c (.one (.v (.string vs0)))), (3, .c (.one (.v (.int .i64 (IntKind.wrap .i64 (vs3 + (1 : Int)))))))], [], []⟩)
          (cond (decide (vs3 > (0 : Int)))
            (cond (decide ((((ByteArray.data vs0).getD (Int.toNat vs3) 0).toNat : Int) ≥ (48 : Int)))
              (cond (decide ((((ByteArray.data vs0).getD (Int.toNat vs3) 0).toNat : Int) ≤ (57 : Int)))
                (k' .normal ⟨[(0, .c (.one (.v (.string vs0)))), (3, .c (.one (.v (.int .i64 (IntKind.wrap .i64 (vs3 + (1 : Int)))))))], [], []⟩)
                (cond (!((((ByteArray.data vs0).getD (Int.toNat vs3) 0).toNat : Int) == (45 : Int)))
                  (k' .ret ⟨[(2, .c (.one (.v (.bool false))))], [], []⟩)
                  (k' .normal ⟨[(0, .c (.one (.v (.string vs0)))), (3, .c (.one (.v (.int .i64 (IntKind.wrap .i64 (vs3 + (1 : Int)))))))], [], []⟩)))
              (cond (!((((ByteArray.data vs0).getD (Int.toNat vs3) 0).toNat : Int) == (45 : Int)))
                (k' .ret ⟨[(2, .c (.one (.v (.bool false))))], [], []⟩)
                (k' .normal ⟨[(0, .c (.one (.v (.string vs0)))), (3, .c (.one (.v (.int .i64 (IntKind.wrap .i64 (vs3 + (1 : Int)))))))], [], []⟩)))
            (k' .ret ⟨[(2, .c (.one (.v (.bool false))))], [], []⟩)))
        (cond (decide (vs3 > (0 : Int)))
          (cond (decide ((((ByteArray.data vs0).getD (Int.toNat vs3) 0).toNat : Int) ≥ (48 : Int)))
            (cond (decide ((((ByteArray.data vs0).getD (Int.toNat vs3) 0).toNat : Int) ≤ (57 : Int)))
              (k' .normal ⟨[(0, .c (.one (.v (.string vs0)))), (3, .c (.one (.v (.int .i64 (IntKind.wrap .i64 (vs3 + (1 : Int)))))))], [], []⟩)
              (cond (!((((ByteArray.data vs0).getD (Int.toNat vs3) 0).toNat : Int) == (45 : Int)))
                (k' .ret ⟨[(2, .c (.one (.v (.bool false))))], [], []⟩)
                (k' .normal ⟨[(0, .c (.one (.v (.string vs0)))), (3, .c (.one (.v (.int .i64 (IntKind.wrap .i64 (vs3 + (1 : Int)))))))], [], []⟩)))
            (cond (!((((ByteArray.data vs0).getD (Int.toNat vs3) 0).toNat : Int) == (45 : Int)))
              (k' .ret ⟨[(2, .c (.one (.v (.bool false))))], [], []⟩)
              (k' .normal ⟨[(0, .c (.one (.v (.string vs0)))), (3, .c (.one (.v (.int .i64 (IntKind.wrap .i64 (vs3 + (1 : Int)))))))], [], []⟩)))
          (k' .ret ⟨[(2, .c (.one (.v (.bool false))))], [], []⟩)))
      none)
    (k' (.exit 0) ⟨[(0, .c (.one (.v (.string vs0)))), (3, .c (.one (.v (.int .i64 vs3)))), (8, .c (.one (.v (.bool (decide (vs3 < (ByteArray.size vs0 : Int)))))))], [], []⟩)) := by kernel_rfl
theorem f48L0_eq {R : Type} (n : Nat) (k' : Ex → St → Option R) (vs0 : ByteArray) : ∀ (m : Nat) (vs3 : Int), iter (fun st k => ev f48e f48k n (cAt [1,0,1,0,0] f48c) st k) m ⟨[(0, .c (.one (.v (.string vs0)))), (3, .c (.one (.v (.int .i64 vs3))))], [], []⟩ k' = f48L0 n (k' .ret ⟨[(2, .c (.one (.v (.bool false))))], [], []⟩) (fun (xvs3 : Int) (xvs8 : Bool) => k' (.exit 0) ⟨[(0, .c (.one (.v (.string vs0)))), (3, .c (.one (.v (.int .i64 xvs3)))), (8, .c (.one (.v (.bool xvs8))))], [], []⟩) vs0 m vs3 := by
  intro m; induction m with
  | zero => intros; rfl
  | succ m ih =>
    intro vs3
    simp only [iter]
    rw [f48L0_b]
    simp only [ih, f48L0]

noncomputable def f48K0 {R : Type} (n : Nat) (k' : Ex → St → Option R) : Ex → St → Option R := (blockK 0 (seqK f48e f48k n (cAt [1,1] f48c) k'))
theorem f48K0_x0 {R : Type} (n : Nat) (k : List Dt → Option R) (a0 : ByteArray)  : f48K0 n (exitK f48e [.ro] [false] true [.tmp 2] [4] [.d .str a0] k) .ret ⟨[(2, .c (.one (.v (.bool false))))], [], []⟩ =
    (k [.d .bool false]) := by kernel_rfl
theorem f48K0_x1 {R : Type} (n : Nat) (k : List Dt → Option R) (a0 : ByteArray) (vs0 : ByteArray) (xvs3 : Int) (xvs8 : Bool) : f48K0 n (exitK f48e [.ro] [false] true [.tmp 2] [4] [.d .str a0] k) (.exit 0) ⟨[(0, .c (.one (.v (.string vs0)))), (3, .c (.one (.v (.int .i64 xvs3)))), (8, .c (.one (.v (.bool xvs8))))], [], []⟩ =
    (k [.d .bool (inR (ByteArray.size vs0 : Int) (1 : Int) (20 : Int))]) := by kernel_rfl

theorem f48_run {R : Type} (n : Nat) (k : List Dt → Option R) (a0 : ByteArray) : evFn f48e f48k n f48c [.ro] [false] true [.tmp 2] [4] [.d .str a0] k =
    (f48L0 n (k [.d .bool false]) (fun (xvs3 : Int) (xvs8 : Bool) =>
    (k [.d .bool (inR (ByteArray.size a0 : Int) (1 : Int) (20 : Int))])) a0 n (0 : Int)) := by
  refine Eq.trans (b := (iter (fun st k => ev f48e f48k n (cAt [1,0,1,0,0] f48c) st k) n ⟨[(0, .c (.one (.v (.string a0)))), (3, .c (.one (.v (.int .i64 (0 : Int)))))], [], []⟩ (f48K0 n (exitK f48e [.ro] [false] true [.tmp 2] [4] [.d .str a0] k)))) (by kernel_rfl) ?_
  simp only [f48L0_eq, f48K0_x0, f48K0_x1]
theorem f48_spec (a0 : ByteArray) (hg : okStr a0 = true) : ∃ keep rounds, ∀ {R : Type} (k : List Dt → Option R), evFn f48e keep rounds f48c [.ro] [false] true [.tmp 2] [4] [.d .str a0] k = k [.d .bool (nameOk a0)] := by
  have hl : a0.size ≤ 9223372036854775807 := bleN hg
  refine ⟨f48k, a0.size + 1, fun {R} k => ?_⟩
  rw [f48_run]
  refine Eq.trans (loop_idx (n := a0.size) (F := fun m i => f48L0 (a0.size + 1) _ _ a0 m i) (p := fun j => nameC (j : Int) (byteAt a0 j)) (good := _) (bad := k [.d .bool false])
    (fun m j hj => ?_) (fun m => by simp only [f48L0, idxE, cond_false]; rfl) a0.size 0 (a0.size + 1) (by omega) (by omega)) ?_
  · obtain ⟨h1, h0, hw, ht⟩ := idx hj (by omega)
    simp only [f48L0, h1, h0, hw, ht, Bool.and_self, cond_true]
    show _ = cond (nameC (j : Int) (((ByteArray.data a0).getD j 0).toNat : Int)) _ _
    generalize (((ByteArray.data a0).getD j 0).toNat : Int) = c
    unfold nameC
    rw [show decide ((j : Int) > (0 : Int)) = !((j : Int) == (0 : Int)) by rw [Bool.eq_iff_iff]; simp; omega]
    unfold digit
    cases decide (c ≥ (97 : Int)) <;> cases decide (c ≤ (122 : Int)) <;> cases ((j : Int) == (0 : Int)) <;> cases decide (c ≥ (48 : Int)) <;> cases decide (c ≤ (57 : Int)) <;> cases (c == (45 : Int)) <;> rfl
  · unfold nameOk
    cases allN (fun j => nameC (j : Int) (byteAt a0 j)) 0 a0.size <;> rfl

noncomputable def q48 : List Dt → Option (Bool × List Dt)
  | [.d .str a0] => some ((okStr a0), [.d .bool (nameOk a0)])
  | _ => none
noncomputable def s48 : Gm.Spec := Gm.Spec.of [.ro] [false] true q48
theorem good48 : Gm.Good Try.prog (48, s48) := by
  have hl : ∀ x ∈ [(16, s16)], Gm.Good Try.prog x := List.forall_mem_cons.2 ⟨good16, List.forall_mem_nil _⟩
  refine ⟨⟨spec_ok (tab_ok.env hl) (tab.natl hl) Try.func48 (by kernel_rfl : Try.f48.body = some f48c) [4] (by kernel_rfl) ?_, _, Try.func48, by kernel_rfl, of_decide_eq_true (by kernel_rfl)⟩, Gm.Spec.of_natl _ _ _ _⟩
  intro ds outs h
  unfold q48 at h
  split at h
  · simp only [Option.some.injEq, Prod.mk.injEq] at h; obtain ⟨hg, h⟩ := h; cases h; exact f48_spec _ hg
  · cases h
/-! ### loop.example/g00465/impl.NameOk -/
noncomputable def f39c : Code := (Try.f39.body).getD .skip
def f39k : Nat → Kp := kat [⟨[0], [], [], []⟩, ⟨[0, 6, 7], [], [], []⟩, ⟨[0, 6, 7, 8], [], [], []⟩, ⟨[0, 3, 6, 7], [], [], []⟩, ⟨[0, 3, 4, 6, 7], [], [], []⟩, ⟨[0, 6, 7, 38], [], [], []⟩, ⟨[2], [], [], []⟩, ⟨[0, 6, 7], [], [], []⟩, ⟨[2], [], [], []⟩]
noncomputable def f39e : Env := tab.env [(23, s23), (56, s56)]
noncomputable def f39L0 {R : Type} (n : Nat) (x0 : Option R) (x1 : Int → Bool → Option R) (vs0 : ByteArray) (vs6 : Int) : Nat → Int → Option R
  | 0, _ => none
  | m + 1, vs7 =>
    (cond (decide (vs7 < vs6))
      (cond ((decide ((0 : Int) ≤ vs7)) && (decide (vs7 < (ByteArray.size vs0 : Int))))
        (cond (decide ((((ByteArray.data vs0).getD (Int.toNat vs7) 0).toNat : Int) ≥ (97 : Int)))
          (cond ((decide ((0 : Int) ≤ vs7)) && (decide (vs7 < (ByteArray.size vs0 : Int))))
            (cond (!(decide ((((ByteArray.data vs0).getD (Int.toNat vs7) 0).toNat : Int) ≤ (122 : Int))))
              (cond (vs7 == (0 : Int))
                (x0)
                (cond ((decide ((0 : Int) ≤ vs7)) && (decide (vs7 < (ByteArray.size vs0 : Int))))
                  (cond (!(digit (((ByteArray.data vs0).getD (Int.toNat vs7) 0).toNat : Int)))
                    (cond ((decide ((0 : Int) ≤ vs7)) && (decide (vs7 < (ByteArray.size vs0 : Int))))
                      (cond ((((ByteArray.data vs0).getD (Int.toNat vs7) 0).toNat : Int) != (45 : Int))
                        (x0)
                        (f39L0 n x0 x1 vs0 vs6 m (IntKind.wrap .i64 (vs7 + (1 : Int)))))
                      none)
                    (f39L0 n x0 x1 vs0 vs6 m (IntKind.wrap .i64 (vs7 + (1 : Int)))))
                  none))
              (f39L0 n x0 x1 vs0 vs6 m (IntKind.wrap .i64 (vs7 + (1 : Int)))))
            none)
          (cond (vs7 == (0 : Int))
            (x0)
            (cond ((decide ((0 : Int) ≤ vs7)) && (decide (vs7 < (ByteArray.size vs0 : Int))))
              (cond (!(digit (((ByteArray.data vs0).getD (Int.toNat vs7) 0).toNat : Int)))
                (cond ((decide ((0 : Int) ≤ vs7)) && (decide (vs7 < (ByteArray.size vs0 : Int))))
                  (cond ((((ByteArray.data vs0).getD (Int.toNat vs7) 0).toNat : Int) != (45 : Int))
                    (x0)
                    (f39L0 n x0 x1 vs0 vs6 m (IntKind.wrap .i64 (vs7 + (1 : Int)))))
                  none)
                (f39L0 n x0 x1 vs0 vs6 m (IntKind.wrap .i64 (vs7 + (1 : Int)))))
              none)))
        none)
      (x1 vs7 (decide (vs7 < vs6))))
theorem f39L0_b {R : Type} (n : Nat) (k' : Ex → St → Option R) (vs0 : ByteArray) (vs6 : Int) (vs7 : Int) : ev f39e f39k n (cAt [1,0,1,0,0] f39c) ⟨[(0, .c (.one (.v (.string vs0)))), (6, .c (.one (.v (.int .i64 vs6)))), (7, .c (.one (.v (.int .i64 vs7))))], [], []⟩ k' =
    (cond (decide (vs7 < vs6))
    (cond ((decide ((0 : Int) ≤ vs7)) && (decide (vs7 < (ByteArray.size vs0 : Int))))
      (cond (decide ((((ByteArray.data vs0).getD (Int.toNat vs7) 0).toNat : Int) ≥ (97 : Int)))
        (cond ((decide ((0 : Int) ≤ vs7)) && (decide (vs7 < (ByteArray.size vs0 : Int))))
          (cond (!(decide ((((ByteArray.data vs0).getD (Int.toNat vs7) 0).toNat : Int) ≤ (122 : Int))))
            (cond (vs7 == (0 : Int))
              (k' .ret ⟨[(2, .c (.one (.v (.bool false))))], [], []⟩)
              (cond ((decide ((0 : Int) ≤ vs7)) && (decide (vs7 < (ByteArray.size vs0 : Int))))
                (cond (!(digit (((ByteArray.data vs0).getD (Int.toNat vs7) 0).toNat : Int)))
                  (cond ((decide ((0 : Int) ≤ vs7)) && (decide (vs7 < (ByteArray.size vs0 : Int))))
                    (cond ((((ByteArray.data vs0).getD (Int.toNat vs7) 0).toNat : Int) != (45 : Int))
                      (k' .ret ⟨[(2, .c (.one (.v (.bool false))))], [], []⟩)
                      (k' .normal ⟨[(0, .c (.one (.v (.string vs0)))), (6, .c (.one (.v (.int .i64 vs6)))), (7, .c (.one (.v (.int .i64 (IntKind.wrap .i64 (vs7 + (1 : Int)))))))], [], []⟩))
                    none)
                  (k' .normal ⟨[(0, .c (.one (.v (.string vs0)))), (6, .c (.one (.v (.int .i64 vs6)))), (7, .c (.one (.v (.int .i64 (IntKind.wrap .i64 (vs7 + (1 : Int)))))))], [], []⟩))
                none))
            (k' .normal ⟨[(0, .c (.one (.v (.string vs0)))), (6, .c (.one (.v (.int .i64 vs6)))), (7, .c (.one (.v (.int .i64 (IntKind.wrap .i64 (vs7 + (1 : Int)))))))], [], []⟩))
          none)
        (cond (vs7 == (0 : Int))
          (k' .ret ⟨[(2, .c (.one (.v (.bool false))))], [], []⟩)
          (cond ((decide ((0 : Int) ≤ vs7)) && (decide (vs7 < (ByteArray.size vs0 : Int))))
            (cond (!(digit (((ByteArray.data vs0).getD (Int.toNat vs7) 0).toNat : Int)))
              (cond ((decide ((0 : Int) ≤ vs7)) && (decide (vs7 < (ByteArray.size vs0 : Int))))
                (cond ((((ByteArray.data vs0).getD (Int.toNat vs7) 0).toNat : Int) != (45 : Int))
                  (k' .ret ⟨[(2, .c (.one (.v (.bool false))))], [], []⟩)
                  (k' .normal ⟨[(0, .c (.one (.v (.string vs0)))), (6, .c (.one (.v (.int .i64 vs6)))), (7, .c (.one (.v (.int .i64 (IntKind.wrap .i64 (vs7 + (1 : Int)))))))], [], []⟩))
                none)
              (k' .normal ⟨[(0, .c (.one (.v (.string vs0)))), (6, .c (.one (.v (.int .i64 vs6)))), (7, .c (.one (.v (.int .i64 (IntKind.wrap .i64 (vs7 + (1 : Int)))))))], [], []⟩))
            none)))
      none)
    (k' (.exit 0) ⟨[(0, .c (.one (.v (.string vs0)))), (6, .c (.one (.v (.int .i64 vs6)))), (7, .c (.one (.v (.int .i64 vs7)))), (8, .c (.one (.v (.bool (decide (vs7 < vs6))))))], [], []⟩)) := by kernel_rfl
theorem f39L0_eq {R : Type} (n : Nat) (k' : Ex → St → Option R) (vs0 : ByteArray) (vs6 : Int) : ∀ (m : Nat) (vs7 : Int), iter (fun st k => ev f39e f39k n (cAt [1,0,1,0,0] f39c) st k) m ⟨[(0, .c (.one (.v (.string vs0)))), (6, .c (.one (.v (.int .i64 vs6)))), (7, .c (.one (.v (.int .i64 vs7))))], [], []⟩ k' = f39L0 n (k' .ret ⟨[(2, .c (.one (.v (.bool false))))], [], []⟩) (fun (xvs7 : Int) (xvs8 : Bool) => k' (.exit 0) ⟨[(0, .c (.one (.v (.string vs0)))), (6, .c (.one (.v (.int .i64 vs6)))), (7, .c (.one (.v (.int .i64 xvs7)))), (8, .c (.one (.v (.bool xvs8))))], [], []⟩) vs0 vs6 m vs7 := by
  intro m; induction m with
  | zero => intros; rfl
  | succ m ih =>
    intro vs7
    simp only [iter]
    rw [f39L0_b]
    simp only [ih, f39L0]

noncomputable def f39K0 {R : Type} (n : Nat) (k' : Ex → St → Option R) : Ex → St → Option R := (blockK 0 (seqK f39e f39k n (cAt [1,1] f39c) k'))
theorem f39K0_x0 {R : Type} (n : Nat) (k : List Dt → Option R) (a0 : ByteArray)  : f39K0 n (exitK f39e [.ro] [false] true [.tmp 2] [4] [.d .str a0] k) .ret ⟨[(2, .c (.one (.v (.bool false))))], [], []⟩ =
    (k [.d .bool false]) := by kernel_rfl
theorem f39K0_x1 {R : Type} (n : Nat) (k : List Dt → Option R) (a0 : ByteArray) (vs0 : ByteArray) (vs6 : Int) (xvs7 : Int) (xvs8 : Bool) : f39K0 n (exitK f39e [.ro] [false] true [.tmp 2] [4] [.d .str a0] k) (.exit 0) ⟨[(0, .c (.one (.v (.string vs0)))), (6, .c (.one (.v (.int .i64 vs6)))), (7, .c (.one (.v (.int .i64 xvs7)))), (8, .c (.one (.v (.bool xvs8))))], [], []⟩ =
    (k [.d .bool (inR (ByteArray.size vs0 : Int) (1 : Int) (20 : Int))]) := by kernel_rfl

theorem f39_run {R : Type} (n : Nat) (k : List Dt → Option R) (a0 : ByteArray) : evFn f39e f39k n f39c [.ro] [false] true [.tmp 2] [4] [.d .str a0] k =
    (f39L0 n (k [.d .bool false]) (fun (xvs7 : Int) (xvs8 : Bool) =>
    (k [.d .bool (inR (ByteArray.size a0 : Int) (1 : Int) (20 : Int))])) a0 (ByteArray.size a0 : Int) n (0 : Int)) := by
  refine Eq.trans (b := (iter (fun st k => ev f39e f39k n (cAt [1,0,1,0,0] f39c) st k) n ⟨[(0, .c (.one (.v (.string a0)))), (6, .c (.one (.v (.int .i64 (ByteArray.size a0 : Int))))), (7, .c (.one (.v (.int .i64 (0 : Int)))))], [], []⟩ (f39K0 n (exitK f39e [.ro] [false] true [.tmp 2] [4] [.d .str a0] k)))) (by kernel_rfl) ?_
  simp only [f39L0_eq, f39K0_x0, f39K0_x1]
theorem f39_spec (a0 : ByteArray) (hg : okStr a0 = true) : ∃ keep rounds, ∀ {R : Type} (k : List Dt → Option R), evFn f39e keep rounds f39c [.ro] [false] true [.tmp 2] [4] [.d .str a0] k = k [.d .bool (nameOk a0)] := by
  have hl : a0.size ≤ 9223372036854775807 := bleN hg
  refine ⟨f39k, a0.size + 1, fun {R} k => ?_⟩
  rw [f39_run]
  refine Eq.trans (loop_idx (n := a0.size) (F := fun m i => f39L0 (a0.size + 1) _ _ a0 (a0.size : Int) m i) (p := fun j => nameC (j : Int) (byteAt a0 j)) (good := _) (bad := k [.d .bool false])
    (fun m j hj => ?_) (fun m => by simp only [f39L0, idxE, cond_false]; rfl) a0.size 0 (a0.size + 1) (by omega) (by omega)) ?_
  · obtain ⟨h1, h0, hw, ht⟩ := idx hj (by omega)
    simp only [f39L0, h1, h0, hw, ht, Bool.and_self, cond_true]
    show _ = cond (nameC (j : Int) (((ByteArray.data a0).getD j 0).toNat : Int)) _ _
    generalize (((ByteArray.data a0).getD j 0).toNat : Int) = c
    unfold nameC
    simp only [bne]
    cases decide (c ≥ (97 : Int)) <;> cases decide (c ≤ (122 : Int)) <;> cases ((j : Int) == (0 : Int)) <;> cases digit c <;> cases (c == (45 : Int)) <;> rfl
  · unfold nameOk
    cases allN (fun j => nameC (j : Int) (byteAt a0 j)) 0 a0.size <;> rfl

noncomputable def q39 : List Dt → Option (Bool × List Dt)
  | [.d .str a0] => some ((okStr a0), [.d .bool (nameOk a0)])
  | _ => none
noncomputable def s39 : Gm.Spec := Gm.Spec.of [.ro] [false] true q39
theorem good39 : Gm.Good Try.prog (39, s39) := by
  have hl : ∀ x ∈ [(23, s23), (56, s56)], Gm.Good Try.prog x := List.forall_mem_cons.2 ⟨good23, List.forall_mem_cons.2 ⟨good56, List.forall_mem_nil _⟩⟩
  refine ⟨⟨spec_ok (tab_ok.env hl) (tab.natl hl) Try.func39 (by kernel_rfl : Try.f39.body = some f39c) [4] (by kernel_rfl) ?_, _, Try.func39, by kernel_rfl, of_decide_eq_true (by kernel_rfl)⟩, Gm.Spec.of_natl _ _ _ _⟩
  intro ds outs h
  unfold q39 at h
  split at h
  · simp only [Option.some.injEq, Prod.mk.injEq] at h; obtain ⟨hg, h⟩ := h; cases h; exact f39_spec _ hg
  · cases h
/-! ### loop.example/g00465/spec.TextOk -/
noncomputable def f76c : Code := (Try.f76.body).getD .skip
def f76k : Nat → Kp := kat [⟨[0], [], [], []⟩, ⟨[0, 3], [], [], []⟩, ⟨[0, 3, 7], [], [], []⟩, ⟨[0, 3], [], [], []⟩, ⟨[0, 3, 19], [], [], []⟩, ⟨[2], [], [], []⟩, ⟨[2], [], [], []⟩]
noncomputable def f76e : Env := tab.env []
noncomputable def f76L0 {R : Type} (n : Nat) (x0 : Option R) (x1 : Int → Bool → Option R) (vs0 : ByteArray) : Nat → Int → Option R
  | 0, _ => none
  | m + 1, vs3 =>
    (cond (decide (vs3 < (ByteArray.size vs0 : Int)))
      (cond ((decide ((0 : Int) ≤ vs3)) && (decide (vs3 < (ByteArray.size vs0 : Int))))
        (cond (decide ((((ByteArray.data vs0).getD (Int.toNat vs3) 0).toNat : Int) < (32 : Int)))
          (x0)
          (cond ((decide ((0 : Int) ≤ vs3)) && (decide (vs3 < (ByteArray.size vs0 : Int))))
            (cond (decide ((((ByteArray.data vs0).getD (Int.toNat vs3) 0).toNat : Int) > (126 : Int)))
              (x0)
              (f76L0 n x0 x1 vs0 m (IntKind.wrap .i64 (vs3 + (1 : Int)))))
            none))
        none)
      (x1 vs3 (decide (vs3 < (ByteArray.size vs0 : Int)))))
theorem f76L0_b {R : Type} (n : Nat) (k' : Ex → St → Option R) (vs0 : ByteArray) (vs3 : Int) : ev f76e f76k n (cAt [1,0,1,0,0] f76c) ⟨[(0, .c (.one (.v (.string vs0)))), (3, .c (.one (.v (.int .i64 vs3))))], [], []⟩ k' =
    (cond (decide (vs3 < (ByteArray.size vs0 : Int)))
    (cond ((decide ((0 : Int) ≤ vs3)) && (decide (vs3 < (ByteArray.size vs0 : Int))))
      (cond (decide ((((ByteArray.data vs0).getD (Int.toNat vs3) 0).toNat : Int) < (32 : Int)))
        (k' .ret ⟨[(2, .c (.one (.v (.bool false))))], [], []⟩)
        (cond ((decide ((0 : Int) ≤ vs3)) && (decide (vs3 < (ByteArray.size vs0 : Int))))
          (cond (decide ((((ByteArray.data vs0).getD (Int.toNat vs3) 0).toNat : Int) > (126 : Int)))
            (k' .ret ⟨[(2, .c (.one (.v (.bool false))))], [], []⟩)
            (k' .normal ⟨[(0, .c (.one (.v (.string vs0)))), (3, .c (.one (.v (.int .i64 (IntKind.wrap .i64 (vs3 + (1 : Int)))))))], [], []⟩))
          none))
      none)
    (k' (.exit 0) ⟨[(0, .c (.one (.v (.string vs0)))), (3, .c (.one (.v (.int .i64 vs3)))), (7, .c (.one (.v (.bool (decide (vs3 < (ByteArray.size vs0 : Int)))))))], [], []⟩)) := by kernel_rfl
theorem f76L0_eq {R : Type} (n : Nat) (k' : Ex → St → Option R) (vs0 : ByteArray) : ∀ (m : Nat) (vs3 : Int), iter (fun st k => ev f76e f76k n (cAt [1,0,1,0,0] f76c) st k) m ⟨[(0, .c (.one (.v (.string vs0)))), (3, .c (.one (.v (.int .i64 vs3))))], [], []⟩ k' = f76L0 n (k' .ret ⟨[(2, .c (.one (.v (.bool false))))], [], []⟩) (fun (xvs3 : Int) (xvs7 : Bool) => k' (.exit 0) ⟨[(0, .c (.one (.v (.string vs0)))), (3, .c (.one (.v (.int .i64 xvs3)))), (7, .c (.one (.v (.bool xvs7))))], [], []⟩) vs0 m vs3 := by
  intro m; induction m with
  | zero => intros; rfl
  | succ m ih =>
    intro vs3
    simp only [iter]
    rw [f76L0_b]
    simp only [ih, f76L0]

noncomputable def f76K0 {R : Type} (n : Nat) (k' : Ex → St → Option R) : Ex → St → Option R := (blockK 0 (seqK f76e f76k n (cAt [1,1] f76c) k'))
theorem f76K0_x0 {R : Type} (n : Nat) (k : List Dt → Option R) (a0 : ByteArray)  : f76K0 n (exitK f76e [.ro] [false] true [.tmp 2] [4] [.d .str a0] k) .ret ⟨[(2, .c (.one (.v (.bool false))))], [], []⟩ =
    (k [.d .bool false]) := by kernel_rfl
theorem f76K0_x1 {R : Type} (n : Nat) (k : List Dt → Option R) (a0 : ByteArray) (vs0 : ByteArray) (xvs3 : Int) (xvs7 : Bool) : f76K0 n (exitK f76e [.ro] [false] true [.tmp 2] [4] [.d .str a0] k) (.exit 0) ⟨[(0, .c (.one (.v (.string vs0)))), (3, .c (.one (.v (.int .i64 xvs3)))), (7, .c (.one (.v (.bool xvs7))))], [], []⟩ =
    (k [.d .bool (decide ((ByteArray.size vs0 : Int) ≤ (400 : Int)))]) := by kernel_rfl

theorem f76_run {R : Type} (n : Nat) (k : List Dt → Option R) (a0 : ByteArray) : evFn f76e f76k n f76c [.ro] [false] true [.tmp 2] [4] [.d .str a0] k =
    (f76L0 n (k [.d .bool false]) (fun (xvs3 : Int) (xvs7 : Bool) =>
    (k [.d .bool (decide ((ByteArray.size a0 : Int) ≤ (400 : Int)))])) a0 n (0 : Int)) := by
  refine Eq.trans (b := (iter (fun st k => ev f76e f76k n (cAt [1,0,1,0,0] f76c) st k) n ⟨[(0, .c (.one (.v (.string a0)))), (3, .c (.one (.v (.int .i64 (0 : Int)))))], [], []⟩ (f76K0 n (exitK f76e [.ro] [false] true [.tmp 2] [4] [.d .str a0] k)))) (by kernel_rfl) ?_
  simp only [f76L0_eq, f76K0_x0, f76K0_x1]
theorem f76_spec (a0 : ByteArray) (hg : okStr a0 = true) : ∃ keep rounds, ∀ {R : Type} (k : List Dt → Option R), evFn f76e keep rounds f76c [.ro] [false] true [.tmp 2] [4] [.d .str a0] k = k [.d .bool (textOk a0)] := by
  have hl : a0.size ≤ 9223372036854775807 := bleN hg
  refine ⟨f76k, a0.size + 1, fun {R} k => ?_⟩
  rw [f76_run]
  refine Eq.trans (loop_idx (n := a0.size) (F := fun m i => f76L0 (a0.size + 1) _ _ a0 m i) (p := fun j => inR (byteAt a0 j) 32 126) (good := _) (bad := k [.d .bool false])
    (fun m j hj => ?_) (fun m => by simp only [f76L0, idxE, cond_false]; rfl) a0.size 0 (a0.size + 1) (by omega) (by omega)) ?_
  · obtain ⟨h1, h0, hw, ht⟩ := idx hj (by omega)
    have hc : 0 ≤ byteAt a0 j ∧ byteAt a0 j < 256 := by
      unfold byteAt
      have := UInt8.toNat_lt (a0.data.getD j 0)
      omega
    simp only [f76L0, h1, h0, hw, ht, Bool.and_self, cond_true]
    change 0 ≤ (((ByteArray.data a0).getD j 0).toNat : Int) ∧ (((ByteArray.data a0).getD j 0).toNat : Int) < 256 at hc
    show _ = cond (inR (((ByteArray.data a0).getD j 0).toNat : Int) 32 126) _ _
    generalize (((ByteArray.data a0).getD j 0).toNat : Int) = c at *
    unfold inR
    rw [show decide (c < 32) = !(decide (c ≥ 32)) by rw [Bool.eq_iff_iff]; simp, show decide (c > 126) = !(decide (c ≤ 126)) by rw [Bool.eq_iff_iff]; simp]
    cases decide (c ≥ 32) <;> cases decide (c ≤ 126) <;> rfl
  · unfold textOk
    cases allN (fun j => inR (byteAt a0 j) 32 126) 0 a0.size <;> rfl

noncomputable def q76 : List Dt → Option (Bool × List Dt)
  | [.d .str a0] => some ((okStr a0), [.d .bool (textOk a0)])
  | _ => none
noncomputable def s76 : Gm.Spec := Gm.Spec.of [.ro] [false] true q76
theorem good76 : Gm.Good Try.prog (76, s76) := by
  have hl : ∀ x ∈ ([] : List (Nat × Gm.Spec)), Gm.Good Try.prog x := fun _ h => by cases h
  refine ⟨⟨spec_ok (tab_ok.env hl) (tab.natl hl) Try.func76 (by kernel_rfl : Try.f76.body = some f76c) [4] (by kernel_rfl) ?_, _, Try.func76, by kernel_rfl, of_decide_eq_true (by kernel_rfl)⟩, Gm.Spec.of_natl _ _ _ _⟩
  intro ds outs h
  unfold q76 at h
  split at h
  · simp only [Option.some.injEq, Prod.mk.injEq] at h; obtain ⟨hg, h⟩ := h; cases h; exact f76_spec _ hg
  · cases h
/-! ### loop.example/g00465/impl.TextOk -/
noncomputable def f82c : Code := (Try.f82.body).getD .skip
def f82k : Nat → Kp := kat [⟨[0], [], [], []⟩, ⟨[0, 5, 6], [], [], []⟩, ⟨[0, 5, 6, 7], [], [], []⟩, ⟨[0, 3, 5, 6], [], [], []⟩, ⟨[0, 5, 6, 14], [], [], []⟩, ⟨[2], [], [], []⟩, ⟨[0, 5, 6], [], [], []⟩, ⟨[2], [], [], []⟩]
noncomputable def f82e : Env := tab.env [(23, s23)]
noncomputable def f82L0 {R : Type} (n : Nat) (x0 : Option R) (x1 : Int → Bool → Option R) (vs0 : ByteArray) (vs5 : Int) : Nat → Int → Option R
  | 0, _ => none
  | m + 1, vs6 =>
    (cond (decide (vs6 < vs5))
      (cond ((decide ((0 : Int) ≤ vs6)) && (decide (vs6 < (ByteArray.size vs0 : Int))))
        (cond (!(inR (IntKind.wrap .i64 (((ByteArray.data vs0).getD (Int.toNat vs6) 0).toNat : Int)) (32 : Int) (126 : Int)))
          (x0)
          (f82L0 n x0 x1 vs0 vs5 m (IntKind.wrap .i64 (vs6 + (1 : Int)))))
        none)
      (x1 vs6 (decide (vs6 < vs5))))
theorem f82L0_b {R : Type} (n : Nat) (k' : Ex → St → Option R) (vs0 : ByteArray) (vs5 : Int) (vs6 : Int) : ev f82e f82k n (cAt [1,0,1,0,0] f82c) ⟨[(0, .c (.one (.v (.string vs0)))), (5, .c (.one (.v (.int .i64 vs5)))), (6, .c (.one (.v (.int .i64 vs6))))], [], []⟩ k' =
    (cond (decide (vs6 < vs5))
    (cond ((decide ((0 : Int) ≤ vs6)) && (decide (vs6 < (ByteArray.size vs0 : Int))))
      (cond (!(inR (IntKind.wrap .i64 (((ByteArray.data vs0).getD (Int.toNat vs6) 0).toNat : Int)) (32 : Int) (126 : Int)))
        (k' .ret ⟨[(2, .c (.one (.v (.bool false))))], [], []⟩)
        (k' .normal ⟨[(0, .c (.one (.v (.string vs0)))), (5, .c (.one (.v (.int .i64 vs5)))), (6, .c (.one (.v (.int .i64 (IntKind.wrap .i64 (vs6 + (1 : Int)))))))], [], []⟩))
      none)
    (k' (.exit 0) ⟨[(0, .c (.one (.v (.string vs0)))), (5, .c (.one (.v (.int .i64 vs5)))), (6, .c (.one (.v (.int .i64 vs6)))), (7, .c (.one (.v (.bool (decide (vs6 < vs5))))))], [], []⟩)) := by kernel_rfl
theorem f82L0_eq {R : Type} (n : Nat) (k' : Ex → St → Option R) (vs0 : ByteArray) (vs5 : Int) : ∀ (m : Nat) (vs6 : Int), iter (fun st k => ev f82e f82k n (cAt [1,0,1,0,0] f82c) st k) m ⟨[(0, .c (.one (.v (.string vs0)))), (5, .c (.one (.v (.int .i64 vs5)))), (6, .c (.one (.v (.int .i64 vs6))))], [], []⟩ k' = f82L0 n (k' .ret ⟨[(2, .c (.one (.v (.bool false))))], [], []⟩) (fun (xvs6 : Int) (xvs7 : Bool) => k' (.exit 0) ⟨[(0, .c (.one (.v (.string vs0)))), (5, .c (.one (.v (.int .i64 vs5)))), (6, .c (.one (.v (.int .i64 xvs6)))), (7, .c (.one (.v (.bool xvs7))))], [], []⟩) vs0 vs5 m vs6 := by
  intro m; induction m with
  | zero => intros; rfl
  | succ m ih =>
    intro vs6
    simp only [iter]
    rw [f82L0_b]
    simp only [ih, f82L0]

noncomputable def f82K0 {R : Type} (n : Nat) (k' : Ex → St → Option R) : Ex → St → Option R := (blockK 0 (seqK f82e f82k n (cAt [1,1] f82c) k'))
theorem f82K0_x0 {R : Type} (n : Nat) (k : List Dt → Option R) (a0 : ByteArray)  : f82K0 n (exitK f82e [.ro] [false] true [.tmp 2] [4] [.d .str a0] k) .ret ⟨[(2, .c (.one (.v (.bool false))))], [], []⟩ =
    (k [.d .bool false]) := by kernel_rfl
theorem f82K0_x1 {R : Type} (n : Nat) (k : List Dt → Option R) (a0 : ByteArray) (vs0 : ByteArray) (vs5 : Int) (xvs6 : Int) (xvs7 : Bool) : f82K0 n (exitK f82e [.ro] [false] true [.tmp 2] [4] [.d .str a0] k) (.exit 0) ⟨[(0, .c (.one (.v (.string vs0)))), (5, .c (.one (.v (.int .i64 vs5)))), (6, .c (.one (.v (.int .i64 xvs6)))), (7, .c (.one (.v (.bool xvs7))))], [], []⟩ =
    (k [.d .bool (decide ((ByteArray.size vs0 : Int) ≤ (400 : Int)))]) := by kernel_rfl

theorem f82_run {R : Type} (n : Nat) (k : List Dt → Option R) (a0 : ByteArray) : evFn f82e f82k n f82c [.ro] [false] true [.tmp 2] [4] [.d .str a0] k =
    (f82L0 n (k [.d .bool false]) (fun (xvs6 : Int) (xvs7 : Bool) =>
    (k [.d .bool (decide ((ByteArray.size a0 : Int) ≤ (400 : Int)))])) a0 (ByteArray.size a0 : Int) n (0 : Int)) := by
  refine Eq.trans (b := (iter (fun st k => ev f82e f82k n (cAt [1,0,1,0,0] f82c) st k) n ⟨[(0, .c (.one (.v (.string a0)))), (5, .c (.one (.v (.int .i64 (ByteArray.size a0 : Int))))), (6, .c (.one (.v (.int .i64 (0 : Int)))))], [], []⟩ (f82K0 n (exitK f82e [.ro] [false] true [.tmp 2] [4] [.d .str a0] k)))) (by kernel_rfl) ?_
  simp only [f82L0_eq, f82K0_x0, f82K0_x1]
theorem f82_spec (a0 : ByteArray) (hg : okStr a0 = true) : ∃ keep rounds, ∀ {R : Type} (k : List Dt → Option R), evFn f82e keep rounds f82c [.ro] [false] true [.tmp 2] [4] [.d .str a0] k = k [.d .bool (textOk a0)] := by
  have hl : a0.size ≤ 9223372036854775807 := bleN hg
  refine ⟨f82k, a0.size + 1, fun {R} k => ?_⟩
  rw [f82_run]
  refine Eq.trans (loop_idx (n := a0.size) (F := fun m i => f82L0 (a0.size + 1) _ _ a0 (a0.size : Int) m i) (p := fun j => inR (byteAt a0 j) 32 126) (good := _) (bad := k [.d .bool false])
    (fun m j hj => ?_) (fun m => by simp only [f82L0, idxE, cond_false]; rfl) a0.size 0 (a0.size + 1) (by omega) (by omega)) ?_
  · obtain ⟨h1, h0, hw, ht⟩ := idx hj (by omega)
    have hc : 0 ≤ byteAt a0 j ∧ byteAt a0 j < 256 := by
      unfold byteAt
      have := UInt8.toNat_lt (a0.data.getD j 0)
      omega
    simp only [f82L0, h1, h0, hw, ht, Bool.and_self, cond_true]
    change 0 ≤ (((ByteArray.data a0).getD j 0).toNat : Int) ∧ (((ByteArray.data a0).getD j 0).toNat : Int) < 256 at hc
    show _ = cond (inR (((ByteArray.data a0).getD j 0).toNat : Int) 32 126) _ _
    generalize (((ByteArray.data a0).getD j 0).toNat : Int) = c at *
    rw [wrap_id (by omega) (by omega)]
    cases inR c 32 126 <;> rfl
  · unfold textOk
    cases allN (fun j => inR (byteAt a0 j) 32 126) 0 a0.size <;> rfl

noncomputable def q82 : List Dt → Option (Bool × List Dt)
  | [.d .str a0] => some ((okStr a0), [.d .bool (textOk a0)])
  | _ => none
noncomputable def s82 : Gm.Spec := Gm.Spec.of [.ro] [false] true q82
theorem good82 : Gm.Good Try.prog (82, s82) := by
  have hl : ∀ x ∈ [(23, s23)], Gm.Good Try.prog x := List.forall_mem_cons.2 ⟨good23, List.forall_mem_nil _⟩
  refine ⟨⟨spec_ok (tab_ok.env hl) (tab.natl hl) Try.func82 (by kernel_rfl : Try.f82.body = some f82c) [4] (by kernel_rfl) ?_, _, Try.func82, by kernel_rfl, of_decide_eq_true (by kernel_rfl)⟩, Gm.Spec.of_natl _ _ _ _⟩
  intro ds outs h
  unfold q82 at h
  split at h
  · simp only [Option.some.injEq, Prod.mk.injEq] at h; obtain ⟨hg, h⟩ := h; cases h; exact f82_spec _ hg
  · cases h
end Go.Proofs.Ytaeepnmdfdmgjaa

/- x -/
namespace Go.Proofs.Ytaeepnmdfdmgjaa
open Go Go.Gm

set_option maxHeartbeats 1000000 in
set_option maxRecDepth 100000 in
theorem liteIdx (s : ByteArray) (c : Int) (w : World) : Calls Try.prog 96 #[.string s, .int .u8 c] w fun e w' => e = .returned (.int .i64 (idxB s c)) ∧ w' = w := by
  go_enter Try.func96, Try.ntmps96
  go_wp2
  rw [run_callFunc_extern Try.func97 (by kernel_rfl) (by kernel_rfl) (by kernel_rfl) (e := Extern.BytealgIndexByte.indexByte) (by kernel_rfl), Lib.run_indexByteString]
  simp only [Result.andThen]
  rw [Oper.upon_value]
  go_wp2
  go_ret
  exact ⟨rfl, rfl⟩
noncomputable def q96 : List Dt → Option (Bool × List Dt)
  | [.d .str a0, .d (.i .u8) a1] => some (true, [.d (.i .i64) (idxB a0 a1)])
  | _ => none
noncomputable def s96 : Gm.Spec := Gm.Spec.of [.ro, .ro] [false] true q96
theorem good96 : Gm.Good Try.prog (96, s96) := by
  refine ⟨⟨spec_plain rfl ?_, _, Try.func96, by kernel_rfl, of_decide_eq_true (by kernel_rfl)⟩, Gm.Spec.of_natl _ _ _ _⟩
  intro ds outs h
  unfold q96 at h
  split at h
  · rename_i a0 a1
    cases h
    refine ⟨_, _, .int .i64 (idxB a0 a1), rfl, rfl, rfl, rfl, fun w us ROa Fs hA => ?_⟩
    cases hA with
    | cons h1 hA =>
      cases hA with
      | cons h2 hA =>
        cases hA
        have e1 := valRd_v (t := .str) (v := .string a0) rfl rfl h1
        have e2 := valRd_v (t := .i .u8) (v := .int .u8 a1) rfl rfl h2
        subst e1 e2
        exact liteIdx a0 a1 w
  · cases h
end Go.Proofs.Ytaeepnmdfdmgjaa

/- x -/
namespace Go.Proofs.Ytaeepnmdfdmgjaa
open Go Go.Gm
/-! ### strings.IndexByte -/
noncomputable def f92c : Code := (Try.f92.body).getD .skip
def f92k : Nat → Kp := kat [⟨[0, 1], [], [], []⟩, ⟨[4], [], [], []⟩]
noncomputable def f92e : Env := tab.env [(96, s96)]
theorem f92_run {R : Type} (n : Nat) (k : List Dt → Option R) (a0 : ByteArray) (a1 : Int) : evFn f92e f92k n f92c [.ro, .ro] [false] true [.tmp 4] [3] [.d .str a0, .d (.i .u8) a1] k =
    (k [.d (.i .i64) (idxB a0 a1)]) := by kernel_rfl
theorem f92_spec (a0 : ByteArray) (a1 : Int) : ∃ keep rounds, ∀ {R : Type} (k : List Dt → Option R), evFn f92e keep rounds f92c [.ro, .ro] [false] true [.tmp 4] [3] [.d .str a0, .d (.i .u8) a1] k = k [.d (.i .i64) (idxB a0 a1)] := ⟨f92k, 0, fun k => f92_run 0 k _ _⟩

noncomputable def q92 : List Dt → Option (Bool × List Dt)
  | [.d .str a0, .d (.i .u8) a1] => some (true, [.d (.i .i64) (idxB a0 a1)])
  | _ => none
noncomputable def s92 : Gm.Spec := Gm.Spec.of [.ro, .ro] [false] true q92
theorem good92 : Gm.Good Try.prog (92, s92) := by
  have hl : ∀ x ∈ [(96, s96)], Gm.Good Try.prog x := List.forall_mem_cons.2 ⟨good96, List.forall_mem_nil _⟩
  refine ⟨⟨spec_ok (tab_ok.env hl) (tab.natl hl) Try.func92 (by kernel_rfl : Try.f92.body = some f92c) [3] (by kernel_rfl) ?_, _, Try.func92, by kernel_rfl, of_decide_eq_true (by kernel_rfl)⟩, Gm.Spec.of_natl _ _ _ _⟩
  intro ds outs h
  unfold q92 at h
  split at h
  · cases h; exact f92_spec _ _
  · cases h
/-! ### loop.example/g00465/spec.PlainOk -/
noncomputable def f74c : Code := (Try.f74.body).getD .skip
def f74k : Nat → Kp := kat [⟨[0], [], [], []⟩, ⟨[0, 3], [], [], []⟩, ⟨[0, 3, 8], [], [], []⟩, ⟨[0, 3], [], [], []⟩, ⟨[0, 3, 4], [], [], []⟩, ⟨[0, 3, 45], [], [], []⟩, ⟨[2], [], [], []⟩, ⟨[2], [], [], []⟩]
noncomputable def f74e : Env := tab.env [(16, s16), (88, s88)]
noncomputable def f74L0 {R : Type} (n : Nat) (x0 : Option R) (x1 : Int → Bool → Option R) (vs0 : ByteArray) : Nat → Int → Option R
  | 0, _ => none
  | m + 1, vs3 =>
    (cond (decide (vs3 < (ByteArray.size vs0 : Int)))
      (cond ((decide ((0 : Int) ≤ vs3)) && (decide (vs3 < (ByteArray.size vs0 : Int))))
        (cond (!(letter (((ByteArray.data vs0).getD (Int.toNat vs3) 0).toNat : Int)))
          (cond (vs3 == (0 : Int))
            (x0)
            (cond (decide ((((ByteArray.data vs0).getD (Int.toNat vs3) 0).toNat : Int) ≥ (48 : Int)))
              (cond (decide ((((ByteArray.data vs0).getD (Int.toNat vs3) 0).toNat : Int) ≤ (57 : Int)))
                (f74L0 n x0 x1 vs0 m (IntKind.wrap .i64 (vs3 + (1 : Int))))
                (cond ((((ByteArray.data vs0).getD (Int.toNat vs3) 0).toNat : Int) == (95 : Int))
                  (f74L0 n x0 x1 vs0 m (IntKind.wrap .i64 (vs3 + (1 : Int))))
                  (cond ((((ByteArray.data vs0).getD (Int.toNat vs3) 0).toNat : Int) == (46 : Int))
                    (f74L0 n x0 x1 vs0 m (IntKind.wrap .i64 (vs3 + (1 : Int))))
                    (cond ((((ByteArray.data vs0).getD (Int.toNat vs3) 0).toNat : Int) == (47 : Int))
                      (f74L0 n x0 x1 vs0 m (IntKind.wrap .i64 (vs3 + (1 : Int))))
                      (cond (!((((ByteArray.data vs0).getD (Int.toNat vs3) 0).toNat : Int) == (45 : Int)))
                        (x0)
                        (f74L0 n x0 x1 vs0 m (IntKind.wrap .i64 (vs3 + (1 : Int)))))))))
              (cond ((((ByteArray.data vs0).getD (Int.toNat vs3) 0).toNat : Int) == (95 : Int))
                (f74L0 n x0 x1 vs0 m (IntKind.wrap .i64 (vs3 + (1 : Int))))
                (cond ((((ByteArray.data vs0).getD (Int.toNat vs3) 0).toNat : Int) == (46 : Int))
                  (f74L0 n x0 x1 vs0 m (IntKind.wrap .i64 (vs3 + (1 : Int))))
                  (cond ((((ByteArray.data vs0).getD (Int.toNat vs3) 0).toNat : Int) == (47 : Int))
                    (f74L0 n x0 x1 vs0 m (IntKind.wrap .i64 (vs3 + (1 : Int))))
                    (cond (!((((ByteArray.data vs0).getD (Int.toNat vs3) 0).toNat : Int) == (45 : Int)))
                      (x0)
                      (f74L0 n x0 x1 vs0 m (IntKind.wrap .i64 (vs3 + (1 : Int))))))))))
          (f74L0 n x0 x1 vs0 m (IntKind.wrap .i64 (vs3 + (1 : Int)))))
        none)
      (x1 vs3 (decide (vs3 < (ByteArray.size vs0 : Int)))))
theorem f74L0_b {R : Type} (n : Nat) (k' : Ex → St → Option R) (vs0 : ByteArray) (vs3 : Int) : ev f74e f74k n (cAt [1,0,1,0,0] f74c) ⟨[(0, .c (.one (.v (.string vs0)))), (3, .c (.one (.v (.int .i64 vs3))))], [], []⟩ k' =
    (cond (decide (vs3 < (ByteArray.size vs0 : Int)))
    (cond ((decide ((0 : Int) ≤ vs3)) && (decide (vs3 < (ByteArray.size vs0 : Int))))
      (cond (!(letter (((ByteArray.data vs0).getD (Int.toNat vs3) 0).toNat : Int)))
        (cond (vs3 == (0 : Int))
          (k' .ret ⟨[(2, .c (.one (.v (.bool false))))], [], []⟩)
          (cond (decide ((((ByteArray.data vs0).getD (Int.toNat vs3) 0).toNat : Int) ≥ (48 : Int)))
            (cond (decide ((((ByteArray.data vs0).getD (Int.toNat vs3) 0).toNat : Int) ≤ (57 : Int)))
              (k' .normal ⟨[(0, .c (.one (.v (.string vs0)))), (3, .c (.one (.v (.int .i64 (IntKind.wrap .i64 (vs3 + (1 : Int)))))))], [], []⟩)
              (cond ((((ByteArray.data vs0).getD (Int.toNat vs3) 0).toNat : Int) == (95 : Int))
                (k' .normal ⟨[(0, .c (.one (.v (.string vs0)))), (3, .c (.one (.v (.int .i64 (IntKind.wrap .i64 (vs3 + (1 : Int)))))))], [], []⟩)
                (cond ((((ByteArray.data vs0).getD (Int.toNat vs3) 0).toNat : Int) == (46 : Int))
                  (k' .normal ⟨[(0, .c (.one (.v (.string vs0)))), (3, .c (.one (.v (.int .i64 (IntKind.wrap .i64 (vs3 + (1 : Int)))))))], [], []⟩)
                  (cond ((((ByteArray.data vs0).getD (Int.toNat vs3) 0).toNat : Int) == (47 : Int))
                    (k' .normal ⟨[(0, .c (.one (.v (.string vs0)))), (3, .c (.one (.v (.int .i64 (IntKind.wrap .i64 (vs3 + (1 : Int)))))))], [], []⟩)
                    (cond (!((((ByteArray.data vs0).getD (Int.toNat vs3) 0).toNat : Int) == (45 : Int)))
                      (k' .ret ⟨[(2, .c (.one (.v (.bool false))))], [], []⟩)
                      (k' .normal ⟨[(0, .c (.one (.v (.string vs0)))), (3, .c (.one (.v (.int .i64 (IntKind.wrap .i64 (vs3 + (1 : Int)))))))], [], []⟩))))))
            (cond ((((ByteArray.data vs0).getD (Int.toNat vs3) 0).toNat : Int) == (95 : Int))
              (k' .normal ⟨[(0, .c (.one (.v (.string vs0)))), (3, .c (.one (.v (.int .i64 (IntKind.wrap .i64 (vs3 + (1 : Int)))))))], [], []⟩)
              (cond ((((ByteArray.data vs0).getD (Int.toNat vs3) 0).toNat : Int) == (46 : Int))
                (k' .normal ⟨[(0, .c (.one (.v (.string vs0)))), (3, .c (.one (.v (.int .i64 (IntKind.wrap .i64 (vs3 + (1 : Int)))))))], [], []⟩)
                (cond ((((ByteArray.data vs0).getD (Int.toNat vs3) 0).toNat : Int) == (47 : Int))
                  (k' .normal ⟨[(0, .c (.one (.v (.string vs0)))), (3, .c (.one (.v (.int .i64 (IntKind.wrap .i64 (vs3 + (1 : Int)))))))], [], []⟩)
                  (cond (!((((ByteArray.data vs0).getD (Int.toNat vs3) 0).toNat : Int) == (45 : Int)))
                    (k' .ret ⟨[(2, .c (.one (.v (.bool false))))], [], []⟩)
                    (k' .normal ⟨[(0, .c (.one (.v (.string vs0)))), (3, .c (.one (.v (.int .i64 (IntKind.wrap .i64 (vs3 + (1 : Int)))))))], [], []⟩)))))))
        (k' .normal ⟨[(0, .c (.one (.v (.string vs0)))), (3, .c (.one (.v (.int .i64 (IntKind.wrap .i64 (vs3 + (1 : Int)))))))], [], []⟩))
      none)
    (k' (.exit 0) ⟨[(0, .c (.one (.v (.string vs0)))), (3, .c (.one (.v (.int .i64 vs3)))), (8, .c (.one (.v (.bool (decide (vs3 < (ByteArray.size vs0 : Int)))))))], [], []⟩)) := by kernel_rfl
theorem f74L0_eq {R : Type} (n : Nat) (k' : Ex → St → Option R) (vs0 : ByteArray) : ∀ (m : Nat) (vs3 : Int), iter (fun st k => ev f74e f74k n (cAt [1,0,1,0,0] f74c) st k) m ⟨[(0, .c (.one (.v (.string vs0)))), (3, .c (.one (.v (.int .i64 vs3))))], [], []⟩ k' = f74L0 n (k' .ret ⟨[(2, .c (.one (.v (.bool false))))], [], []⟩) (fun (xvs3 : Int) (xvs8 : Bool) => k' (.exit 0) ⟨[(0, .c (.one (.v (.string vs0)))), (3, .c (.one (.v (.int .i64 xvs3)))), (8, .c (.one (.v (.bool xvs8))))], [], []⟩) vs0 m vs3 := by
  intro m; induction m with
  | zero => intros; rfl
  | succ m ih =>
    intro vs3
    simp only [iter]
    rw [f74L0_b]
    simp only [ih, f74L0]

noncomputable def f74K0 {R : Type} (n : Nat) (k' : Ex → St → Option R) : Ex → St → Option R := (blockK 0 (seqK f74e f74k n (cAt [1,1] f74c) k'))
theorem f74K0_x0 {R : Type} (n : Nat) (k : List Dt → Option R) (a0 : ByteArray)  : f74K0 n (exitK f74e [.ro] [false] true [.tmp 2] [4] [.d .str a0] k) .ret ⟨[(2, .c (.one (.v (.bool false))))], [], []⟩ =
    (k [.d .bool false]) := by kernel_rfl
theorem f74K0_x1 {R : Type} (n : Nat) (k : List Dt → Option R) (a0 : ByteArray) (vs0 : ByteArray) (xvs3 : Int) (xvs8 : Bool) : f74K0 n (exitK f74e [.ro] [false] true [.tmp 2] [4] [.d .str a0] k) (.exit 0) ⟨[(0, .c (.one (.v (.string vs0)))), (3, .c (.one (.v (.int .i64 xvs3)))), (8, .c (.one (.v (.bool xvs8))))], [], []⟩ =
    (cond (inR (ByteArray.size vs0 : Int) (1 : Int) (60 : Int))
    (cond (!(sEq vs0 (bs [110,117,108,108])))
      (cond (!(sEq vs0 (bs [116,114,117,101])))
        (k [.d .bool (!(sEq vs0 (bs [102,97,108,115,101])))])
        (k [.d .bool false]))
      (k [.d .bool false]))
    (k [.d .bool false])) := by kernel_rfl

theorem f74_run {R : Type} (n : Nat) (k : List Dt → Option R) (a0 : ByteArray) : evFn f74e f74k n f74c [.ro] [false] true [.tmp 2] [4] [.d .str a0] k =
    (f74L0 n (k [.d .bool false]) (fun (xvs3 : Int) (xvs8 : Bool) =>
    (cond (inR (ByteArray.size a0 : Int) (1 : Int) (60 : Int))
      (cond (!(sEq a0 (bs [110,117,108,108])))
        (cond (!(sEq a0 (bs [116,114,117,101])))
          (k [.d .bool (!(sEq a0 (bs [102,97,108,115,101])))])
          (k [.d .bool false]))
        (k [.d .bool false]))
      (k [.d .bool false]))) a0 n (0 : Int)) := by
  refine Eq.trans (b := (iter (fun st k => ev f74e f74k n (cAt [1,0,1,0,0] f74c) st k) n ⟨[(0, .c (.one (.v (.string a0)))), (3, .c (.one (.v (.int .i64 (0 : Int)))))], [], []⟩ (f74K0 n (exitK f74e [.ro] [false] true [.tmp 2] [4] [.d .str a0] k)))) (by kernel_rfl) ?_
  simp only [f74L0_eq, f74K0_x0, f74K0_x1]
theorem f74_spec (a0 : ByteArray) (hg : okStr a0 = true) : ∃ keep rounds, ∀ {R : Type} (k : List Dt → Option R), evFn f74e keep rounds f74c [.ro] [false] true [.tmp 2] [4] [.d .str a0] k = k [.d .bool (plainOk a0)] := by
  have hl : a0.size ≤ 9223372036854775807 := bleN hg
  refine ⟨f74k, a0.size + 1, fun k => ?_⟩
  rw [f74_run]
  refine Eq.trans (loop_idx (n := a0.size) (F := fun m i => f74L0 (a0.size + 1) _ _ a0 m i) (p := fun j => plainC (j : Int) (byteAt a0 j)) (good := _) (bad := k [.d .bool false])
    (fun m j hj => ?_) (fun m => by simp only [f74L0, idxE, cond_false]; rfl) a0.size 0 (a0.size + 1) (by omega) (by omega)) ?_
  · obtain ⟨h1, h0, hw, ht⟩ := idx hj (by omega)
    simp only [f74L0, h1, h0, hw, ht, Bool.and_self, cond_true]
    show _ = cond (plainC (j : Int) (((ByteArray.data a0).getD j 0).toNat : Int)) _ _
    generalize (((ByteArray.data a0).getD j 0).toNat : Int) = c
    unfold plainC digit
    cases letter c
    · cases ((j : Int) == (0 : Int))
      · cases decide (c ≥ (48 : Int)) <;> cases decide (c ≤ (57 : Int)) <;> cases (c == (95 : Int)) <;> cases (c == (46 : Int)) <;> cases (c == (47 : Int)) <;> cases (c == (45 : Int)) <;> rfl
      · rfl
    · rfl
  · unfold plainOk
    cases allN (fun j => plainC (j : Int) (byteAt a0 j)) 0 a0.size <;> cases inR (a0.size : Int) 1 60 <;> cases sEq a0 (bs [110,117,108,108]) <;> cases sEq a0 (bs [116,114,117,101]) <;> rfl

noncomputable def q74 : List Dt → Option (Bool × List Dt)
  | [.d .str a0] => some ((okStr a0), [.d .bool (plainOk a0)])
  | _ => none
noncomputable def s74 : Gm.Spec := Gm.Spec.of [.ro] [false] true q74
theorem good74 : Gm.Good Try.prog (74, s74) := by
  have hl : ∀ x ∈ [(16, s16), (88, s88)], Gm.Good Try.prog x := List.forall_mem_cons.2 ⟨good16, List.forall_mem_cons.2 ⟨good88, List.forall_mem_nil _⟩⟩
  refine ⟨⟨spec_ok (tab_ok.env hl) (tab.natl hl) Try.func74 (by kernel_rfl : Try.f74.body = some f74c) [4] (by kernel_rfl) ?_, _, Try.func74, by kernel_rfl, of_decide_eq_true (by kernel_rfl)⟩, Gm.Spec.of_natl _ _ _ _⟩
  intro ds outs h
  unfold q74 at h
  split at h
  · simp only [Option.some.injEq, Prod.mk.injEq] at h; obtain ⟨hg, h⟩ := h; cases h; exact f74_spec _ hg
  · cases h
/-! ### loop.example/g00465/impl.PlainOk -/
noncomputable def f80c : Code := (Try.f80.body).getD .skip
def f80k : Nat → Kp := kat [⟨[0], [], [], []⟩, ⟨[0, 5, 6], [], [], []⟩, ⟨[0, 5, 6, 7], [], [], []⟩, ⟨[0, 3, 5, 6], [], [], []⟩, ⟨[0, 5, 6, 31], [], [], []⟩, ⟨[2], [], [], []⟩, ⟨[0, 5, 6], [], [], []⟩, ⟨[2], [], [], []⟩]
noncomputable def f80e : Env := tab.env [(23, s23), (56, s56), (91, s91), (92, s92)]
noncomputable def f80L0 {R : Type} (n : Nat) (x0 : Option R) (x1 : Int → Bool → Option R) (vs0 : ByteArray) (vs5 : Int) : Nat → Int → Option R
  | 0, _ => none
  | m + 1, vs6 =>
    (cond (decide (vs6 < vs5))
      (cond ((decide ((0 : Int) ≤ vs6)) && (decide (vs6 < (ByteArray.size vs0 : Int))))
        (cond (!(letter (((ByteArray.data vs0).getD (Int.toNat vs6) 0).toNat : Int)))
          (cond (vs6 == (0 : Int))
            (x0)
            (cond ((decide ((0 : Int) ≤ vs6)) && (decide (vs6 < (ByteArray.size vs0 : Int))))
              (cond (!(digit (((ByteArray.data vs0).getD (Int.toNat vs6) 0).toNat : Int)))
                (cond ((decide ((0 : Int) ≤ vs6)) && (decide (vs6 < (ByteArray.size vs0 : Int))))
                  (cond (decide ((idxB (bs [95,46,47,45]) (((ByteArray.data vs0).getD (Int.toNat vs6) 0).toNat : Int)) < (0 : Int)))
                    (x0)
                    (f80L0 n x0 x1 vs0 vs5 m (IntKind.wrap .i64 (vs6 + (1 : Int)))))
                  none)
                (f80L0 n x0 x1 vs0 vs5 m (IntKind.wrap .i64 (vs6 + (1 : Int)))))
              none))
          (f80L0 n x0 x1 vs0 vs5 m (IntKind.wrap .i64 (vs6 + (1 : Int)))))
        none)
      (x1 vs6 (decide (vs6 < vs5))))
theorem f80L0_b {R : Type} (n : Nat) (k' : Ex → St → Option R) (vs0 : ByteArray) (vs5 : Int) (vs6 : Int) : ev f80e f80k n (cAt [1,0,1,0,0] f80c) ⟨[(0, .c (.one (.v (.string vs0)))), (5, .c (.one (.v (.int .i64 vs5)))), (6, .c (.one (.v (.int .i64 vs6))))], [], []⟩ k' =
    (cond (decide (vs6 < vs5))
    (cond ((decide ((0 : Int) ≤ vs6)) && (decide (vs6 < (ByteArray.size vs0 : Int))))
      (cond (!(letter (((ByteArray.data vs0).getD (Int.toNat vs6) 0).toNat : Int)))
        (cond (vs6 == (0 : Int))
          (k' .ret ⟨[(2, .c (.one (.v (.bool false))))], [], []⟩)
          (cond ((decide ((0 : Int) ≤ vs6)) && (decide (vs6 < (ByteArray.size vs0 : Int))))
            (cond (!(digit (((ByteArray.data vs0).getD (Int.toNat vs6) 0).toNat : Int)))
              (cond ((decide ((0 : Int) ≤ vs6)) && (decide (vs6 < (ByteArray.size vs0 : Int))))
                (cond (decide ((idxB (bs [95,46,47,45]) (((ByteArray.data vs0).getD (Int.toNat vs6) 0).toNat : Int)) < (0 : Int)))
                  (k' .ret ⟨[(2, .c (.one (.v (.bool false))))], [], []⟩)
                  (k' .normal ⟨[(0, .c (.one (.v (.string vs0)))), (5, .c (.one (.v (.int .i64 vs5)))), (6, .c (.one (.v (.int .i64 (IntKind.wrap .i64 (vs6 + (1 : Int)))))))], [], []⟩))
                none)
              (k' .normal ⟨[(0, .c (.one (.v (.string vs0)))), (5, .c (.one (.v (.int .i64 vs5)))), (6, .c (.one (.v (.int .i64 (IntKind.wrap .i64 (vs6 + (1 : Int)))))))], [], []⟩))
            none))
        (k' .normal ⟨[(0, .c (.one (.v (.string vs0)))), (5, .c (.one (.v (.int .i64 vs5)))), (6, .c (.one (.v (.int .i64 (IntKind.wrap .i64 (vs6 + (1 : Int)))))))], [], []⟩))
      none)
    (k' (.exit 0) ⟨[(0, .c (.one (.v (.string vs0)))), (5, .c (.one (.v (.int .i64 vs5)))), (6, .c (.one (.v (.int .i64 vs6)))), (7, .c (.one (.v (.bool (decide (vs6 < vs5))))))], [], []⟩)) := by kernel_rfl
theorem f80L0_eq {R : Type} (n : Nat) (k' : Ex → St → Option R) (vs0 : ByteArray) (vs5 : Int) : ∀ (m : Nat) (vs6 : Int), iter (fun st k => ev f80e f80k n (cAt [1,0,1,0,0] f80c) st k) m ⟨[(0, .c (.one (.v (.string vs0)))), (5, .c (.one (.v (.int .i64 vs5)))), (6, .c (.one (.v (.int .i64 vs6))))], [], []⟩ k' = f80L0 n (k' .ret ⟨[(2, .c (.one (.v (.bool false))))], [], []⟩) (fun (xvs6 : Int) (xvs7 : Bool) => k' (.exit 0) ⟨[(0, .c (.one (.v (.string vs0)))), (5, .c (.one (.v (.int .i64 vs5)))), (6, .c (.one (.v (.int .i64 xvs6)))), (7, .c (.one (.v (.bool xvs7))))], [], []⟩) vs0 vs5 m vs6 := by
  intro m; induction m with
  | zero => intros; rfl
  | succ m ih =>
    intro vs6
    simp only [iter]
    rw [f80L0_b]
    simp only [ih, f80L0]

noncomputable def f80K0 {R : Type} (n : Nat) (k' : Ex → St → Option R) : Ex → St → Option R := (blockK 0 (seqK f80e f80k n (cAt [1,1] f80c) k'))
theorem f80K0_x0 {R : Type} (n : Nat) (k : List Dt → Option R) (a0 : ByteArray)  : f80K0 n (exitK f80e [.ro] [false] true [.tmp 2] [4] [.d .str a0] k) .ret ⟨[(2, .c (.one (.v (.bool false))))], [], []⟩ =
    (k [.d .bool false]) := by kernel_rfl
theorem f80K0_x1 {R : Type} (n : Nat) (k : List Dt → Option R) (a0 : ByteArray) (vs0 : ByteArray) (vs5 : Int) (xvs6 : Int) (xvs7 : Bool) : f80K0 n (exitK f80e [.ro] [false] true [.tmp 2] [4] [.d .str a0] k) (.exit 0) ⟨[(0, .c (.one (.v (.string vs0)))), (5, .c (.one (.v (.int .i64 vs5)))), (6, .c (.one (.v (.int .i64 xvs6)))), (7, .c (.one (.v (.bool xvs7))))], [], []⟩ =
    (cond (inR (ByteArray.size vs0 : Int) (1 : Int) (60 : Int))
    (cond (!(sEq vs0 (bs [110,117,108,108])))
      (cond (!(sEq vs0 (bs [116,114,117,101])))
        (k [.d .bool (!(sEq vs0 (bs [102,97,108,115,101])))])
        (k [.d .bool false]))
      (k [.d .bool false]))
    (k [.d .bool false])) := by kernel_rfl

theorem f80_run {R : Type} (n : Nat) (k : List Dt → Option R) (a0 : ByteArray) : evFn f80e f80k n f80c [.ro] [false] true [.tmp 2] [4] [.d .str a0] k =
    (f80L0 n (k [.d .bool false]) (fun (xvs6 : Int) (xvs7 : Bool) =>
    (cond (inR (ByteArray.size a0 : Int) (1 : Int) (60 : Int))
      (cond (!(sEq a0 (bs [110,117,108,108])))
        (cond (!(sEq a0 (bs [116,114,117,101])))
          (k [.d .bool (!(sEq a0 (bs [102,97,108,115,101])))])
          (k [.d .bool false]))
        (k [.d .bool false]))
      (k [.d .bool false]))) a0 (ByteArray.size a0 : Int) n (0 : Int)) := by
  refine Eq.trans (b := (iter (fun st k => ev f80e f80k n (cAt [1,0,1,0,0] f80c) st k) n ⟨[(0, .c (.one (.v (.string a0)))), (5, .c (.one (.v (.int .i64 (ByteArray.size a0 : Int))))), (6, .c (.one (.v (.int .i64 (0 : Int)))))], [], []⟩ (f80K0 n (exitK f80e [.ro] [false] true [.tmp 2] [4] [.d .str a0] k)))) (by kernel_rfl) ?_
  simp only [f80L0_eq, f80K0_x0, f80K0_x1]
theorem f80_spec (a0 : ByteArray) (hg : okStr a0 = true) : ∃ keep rounds, ∀ {R : Type} (k : List Dt → Option R), evFn f80e keep rounds f80c [.ro] [false] true [.tmp 2] [4] [.d .str a0] k = k [.d .bool (plainOk a0)] := by
  have hl : a0.size ≤ 9223372036854775807 := bleN hg
  refine ⟨f80k, a0.size + 1, fun k => ?_⟩
  rw [f80_run]
  refine Eq.trans (loop_idx (n := a0.size) (F := fun m i => f80L0 (a0.size + 1) _ _ a0 (a0.size : Int) m i) (p := fun j => plainC (j : Int) (byteAt a0 j)) (good := _) (bad := k [.d .bool false])
    (fun m j hj => ?_) (fun m => by simp only [f80L0, idxE, cond_false]; rfl) a0.size 0 (a0.size + 1) (by omega) (by omega)) ?_
  · obtain ⟨h1, h0, hw, ht⟩ := idx hj (by omega)
    simp only [f80L0, h1, h0, hw, ht, Bool.and_self, cond_true, idx4 (UInt8.toNat_lt _)]
    show _ = cond (plainC (j : Int) (((ByteArray.data a0).getD j 0).toNat : Int)) _ _
    generalize (((ByteArray.data a0).getD j 0).toNat : Int) = c
    unfold plainC
    cases letter c
    · cases ((j : Int) == (0 : Int))
      · cases digit c <;> cases (c == (95 : Int)) <;> cases (c == (46 : Int)) <;> cases (c == (47 : Int)) <;> cases (c == (45 : Int)) <;> rfl
      · rfl
    · rfl
  · unfold plainOk
    cases allN (fun j => plainC (j : Int) (byteAt a0 j)) 0 a0.size <;> cases inR (a0.size : Int) 1 60 <;> cases sEq a0 (bs [110,117,108,108]) <;> cases sEq a0 (bs [116,114,117,101]) <;> rfl

noncomputable def q80 : List Dt → Option (Bool × List Dt)
  | [.d .str a0] => some ((okStr a0), [.d .bool (plainOk a0)])
  | _ => none
noncomputable def s80 : Gm.Spec := Gm.Spec.of [.ro] [false] true q80
theorem good80 : Gm.Good Try.prog (80, s80) := by
  have hl : ∀ x ∈ [(23, s23), (56, s56), (91, s91), (92, s92)], Gm.Good Try.prog x := List.forall_mem_cons.2 ⟨good23, List.forall_mem_cons.2 ⟨good56, List.forall_mem_cons.2 ⟨good91, List.forall_mem_cons.2 ⟨good92, List.forall_mem_nil _⟩⟩⟩⟩
  refine ⟨⟨spec_ok (tab_ok.env hl) (tab.natl hl) Try.func80 (by kernel_rfl : Try.f80.body = some f80c) [4] (by kernel_rfl) ?_, _, Try.func80, by kernel_rfl, of_decide_eq_true (by kernel_rfl)⟩, Gm.Spec.of_natl _ _ _ _⟩
  intro ds outs h
  unfold q80 at h
  split at h
  · simp only [Option.some.injEq, Prod.mk.injEq] at h; obtain ⟨hg, h⟩ := h; cases h; exact f80_spec _ hg
  · cases h
end Go.Proofs.Ytaeepnmdfdmgjaa

/- x -/
namespace Go.Proofs.Ytaeepnmdfdmgjaa
open Go Go.Gm
/-! ### internal/stringslite.HasPrefix -/
noncomputable def f93c : Code := (Try.f93.body).getD .skip
def f93k : Nat → Kp := kat [⟨[0, 1], [], [], []⟩, ⟨[4], [], [], []⟩]
noncomputable def f93e : Env := tab.env []
theorem f93_run {R : Type} (n : Nat) (k : List Dt → Option R) (a0 : ByteArray) (a1 : ByteArray) : evFn f93e f93k n f93c [.ro, .ro] [false] true [.tmp 4] [4] [.d .str a0, .d .str a1] k =
    (cond (decide ((ByteArray.size a0 : Int) ≥ (ByteArray.size a1 : Int)))
    (cond ((decide ((0 : Int) ≤ (ByteArray.size a1 : Int))) && (decide ((ByteArray.size a1 : Int) ≤ (ByteArray.size a0 : Int))))
      (k [.d .bool (sEq (ByteArray.extract a0 0 (Int.toNat (ByteArray.size a1 : Int))) a1)])
      none)
    (k [.d .bool false])) := by kernel_rfl
theorem f93_spec (a0 : ByteArray) (a1 : ByteArray) : ∃ keep rounds, ∀ {R : Type} (k : List Dt → Option R), evFn f93e keep rounds f93c [.ro, .ro] [false] true [.tmp 4] [4] [.d .str a0, .d .str a1] k = k [.d .bool (hasPre a0 a1)] := by
  refine ⟨f93k, 0, fun k => ?_⟩
  rw [f93_run]; unfold hasPre
  rw [Int.toNat_natCast]
  by_cases h : (a0.size : Int) ≥ (a1.size : Int)
  · have h2 : decide ((a1.size : Int) ≤ (a0.size : Int)) = true := decide_eq_true h
    have h3 : decide ((0 : Int) ≤ (a1.size : Int)) = true := decide_eq_true (by omega)
    simp only [h, h2, h3, decide_true, cond_true, Bool.and_self, Bool.true_and]
  · simp only [h, decide_false, cond_false, Bool.false_and]

noncomputable def q93 : List Dt → Option (Bool × List Dt)
  | [.d .str a0, .d .str a1] => some (true, [.d .bool (hasPre a0 a1)])
  | _ => none
noncomputable def s93 : Gm.Spec := Gm.Spec.of [.ro, .ro] [false] true q93
theorem good93 : Gm.Good Try.prog (93, s93) := by
  have hl : ∀ x ∈ ([] : List (Nat × Gm.Spec)), Gm.Good Try.prog x := fun _ h => by cases h
  refine ⟨⟨spec_ok (tab_ok.env hl) (tab.natl hl) Try.func93 (by kernel_rfl : Try.f93.body = some f93c) [4] (by kernel_rfl) ?_, _, Try.func93, by kernel_rfl, of_decide_eq_true (by kernel_rfl)⟩, Gm.Spec.of_natl _ _ _ _⟩
  intro ds outs h
  unfold q93 at h
  split at h
  · cases h; exact f93_spec _ _
  · cases h
/-! ### strings.HasPrefix -/
noncomputable def f81c : Code := (Try.f81.body).getD .skip
def f81k : Nat → Kp := kat [⟨[0, 1], [], [], []⟩, ⟨[4], [], [], []⟩]
noncomputable def f81e : Env := tab.env [(93, s93)]
theorem f81_run {R : Type} (n : Nat) (k : List Dt → Option R) (a0 : ByteArray) (a1 : ByteArray) : evFn f81e f81k n f81c [.ro, .ro] [false] true [.tmp 4] [4] [.d .str a0, .d .str a1] k =
    (k [.d .bool (hasPre a0 a1)]) := by kernel_rfl
theorem f81_spec (a0 : ByteArray) (a1 : ByteArray) : ∃ keep rounds, ∀ {R : Type} (k : List Dt → Option R), evFn f81e keep rounds f81c [.ro, .ro] [false] true [.tmp 4] [4] [.d .str a0, .d .str a1] k = k [.d .bool (hasPre a0 a1)] := by
  exact ⟨f81k, 0, fun k => f81_run 0 k a0 a1⟩

noncomputable def q81 : List Dt → Option (Bool × List Dt)
  | [.d .str a0, .d .str a1] => some (true, [.d .bool (hasPre a0 a1)])
  | _ => none
noncomputable def s81 : Gm.Spec := Gm.Spec.of [.ro, .ro] [false] true q81
theorem good81 : Gm.Good Try.prog (81, s81) := by
  have hl : ∀ x ∈ [(93, s93)], Gm.Good Try.prog x := List.forall_mem_cons.2 ⟨good93, List.forall_mem_nil _⟩
  refine ⟨⟨spec_ok (tab_ok.env hl) (tab.natl hl) Try.func81 (by kernel_rfl : Try.f81.body = some f81c) [4] (by kernel_rfl) ?_, _, Try.func81, by kernel_rfl, of_decide_eq_true (by kernel_rfl)⟩, Gm.Spec.of_natl _ _ _ _⟩
  intro ds outs h
  unfold q81 at h
  split at h
  · cases h; exact f81_spec _ _
  · cases h
/-! ### loop.example/g00465/spec.l6Ours -/
noncomputable def f75c : Code := (Try.f75.body).getD .skip
def f75k : Nat → Kp := kat [⟨[0], [], [], []⟩, ⟨[2], [], [], []⟩]
noncomputable def f75e : Env := tab.env []
theorem f75_run {R : Type} (n : Nat) (k : List Dt → Option R) (a0 : ByteArray) : evFn f75e f75k n f75c [.ro] [false] true [.tmp 2] [4] [.d .str a0] k =
    (cond (decide ((ByteArray.size a0 : Int) ≥ (5 : Int)))
    (cond (decide ((5 : Int) ≤ (ByteArray.size a0 : Int)))
      (k [.d .bool (sEq (ByteArray.extract a0 0 5) (bs [113,117,97,121,47]))])
      none)
    (k [.d .bool false])) := by kernel_rfl
theorem f75_spec (a0 : ByteArray) : ∃ keep rounds, ∀ {R : Type} (k : List Dt → Option R), evFn f75e keep rounds f75c [.ro] [false] true [.tmp 2] [4] [.d .str a0] k = k [.d .bool (ours a0)] := by
  refine ⟨f75k, 0, fun k => ?_⟩
  rw [f75_run]; unfold ours hasPre
  show _ = k [.d .bool (decide ((a0.size : Int) ≥ (5 : Int)) && sEq (a0.extract 0 5) (bs [113,117,97,121,47]))]
  by_cases h : (a0.size : Int) ≥ (5 : Int)
  · have h2 : decide ((5 : Int) ≤ (a0.size : Int)) = true := decide_eq_true h
    simp only [h, h2, decide_true, cond_true, Bool.true_and]
  · simp only [h, decide_false, cond_false, Bool.false_and]

noncomputable def q75 : List Dt → Option (Bool × List Dt)
  | [.d .str a0] => some (true, [.d .bool (ours a0)])
  | _ => none
noncomputable def s75 : Gm.Spec := Gm.Spec.of [.ro] [false] true q75
theorem good75 : Gm.Good Try.prog (75, s75) := by
  have hl : ∀ x ∈ ([] : List (Nat × Gm.Spec)), Gm.Good Try.prog x := fun _ h => by cases h
  refine ⟨⟨spec_ok (tab_ok.env hl) (tab.natl hl) Try.func75 (by kernel_rfl : Try.f75.body = some f75c) [4] (by kernel_rfl) ?_, _, Try.func75, by kernel_rfl, of_decide_eq_true (by kernel_rfl)⟩, Gm.Spec.of_natl _ _ _ _⟩
  intro ds outs h
  unfold q75 at h
  split at h
  · cases h; exact f75_spec _
  · cases h
/-! ### loop.example/g00465/impl.isMany -/
noncomputable def f40c : Code := (Try.f40.body).getD .skip
def f40k : Nat → Kp := kat [⟨[0], [], [], []⟩, ⟨[2], [], [], []⟩]
noncomputable def f40e : Env := tab.env [(23, s23)]
theorem f40_run {R : Type} (n : Nat) (k : List Dt → Option R) (a0 : Int) : evFn f40e f40k n f40c [.ro] [false] true [.tmp 2] [4] [.d (.i .i64) a0] k =
    (k [.d .bool (inR a0 (0 : Int) (1000 : Int))]) := by kernel_rfl
theorem f40_spec (a0 : Int) : ∃ keep rounds, ∀ {R : Type} (k : List Dt → Option R), evFn f40e keep rounds f40c [.ro] [false] true [.tmp 2] [4] [.d (.i .i64) a0] k = k [.d .bool (isMany a0)] := by
  exact ⟨f40k, 0, fun k => f40_run 0 k a0⟩

noncomputable def q40 : List Dt → Option (Bool × List Dt)
  | [.d (.i .i64) a0] => some (true, [.d .bool (isMany a0)])
  | _ => none
noncomputable def s40 : Gm.Spec := Gm.Spec.of [.ro] [false] true q40
theorem good40 : Gm.Good Try.prog (40, s40) := by
  have hl : ∀ x ∈ [(23, s23)], Gm.Good Try.prog x := List.forall_mem_cons.2 ⟨good23, List.forall_mem_nil _⟩
  refine ⟨⟨spec_ok (tab_ok.env hl) (tab.natl hl) Try.func40 (by kernel_rfl : Try.f40.body = some f40c) [4] (by kernel_rfl) ?_, _, Try.func40, by kernel_rfl, of_decide_eq_true (by kernel_rfl)⟩, Gm.Spec.of_natl _ _ _ _⟩
  intro ds outs h
  unfold q40 at h
  split at h
  · cases h; exact f40_spec _
  · cases h
/-! ### loop.example/g00465/spec.PaceOk -/
noncomputable def f61c : Code := (Try.f61.body).getD .skip
def f61k : Nat → Kp := kat [⟨[1], [], [], []⟩, ⟨[2], [], [], []⟩]
noncomputable def f61e : Env := tab.env [(16, s16)]
theorem f61_run {R : Type} (n : Nat) (k : List Dt → Option R) (a0 : PaceT) : evFn f61e f61k n f61c [.ro] [false] true [.tmp 2] [4] [.d .pace a0] k =
    (cond (inR (PaceT.up a0) (0 : Int) (1000 : Int))
    (cond (inR (PaceT.down a0) (0 : Int) (1000 : Int))
      (cond (inR (PaceT.upSpan a0) (0 : Int) (3600 : Int))
        (k [.d .bool (inR (PaceT.downSpan a0) (0 : Int) (3600 : Int))])
        (k [.d .bool false]))
      (k [.d .bool false]))
    (k [.d .bool false])) := by kernel_rfl
theorem f61_spec (a0 : PaceT) : ∃ keep rounds, ∀ {R : Type} (k : List Dt → Option R), evFn f61e keep rounds f61c [.ro] [false] true [.tmp 2] [4] [.d .pace a0] k = k [.d .bool (paceOk a0)] := by
  refine ⟨f61k, 0, fun k => ?_⟩
  rw [f61_run]; unfold paceOk
  try simp only [isMany]
  cases inR a0.up 0 1000 <;> cases inR a0.down 0 1000 <;> cases inR a0.upSpan 0 3600 <;> rfl

noncomputable def q61 : List Dt → Option (Bool × List Dt)
  | [.d .pace a0] => some (true, [.d .bool (paceOk a0)])
  | _ => none
noncomputable def s61 : Gm.Spec := Gm.Spec.of [.ro] [false] true q61
theorem good61 : Gm.Good Try.prog (61, s61) := by
  have hl : ∀ x ∈ [(16, s16)], Gm.Good Try.prog x := List.forall_mem_cons.2 ⟨good16, List.forall_mem_nil _⟩
  refine ⟨⟨spec_ok (tab_ok.env hl) (tab.natl hl) Try.func61 (by kernel_rfl : Try.f61.body = some f61c) [4] (by kernel_rfl) ?_, _, Try.func61, by kernel_rfl, of_decide_eq_true (by kernel_rfl)⟩, Gm.Spec.of_natl _ _ _ _⟩
  intro ds outs h
  unfold q61 at h
  split at h
  · cases h; exact f61_spec _
  · cases h
/-! ### loop.example/g00465/impl.PaceOk -/
noncomputable def f66c : Code := (Try.f66.body).getD .skip
def f66k : Nat → Kp := kat [⟨[1], [], [], []⟩, ⟨[2], [], [], []⟩]
noncomputable def f66e : Env := tab.env [(23, s23), (40, s40)]
theorem f66_run {R : Type} (n : Nat) (k : List Dt → Option R) (a0 : PaceT) : evFn f66e f66k n f66c [.ro] [false] true [.tmp 2] [4] [.d .pace a0] k =
    (cond (isMany (PaceT.up a0))
    (cond (isMany (PaceT.down a0))
      (cond (inR (PaceT.upSpan a0) (0 : Int) (3600 : Int))
        (k [.d .bool (inR (PaceT.downSpan a0) (0 : Int) (3600 : Int))])
        (k [.d .bool false]))
      (k [.d .bool false]))
    (k [.d .bool false])) := by kernel_rfl
theorem f66_spec (a0 : PaceT) : ∃ keep rounds, ∀ {R : Type} (k : List Dt → Option R), evFn f66e keep rounds f66c [.ro] [false] true [.tmp 2] [4] [.d .pace a0] k = k [.d .bool (paceOk a0)] := by
  refine ⟨f66k, 0, fun k => ?_⟩
  rw [f66_run]; unfold paceOk
  try simp only [isMany]
  cases inR a0.up 0 1000 <;> cases inR a0.down 0 1000 <;> cases inR a0.upSpan 0 3600 <;> rfl

noncomputable def q66 : List Dt → Option (Bool × List Dt)
  | [.d .pace a0] => some (true, [.d .bool (paceOk a0)])
  | _ => none
noncomputable def s66 : Gm.Spec := Gm.Spec.of [.ro] [false] true q66
theorem good66 : Gm.Good Try.prog (66, s66) := by
  have hl : ∀ x ∈ [(23, s23), (40, s40)], Gm.Good Try.prog x := List.forall_mem_cons.2 ⟨good23, List.forall_mem_cons.2 ⟨good40, List.forall_mem_nil _⟩⟩
  refine ⟨⟨spec_ok (tab_ok.env hl) (tab.natl hl) Try.func66 (by kernel_rfl : Try.f66.body = some f66c) [4] (by kernel_rfl) ?_, _, Try.func66, by kernel_rfl, of_decide_eq_true (by kernel_rfl)⟩, Gm.Spec.of_natl _ _ _ _⟩
  intro ds outs h
  unfold q66 at h
  split at h
  · cases h; exact f66_spec _
  · cases h
/-! ### loop.example/g00465/spec.MetricOk -/
noncomputable def f73c : Code := (Try.f73.body).getD .skip
def f73k : Nat → Kp := kat [⟨[1], [], [], []⟩, ⟨[2], [], [], []⟩]
noncomputable def f73e : Env := tab.env [(16, s16), (48, s48)]
theorem f73_run {R : Type} (n : Nat) (k : List Dt → Option R) (a0 : MetricT) : evFn f73e f73k n f73c [.ro] [false] true [.tmp 2] [4] [.d .metric a0] k =
    (cond (okStr (MetricT.name a0))
    (cond (nameOk (MetricT.name a0))
      (cond (inR (MetricT.kind a0) (1 : Int) (3 : Int))
        (k [.d .bool (inR (MetricT.goal a0) (1 : Int) (1000000 : Int))])
        (k [.d .bool false]))
      (k [.d .bool false]))
    none) := by kernel_rfl
theorem f73_spec (a0 : MetricT) (hg : sm_metric a0 = true) : ∃ keep rounds, ∀ {R : Type} (k : List Dt → Option R), evFn f73e keep rounds f73c [.ro] [false] true [.tmp 2] [4] [.d .metric a0] k = k [.d .bool (metricOk a0)] := by
  simp only [sm_metric, Bool.and_eq_true] at hg
  refine ⟨f73k, 0, fun k => ?_⟩
  rw [f73_run, okStr_sm hg.1]; unfold metricOk
  cases nameOk a0.name <;> cases inR a0.kind 1 3 <;> rfl

noncomputable def q73 : List Dt → Option (Bool × List Dt)
  | [.d .metric a0] => some ((sm_metric a0), [.d .bool (metricOk a0)])
  | _ => none
noncomputable def s73 : Gm.Spec := Gm.Spec.of [.ro] [false] true q73
theorem good73 : Gm.Good Try.prog (73, s73) := by
  have hl : ∀ x ∈ [(16, s16), (48, s48)], Gm.Good Try.prog x := List.forall_mem_cons.2 ⟨good16, List.forall_mem_cons.2 ⟨good48, List.forall_mem_nil _⟩⟩
  refine ⟨⟨spec_ok (tab_ok.env hl) (tab.natl hl) Try.func73 (by kernel_rfl : Try.f73.body = some f73c) [4] (by kernel_rfl) ?_, _, Try.func73, by kernel_rfl, of_decide_eq_true (by kernel_rfl)⟩, Gm.Spec.of_natl _ _ _ _⟩
  intro ds outs h
  unfold q73 at h
  split at h
  · simp only [Option.some.injEq, Prod.mk.injEq] at h; obtain ⟨hg, h⟩ := h; cases h; exact f73_spec _ hg
  · cases h
/-! ### loop.example/g00465/impl.MetricOk -/
noncomputable def f65c : Code := (Try.f65.body).getD .skip
def f65k : Nat → Kp := kat [⟨[1], [], [], []⟩, ⟨[2], [], [], []⟩]
noncomputable def f65e : Env := tab.env [(23, s23), (39, s39)]
theorem f65_run {R : Type} (n : Nat) (k : List Dt → Option R) (a0 : MetricT) : evFn f65e f65k n f65c [.ro] [false] true [.tmp 2] [4] [.d .metric a0] k =
    (cond (okStr (MetricT.name a0))
    (cond (nameOk (MetricT.name a0))
      (cond (inR (MetricT.kind a0) (1 : Int) (3 : Int))
        (k [.d .bool (inR (MetricT.goal a0) (1 : Int) (1000000 : Int))])
        (k [.d .bool false]))
      (k [.d .bool false]))
    none) := by kernel_rfl
theorem f65_spec (a0 : MetricT) (hg : sm_metric a0 = true) : ∃ keep rounds, ∀ {R : Type} (k : List Dt → Option R), evFn f65e keep rounds f65c [.ro] [false] true [.tmp 2] [4] [.d .metric a0] k = k [.d .bool (metricOk a0)] := by
  simp only [sm_metric, Bool.and_eq_true] at hg
  refine ⟨f65k, 0, fun k => ?_⟩
  rw [f65_run, okStr_sm hg.1]; unfold metricOk
  cases nameOk a0.name <;> cases inR a0.kind 1 3 <;> rfl

noncomputable def q65 : List Dt → Option (Bool × List Dt)
  | [.d .metric a0] => some ((sm_metric a0), [.d .bool (metricOk a0)])
  | _ => none
noncomputable def s65 : Gm.Spec := Gm.Spec.of [.ro] [false] true q65
theorem good65 : Gm.Good Try.prog (65, s65) := by
  have hl : ∀ x ∈ [(23, s23), (39, s39)], Gm.Good Try.prog x := List.forall_mem_cons.2 ⟨good23, List.forall_mem_cons.2 ⟨good39, List.forall_mem_nil _⟩⟩
  refine ⟨⟨spec_ok (tab_ok.env hl) (tab.natl hl) Try.func65 (by kernel_rfl : Try.f65.body = some f65c) [4] (by kernel_rfl) ?_, _, Try.func65, by kernel_rfl, of_decide_eq_true (by kernel_rfl)⟩, Gm.Spec.of_natl _ _ _ _⟩
  intro ds outs h
  unfold q65 at h
  split at h
  · simp only [Option.some.injEq, Prod.mk.injEq] at h; obtain ⟨hg, h⟩ := h; cases h; exact f65_spec _ hg
  · cases h
/-! ### loop.example/g00465/spec.l6Notes -/
noncomputable def f62c : Code := (Try.f62.body).getD .skip
def f62k : Nat → Kp := kat [⟨[0], [], [], []⟩, ⟨[0, 3], [], [], []⟩, ⟨[0, 3, 7], [], [], []⟩, ⟨[0, 3], [], [], []⟩, ⟨[0, 3, 60], [], [], []⟩, ⟨[2], [], [], []⟩, ⟨[2], [], [], []⟩]
noncomputable def f62e : Env := tab.env [(74, s74), (75, s75), (76, s76)]
noncomputable def f62L0 {R : Type} (n : Nat) (x0 : Option R) (x1 : Int → Bool → Option R) (vs0 : List NoteT) : Nat → Int → Option R
  | 0, _ => none
  | m + 1, vs3 =>
    (cond (decide (vs3 < (vs0.length : Int)))
      (cond ((decide ((0 : Int) ≤ vs3)) && (decide (vs3 < (vs0.length : Int))))
        (cond (okStr (NoteT.key (atI (t := .note) vs0 (Int.toNat vs3))))
          (cond (!(plainOk (NoteT.key (atI (t := .note) vs0 (Int.toNat vs3)))))
            (x0)
            (cond ((decide ((0 : Int) ≤ vs3)) && (decide (vs3 < (vs0.length : Int))))
              (cond (ours (NoteT.key (atI (t := .note) vs0 (Int.toNat vs3))))
                (x0)
                (cond ((decide ((0 : Int) ≤ vs3)) && (decide (vs3 < (vs0.length : Int))))
                  (cond (okStr (NoteT.text (atI (t := .note) vs0 (Int.toNat vs3))))
                    (cond (!(textOk (NoteT.text (atI (t := .note) vs0 (Int.toNat vs3)))))
                      (x0)
                      (cond ((decide ((0 : Int) ≤ vs3)) && (decide (vs3 < (vs0.length : Int))))
                        (cond (decide ((ByteArray.size (NoteT.text (atI (t := .note) vs0 (Int.toNat vs3))) : Int) > (40 : Int)))
                          (x0)
                          (cond (decide (vs3 > (0 : Int)))
                            (cond ((decide ((0 : Int) ≤ (IntKind.wrap .i64 (vs3 - (1 : Int))))) && (decide ((IntKind.wrap .i64 (vs3 - (1 : Int))) < (vs0.length : Int))))
                              (cond ((decide ((0 : Int) ≤ vs3)) && (decide (vs3 < (vs0.length : Int))))
                                (cond (!(sLt (NoteT.key (atI (t := .note) vs0 (Int.toNat (IntKind.wrap .i64 (vs3 - (1 : Int)))))) (NoteT.key (atI (t := .note) vs0 (Int.toNat vs3)))))
                                  (x0)
                                  (f62L0 n x0 x1 vs0 m (IntKind.wrap .i64 (vs3 + (1 : Int)))))
                                none)
                              none)
                            (f62L0 n x0 x1 vs0 m (IntKind.wrap .i64 (vs3 + (1 : Int))))))
                        none))
                    none)
                  none))
              none))
          none)
        none)
      (x1 vs3 (decide (vs3 < (vs0.length : Int)))))
theorem f62L0_b {R : Type} (n : Nat) (k' : Ex → St → Option R) (vs0 : List NoteT) (vs3 : Int) : ev f62e f62k n (cAt [1,0,1,0,0] f62c) ⟨[(0, .c (.one (.ro .note vs0))), (3, .c (.one (.v (.int .i64 vs3))))], [], []⟩ k' =
    (cond (decide (vs3 < (vs0.length : Int)))
    (cond ((decide ((0 : Int) ≤ vs3)) && (decide (vs3 < (vs0.length : Int))))
      (cond (okStr (NoteT.key (atI (t := .note) vs0 (Int.toNat vs3))))
        (cond (!(plainOk (NoteT.key (atI (t := .note) vs0 (Int.toNat vs3)))))
          (k' .ret ⟨[(2, .c (.one (.v (.bool false))))], [], []⟩)
          (cond ((decide ((0 : Int) ≤ vs3)) && (decide (vs3 < (vs0.length : Int))))
            (cond (ours (NoteT.key (atI (t := .note) vs0 (Int.toNat vs3))))
              (k' .ret ⟨[(2, .c (.one (.v (.bool false))))], [], []⟩)
              (cond ((decide ((0 : Int) ≤ vs3)) && (decide (vs3 < (vs0.length : Int))))
                (cond (okStr (NoteT.text (atI (t := .note) vs0 (Int.toNat vs3))))
                  (cond (!(textOk (NoteT.text (atI (t := .note) vs0 (Int.toNat vs3)))))
                    (k' .ret ⟨[(2, .c (.one (.v (.bool false))))], [], []⟩)
                    (cond ((decide ((0 : Int) ≤ vs3)) && (decide (vs3 < (vs0.length : Int))))
                      (cond (decide ((ByteArray.size (NoteT.text (atI (t := .note) vs0 (Int.toNat vs3))) : Int) > (40 : Int)))
                        (k' .ret ⟨[(2, .c (.one (.v (.bool false))))], [], []⟩)
                        (cond (decide (vs3 > (0 : Int)))
                          (cond ((decide ((0 : Int) ≤ (IntKind.wrap .i64 (vs3 - (1 : Int))))) && (decide ((IntKind.wrap .i64 (vs3 - (1 : Int))) < (vs0.length : Int))))
                            (cond ((decide ((0 : Int) ≤ vs3)) && (decide (vs3 < (vs0.length : Int))))
                              (cond (!(sLt (NoteT.key (atI (t := .note) vs0 (Int.toNat (IntKind.wrap .i64 (vs3 - (1 : Int)))))) (NoteT.key (atI (t := .note) vs0 (Int.toNat vs3)))))
                                (k' .ret ⟨[(2, .c (.one (.v (.bool false))))], [], []⟩)
                                (k' .normal ⟨[(0, .c (.one (.ro .note vs0))), (3, .c (.one (.v (.int .i64 (IntKind.wrap .i64 (vs3 + (1 : Int)))))))], [], []⟩))
                              none)
                            none)
                          (k' .normal ⟨[(0, .c (.one (.ro .note vs0))), (3, .c (.one (.v (.int .i64 (IntKind.wrap .i64 (vs3 + (1 : Int)))))))], [], []⟩)))
                      none))
                  none)
                none))
            none))
        none)
      none)
    (k' (.exit 0) ⟨[(0, .c (.one (.ro .note vs0))), (3, .c (.one (.v (.int .i64 vs3)))), (7, .c (.one (.v (.bool (decide (vs3 < (vs0.length : Int)))))))], [], []⟩)) := by kernel_rfl
theorem f62L0_eq {R : Type} (n : Nat) (k' : Ex → St → Option R) (vs0 : List NoteT) : ∀ (m : Nat) (vs3 : Int), iter (fun st k => ev f62e f62k n (cAt [1,0,1,0,0] f62c) st k) m ⟨[(0, .c (.one (.ro .note vs0))), (3, .c (.one (.v (.int .i64 vs3))))], [], []⟩ k' = f62L0 n (k' .ret ⟨[(2, .c (.one (.v (.bool false))))], [], []⟩) (fun (xvs3 : Int) (xvs7 : Bool) => k' (.exit 0) ⟨[(0, .c (.one (.ro .note vs0))), (3, .c (.one (.v (.int .i64 xvs3)))), (7, .c (.one (.v (.bool xvs7))))], [], []⟩) vs0 m vs3 := by
  intro m; induction m with
  | zero => intros; rfl
  | succ m ih =>
    intro vs3
    simp only [iter]
    rw [f62L0_b]
    simp only [ih, f62L0]

noncomputable def f62K0 {R : Type} (n : Nat) (k' : Ex → St → Option R) : Ex → St → Option R := (blockK 0 (seqK f62e f62k n (cAt [1,1] f62c) k'))
theorem f62K0_x0 {R : Type} (n : Nat) (k : List Dt → Option R) (a0 : List NoteT)  : f62K0 n (exitK f62e [.ro] [false] true [.tmp 2] [4] [.d (.sl .note) a0] k) .ret ⟨[(2, .c (.one (.v (.bool false))))], [], []⟩ =
    (k [.d .bool false]) := by kernel_rfl
theorem f62K0_x1 {R : Type} (n : Nat) (k : List Dt → Option R) (a0 : List NoteT) (vs0 : List NoteT) (xvs3 : Int) (xvs7 : Bool) : f62K0 n (exitK f62e [.ro] [false] true [.tmp 2] [4] [.d (.sl .note) a0] k) (.exit 0) ⟨[(0, .c (.one (.ro .note vs0))), (3, .c (.one (.v (.int .i64 xvs3)))), (7, .c (.one (.v (.bool xvs7))))], [], []⟩ =
    (k [.d .bool (decide ((vs0.length : Int) ≤ (4 : Int)))]) := by kernel_rfl

theorem f62_run {R : Type} (n : Nat) (k : List Dt → Option R) (a0 : List NoteT) : evFn f62e f62k n f62c [.ro] [false] true [.tmp 2] [4] [.d (.sl .note) a0] k =
    (f62L0 n (k [.d .bool false]) (fun (xvs3 : Int) (xvs7 : Bool) =>
    (k [.d .bool (decide ((a0.length : Int) ≤ (4 : Int)))])) a0 n (0 : Int)) := by
  refine Eq.trans (b := (iter (fun st k => ev f62e f62k n (cAt [1,0,1,0,0] f62c) st k) n ⟨[(0, .c (.one (.ro .note a0))), (3, .c (.one (.v (.int .i64 (0 : Int)))))], [], []⟩ (f62K0 n (exitK f62e [.ro] [false] true [.tmp 2] [4] [.d (.sl .note) a0] k)))) (by kernel_rfl) ?_
  simp only [f62L0_eq, f62K0_x0, f62K0_x1]
theorem f62_spec (a0 : List NoteT) (hg : smL sm_note a0 = true) : ∃ keep rounds, ∀ {R : Type} (k : List Dt → Option R), evFn f62e keep rounds f62c [.ro] [false] true [.tmp 2] [4] [.d (.sl .note) a0] k = k [.d .bool (notesOk a0)] := by
  have hl := smL_len hg
  refine ⟨f62k, a0.length + 1, fun {R} k => ?_⟩
  rw [f62_run]
  refine Eq.trans (loop_idx (n := a0.length) (F := fun m i => f62L0 (a0.length + 1) _ _ a0 m i) (p := noteC a0) (good := k [.d .bool (decide ((a0.length : Int) ≤ (4 : Int)))]) (bad := k [.d .bool false])
    (fun m j hj => ?_) (fun m => by simp only [f62L0, idxE, cond_false]) (a0.length) 0 (a0.length + 1) (by omega) (by omega)) ?_
  · obtain ⟨h1, h0, hw, ht⟩ := idx hj (by omega)
    have hx := smL_at (t := .note) hg hj
    simp only [sm_note, Bool.and_eq_true] at hx
    simp only [f62L0, h1, h0, hw, ht, okStr_sm hx.1, okStr_sm hx.2, ours, Bool.and_self, cond_true]
    unfold noteC
    by_cases hz : (j : Int) > 0
    · obtain ⟨h2, h3, _, h5⟩ := idx (show j - 1 < a0.length by omega) (by omega)
      simp only [hz, decide_true, cond_true, idxM hj (by omega) (by omega), h2, h3, h5, Bool.and_self]
      cases plainOk (atI (t := .note) a0 j).key <;> cases hasPre (atI (t := .note) a0 j).key (bs [113,117,97,121,47]) <;> cases textOk (atI (t := .note) a0 j).text <;> cases decide (((atI (t := .note) a0 j).text.size : Int) > 40) <;> cases sLt (atI (t := .note) a0 (j - 1)).key (atI (t := .note) a0 j).key <;> rfl
    · simp only [hz, decide_false, cond_false]
      cases plainOk (atI (t := .note) a0 j).key <;> cases hasPre (atI (t := .note) a0 j).key (bs [113,117,97,121,47]) <;> cases textOk (atI (t := .note) a0 j).text <;> cases decide (((atI (t := .note) a0 j).text.size : Int) > 40) <;> rfl
  · unfold notesOk
    cases allN (noteC a0) 0 a0.length <;> rfl

noncomputable def q62 : List Dt → Option (Bool × List Dt)
  | [.d (.sl .note) a0] => some ((smL sm_note a0), [.d .bool (notesOk a0)])
  | _ => none
noncomputable def s62 : Gm.Spec := Gm.Spec.of [.ro] [false] true q62
theorem good62 : Gm.Good Try.prog (62, s62) := by
  have hl : ∀ x ∈ [(74, s74), (75, s75), (76, s76)], Gm.Good Try.prog x := List.forall_mem_cons.2 ⟨good74, List.forall_mem_cons.2 ⟨good75, List.forall_mem_cons.2 ⟨good76, List.forall_mem_nil _⟩⟩⟩
  refine ⟨⟨spec_ok (tab_ok.env hl) (tab.natl hl) Try.func62 (by kernel_rfl : Try.f62.body = some f62c) [4] (by kernel_rfl) ?_, _, Try.func62, by kernel_rfl, of_decide_eq_true (by kernel_rfl)⟩, Gm.Spec.of_natl _ _ _ _⟩
  intro ds outs h
  unfold q62 at h
  split at h
  · simp only [Option.some.injEq, Prod.mk.injEq] at h; obtain ⟨hg, h⟩ := h; cases h; exact f62_spec _ hg
  · cases h
/-! ### loop.example/g00465/impl.notesOk -/
noncomputable def f67c : Code := (Try.f67.body).getD .skip
def f67k : Nat → Kp := kat [⟨[0], [], [], []⟩, ⟨[0, 5, 6, 7], [], [], []⟩, ⟨[0, 5, 6, 7, 8], [], [], []⟩, ⟨[0, 3, 4, 5, 6, 7], [], [], []⟩, ⟨[0, 5, 6, 7, 47], [], [], []⟩, ⟨[2], [], [], []⟩, ⟨[0, 5, 6, 7], [], [], []⟩, ⟨[2], [], [], []⟩]
noncomputable def f67e : Env := tab.env [(80, s80), (81, s81), (82, s82)]
noncomputable def f67L0 {R : Type} (n : Nat) (x0 : Option R) (x1 : Int → Bool → Option R) (vs0 : List NoteT) (vs5 : List NoteT) (vs6 : Int) : Nat → Int → Option R
  | 0, _ => none
  | m + 1, vs7 =>
    (cond (decide (vs7 < vs6))
      (cond ((decide ((0 : Int) ≤ vs7)) && (decide (vs7 < (vs5.length : Int))))
        (cond (okStr (NoteT.key (atI (t := .note) vs5 (Int.toNat vs7))))
          (cond (!(plainOk (NoteT.key (atI (t := .note) vs5 (Int.toNat vs7)))))
            (x0)
            (cond (hasPre (NoteT.key (atI (t := .note) vs5 (Int.toNat vs7))) (bs [113,117,97,121,47]))
              (x0)
              (cond (okStr (NoteT.text (atI (t := .note) vs5 (Int.toNat vs7))))
                (cond (!(textOk (NoteT.text (atI (t := .note) vs5 (Int.toNat vs7)))))
                  (x0)
                  (cond (decide ((ByteArray.size (NoteT.text (atI (t := .note) vs5 (Int.toNat vs7))) : Int) > (40 : Int)))
                    (x0)
                    (cond (decide (vs7 > (0 : Int)))
                      (cond ((decide ((0 : Int) ≤ (IntKind.wrap .i64 (vs7 - (1 : Int))))) && (decide ((IntKind.wrap .i64 (vs7 - (1 : Int))) < (vs0.length : Int))))
                        (cond (!(sLt (NoteT.key (atI (t := .note) vs0 (Int.toNat (IntKind.wrap .i64 (vs7 - (1 : Int)))))) (NoteT.key (atI (t := .note) vs5 (Int.toNat vs7)))))
                          (x0)
                          (f67L0 n x0 x1 vs0 vs5 vs6 m (IntKind.wrap .i64 (vs7 + (1 : Int)))))
                        none)
                      (f67L0 n x0 x1 vs0 vs5 vs6 m (IntKind.wrap .i64 (vs7 + (1 : Int)))))))
                none)))
          none)
        none)
      (x1 vs7 (decide (vs7 < vs6))))
theorem f67L0_b {R : Type} (n : Nat) (k' : Ex → St → Option R) (vs0 : List NoteT) (vs5 : List NoteT) (vs6 : Int) (vs7 : Int) : ev f67e f67k n (cAt [1,0,1,0,0] f67c) ⟨[(0, .c (.one (.ro .note vs0))), (5, .c (.one (.ro .note vs5))), (6, .c (.one (.v (.int .i64 vs6)))), (7, .c (.one (.v (.int .i64 vs7))))], [], []⟩ k' =
    (cond (decide (vs7 < vs6))
    (cond ((decide ((0 : Int) ≤ vs7)) && (decide (vs7 < (vs5.length : Int))))
      (cond (okStr (NoteT.key (atI (t := .note) vs5 (Int.toNat vs7))))
        (cond (!(plainOk (NoteT.key (atI (t := .note) vs5 (Int.toNat vs7)))))
          (k' .ret ⟨[(2, .c (.one (.v (.bool false))))], [], []⟩)
          (cond (hasPre (NoteT.key (atI (t := .note) vs5 (Int.toNat vs7))) (bs [113,117,97,121,47]))
            (k' .ret ⟨[(2, .c (.one (.v (.bool false))))], [], []⟩)
            (cond (okStr (NoteT.text (atI (t := .note) vs5 (Int.toNat vs7))))
              (cond (!(textOk (NoteT.text (atI (t := .note) vs5 (Int.toNat vs7)))))
                (k' .ret ⟨[(2, .c (.one (.v (.bool false))))], [], []⟩)
                (cond (decide ((ByteArray.size (NoteT.text (atI (t := .note) vs5 (Int.toNat vs7))) : Int) > (40 : Int)))
                  (k' .ret ⟨[(2, .c (.one (.v (.bool false))))], [], []⟩)
                  (cond (decide (vs7 > (0 : Int)))
                    (cond ((decide ((0 : Int) ≤ (IntKind.wrap .i64 (vs7 - (1 : Int))))) && (decide ((IntKind.wrap .i64 (vs7 - (1 : Int))) < (vs0.length : Int))))
                      (cond (!(sLt (NoteT.key (atI (t := .note) vs0 (Int.toNat (IntKind.wrap .i64 (vs7 - (1 : Int)))))) (NoteT.key (atI (t := .note) vs5 (Int.toNat vs7)))))
                        (k' .ret ⟨[(2, .c (.one (.v (.bool false))))], [], []⟩)
                        (k' .normal ⟨[(0, .c (.one (.ro .note vs0))), (5, .c (.one (.ro .note vs5))), (6, .c (.one (.v (.int .i64 vs6)))), (7, .c (.one (.v (.int .i64 (IntKind.wrap .i64 (vs7 + (1 : Int)))))))], [], []⟩))
                      none)
                    (k' .normal ⟨[(0, .c (.one (.ro .note vs0))), (5, .c (.one (.ro .note vs5))), (6, .c (.one (.v (.int .i64 vs6)))), (7, .c (.one (.v (.int .i64 (IntKind.wrap .i64 (vs7 + (1 : Int)))))))], [], []⟩))))
              none)))
        none)
      none)
    (k' (.exit 0) ⟨[(0, .c (.one (.ro .note vs0))), (5, .c (.one (.ro .note vs5))), (6, .c (.one (.v (.int .i64 vs6)))), (7, .c (.one (.v (.int .i64 vs7)))), (8, .c (.one (.v (.bool (decide (vs7 < vs6))))))], [], []⟩)) := by kernel_rfl
theorem f67L0_eq {R : Type} (n : Nat) (k' : Ex → St → Option R) (vs0 : List NoteT) (vs5 : List NoteT) (vs6 : Int) : ∀ (m : Nat) (vs7 : Int), iter (fun st k => ev f67e f67k n (cAt [1,0,1,0,0] f67c) st k) m ⟨[(0, .c (.one (.ro .note vs0))), (5, .c (.one (.ro .note vs5))), (6, .c (.one (.v (.int .i64 vs6)))), (7, .c (.one (.v (.int .i64 vs7))))], [], []⟩ k' = f67L0 n (k' .ret ⟨[(2, .c (.one (.v (.bool false))))], [], []⟩) (fun (xvs7 : Int) (xvs8 : Bool) => k' (.exit 0) ⟨[(0, .c (.one (.ro .note vs0))), (5, .c (.one (.ro .note vs5))), (6, .c (.one (.v (.int .i64 vs6)))), (7, .c (.one (.v (.int .i64 xvs7)))), (8, .c (.one (.v (.bool xvs8))))], [], []⟩) vs0 vs5 vs6 m vs7 := by
  intro m; induction m with
  | zero => intros; rfl
  | succ m ih =>
    intro vs7
    simp only [iter]
    rw [f67L0_b]
    simp only [ih, f67L0]

noncomputable def f67K0 {R : Type} (n : Nat) (k' : Ex → St → Option R) : Ex → St → Option R := (blockK 0 (seqK f67e f67k n (cAt [1,1] f67c) k'))
theorem f67K0_x0 {R : Type} (n : Nat) (k : List Dt → Option R) (a0 : List NoteT)  : f67K0 n (exitK f67e [.ro] [false] true [.tmp 2] [4] [.d (.sl .note) a0] k) .ret ⟨[(2, .c (.one (.v (.bool false))))], [], []⟩ =
    (k [.d .bool false]) := by kernel_rfl
theorem f67K0_x1 {R : Type} (n : Nat) (k : List Dt → Option R) (a0 : List NoteT) (vs0 : List NoteT) (vs5 : List NoteT) (vs6 : Int) (xvs7 : Int) (xvs8 : Bool) : f67K0 n (exitK f67e [.ro] [false] true [.tmp 2] [4] [.d (.sl .note) a0] k) (.exit 0) ⟨[(0, .c (.one (.ro .note vs0))), (5, .c (.one (.ro .note vs5))), (6, .c (.one (.v (.int .i64 vs6)))), (7, .c (.one (.v (.int .i64 xvs7)))), (8, .c (.one (.v (.bool xvs8))))], [], []⟩ =
    (k [.d .bool (decide ((vs0.length : Int) ≤ (4 : Int)))]) := by kernel_rfl

theorem f67_run {R : Type} (n : Nat) (k : List Dt → Option R) (a0 : List NoteT) : evFn f67e f67k n f67c [.ro] [false] true [.tmp 2] [4] [.d (.sl .note) a0] k =
    (f67L0 n (k [.d .bool false]) (fun (xvs7 : Int) (xvs8 : Bool) =>
    (k [.d .bool (decide ((a0.length : Int) ≤ (4 : Int)))])) a0 a0 (a0.length : Int) n (0 : Int)) := by
  refine Eq.trans (b := (iter (fun st k => ev f67e f67k n (cAt [1,0,1,0,0] f67c) st k) n ⟨[(0, .c (.one (.ro .note a0))), (5, .c (.one (.ro .note a0))), (6, .c (.one (.v (.int .i64 (a0.length : Int))))), (7, .c (.one (.v (.int .i64 (0 : Int)))))], [], []⟩ (f67K0 n (exitK f67e [.ro] [false] true [.tmp 2] [4] [.d (.sl .note) a0] k)))) (by kernel_rfl) ?_
  simp only [f67L0_eq, f67K0_x0, f67K0_x1]
theorem f67_spec (a0 : List NoteT) (hg : smL sm_note a0 = true) : ∃ keep rounds, ∀ {R : Type} (k : List Dt → Option R), evFn f67e keep rounds f67c [.ro] [false] true [.tmp 2] [4] [.d (.sl .note) a0] k = k [.d .bool (notesOk a0)] := by
  have hl := smL_len hg
  refine ⟨f67k, a0.length + 1, fun {R} k => ?_⟩
  rw [f67_run]
  refine Eq.trans (loop_idx (n := a0.length) (F := fun m i => f67L0 (a0.length + 1) _ _ a0 a0 (a0.length : Int) m i) (p := noteC a0) (good := k [.d .bool (decide ((a0.length : Int) ≤ (4 : Int)))]) (bad := k [.d .bool false])
    (fun m j hj => ?_) (fun m => by simp only [f67L0, idxE, cond_false]) (a0.length) 0 (a0.length + 1) (by omega) (by omega)) ?_
  · obtain ⟨h1, h0, hw, ht⟩ := idx hj (by omega)
    have hx := smL_at (t := .note) hg hj
    simp only [sm_note, Bool.and_eq_true] at hx
    simp only [f67L0, h1, h0, hw, ht, okStr_sm hx.1, okStr_sm hx.2, Bool.and_self, cond_true]
    unfold noteC
    by_cases hz : (j : Int) > 0
    · obtain ⟨h2, h3, _, h5⟩ := idx (show j - 1 < a0.length by omega) (by omega)
      simp only [hz, decide_true, cond_true, idxM hj (by omega) (by omega), h2, h3, h5, Bool.and_self]
      cases plainOk (atI (t := .note) a0 j).key <;> cases hasPre (atI (t := .note) a0 j).key (bs [113,117,97,121,47]) <;> cases textOk (atI (t := .note) a0 j).text <;> cases decide (((atI (t := .note) a0 j).text.size : Int) > 40) <;> cases sLt (atI (t := .note) a0 (j - 1)).key (atI (t := .note) a0 j).key <;> rfl
    · simp only [hz, decide_false, cond_false]
      cases plainOk (atI (t := .note) a0 j).key <;> cases hasPre (atI (t := .note) a0 j).key (bs [113,117,97,121,47]) <;> cases textOk (atI (t := .note) a0 j).text <;> cases decide (((atI (t := .note) a0 j).text.size : Int) > 40) <;> rfl
  · unfold notesOk
    cases allN (noteC a0) 0 a0.length <;> rfl

noncomputable def q67 : List Dt → Option (Bool × List Dt)
  | [.d (.sl .note) a0] => some ((smL sm_note a0), [.d .bool (notesOk a0)])
  | _ => none
noncomputable def s67 : Gm.Spec := Gm.Spec.of [.ro] [false] true q67
theorem good67 : Gm.Good Try.prog (67, s67) := by
  have hl : ∀ x ∈ [(80, s80), (81, s81), (82, s82)], Gm.Good Try.prog x := List.forall_mem_cons.2 ⟨good80, List.forall_mem_cons.2 ⟨good81, List.forall_mem_cons.2 ⟨good82, List.forall_mem_nil _⟩⟩⟩
  refine ⟨⟨spec_ok (tab_ok.env hl) (tab.natl hl) Try.func67 (by kernel_rfl : Try.f67.body = some f67c) [4] (by kernel_rfl) ?_, _, Try.func67, by kernel_rfl, of_decide_eq_true (by kernel_rfl)⟩, Gm.Spec.of_natl _ _ _ _⟩
  intro ds outs h
  unfold q67 at h
  split at h
  · simp only [Option.some.injEq, Prod.mk.injEq] at h; obtain ⟨hg, h⟩ := h; cases h; exact f67_spec _ hg
  · cases h
/-! ### loop.example/g00465/spec.l6Metrics -/
noncomputable def f60c : Code := (Try.f60.body).getD .skip
def f60k : Nat → Kp := kat [⟨[0], [], [], []⟩, ⟨[0, 3], [], [], []⟩, ⟨[0, 3, 7], [], [], []⟩, ⟨[0, 3], [], [], []⟩, ⟨[0, 3, 33], [], [], []⟩, ⟨[2], [], [], []⟩, ⟨[2], [], [], []⟩]
noncomputable def f60e : Env := tab.env [(73, s73)]
noncomputable def f60L0 {R : Type} (n : Nat) (x0 : Option R) (x1 : Int → Bool → Option R) (vs0 : List MetricT) : Nat → Int → Option R
  | 0, _ => none
  | m + 1, vs3 =>
    (cond (decide (vs3 < (vs0.length : Int)))
      (cond ((decide ((0 : Int) ≤ vs3)) && (decide (vs3 < (vs0.length : Int))))
        (cond (sm_metric (atI (t := .metric) vs0 (Int.toNat vs3)))
          (cond (!(metricOk (atI (t := .metric) vs0 (Int.toNat vs3))))
            (x0)
            (cond (decide (vs3 > (0 : Int)))
              (cond ((decide ((0 : Int) ≤ (IntKind.wrap .i64 (vs3 - (1 : Int))))) && (decide ((IntKind.wrap .i64 (vs3 - (1 : Int))) < (vs0.length : Int))))
                (cond ((decide ((0 : Int) ≤ vs3)) && (decide (vs3 < (vs0.length : Int))))
                  (cond (!(sLt (MetricT.name (atI (t := .metric) vs0 (Int.toNat (IntKind.wrap .i64 (vs3 - (1 : Int)))))) (MetricT.name (atI (t := .metric) vs0 (Int.toNat vs3)))))
                    (x0)
                    (f60L0 n x0 x1 vs0 m (IntKind.wrap .i64 (vs3 + (1 : Int)))))
                  none)
                none)
              (f60L0 n x0 x1 vs0 m (IntKind.wrap .i64 (vs3 + (1 : Int))))))
          none)
        none)
      (x1 vs3 (decide (vs3 < (vs0.length : Int)))))
theorem f60L0_b {R : Type} (n : Nat) (k' : Ex → St → Option R) (vs0 : List MetricT) (vs3 : Int) : ev f60e f60k n (cAt [1,0,1,0,0] f60c) ⟨[(0, .c (.one (.ro .metric vs0))), (3, .c (.one (.v (.int .i64 vs3))))], [], []⟩ k' =
    (cond (decide (vs3 < (vs0.length : Int)))
    (cond ((decide ((0 : Int) ≤ vs3)) && (decide (vs3 < (vs0.length : Int))))
      (cond (sm_metric (atI (t := .metric) vs0 (Int.toNat vs3)))
        (cond (!(metricOk (atI (t := .metric) vs0 (Int.toNat vs3))))
          (k' .ret ⟨[(2, .c (.one (.v (.bool false))))], [], []⟩)
          (cond (decide (vs3 > (0 : Int)))
            (cond ((decide ((0 : Int) ≤ (IntKind.wrap .i64 (vs3 - (1 : Int))))) && (decide ((IntKind.wrap .i64 (vs3 - (1 : Int))) < (vs0.length : Int))))
              (cond ((decide ((0 : Int) ≤ vs3)) && (decide (vs3 < (vs0.length : Int))))
                (cond (!(sLt (MetricT.name (atI (t := .metric) vs0 (Int.toNat (IntKind.wrap .i64 (vs3 - (1 : Int)))))) (MetricT.name (atI (t := .metric) vs0 (Int.toNat vs3)))))
                  (k' .ret ⟨[(2, .c (.one (.v (.bool false))))], [], []⟩)
                  (k' .normal ⟨[(0, .c (.one (.ro .metric vs0))), (3, .c (.one (.v (.int .i64 (IntKind.wrap .i64 (vs3 + (1 : Int)))))))], [], []⟩))
                none)
              none)
            (k' .normal ⟨[(0, .c (.one (.ro .metric vs0))), (3, .c (.one (.v (.int .i64 (IntKind.wrap .i64 (vs3 + (1 : Int)))))))], [], []⟩)))
        none)
      none)
    (k' (.exit 0) ⟨[(0, .c (.one (.ro .metric vs0))), (3, .c (.one (.v (.int .i64 vs3)))), (7, .c (.one (.v (.bool (decide (vs3 < (vs0.length : Int)))))))], [], []⟩)) := by kernel_rfl
theorem f60L0_eq {R : Type} (n : Nat) (k' : Ex → St → Option R) (vs0 : List MetricT) : ∀ (m : Nat) (vs3 : Int), iter (fun st k => ev f60e f60k n (cAt [1,0,1,0,0] f60c) st k) m ⟨[(0, .c (.one (.ro .metric vs0))), (3, .c (.one (.v (.int .i64 vs3))))], [], []⟩ k' = f60L0 n (k' .ret ⟨[(2, .c (.one (.v (.bool false))))], [], []⟩) (fun (xvs3 : Int) (xvs7 : Bool) => k' (.exit 0) ⟨[(0, .c (.one (.ro .metric vs0))), (3, .c (.one (.v (.int .i64 xvs3)))), (7, .c (.one (.v (.bool xvs7))))], [], []⟩) vs0 m vs3 := by
  intro m; induction m with
  | zero => intros; rfl
  | succ m ih =>
    intro vs3
    simp only [iter]
    rw [f60L0_b]
    simp only [ih, f60L0]

noncomputable def f60K0 {R : Type} (n : Nat) (k' : Ex → St → Option R) : Ex → St → Option R := (blockK 0 (seqK f60e f60k n (cAt [1,1] f60c) k'))
theorem f60K0_x0 {R : Type} (n : Nat) (k : List Dt → Option R) (a0 : List MetricT)  : f60K0 n (exitK f60e [.ro] [false] true [.tmp 2] [4] [.d (.sl .metric) a0] k) .ret ⟨[(2, .c (.one (.v (.bool false))))], [], []⟩ =
    (k [.d .bool false]) := by kernel_rfl
theorem f60K0_x1 {R : Type} (n : Nat) (k : List Dt → Option R) (a0 : List MetricT) (vs0 : List MetricT) (xvs3 : Int) (xvs7 : Bool) : f60K0 n (exitK f60e [.ro] [false] true [.tmp 2] [4] [.d (.sl .metric) a0] k) (.exit 0) ⟨[(0, .c (.one (.ro .metric vs0))), (3, .c (.one (.v (.int .i64 xvs3)))), (7, .c (.one (.v (.bool xvs7))))], [], []⟩ =
    (k [.d .bool (decide ((vs0.length : Int) ≤ (4 : Int)))]) := by kernel_rfl

theorem f60_run {R : Type} (n : Nat) (k : List Dt → Option R) (a0 : List MetricT) : evFn f60e f60k n f60c [.ro] [false] true [.tmp 2] [4] [.d (.sl .metric) a0] k =
    (f60L0 n (k [.d .bool false]) (fun (xvs3 : Int) (xvs7 : Bool) =>
    (k [.d .bool (decide ((a0.length : Int) ≤ (4 : Int)))])) a0 n (0 : Int)) := by
  refine Eq.trans (b := (iter (fun st k => ev f60e f60k n (cAt [1,0,1,0,0] f60c) st k) n ⟨[(0, .c (.one (.ro .metric a0))), (3, .c (.one (.v (.int .i64 (0 : Int)))))], [], []⟩ (f60K0 n (exitK f60e [.ro] [false] true [.tmp 2] [4] [.d (.sl .metric) a0] k)))) (by kernel_rfl) ?_
  simp only [f60L0_eq, f60K0_x0, f60K0_x1]
theorem f60_spec (a0 : List MetricT) (hg : smL sm_metric a0 = true) : ∃ keep rounds, ∀ {R : Type} (k : List Dt → Option R), evFn f60e keep rounds f60c [.ro] [false] true [.tmp 2] [4] [.d (.sl .metric) a0] k = k [.d .bool (metsOk a0)] := by
  have hl := smL_len hg
  refine ⟨f60k, a0.length + 1, fun {R} k => ?_⟩
  rw [f60_run]
  refine Eq.trans (loop_idx (n := a0.length) (F := fun m i => f60L0 (a0.length + 1) _ _ a0 m i) (p := metC a0) (good := k [.d .bool (decide ((a0.length : Int) ≤ (4 : Int)))]) (bad := k [.d .bool false])
    (fun m j hj => ?_) (fun m => by simp only [f60L0, idxE, cond_false]) (a0.length) 0 (a0.length + 1) (by omega) (by omega)) ?_
  · obtain ⟨h1, h0, hw, ht⟩ := idx hj (by omega)
    have hx := smL_at (t := .metric) hg hj
    simp only [f60L0, h1, h0, hw, ht, hx, eta_metric, Bool.and_self, cond_true]
    unfold metC
    by_cases hz : (j : Int) > 0
    · obtain ⟨h2, h3, _, h5⟩ := idx (show j - 1 < a0.length by omega) (by omega)
      simp only [hz, decide_true, cond_true, idxM hj (by omega) (by omega), h2, h3, h5, Bool.and_self]
      cases metricOk (atI (t := .metric) a0 j) <;> cases sLt (atI (t := .metric) a0 (j - 1)).name (atI (t := .metric) a0 j).name <;> rfl
    · simp only [hz, decide_false, cond_false]
      cases metricOk (atI (t := .metric) a0 j) <;> rfl
  · unfold metsOk
    cases allN (metC a0) 0 a0.length <;> rfl

noncomputable def q60 : List Dt → Option (Bool × List Dt)
  | [.d (.sl .metric) a0] => some ((smL sm_metric a0), [.d .bool (metsOk a0)])
  | _ => none
noncomputable def s60 : Gm.Spec := Gm.Spec.of [.ro] [false] true q60
theorem good60 : Gm.Good Try.prog (60, s60) := by
  have hl : ∀ x ∈ [(73, s73)], Gm.Good Try.prog x := List.forall_mem_cons.2 ⟨good73, List.forall_mem_nil _⟩
  refine ⟨⟨spec_ok (tab_ok.env hl) (tab.natl hl) Try.func60 (by kernel_rfl : Try.f60.body = some f60c) [4] (by kernel_rfl) ?_, _, Try.func60, by kernel_rfl, of_decide_eq_true (by kernel_rfl)⟩, Gm.Spec.of_natl _ _ _ _⟩
  intro ds outs h
  unfold q60 at h
  split at h
  · simp only [Option.some.injEq, Prod.mk.injEq] at h; obtain ⟨hg, h⟩ := h; cases h; exact f60_spec _ hg
  · cases h
/-! ### loop.example/g00465/spec.OrderOk -/
noncomputable def f47c : Code := (Try.f47.body).getD .skip
def f47k : Nat → Kp := kat [⟨[1], [], [], []⟩, ⟨[2], [], [], []⟩]
noncomputable def f47e : Env := tab.env [(16, s16), (48, s48), (60, s60), (61, s61), (62, s62)]
theorem f47_run {R : Type} (n : Nat) (k : List Dt → Option R) (a0 : OrderT) : evFn f47e f47k n f47c [.ro] [false] true [.tmp 2] [4] [.d .order a0] k =
    (cond (okStr (OrderT.name a0))
    (cond (nameOk (OrderT.name a0))
      (cond (okStr (OrderT.target a0))
        (cond (nameOk (OrderT.target a0))
          (cond (inR (OrderT.low a0) (1 : Int) (OrderT.high a0))
            (cond (decide ((OrderT.high a0) ≤ (1000 : Int)))
              (cond (smL sm_metric (OrderT.metrics a0))
                (cond (metsOk (OrderT.metrics a0))
                  (cond (paceOk (OrderT.pace a0))
                    (cond (smL sm_note (OrderT.notes a0))
                      (k [.d .bool (notesOk (OrderT.notes a0))])
                      none)
                    (k [.d .bool false]))
                  (k [.d .bool false]))
                none)
              (k [.d .bool false]))
            (k [.d .bool false]))
          (k [.d .bool false]))
        none)
      (k [.d .bool false]))
    none) := by kernel_rfl
theorem f47_spec (a0 : OrderT) (hg : sm_order a0 = true) : ∃ keep rounds, ∀ {R : Type} (k : List Dt → Option R), evFn f47e keep rounds f47c [.ro] [false] true [.tmp 2] [4] [.d .order a0] k = k [.d .bool (orderOk a0)] := by
  simp only [sm_order, Bool.and_eq_true] at hg
  obtain ⟨hn, ht0, hlo, hhi, hm, hp, hno⟩ := hg
  have hl := smL_len hm
  refine ⟨f47k, 0, fun {R} k => ?_⟩
  rw [f47_run]
  simp only [okStr_sm hn, okStr_sm ht0, hm, hno, cond_true]
  unfold orderOk
  cases nameOk a0.name <;> cases nameOk a0.target <;> cases inR a0.low 1 a0.high <;> cases decide (a0.high ≤ 1000) <;> cases metsOk a0.metrics <;> cases paceOk a0.pace <;> rfl

noncomputable def q47 : List Dt → Option (Bool × List Dt)
  | [.d .order a0] => some ((sm_order a0), [.d .bool (orderOk a0)])
  | _ => none
noncomputable def s47 : Gm.Spec := Gm.Spec.of [.ro] [false] true q47
theorem good47 : Gm.Good Try.prog (47, s47) := by
  have hl : ∀ x ∈ [(16, s16), (48, s48), (60, s60), (61, s61), (62, s62)], Gm.Good Try.prog x := List.forall_mem_cons.2 ⟨good16, List.forall_mem_cons.2 ⟨good48, List.forall_mem_cons.2 ⟨good60, List.forall_mem_cons.2 ⟨good61, List.forall_mem_cons.2 ⟨good62, List.forall_mem_nil _⟩⟩⟩⟩⟩
  refine ⟨⟨spec_ok (tab_ok.env hl) (tab.natl hl) Try.func47 (by kernel_rfl : Try.f47.body = some f47c) [4] (by kernel_rfl) ?_, _, Try.func47, by kernel_rfl, of_decide_eq_true (by kernel_rfl)⟩, Gm.Spec.of_natl _ _ _ _⟩
  intro ds outs h
  unfold q47 at h
  split at h
  · simp only [Option.some.injEq, Prod.mk.injEq] at h; obtain ⟨hg, h⟩ := h; cases h; exact f47_spec _ hg
  · cases h
/-! ### loop.example/g00465/impl.OrderOk -/
noncomputable def f52c : Code := (Try.f52.body).getD .skip
def f52k : Nat → Kp := kat [⟨[1], [], [], []⟩, ⟨[1, 6, 7, 8], [], [], []⟩, ⟨[1, 6, 7, 8, 9], [], [], []⟩, ⟨[1, 3, 4, 6, 7, 8], [], [], []⟩, ⟨[1, 6, 7, 8, 31], [], [], []⟩, ⟨[2], [], [], []⟩, ⟨[1, 6, 7, 8], [], [], []⟩, ⟨[2], [], [], []⟩]
noncomputable def f52e : Env := tab.env [(23, s23), (39, s39), (65, s65), (66, s66), (67, s67)]
noncomputable def f52L0 {R : Type} (n : Nat) (x0 : Option R) (x1 : Int → Bool → Option R) (vs6 : List MetricT) (vs7 : Int) (vb1_0 : ByteArray) (vb1_1 : ByteArray) (vb1_2 : Int) (vb1_3 : Int) (vb1_4 : List MetricT) (vb1_5 : Int) (vb1_6 : Int) (vb1_7 : Int) (vb1_8 : Int) (vb1_9 : List NoteT) : Nat → Int → Option R
  | 0, _ => none
  | m + 1, vs8 =>
    (cond (decide (vs8 < vs7))
      (cond ((decide ((0 : Int) ≤ vs8)) && (decide (vs8 < (vs6.length : Int))))
        (cond (sm_metric (atI (t := .metric) vs6 (Int.toNat vs8)))
          (cond (!(metricOk (atI (t := .metric) vs6 (Int.toNat vs8))))
            (x0)
            (cond (decide (vs8 > (0 : Int)))
              (cond ((decide ((0 : Int) ≤ (IntKind.wrap .i64 (vs8 - (1 : Int))))) && (decide ((IntKind.wrap .i64 (vs8 - (1 : Int))) < (vb1_4.length : Int))))
                (cond (!(sLt (MetricT.name (atI (t := .metric) vb1_4 (Int.toNat (IntKind.wrap .i64 (vs8 - (1 : Int)))))) (MetricT.name (atI (t := .metric) vs6 (Int.toNat vs8)))))
                  (x0)
                  (f52L0 n x0 x1 vs6 vs7 vb1_0 vb1_1 vb1_2 vb1_3 vb1_4 vb1_5 vb1_6 vb1_7 vb1_8 vb1_9 m (IntKind.wrap .i64 (vs8 + (1 : Int)))))
                none)
              (f52L0 n x0 x1 vs6 vs7 vb1_0 vb1_1 vb1_2 vb1_3 vb1_4 vb1_5 vb1_6 vb1_7 vb1_8 vb1_9 m (IntKind.wrap .i64 (vs8 + (1 : Int))))))
          none)
        none)
      (x1 vs8 (decide (vs8 < vs7))))
theorem f52L0_b {R : Type} (n : Nat) (k' : Ex → St → Option R) (vs6 : List MetricT) (vs7 : Int) (vs8 : Int) (vb1_0 : ByteArray) (vb1_1 : ByteArray) (vb1_2 : Int) (vb1_3 : Int) (vb1_4 : List MetricT) (vb1_5 : Int) (vb1_6 : Int) (vb1_7 : Int) (vb1_8 : Int) (vb1_9 : List NoteT) : ev f52e f52k n (cAt [1,0,1,0,0] f52c) ⟨[(1, .c (.one (.pt 1 0))), (6, .c (.one (.ro .metric vs6))), (7, .c (.one (.v (.int .i64 vs7)))), (8, .c (.one (.v (.int .i64 vs8))))], [(1, ⟨.order, [.v (.string vb1_0), .v (.string vb1_1), .v (.int .i64 vb1_2), .v (.int .i64 vb1_3), .ro .metric vb1_4, .v (.int .i64 vb1_5), .v (.int .i64 vb1_6), .v (.int .i64 vb1_7), .v (.int .i64 vb1_8), .ro .note vb1_9]⟩)], []⟩ k' =
    (cond (decide (vs8 < vs7))
    (cond ((decide ((0 : Int) ≤ vs8)) && (decide (vs8 < (vs6.length : Int))))
      (cond (sm_metric (atI (t := .metric) vs6 (Int.toNat vs8)))
        (cond (!(metricOk (atI (t := .metric) vs6 (Int.toNat vs8))))
          (k' .ret ⟨[(2, .c (.one (.v (.bool false))))], [], []⟩)
          (cond (decide (vs8 > (0 : Int)))
            (cond ((decide ((0 : Int) ≤ (IntKind.wrap .i64 (vs8 - (1 : Int))))) && (decide ((IntKind.wrap .i64 (vs8 - (1 : Int))) < (vb1_4.length : Int))))
              (cond (!(sLt (MetricT.name (atI (t := .metric) vb1_4 (Int.toNat (IntKind.wrap .i64 (vs8 - (1 : Int)))))) (MetricT.name (atI (t := .metric) vs6 (Int.toNat vs8)))))
                (k' .ret ⟨[(2, .c (.one (.v (.bool false))))], [], []⟩)
                (k' .normal ⟨[(1, .c (.one (.pt 1 0))), (6, .c (.one (.ro .metric vs6))), (7, .c (.one (.v (.int .i64 vs7)))), (8, .c (.one (.v (.int .i64 (IntKind.wrap .i64 (vs8 + (1 : Int)))))))], [(1, ⟨.order, [.v (.string vb1_0), .v (.string vb1_1), .v (.int .i64 vb1_2), .v (.int .i64 vb1_3), .ro .metric vb1_4, .v (.int .i64 vb1_5), .v (.int .i64 vb1_6), .v (.int .i64 vb1_7), .v (.int .i64 vb1_8), .ro .note vb1_9]⟩)], []⟩))
              none)
            (k' .normal ⟨[(1, .c (.one (.pt 1 0))), (6, .c (.one (.ro .metric vs6))), (7, .c (.one (.v (.int .i64 vs7)))), (8, .c (.one (.v (.int .i64 (IntKind.wrap .i64 (vs8 + (1 : Int)))))))], [(1, ⟨.order, [.v (.string vb1_0), .v (.string vb1_1), .v (.int .i64 vb1_2), .v (.int .i64 vb1_3), .ro .metric vb1_4, .v (.int .i64 vb1_5), .v (.int .i64 vb1_6), .v (.int .i64 vb1_7), .v (.int .i64 vb1_8), .ro .note vb1_9]⟩)], []⟩)))
        none)
      none)
    (k' (.exit 0) ⟨[(1, .c (.one (.pt 1 0))), (6, .c (.one (.ro .metric vs6))), (7, .c (.one (.v (.int .i64 vs7)))), (8, .c (.one (.v (.int .i64 vs8)))), (9, .c (.one (.v (.bool (decide (vs8 < vs7))))))], [(1, ⟨.order, [.v (.string vb1_0), .v (.string vb1_1), .v (.int .i64 vb1_2), .v (.int .i64 vb1_3), .ro .metric vb1_4, .v (.int .i64 vb1_5), .v (.int .i64 vb1_6), .v (.int .i64 vb1_7), .v (.int .i64 vb1_8), .ro .note vb1_9]⟩)], []⟩)) := by kernel_rfl
theorem f52L0_eq {R : Type} (n : Nat) (k' : Ex → St → Option R) (vs6 : List MetricT) (vs7 : Int) (vb1_0 : ByteArray) (vb1_1 : ByteArray) (vb1_2 : Int) (vb1_3 : Int) (vb1_4 : List MetricT) (vb1_5 : Int) (vb1_6 : Int) (vb1_7 : Int) (vb1_8 : Int) (vb1_9 : List NoteT) : ∀ (m : Nat) (vs8 : Int), iter (fun st k => ev f52e f52k n (cAt [1,0,1,0,0] f52c) st k) m ⟨[(1, .c (.one (.pt 1 0))), (6, .c (.one (.ro .metric vs6))), (7, .c (.one (.v (.int .i64 vs7)))), (8, .c (.one (.v (.int .i64 vs8))))], [(1, ⟨.order, [.v (.string vb1_0), .v (.string vb1_1), .v (.int .i64 vb1_2), .v (.int .i64 vb1_3), .ro .metric vb1_4, .v (.int .i64 vb1_5), .v (.int .i64 vb1_6), .v (.int .i64 vb1_7), .v (.int .i64 vb1_8), .ro .note vb1_9]⟩)], []⟩ k' = f52L0 n (k' .ret ⟨[(2, .c (.one (.v (.bool false))))], [], []⟩) (fun (xvs8 : Int) (xvs9 : Bool) => k' (.exit 0) ⟨[(1, .c (.one (.pt 1 0))), (6, .c (.one (.ro .metric vs6))), (7, .c (.one (.v (.int .i64 vs7)))), (8, .c (.one (.v (.int .i64 xvs8)))), (9, .c (.one (.v (.bool xvs9))))], [(1, ⟨.order, [.v (.string vb1_0), .v (.string vb1_1), .v (.int .i64 vb1_2), .v (.int .i64 vb1_3), .ro .metric vb1_4, .v (.int .i64 vb1_5), .v (.int .i64 vb1_6), .v (.int .i64 vb1_7), .v (.int .i64 vb1_8), .ro .note vb1_9]⟩)], []⟩) vs6 vs7 vb1_0 vb1_1 vb1_2 vb1_3 vb1_4 vb1_5 vb1_6 vb1_7 vb1_8 vb1_9 m vs8 := by
  intro m; induction m with
  | zero => intros; rfl
  | succ m ih =>
    intro vs8
    simp only [iter]
    rw [f52L0_b]
    simp only [ih, f52L0]

noncomputable def f52K0 {R : Type} (n : Nat) (k' : Ex → St → Option R) : Ex → St → Option R := (blockK 0 (seqK f52e f52k n (cAt [1,1] f52c) k'))
theorem f52K0_x0 {R : Type} (n : Nat) (k : List Dt → Option R) (a0 : OrderT)  : f52K0 n (exitK f52e [.ro] [false] true [.tmp 2] [4] [.d .order a0] k) .ret ⟨[(2, .c (.one (.v (.bool false))))], [], []⟩ =
    (k [.d .bool false]) := by kernel_rfl
theorem f52K0_x1 {R : Type} (n : Nat) (k : List Dt → Option R) (a0 : OrderT) (vs6 : List MetricT) (vs7 : Int) (vb1_0 : ByteArray) (vb1_1 : ByteArray) (vb1_2 : Int) (vb1_3 : Int) (vb1_4 : List MetricT) (vb1_5 : Int) (vb1_6 : Int) (vb1_7 : Int) (vb1_8 : Int) (vb1_9 : List NoteT) (xvs8 : Int) (xvs9 : Bool) : f52K0 n (exitK f52e [.ro] [false] true [.tmp 2] [4] [.d .order a0] k) (.exit 0) ⟨[(1, .c (.one (.pt 1 0))), (6, .c (.one (.ro .metric vs6))), (7, .c (.one (.v (.int .i64 vs7)))), (8, .c (.one (.v (.int .i64 xvs8)))), (9, .c (.one (.v (.bool xvs9))))], [(1, ⟨.order, [.v (.string vb1_0), .v (.string vb1_1), .v (.int .i64 vb1_2), .v (.int .i64 vb1_3), .ro .metric vb1_4, .v (.int .i64 vb1_5), .v (.int .i64 vb1_6), .v (.int .i64 vb1_7), .v (.int .i64 vb1_8), .ro .note vb1_9]⟩)], []⟩ =
    (cond (okStr vb1_0)
    (cond (nameOk vb1_0)
      (cond (okStr vb1_1)
        (cond (nameOk vb1_1)
          (cond (inR vb1_2 (1 : Int) vb1_3)
            (cond (decide (vb1_3 ≤ (1000 : Int)))
              (cond (decide ((vb1_4.length : Int) ≤ (4 : Int)))
                (cond (paceOk (⟨vb1_5, vb1_6, vb1_7, vb1_8⟩ : PaceT))
                  (cond (smL sm_note vb1_9)
                    (k [.d .bool (notesOk vb1_9)])
                    none)
                  (k [.d .bool false]))
                (k [.d .bool false]))
              (k [.d .bool false]))
            (k [.d .bool false]))
          (k [.d .bool false]))
        none)
      (k [.d .bool false]))
    none) := by kernel_rfl

theorem f52_run {R : Type} (n : Nat) (k : List Dt → Option R) (a0 : OrderT) : evFn f52e f52k n f52c [.ro] [false] true [.tmp 2] [4] [.d .order a0] k =
    (f52L0 n (k [.d .bool false]) (fun (xvs8 : Int) (xvs9 : Bool) =>
    (cond (okStr (OrderT.name a0))
      (cond (nameOk (OrderT.name a0))
        (cond (okStr (OrderT.target a0))
          (cond (nameOk (OrderT.target a0))
            (cond (inR (OrderT.low a0) (1 : Int) (OrderT.high a0))
              (cond (decide ((OrderT.high a0) ≤ (1000 : Int)))
                (cond (decide (((OrderT.metrics a0).length : Int) ≤ (4 : Int)))
                  (cond (paceOk (⟨(PaceT.up (OrderT.pace a0)), (PaceT.down (OrderT.pace a0)), (PaceT.upSpan (OrderT.pace a0)), (PaceT.downSpan (OrderT.pace a0))⟩ : PaceT))
                    (cond (smL sm_note (OrderT.notes a0))
                      (k [.d .bool (notesOk (OrderT.notes a0))])
                      none)
                    (k [.d .bool false]))
                  (k [.d .bool false]))
                (k [.d .bool false]))
              (k [.d .bool false]))
            (k [.d .bool false]))
          none)
        (k [.d .bool false]))
      none)) (OrderT.metrics a0) ((OrderT.metrics a0).length : Int) (OrderT.name a0) (OrderT.target a0) (OrderT.low a0) (OrderT.high a0) (OrderT.metrics a0) (PaceT.up (OrderT.pace a0)) (PaceT.down (OrderT.pace a0)) (PaceT.upSpan (OrderT.pace a0)) (PaceT.downSpan (OrderT.pace a0)) (OrderT.notes a0) n (0 : Int)) := by
  refine Eq.trans (b := (iter (fun st k => ev f52e f52k n (cAt [1,0,1,0,0] f52c) st k) n ⟨[(1, .c (.one (.pt 1 0))), (6, .c (.one (.ro .metric (OrderT.metrics a0)))), (7, .c (.one (.v (.int .i64 ((OrderT.metrics a0).length : Int))))), (8, .c (.one (.v (.int .i64 (0 : Int)))))], [(1, ⟨.order, [.v (.string (OrderT.name a0)), .v (.string (OrderT.target a0)), .v (.int .i64 (OrderT.low a0)), .v (.int .i64 (OrderT.high a0)), .ro .metric (OrderT.metrics a0), .v (.int .i64 (PaceT.up (OrderT.pace a0))), .v (.int .i64 (PaceT.down (OrderT.pace a0))), .v (.int .i64 (PaceT.upSpan (OrderT.pace a0))), .v (.int .i64 (PaceT.downSpan (OrderT.pace a0))), .ro .note (OrderT.notes a0)]⟩)], []⟩ (f52K0 n (exitK f52e [.ro] [false] true [.tmp 2] [4] [.d .order a0] k)))) (by kernel_rfl) ?_
  simp only [f52L0_eq, f52K0_x0, f52K0_x1]
theorem f52_spec (a0 : OrderT) (hg : sm_order a0 = true) : ∃ keep rounds, ∀ {R : Type} (k : List Dt → Option R), evFn f52e keep rounds f52c [.ro] [false] true [.tmp 2] [4] [.d .order a0] k = k [.d .bool (orderOk a0)] := by
  simp only [sm_order, Bool.and_eq_true] at hg
  obtain ⟨hn, ht0, hlo, hhi, hm, hp, hno⟩ := hg
  have hl := smL_len hm
  refine ⟨f52k, a0.metrics.length + 1, fun {R} k => ?_⟩
  rw [f52_run]
  simp only [okStr_sm hn, okStr_sm ht0, hno, eta_pace, cond_true]
  refine Eq.trans (loop_idx (n := a0.metrics.length) (F := fun m i => f52L0 (a0.metrics.length + 1) _ _ a0.metrics (a0.metrics.length : Int) a0.name a0.target a0.low a0.high a0.metrics a0.pace.up a0.pace.down a0.pace.upSpan a0.pace.downSpan a0.notes m i) (p := metC a0.metrics) (good := cond (nameOk a0.name) (cond (nameOk a0.target) (cond (inR a0.low 1 a0.high) (cond (decide (a0.high ≤ 1000)) (cond (decide ((a0.metrics.length : Int) ≤ 4)) (cond (paceOk a0.pace) (k [.d .bool (notesOk a0.notes)]) (k [.d .bool false])) (k [.d .bool false])) (k [.d .bool false])) (k [.d .bool false])) (k [.d .bool false])) (k [.d .bool false])) (bad := k [.d .bool false])
    (fun m j hj => ?_) (fun m => by simp only [f52L0, idxE, cond_false]) (a0.metrics.length) 0 (a0.metrics.length + 1) (by omega) (by omega)) ?_
  · obtain ⟨h1, h0, hw, ht⟩ := idx hj (by omega)
    have hx := smL_at (t := .metric) hm hj
    simp only [f52L0, h1, h0, hw, ht, hx, eta_metric, Bool.and_self, cond_true]
    unfold metC
    by_cases hz : (j : Int) > 0
    · obtain ⟨h2, h3, _, h5⟩ := idx (show j - 1 < a0.metrics.length by omega) (by omega)
      simp only [hz, decide_true, cond_true, idxM hj (by omega) (by omega), h2, h3, h5, Bool.and_self]
      cases metricOk (atI (t := .metric) a0.metrics j) <;> cases sLt (atI (t := .metric) a0.metrics (j - 1)).name (atI (t := .metric) a0.metrics j).name <;> rfl
    · simp only [hz, decide_false, cond_false]
      cases metricOk (atI (t := .metric) a0.metrics j) <;> rfl
  · unfold orderOk metsOk
    cases nameOk a0.name <;> cases nameOk a0.target <;> cases inR a0.low 1 a0.high <;> cases decide (a0.high ≤ 1000) <;> cases allN (metC a0.metrics) 0 a0.metrics.length <;> cases decide ((a0.metrics.length : Int) ≤ 4) <;> cases paceOk a0.pace <;> rfl

noncomputable def q52 : List Dt → Option (Bool × List Dt)
  | [.d .order a0] => some ((sm_order a0), [.d .bool (orderOk a0)])
  | _ => none
noncomputable def s52 : Gm.Spec := Gm.Spec.of [.ro] [false] true q52
theorem good52 : Gm.Good Try.prog (52, s52) := by
  have hl : ∀ x ∈ [(23, s23), (39, s39), (65, s65), (66, s66), (67, s67)], Gm.Good Try.prog x := List.forall_mem_cons.2 ⟨good23, List.forall_mem_cons.2 ⟨good39, List.forall_mem_cons.2 ⟨good65, List.forall_mem_cons.2 ⟨good66, List.forall_mem_cons.2 ⟨good67, List.forall_mem_nil _⟩⟩⟩⟩⟩
  refine ⟨⟨spec_ok (tab_ok.env hl) (tab.natl hl) Try.func52 (by kernel_rfl : Try.f52.body = some f52c) [4] (by kernel_rfl) ?_, _, Try.func52, by kernel_rfl, of_decide_eq_true (by kernel_rfl)⟩, Gm.Spec.of_natl _ _ _ _⟩
  intro ds outs h
  unfold q52 at h
  split at h
  · simp only [Option.some.injEq, Prod.mk.injEq] at h; obtain ⟨hg, h⟩ := h; cases h; exact f52_spec _ hg
  · cases h
end Go.Proofs.Ytaeepnmdfdmgjaa

/- x -/
namespace Go.Proofs.Ytaeepnmdfdmgjaa
open Go Go.Gm
/-! ### loop.example/g00465/impl.isTime -/
noncomputable def f37c : Code := (Try.f37.body).getD .skip
def f37k : Nat → Kp := kat [⟨[0], [], [], []⟩, ⟨[2], [], [], []⟩]
noncomputable def f37e : Env := tab.env [(23, s23)]
theorem f37_run {R : Type} (n : Nat) (k : List Dt → Option R) (a0 : Int) : evFn f37e f37k n f37c [.ro] [false] true [.tmp 2] [4] [.d (.i .i64) a0] k =
    (k [.d .bool (inR a0 (0 : Int) (1000000 : Int))]) := by kernel_rfl
theorem f37_spec (a0 : Int) : ∃ keep rounds, ∀ {R : Type} (k : List Dt → Option R), evFn f37e keep rounds f37c [.ro] [false] true [.tmp 2] [4] [.d (.i .i64) a0] k = k [.d .bool (isTime a0)] := by
  exact ⟨f37k, 0, fun k => f37_run 0 k a0⟩

noncomputable def q37 : List Dt → Option (Bool × List Dt)
  | [.d (.i .i64) a0] => some (true, [.d .bool (isTime a0)])
  | _ => none
noncomputable def s37 : Gm.Spec := Gm.Spec.of [.ro] [false] true q37
theorem good37 : Gm.Good Try.prog (37, s37) := by
  have hl : ∀ x ∈ [(23, s23)], Gm.Good Try.prog x := List.forall_mem_cons.2 ⟨good23, List.forall_mem_nil _⟩
  refine ⟨⟨spec_ok (tab_ok.env hl) (tab.natl hl) Try.func37 (by kernel_rfl : Try.f37.body = some f37c) [4] (by kernel_rfl) ?_, _, Try.func37, by kernel_rfl, of_decide_eq_true (by kernel_rfl)⟩, Gm.Spec.of_natl _ _ _ _⟩
  intro ds outs h
  unfold q37 at h
  split at h
  · cases h; exact f37_spec _
  · cases h
/-! ### loop.example/g00465/impl.StoreOk$1 -/
noncomputable def f54c : Code := (Try.f54.body).getD .skip
def f54k : Nat → Kp := kat [⟨[1, 2], [], [], []⟩, ⟨[3], [], [], []⟩]
noncomputable def f54e : Env := tab.env []
theorem f54_run {R : Type} (n : Nat) (k : List Dt → Option R) (a0 : ItemT) (a1 : ItemT) : evFn f54e f54k n f54c [.ro, .pro] [false] true [.tmp 3] [4] [.d .item a0, .d .item a1] k =
    (k [.d .bool ((ItemT.ver a0) == (ItemT.ver a1))]) := by kernel_rfl
theorem f54_spec (a0 : ItemT) (a1 : ItemT) : ∃ keep rounds, ∀ {R : Type} (k : List Dt → Option R), evFn f54e keep rounds f54c [.ro, .pro] [false] true [.tmp 3] [4] [.d .item a0, .d .item a1] k = k [.d .bool (verIs a0 a1)] := by
  exact ⟨f54k, 0, fun k => f54_run 0 k a0 a1⟩

noncomputable def q54 : List Dt → Option (Bool × List Dt)
  | [.d .item a0, .d .item a1] => some (true, [.d .bool (verIs a0 a1)])
  | _ => none
noncomputable def s54 : Gm.Spec := Gm.Spec.of [.ro, .pro] [false] true q54
theorem good54 : Gm.Good Try.prog (54, s54) := by
  have hl : ∀ x ∈ ([] : List (Nat × Gm.Spec)), Gm.Good Try.prog x := fun _ h => by cases h
  refine ⟨⟨spec_ok (tab_ok.env hl) (tab.natl hl) Try.func54 (by kernel_rfl : Try.f54.body = some f54c) [4] (by kernel_rfl) ?_, _, Try.func54, by kernel_rfl, of_decide_eq_true (by kernel_rfl)⟩, Gm.Spec.of_natl _ _ _ _⟩
  intro ds outs h
  unfold q54 at h
  split at h
  · cases h; exact f54_spec _ _
  · cases h
/-! ### slices.IndexFunc[[]loop.example/g00465/impl.Item,loop.example/g00465/impl.Item] -/
noncomputable def f68c : Code := (Try.f68.body).getD .skip
def f68k : Nat → Kp := kat [⟨[0, 1], [], [], []⟩, ⟨[0, 1, 7, 8], [], [], []⟩, ⟨[0, 1, 7, 8, 9], [], [], []⟩, ⟨[0, 1, 5, 7, 8], [], [], []⟩, ⟨[0, 1, 5, 7, 8, 16], [], [], []⟩, ⟨[4], [], [], []⟩, ⟨[0, 1, 7, 8], [], [], []⟩, ⟨[4], [], [], []⟩]
noncomputable def f68e : Env := tab.env [(54, s54)]
noncomputable def f68L0 {R : Type} (n : Nat) (x0 : Int → Option R) (x1 : Int → Bool → Option R) (vs0 : List ItemT) (vs1c0 : ItemT) (vs7 : Int) : Nat → Int → Option R
  | 0, _ => none
  | m + 1, vs8 =>
    (cond (decide (vs8 < vs7))
      (cond ((decide ((0 : Int) ≤ vs8)) && (decide (vs8 < (vs0.length : Int))))
        (cond (verIs (atI (t := .item) vs0 (Int.toNat vs8)) vs1c0)
          (x0 vs8)
          (f68L0 n x0 x1 vs0 vs1c0 vs7 m (IntKind.wrap .i64 (vs8 + (1 : Int)))))
        none)
      (x1 vs8 (decide (vs8 < vs7))))
theorem f68L0_b {R : Type} (n : Nat) (k' : Ex → St → Option R) (vs0 : List ItemT) (vs1c0 : ItemT) (vs7 : Int) (vs8 : Int) : ev f68e f68k n (cAt [1,0,1,0,0] f68c) ⟨[(0, .c (.one (.ro .item vs0))), (1, .c (.one (.cloR 54 [⟨.item, vs1c0⟩]))), (7, .c (.one (.v (.int .i64 vs7)))), (8, .c (.one (.v (.int .i64 vs8))))], [], []⟩ k' =
    (cond (decide (vs8 < vs7))
    (cond ((decide ((0 : Int) ≤ vs8)) && (decide (vs8 < (vs0.length : Int))))
      (cond (verIs (atI (t := .item) vs0 (Int.toNat vs8)) vs1c0)
        (k' .ret ⟨[(4, .c (.one (.v (.int .i64 vs8))))], [], []⟩)
        (k' .normal ⟨[(0, .c (.one (.ro .item vs0))), (1, .c (.one (.cloR 54 [⟨.item, vs1c0⟩]))), (7, .c (.one (.v (.int .i64 vs7)))), (8, .c (.one (.v (.int .i64 (IntKind.wrap .i64 (vs8 + (1 : Int)))))))], [], []⟩))
      none)
    (k' (.exit 0) ⟨[(0, .c (.one (.ro .item vs0))), (1, .c (.one (.cloR 54 [⟨.item, vs1c0⟩]))), (7, .c (.one (.v (.int .i64 vs7)))), (8, .c (.one (.v (.int .i64 vs8)))), (9, .c (.one (.v (.bool (decide (vs8 < vs7))))))], [], []⟩)) := by kernel_rfl
theorem f68L0_eq {R : Type} (n : Nat) (k' : Ex → St → Option R) (vs0 : List ItemT) (vs1c0 : ItemT) (vs7 : Int) : ∀ (m : Nat) (vs8 : Int), iter (fun st k => ev f68e f68k n (cAt [1,0,1,0,0] f68c) st k) m ⟨[(0, .c (.one (.ro .item vs0))), (1, .c (.one (.cloR 54 [⟨.item, vs1c0⟩]))), (7, .c (.one (.v (.int .i64 vs7)))), (8, .c (.one (.v (.int .i64 vs8))))], [], []⟩ k' = f68L0 n (fun (xvs4 : Int) => k' .ret ⟨[(4, .c (.one (.v (.int .i64 xvs4))))], [], []⟩) (fun (xvs8 : Int) (xvs9 : Bool) => k' (.exit 0) ⟨[(0, .c (.one (.ro .item vs0))), (1, .c (.one (.cloR 54 [⟨.item, vs1c0⟩]))), (7, .c (.one (.v (.int .i64 vs7)))), (8, .c (.one (.v (.int .i64 xvs8)))), (9, .c (.one (.v (.bool xvs9))))], [], []⟩) vs0 vs1c0 vs7 m vs8 := by
  intro m; induction m with
  | zero => intros; rfl
  | succ m ih =>
    intro vs8
    simp only [iter]
    rw [f68L0_b]
    simp only [ih, f68L0]

noncomputable def f68K0 {R : Type} (n : Nat) (k' : Ex → St → Option R) : Ex → St → Option R := (blockK 0 (seqK f68e f68k n (cAt [1,1] f68c) k'))
theorem f68K0_x0 {R : Type} (n : Nat) (k : List Dt → Option R) (a0 : List ItemT) (a1 : ItemT) (xvs4 : Int) : f68K0 n (exitK f68e [.ro, .fn] [false] true [.tmp 4] [3] [.d (.sl .item) a0, .clo 54 [⟨.item, a1⟩]] k) .ret ⟨[(4, .c (.one (.v (.int .i64 xvs4))))], [], []⟩ =
    (k [.d (.i .i64) xvs4]) := by kernel_rfl
theorem f68K0_x1 {R : Type} (n : Nat) (k : List Dt → Option R) (a0 : List ItemT) (a1 : ItemT) (vs0 : List ItemT) (vs1c0 : ItemT) (vs7 : Int) (xvs8 : Int) (xvs9 : Bool) : f68K0 n (exitK f68e [.ro, .fn] [false] true [.tmp 4] [3] [.d (.sl .item) a0, .clo 54 [⟨.item, a1⟩]] k) (.exit 0) ⟨[(0, .c (.one (.ro .item vs0))), (1, .c (.one (.cloR 54 [⟨.item, vs1c0⟩]))), (7, .c (.one (.v (.int .i64 vs7)))), (8, .c (.one (.v (.int .i64 xvs8)))), (9, .c (.one (.v (.bool xvs9))))], [], []⟩ =
    (k [.d (.i .i64) (-1 : Int)]) := by kernel_rfl

theorem f68_run {R : Type} (n : Nat) (k : List Dt → Option R) (a0 : List ItemT) (a1 : ItemT) : evFn f68e f68k n f68c [.ro, .fn] [false] true [.tmp 4] [3] [.d (.sl .item) a0, .clo 54 [⟨.item, a1⟩]] k =
    (f68L0 n (fun (xvs4 : Int) =>
    (k [.d (.i .i64) xvs4])) (fun (xvs8 : Int) (xvs9 : Bool) =>
    (k [.d (.i .i64) (-1 : Int)])) a0 a1 (a0.length : Int) n (0 : Int)) := by
  refine Eq.trans (b := (iter (fun st k => ev f68e f68k n (cAt [1,0,1,0,0] f68c) st k) n ⟨[(0, .c (.one (.ro .item a0))), (1, .c (.one (.cloR 54 [⟨.item, a1⟩]))), (7, .c (.one (.v (.int .i64 (a0.length : Int))))), (8, .c (.one (.v (.int .i64 (0 : Int)))))], [], []⟩ (f68K0 n (exitK f68e [.ro, .fn] [false] true [.tmp 4] [3] [.d (.sl .item) a0, .clo 54 [⟨.item, a1⟩]] k)))) (by kernel_rfl) ?_
  simp only [f68L0_eq, f68K0_x0, f68K0_x1]
theorem f68_spec (a0 : List ItemT) (a1 : ItemT) (hg : gLenW a0 = true) : ∃ keep rounds, ∀ {R : Type} (k : List Dt → Option R), evFn f68e keep rounds f68c [.ro, .fn] [false] true [.tmp 4] [3] [.d (.sl .item) a0, .clo 54 [⟨.item, a1⟩]] k = k [.d (.i .i64) (verAt a0 a1)] := by
  have hl := gLenW_le hg
  refine ⟨f68k, a0.length + 1, fun k => ?_⟩
  rw [f68_run]
  refine Eq.trans (loop_find (n := a0.length) (F := fun m i => f68L0 (a0.length + 1) _ _ a0 a1 (a0.length : Int) m i) (p := fun j => verIs (atI (t := .item) a0 j) a1) (hit := fun i => k [.d (.i .i64) i]) (miss := k [.d (.i .i64) (-1 : Int)])
    (fun m j hj => ?_) (fun m => by simp only [f68L0, idxE, cond_false]) a0.length 0 (a0.length + 1) (by omega) (by omega)) ?_
  · obtain ⟨h1, h0, hw, ht⟩ := idx hj (by omega)
    simp only [f68L0, h1, h0, hw, ht, Bool.and_self, cond_true]
  · show _ = k [.d (.i .i64) (plc _)]
    cases firstN (fun j => verIs (atI (t := .item) a0 j) a1) 0 a0.length <;> rfl

noncomputable def q68 : List Dt → Option (Bool × List Dt)
  | [.d (.sl .item) a0, .clo 54 [⟨.item, a1⟩]] => some (((fun (x : List ItemT) (_ : ItemT) => gLenW x) a0 a1), [.d (.i .i64) (verAt a0 a1)])
  | _ => none
noncomputable def s68 : Gm.Spec := Gm.Spec.of [.ro, .fn] [false] true q68
theorem good68 : Gm.Good Try.prog (68, s68) := by
  have hl : ∀ x ∈ [(54, s54)], Gm.Good Try.prog x := List.forall_mem_cons.2 ⟨good54, List.forall_mem_nil _⟩
  refine ⟨⟨spec_ok (tab_ok.env hl) (tab.natl hl) Try.func68 (by kernel_rfl : Try.f68.body = some f68c) [3] (by kernel_rfl) ?_, _, Try.func68, by kernel_rfl, of_decide_eq_true (by kernel_rfl)⟩, Gm.Spec.of_natl _ _ _ _⟩
  intro ds outs h
  unfold q68 at h
  split at h
  · simp only [Option.some.injEq, Prod.mk.injEq] at h; obtain ⟨hg, h⟩ := h; cases h; exact f68_spec _ _ hg
  · cases h
/-! ### slices.ContainsFunc[[]loop.example/g00465/impl.Item,loop.example/g00465/impl.Item] -/
noncomputable def f53c : Code := (Try.f53.body).getD .skip
def f53k : Nat → Kp := kat [⟨[0, 1], [], [], []⟩, ⟨[4], [], [], []⟩]
noncomputable def f53e : Env := tab.env [(54, s54), (68, s68)]
theorem f53_run {R : Type} (n : Nat) (k : List Dt → Option R) (a0 : List ItemT) (a1 : ItemT) : evFn f53e f53k n f53c [.ro, .fn] [false] true [.tmp 4] [4] [.d (.sl .item) a0, .clo 54 [⟨.item, a1⟩]] k =
    (cond ((fun (x : List ItemT) (_ : ItemT) => gLenW x) a0 a1)
    (k [.d .bool (decide ((verAt a0 a1) ≥ (0 : Int)))])
    none) := by kernel_rfl
theorem f53_spec (a0 : List ItemT) (a1 : ItemT) (hg : gLenW a0 = true) : ∃ keep rounds, ∀ {R : Type} (k : List Dt → Option R), evFn f53e keep rounds f53c [.ro, .fn] [false] true [.tmp 4] [4] [.d (.sl .item) a0, .clo 54 [⟨.item, a1⟩]] k = k [.d .bool (verIn a0 a1)] := by
  refine ⟨f53k, 0, fun k => ?_⟩
  rw [f53_run]; simp only [hg, cond_true]
  unfold verAt
  rw [findI_ge]; rfl

noncomputable def q53 : List Dt → Option (Bool × List Dt)
  | [.d (.sl .item) a0, .clo 54 [⟨.item, a1⟩]] => some (((fun (x : List ItemT) (_ : ItemT) => gLenW x) a0 a1), [.d .bool (verIn a0 a1)])
  | _ => none
noncomputable def s53 : Gm.Spec := Gm.Spec.of [.ro, .fn] [false] true q53
theorem good53 : Gm.Good Try.prog (53, s53) := by
  have hl : ∀ x ∈ [(54, s54), (68, s68)], Gm.Good Try.prog x := List.forall_mem_cons.2 ⟨good54, List.forall_mem_cons.2 ⟨good68, List.forall_mem_nil _⟩⟩
  refine ⟨⟨spec_ok (tab_ok.env hl) (tab.natl hl) Try.func53 (by kernel_rfl : Try.f53.body = some f53c) [4] (by kernel_rfl) ?_, _, Try.func53, by kernel_rfl, of_decide_eq_true (by kernel_rfl)⟩, Gm.Spec.of_natl _ _ _ _⟩
  intro ds outs h
  unfold q53 at h
  split at h
  · simp only [Option.some.injEq, Prod.mk.injEq] at h; obtain ⟨hg, h⟩ := h; cases h; exact f53_spec _ _ hg
  · cases h
/-! ### loop.example/g00465/impl.RecsOk -/
noncomputable def f55c : Code := (Try.f55.body).getD .skip
def f55k : Nat → Kp := kat [⟨[0], [], [], []⟩, ⟨[0, 5, 6, 7], [], [], []⟩, ⟨[0, 5, 6, 7, 8], [], [], []⟩, ⟨[0, 3, 4, 5, 6, 7], [], [], []⟩, ⟨[0, 5, 6, 7, 36], [], [], []⟩, ⟨[2], [], [], []⟩, ⟨[0, 5, 6, 7], [], [], []⟩, ⟨[2], [], [], []⟩]
noncomputable def f55e : Env := tab.env [(37, s37), (40, s40)]
noncomputable def f55L0 {R : Type} (n : Nat) (x0 : Option R) (x1 : Int → Bool → Option R) (vs0 : List RcdT) (vs5 : List RcdT) (vs6 : Int) : Nat → Int → Option R
  | 0, _ => none
  | m + 1, vs7 =>
    (cond (decide (vs7 < vs6))
      (cond ((decide ((0 : Int) ≤ vs7)) && (decide (vs7 < (vs5.length : Int))))
        (cond (!(isTime (RcdT.time (atI (t := .rcd) vs5 (Int.toNat vs7)))))
          (x0)
          (cond (!(isMany (RcdT.n (atI (t := .rcd) vs5 (Int.toNat vs7)))))
            (x0)
            (cond (decide (vs7 > (0 : Int)))
              (cond ((decide ((0 : Int) ≤ (IntKind.wrap .i64 (vs7 - (1 : Int))))) && (decide ((IntKind.wrap .i64 (vs7 - (1 : Int))) < (vs0.length : Int))))
                (cond (decide ((RcdT.time (atI (t := .rcd) vs0 (Int.toNat (IntKind.wrap .i64 (vs7 - (1 : Int)))))) > (RcdT.time (atI (t := .rcd) vs5 (Int.toNat vs7)))))
                  (x0)
                  (f55L0 n x0 x1 vs0 vs5 vs6 m (IntKind.wrap .i64 (vs7 + (1 : Int)))))
                none)
              (f55L0 n x0 x1 vs0 vs5 vs6 m (IntKind.wrap .i64 (vs7 + (1 : Int)))))))
        none)
      (x1 vs7 (decide (vs7 < vs6))))
theorem f55L0_b {R : Type} (n : Nat) (k' : Ex → St → Option R) (vs0 : List RcdT) (vs5 : List RcdT) (vs6 : Int) (vs7 : Int) : ev f55e f55k n (cAt [1,0,1,0,0] f55c) ⟨[(0, .c (.one (.ro .rcd vs0))), (5, .c (.one (.ro .rcd vs5))), (6, .c (.one (.v (.int .i64 vs6)))), (7, .c (.one (.v (.int .i64 vs7))))], [], []⟩ k' =
    (cond (decide (vs7 < vs6))
    (cond ((decide ((0 : Int) ≤ vs7)) && (decide (vs7 < (vs5.length : Int))))
      (cond (!(isTime (RcdT.time (atI (t := .rcd) vs5 (Int.toNat vs7)))))
        (k' .ret ⟨[(2, .c (.one (.v (.bool false))))], [], []⟩)
        (cond (!(isMany (RcdT.n (atI (t := .rcd) vs5 (Int.toNat vs7)))))
          (k' .ret ⟨[(2, .c (.one (.v (.bool false))))], [], []⟩)
          (cond (decide (vs7 > (0 : Int)))
            (cond ((decide ((0 : Int) ≤ (IntKind.wrap .i64 (vs7 - (1 : Int))))) && (decide ((IntKind.wrap .i64 (vs7 - (1 : Int))) < (vs0.length : Int))))
              (cond (decide ((RcdT.time (atI (t := .rcd) vs0 (Int.toNat (IntKind.wrap .i64 (vs7 - (1 : Int)))))) > (RcdT.time (atI (t := .rcd) vs5 (Int.toNat vs7)))))
                (k' .ret ⟨[(2, .c (.one (.v (.bool false))))], [], []⟩)
                (k' .normal ⟨[(0, .c (.one (.ro .rcd vs0))), (5, .c (.one (.ro .rcd vs5))), (6, .c (.one (.v (.int .i64 vs6)))), (7, .c (.one (.v (.int .i64 (IntKind.wrap .i64 (vs7 + (1 : Int)))))))], [], []⟩))
              none)
            (k' .normal ⟨[(0, .c (.one (.ro .rcd vs0))), (5, .c (.one (.ro .rcd vs5))), (6, .c (.one (.v (.int .i64 vs6)))), (7, .c (.one (.v (.int .i64 (IntKind.wrap .i64 (vs7 + (1 : Int)))))))], [], []⟩))))
      none)
    (k' (.exit 0) ⟨[(0, .c (.one (.ro .rcd vs0))), (5, .c (.one (.ro .rcd vs5))), (6, .c (.one (.v (.int .i64 vs6)))), (7, .c (.one (.v (.int .i64 vs7)))), (8, .c (.one (.v (.bool (decide (vs7 < vs6))))))], [], []⟩)) := by kernel_rfl
theorem f55L0_eq {R : Type} (n : Nat) (k' : Ex → St → Option R) (vs0 : List RcdT) (vs5 : List RcdT) (vs6 : Int) : ∀ (m : Nat) (vs7 : Int), iter (fun st k => ev f55e f55k n (cAt [1,0,1,0,0] f55c) st k) m ⟨[(0, .c (.one (.ro .rcd vs0))), (5, .c (.one (.ro .rcd vs5))), (6, .c (.one (.v (.int .i64 vs6)))), (7, .c (.one (.v (.int .i64 vs7))))], [], []⟩ k' = f55L0 n (k' .ret ⟨[(2, .c (.one (.v (.bool false))))], [], []⟩) (fun (xvs7 : Int) (xvs8 : Bool) => k' (.exit 0) ⟨[(0, .c (.one (.ro .rcd vs0))), (5, .c (.one (.ro .rcd vs5))), (6, .c (.one (.v (.int .i64 vs6)))), (7, .c (.one (.v (.int .i64 xvs7)))), (8, .c (.one (.v (.bool xvs8))))], [], []⟩) vs0 vs5 vs6 m vs7 := by
  intro m; induction m with
  | zero => intros; rfl
  | succ m ih =>
    intro vs7
    simp only [iter]
    rw [f55L0_b]
    simp only [ih, f55L0]

noncomputable def f55K0 {R : Type} (n : Nat) (k' : Ex → St → Option R) : Ex → St → Option R := (blockK 0 (seqK f55e f55k n (cAt [1,1] f55c) k'))
theorem f55K0_x0 {R : Type} (n : Nat) (k : List Dt → Option R) (a0 : List RcdT)  : f55K0 n (exitK f55e [.ro] [false] true [.tmp 2] [4] [.d (.sl .rcd) a0] k) .ret ⟨[(2, .c (.one (.v (.bool false))))], [], []⟩ =
    (k [.d .bool false]) := by kernel_rfl
theorem f55K0_x1 {R : Type} (n : Nat) (k : List Dt → Option R) (a0 : List RcdT) (vs0 : List RcdT) (vs5 : List RcdT) (vs6 : Int) (xvs7 : Int) (xvs8 : Bool) : f55K0 n (exitK f55e [.ro] [false] true [.tmp 2] [4] [.d (.sl .rcd) a0] k) (.exit 0) ⟨[(0, .c (.one (.ro .rcd vs0))), (5, .c (.one (.ro .rcd vs5))), (6, .c (.one (.v (.int .i64 vs6)))), (7, .c (.one (.v (.int .i64 xvs7)))), (8, .c (.one (.v (.bool xvs8))))], [], []⟩ =
    (k [.d .bool (decide ((vs0.length : Int) ≤ (12 : Int)))]) := by kernel_rfl

theorem f55_run {R : Type} (n : Nat) (k : List Dt → Option R) (a0 : List RcdT) : evFn f55e f55k n f55c [.ro] [false] true [.tmp 2] [4] [.d (.sl .rcd) a0] k =
    (f55L0 n (k [.d .bool false]) (fun (xvs7 : Int) (xvs8 : Bool) =>
    (k [.d .bool (decide ((a0.length : Int) ≤ (12 : Int)))])) a0 a0 (a0.length : Int) n (0 : Int)) := by
  refine Eq.trans (b := (iter (fun st k => ev f55e f55k n (cAt [1,0,1,0,0] f55c) st k) n ⟨[(0, .c (.one (.ro .rcd a0))), (5, .c (.one (.ro .rcd a0))), (6, .c (.one (.v (.int .i64 (a0.length : Int))))), (7, .c (.one (.v (.int .i64 (0 : Int)))))], [], []⟩ (f55K0 n (exitK f55e [.ro] [false] true [.tmp 2] [4] [.d (.sl .rcd) a0] k)))) (by kernel_rfl) ?_
  simp only [f55L0_eq, f55K0_x0, f55K0_x1]
theorem f55_spec (a0 : List RcdT) (hg : smL sm_rcd a0 = true) : ∃ keep rounds, ∀ {R : Type} (k : List Dt → Option R), evFn f55e keep rounds f55c [.ro] [false] true [.tmp 2] [4] [.d (.sl .rcd) a0] k = k [.d .bool (recsOk a0)] := by
  have hl := smL_len hg
  refine ⟨f55k, a0.length + 1, fun {R} k => ?_⟩
  rw [f55_run]
  refine Eq.trans (loop_idx (n := a0.length) (F := fun m i => f55L0 (a0.length + 1) _ _ a0 a0 (a0.length : Int) m i) (p := rcdC a0) (good := k [.d .bool (decide ((a0.length : Int) ≤ (12 : Int)))]) (bad := k [.d .bool false])
    (fun m j hj => ?_) (fun m => by simp only [f55L0, idxE, cond_false]) (a0.length) 0 (a0.length + 1) (by omega) (by omega)) ?_
  · obtain ⟨h1, h0, hw, ht⟩ := idx hj (by omega)
    simp only [f55L0, h1, h0, hw, ht, isTime, isMany, Bool.and_self, cond_true]
    unfold rcdC
    by_cases hz : (j : Int) > 0
    · obtain ⟨h2, h3, _, h5⟩ := idx (show j - 1 < a0.length by omega) (by omega)
      simp only [hz, decide_true, cond_true, idxM hj (by omega) (by omega), h2, h3, h5, Bool.and_self]
      cases inR (atI (t := .rcd) a0 j).time 0 1000000 <;> cases inR (atI (t := .rcd) a0 j).n 0 1000 <;> cases decide ((atI (t := .rcd) a0 (j - 1)).time > (atI (t := .rcd) a0 j).time) <;> rfl
    · simp only [hz, decide_false, cond_false]
      cases inR (atI (t := .rcd) a0 j).time 0 1000000 <;> cases inR (atI (t := .rcd) a0 j).n 0 1000 <;> rfl
  · unfold recsOk
    cases allN (rcdC a0) 0 a0.length <;> rfl

noncomputable def q55 : List Dt → Option (Bool × List Dt)
  | [.d (.sl .rcd) a0] => some (((smL sm_rcd) a0), [.d .bool (recsOk a0)])
  | _ => none
noncomputable def s55 : Gm.Spec := Gm.Spec.of [.ro] [false] true q55
theorem good55 : Gm.Good Try.prog (55, s55) := by
  have hl : ∀ x ∈ [(37, s37), (40, s40)], Gm.Good Try.prog x := List.forall_mem_cons.2 ⟨good37, List.forall_mem_cons.2 ⟨good40, List.forall_mem_nil _⟩⟩
  refine ⟨⟨spec_ok (tab_ok.env hl) (tab.natl hl) Try.func55 (by kernel_rfl : Try.f55.body = some f55c) [4] (by kernel_rfl) ?_, _, Try.func55, by kernel_rfl, of_decide_eq_true (by kernel_rfl)⟩, Gm.Spec.of_natl _ _ _ _⟩
  intro ds outs h
  unfold q55 at h
  split at h
  · simp only [Option.some.injEq, Prod.mk.injEq] at h; obtain ⟨hg, h⟩ := h; cases h; exact f55_spec _ hg
  · cases h
/-! ### loop.example/g00465/spec.RecsOk -/
noncomputable def f49c : Code := (Try.f49.body).getD .skip
def f49k : Nat → Kp := kat [⟨[0], [], [], []⟩, ⟨[0, 3], [], [], []⟩, ⟨[0, 3, 7], [], [], []⟩, ⟨[0, 3], [], [], []⟩, ⟨[0, 3, 43], [], [], []⟩, ⟨[2], [], [], []⟩, ⟨[2], [], [], []⟩]
noncomputable def f49e : Env := tab.env [(16, s16)]
noncomputable def f49L0 {R : Type} (n : Nat) (x0 : Option R) (x1 : Int → Bool → Option R) (vs0 : List RcdT) : Nat → Int → Option R
  | 0, _ => none
  | m + 1, vs3 =>
    (cond (decide (vs3 < (vs0.length : Int)))
      (cond ((decide ((0 : Int) ≤ vs3)) && (decide (vs3 < (vs0.length : Int))))
        (cond (!(inR (RcdT.time (atI (t := .rcd) vs0 (Int.toNat vs3))) (0 : Int) (1000000 : Int)))
          (x0)
          (cond ((decide ((0 : Int) ≤ vs3)) && (decide (vs3 < (vs0.length : Int))))
            (cond (!(inR (RcdT.n (atI (t := .rcd) vs0 (Int.toNat vs3))) (0 : Int) (1000 : Int)))
              (x0)
              (cond (decide (vs3 > (0 : Int)))
                (cond ((decide ((0 : Int) ≤ (IntKind.wrap .i64 (vs3 - (1 : Int))))) && (decide ((IntKind.wrap .i64 (vs3 - (1 : Int))) < (vs0.length : Int))))
                  (cond ((decide ((0 : Int) ≤ vs3)) && (decide (vs3 < (vs0.length : Int))))
                    (cond (decide ((RcdT.time (atI (t := .rcd) vs0 (Int.toNat (IntKind.wrap .i64 (vs3 - (1 : Int)))))) > (RcdT.time (atI (t := .rcd) vs0 (Int.toNat vs3)))))
                      (x0)
                      (f49L0 n x0 x1 vs0 m (IntKind.wrap .i64 (vs3 + (1 : Int)))))
                    none)
                  none)
                (f49L0 n x0 x1 vs0 m (IntKind.wrap .i64 (vs3 + (1 : Int))))))
            none))
        none)
      (x1 vs3 (decide (vs3 < (vs0.length : Int)))))
theorem f49L0_b {R : Type} (n : Nat) (k' : Ex → St → Option R) (vs0 : List RcdT) (vs3 : Int) : ev f49e f49k n (cAt [1,0,1,0,0] f49c) ⟨[(0, .c (.one (.ro .rcd vs0))), (3, .c (.one (.v (.int .i64 vs3))))], [], []⟩ k' =
    (cond (decide (vs3 < (vs0.length : Int)))
    (cond ((decide ((0 : Int) ≤ vs3)) && (decide (vs3 < (vs0.length : Int))))
      (cond (!(inR (RcdT.time (atI (t := .rcd) vs0 (Int.toNat vs3))) (0 : Int) (1000000 : Int)))
        (k' .ret ⟨[(2, .c (.one (.v (.bool false))))], [], []⟩)
        (cond ((decide ((0 : Int) ≤ vs3)) && (decide (vs3 < (vs0.length : Int))))
          (cond (!(inR (RcdT.n (atI (t := .rcd) vs0 (Int.toNat vs3))) (0 : Int) (1000 : Int)))
            (k' .ret ⟨[(2, .c (.one (.v (.bool false))))], [], []⟩)
            (cond (decide (vs3 > (0 : Int)))
              (cond ((decide ((0 : Int) ≤ (IntKind.wrap .i64 (vs3 - (1 : Int))))) && (decide ((IntKind.wrap .i64 (vs3 - (1 : Int))) < (vs0.length : Int))))
                (cond ((decide ((0 : Int) ≤ vs3)) && (decide (vs3 < (vs0.length : Int))))
                  (cond (decide ((RcdT.time (atI (t := .rcd) vs0 (Int.toNat (IntKind.wrap .i64 (vs3 - (1 : Int)))))) > (RcdT.time (atI (t := .rcd) vs0 (Int.toNat vs3)))))
                    (k' .ret ⟨[(2, .c (.one (.v (.bool false))))], [], []⟩)
                    (k' .normal ⟨[(0, .c (.one (.ro .rcd vs0))), (3, .c (.one (.v (.int .i64 (IntKind.wrap .i64 (vs3 + (1 : Int)))))))], [], []⟩))
                  none)
                none)
              (k' .normal ⟨[(0, .c (.one (.ro .rcd vs0))), (3, .c (.one (.v (.int .i64 (IntKind.wrap .i64 (vs3 + (1 : Int)))))))], [], []⟩)))
          none))
      none)
    (k' (.exit 0) ⟨[(0, .c (.one (.ro .rcd vs0))), (3, .c (.one (.v (.int .i64 vs3)))), (7, .c (.one (.v (.bool (decide (vs3 < (vs0.length : Int)))))))], [], []⟩)) := by kernel_rfl
theorem f49L0_eq {R : Type} (n : Nat) (k' : Ex → St → Option R) (vs0 : List RcdT) : ∀ (m : Nat) (vs3 : Int), iter (fun st k => ev f49e f49k n (cAt [1,0,1,0,0] f49c) st k) m ⟨[(0, .c (.one (.ro .rcd vs0))), (3, .c (.one (.v (.int .i64 vs3))))], [], []⟩ k' = f49L0 n (k' .ret ⟨[(2, .c (.one (.v (.bool false))))], [], []⟩) (fun (xvs3 : Int) (xvs7 : Bool) => k' (.exit 0) ⟨[(0, .c (.one (.ro .rcd vs0))), (3, .c (.one (.v (.int .i64 xvs3)))), (7, .c (.one (.v (.bool xvs7))))], [], []⟩) vs0 m vs3 := by
  intro m; induction m with
  | zero => intros; rfl
  | succ m ih =>
    intro vs3
    simp only [iter]
    rw [f49L0_b]
    simp only [ih, f49L0]

noncomputable def f49K0 {R : Type} (n : Nat) (k' : Ex → St → Option R) : Ex → St → Option R := (blockK 0 (seqK f49e f49k n (cAt [1,1] f49c) k'))
theorem f49K0_x0 {R : Type} (n : Nat) (k : List Dt → Option R) (a0 : List RcdT)  : f49K0 n (exitK f49e [.ro] [false] true [.tmp 2] [4] [.d (.sl .rcd) a0] k) .ret ⟨[(2, .c (.one (.v (.bool false))))], [], []⟩ =
    (k [.d .bool false]) := by kernel_rfl
theorem f49K0_x1 {R : Type} (n : Nat) (k : List Dt → Option R) (a0 : List RcdT) (vs0 : List RcdT) (xvs3 : Int) (xvs7 : Bool) : f49K0 n (exitK f49e [.ro] [false] true [.tmp 2] [4] [.d (.sl .rcd) a0] k) (.exit 0) ⟨[(0, .c (.one (.ro .rcd vs0))), (3, .c (.one (.v (.int .i64 xvs3)))), (7, .c (.one (.v (.bool xvs7))))], [], []⟩ =
    (k [.d .bool (decide ((vs0.length : Int) ≤ (12 : Int)))]) := by kernel_rfl

theorem f49_run {R : Type} (n : Nat) (k : List Dt → Option R) (a0 : List RcdT) : evFn f49e f49k n f49c [.ro] [false] true [.tmp 2] [4] [.d (.sl .rcd) a0] k =
    (f49L0 n (k [.d .bool false]) (fun (xvs3 : Int) (xvs7 : Bool) =>
    (k [.d .bool (decide ((a0.length : Int) ≤ (12 : Int)))])) a0 n (0 : Int)) := by
  refine Eq.trans (b := (iter (fun st k => ev f49e f49k n (cAt [1,0,1,0,0] f49c) st k) n ⟨[(0, .c (.one (.ro .rcd a0))), (3, .c (.one (.v (.int .i64 (0 : Int)))))], [], []⟩ (f49K0 n (exitK f49e [.ro] [false] true [.tmp 2] [4] [.d (.sl .rcd) a0] k)))) (by kernel_rfl) ?_
  simp only [f49L0_eq, f49K0_x0, f49K0_x1]
theorem f49_spec (a0 : List RcdT) (hg : smL sm_rcd a0 = true) : ∃ keep rounds, ∀ {R : Type} (k : List Dt → Option R), evFn f49e keep rounds f49c [.ro] [false] true [.tmp 2] [4] [.d (.sl .rcd) a0] k = k [.d .bool (recsOk a0)] := by
  have hl := smL_len hg
  refine ⟨f49k, a0.length + 1, fun {R} k => ?_⟩
  rw [f49_run]
  refine Eq.trans (loop_idx (n := a0.length) (F := fun m i => f49L0 (a0.length + 1) _ _ a0 m i) (p := rcdC a0) (good := k [.d .bool (decide ((a0.length : Int) ≤ (12 : Int)))]) (bad := k [.d .bool false])
    (fun m j hj => ?_) (fun m => by simp only [f49L0, idxE, cond_false]) (a0.length) 0 (a0.length + 1) (by omega) (by omega)) ?_
  · obtain ⟨h1, h0, hw, ht⟩ := idx hj (by omega)
    simp only [f49L0, h1, h0, hw, ht, isTime, isMany, Bool.and_self, cond_true]
    unfold rcdC
    by_cases hz : (j : Int) > 0
    · obtain ⟨h2, h3, _, h5⟩ := idx (show j - 1 < a0.length by omega) (by omega)
      simp only [hz, decide_true, cond_true, idxM hj (by omega) (by omega), h2, h3, h5, Bool.and_self]
      cases inR (atI (t := .rcd) a0 j).time 0 1000000 <;> cases inR (atI (t := .rcd) a0 j).n 0 1000 <;> cases decide ((atI (t := .rcd) a0 (j - 1)).time > (atI (t := .rcd) a0 j).time) <;> rfl
    · simp only [hz, decide_false, cond_false]
      cases inR (atI (t := .rcd) a0 j).time 0 1000000 <;> cases inR (atI (t := .rcd) a0 j).n 0 1000 <;> rfl
  · unfold recsOk
    cases allN (rcdC a0) 0 a0.length <;> rfl

noncomputable def q49 : List Dt → Option (Bool × List Dt)
  | [.d (.sl .rcd) a0] => some (((smL sm_rcd) a0), [.d .bool (recsOk a0)])
  | _ => none
noncomputable def s49 : Gm.Spec := Gm.Spec.of [.ro] [false] true q49
theorem good49 : Gm.Good Try.prog (49, s49) := by
  have hl : ∀ x ∈ [(16, s16)], Gm.Good Try.prog x := List.forall_mem_cons.2 ⟨good16, List.forall_mem_nil _⟩
  refine ⟨⟨spec_ok (tab_ok.env hl) (tab.natl hl) Try.func49 (by kernel_rfl : Try.f49.body = some f49c) [4] (by kernel_rfl) ?_, _, Try.func49, by kernel_rfl, of_decide_eq_true (by kernel_rfl)⟩, Gm.Spec.of_natl _ _ _ _⟩
  intro ds outs h
  unfold q49 at h
  split at h
  · simp only [Option.some.injEq, Prod.mk.injEq] at h; obtain ⟨hg, h⟩ := h; cases h; exact f49_spec _ hg
  · cases h
/-! ### loop.example/g00465/impl.ScaleOk -/
noncomputable def f38c : Code := (Try.f38.body).getD .skip
def f38k : Nat → Kp := kat [⟨[1], [], [], []⟩, ⟨[2], [], [], []⟩]
noncomputable def f38e : Env := tab.env [(39, s39), (40, s40), (55, s55)]
theorem f38_run {R : Type} (n : Nat) (k : List Dt → Option R) (a0 : ScaleT) : evFn f38e f38k n f38c [.ro] [false] true [.tmp 2] [4] [.d .scale a0] k =
    (cond (okStr (ScaleT.name a0))
    (cond (nameOk (ScaleT.name a0))
      (cond (isMany (ScaleT.now a0))
        (cond ((smL sm_rcd) (ScaleT.recs a0))
          (k [.d .bool (recsOk (ScaleT.recs a0))])
          none)
        (k [.d .bool false]))
      (k [.d .bool false]))
    none) := by kernel_rfl
theorem f38_spec (a0 : ScaleT) (hg : sm_scale a0 = true) : ∃ keep rounds, ∀ {R : Type} (k : List Dt → Option R), evFn f38e keep rounds f38c [.ro] [false] true [.tmp 2] [4] [.d .scale a0] k = k [.d .bool (scaleOk a0)] := by
  simp only [sm_scale, Bool.and_eq_true] at hg
  refine ⟨f38k, 0, fun k => ?_⟩
  rw [f38_run, okStr_sm hg.1, hg.2.2]; unfold scaleOk
  try simp only [isMany]
  cases nameOk a0.name <;> cases inR a0.now 0 1000 <;> rfl

noncomputable def q38 : List Dt → Option (Bool × List Dt)
  | [.d .scale a0] => some ((sm_scale a0), [.d .bool (scaleOk a0)])
  | _ => none
noncomputable def s38 : Gm.Spec := Gm.Spec.of [.ro] [false] true q38
theorem good38 : Gm.Good Try.prog (38, s38) := by
  have hl : ∀ x ∈ [(39, s39), (40, s40), (55, s55)], Gm.Good Try.prog x := List.forall_mem_cons.2 ⟨good39, List.forall_mem_cons.2 ⟨good40, List.forall_mem_cons.2 ⟨good55, List.forall_mem_nil _⟩⟩⟩
  refine ⟨⟨spec_ok (tab_ok.env hl) (tab.natl hl) Try.func38 (by kernel_rfl : Try.f38.body = some f38c) [4] (by kernel_rfl) ?_, _, Try.func38, by kernel_rfl, of_decide_eq_true (by kernel_rfl)⟩, Gm.Spec.of_natl _ _ _ _⟩
  intro ds outs h
  unfold q38 at h
  split at h
  · simp only [Option.some.injEq, Prod.mk.injEq] at h; obtain ⟨hg, h⟩ := h; cases h; exact f38_spec _ hg
  · cases h
/-! ### loop.example/g00465/spec.ScaleOk -/
noncomputable def f31c : Code := (Try.f31.body).getD .skip
def f31k : Nat → Kp := kat [⟨[1], [], [], []⟩, ⟨[2], [], [], []⟩]
noncomputable def f31e : Env := tab.env [(16, s16), (48, s48), (49, s49)]
theorem f31_run {R : Type} (n : Nat) (k : List Dt → Option R) (a0 : ScaleT) : evFn f31e f31k n f31c [.ro] [false] true [.tmp 2] [4] [.d .scale a0] k =
    (cond (okStr (ScaleT.name a0))
    (cond (nameOk (ScaleT.name a0))
      (cond (inR (ScaleT.now a0) (0 : Int) (1000 : Int))
        (cond ((smL sm_rcd) (ScaleT.recs a0))
          (k [.d .bool (recsOk (ScaleT.recs a0))])
          none)
        (k [.d .bool false]))
      (k [.d .bool false]))
    none) := by kernel_rfl
theorem f31_spec (a0 : ScaleT) (hg : sm_scale a0 = true) : ∃ keep rounds, ∀ {R : Type} (k : List Dt → Option R), evFn f31e keep rounds f31c [.ro] [false] true [.tmp 2] [4] [.d .scale a0] k = k [.d .bool (scaleOk a0)] := by
  simp only [sm_scale, Bool.and_eq_true] at hg
  refine ⟨f31k, 0, fun k => ?_⟩
  rw [f31_run, okStr_sm hg.1, hg.2.2]; unfold scaleOk
  try simp only [isMany]
  cases nameOk a0.name <;> cases inR a0.now 0 1000 <;> rfl

noncomputable def q31 : List Dt → Option (Bool × List Dt)
  | [.d .scale a0] => some ((sm_scale a0), [.d .bool (scaleOk a0)])
  | _ => none
noncomputable def s31 : Gm.Spec := Gm.Spec.of [.ro] [false] true q31
theorem good31 : Gm.Good Try.prog (31, s31) := by
  have hl : ∀ x ∈ [(16, s16), (48, s48), (49, s49)], Gm.Good Try.prog x := List.forall_mem_cons.2 ⟨good16, List.forall_mem_cons.2 ⟨good48, List.forall_mem_cons.2 ⟨good49, List.forall_mem_nil _⟩⟩⟩
  refine ⟨⟨spec_ok (tab_ok.env hl) (tab.natl hl) Try.func31 (by kernel_rfl : Try.f31.body = some f31c) [4] (by kernel_rfl) ?_, _, Try.func31, by kernel_rfl, of_decide_eq_true (by kernel_rfl)⟩, Gm.Spec.of_natl _ _ _ _⟩
  intro ds outs h
  unfold q31 at h
  split at h
  · simp only [Option.some.injEq, Prod.mk.injEq] at h; obtain ⟨hg, h⟩ := h; cases h; exact f31_spec _ hg
  · cases h
/-! ### loop.example/g00465/impl.StoreOk -/
noncomputable def f36c : Code := (Try.f36.body).getD .skip
def f36k : Nat → Kp := kat [⟨[1], [], [], []⟩, ⟨[1, 14], [], [], []⟩, ⟨[2], [], [], []⟩, ⟨[1, 16, 17, 18], [], [], []⟩, ⟨[1, 16, 17, 18, 19], [], [], []⟩, ⟨[1, 3, 4, 16, 17, 18], [], [], []⟩, ⟨[1, 3, 4, 16, 17, 18, 53], [], [], []⟩, ⟨[2], [], [], []⟩, ⟨[1, 16, 17, 18, 59], [], [], []⟩, ⟨[2], [], [], []⟩, ⟨[1, 16, 17, 18], [], [], []⟩, ⟨[2], [], [], []⟩]
noncomputable def f36e : Env := tab.env [(23, s23), (52, s52), (53, s53), (54, s54)]
noncomputable def f36L0 {R : Type} (n : Nat) (x0 : Option R) (x1 : Int → Bool → Option R) (vs16 : List ItemT) (vs17 : Int) (vb1_0 : List ItemT) (vb1_1 : Int) : Nat → Int → Option R
  | 0, _ => none
  | m + 1, vs18 =>
    (cond (decide (vs18 < vs17))
      (cond ((decide ((0 : Int) ≤ vs18)) && (decide (vs18 < (vs16.length : Int))))
        (cond (sm_order (ItemT.order (atI (t := .item) vs16 (Int.toNat vs18))))
          (cond (!(orderOk (ItemT.order (atI (t := .item) vs16 (Int.toNat vs18)))))
            (x0)
            (cond (!(inR (ItemT.ver (atI (t := .item) vs16 (Int.toNat vs18))) (1 : Int) (IntKind.wrap .i64 (vb1_1 - (1 : Int)))))
              (x0)
              (cond (decide (vs18 > (0 : Int)))
                (cond ((decide ((0 : Int) ≤ (IntKind.wrap .i64 (vs18 - (1 : Int))))) && (decide ((IntKind.wrap .i64 (vs18 - (1 : Int))) < (vb1_0.length : Int))))
                  (cond (!(sLt (OrderT.name (ItemT.order (atI (t := .item) vb1_0 (Int.toNat (IntKind.wrap .i64 (vs18 - (1 : Int))))))) (OrderT.name (ItemT.order (atI (t := .item) vs16 (Int.toNat vs18))))))
                    (x0)
                    (cond ((decide ((0 : Int) ≤ vs18)) && (decide (vs18 ≤ (vb1_0.length : Int))))
                      (cond ((fun (x : List ItemT) (_ : ItemT) => gLenW x) ((vb1_0.take (Int.toNat vs18)).drop 0) (atI (t := .item) vs16 (Int.toNat vs18)))
                        (cond (verIn ((vb1_0.take (Int.toNat vs18)).drop 0) (atI (t := .item) vs16 (Int.toNat vs18)))
                          (x0)
                          (f36L0 n x0 x1 vs16 vs17 vb1_0 vb1_1 m (IntKind.wrap .i64 (vs18 + (1 : Int)))))
                        none)
                      none))
                  none)
                (cond ((decide ((0 : Int) ≤ vs18)) && (decide (vs18 ≤ (vb1_0.length : Int))))
                  (cond ((fun (x : List ItemT) (_ : ItemT) => gLenW x) ((vb1_0.take (Int.toNat vs18)).drop 0) (atI (t := .item) vs16 (Int.toNat vs18)))
                    (cond (verIn ((vb1_0.take (Int.toNat vs18)).drop 0) (atI (t := .item) vs16 (Int.toNat vs18)))
                      (x0)
                      (f36L0 n x0 x1 vs16 vs17 vb1_0 vb1_1 m (IntKind.wrap .i64 (vs18 + (1 : Int)))))
                    none)
                  none))))
          none)
        none)
      (x1 vs18 (decide (vs18 < vs17))))
theorem f36L0_b {R : Type} (n : Nat) (k' : Ex → St → Option R) (vs16 : List ItemT) (vs17 : Int) (vs18 : Int) (vb1_0 : List ItemT) (vb1_1 : Int) : ev f36e f36k n (cAt [1,1,0,1,0,0] f36c) ⟨[(1, .c (.one (.pt 1 0))), (16, .c (.one (.ro .item vs16))), (17, .c (.one (.v (.int .i64 vs17)))), (18, .c (.one (.v (.int .i64 vs18))))], [(1, ⟨.store, [.ro .item vb1_0, .v (.int .i64 vb1_1)]⟩)], []⟩ k' =
    (cond (decide (vs18 < vs17))
    (cond ((decide ((0 : Int) ≤ vs18)) && (decide (vs18 < (vs16.length : Int))))
      (cond (sm_order (ItemT.order (atI (t := .item) vs16 (Int.toNat vs18))))
        (cond (!(orderOk (ItemT.order (atI (t := .item) vs16 (Int.toNat vs18)))))
          (k' .ret ⟨[(2, .c (.one (.v (.bool false))))], [], []⟩)
          (cond (!(inR (ItemT.ver (atI (t := .item) vs16 (Int.toNat vs18))) (1 : Int) (IntKind.wrap .i64 (vb1_1 - (1 : Int)))))
            (k' .ret ⟨[(2, .c (.one (.v (.bool false))))], [], []⟩)
            (cond (decide (vs18 > (0 : Int)))
              (cond ((decide ((0 : Int) ≤ (IntKind.wrap .i64 (vs18 - (1 : Int))))) && (decide ((IntKind.wrap .i64 (vs18 - (1 : Int))) < (vb1_0.length : Int))))
                (cond (!(sLt (OrderT.name (ItemT.order (atI (t := .item) vb1_0 (Int.toNat (IntKind.wrap .i64 (vs18 - (1 : Int))))))) (OrderT.name (ItemT.order (atI (t := .item) vs16 (Int.toNat vs18))))))
                  (k' .ret ⟨[(2, .c (.one (.v (.bool false))))], [], []⟩)
                  (cond ((decide ((0 : Int) ≤ vs18)) && (decide (vs18 ≤ (vb1_0.length : Int))))
                    (cond ((fun (x : List ItemT) (_ : ItemT) => gLenW x) ((vb1_0.take (Int.toNat vs18)).drop 0) (atI (t := .item) vs16 (Int.toNat vs18)))
                      (cond (verIn ((vb1_0.take (Int.toNat vs18)).drop 0) (atI (t := .item) vs16 (Int.toNat vs18)))
                        (k' .ret ⟨[(2, .c (.one (.v (.bool false))))], [], []⟩)
                        (k' .normal ⟨[(1, .c (.one (.pt 1 0))), (16, .c (.one (.ro .item vs16))), (17, .c (.one (.v (.int .i64 vs17)))), (18, .c (.one (.v (.int .i64 (IntKind.wrap .i64 (vs18 + (1 : Int)))))))], [(1, ⟨.store, [.ro .item vb1_0, .v (.int .i64 vb1_1)]⟩)], []⟩))
                      none)
                    none))
                none)
              (cond ((decide ((0 : Int) ≤ vs18)) && (decide (vs18 ≤ (vb1_0.length : Int))))
                (cond ((fun (x : List ItemT) (_ : ItemT) => gLenW x) ((vb1_0.take (Int.toNat vs18)).drop 0) (atI (t := .item) vs16 (Int.toNat vs18)))
                  (cond (verIn ((vb1_0.take (Int.toNat vs18)).drop 0) (atI (t := .item) vs16 (Int.toNat vs18)))
                    (k' .ret ⟨[(2, .c (.one (.v (.bool false))))], [], []⟩)
                    (k' .normal ⟨[(1, .c (.one (.pt 1 0))), (16, .c (.one (.ro .item vs16))), (17, .c (.one (.v (.int .i64 vs17)))), (18, .c (.one (.v (.int .i64 (IntKind.wrap .i64 (vs18 + (1 : Int)))))))], [(1, ⟨.store, [.ro .item vb1_0, .v (.int .i64 vb1_1)]⟩)], []⟩))
                  none)
                none))))
        none)
      none)
    (k' (.exit 0) ⟨[(1, .c (.one (.pt 1 0))), (16, .c (.one (.ro .item vs16))), (17, .c (.one (.v (.int .i64 vs17)))), (18, .c (.one (.v (.int .i64 vs18)))), (19, .c (.one (.v (.bool (decide (vs18 < vs17))))))], [(1, ⟨.store, [.ro .item vb1_0, .v (.int .i64 vb1_1)]⟩)], []⟩)) := by kernel_rfl
theorem f36L0_eq {R : Type} (n : Nat) (k' : Ex → St → Option R) (vs16 : List ItemT) (vs17 : Int) (vb1_0 : List ItemT) (vb1_1 : Int) : ∀ (m : Nat) (vs18 : Int), iter (fun st k => ev f36e f36k n (cAt [1,1,0,1,0,0] f36c) st k) m ⟨[(1, .c (.one (.pt 1 0))), (16, .c (.one (.ro .item vs16))), (17, .c (.one (.v (.int .i64 vs17)))), (18, .c (.one (.v (.int .i64 vs18))))], [(1, ⟨.store, [.ro .item vb1_0, .v (.int .i64 vb1_1)]⟩)], []⟩ k' = f36L0 n (k' .ret ⟨[(2, .c (.one (.v (.bool false))))], [], []⟩) (fun (xvs18 : Int) (xvs19 : Bool) => k' (.exit 0) ⟨[(1, .c (.one (.pt 1 0))), (16, .c (.one (.ro .item vs16))), (17, .c (.one (.v (.int .i64 vs17)))), (18, .c (.one (.v (.int .i64 xvs18)))), (19, .c (.one (.v (.bool xvs19))))], [(1, ⟨.store, [.ro .item vb1_0, .v (.int .i64 vb1_1)]⟩)], []⟩) vs16 vs17 vb1_0 vb1_1 m vs18 := by
  intro m; induction m with
  | zero => intros; rfl
  | succ m ih =>
    intro vs18
    simp only [iter]
    rw [f36L0_b]
    simp only [ih, f36L0]

noncomputable def f36K0 {R : Type} (n : Nat) (k' : Ex → St → Option R) : Ex → St → Option R := (blockK 0 (seqK f36e f36k n (cAt [1,1,1] f36c) k'))
theorem f36K0_x0 {R : Type} (n : Nat) (k : List Dt → Option R) (a0 : StoreT)  : f36K0 n (exitK f36e [.ro] [false] true [.tmp 2] [4] [.d .store a0] k) .ret ⟨[(2, .c (.one (.v (.bool false))))], [], []⟩ =
    (k [.d .bool false]) := by kernel_rfl
theorem f36K0_x1 {R : Type} (n : Nat) (k : List Dt → Option R) (a0 : StoreT) (vs16 : List ItemT) (vs17 : Int) (vb1_0 : List ItemT) (vb1_1 : Int) (xvs18 : Int) (xvs19 : Bool) : f36K0 n (exitK f36e [.ro] [false] true [.tmp 2] [4] [.d .store a0] k) (.exit 0) ⟨[(1, .c (.one (.pt 1 0))), (16, .c (.one (.ro .item vs16))), (17, .c (.one (.v (.int .i64 vs17)))), (18, .c (.one (.v (.int .i64 xvs18)))), (19, .c (.one (.v (.bool xvs19))))], [(1, ⟨.store, [.ro .item vb1_0, .v (.int .i64 vb1_1)]⟩)], []⟩ =
    (k [.d .bool true]) := by kernel_rfl

theorem f36_run {R : Type} (n : Nat) (k : List Dt → Option R) (a0 : StoreT) : evFn f36e f36k n f36c [.ro] [false] true [.tmp 2] [4] [.d .store a0] k =
    (cond (decide (((StoreT.items a0).length : Int) > (6 : Int)))
    (k [.d .bool false])
    (cond (!(inR (StoreT.next a0) (1 : Int) (100000 : Int)))
      (k [.d .bool false])
      (f36L0 n (k [.d .bool false]) (fun (xvs18 : Int) (xvs19 : Bool) =>
        (k [.d .bool true])) (StoreT.items a0) ((StoreT.items a0).length : Int) (StoreT.items a0) (StoreT.next a0) n (0 : Int)))) := by
  refine Eq.trans (b := (cond (decide (((StoreT.items a0).length : Int) > (6 : Int)))
    (k [.d .bool false])
    (cond (!(inR (StoreT.next a0) (1 : Int) (100000 : Int)))
      (k [.d .bool false])
      (iter (fun st k => ev f36e f36k n (cAt [1,1,0,1,0,0] f36c) st k) n ⟨[(1, .c (.one (.pt 1 0))), (16, .c (.one (.ro .item (StoreT.items a0)))), (17, .c (.one (.v (.int .i64 ((StoreT.items a0).length : Int))))), (18, .c (.one (.v (.int .i64 (0 : Int)))))], [(1, ⟨.store, [.ro .item (StoreT.items a0), .v (.int .i64 (StoreT.next a0))]⟩)], []⟩ (f36K0 n (exitK f36e [.ro] [false] true [.tmp 2] [4] [.d .store a0] k)))))) (by kernel_rfl) ?_
  simp only [f36L0_eq, f36K0_x0, f36K0_x1]
theorem f36_spec (a0 : StoreT) (hg : sm_store a0 = true) : ∃ keep rounds, ∀ {R : Type} (k : List Dt → Option R), evFn f36e keep rounds f36c [.ro] [false] true [.tmp 2] [4] [.d .store a0] k = k [.d .bool (storeOk a0)] := by
  simp only [sm_store, Bool.and_eq_true] at hg
  have hl := smL_len hg.1
  refine ⟨f36k, a0.items.length + 1, fun {R} k => ?_⟩
  rw [f36_run]
  unfold storeOk
  cases hb : inR a0.next 1 100000
  · cases decide ((a0.items.length : Int) > 6) <;> rfl
  rw [inR_iff] at hb
  by_cases h6 : (a0.items.length : Int) > 6
  · rw [decide_eq_true h6, decide_eq_false (show ¬ ((a0.items.length : Int) ≤ 6) by omega)]; rfl
  rw [decide_eq_false h6, decide_eq_true (show (a0.items.length : Int) ≤ 6 by omega)]
  simp only [Bool.not_true, cond_false, Bool.true_and]
  refine Eq.trans (loop_idx (n := a0.items.length) (F := fun m i => f36L0 (a0.items.length + 1) _ _ a0.items (a0.items.length : Int) a0.items a0.next m i) (p := itemC a0.items a0.next) (good := k [.d .bool true]) (bad := k [.d .bool false])
    (fun m j hj => ?_) (fun m => by simp only [f36L0, idxE, cond_false]) (a0.items.length) 0 (a0.items.length + 1) (by omega) (by omega)) ?_
  · obtain ⟨h1, h0, hw, ht⟩ := idx hj (by omega)
    have hx := smL_at (t := .item) hg.1 hj
    simp only [sm_item, Bool.and_eq_true] at hx
    have hle : decide ((j : Int) ≤ (a0.items.length : Int)) = true := decide_eq_true (by omega)
    have hgl : gLenW (a0.items.take j) = true := gLenW_of (by rw [List.length_take]; omega)
    simp only [f36L0, h1, h0, hw, ht, hx.1, hle, hgl, List.drop_zero, wrap_id (x := a0.next - 1) (by omega) (by omega), Bool.and_self, cond_true]
    unfold itemC
    by_cases hz : (j : Int) > 0
    · obtain ⟨h2, h3, _, h5⟩ := idx (show j - 1 < a0.items.length by omega) (by omega)
      simp only [hz, decide_true, cond_true, idxM hj (by omega) (by omega), h2, h3, h5, Bool.and_self]
      cases orderOk (atI (t := .item) a0.items j).order <;> cases inR (atI (t := .item) a0.items j).ver 1 (a0.next - 1) <;> cases sLt (atI (t := .item) a0.items (j - 1)).order.name (atI (t := .item) a0.items j).order.name <;> cases verIn (a0.items.take j) (atI (t := .item) a0.items j) <;> rfl
    · simp only [hz, decide_false, cond_false]
      cases orderOk (atI (t := .item) a0.items j).order <;> cases inR (atI (t := .item) a0.items j).ver 1 (a0.next - 1) <;> cases verIn (a0.items.take j) (atI (t := .item) a0.items j) <;> rfl
  · cases allN (itemC a0.items a0.next) 0 a0.items.length <;> rfl

noncomputable def q36 : List Dt → Option (Bool × List Dt)
  | [.d .store a0] => some ((sm_store a0), [.d .bool (storeOk a0)])
  | _ => none
noncomputable def s36 : Gm.Spec := Gm.Spec.of [.ro] [false] true q36
theorem good36 : Gm.Good Try.prog (36, s36) := by
  have hl : ∀ x ∈ [(23, s23), (52, s52), (53, s53), (54, s54)], Gm.Good Try.prog x := List.forall_mem_cons.2 ⟨good23, List.forall_mem_cons.2 ⟨good52, List.forall_mem_cons.2 ⟨good53, List.forall_mem_cons.2 ⟨good54, List.forall_mem_nil _⟩⟩⟩⟩
  refine ⟨⟨spec_ok (tab_ok.env hl) (tab.natl hl) Try.func36 (by kernel_rfl : Try.f36.body = some f36c) [4] (by kernel_rfl) ?_, _, Try.func36, by kernel_rfl, of_decide_eq_true (by kernel_rfl)⟩, Gm.Spec.of_natl _ _ _ _⟩
  intro ds outs h
  unfold q36 at h
  split at h
  · simp only [Option.some.injEq, Prod.mk.injEq] at h; obtain ⟨hg, h⟩ := h; cases h; exact f36_spec _ hg
  · cases h
/-! ### loop.example/g00465/spec.StoreOk -/
noncomputable def f30c : Code := (Try.f30.body).getD .skip
def f30k : Nat → Kp := kat [⟨[1], [], [], []⟩, ⟨[1, 15], [], [], []⟩, ⟨[2], [], [], []⟩, ⟨[1, 3], [], [], []⟩, ⟨[1, 3, 20], [], [], []⟩, ⟨[1, 3], [], [], []⟩, ⟨[1, 3, 4], [], [], []⟩, ⟨[1, 3, 4, 58], [], [], []⟩, ⟨[2], [], [], []⟩, ⟨[1, 3, 4, 5], [], [], []⟩, ⟨[1, 3, 4, 5, 61], [], [], []⟩, ⟨[1, 3, 4, 5], [], [], []⟩, ⟨[1, 3, 4, 5, 72], [], [], []⟩, ⟨[2], [], [], []⟩, ⟨[2], [], [], []⟩]
noncomputable def f30e : Env := tab.env [(16, s16), (47, s47)]
noncomputable def f30L0 {R : Type} (n : Nat) (x0 : Option R) (x1 : Int → Bool → Option R) (vs3 : Int) (vb1_0 : List ItemT) (vb1_1 : Int) (vb4_0 : ByteArray) (vb4_1 : ByteArray) (vb4_2 : Int) (vb4_3 : Int) (vb4_4 : List MetricT) (vb4_5 : Int) (vb4_6 : Int) (vb4_7 : Int) (vb4_8 : Int) (vb4_9 : List NoteT) (vb4_10 : Int) : Nat → Int → Option R
  | 0, _ => none
  | m + 1, vs5 =>
    (cond (decide (vs5 < vs3))
      (cond ((decide ((0 : Int) ≤ vs5)) && (decide (vs5 < (vb1_0.length : Int))))
        (cond ((ItemT.ver (atI (t := .item) vb1_0 (Int.toNat vs5))) == vb4_10)
          (x0)
          (f30L0 n x0 x1 vs3 vb1_0 vb1_1 vb4_0 vb4_1 vb4_2 vb4_3 vb4_4 vb4_5 vb4_6 vb4_7 vb4_8 vb4_9 vb4_10 m (IntKind.wrap .i64 (vs5 + (1 : Int)))))
        none)
      (x1 vs5 (decide (vs5 < vs3))))
theorem f30L0_b {R : Type} (n : Nat) (k' : Ex → St → Option R) (vs3 : Int) (vs5 : Int) (vb1_0 : List ItemT) (vb1_1 : Int) (vb4_0 : ByteArray) (vb4_1 : ByteArray) (vb4_2 : Int) (vb4_3 : Int) (vb4_4 : List MetricT) (vb4_5 : Int) (vb4_6 : Int) (vb4_7 : Int) (vb4_8 : Int) (vb4_9 : List NoteT) (vb4_10 : Int) : ev f30e f30k n (cAt [1,1,0,1,0,0,1,0,0,1,1,1,0,0] f30c) ⟨[(1, .c (.one (.pt 1 0))), (3, .c (.one (.v (.int .i64 vs3)))), (4, .c (.one (.pt 4 0))), (5, .c (.one (.v (.int .i64 vs5))))], [(1, ⟨.store, [.ro .item vb1_0, .v (.int .i64 vb1_1)]⟩), (4, ⟨.item, [.v (.string vb4_0), .v (.string vb4_1), .v (.int .i64 vb4_2), .v (.int .i64 vb4_3), .ro .metric vb4_4, .v (.int .i64 vb4_5), .v (.int .i64 vb4_6), .v (.int .i64 vb4_7), .v (.int .i64 vb4_8), .ro .note vb4_9, .v (.int .i64 vb4_10)]⟩)], []⟩ k' =
    (cond (decide (vs5 < vs3))
    (cond ((decide ((0 : Int) ≤ vs5)) && (decide (vs5 < (vb1_0.length : Int))))
      (cond ((ItemT.ver (atI (t := .item) vb1_0 (Int.toNat vs5))) == vb4_10)
        (k' .ret ⟨[(2, .c (.one (.v (.bool false))))], [], []⟩)
        (k' .normal ⟨[(1, .c (.one (.pt 1 0))), (3, .c (.one (.v (.int .i64 vs3)))), (4, .c (.one (.pt 4 0))), (5, .c (.one (.v (.int .i64 (IntKind.wrap .i64 (vs5 + (1 : Int)))))))], [(1, ⟨.store, [.ro .item vb1_0, .v (.int .i64 vb1_1)]⟩), (4, ⟨.item, [.v (.string vb4_0), .v (.string vb4_1), .v (.int .i64 vb4_2), .v (.int .i64 vb4_3), .ro .metric vb4_4, .v (.int .i64 vb4_5), .v (.int .i64 vb4_6), .v (.int .i64 vb4_7), .v (.int .i64 vb4_8), .ro .note vb4_9, .v (.int .i64 vb4_10)]⟩)], []⟩))
      none)
    (k' (.exit 2) ⟨[(1, .c (.one (.pt 1 0))), (3, .c (.one (.v (.int .i64 vs3)))), (4, .c (.one (.pt 4 0))), (5, .c (.one (.v (.int .i64 vs5)))), (61, .c (.one (.v (.bool (decide (vs5 < vs3))))))], [(1, ⟨.store, [.ro .item vb1_0, .v (.int .i64 vb1_1)]⟩), (4, ⟨.item, [.v (.string vb4_0), .v (.string vb4_1), .v (.int .i64 vb4_2), .v (.int .i64 vb4_3), .ro .metric vb4_4, .v (.int .i64 vb4_5), .v (.int .i64 vb4_6), .v (.int .i64 vb4_7), .v (.int .i64 vb4_8), .ro .note vb4_9, .v (.int .i64 vb4_10)]⟩)], []⟩)) := by kernel_rfl
theorem f30L0_eq {R : Type} (n : Nat) (k' : Ex → St → Option R) (vs3 : Int) (vb1_0 : List ItemT) (vb1_1 : Int) (vb4_0 : ByteArray) (vb4_1 : ByteArray) (vb4_2 : Int) (vb4_3 : Int) (vb4_4 : List MetricT) (vb4_5 : Int) (vb4_6 : Int) (vb4_7 : Int) (vb4_8 : Int) (vb4_9 : List NoteT) (vb4_10 : Int) : ∀ (m : Nat) (vs5 : Int), iter (fun st k => ev f30e f30k n (cAt [1,1,0,1,0,0,1,0,0,1,1,1,0,0] f30c) st k) m ⟨[(1, .c (.one (.pt 1 0))), (3, .c (.one (.v (.int .i64 vs3)))), (4, .c (.one (.pt 4 0))), (5, .c (.one (.v (.int .i64 vs5))))], [(1, ⟨.store, [.ro .item vb1_0, .v (.int .i64 vb1_1)]⟩), (4, ⟨.item, [.v (.string vb4_0), .v (.string vb4_1), .v (.int .i64 vb4_2), .v (.int .i64 vb4_3), .ro .metric vb4_4, .v (.int .i64 vb4_5), .v (.int .i64 vb4_6), .v (.int .i64 vb4_7), .v (.int .i64 vb4_8), .ro .note vb4_9, .v (.int .i64 vb4_10)]⟩)], []⟩ k' = f30L0 n (k' .ret ⟨[(2, .c (.one (.v (.bool false))))], [], []⟩) (fun (xvs5 : Int) (xvs61 : Bool) => k' (.exit 2) ⟨[(1, .c (.one (.pt 1 0))), (3, .c (.one (.v (.int .i64 vs3)))), (4, .c (.one (.pt 4 0))), (5, .c (.one (.v (.int .i64 xvs5)))), (61, .c (.one (.v (.bool xvs61))))], [(1, ⟨.store, [.ro .item vb1_0, .v (.int .i64 vb1_1)]⟩), (4, ⟨.item, [.v (.string vb4_0), .v (.string vb4_1), .v (.int .i64 vb4_2), .v (.int .i64 vb4_3), .ro .metric vb4_4, .v (.int .i64 vb4_5), .v (.int .i64 vb4_6), .v (.int .i64 vb4_7), .v (.int .i64 vb4_8), .ro .note vb4_9, .v (.int .i64 vb4_10)]⟩)], []⟩) vs3 vb1_0 vb1_1 vb4_0 vb4_1 vb4_2 vb4_3 vb4_4 vb4_5 vb4_6 vb4_7 vb4_8 vb4_9 vb4_10 m vs5 := by
  intro m; induction m with
  | zero => intros; rfl
  | succ m ih =>
    intro vs5
    simp only [iter]
    rw [f30L0_b]
    simp only [ih, f30L0]

noncomputable def f30K0 {R : Type} (n : Nat) (k' : Ex → St → Option R) : Ex → St → Option R := (blockK 2 (blockK 1 (seqK f30e f30k n (cAt [1,1,0,1,0,0,1,1] f30c) k')))
theorem f30K0_x0 {R : Type} (n : Nat) (k' : Ex → St → Option R)  : f30K0 n k' .ret ⟨[(2, .c (.one (.v (.bool false))))], [], []⟩ =
    (k' .ret ⟨[(2, .c (.one (.v (.bool false))))], [], []⟩) := by kernel_rfl
theorem f30K0_x1 {R : Type} (n : Nat) (k' : Ex → St → Option R) (vs3 : Int) (vb1_0 : List ItemT) (vb1_1 : Int) (vb4_0 : ByteArray) (vb4_1 : ByteArray) (vb4_2 : Int) (vb4_3 : Int) (vb4_4 : List MetricT) (vb4_5 : Int) (vb4_6 : Int) (vb4_7 : Int) (vb4_8 : Int) (vb4_9 : List NoteT) (vb4_10 : Int) (xvs5 : Int) (xvs61 : Bool) : f30K0 n k' (.exit 2) ⟨[(1, .c (.one (.pt 1 0))), (3, .c (.one (.v (.int .i64 vs3)))), (4, .c (.one (.pt 4 0))), (5, .c (.one (.v (.int .i64 xvs5)))), (61, .c (.one (.v (.bool xvs61))))], [(1, ⟨.store, [.ro .item vb1_0, .v (.int .i64 vb1_1)]⟩), (4, ⟨.item, [.v (.string vb4_0), .v (.string vb4_1), .v (.int .i64 vb4_2), .v (.int .i64 vb4_3), .ro .metric vb4_4, .v (.int .i64 vb4_5), .v (.int .i64 vb4_6), .v (.int .i64 vb4_7), .v (.int .i64 vb4_8), .ro .note vb4_9, .v (.int .i64 vb4_10)]⟩)], []⟩ =
    (k' .normal ⟨[(1, .c (.one (.pt 1 0))), (3, .c (.one (.v (.int .i64 (IntKind.wrap .i64 (vs3 + (1 : Int)))))))], [(1, ⟨.store, [.ro .item vb1_0, .v (.int .i64 vb1_1)]⟩)], []⟩) := by kernel_rfl

noncomputable def f30L1 {R : Type} (n : Nat) (x0 : Option R) (x1 : Int → Bool → Option R) (vb1_0 : List ItemT) (vb1_1 : Int) : Nat → Int → Option R
  | 0, _ => none
  | m + 1, vs3 =>
    (cond (decide (vs3 < (vb1_0.length : Int)))
      (cond ((decide ((0 : Int) ≤ vs3)) && (decide (vs3 < (vb1_0.length : Int))))
        (cond (sm_order (ItemT.order (atI (t := .item) vb1_0 (Int.toNat vs3))))
          (cond (!(orderOk (ItemT.order (atI (t := .item) vb1_0 (Int.toNat vs3)))))
            (x0)
            (cond (!(inR (ItemT.ver (atI (t := .item) vb1_0 (Int.toNat vs3))) (1 : Int) (IntKind.wrap .i64 (vb1_1 - (1 : Int)))))
              (x0)
              (cond (decide (vs3 > (0 : Int)))
                (cond ((decide ((0 : Int) ≤ (IntKind.wrap .i64 (vs3 - (1 : Int))))) && (decide ((IntKind.wrap .i64 (vs3 - (1 : Int))) < (vb1_0.length : Int))))
                  (cond (!(sLt (OrderT.name (ItemT.order (atI (t := .item) vb1_0 (Int.toNat (IntKind.wrap .i64 (vs3 - (1 : Int))))))) (OrderT.name (ItemT.order (atI (t := .item) vb1_0 (Int.toNat vs3))))))
                    (x0)
                    (f30L0 n (x0) (fun (xvs5 : Int) (xvs61 : Bool) =>
                      (f30L1 n x0 x1 vb1_0 vb1_1 m (IntKind.wrap .i64 (vs3 + (1 : Int))))) vs3 vb1_0 vb1_1 (OrderT.name (ItemT.order (atI (t := .item) vb1_0 (Int.toNat vs3)))) (OrderT.target (ItemT.order (atI (t := .item) vb1_0 (Int.toNat vs3)))) (OrderT.low (ItemT.order (atI (t := .item) vb1_0 (Int.toNat vs3)))) (OrderT.high (ItemT.order (atI (t := .item) vb1_0 (Int.toNat vs3)))) (OrderT.metrics (ItemT.order (atI (t := .item) vb1_0 (Int.toNat vs3)))) (PaceT.up (OrderT.pace (ItemT.order (atI (t := .item) vb1_0 (Int.toNat vs3))))) (PaceT.down (OrderT.pace (ItemT.order (atI (t := .item) vb1_0 (Int.toNat vs3))))) (PaceT.upSpan (OrderT.pace (ItemT.order (atI (t := .item) vb1_0 (Int.toNat vs3))))) (PaceT.downSpan (OrderT.pace (ItemT.order (atI (t := .item) vb1_0 (Int.toNat vs3))))) (OrderT.notes (ItemT.order (atI (t := .item) vb1_0 (Int.toNat vs3)))) (ItemT.ver (atI (t := .item) vb1_0 (Int.toNat vs3))) n (0 : Int)))
                  none)
                (f30L0 n (x0) (fun (xvs5 : Int) (xvs61 : Bool) =>
                  (f30L1 n x0 x1 vb1_0 vb1_1 m (IntKind.wrap .i64 (vs3 + (1 : Int))))) vs3 vb1_0 vb1_1 (OrderT.name (ItemT.order (atI (t := .item) vb1_0 (Int.toNat vs3)))) (OrderT.target (ItemT.order (atI (t := .item) vb1_0 (Int.toNat vs3)))) (OrderT.low (ItemT.order (atI (t := .item) vb1_0 (Int.toNat vs3)))) (OrderT.high (ItemT.order (atI (t := .item) vb1_0 (Int.toNat vs3)))) (OrderT.metrics (ItemT.order (atI (t := .item) vb1_0 (Int.toNat vs3)))) (PaceT.up (OrderT.pace (ItemT.order (atI (t := .item) vb1_0 (Int.toNat vs3))))) (PaceT.down (OrderT.pace (ItemT.order (atI (t := .item) vb1_0 (Int.toNat vs3))))) (PaceT.upSpan (OrderT.pace (ItemT.order (atI (t := .item) vb1_0 (Int.toNat vs3))))) (PaceT.downSpan (OrderT.pace (ItemT.order (atI (t := .item) vb1_0 (Int.toNat vs3))))) (OrderT.notes (ItemT.order (atI (t := .item) vb1_0 (Int.toNat vs3)))) (ItemT.ver (atI (t := .item) vb1_0 (Int.toNat vs3))) n (0 : Int)))))
          none)
        none)
      (x1 vs3 (decide (vs3 < (vb1_0.length : Int)))))
theorem f30L1_b {R : Type} (n : Nat) (k' : Ex → St → Option R) (vs3 : Int) (vb1_0 : List ItemT) (vb1_1 : Int) : ev f30e f30k n (cAt [1,1,0,1,0,0] f30c) ⟨[(1, .c (.one (.pt 1 0))), (3, .c (.one (.v (.int .i64 vs3))))], [(1, ⟨.store, [.ro .item vb1_0, .v (.int .i64 vb1_1)]⟩)], []⟩ k' =
    (cond (decide (vs3 < (vb1_0.length : Int)))
    (cond ((decide ((0 : Int) ≤ vs3)) && (decide (vs3 < (vb1_0.length : Int))))
      (cond (sm_order (ItemT.order (atI (t := .item) vb1_0 (Int.toNat vs3))))
        (cond (!(orderOk (ItemT.order (atI (t := .item) vb1_0 (Int.toNat vs3)))))
          (k' .ret ⟨[(2, .c (.one (.v (.bool false))))], [], []⟩)
          (cond (!(inR (ItemT.ver (atI (t := .item) vb1_0 (Int.toNat vs3))) (1 : Int) (IntKind.wrap .i64 (vb1_1 - (1 : Int)))))
            (k' .ret ⟨[(2, .c (.one (.v (.bool false))))], [], []⟩)
            (cond (decide (vs3 > (0 : Int)))
              (cond ((decide ((0 : Int) ≤ (IntKind.wrap .i64 (vs3 - (1 : Int))))) && (decide ((IntKind.wrap .i64 (vs3 - (1 : Int))) < (vb1_0.length : Int))))
                (cond (!(sLt (OrderT.name (ItemT.order (atI (t := .item) vb1_0 (Int.toNat (IntKind.wrap .i64 (vs3 - (1 : Int))))))) (OrderT.name (ItemT.order (atI (t := .item) vb1_0 (Int.toNat vs3))))))
                  (k' .ret ⟨[(2, .c (.one (.v (.bool false))))], [], []⟩)
                  (f30L0 n (k' .ret ⟨[(2, .c (.one (.v (.bool false))))], [], []⟩) (fun (xvs5 : Int) (xvs61 : Bool) =>
                    (k' .normal ⟨[(1, .c (.one (.pt 1 0))), (3, .c (.one (.v (.int .i64 (IntKind.wrap .i64 (vs3 + (1 : Int)))))))], [(1, ⟨.store, [.ro .item vb1_0, .v (.int .i64 vb1_1)]⟩)], []⟩)) vs3 vb1_0 vb1_1 (OrderT.name (ItemT.order (atI (t := .item) vb1_0 (Int.toNat vs3)))) (OrderT.target (ItemT.order (atI (t := .item) vb1_0 (Int.toNat vs3)))) (OrderT.low (ItemT.order (atI (t := .item) vb1_0 (Int.toNat vs3)))) (OrderT.high (ItemT.order (atI (t := .item) vb1_0 (Int.toNat vs3)))) (OrderT.metrics (ItemT.order (atI (t := .item) vb1_0 (Int.toNat vs3)))) (PaceT.up (OrderT.pace (ItemT.order (atI (t := .item) vb1_0 (Int.toNat vs3))))) (PaceT.down (OrderT.pace (ItemT.order (atI (t := .item) vb1_0 (Int.toNat vs3))))) (PaceT.upSpan (OrderT.pace (ItemT.order (atI (t := .item) vb1_0 (Int.toNat vs3))))) (PaceT.downSpan (OrderT.pace (ItemT.order (atI (t := .item) vb1_0 (Int.toNat vs3))))) (OrderT.notes (ItemT.order (atI (t := .item) vb1_0 (Int.toNat vs3)))) (ItemT.ver (atI (t := .item) vb1_0 (Int.toNat vs3))) n (0 : Int)))
                none)
              (f30L0 n (k' .ret ⟨[(2, .c (.one (.v (.bool false))))], [], []⟩) (fun (xvs5 : Int) (xvs61 : Bool) =>
                (k' .normal ⟨[(1, .c (.one (.pt 1 0))), (3, .c (.one (.v (.int .i64 (IntKind.wrap .i64 (vs3 + (1 : Int)))))))], [(1, ⟨.store, [.ro .item vb1_0, .v (.int .i64 vb1_1)]⟩)], []⟩)) vs3 vb1_0 vb1_1 (OrderT.name (ItemT.order (atI (t := .item) vb1_0 (Int.toNat vs3)))) (OrderT.target (ItemT.order (atI (t := .item) vb1_0 (Int.toNat vs3)))) (OrderT.low (ItemT.order (atI (t := .item) vb1_0 (Int.toNat vs3)))) (OrderT.high (ItemT.order (atI (t := .item) vb1_0 (Int.toNat vs3)))) (OrderT.metrics (ItemT.order (atI (t := .item) vb1_0 (Int.toNat vs3)))) (PaceT.up (OrderT.pace (ItemT.order (atI (t := .item) vb1_0 (Int.toNat vs3))))) (PaceT.down (OrderT.pace (ItemT.order (atI (t := .item) vb1_0 (Int.toNat vs3))))) (PaceT.upSpan (OrderT.pace (ItemT.order (atI (t := .item) vb1_0 (Int.toNat vs3))))) (PaceT.downSpan (OrderT.pace (ItemT.order (atI (t := .item) vb1_0 (Int.toNat vs3))))) (OrderT.notes (ItemT.order (atI (t := .item) vb1_0 (Int.toNat vs3)))) (ItemT.ver (atI (t := .item) vb1_0 (Int.toNat vs3))) n (0 : Int)))))
        none)
      none)
    (k' (.exit 0) ⟨[(1, .c (.one (.pt 1 0))), (3, .c (.one (.v (.int .i64 vs3)))), (20, .c (.one (.v (.bool (decide (vs3 < (vb1_0.length : Int)))))))], [(1, ⟨.store, [.ro .item vb1_0, .v (.int .i64 vb1_1)]⟩)], []⟩)) := by
  refine Eq.trans (b := (cond (decide (vs3 < (vb1_0.length : Int)))
    (cond ((decide ((0 : Int) ≤ vs3)) && (decide (vs3 < (vb1_0.length : Int))))
      (cond (sm_order (ItemT.order (atI (t := .item) vb1_0 (Int.toNat vs3))))
        (cond (!(orderOk (ItemT.order (atI (t := .item) vb1_0 (Int.toNat vs3)))))
          (k' .ret ⟨[(2, .c (.one (.v (.bool false))))], [], []⟩)
          (cond (!(inR (ItemT.ver (atI (t := .item) vb1_0 (Int.toNat vs3))) (1 : Int) (IntKind.wrap .i64 (vb1_1 - (1 : Int)))))
            (k' .ret ⟨[(2, .c (.one (.v (.bool false))))], [], []⟩)
            (cond (decide (vs3 > (0 : Int)))
              (cond ((decide ((0 : Int) ≤ (IntKind.wrap .i64 (vs3 - (1 : Int))))) && (decide ((IntKind.wrap .i64 (vs3 - (1 : Int))) < (vb1_0.length : Int))))
                (cond (!(sLt (OrderT.name (ItemT.order (atI (t := .item) vb1_0 (Int.toNat (IntKind.wrap .i64 (vs3 - (1 : Int))))))) (OrderT.name (ItemT.order (atI (t := .item) vb1_0 (Int.toNat vs3))))))
                  (k' .ret ⟨[(2, .c (.one (.v (.bool false))))], [], []⟩)
                  (iter (fun st k => ev f30e f30k n (cAt [1,1,0,1,0,0,1,0,0,1,1,1,0,0] f30c) st k) n ⟨[(1, .c (.one (.pt 1 0))), (3, .c (.one (.v (.int .i64 vs3)))), (4, .c (.one (.pt 4 0))), (5, .c (.one (.v (.int .i64 (0 : Int)))))], [(1, ⟨.store, [.ro .item vb1_0, .v (.int .i64 vb1_1)]⟩), (4, ⟨.item, [.v (.string (OrderT.name (ItemT.order (atI (t := .item) vb1_0 (Int.toNat vs3))))), .v (.string (OrderT.target (ItemT.order (atI (t := .item) vb1_0 (Int.toNat vs3))))), .v (.int .i64 (OrderT.low (ItemT.order (atI (t := .item) vb1_0 (Int.toNat vs3))))), .v (.int .i64 (OrderT.high (ItemT.order (atI (t := .item) vb1_0 (Int.toNat vs3))))), .ro .metric (OrderT.metrics (ItemT.order (atI (t := .item) vb1_0 (Int.toNat vs3)))), .v (.int .i64 (PaceT.up (OrderT.pace (ItemT.order (atI (t := .item) vb1_0 (Int.toNat vs3)))))), .v (.int .i64 (PaceT.down (OrderT.pace (ItemT.order (atI (t := .item) vb1_0 (Int.toNat vs3)))))), .v (.int .i64 (PaceT.upSpan (OrderT.pace (ItemT.order (atI (t := .item) vb1_0 (Int.toNat vs3)))))), .v (.int .i64 (PaceT.downSpan (OrderT.pace (ItemT.order (atI (t := .item) vb1_0 (Int.toNat vs3)))))), .ro .note (OrderT.notes (ItemT.order (atI (t := .item) vb1_0 (Int.toNat vs3)))), .v (.int .i64 (ItemT.ver (atI (t := .item) vb1_0 (Int.toNat vs3))))]⟩)], []⟩ (f30K0 n k')))
                none)
              (iter (fun st k => ev f30e f30k n (cAt [1,1,0,1,0,0,1,0,0,1,1,1,0,0] f30c) st k) n ⟨[(1, .c (.one (.pt 1 0))), (3, .c (.one (.v (.int .i64 vs3)))), (4, .c (.one (.pt 4 0))), (5, .c (.one (.v (.int .i64 (0 : Int)))))], [(1, ⟨.store, [.ro .item vb1_0, .v (.int .i64 vb1_1)]⟩), (4, ⟨.item, [.v (.string (OrderT.name (ItemT.order (atI (t := .item) vb1_0 (Int.toNat vs3))))), .v (.string (OrderT.target (ItemT.order (atI (t := .item) vb1_0 (Int.toNat vs3))))), .v (.int .i64 (OrderT.low (ItemT.order (atI (t := .item) vb1_0 (Int.toNat vs3))))), .v (.int .i64 (OrderT.high (ItemT.order (atI (t := .item) vb1_0 (Int.toNat vs3))))), .ro .metric (OrderT.metrics (ItemT.order (atI (t := .item) vb1_0 (Int.toNat vs3)))), .v (.int .i64 (PaceT.up (OrderT.pace (ItemT.order (atI (t := .item) vb1_0 (Int.toNat vs3)))))), .v (.int .i64 (PaceT.down (OrderT.pace (ItemT.order (atI (t := .item) vb1_0 (Int.toNat vs3)))))), .v (.int .i64 (PaceT.upSpan (OrderT.pace (ItemT.order (atI (t := .item) vb1_0 (Int.toNat vs3)))))), .v (.int .i64 (PaceT.downSpan (OrderT.pace (ItemT.order (atI (t := .item) vb1_0 (Int.toNat vs3)))))), .ro .note (OrderT.notes (ItemT.order (atI (t := .item) vb1_0 (Int.toNat vs3)))), .v (.int .i64 (ItemT.ver (atI (t := .item) vb1_0 (Int.toNat vs3))))]⟩)], []⟩ (f30K0 n k')))))
        none)
      none)
    (k' (.exit 0) ⟨[(1, .c (.one (.pt 1 0))), (3, .c (.one (.v (.int .i64 vs3)))), (20, .c (.one (.v (.bool (decide (vs3 < (vb1_0.length : Int)))))))], [(1, ⟨.store, [.ro .item vb1_0, .v (.int .i64 vb1_1)]⟩)], []⟩))) (by kernel_rfl) ?_
  simp only [f30L0_eq, f30K0_x0, f30K0_x1]
theorem f30L1_eq {R : Type} (n : Nat) (k' : Ex → St → Option R) (vb1_0 : List ItemT) (vb1_1 : Int) : ∀ (m : Nat) (vs3 : Int), iter (fun st k => ev f30e f30k n (cAt [1,1,0,1,0,0] f30c) st k) m ⟨[(1, .c (.one (.pt 1 0))), (3, .c (.one (.v (.int .i64 vs3))))], [(1, ⟨.store, [.ro .item vb1_0, .v (.int .i64 vb1_1)]⟩)], []⟩ k' = f30L1 n (k' .ret ⟨[(2, .c (.one (.v (.bool false))))], [], []⟩) (fun (xvs3 : Int) (xvs20 : Bool) => k' (.exit 0) ⟨[(1, .c (.one (.pt 1 0))), (3, .c (.one (.v (.int .i64 xvs3)))), (20, .c (.one (.v (.bool xvs20))))], [(1, ⟨.store, [.ro .item vb1_0, .v (.int .i64 vb1_1)]⟩)], []⟩) vb1_0 vb1_1 m vs3 := by
  intro m; induction m with
  | zero => intros; rfl
  | succ m ih =>
    intro vs3
    simp only [iter]
    rw [f30L1_b]
    simp only [ih, f30L1]

noncomputable def f30K1 {R : Type} (n : Nat) (k' : Ex → St → Option R) : Ex → St → Option R := (blockK 0 (seqK f30e f30k n (cAt [1,1,1] f30c) k'))
theorem f30K1_x0 {R : Type} (n : Nat) (k : List Dt → Option R) (a0 : StoreT)  : f30K1 n (exitK f30e [.ro] [false] true [.tmp 2] [4] [.d .store a0] k) .ret ⟨[(2, .c (.one (.v (.bool false))))], [], []⟩ =
    (k [.d .bool false]) := by kernel_rfl
theorem f30K1_x1 {R : Type} (n : Nat) (k : List Dt → Option R) (a0 : StoreT) (vb1_0 : List ItemT) (vb1_1 : Int) (xvs3 : Int) (xvs20 : Bool) : f30K1 n (exitK f30e [.ro] [false] true [.tmp 2] [4] [.d .store a0] k) (.exit 0) ⟨[(1, .c (.one (.pt 1 0))), (3, .c (.one (.v (.int .i64 xvs3)))), (20, .c (.one (.v (.bool xvs20))))], [(1, ⟨.store, [.ro .item vb1_0, .v (.int .i64 vb1_1)]⟩)], []⟩ =
    (k [.d .bool true]) := by kernel_rfl

theorem f30_run {R : Type} (n : Nat) (k : List Dt → Option R) (a0 : StoreT) : evFn f30e f30k n f30c [.ro] [false] true [.tmp 2] [4] [.d .store a0] k =
    (cond (!(inR (StoreT.next a0) (1 : Int) (100000 : Int)))
    (k [.d .bool false])
    (cond (decide (((StoreT.items a0).length : Int) > (6 : Int)))
      (k [.d .bool false])
      (f30L1 n (k [.d .bool false]) (fun (xvs3 : Int) (xvs20 : Bool) =>
        (k [.d .bool true])) (StoreT.items a0) (StoreT.next a0) n (0 : Int)))) := by
  refine Eq.trans (b := (cond (!(inR (StoreT.next a0) (1 : Int) (100000 : Int)))
    (k [.d .bool false])
    (cond (decide (((StoreT.items a0).length : Int) > (6 : Int)))
      (k [.d .bool false])
      (iter (fun st k => ev f30e f30k n (cAt [1,1,0,1,0,0] f30c) st k) n ⟨[(1, .c (.one (.pt 1 0))), (3, .c (.one (.v (.int .i64 (0 : Int)))))], [(1, ⟨.store, [.ro .item (StoreT.items a0), .v (.int .i64 (StoreT.next a0))]⟩)], []⟩ (f30K1 n (exitK f30e [.ro] [false] true [.tmp 2] [4] [.d .store a0] k)))))) (by kernel_rfl) ?_
  simp only [f30L1_eq, f30K1_x0, f30K1_x1]
theorem f30_spec (a0 : StoreT) (hg : sm_store a0 = true) : ∃ keep rounds, ∀ {R : Type} (k : List Dt → Option R), evFn f30e keep rounds f30c [.ro] [false] true [.tmp 2] [4] [.d .store a0] k = k [.d .bool (storeOk a0)] := by
  simp only [sm_store, Bool.and_eq_true] at hg
  have hl := smL_len hg.1
  refine ⟨f30k, a0.items.length + 1, fun {R} k => ?_⟩
  rw [f30_run]
  unfold storeOk
  cases hb : inR a0.next 1 100000
  · cases decide ((a0.items.length : Int) > 6) <;> rfl
  rw [inR_iff] at hb
  by_cases h6 : (a0.items.length : Int) > 6
  · rw [decide_eq_true h6, decide_eq_false (show ¬ ((a0.items.length : Int) ≤ 6) by omega)]; rfl
  rw [decide_eq_false h6, decide_eq_true (show (a0.items.length : Int) ≤ 6 by omega)]
  simp only [Bool.not_true, cond_false, Bool.true_and]
  refine Eq.trans (loop_idx (n := a0.items.length) (F := fun m i => f30L1 (a0.items.length + 1) _ _ a0.items a0.next m i) (p := itemC a0.items a0.next) (good := k [.d .bool true]) (bad := k [.d .bool false])
    (fun m j hj => ?_) (fun m => by simp only [f30L1, idxE, cond_false]) (a0.items.length) 0 (a0.items.length + 1) (by omega) (by omega)) ?_
  · obtain ⟨h1, h0, hw, ht⟩ := idx hj (by omega)
    have hx := smL_at (t := .item) hg.1 hj
    simp only [sm_item, Bool.and_eq_true] at hx
    have hle : decide ((j : Int) ≤ (a0.items.length : Int)) = true := decide_eq_true (by omega)
    have hgl : gLenW (a0.items.take j) = true := gLenW_of (by rw [List.length_take]; omega)
    have inner : ∀ good : Option R, f30L0 (a0.items.length + 1) (k [.d .bool false]) (fun _ _ => good) (j : Int) a0.items a0.next (atI (t := .item) a0.items j).order.name (atI (t := .item) a0.items j).order.target (atI (t := .item) a0.items j).order.low (atI (t := .item) a0.items j).order.high (atI (t := .item) a0.items j).order.metrics (atI (t := .item) a0.items j).order.pace.up (atI (t := .item) a0.items j).order.pace.down (atI (t := .item) a0.items j).order.pace.upSpan (atI (t := .item) a0.items j).order.pace.downSpan (atI (t := .item) a0.items j).order.notes (atI (t := .item) a0.items j).ver (a0.items.length + 1) (0 : Int) = cond (!(verIn (a0.items.take j) (atI (t := .item) a0.items j))) good (k [.d .bool false]) := by
      intro good
      refine Eq.trans (loop_idx (n := j) (F := fun m i => f30L0 (a0.items.length + 1) (k [.d .bool false]) (fun _ _ => good) (j : Int) a0.items a0.next (atI (t := .item) a0.items j).order.name (atI (t := .item) a0.items j).order.target (atI (t := .item) a0.items j).order.low (atI (t := .item) a0.items j).order.high (atI (t := .item) a0.items j).order.metrics (atI (t := .item) a0.items j).order.pace.up (atI (t := .item) a0.items j).order.pace.down (atI (t := .item) a0.items j).order.pace.upSpan (atI (t := .item) a0.items j).order.pace.downSpan (atI (t := .item) a0.items j).order.notes (atI (t := .item) a0.items j).ver m i) (p := fun q => !(verIs (atI (t := .item) a0.items q) (atI (t := .item) a0.items j))) (good := good) (bad := k [.d .bool false])
        (fun m q hq => ?_) (fun m => ?_) j 0 (a0.items.length + 1) (by omega) (by omega)) ?_
      · obtain ⟨g1, g0, gw, gt⟩ := idx hq (by omega)
        obtain ⟨g2, _, _, _⟩ := idx (show q < a0.items.length by omega) (by omega)
        simp only [f30L0, g1, g0, gw, gt, g2, Bool.and_self, cond_true]
        show cond (verIs _ _) _ _ = _
        cases verIs (atI (t := .item) a0.items q) (atI (t := .item) a0.items j) <;> rfl
      · have : decide ((j : Int) < (j : Int)) = false := decide_eq_false (by omega)
        simp only [f30L0, this, cond_false]
      · rw [allN_take (t := .item) (fun x => verIs x (atI (t := .item) a0.items j)) a0.items j (by omega)]; rfl
    simp only [f30L1, h1, h0, hw, ht, hx.1, inner, wrap_id (x := a0.next - 1) (by omega) (by omega), Bool.and_self, cond_true]
    unfold itemC
    by_cases hz : (j : Int) > 0
    · obtain ⟨h2, h3, _, h5⟩ := idx (show j - 1 < a0.items.length by omega) (by omega)
      simp only [hz, decide_true, cond_true, idxM hj (by omega) (by omega), h2, h3, h5, Bool.and_self]
      cases orderOk (atI (t := .item) a0.items j).order <;> cases inR (atI (t := .item) a0.items j).ver 1 (a0.next - 1) <;> cases sLt (atI (t := .item) a0.items (j - 1)).order.name (atI (t := .item) a0.items j).order.name <;> cases verIn (a0.items.take j) (atI (t := .item) a0.items j) <;> rfl
    · simp only [hz, decide_false, cond_false]
      cases orderOk (atI (t := .item) a0.items j).order <;> cases inR (atI (t := .item) a0.items j).ver 1 (a0.next - 1) <;> cases verIn (a0.items.take j) (atI (t := .item) a0.items j) <;> rfl
  · cases allN (itemC a0.items a0.next) 0 a0.items.length <;> rfl

noncomputable def q30 : List Dt → Option (Bool × List Dt)
  | [.d .store a0] => some ((sm_store a0), [.d .bool (storeOk a0)])
  | _ => none
noncomputable def s30 : Gm.Spec := Gm.Spec.of [.ro] [false] true q30
theorem good30 : Gm.Good Try.prog (30, s30) := by
  have hl : ∀ x ∈ [(16, s16), (47, s47)], Gm.Good Try.prog x := List.forall_mem_cons.2 ⟨good16, List.forall_mem_cons.2 ⟨good47, List.forall_mem_nil _⟩⟩
  refine ⟨⟨spec_ok (tab_ok.env hl) (tab.natl hl) Try.func30 (by kernel_rfl : Try.f30.body = some f30c) [4] (by kernel_rfl) ?_, _, Try.func30, by kernel_rfl, of_decide_eq_true (by kernel_rfl)⟩, Gm.Spec.of_natl _ _ _ _⟩
  intro ds outs h
  unfold q30 at h
  split at h
  · simp only [Option.some.injEq, Prod.mk.injEq] at h; obtain ⟨hg, h⟩ := h; cases h; exact f30_spec _ hg
  · cases h
end Go.Proofs.Ytaeepnmdfdmgjaa

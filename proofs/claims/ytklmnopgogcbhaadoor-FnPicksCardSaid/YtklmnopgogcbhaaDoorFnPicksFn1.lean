/- What the functions compute, part 1. No conditions. -/
import Derived.Test.YtklmnopgogcbhaaDoorGm4
import Derived.Test.YtklmnopgogcbhaaDoorRows
import Derived.Ground.NamesProg
import Derived.Shelf.Strings.SplitShaped
import Derived.Shelf.Strings.Cut
import Derived.Shelf.LaysM
import Derived.Shelf.Strings.Prefix
import Derived.Shelf.Small.Wraps
import Derived.Lib.Strings
import Derived.Lib.Slices
import Derived.Lib.Walk
import Derived.Lib.Bytealg
/- The table of types of the program, and that it is the program's. Printed by gev.py of this session. -/
namespace Go.Proofs.YtklmnopgogcbhaaDoor
open Go Go.Gm
def tab : Tab := { code := [(2, (.i .i64)), (3, (.i .i64)), (4, .bool), (5, (.i .u8)), (6, (.i .u8)), (9, .str), (10, .str), (11, .str), (12, (.i .u64)), (21, (.i .i32)), (22, (.sl .str)), (24, .pick), (30, (.sl (.i .u8))), (35, (.sl .note)), (40, (.sl (.i .i64))), (59, .note), (68, .cur), (86, (.i .u64)), (96, (.i .u32)), (109, (.i .u8)), (110, (.i .u8)), (112, (.i .i32)), (113, (.i .i32))], eqs := [], fld := [(24, [(0, 3), (1, 9), (2, 22)]), (59, [(0, 9), (1, 9)]), (68, [(0, 30), (1, 3), (2, 3)])] }
theorem und2 : UndOk (tab.env []) Tryd.prog 2 (.i .i64) := (by kernel_rfl : Tryd.prog.underlying 2 = some (.int .i64))
theorem und3 : UndOk (tab.env []) Tryd.prog 3 (.i .i64) := (by kernel_rfl : Tryd.prog.underlying 3 = some (.int .i64))
theorem und4 : UndOk (tab.env []) Tryd.prog 4 .bool := (by kernel_rfl : Tryd.prog.underlying 4 = some .bool)
theorem und5 : UndOk (tab.env []) Tryd.prog 5 (.i .u8) := (by kernel_rfl : Tryd.prog.underlying 5 = some (.int .u8))
theorem und6 : UndOk (tab.env []) Tryd.prog 6 (.i .u8) := (by kernel_rfl : Tryd.prog.underlying 6 = some (.int .u8))
theorem und9 : UndOk (tab.env []) Tryd.prog 9 .str := (by kernel_rfl : Tryd.prog.underlying 9 = some .string)
theorem und10 : UndOk (tab.env []) Tryd.prog 10 .str := (by kernel_rfl : Tryd.prog.underlying 10 = some .string)
theorem und11 : UndOk (tab.env []) Tryd.prog 11 .str := (by kernel_rfl : Tryd.prog.underlying 11 = some .string)
theorem und12 : UndOk (tab.env []) Tryd.prog 12 (.i .u64) := (by kernel_rfl : Tryd.prog.underlying 12 = some (.int .u64))
theorem und21 : UndOk (tab.env []) Tryd.prog 21 (.i .i32) := (by kernel_rfl : Tryd.prog.underlying 21 = some (.int .i32))
theorem und22 : UndOk (tab.env []) Tryd.prog 22 (.sl .str) := ⟨9, by kernel_rfl, by kernel_rfl⟩
theorem und24 : UndOk (tab.env []) Tryd.prog 24 .pick := ⟨_, Tryd.underlying24⟩
theorem und30 : UndOk (tab.env []) Tryd.prog 30 (.sl (.i .u8)) := ⟨5, by kernel_rfl, by kernel_rfl⟩
theorem und35 : UndOk (tab.env []) Tryd.prog 35 (.sl .note) := ⟨59, by kernel_rfl, by kernel_rfl⟩
theorem und40 : UndOk (tab.env []) Tryd.prog 40 (.sl (.i .i64)) := ⟨3, by kernel_rfl, by kernel_rfl⟩
theorem und59 : UndOk (tab.env []) Tryd.prog 59 .note := ⟨_, Tryd.underlying59⟩
theorem und68 : UndOk (tab.env []) Tryd.prog 68 .cur := ⟨_, Tryd.underlying68⟩
theorem und86 : UndOk (tab.env []) Tryd.prog 86 (.i .u64) := (by kernel_rfl : Tryd.prog.underlying 86 = some (.int .u64))
theorem und96 : UndOk (tab.env []) Tryd.prog 96 (.i .u32) := (by kernel_rfl : Tryd.prog.underlying 96 = some (.int .u32))
theorem und109 : UndOk (tab.env []) Tryd.prog 109 (.i .u8) := (by kernel_rfl : Tryd.prog.underlying 109 = some (.int .u8))
theorem und110 : UndOk (tab.env []) Tryd.prog 110 (.i .u8) := (by kernel_rfl : Tryd.prog.underlying 110 = some (.int .u8))
theorem und112 : UndOk (tab.env []) Tryd.prog 112 (.i .i32) := (by kernel_rfl : Tryd.prog.underlying 112 = some (.int .i32))
theorem und113 : UndOk (tab.env []) Tryd.prog 113 (.i .i32) := (by kernel_rfl : Tryd.prog.underlying 113 = some (.int .i32))
theorem fld24 : ∃ fs : Array Field, Tryd.prog.underlying 24 = some (.struct fs) ∧ [(0, 3), (1, 9), (2, 22)] = fs.toList.map (fun f => (f.offset, f.type)) ∧ (∀ y ∈ ([(0, 3), (1, 9), (2, 22)] : List (Nat × Nat)), (aget tab.code y.2).isSome) ∧ (fs.toList.mapM (fun f => (Tryd.prog.info? f.type).map fun i => (f.offset, i.size))).isSome :=
  ⟨_, Tryd.underlying24, by kernel_rfl, List.all_eq_true.1 (by kernel_rfl), by kernel_rfl⟩
theorem fld59 : ∃ fs : Array Field, Tryd.prog.underlying 59 = some (.struct fs) ∧ [(0, 9), (1, 9)] = fs.toList.map (fun f => (f.offset, f.type)) ∧ (∀ y ∈ ([(0, 9), (1, 9)] : List (Nat × Nat)), (aget tab.code y.2).isSome) ∧ (fs.toList.mapM (fun f => (Tryd.prog.info? f.type).map fun i => (f.offset, i.size))).isSome :=
  ⟨_, Tryd.underlying59, by kernel_rfl, List.all_eq_true.1 (by kernel_rfl), by kernel_rfl⟩
theorem fld68 : ∃ fs : Array Field, Tryd.prog.underlying 68 = some (.struct fs) ∧ [(0, 30), (1, 3), (2, 3)] = fs.toList.map (fun f => (f.offset, f.type)) ∧ (∀ y ∈ ([(0, 30), (1, 3), (2, 3)] : List (Nat × Nat)), (aget tab.code y.2).isSome) ∧ (fs.toList.mapM (fun f => (Tryd.prog.info? f.type).map fun i => (f.offset, i.size))).isSome :=
  ⟨_, Tryd.underlying68, by kernel_rfl, List.all_eq_true.1 (by kernel_rfl), by kernel_rfl⟩
theorem tab_ok : tab.Ok Tryd.prog := {
  info := infoChk_ok (by kernel_rfl)
  und := List.forall_mem_cons.2 ⟨und2, List.forall_mem_cons.2 ⟨und3, List.forall_mem_cons.2 ⟨und4, List.forall_mem_cons.2 ⟨und5, List.forall_mem_cons.2 ⟨und6, List.forall_mem_cons.2 ⟨und9, List.forall_mem_cons.2 ⟨und10, List.forall_mem_cons.2 ⟨und11, List.forall_mem_cons.2 ⟨und12, List.forall_mem_cons.2 ⟨und21, List.forall_mem_cons.2 ⟨und22, List.forall_mem_cons.2 ⟨und24, List.forall_mem_cons.2 ⟨und30, List.forall_mem_cons.2 ⟨und35, List.forall_mem_cons.2 ⟨und40, List.forall_mem_cons.2 ⟨und59, List.forall_mem_cons.2 ⟨und68, List.forall_mem_cons.2 ⟨und86, List.forall_mem_cons.2 ⟨und96, List.forall_mem_cons.2 ⟨und109, List.forall_mem_cons.2 ⟨und110, List.forall_mem_cons.2 ⟨und112, List.forall_mem_cons.2 ⟨und113, List.forall_mem_nil _⟩⟩⟩⟩⟩⟩⟩⟩⟩⟩⟩⟩⟩⟩⟩⟩⟩⟩⟩⟩⟩⟩⟩
  fld := List.forall_mem_cons.2 ⟨fld24, List.forall_mem_cons.2 ⟨fld59, List.forall_mem_cons.2 ⟨fld68, List.forall_mem_nil _⟩⟩⟩
  sts := List.forall_mem_cons.2 ⟨fun h => by first | (cases h; done) | (simp; done), List.forall_mem_cons.2 ⟨fun h => by first | (cases h; done) | (simp; done), List.forall_mem_cons.2 ⟨fun h => by first | (cases h; done) | (simp; done), List.forall_mem_cons.2 ⟨fun h => by first | (cases h; done) | (simp; done), List.forall_mem_cons.2 ⟨fun h => by first | (cases h; done) | (simp; done), List.forall_mem_cons.2 ⟨fun h => by first | (cases h; done) | (simp; done), List.forall_mem_cons.2 ⟨fun h => by first | (cases h; done) | (simp; done), List.forall_mem_cons.2 ⟨fun h => by first | (cases h; done) | (simp; done), List.forall_mem_cons.2 ⟨fun h => by first | (cases h; done) | (simp; done), List.forall_mem_cons.2 ⟨fun h => by first | (cases h; done) | (simp; done), List.forall_mem_cons.2 ⟨fun h => by first | (cases h; done) | (simp; done), List.forall_mem_cons.2 ⟨fun _ => by simp [tab], List.forall_mem_cons.2 ⟨fun h => by first | (cases h; done) | (simp; done), List.forall_mem_cons.2 ⟨fun h => by first | (cases h; done) | (simp; done), List.forall_mem_cons.2 ⟨fun h => by first | (cases h; done) | (simp; done), List.forall_mem_cons.2 ⟨fun _ => by simp [tab], List.forall_mem_cons.2 ⟨fun _ => by simp [tab], List.forall_mem_cons.2 ⟨fun h => by first | (cases h; done) | (simp; done), List.forall_mem_cons.2 ⟨fun h => by first | (cases h; done) | (simp; done), List.forall_mem_cons.2 ⟨fun h => by first | (cases h; done) | (simp; done), List.forall_mem_cons.2 ⟨fun h => by first | (cases h; done) | (simp; done), List.forall_mem_cons.2 ⟨fun h => by first | (cases h; done) | (simp; done), List.forall_mem_cons.2 ⟨fun h => by first | (cases h; done) | (simp; done), List.forall_mem_nil _⟩⟩⟩⟩⟩⟩⟩⟩⟩⟩⟩⟩⟩⟩⟩⟩⟩⟩⟩⟩⟩⟩⟩
  eqs := List.forall_mem_nil _
  ord := by kernel_rfl }
end Go.Proofs.YtklmnopgogcbhaaDoor

/- x -/
namespace Go.Proofs
open Go.Shelf Go.RowKit
def Tryd.laysSplit_ren : Go.Shelf.Ren := ⟨fun | 146 => 49 | 221 => 64 | 268 => 71 | 138 => 72 | 143 => 73 | 195 => 81 | 197 => 82 | 218 => 83 | 219 => 70 | 260 => 85 | 217 => 69 | 225 => 78 | 224 => 79 | 267 => 80 | 266 => 77 | 314 => 84 | n => n, fun | 9 => 9 | 31 => 22 | 3 => 3 | 4 => 4 | 0 => 0 | 105 => 94 | 21 => 21 | 5 => 5 | 46 => 86 | 119 => 99 | 139 => 102 | 138 => 101 | 146 => 97 | 51 => 96 | n => n, fun | 1 => 0 | 3 => 1 | 4 => 2 | n => n⟩
theorem Tryd.laysSplit : Go.Proofs.LaysM.n146 Tryd.prog Tryd.laysSplit_ren := {
  mixed := by kernel_rfl
  f138 := Tryd.func72.trans (congrArg some (by kernel_rfl))
  f143 := Tryd.func73.trans (congrArg some (by kernel_rfl))
  f146 := Tryd.func49.trans (congrArg some (by kernel_rfl))
  f195 := Tryd.func81.trans (congrArg some (by kernel_rfl))
  f197 := Tryd.func82.trans (congrArg some (by kernel_rfl))
  f217 := Tryd.func69.trans (congrArg some (by kernel_rfl))
  f218 := Tryd.func83.trans (congrArg some (by kernel_rfl))
  f219 := Tryd.func70.trans (congrArg some (by kernel_rfl))
  f221 := Tryd.func64.trans (congrArg some (by kernel_rfl))
  f224 := Tryd.func79.trans (congrArg some (by kernel_rfl))
  f225 := Tryd.func78.trans (congrArg some (by kernel_rfl))
  f260 := Tryd.func85.trans (congrArg some (by kernel_rfl))
  f266 := Tryd.func77.trans (congrArg some (by kernel_rfl))
  f267 := Tryd.func80.trans (congrArg some (by kernel_rfl))
  f268 := Tryd.func71.trans (congrArg some (by kernel_rfl))
  f314 := Tryd.func84.trans (congrArg some (by kernel_rfl))
  t0 := Tryd.underlying0
  a0 := Tryd.isAgg0
  z0 := Tryd.sizeOf0
  v0 := Tryd.zeroValue0
  t3 := Tryd.underlying3
  a3 := Tryd.isAgg3
  z3 := Tryd.sizeOf3
  v3 := Tryd.zeroValue3
  t4 := Tryd.underlying4
  a4 := Tryd.isAgg4
  z4 := Tryd.sizeOf4
  v4 := Tryd.zeroValue4
  t5 := Tryd.underlying5
  a5 := Tryd.isAgg5
  z5 := Tryd.sizeOf5
  v5 := Tryd.zeroValue5
  t9 := Tryd.underlying9
  a9 := Tryd.isAgg9
  z9 := Tryd.sizeOf9
  v9 := Tryd.zeroValue9
  t21 := Tryd.underlying21
  a21 := Tryd.isAgg21
  z21 := Tryd.sizeOf21
  v21 := Tryd.zeroValue21
  t31 := Tryd.underlying22
  a31 := Tryd.isAgg22
  z31 := Tryd.sizeOf22
  v31 := Tryd.zeroValue22
  t46 := Tryd.underlying86
  a46 := Tryd.isAgg86
  z46 := Tryd.sizeOf86
  v46 := Tryd.zeroValue86
  t51 := Tryd.underlying96
  a51 := Tryd.isAgg96
  z51 := Tryd.sizeOf96
  v51 := Tryd.zeroValue96
  t105 := Tryd.underlying94
  a105 := Tryd.isAgg94
  z105 := Tryd.sizeOf94
  v105 := Tryd.zeroValue94
  t119 := Tryd.underlying99
  a119 := Tryd.isAgg99
  z119 := Tryd.sizeOf99
  t138 := Tryd.underlying101
  a138 := Tryd.isAgg101
  z138 := Tryd.sizeOf101
  v138 := Tryd.zeroValue101
  t139 := Tryd.underlying102
  a139 := Tryd.isAgg102
  z139 := Tryd.sizeOf102
  v139 := Tryd.zeroValue102
  t146 := Tryd.underlying97
  a146 := Tryd.isAgg97
  z146 := Tryd.sizeOf97
  v146 := Tryd.zeroValue97
  g1 := by kernel_rfl
  g3 := by kernel_rfl
  g4 := by kernel_rfl
  i0 := by kernel_rfl
  i3 := by kernel_rfl
  i4 := by kernel_rfl
  i5 := by kernel_rfl
  i9 := by kernel_rfl
  i21 := by kernel_rfl
  i31 := by kernel_rfl
  i46 := by kernel_rfl
  i51 := by kernel_rfl
  i105 := by kernel_rfl
  i138 := by kernel_rfl
  i139 := by kernel_rfl
  i146 := by kernel_rfl
  m1 := by kernel_rfl
  s1_3 := fun w h => Go.Proofs.cell_of_shapedOpen_int (zero := #[.int .i64 0]) (t := 3) h (of_decide_eq_true (by kernel_rfl)) (by kernel_rfl) rfl (by kernel_rfl) (by kernel_rfl) Tryd.underlying3
  m3 := by kernel_rfl
  m4 := by kernel_rfl }

end Go.Proofs
namespace Go.Proofs.YtklmnopgogcbhaaDoor
open Go Go.Gm Go.RowKit
noncomputable def q49 : List Dt → Option (Bool × List Dt)
  | [.d .str a0, .d .str a1] => some (gSplit a0 a1, [.d (.sl .str) (splitS a0 a1)])
  | _ => none
noncomputable def s49 : Gm.Spec := Gm.Spec.of [.ro, .ro] [false] true q49
theorem good49 : Gm.Good Tryd.prog (49, s49) := by
  refine ⟨⟨spec_own1W rfl ?_, _, Tryd.func49, by kernel_rfl, of_decide_eq_true (by kernel_rfl)⟩, Gm.Spec.of_natl _ _ _ _⟩
  intro ds outs h
  unfold q49 at h
  split at h
  · rename_i a0 a1
    simp only [Option.some.injEq, Prod.mk.injEq] at h
    obtain ⟨hg, h⟩ := h
    cases h
    refine ⟨_, _, rfl, fun w us Mf ROa Fs hW hB hA hlt => ?_⟩
    cases hA with
    | cons h1 hA =>
      cases hA with
      | cons h2 hA =>
        cases hA
        have e1 := valRd_v (t := .str) (v := .string a0) rfl rfl h1
        have e2 := valRd_v (t := .str) (v := .string a1) rfl rfl h2
        subst e1; subst e2
        obtain ⟨g1, g2⟩ := gSplit_iff hg
        obtain ⟨m, hm⟩ := Go.Proofs.Tryd.laysSplit.s1_3 _ hW
        refine Calls.mono (Go.Proofs.Any.strings_Split { Go.Proofs.Tryd.laysSplit with } Go.Proofs.Tryd.laysSplit.i9 a0 a1 m w (by omega) (hB.cell hm) g2) ?_
        rintro e w' ⟨rfl, rfl⟩
        have hn : Lib.countB a0 a1 + 1 = (splitS a0 a1).length := (Lib.splitB_all a1 g2 0 _ a0 rfl).symm
        rw [hn]
        exact ⟨_, _, rfl, kept_alloc _ _ _, valOwn_strs w (splitS a0 a1) _, fun k hk => by subst hk; exact ⟨.inr (Nat.le_refl _), by simp⟩⟩
  · cases h
end Go.Proofs.YtklmnopgogcbhaaDoor

/- x -/
namespace Go.Proofs
open Go.Shelf Go.RowKit
def Tryd.laysCut_ren : Go.Shelf.Ren := ⟨fun | 145 => 48 | 220 => 63 | 219 => 70 | 217 => 69 | 225 => 78 | 224 => 79 | 267 => 80 | 266 => 77 | 314 => 84 | n => n, fun | 9 => 9 | 4 => 4 | 59 => 41 | 3 => 3 | 5 => 5 | 46 => 86 | 146 => 97 | 51 => 96 | n => n, fun | 1 => 0 | n => n⟩
theorem Tryd.laysCut : Go.Proofs.LaysM.n145 Tryd.prog Tryd.laysCut_ren := {
  mixed := by kernel_rfl
  f145 := Tryd.func48.trans (congrArg some (by kernel_rfl))
  f217 := Tryd.func69.trans (congrArg some (by kernel_rfl))
  f219 := Tryd.func70.trans (congrArg some (by kernel_rfl))
  f220 := Tryd.func63.trans (congrArg some (by kernel_rfl))
  f224 := Tryd.func79.trans (congrArg some (by kernel_rfl))
  f225 := Tryd.func78.trans (congrArg some (by kernel_rfl))
  f266 := Tryd.func77.trans (congrArg some (by kernel_rfl))
  f267 := Tryd.func80.trans (congrArg some (by kernel_rfl))
  f314 := Tryd.func84.trans (congrArg some (by kernel_rfl))
  t3 := Tryd.underlying3
  a3 := Tryd.isAgg3
  z3 := Tryd.sizeOf3
  v3 := Tryd.zeroValue3
  t4 := Tryd.underlying4
  a4 := Tryd.isAgg4
  z4 := Tryd.sizeOf4
  v4 := Tryd.zeroValue4
  t5 := Tryd.underlying5
  a5 := Tryd.isAgg5
  z5 := Tryd.sizeOf5
  v5 := Tryd.zeroValue5
  t9 := Tryd.underlying9
  a9 := Tryd.isAgg9
  z9 := Tryd.sizeOf9
  v9 := Tryd.zeroValue9
  t46 := Tryd.underlying86
  a46 := Tryd.isAgg86
  z46 := Tryd.sizeOf86
  v46 := Tryd.zeroValue86
  t51 := Tryd.underlying96
  a51 := Tryd.isAgg96
  z51 := Tryd.sizeOf96
  v51 := Tryd.zeroValue96
  t59 := Tryd.underlying41
  a59 := Tryd.isAgg41
  z59 := Tryd.sizeOf41
  v59 := Tryd.zeroValue41
  t146 := Tryd.underlying97
  a146 := Tryd.isAgg97
  z146 := Tryd.sizeOf97
  v146 := Tryd.zeroValue97
  g1 := by kernel_rfl
  i3 := by kernel_rfl
  i4 := by kernel_rfl
  i5 := by kernel_rfl
  i9 := by kernel_rfl
  i46 := by kernel_rfl
  i51 := by kernel_rfl
  i59 := by kernel_rfl
  i146 := by kernel_rfl
  m1 := by kernel_rfl
  s1_3 := fun w h => Go.Proofs.cell_of_shapedOpen_int (zero := #[.int .i64 0]) (t := 3) h (of_decide_eq_true (by kernel_rfl)) (by kernel_rfl) rfl (by kernel_rfl) (by kernel_rfl) Tryd.underlying3 }

end Go.Proofs
namespace Go.Proofs.YtklmnopgogcbhaaDoor
open Go Go.Gm Go.RowKit
noncomputable def q48 : List Dt → Option (Bool × List Dt)
  | [.d .str a0, .d .str a1] => some (gCutS a0 a1, [.d .str ((cutS a0 a1).1), .d .str ((cutS a0 a1).2.1), .d .bool ((cutS a0 a1).2.2)])
  | _ => none
noncomputable def s48 : Gm.Spec := Gm.Spec.of [.ro, .ro] [false, false, false] true q48
theorem good48 : Gm.Good Tryd.prog (48, s48) := by
  refine ⟨⟨spec_valsW rfl ?_, _, Tryd.func48, by kernel_rfl, of_decide_eq_true (by kernel_rfl)⟩, Gm.Spec.of_natl _ _ _ _⟩
  intro ds outs h
  unfold q48 at h
  split at h
  · rename_i a0 a1
    simp only [Option.some.injEq, Prod.mk.injEq] at h
    obtain ⟨hg, h⟩ := h
    cases h
    refine ⟨[⟨.str, (cutS a0 a1).1, .string ((cutS a0 a1).1)⟩, ⟨.str, (cutS a0 a1).2.1, .string ((cutS a0 a1).2.1)⟩, ⟨.bool, (cutS a0 a1).2.2, .bool ((cutS a0 a1).2.2)⟩], rfl, rfl, fun y hy => ?_, fun w us ROa Fs hW hB hA hlt => ?_⟩
    · simp only [List.mem_cons, List.not_mem_nil, or_false] at hy
      rcases hy with rfl | rfl | rfl <;> exact ⟨rfl, rfl, rfl⟩
    cases hA with
    | cons h1 hA =>
      cases hA with
      | cons h2 hA =>
        cases hA
        have e1 := valRd_v (t := .str) (v := .string a0) rfl rfl h1
        have e2 := valRd_v (t := .str) (v := .string a1) rfl rfl h2
        subst e1; subst e2
        have g1 := gCutS_iff hg
        obtain ⟨m, hm⟩ := Go.Proofs.Tryd.laysCut.s1_3 _ hW
        refine Calls.mono (Go.Proofs.Any.strings_Cut { Go.Proofs.Tryd.laysCut with } a0 a1 m w (by omega) (hB.cell hm)) ?_
        rintro e w' ⟨rfl, n, rfl⟩
        exact ⟨rfl, Kept.drewN _ _ _⟩
  · cases h
end Go.Proofs.YtklmnopgogcbhaaDoor

/- x -/
namespace Go.Proofs
open Go.Shelf Go.RowKit
def Tryd.laysTrimSuffix_ren : Go.Shelf.Ren := ⟨fun | 102 => 50 | 209 => 65 | 207 => 74 | n => n, fun | 9 => 9 | 4 => 4 | 3 => 3 | n => n, fun | n => n⟩
theorem Tryd.laysTrimSuffix : Go.Proofs.LaysM.n102 Tryd.prog Tryd.laysTrimSuffix_ren := {
  mixed := by kernel_rfl
  f102 := Tryd.func50.trans (congrArg some (by kernel_rfl))
  f207 := Tryd.func74.trans (congrArg some (by kernel_rfl))
  f209 := Tryd.func65.trans (congrArg some (by kernel_rfl))
  t3 := Tryd.underlying3
  a3 := Tryd.isAgg3
  z3 := Tryd.sizeOf3
  v3 := Tryd.zeroValue3
  t4 := Tryd.underlying4
  a4 := Tryd.isAgg4
  z4 := Tryd.sizeOf4
  v4 := Tryd.zeroValue4
  t9 := Tryd.underlying9
  a9 := Tryd.isAgg9
  z9 := Tryd.sizeOf9
  v9 := Tryd.zeroValue9
  i3 := by kernel_rfl
  i4 := by kernel_rfl
  i9 := by kernel_rfl }

end Go.Proofs
namespace Go.Proofs.YtklmnopgogcbhaaDoor
open Go Go.Gm Go.RowKit
noncomputable def q50 : List Dt → Option (Bool × List Dt)
  | [.d .str a0, .d .str a1] => some (gCutS a0 a1, [.d .str (trimSuf a0 a1)])
  | _ => none
noncomputable def s50 : Gm.Spec := Gm.Spec.of [.ro, .ro] [false] true q50
theorem good50 : Gm.Good Tryd.prog (50, s50) := by
  refine ⟨⟨spec_valsW rfl ?_, _, Tryd.func50, by kernel_rfl, of_decide_eq_true (by kernel_rfl)⟩, Gm.Spec.of_natl _ _ _ _⟩
  intro ds outs h
  unfold q50 at h
  split at h
  · rename_i a0 a1
    simp only [Option.some.injEq, Prod.mk.injEq] at h
    obtain ⟨hg, h⟩ := h
    cases h
    refine ⟨[⟨.str, trimSuf a0 a1, .string (trimSuf a0 a1)⟩], rfl, rfl, fun y hy => ?_, fun w us ROa Fs hW hB hA hlt => ?_⟩
    · simp only [List.mem_cons, List.not_mem_nil, or_false] at hy
      subst hy <;> exact ⟨rfl, rfl, rfl⟩
    cases hA with
    | cons h1 hA =>
      cases hA with
      | cons h2 hA =>
        cases hA
        have e1 := valRd_v (t := .str) (v := .string a0) rfl rfl h1
        have e2 := valRd_v (t := .str) (v := .string a1) rfl rfl h2
        subst e1; subst e2
        have g1 := gCutS_iff hg
        refine Calls.mono (Go.Proofs.Any.strings_TrimSuffix { Go.Proofs.Tryd.laysTrimSuffix with } a0 a1 w (by omega)) ?_
        rintro e w' ⟨rfl, rfl⟩
        exact ⟨rfl, ⟨rfl, rfl, rfl, Nat.le_refl _, fun _ _ _ => rfl⟩⟩
  · cases h
end Go.Proofs.YtklmnopgogcbhaaDoor

/- x -/
namespace Go.Proofs.YtklmnopgogcbhaaDoor
open Go Go.Gm
/-! ### loop.example/g00465/spec.l25Cut -/
noncomputable def f22S0 (y0 : ByteArray) (y1 : ByteArray) (y2 : Int) : St := ⟨[(0, .c (.one (.v (.string y0)))), (1, .c (.one (.v (.string y1)))), (7, .c (.one (.v (.int .i64 y2))))], [], []⟩
noncomputable def f22S1 (y0 : ByteArray) (y1 : ByteArray) : St := ⟨[(4, .c (.one (.v (.string y0)))), (5, .c (.one (.v (.string y1)))), (6, .c (.one (.v (.bool true))))], [], []⟩
noncomputable def f22S2 (y0 : ByteArray) (y1 : ByteArray) (y2 : Int) (y3 : Bool) : St := ⟨[(0, .c (.one (.v (.string y0)))), (1, .c (.one (.v (.string y1)))), (7, .c (.one (.v (.int .i64 y2)))), (14, .c (.one (.v (.bool y3))))], [], []⟩
noncomputable def f22c : Code := (Tryd.f22.body).getD .skip
def f22k : Nat → Kp := kat [⟨[0, 1], [], [], []⟩, ⟨[0, 1, 7], [], [], []⟩, ⟨[0, 1, 7, 14], [], [], []⟩, ⟨[0, 1, 7], [], [], []⟩, ⟨[0, 1, 7, 25], [], [], []⟩, ⟨[4, 5, 6], [], [], []⟩, ⟨[4, 5, 6], [], [], []⟩]
noncomputable def f22e : Env := tab.env []
noncomputable def f22L0 {R : Type} (n : Nat) (x0 : ByteArray → ByteArray → Option R) (x1 : Int → Bool → Option R) (vs0 : ByteArray) (vs1 : ByteArray) : Nat → Int → Option R
  | 0, _ => none
  | m + 1, vs7 =>
    (cond (decide ((IntKind.wrap .i64 (vs7 + (ByteArray.size vs1 : Int))) ≤ (ByteArray.size vs0 : Int)))
   (cond ((decide ((0 : Int) ≤ vs7)) && ((decide (vs7 ≤ (IntKind.wrap .i64 (vs7 + (ByteArray.size vs1 : Int))))) && (decide ((IntKind.wrap .i64 (vs7 + (ByteArray.size vs1 : Int))) ≤ (ByteArray.size vs0 : Int)))))
    (cond (sEq (ByteArray.extract vs0 (Int.toNat vs7) (Int.toNat (IntKind.wrap .i64 (vs7 + (ByteArray.size vs1 : Int))))) vs1)
     (cond ((decide ((0 : Int) ≤ vs7)) && (decide (vs7 ≤ (ByteArray.size vs0 : Int))))
      (cond ((decide ((0 : Int) ≤ (IntKind.wrap .i64 (vs7 + (ByteArray.size vs1 : Int))))) && ((decide ((IntKind.wrap .i64 (vs7 + (ByteArray.size vs1 : Int))) ≤ (ByteArray.size vs0 : Int))) && (decide ((ByteArray.size vs0 : Int) ≤ (ByteArray.size vs0 : Int)))))
       (x0 (ByteArray.extract vs0 0 (Int.toNat vs7)) (ByteArray.extract vs0 (Int.toNat (IntKind.wrap .i64 (vs7 + (ByteArray.size vs1 : Int)))) (Int.toNat (ByteArray.size vs0 : Int))))
       none)
      none)
     (f22L0 n x0 x1 vs0 vs1 m (IntKind.wrap .i64 (vs7 + (1 : Int)))))
    none)
   (x1 vs7 (decide ((IntKind.wrap .i64 (vs7 + (ByteArray.size vs1 : Int))) ≤ (ByteArray.size vs0 : Int)))))
theorem f22L0_b {R : Type} (n : Nat) (k' : Ex → St → Option R) (vs0 : ByteArray) (vs1 : ByteArray) (vs7 : Int) : ev f22e f22k n (cAt [1,0,1,0,0] f22c) (f22S0 vs0 vs1 vs7) k' =
    (cond (decide ((IntKind.wrap .i64 (vs7 + (ByteArray.size vs1 : Int))) ≤ (ByteArray.size vs0 : Int)))
  (cond ((decide ((0 : Int) ≤ vs7)) && ((decide (vs7 ≤ (IntKind.wrap .i64 (vs7 + (ByteArray.size vs1 : Int))))) && (decide ((IntKind.wrap .i64 (vs7 + (ByteArray.size vs1 : Int))) ≤ (ByteArray.size vs0 : Int)))))
   (cond (sEq (ByteArray.extract vs0 (Int.toNat vs7) (Int.toNat (IntKind.wrap .i64 (vs7 + (ByteArray.size vs1 : Int))))) vs1)
    (cond ((decide ((0 : Int) ≤ vs7)) && (decide (vs7 ≤ (ByteArray.size vs0 : Int))))
     (cond ((decide ((0 : Int) ≤ (IntKind.wrap .i64 (vs7 + (ByteArray.size vs1 : Int))))) && ((decide ((IntKind.wrap .i64 (vs7 + (ByteArray.size vs1 : Int))) ≤ (ByteArray.size vs0 : Int))) && (decide ((ByteArray.size vs0 : Int) ≤ (ByteArray.size vs0 : Int)))))
      (k' .ret (f22S1 (ByteArray.extract vs0 0 (Int.toNat vs7)) (ByteArray.extract vs0 (Int.toNat (IntKind.wrap .i64 (vs7 + (ByteArray.size vs1 : Int)))) (Int.toNat (ByteArray.size vs0 : Int)))))
      none)
     none)
    (k' .normal (f22S0 vs0 vs1 (IntKind.wrap .i64 (vs7 + (1 : Int))))))
   none)
  (k' (.exit 0) (f22S2 vs0 vs1 vs7 (decide ((IntKind.wrap .i64 (vs7 + (ByteArray.size vs1 : Int))) ≤ (ByteArray.size vs0 : Int)))))) := by kernel_rfl
theorem f22L0_eq {R : Type} (n : Nat) (k' : Ex → St → Option R) (vs0 : ByteArray) (vs1 : ByteArray) : ∀ (m : Nat) (vs7 : Int), iter (fun st k => ev f22e f22k n (cAt [1,0,1,0,0] f22c) st k) m (f22S0 vs0 vs1 vs7) k' = f22L0 n (fun (xvs4 : ByteArray) (xvs5 : ByteArray) => k' .ret (f22S1 xvs4 xvs5)) (fun (xvs7 : Int) (xvs14 : Bool) => k' (.exit 0) (f22S2 vs0 vs1 xvs7 xvs14)) vs0 vs1 m vs7 := by
  intro m; induction m with
  | zero => intros; rfl
  | succ m ih =>
    intro vs7
    simp only [iter]
    rw [f22L0_b]
    simp only [ih, f22L0]

noncomputable def f22K0 {R : Type} (n : Nat) (k' : Ex → St → Option R) : Ex → St → Option R := (blockK 0 (seqK f22e f22k n (cAt [1,1] f22c) k'))
theorem f22K0_x0 {R : Type} (n : Nat) (k : List Dt → Option R) (a0 : ByteArray) (a1 : ByteArray) (xvs4 : ByteArray) (xvs5 : ByteArray) : f22K0 n (exitK f22e [.ro, .ro] [false, false, false] true [.tmp 4, .tmp 5, .tmp 6] [9, 9, 4] [.d .str a0, .d .str a1] k) .ret (f22S1 xvs4 xvs5) =
    (k [.d .str xvs4, .d .str xvs5, .d .bool true]) := by kernel_rfl
theorem f22K0_x1 {R : Type} (n : Nat) (k : List Dt → Option R) (a0 : ByteArray) (a1 : ByteArray) (vs0 : ByteArray) (vs1 : ByteArray) (xvs7 : Int) (xvs14 : Bool) : f22K0 n (exitK f22e [.ro, .ro] [false, false, false] true [.tmp 4, .tmp 5, .tmp 6] [9, 9, 4] [.d .str a0, .d .str a1] k) (.exit 0) (f22S2 vs0 vs1 xvs7 xvs14) =
    (k [.d .str vs0, .d .str ByteArray.empty, .d .bool false]) := by kernel_rfl

theorem f22_run {R : Type} (n : Nat) (k : List Dt → Option R) (a0 : ByteArray) (a1 : ByteArray) : evFn f22e f22k n f22c [.ro, .ro] [false, false, false] true [.tmp 4, .tmp 5, .tmp 6] [9, 9, 4] [.d .str a0, .d .str a1] k =
    (f22L0 n (fun (xvs4 : ByteArray) (xvs5 : ByteArray) =>
  (k [.d .str xvs4, .d .str xvs5, .d .bool true])) (fun (xvs7 : Int) (xvs14 : Bool) =>
  (k [.d .str a0, .d .str ByteArray.empty, .d .bool false])) a0 a1 n (0 : Int)) := by
  refine Eq.trans (b := (iter (fun st k => ev f22e f22k n (cAt [1,0,1,0,0] f22c) st k) n (f22S0 a0 a1 (0 : Int)) (f22K0 n (exitK f22e [.ro, .ro] [false, false, false] true [.tmp 4, .tmp 5, .tmp 6] [9, 9, 4] [.d .str a0, .d .str a1] k)))) (by kernel_rfl) ?_
  simp only [f22L0_eq, f22K0_x0, f22K0_x1]
theorem f22_spec (a0 : ByteArray) (a1 : ByteArray) (hg : gCut1 a0 a1 = true) : ∃ keep rounds, ∀ {R : Type} (k : List Dt → Option R), evFn f22e keep rounds f22c [.ro, .ro] [false, false, false] true [.tmp 4, .tmp 5, .tmp 6] [9, 9, 4] [.d .str a0, .d .str a1] k = k [.d .str ((cutS a0 a1).1), .d .str ((cutS a0 a1).2.1), .d .bool ((cutS a0 a1).2.2)] := by
  obtain ⟨z1, z2, z3⟩ := gCut1_iff hg
  obtain ⟨N, hN⟩ : ∃ N, N = a0.size + 2 := ⟨_, rfl⟩
  refine ⟨f22k, N, fun {R} k => ?_⟩
  rw [f22_run]
  have key : ∀ (X : ByteArray → ByteArray → Option R) (Y : Int → Bool → Option R) (y : Option R), (∀ i b, Y i b = y) → ∀ (d j m : Nat), j + d = a0.size + 1 → d < m → Lib.NoOccB a0 a1 j → f22L0 N X Y a0 a1 m (j : Int) = cond (cutS a0 a1).2.2 (X (cutS a0 a1).1 (cutS a0 a1).2.1) y := by
    intro X Y y hY d
    have stop : ∀ (m j : Nat), j ≤ a0.size + 1 → a0.size < j + a1.size → Lib.NoOccB a0 a1 j → f22L0 N X Y a0 a1 (m + 1) (j : Int) = cond (cutS a0 a1).2.2 (X (cutS a0 a1).1 (cutS a0 a1).2.1) y := by
      intro m j hj hlt hno
      have hw2 : IntKind.wrap .i64 ((j : Int) + (a1.size : Int)) = ((j + a1.size : Nat) : Int) := by rw [wrap_id (by omega) (by omega)]; omega
      have hi : Lib.indexB a0 a1 = -1 := Lib.index_past (fun e => by rw [Lib.size_eq, e] at z2; simp at z2) hno (by rw [← Lib.size_eq, ← Lib.size_eq]; exact hlt)
      simp only [f22L0, hw2, decide_eq_false (show ¬ (((j + a1.size : Nat) : Int) ≤ (a0.size : Int)) by omega), cond_false, hY, cutS_miss hi]
    induction d with
    | zero =>
      intro j m hj hm hno
      obtain ⟨m, rfl⟩ : ∃ m', m = m' + 1 := ⟨m - 1, by omega⟩
      exact stop m j (by omega) (by omega) hno
    | succ d ih =>
      intro j m hj hm hno
      obtain ⟨m, rfl⟩ : ∃ m', m = m' + 1 := ⟨m - 1, by omega⟩
      by_cases hle : j + a1.size ≤ a0.size
      · have hw2 : IntKind.wrap .i64 ((j : Int) + (a1.size : Int)) = ((j + a1.size : Nat) : Int) := by rw [wrap_id (by omega) (by omega)]; omega
        have hw : IntKind.wrap .i64 ((j : Int) + 1) = ((j + 1 : Nat) : Int) := by rw [wrap_id (by omega) (by omega)]; omega
        have d1 : decide (((j + a1.size : Nat) : Int) ≤ (a0.size : Int)) = true := decide_eq_true (by omega)
        have d2 : decide ((0 : Int) ≤ (j : Int)) = true := decide_eq_true (by omega)
        have d3 : decide ((j : Int) ≤ ((j + a1.size : Nat) : Int)) = true := decide_eq_true (by omega)
        have d4 : decide ((j : Int) ≤ (a0.size : Int)) = true := decide_eq_true (by omega)
        have d5 : decide ((0 : Int) ≤ ((j + a1.size : Nat) : Int)) = true := decide_eq_true (by omega)
        have d6 : decide ((a0.size : Int) ≤ (a0.size : Int)) = true := decide_eq_true (Int.le_refl _)
        cases ho : sEq (a0.extract j (j + a1.size)) a1
        · simp only [f22L0, hw2, hw, d1, d2, d3, Int.toNat_natCast, ho, Bool.and_self, cond_true, cond_false]
          exact ih (j + 1) m (by omega) (by omega) (Lib.miss_piece a0 a1 j hno hle ho)
        · have hi := Lib.hit a0 a1 j hno hle ho
          simp only [f22L0, hw2, d1, d2, d3, d4, d5, d6, Int.toNat_natCast, ho, Bool.and_self, cond_true, cutS_hit hi]
      · exact stop m j (by omega) (by omega) hno
  refine Eq.trans (key _ _ _ (fun _ _ => rfl) (a0.size + 1) 0 N (by omega) (by omega) (Lib.NoOcc.zero _ _)) ?_
  rcases Lib.indexB_cases a0 a1 with h | ⟨i, h, _⟩
  · rw [cutS_miss h]; rfl
  · rw [cutS_hit h]; rfl

noncomputable def q22 : List Dt → Option (Bool × List Dt)
  | [.d .str a0, .d .str a1] => some ((gCut1 a0 a1), [.d .str ((cutS a0 a1).1), .d .str ((cutS a0 a1).2.1), .d .bool ((cutS a0 a1).2.2)])
  | _ => none
noncomputable def s22 : Gm.Spec := Gm.Spec.of [.ro, .ro] [false, false, false] true q22
theorem good22 : Gm.Good Tryd.prog (22, s22) := by
  have hl : ∀ x ∈ ([] : List (Nat × Gm.Spec)), Gm.Good Tryd.prog x := fun _ h => by cases h
  refine ⟨⟨spec_ok (tab_ok.env hl) (tab.natl hl) Tryd.func22 (by kernel_rfl : Tryd.f22.body = some f22c) [9, 9, 4] (by kernel_rfl) ?_, _, Tryd.func22, by kernel_rfl, of_decide_eq_true (by kernel_rfl)⟩, Gm.Spec.of_natl _ _ _ _⟩
  intro ds outs h
  unfold q22 at h
  split at h
  · simp only [Option.some.injEq, Prod.mk.injEq] at h; obtain ⟨hg, h⟩ := h; cases h; exact f22_spec _ _ hg
  · cases h
/-! ### loop.example/g00465/spec.l25List -/
noncomputable def f23S0 (y0 : ByteArray) (y1 : Int) (y2 : Int) (y3 : List ByteArray) : St := ⟨[(0, .c (.one (.v (.string y0)))), (3, .c (.one (.h 384 0 0 []))), (4, .c (.one (.v (.int .i64 y1)))), (5, .c (.one (.v (.int .i64 y2))))], [], [(384, .live ⟨.str, .deep, 0, [], y3⟩)]⟩
noncomputable def f23S1 (y0 : ByteArray) (y1 : Int) (y2 : Int) (y3 : Bool) (y4 : List ByteArray) : St := ⟨[(0, .c (.one (.v (.string y0)))), (3, .c (.one (.h 384 0 0 []))), (4, .c (.one (.v (.int .i64 y1)))), (5, .c (.one (.v (.int .i64 y2)))), (10, .c (.one (.v (.bool y3))))], [], [(384, .live ⟨.str, .deep, 0, [], y4⟩)]⟩
noncomputable def f23c : Code := (Tryd.f23.body).getD .skip
def f23k : Nat → Kp := kat [⟨[0], [], [], []⟩, ⟨[0, 3], [], [], []⟩, ⟨[0, 3, 4], [], [], []⟩, ⟨[0, 3, 4, 5], [], [], []⟩, ⟨[0, 3, 4, 5, 10], [], [], []⟩, ⟨[0, 3, 4, 5], [], [], []⟩, ⟨[0, 3, 4, 5, 23], [], [], []⟩, ⟨[0, 3, 5], [], [], []⟩, ⟨[0, 3, 4, 5], [], [], []⟩, ⟨[2], [], [], []⟩]
noncomputable def f23e : Env := tab.env []
noncomputable def f23L0 {R : Type} (n : Nat) (x0 : Int → Int → Bool → (List ByteArray) → Option R) (vs0 : ByteArray) : Nat → Int → Int → (List ByteArray) → Option R
  | 0, _, _, _ => none
  | m + 1, vs4, vs5, vr384 =>
    (cond (decide (vs5 < (ByteArray.size vs0 : Int)))
   (cond ((decide ((0 : Int) ≤ vs5)) && (decide (vs5 < (ByteArray.size vs0 : Int))))
    (cond ((((ByteArray.data vs0).getD (Int.toNat vs5) 0).toNat : Int) == (44 : Int))
     (cond ((decide ((0 : Int) ≤ vs4)) && ((decide (vs4 ≤ vs5)) && (decide (vs5 ≤ (ByteArray.size vs0 : Int)))))
      (cond (Nat.ble (vr384.length + 1) LIM)
       (f23L0 n x0 vs0 m (IntKind.wrap .i64 (vs5 + (1 : Int))) (IntKind.wrap .i64 (vs5 + (1 : Int))) (vr384 ++ ([(ByteArray.extract vs0 (Int.toNat vs4) (Int.toNat vs5))] : List ByteArray)))
       none)
      none)
     (cond (vs5 == (IntKind.wrap .i64 ((ByteArray.size vs0 : Int) - (1 : Int))))
      (cond ((decide ((0 : Int) ≤ vs4)) && ((decide (vs4 ≤ vs5)) && (decide (vs5 ≤ (ByteArray.size vs0 : Int)))))
       (cond (Nat.ble (vr384.length + 1) LIM)
        (f23L0 n x0 vs0 m (IntKind.wrap .i64 (vs5 + (1 : Int))) (IntKind.wrap .i64 (vs5 + (1 : Int))) (vr384 ++ ([(ByteArray.extract vs0 (Int.toNat vs4) (Int.toNat vs5))] : List ByteArray)))
        none)
       none)
      (f23L0 n x0 vs0 m vs4 (IntKind.wrap .i64 (vs5 + (1 : Int))) vr384)))
    none)
   (x0 vs4 vs5 (decide (vs5 < (ByteArray.size vs0 : Int))) vr384))
theorem f23L0_b {R : Type} (n : Nat) (k' : Ex → St → Option R) (vs0 : ByteArray) (vs4 : Int) (vs5 : Int) (vr384 : List ByteArray) : ev f23e f23k n (cAt [1,1,1,0,1,0,0] f23c) (f23S0 vs0 vs4 vs5 vr384) k' =
    (cond (decide (vs5 < (ByteArray.size vs0 : Int)))
  (cond ((decide ((0 : Int) ≤ vs5)) && (decide (vs5 < (ByteArray.size vs0 : Int))))
   (cond ((((ByteArray.data vs0).getD (Int.toNat vs5) 0).toNat : Int) == (44 : Int))
    (cond ((decide ((0 : Int) ≤ vs4)) && ((decide (vs4 ≤ vs5)) && (decide (vs5 ≤ (ByteArray.size vs0 : Int)))))
     (cond (Nat.ble (vr384.length + 1) LIM)
      (k' .normal (f23S0 vs0 (IntKind.wrap .i64 (vs5 + (1 : Int))) (IntKind.wrap .i64 (vs5 + (1 : Int))) (vr384 ++ ([(ByteArray.extract vs0 (Int.toNat vs4) (Int.toNat vs5))] : List ByteArray))))
      none)
     none)
    (cond (vs5 == (IntKind.wrap .i64 ((ByteArray.size vs0 : Int) - (1 : Int))))
     (cond ((decide ((0 : Int) ≤ vs4)) && ((decide (vs4 ≤ vs5)) && (decide (vs5 ≤ (ByteArray.size vs0 : Int)))))
      (cond (Nat.ble (vr384.length + 1) LIM)
       (k' .normal (f23S0 vs0 (IntKind.wrap .i64 (vs5 + (1 : Int))) (IntKind.wrap .i64 (vs5 + (1 : Int))) (vr384 ++ ([(ByteArray.extract vs0 (Int.toNat vs4) (Int.toNat vs5))] : List ByteArray))))
       none)
      none)
     (k' .normal (f23S0 vs0 vs4 (IntKind.wrap .i64 (vs5 + (1 : Int))) vr384))))
   none)
  (k' (.exit 0) (f23S1 vs0 vs4 vs5 (decide (vs5 < (ByteArray.size vs0 : Int))) vr384))) := by kernel_rfl
theorem f23L0_eq {R : Type} (n : Nat) (k' : Ex → St → Option R) (vs0 : ByteArray) : ∀ (m : Nat) (vs4 : Int) (vs5 : Int) (vr384 : List ByteArray), iter (fun st k => ev f23e f23k n (cAt [1,1,1,0,1,0,0] f23c) st k) m (f23S0 vs0 vs4 vs5 vr384) k' = f23L0 n (fun (xvs4 : Int) (xvs5 : Int) (xvs10 : Bool) (xvr384 : List ByteArray) => k' (.exit 0) (f23S1 vs0 xvs4 xvs5 xvs10 xvr384)) vs0 m vs4 vs5 vr384 := by
  intro m; induction m with
  | zero => intros; rfl
  | succ m ih =>
    intro vs4 vs5 vr384
    simp only [iter]
    rw [f23L0_b]
    simp only [ih, f23L0]

noncomputable def f23K0 {R : Type} (n : Nat) (k' : Ex → St → Option R) : Ex → St → Option R := (blockK 0 (seqK f23e f23k n (cAt [1,1,1,1] f23c) k'))
theorem f23K0_x0 {R : Type} (n : Nat) (k : List Dt → Option R) (a0 : ByteArray) (vs0 : ByteArray) (xvs4 : Int) (xvs5 : Int) (xvs10 : Bool) (xvr384 : List ByteArray) : f23K0 n (exitK f23e [.ro] [false] true [.tmp 2] [22] [.d .str a0] k) (.exit 0) (f23S1 vs0 xvs4 xvs5 xvs10 xvr384) =
    (k [.d (.sl .str) xvr384]) := by kernel_rfl

theorem f23_run {R : Type} (n : Nat) (k : List Dt → Option R) (a0 : ByteArray) : evFn f23e f23k n f23c [.ro] [false] true [.tmp 2] [22] [.d .str a0] k =
    (f23L0 n (fun (xvs4 : Int) (xvs5 : Int) (xvs10 : Bool) (xvr384 : List ByteArray) =>
  (k [.d (.sl .str) xvr384])) a0 n (0 : Int) (0 : Int) ([] : List ByteArray)) := by
  refine Eq.trans (b := (iter (fun st k => ev f23e f23k n (cAt [1,1,1,0,1,0,0] f23c) st k) n (f23S0 a0 (0 : Int) (0 : Int) ([] : List ByteArray)) (f23K0 n (exitK f23e [.ro] [false] true [.tmp 2] [22] [.d .str a0] k)))) (by kernel_rfl) ?_
  simp only [f23L0_eq, f23K0_x0]
theorem f23_spec (a0 : ByteArray) (hg : gListS a0 = true) : ∃ keep rounds, ∀ {R : Type} (k : List Dt → Option R), evFn f23e keep rounds f23c [.ro] [false] true [.tmp 2] [22] [.d .str a0] k = k [.d (.sl .str) (listS a0)] := by
  have hz : a0.size ≤ 1048576 := bleN hg
  obtain ⟨N, hN⟩ : ∃ N, N = a0.size + 1 := ⟨_, rfl⟩
  refine ⟨f23k, N, fun {R} k => ?_⟩
  rw [f23_run]
  have hsz := Lib.size_eq a0
  have key : ∀ (X : Int → Int → Bool → List ByteArray → Option R) (Z : List ByteArray → Option R), (∀ f i b o, X f i b o = Z o) → ∀ (d i f m : Nat) (out : List ByteArray), i + d = a0.size → f ≤ i → d < m → (∀ x ∈ (a0.data.toList.take i).drop f, x ≠ 44) → out.length ≤ i →
      f23L0 N X a0 m (f : Int) (i : Int) out = Z (out ++ (if d = 0 then [] else (splC 44 ((a0.data.toList.take (a0.size - 1)).drop f)).map mkB)) := by
    intro X Z hX d
    induction d with
    | zero =>
      intro i f m out hi hf hm hno hol
      obtain ⟨m, rfl⟩ : ∃ m', m = m' + 1 := ⟨m - 1, by omega⟩
      simp only [f23L0, decide_eq_false (show ¬ ((i : Int) < (a0.size : Int)) by omega), cond_false, hX, if_true, List.append_nil]
    | succ d ih =>
      intro i f m out hi hf hm hno hol
      obtain ⟨m, rfl⟩ : ∃ m', m = m' + 1 := ⟨m - 1, by omega⟩
      have hil : i < a0.data.toList.length := by omega
      have hget : a0.data.getD i 0 = a0.data.toList[i] := by
        have hi' : i < a0.data.size := by simpa using hil
        unfold Array.getD
        rw [dif_pos hi']; simp
      have d1 : decide ((i : Int) < (a0.size : Int)) = true := decide_eq_true (by omega)
      have d2 : decide ((0 : Int) ≤ (i : Int)) = true := decide_eq_true (by omega)
      have d3 : decide ((0 : Int) ≤ (f : Int)) = true := decide_eq_true (by omega)
      have d4 : decide ((f : Int) ≤ (i : Int)) = true := decide_eq_true (by omega)
      have d5 : decide ((i : Int) ≤ (a0.size : Int)) = true := decide_eq_true (by omega)
      have hw : IntKind.wrap .i64 ((i : Int) + 1) = ((i + 1 : Nat) : Int) := by rw [wrap_id (by omega) (by omega)]; omega
      have hw1 : IntKind.wrap .i64 ((a0.size : Int) - 1) = (a0.size : Int) - 1 := wrap_id (by omega) (by omega)
      have hb : Nat.ble (out.length + 1) LIM = true := ble_lim (by omega)
      have hpc : a0.extract f i = mkB ((a0.data.toList.take i).drop f) := by
        unfold mkB
        apply ba_ext
        rw [Lib.extract_eq]
        simp [List.drop_take]
      have hnil : ∀ x ∈ (a0.data.toList.take (i + 1)).drop (i + 1), x ≠ 44 := by
        rw [List.drop_eq_nil_of_le (by rw [List.length_take]; omega)]; simp
      have hsplit : i ≤ a0.size - 1 → (a0.data.toList.take (a0.size - 1)).drop f = (a0.data.toList.take i).drop f ++ (a0.data.toList.take (a0.size - 1)).drop i := by
        intro h
        have e1 : a0.data.toList.take i = (a0.data.toList.take (a0.size - 1)).take i := by rw [List.take_take, Nat.min_eq_left h]
        rw [e1]
        generalize a0.data.toList.take (a0.size - 1) = L
        conv => lhs; rw [← List.take_append_drop i L]
        by_cases hfi : f ≤ (L.take i).length
        · rw [List.drop_append_of_le_length hfi]
        · have hL : L.length < f := by rw [List.length_take] at hfi; omega
          rw [List.drop_eq_nil_of_le (by rw [List.take_append_drop]; omega), List.drop_eq_nil_of_le (by rw [List.length_take]; omega), List.drop_eq_nil_of_le (by omega)]; rfl
      have hlast : d = 0 → (a0.data.toList.take (a0.size - 1)).drop f = (a0.data.toList.take i).drop f := by
        intro h
        rw [show a0.size - 1 = i by omega]
      cases hc : (((a0.data.getD i 0).toNat : Int) == (44 : Int))
      · have hb44 : a0.data.toList[i] ≠ 44 := by
          intro e
          rw [hget, e] at hc; cases hc
        cases he : ((i : Int) == (a0.size : Int) - 1)
        · have hd : d ≠ 0 := by
            intro h; rw [beq_eq_false_iff_ne] at he; omega
          simp only [f23L0, d1, d2, Int.toNat_natCast, hc, hw, hw1, he, Bool.and_self, cond_true, cond_false]
          rw [ih (i + 1) f m out (by omega) (by omega) (by omega) ?_ (by omega)]
          · rw [if_neg hd, if_neg (by omega)]
          · intro x hx
            have : (a0.data.toList.take (i + 1)).drop f = (a0.data.toList.take i).drop f ++ [a0.data.toList[i]] := by
              rw [List.take_add_one, List.getElem?_eq_getElem hil, List.drop_append_of_le_length (by rw [List.length_take]; omega)]; rfl
            rw [this] at hx
            rcases List.mem_append.1 hx with hx | hx
            · exact hno x hx
            · rw [List.mem_singleton.1 hx]; exact hb44
        · have hd : d = 0 := by have := eq_of_beq he; omega
          simp only [f23L0, d1, d2, d3, d4, d5, Int.toNat_natCast, hc, hw, hw1, he, hb, hpc, Bool.and_self, cond_true, cond_false]
          rw [ih (i + 1) (i + 1) m _ (by omega) (by omega) (by omega) hnil (by simp only [List.length_append, List.length_cons, List.length_nil]; omega), if_pos hd, if_neg (by omega), hlast hd, splC_none 44 _ hno]
          simp
      · have hb44 : a0.data.toList[i] = 44 := by
          rw [hget] at hc
          have := eq_of_beq hc
          have h44 : (44 : UInt8).toNat = 44 := rfl
          exact UInt8.toNat_inj.1 (by omega)
        simp only [f23L0, d1, d2, d3, d4, d5, Int.toNat_natCast, hc, hw, hb, hpc, Bool.and_self, cond_true]
        rw [ih (i + 1) (i + 1) m _ (by omega) (by omega) (by omega) hnil (by simp only [List.length_append, List.length_cons, List.length_nil]; omega)]
        by_cases hd : d = 0
        · rw [if_pos hd, if_neg (by omega), hlast hd, splC_none 44 _ hno]
          simp
        · rw [if_neg hd, if_neg (by omega), hsplit (by omega)]
          have hi2 : i < (a0.data.toList.take (a0.size - 1)).length := by rw [List.length_take]; omega
          have e : (a0.data.toList.take (a0.size - 1)).drop i = 44 :: (a0.data.toList.take (a0.size - 1)).drop (i + 1) := by
            rw [List.drop_eq_getElem_cons hi2, List.getElem_take, hb44]
          rw [e, splC_piece 44 _ _ hno]
          simp
  refine Eq.trans (key _ (fun o => k [.d (.sl .str) o]) (fun _ _ _ _ => rfl) a0.size 0 0 N [] (by omega) (Nat.le_refl _) (by omega) (by simp) (Nat.le_refl _)) ?_
  unfold listS
  by_cases h0 : a0.size = 0
  · rw [if_pos h0, h0]; rfl
  · have hb : Nat.beq a0.size 0 = false := by cases hh : Nat.beq a0.size 0 with
      | false => rfl
      | true => exact absurd (Nat.eq_of_beq_eq_true hh) h0
    rw [if_neg h0, hb, List.drop_zero, List.dropLast_eq_take, ← hsz]; rfl

noncomputable def q23 : List Dt → Option (Bool × List Dt)
  | [.d .str a0] => some ((gListS a0), [.d (.sl .str) (listS a0)])
  | _ => none
noncomputable def s23 : Gm.Spec := Gm.Spec.of [.ro] [false] true q23
theorem good23 : Gm.Good Tryd.prog (23, s23) := by
  have hl : ∀ x ∈ ([] : List (Nat × Gm.Spec)), Gm.Good Tryd.prog x := fun _ h => by cases h
  refine ⟨⟨spec_ok (tab_ok.env hl) (tab.natl hl) Tryd.func23 (by kernel_rfl : Tryd.f23.body = some f23c) [22] (by kernel_rfl) ?_, _, Tryd.func23, by kernel_rfl, of_decide_eq_true (by kernel_rfl)⟩, Gm.Spec.of_natl _ _ _ _⟩
  intro ds outs h
  unfold q23 at h
  split at h
  · simp only [Option.some.injEq, Prod.mk.injEq] at h; obtain ⟨hg, h⟩ := h; cases h; exact f23_spec _ hg
  · cases h
/-! ### loop.example/g00465/impl.split -/
noncomputable def f25c : Code := (Tryd.f25.body).getD .skip
def f25k : Nat → Kp := kat [⟨[0, 1, 2, 6], [], [], []⟩, ⟨[2, 6, 8, 9, 10], [], [], []⟩, ⟨[6, 7], [], [], []⟩]
noncomputable def f25e : Env := tab.env [(48, s48)]
theorem f25_run {R : Type} (n : Nat) (k : List Dt → Option R) (a0 : ByteArray) (a1 : ByteArray) (a2 : Int) : evFn f25e f25k n f25c [.ro, .ro, .ro] [false, false] true [.cell 6 24, .tmp 7] [24, 4] [.d .str a0, .d .str a1, .d (.i .i64) a2] k =
    (cond (gCutS a0 a1)
  (k [.d .pick (⟨a2, ((cutS a0 a1).1), [((cutS a0 a1).2.1)]⟩ : PickT), .d .bool ((cutS a0 a1).2.2)])
  none) := by kernel_rfl
theorem f25_spec (a0 : ByteArray) (a1 : ByteArray) (a2 : Int) (hg : gCutS3 a0 a1 a2 = true) : ∃ keep rounds, ∀ {R : Type} (k : List Dt → Option R), evFn f25e keep rounds f25c [.ro, .ro, .ro] [false, false] true [.cell 6 24, .tmp 7] [24, 4] [.d .str a0, .d .str a1, .d (.i .i64) a2] k = k [.d .pick ((splitI a0 a1 a2).1), .d .bool ((splitI a0 a1 a2).2)] := by
  obtain ⟨z1, z2, z3⟩ := gCut1_iff hg
  have g1 : gCutS a0 a1 = true := Nat.ble_eq_true_of_le (by omega)
  refine ⟨f25k, 0, fun {R} k => ?_⟩
  rw [f25_run]
  simp only [g1, cond_true]
  rfl

noncomputable def q25 : List Dt → Option (Bool × List Dt)
  | [.d .str a0, .d .str a1, .d (.i .i64) a2] => some ((gCutS3 a0 a1 a2), [.d .pick ((splitI a0 a1 a2).1), .d .bool ((splitI a0 a1 a2).2)])
  | _ => none
noncomputable def s25 : Gm.Spec := Gm.Spec.of [.ro, .ro, .ro] [false, false] true q25
theorem good25 : Gm.Good Tryd.prog (25, s25) := by
  have hl : ∀ x ∈ [(48, s48)], Gm.Good Tryd.prog x := List.forall_mem_cons.2 ⟨good48, List.forall_mem_nil _⟩
  refine ⟨⟨spec_ok (tab_ok.env hl) (tab.natl hl) Tryd.func25 (by kernel_rfl : Tryd.f25.body = some f25c) [24, 4] (by kernel_rfl) ?_, _, Tryd.func25, by kernel_rfl, of_decide_eq_true (by kernel_rfl)⟩, Gm.Spec.of_natl _ _ _ _⟩
  intro ds outs h
  unfold q25 at h
  split at h
  · simp only [Option.some.injEq, Prod.mk.injEq] at h; obtain ⟨hg, h⟩ := h; cases h; exact f25_spec _ _ _ hg
  · cases h
/-! ### loop.example/g00465/impl.listed -/
noncomputable def f24c : Code := (Tryd.f24.body).getD .skip
def f24k : Nat → Kp := kat [⟨[0, 1, 2, 6], [], [], []⟩, ⟨[2, 6, 8, 9, 10], [], [], []⟩, ⟨[6, 7], [], [], []⟩]
noncomputable def f24e : Env := tab.env [(48, s48), (49, s49), (50, s50)]
theorem f24_run {R : Type} (n : Nat) (k : List Dt → Option R) (a0 : ByteArray) (a1 : ByteArray) (a2 : Int) : evFn f24e f24k n f24c [.ro, .ro, .ro] [false, false] true [.cell 6 24, .tmp 7] [24, 4] [.d .str a0, .d .str a1, .d (.i .i64) a2] k =
    (cond (gCutS a0 a1)
  (cond (gCutS ((cutS a0 a1).2.1) (bs [41]))
   (cond (gSplit (trimSuf ((cutS a0 a1).2.1) (bs [41])) (bs [44]))
    (k [.d .pick (⟨a2, ((cutS a0 a1).1), (splitS (trimSuf ((cutS a0 a1).2.1) (bs [41])) (bs [44]))⟩ : PickT), .d .bool ((cutS a0 a1).2.2)])
    none)
   none)
  none) := by kernel_rfl
theorem f24_spec (a0 : ByteArray) (a1 : ByteArray) (a2 : Int) (hg : gCutS3 a0 a1 a2 = true) : ∃ keep rounds, ∀ {R : Type} (k : List Dt → Option R), evFn f24e keep rounds f24c [.ro, .ro, .ro] [false, false] true [.cell 6 24, .tmp 7] [24, 4] [.d .str a0, .d .str a1, .d (.i .i64) a2] k = k [.d .pick ((listedI a0 a1 a2).1), .d .bool ((listedI a0 a1 a2).2)] := by
  obtain ⟨z1, z2, z3⟩ := gCut1_iff hg
  have g1 : gCutS a0 a1 = true := Nat.ble_eq_true_of_le (by omega)
  have hz := cutS_sz a0 a1
  have g2 : gCutS (cutS a0 a1).2.1 (bs [41]) = true := Nat.ble_eq_true_of_le (by omega)
  have ht := trimSuf_sz (cutS a0 a1).2.1 (bs [41])
  have g3 : gSplit (trimSuf (cutS a0 a1).2.1 (bs [41])) (bs [44]) = true := by
    unfold gSplit
    rw [Nat.ble_eq_true_of_le (by omega)]; rfl
  refine ⟨f24k, 0, fun {R} k => ?_⟩
  rw [f24_run]
  simp only [g1, g2, g3, cond_true]
  rfl

noncomputable def q24 : List Dt → Option (Bool × List Dt)
  | [.d .str a0, .d .str a1, .d (.i .i64) a2] => some ((gCutS3 a0 a1 a2), [.d .pick ((listedI a0 a1 a2).1), .d .bool ((listedI a0 a1 a2).2)])
  | _ => none
noncomputable def s24 : Gm.Spec := Gm.Spec.of [.ro, .ro, .ro] [false, false] true q24
theorem good24 : Gm.Good Tryd.prog (24, s24) := by
  have hl : ∀ x ∈ [(48, s48), (49, s49), (50, s50)], Gm.Good Tryd.prog x := List.forall_mem_cons.2 ⟨good48, List.forall_mem_cons.2 ⟨good49, List.forall_mem_cons.2 ⟨good50, List.forall_mem_nil _⟩⟩⟩
  refine ⟨⟨spec_ok (tab_ok.env hl) (tab.natl hl) Tryd.func24 (by kernel_rfl : Tryd.f24.body = some f24c) [24, 4] (by kernel_rfl) ?_, _, Tryd.func24, by kernel_rfl, of_decide_eq_true (by kernel_rfl)⟩, Gm.Spec.of_natl _ _ _ _⟩
  intro ds outs h
  unfold q24 at h
  split at h
  · simp only [Option.some.injEq, Prod.mk.injEq] at h; obtain ⟨hg, h⟩ := h; cases h; exact f24_spec _ _ _ hg
  · cases h
end Go.Proofs.YtklmnopgogcbhaaDoor

/- x -/
namespace Go.Proofs
open Go.Shelf Go.RowKit
def Tryd.laysCutPrefix_ren : Go.Shelf.Ren := ⟨fun | 103 => 26 | 210 => 51 | 206 => 66 | n => n, fun | 9 => 9 | 4 => 4 | 24 => 45 | 3 => 3 | n => n, fun | n => n⟩
theorem Tryd.laysCutPrefix : Go.Proofs.LaysM.n103 Tryd.prog Tryd.laysCutPrefix_ren := {
  mixed := by kernel_rfl
  f103 := Tryd.func26.trans (congrArg some (by kernel_rfl))
  f206 := Tryd.func66.trans (congrArg some (by kernel_rfl))
  f210 := Tryd.func51.trans (congrArg some (by kernel_rfl))
  t3 := Tryd.underlying3
  a3 := Tryd.isAgg3
  z3 := Tryd.sizeOf3
  v3 := Tryd.zeroValue3
  t4 := Tryd.underlying4
  a4 := Tryd.isAgg4
  z4 := Tryd.sizeOf4
  v4 := Tryd.zeroValue4
  t9 := Tryd.underlying9
  a9 := Tryd.isAgg9
  z9 := Tryd.sizeOf9
  v9 := Tryd.zeroValue9
  t24 := Tryd.underlying45
  a24 := Tryd.isAgg45
  z24 := Tryd.sizeOf45
  v24 := Tryd.zeroValue45
  i3 := by kernel_rfl
  i4 := by kernel_rfl
  i9 := by kernel_rfl
  i24 := by kernel_rfl }

end Go.Proofs
namespace Go.Proofs.YtklmnopgogcbhaaDoor
open Go Go.Gm Go.RowKit
noncomputable def q26 : List Dt → Option (Bool × List Dt)
  | [.d .str a0, .d .str a1] => some ((fun (_ _ : ByteArray) => true) a0 a1, [.d .str ((cutPre a0 a1).1), .d .bool ((cutPre a0 a1).2)])
  | _ => none
noncomputable def s26 : Gm.Spec := Gm.Spec.of [.ro, .ro] [false, false] true q26
theorem good26 : Gm.Good Tryd.prog (26, s26) := by
  refine ⟨⟨spec_valsW rfl ?_, _, Tryd.func26, by kernel_rfl, of_decide_eq_true (by kernel_rfl)⟩, Gm.Spec.of_natl _ _ _ _⟩
  intro ds outs h
  unfold q26 at h
  split at h
  · rename_i a0 a1
    simp only [Option.some.injEq, Prod.mk.injEq] at h
    obtain ⟨hg, h⟩ := h
    cases h
    refine ⟨[⟨.str, (cutPre a0 a1).1, .string ((cutPre a0 a1).1)⟩, ⟨.bool, (cutPre a0 a1).2, .bool ((cutPre a0 a1).2)⟩], rfl, rfl, fun y hy => ?_, fun w us ROa Fs hW hB hA hlt => ?_⟩
    · simp only [List.mem_cons, List.not_mem_nil, or_false] at hy
      rcases hy with rfl | rfl <;> exact ⟨rfl, rfl, rfl⟩
    cases hA with
    | cons h1 hA =>
      cases hA with
      | cons h2 hA =>
        cases hA
        have e1 := valRd_v (t := .str) (v := .string a0) rfl rfl h1
        have e2 := valRd_v (t := .str) (v := .string a1) rfl rfl h2
        subst e1; subst e2
        refine Calls.mono (Go.Proofs.Any.strings_CutPrefix { Go.Proofs.Tryd.laysCutPrefix with } a0 a1 w) ?_
        rintro e w' ⟨rfl, rfl⟩
        exact ⟨rfl, ⟨rfl, rfl, rfl, Nat.le_refl _, fun _ _ _ => rfl⟩⟩
  · cases h
end Go.Proofs.YtklmnopgogcbhaaDoor

/- x -/
namespace Go.Proofs.YtklmnopgogcbhaaDoor
open Go Go.Gm
/-! ### loop.example/g00465/spec.l1In -/
noncomputable def f47c : Code := (Tryd.f47.body).getD .skip
def f47k : Nat → Kp := kat [⟨[0, 1, 2], [], [], []⟩, ⟨[6], [], [], []⟩]
noncomputable def f47e : Env := tab.env []
theorem f47_run {R : Type} (n : Nat) (k : List Dt → Option R) (a0 : Int) (a1 : Int) (a2 : Int) : evFn f47e f47k n f47c [.ro, .ro, .ro] [false] true [.tmp 6] [4] [.d (.i .i64) a0, .d (.i .i64) a1, .d (.i .i64) a2] k =
    (cond (decide (a0 ≥ a1))
  (k [.d .bool (decide (a0 ≤ a2))])
  (k [.d .bool false])) := by kernel_rfl
theorem f47_spec (a0 : Int) (a1 : Int) (a2 : Int) : ∃ keep rounds, ∀ {R : Type} (k : List Dt → Option R), evFn f47e keep rounds f47c [.ro, .ro, .ro] [false] true [.tmp 6] [4] [.d (.i .i64) a0, .d (.i .i64) a1, .d (.i .i64) a2] k = k [.d .bool (inR a0 a1 a2)] := by
  refine ⟨f47k, 0, fun k => ?_⟩
  rw [f47_run]; unfold inR
  cases decide (a0 ≥ a1) <;> rfl

noncomputable def q47 : List Dt → Option (Bool × List Dt)
  | [.d (.i .i64) a0, .d (.i .i64) a1, .d (.i .i64) a2] => some (true, [.d .bool (inR a0 a1 a2)])
  | _ => none
noncomputable def s47 : Gm.Spec := Gm.Spec.of [.ro, .ro, .ro] [false] true q47
theorem good47 : Gm.Good Tryd.prog (47, s47) := by
  have hl : ∀ x ∈ ([] : List (Nat × Gm.Spec)), Gm.Good Tryd.prog x := fun _ h => by cases h
  refine ⟨⟨spec_ok (tab_ok.env hl) (tab.natl hl) Tryd.func47 (by kernel_rfl : Tryd.f47.body = some f47c) [4] (by kernel_rfl) ?_, _, Tryd.func47, by kernel_rfl, of_decide_eq_true (by kernel_rfl)⟩, Gm.Spec.of_natl _ _ _ _⟩
  intro ds outs h
  unfold q47 at h
  split at h
  · cases h; exact f47_spec _ _ _
  · cases h
/-! ### loop.example/g00465/impl.from -/
noncomputable def f44c : Code := (Tryd.f44.body).getD .skip
def f44k : Nat → Kp := kat [⟨[0, 1, 2], [], [], []⟩, ⟨[6], [], [], []⟩]
noncomputable def f44e : Env := tab.env []
theorem f44_run {R : Type} (n : Nat) (k : List Dt → Option R) (a0 : Int) (a1 : Int) (a2 : Int) : evFn f44e f44k n f44c [.ro, .ro, .ro] [false] true [.tmp 6] [4] [.d (.i .i64) a0, .d (.i .i64) a1, .d (.i .i64) a2] k =
    (cond (decide (a0 ≥ a1))
  (k [.d .bool (decide (a0 ≤ a2))])
  (k [.d .bool false])) := by kernel_rfl
theorem f44_spec (a0 : Int) (a1 : Int) (a2 : Int) : ∃ keep rounds, ∀ {R : Type} (k : List Dt → Option R), evFn f44e keep rounds f44c [.ro, .ro, .ro] [false] true [.tmp 6] [4] [.d (.i .i64) a0, .d (.i .i64) a1, .d (.i .i64) a2] k = k [.d .bool (inR a0 a1 a2)] := by
  refine ⟨f44k, 0, fun k => ?_⟩
  rw [f44_run]; unfold inR
  cases decide (a0 ≥ a1) <;> rfl

noncomputable def q44 : List Dt → Option (Bool × List Dt)
  | [.d (.i .i64) a0, .d (.i .i64) a1, .d (.i .i64) a2] => some (true, [.d .bool (inR a0 a1 a2)])
  | _ => none
noncomputable def s44 : Gm.Spec := Gm.Spec.of [.ro, .ro, .ro] [false] true q44
theorem good44 : Gm.Good Tryd.prog (44, s44) := by
  have hl : ∀ x ∈ ([] : List (Nat × Gm.Spec)), Gm.Good Tryd.prog x := fun _ h => by cases h
  refine ⟨⟨spec_ok (tab_ok.env hl) (tab.natl hl) Tryd.func44 (by kernel_rfl : Tryd.f44.body = some f44c) [4] (by kernel_rfl) ?_, _, Tryd.func44, by kernel_rfl, of_decide_eq_true (by kernel_rfl)⟩, Gm.Spec.of_natl _ _ _ _⟩
  intro ds outs h
  unfold q44 at h
  split at h
  · cases h; exact f44_spec _ _ _
  · cases h
/-! ### loop.example/g00465/spec.l5Letter -/
noncomputable def f62c : Code := (Tryd.f62.body).getD .skip
def f62k : Nat → Kp := kat [⟨[0], [], [], []⟩, ⟨[2], [], [], []⟩]
noncomputable def f62e : Env := tab.env []
theorem f62_run {R : Type} (n : Nat) (k : List Dt → Option R) (a0 : Int) : evFn f62e f62k n f62c [.ro] [false] true [.tmp 2] [4] [.d (.i .u8) a0] k =
    (cond (decide (a0 ≥ (97 : Int)))
  (cond (decide (a0 ≤ (122 : Int)))
   (k [.d .bool true])
   (cond (decide (a0 ≥ (65 : Int)))
    (k [.d .bool (decide (a0 ≤ (90 : Int)))])
    (k [.d .bool false])))
  (cond (decide (a0 ≥ (65 : Int)))
   (k [.d .bool (decide (a0 ≤ (90 : Int)))])
   (k [.d .bool false]))) := by kernel_rfl
theorem f62_spec (a0 : Int) : ∃ keep rounds, ∀ {R : Type} (k : List Dt → Option R), evFn f62e keep rounds f62c [.ro] [false] true [.tmp 2] [4] [.d (.i .u8) a0] k = k [.d .bool (letter a0)] := by
  refine ⟨f62k, 0, fun k => ?_⟩
  rw [f62_run]; unfold letter
  cases decide (a0 ≥ (97 : Int)) <;> cases decide (a0 ≤ (122 : Int)) <;> cases decide (a0 ≥ (65 : Int)) <;> rfl

noncomputable def q62 : List Dt → Option (Bool × List Dt)
  | [.d (.i .u8) a0] => some (true, [.d .bool (letter a0)])
  | _ => none
noncomputable def s62 : Gm.Spec := Gm.Spec.of [.ro] [false] true q62
theorem good62 : Gm.Good Tryd.prog (62, s62) := by
  have hl : ∀ x ∈ ([] : List (Nat × Gm.Spec)), Gm.Good Tryd.prog x := fun _ h => by cases h
  refine ⟨⟨spec_ok (tab_ok.env hl) (tab.natl hl) Tryd.func62 (by kernel_rfl : Tryd.f62.body = some f62c) [4] (by kernel_rfl) ?_, _, Tryd.func62, by kernel_rfl, of_decide_eq_true (by kernel_rfl)⟩, Gm.Spec.of_natl _ _ _ _⟩
  intro ds outs h
  unfold q62 at h
  split at h
  · cases h; exact f62_spec _
  · cases h
/-! ### loop.example/g00465/impl.isLetter -/
noncomputable def f59c : Code := (Tryd.f59.body).getD .skip
def f59k : Nat → Kp := kat [⟨[0], [], [], []⟩, ⟨[2], [], [], []⟩]
noncomputable def f59e : Env := tab.env []
theorem f59_run {R : Type} (n : Nat) (k : List Dt → Option R) (a0 : Int) : evFn f59e f59k n f59c [.ro] [false] true [.tmp 2] [4] [.d (.i .u8) a0] k =
    (cond (decide (a0 ≥ (97 : Int)))
  (cond (decide (a0 ≤ (122 : Int)))
   (k [.d .bool true])
   (cond (decide (a0 ≥ (65 : Int)))
    (k [.d .bool (decide (a0 ≤ (90 : Int)))])
    (k [.d .bool false])))
  (cond (decide (a0 ≥ (65 : Int)))
   (k [.d .bool (decide (a0 ≤ (90 : Int)))])
   (k [.d .bool false]))) := by kernel_rfl
theorem f59_spec (a0 : Int) : ∃ keep rounds, ∀ {R : Type} (k : List Dt → Option R), evFn f59e keep rounds f59c [.ro] [false] true [.tmp 2] [4] [.d (.i .u8) a0] k = k [.d .bool (letter a0)] := by
  refine ⟨f59k, 0, fun k => ?_⟩
  rw [f59_run]; unfold letter
  cases decide (a0 ≥ (97 : Int)) <;> cases decide (a0 ≤ (122 : Int)) <;> cases decide (a0 ≥ (65 : Int)) <;> rfl

noncomputable def q59 : List Dt → Option (Bool × List Dt)
  | [.d (.i .u8) a0] => some (true, [.d .bool (letter a0)])
  | _ => none
noncomputable def s59 : Gm.Spec := Gm.Spec.of [.ro] [false] true q59
theorem good59 : Gm.Good Tryd.prog (59, s59) := by
  have hl : ∀ x ∈ ([] : List (Nat × Gm.Spec)), Gm.Good Tryd.prog x := fun _ h => by cases h
  refine ⟨⟨spec_ok (tab_ok.env hl) (tab.natl hl) Tryd.func59 (by kernel_rfl : Tryd.f59.body = some f59c) [4] (by kernel_rfl) ?_, _, Tryd.func59, by kernel_rfl, of_decide_eq_true (by kernel_rfl)⟩, Gm.Spec.of_natl _ _ _ _⟩
  intro ds outs h
  unfold q59 at h
  split at h
  · cases h; exact f59_spec _
  · cases h
/-! ### loop.example/g00465/impl.isDigit -/
noncomputable def f60c : Code := (Tryd.f60.body).getD .skip
def f60k : Nat → Kp := kat [⟨[0], [], [], []⟩, ⟨[2], [], [], []⟩]
noncomputable def f60e : Env := tab.env []
theorem f60_run {R : Type} (n : Nat) (k : List Dt → Option R) (a0 : Int) : evFn f60e f60k n f60c [.ro] [false] true [.tmp 2] [4] [.d (.i .u8) a0] k =
    (cond (decide (a0 ≥ (48 : Int)))
  (k [.d .bool (decide (a0 ≤ (57 : Int)))])
  (k [.d .bool false])) := by kernel_rfl
theorem f60_spec (a0 : Int) : ∃ keep rounds, ∀ {R : Type} (k : List Dt → Option R), evFn f60e keep rounds f60c [.ro] [false] true [.tmp 2] [4] [.d (.i .u8) a0] k = k [.d .bool (digit a0)] := by
  refine ⟨f60k, 0, fun k => ?_⟩
  rw [f60_run]; unfold digit
  cases decide (a0 ≥ (48 : Int)) <;> rfl

noncomputable def q60 : List Dt → Option (Bool × List Dt)
  | [.d (.i .u8) a0] => some (true, [.d .bool (digit a0)])
  | _ => none
noncomputable def s60 : Gm.Spec := Gm.Spec.of [.ro] [false] true q60
theorem good60 : Gm.Good Tryd.prog (60, s60) := by
  have hl : ∀ x ∈ ([] : List (Nat × Gm.Spec)), Gm.Good Tryd.prog x := fun _ h => by cases h
  refine ⟨⟨spec_ok (tab_ok.env hl) (tab.natl hl) Tryd.func60 (by kernel_rfl : Tryd.f60.body = some f60c) [4] (by kernel_rfl) ?_, _, Tryd.func60, by kernel_rfl, of_decide_eq_true (by kernel_rfl)⟩, Gm.Spec.of_natl _ _ _ _⟩
  intro ds outs h
  unfold q60 at h
  split at h
  · cases h; exact f60_spec _
  · cases h
end Go.Proofs.YtklmnopgogcbhaaDoor

/- x -/
namespace Go.Proofs.YtklmnopgogcbhaaDoor
open Go Go.Gm

set_option maxHeartbeats 1000000 in
set_option maxRecDepth 100000 in
theorem liteIdx (s : ByteArray) (c : Int) (w : World) : Calls Tryd.prog 69 #[.string s, .int .u8 c] w fun e w' => e = .returned (.int .i64 (idxB s c)) ∧ w' = w := by
  go_enter Tryd.func69, Tryd.ntmps69
  go_wp2
  rw [run_callFunc_extern Tryd.func77 (by kernel_rfl) (by kernel_rfl) (by kernel_rfl) (e := Extern.BytealgIndexByte.indexByte) (by kernel_rfl), Lib.run_indexByteString]
  simp only [Result.andThen]
  rw [Oper.upon_value]
  go_wp2
  go_ret
  exact ⟨rfl, rfl⟩
noncomputable def q69 : List Dt → Option (Bool × List Dt)
  | [.d .str a0, .d (.i .u8) a1] => some (true, [.d (.i .i64) (idxB a0 a1)])
  | _ => none
noncomputable def s69 : Gm.Spec := Gm.Spec.of [.ro, .ro] [false] true q69
theorem good69 : Gm.Good Tryd.prog (69, s69) := by
  refine ⟨⟨spec_plain rfl ?_, _, Tryd.func69, by kernel_rfl, of_decide_eq_true (by kernel_rfl)⟩, Gm.Spec.of_natl _ _ _ _⟩
  intro ds outs h
  unfold q69 at h
  split at h
  · rename_i a0 a1
    cases h
    refine ⟨_, _, .int .i64 (idxB a0 a1), rfl, rfl, rfl, rfl, fun w us ROa Fs hA => ?_⟩
    cases hA with
    | cons h1 hA =>
      cases hA with
      | cons h2 hA =>
        cases hA
        have e1 := valRd_v (t := .str) (v := .string a0) rfl rfl h1
        have e2 := valRd_v (t := .i .u8) (v := .int .u8 a1) rfl rfl h2
        subst e1 e2
        exact liteIdx a0 a1 w
  · cases h
end Go.Proofs.YtklmnopgogcbhaaDoor

/- x -/
namespace Go.Proofs.YtklmnopgogcbhaaDoor
open Go Go.Gm
/-! ### strings.IndexByte -/
noncomputable def f61c : Code := (Tryd.f61.body).getD .skip
def f61k : Nat → Kp := kat [⟨[0, 1], [], [], []⟩, ⟨[4], [], [], []⟩]
noncomputable def f61e : Env := tab.env [(69, s69)]
theorem f61_run {R : Type} (n : Nat) (k : List Dt → Option R) (a0 : ByteArray) (a1 : Int) : evFn f61e f61k n f61c [.ro, .ro] [false] true [.tmp 4] [3] [.d .str a0, .d (.i .u8) a1] k =
    (k [.d (.i .i64) (idxB a0 a1)]) := by kernel_rfl
theorem f61_spec (a0 : ByteArray) (a1 : Int) : ∃ keep rounds, ∀ {R : Type} (k : List Dt → Option R), evFn f61e keep rounds f61c [.ro, .ro] [false] true [.tmp 4] [3] [.d .str a0, .d (.i .u8) a1] k = k [.d (.i .i64) (idxB a0 a1)] := ⟨f61k, 0, fun k => f61_run 0 k _ _⟩

noncomputable def q61 : List Dt → Option (Bool × List Dt)
  | [.d .str a0, .d (.i .u8) a1] => some (true, [.d (.i .i64) (idxB a0 a1)])
  | _ => none
noncomputable def s61 : Gm.Spec := Gm.Spec.of [.ro, .ro] [false] true q61
theorem good61 : Gm.Good Tryd.prog (61, s61) := by
  have hl : ∀ x ∈ [(69, s69)], Gm.Good Tryd.prog x := List.forall_mem_cons.2 ⟨good69, List.forall_mem_nil _⟩
  refine ⟨⟨spec_ok (tab_ok.env hl) (tab.natl hl) Tryd.func61 (by kernel_rfl : Tryd.f61.body = some f61c) [3] (by kernel_rfl) ?_, _, Tryd.func61, by kernel_rfl, of_decide_eq_true (by kernel_rfl)⟩, Gm.Spec.of_natl _ _ _ _⟩
  intro ds outs h
  unfold q61 at h
  split at h
  · cases h; exact f61_spec _ _
  · cases h
/-! ### loop.example/g00465/spec.PlainOk -/
noncomputable def f45S0 (y0 : ByteArray) (y1 : Int) : St := ⟨[(0, .c (.one (.v (.string y0)))), (3, .c (.one (.v (.int .i64 y1))))], [], []⟩
noncomputable def f45S1 : St := ⟨[(2, .c (.one (.v (.bool false))))], [], []⟩
noncomputable def f45S2 (y0 : ByteArray) (y1 : Int) (y2 : Bool) : St := ⟨[(0, .c (.one (.v (.string y0)))), (3, .c (.one (.v (.int .i64 y1)))), (8, .c (.one (.v (.bool y2))))], [], []⟩
noncomputable def f45c : Code := (Tryd.f45.body).getD .skip
def f45k : Nat → Kp := kat [⟨[0], [], [], []⟩, ⟨[0, 3], [], [], []⟩, ⟨[0, 3, 8], [], [], []⟩, ⟨[0, 3], [], [], []⟩, ⟨[0, 3, 4], [], [], []⟩, ⟨[0, 3, 45], [], [], []⟩, ⟨[2], [], [], []⟩, ⟨[2], [], [], []⟩]
noncomputable def f45e : Env := tab.env [(47, s47), (62, s62)]
noncomputable def f45L0 {R : Type} (n : Nat) (x0 : Option R) (x1 : Int → Bool → Option R) (vs0 : ByteArray) : Nat → Int → Option R
  | 0, _ => none
  | m + 1, vs3 =>
    (cond (decide (vs3 < (ByteArray.size vs0 : Int)))
   (cond ((decide ((0 : Int) ≤ vs3)) && (decide (vs3 < (ByteArray.size vs0 : Int))))
    (cond (!(letter (((ByteArray.data vs0).getD (Int.toNat vs3) 0).toNat : Int)))
     (cond (vs3 == (0 : Int))
      (x0)
      (cond (decide ((((ByteArray.data vs0).getD (Int.toNat vs3) 0).toNat : Int) ≥ (48 : Int)))
       (cond (decide ((((ByteArray.data vs0).getD (Int.toNat vs3) 0).toNat : Int) ≤ (57 : Int)))
        (f45L0 n x0 x1 vs0 m (IntKind.wrap .i64 (vs3 + (1 : Int))))
        (cond ((((ByteArray.data vs0).getD (Int.toNat vs3) 0).toNat : Int) == (95 : Int))
         (f45L0 n x0 x1 vs0 m (IntKind.wrap .i64 (vs3 + (1 : Int))))
         (cond ((((ByteArray.data vs0).getD (Int.toNat vs3) 0).toNat : Int) == (46 : Int))
          (f45L0 n x0 x1 vs0 m (IntKind.wrap .i64 (vs3 + (1 : Int))))
          (cond ((((ByteArray.data vs0).getD (Int.toNat vs3) 0).toNat : Int) == (47 : Int))
           (f45L0 n x0 x1 vs0 m (IntKind.wrap .i64 (vs3 + (1 : Int))))
           (cond (!((((ByteArray.data vs0).getD (Int.toNat vs3) 0).toNat : Int) == (45 : Int)))
            (x0)
            (f45L0 n x0 x1 vs0 m (IntKind.wrap .i64 (vs3 + (1 : Int)))))))))
       (cond ((((ByteArray.data vs0).getD (Int.toNat vs3) 0).toNat : Int) == (95 : Int))
        (f45L0 n x0 x1 vs0 m (IntKind.wrap .i64 (vs3 + (1 : Int))))
        (cond ((((ByteArray.data vs0).getD (Int.toNat vs3) 0).toNat : Int) == (46 : Int))
         (f45L0 n x0 x1 vs0 m (IntKind.wrap .i64 (vs3 + (1 : Int))))
         (cond ((((ByteArray.data vs0).getD (Int.toNat vs3) 0).toNat : Int) == (47 : Int))
          (f45L0 n x0 x1 vs0 m (IntKind.wrap .i64 (vs3 + (1 : Int))))
          (cond (!((((ByteArray.data vs0).getD (Int.toNat vs3) 0).toNat : Int) == (45 : Int)))
           (x0)
           (f45L0 n x0 x1 vs0 m (IntKind.wrap .i64 (vs3 + (1 : Int))))))))))
     (f45L0 n x0 x1 vs0 m (IntKind.wrap .i64 (vs3 + (1 : Int)))))
    none)
   (x1 vs3 (decide (vs3 < (ByteArray.size vs0 : Int)))))
theorem f45L0_b {R : Type} (n : Nat) (k' : Ex → St → Option R) (vs0 : ByteArray) (vs3 : Int) : ev f45e f45k n (cAt [1,0,1,0,0] f45c) (f45S0 vs0 vs3) k' =
    (cond (decide (vs3 < (ByteArray.size vs0 : Int)))
  (cond ((decide ((0 : Int) ≤ vs3)) && (decide (vs3 < (ByteArray.size vs0 : Int))))
   (cond (!(letter (((ByteArray.data vs0).getD (Int.toNat vs3) 0).toNat : Int)))
    (cond (vs3 == (0 : Int))
     (k' .ret f45S1)
     (cond (decide ((((ByteArray.data vs0).getD (Int.toNat vs3) 0).toNat : Int) ≥ (48 : Int)))
      (cond (decide ((((ByteArray.data vs0).getD (Int.toNat vs3) 0).toNat : Int) ≤ (57 : Int)))
       (k' .normal (f45S0 vs0 (IntKind.wrap .i64 (vs3 + (1 : Int)))))
       (cond ((((ByteArray.data vs0).getD (Int.toNat vs3) 0).toNat : Int) == (95 : Int))
        (k' .normal (f45S0 vs0 (IntKind.wrap .i64 (vs3 + (1 : Int)))))
        (cond ((((ByteArray.data vs0).getD (Int.toNat vs3) 0).toNat : Int) == (46 : Int))
         (k' .normal (f45S0 vs0 (IntKind.wrap .i64 (vs3 + (1 : Int)))))
         (cond ((((ByteArray.data vs0).getD (Int.toNat vs3) 0).toNat : Int) == (47 : Int))
          (k' .normal (f45S0 vs0 (IntKind.wrap .i64 (vs3 + (1 : Int)))))
          (cond (!((((ByteArray.data vs0).getD (Int.toNat vs3) 0).toNat : Int) == (45 : Int)))
           (k' .ret f45S1)
           (k' .normal (f45S0 vs0 (IntKind.wrap .i64 (vs3 + (1 : Int))))))))))
      (cond ((((ByteArray.data vs0).getD (Int.toNat vs3) 0).toNat : Int) == (95 : Int))
       (k' .normal (f45S0 vs0 (IntKind.wrap .i64 (vs3 + (1 : Int)))))
       (cond ((((ByteArray.data vs0).getD (Int.toNat vs3) 0).toNat : Int) == (46 : Int))
        (k' .normal (f45S0 vs0 (IntKind.wrap .i64 (vs3 + (1 : Int)))))
        (cond ((((ByteArray.data vs0).getD (Int.toNat vs3) 0).toNat : Int) == (47 : Int))
         (k' .normal (f45S0 vs0 (IntKind.wrap .i64 (vs3 + (1 : Int)))))
         (cond (!((((ByteArray.data vs0).getD (Int.toNat vs3) 0).toNat : Int) == (45 : Int)))
          (k' .ret f45S1)
          (k' .normal (f45S0 vs0 (IntKind.wrap .i64 (vs3 + (1 : Int)))))))))))
    (k' .normal (f45S0 vs0 (IntKind.wrap .i64 (vs3 + (1 : Int))))))
   none)
  (k' (.exit 0) (f45S2 vs0 vs3 (decide (vs3 < (ByteArray.size vs0 : Int)))))) := by kernel_rfl
theorem f45L0_eq {R : Type} (n : Nat) (k' : Ex → St → Option R) (vs0 : ByteArray) : ∀ (m : Nat) (vs3 : Int), iter (fun st k => ev f45e f45k n (cAt [1,0,1,0,0] f45c) st k) m (f45S0 vs0 vs3) k' = f45L0 n (k' .ret f45S1) (fun (xvs3 : Int) (xvs8 : Bool) => k' (.exit 0) (f45S2 vs0 xvs3 xvs8)) vs0 m vs3 := by
  intro m; induction m with
  | zero => intros; rfl
  | succ m ih =>
    intro vs3
    simp only [iter]
    rw [f45L0_b]
    simp only [ih, f45L0]

noncomputable def f45K0 {R : Type} (n : Nat) (k' : Ex → St → Option R) : Ex → St → Option R := (blockK 0 (seqK f45e f45k n (cAt [1,1] f45c) k'))
theorem f45K0_x0 {R : Type} (n : Nat) (k : List Dt → Option R) (a0 : ByteArray)  : f45K0 n (exitK f45e [.ro] [false] true [.tmp 2] [4] [.d .str a0] k) .ret f45S1 =
    (k [.d .bool false]) := by kernel_rfl
theorem f45K0_x1 {R : Type} (n : Nat) (k : List Dt → Option R) (a0 : ByteArray) (vs0 : ByteArray) (xvs3 : Int) (xvs8 : Bool) : f45K0 n (exitK f45e [.ro] [false] true [.tmp 2] [4] [.d .str a0] k) (.exit 0) (f45S2 vs0 xvs3 xvs8) =
    (cond (inR (ByteArray.size vs0 : Int) (1 : Int) (60 : Int))
  (cond (!(sEq vs0 (bs [110,117,108,108])))
   (cond (!(sEq vs0 (bs [116,114,117,101])))
    (k [.d .bool (!(sEq vs0 (bs [102,97,108,115,101])))])
    (k [.d .bool false]))
   (k [.d .bool false]))
  (k [.d .bool false])) := by kernel_rfl

theorem f45_run {R : Type} (n : Nat) (k : List Dt → Option R) (a0 : ByteArray) : evFn f45e f45k n f45c [.ro] [false] true [.tmp 2] [4] [.d .str a0] k =
    (f45L0 n (k [.d .bool false]) (fun (xvs3 : Int) (xvs8 : Bool) =>
  (cond (inR (ByteArray.size a0 : Int) (1 : Int) (60 : Int))
   (cond (!(sEq a0 (bs [110,117,108,108])))
    (cond (!(sEq a0 (bs [116,114,117,101])))
     (k [.d .bool (!(sEq a0 (bs [102,97,108,115,101])))])
     (k [.d .bool false]))
    (k [.d .bool false]))
   (k [.d .bool false]))) a0 n (0 : Int)) := by
  refine Eq.trans (b := (iter (fun st k => ev f45e f45k n (cAt [1,0,1,0,0] f45c) st k) n (f45S0 a0 (0 : Int)) (f45K0 n (exitK f45e [.ro] [false] true [.tmp 2] [4] [.d .str a0] k)))) (by kernel_rfl) ?_
  simp only [f45L0_eq, f45K0_x0, f45K0_x1]
theorem f45_spec (a0 : ByteArray) (hg : okStr a0 = true) : ∃ keep rounds, ∀ {R : Type} (k : List Dt → Option R), evFn f45e keep rounds f45c [.ro] [false] true [.tmp 2] [4] [.d .str a0] k = k [.d .bool (plainOk a0)] := by
  have hl : a0.size ≤ 9223372036854775807 := bleN hg
  refine ⟨f45k, a0.size + 1, fun k => ?_⟩
  rw [f45_run]
  refine Eq.trans (loop_idx (n := a0.size) (F := fun m i => f45L0 (a0.size + 1) _ _ a0 m i) (p := fun j => plainC (j : Int) (byteAt a0 j)) (good := _) (bad := k [.d .bool false])
    (fun m j hj => ?_) (fun m => by simp only [f45L0, idxE, cond_false]; rfl) a0.size 0 (a0.size + 1) (by omega) (by omega)) ?_
  · obtain ⟨h1, h0, hw, ht⟩ := idx hj (by omega)
    simp only [f45L0, h1, h0, hw, ht, Bool.and_self, cond_true]
    show _ = cond (plainC (j : Int) (((ByteArray.data a0).getD j 0).toNat : Int)) _ _
    generalize (((ByteArray.data a0).getD j 0).toNat : Int) = c
    unfold plainC digit
    cases letter c
    · cases ((j : Int) == (0 : Int))
      · cases decide (c ≥ (48 : Int)) <;> cases decide (c ≤ (57 : Int)) <;> cases (c == (95 : Int)) <;> cases (c == (46 : Int)) <;> cases (c == (47 : Int)) <;> cases (c == (45 : Int)) <;> rfl
      · rfl
    · rfl
  · unfold plainOk
    cases allN (fun j => plainC (j : Int) (byteAt a0 j)) 0 a0.size <;> cases inR (a0.size : Int) 1 60 <;> cases sEq a0 (bs [110,117,108,108]) <;> cases sEq a0 (bs [116,114,117,101]) <;> rfl

noncomputable def q45 : List Dt → Option (Bool × List Dt)
  | [.d .str a0] => some ((okStr a0), [.d .bool (plainOk a0)])
  | _ => none
noncomputable def s45 : Gm.Spec := Gm.Spec.of [.ro] [false] true q45
theorem good45 : Gm.Good Tryd.prog (45, s45) := by
  have hl : ∀ x ∈ [(47, s47), (62, s62)], Gm.Good Tryd.prog x := List.forall_mem_cons.2 ⟨good47, List.forall_mem_cons.2 ⟨good62, List.forall_mem_nil _⟩⟩
  refine ⟨⟨spec_ok (tab_ok.env hl) (tab.natl hl) Tryd.func45 (by kernel_rfl : Tryd.f45.body = some f45c) [4] (by kernel_rfl) ?_, _, Tryd.func45, by kernel_rfl, of_decide_eq_true (by kernel_rfl)⟩, Gm.Spec.of_natl _ _ _ _⟩
  intro ds outs h
  unfold q45 at h
  split at h
  · simp only [Option.some.injEq, Prod.mk.injEq] at h; obtain ⟨hg, h⟩ := h; cases h; exact f45_spec _ hg
  · cases h
/-! ### loop.example/g00465/impl.PlainOk -/
noncomputable def f43S0 (y0 : ByteArray) (y1 : Int) (y2 : Int) : St := ⟨[(0, .c (.one (.v (.string y0)))), (5, .c (.one (.v (.int .i64 y1)))), (6, .c (.one (.v (.int .i64 y2))))], [], []⟩
noncomputable def f43S1 : St := ⟨[(2, .c (.one (.v (.bool false))))], [], []⟩
noncomputable def f43S2 (y0 : ByteArray) (y1 : Int) (y2 : Int) (y3 : Bool) : St := ⟨[(0, .c (.one (.v (.string y0)))), (5, .c (.one (.v (.int .i64 y1)))), (6, .c (.one (.v (.int .i64 y2)))), (7, .c (.one (.v (.bool y3))))], [], []⟩
noncomputable def f43c : Code := (Tryd.f43.body).getD .skip
def f43k : Nat → Kp := kat [⟨[0], [], [], []⟩, ⟨[0, 5, 6], [], [], []⟩, ⟨[0, 5, 6, 7], [], [], []⟩, ⟨[0, 3, 5, 6], [], [], []⟩, ⟨[0, 5, 6, 31], [], [], []⟩, ⟨[2], [], [], []⟩, ⟨[0, 5, 6], [], [], []⟩, ⟨[2], [], [], []⟩]
noncomputable def f43e : Env := tab.env [(44, s44), (59, s59), (60, s60), (61, s61)]
noncomputable def f43L0 {R : Type} (n : Nat) (x0 : Option R) (x1 : Int → Bool → Option R) (vs0 : ByteArray) (vs5 : Int) : Nat → Int → Option R
  | 0, _ => none
  | m + 1, vs6 =>
    (cond (decide (vs6 < vs5))
   (cond ((decide ((0 : Int) ≤ vs6)) && (decide (vs6 < (ByteArray.size vs0 : Int))))
    (cond (!(letter (((ByteArray.data vs0).getD (Int.toNat vs6) 0).toNat : Int)))
     (cond (vs6 == (0 : Int))
      (x0)
      (cond ((decide ((0 : Int) ≤ vs6)) && (decide (vs6 < (ByteArray.size vs0 : Int))))
       (cond (!(digit (((ByteArray.data vs0).getD (Int.toNat vs6) 0).toNat : Int)))
        (cond ((decide ((0 : Int) ≤ vs6)) && (decide (vs6 < (ByteArray.size vs0 : Int))))
         (cond (decide ((idxB (bs [95,46,47,45]) (((ByteArray.data vs0).getD (Int.toNat vs6) 0).toNat : Int)) < (0 : Int)))
          (x0)
          (f43L0 n x0 x1 vs0 vs5 m (IntKind.wrap .i64 (vs6 + (1 : Int)))))
         none)
        (f43L0 n x0 x1 vs0 vs5 m (IntKind.wrap .i64 (vs6 + (1 : Int)))))
       none))
     (f43L0 n x0 x1 vs0 vs5 m (IntKind.wrap .i64 (vs6 + (1 : Int)))))
    none)
   (x1 vs6 (decide (vs6 < vs5))))
theorem f43L0_b {R : Type} (n : Nat) (k' : Ex → St → Option R) (vs0 : ByteArray) (vs5 : Int) (vs6 : Int) : ev f43e f43k n (cAt [1,0,1,0,0] f43c) (f43S0 vs0 vs5 vs6) k' =
    (cond (decide (vs6 < vs5))
  (cond ((decide ((0 : Int) ≤ vs6)) && (decide (vs6 < (ByteArray.size vs0 : Int))))
   (cond (!(letter (((ByteArray.data vs0).getD (Int.toNat vs6) 0).toNat : Int)))
    (cond (vs6 == (0 : Int))
     (k' .ret f43S1)
     (cond ((decide ((0 : Int) ≤ vs6)) && (decide (vs6 < (ByteArray.size vs0 : Int))))
      (cond (!(digit (((ByteArray.data vs0).getD (Int.toNat vs6) 0).toNat : Int)))
       (cond ((decide ((0 : Int) ≤ vs6)) && (decide (vs6 < (ByteArray.size vs0 : Int))))
        (cond (decide ((idxB (bs [95,46,47,45]) (((ByteArray.data vs0).getD (Int.toNat vs6) 0).toNat : Int)) < (0 : Int)))
         (k' .ret f43S1)
         (k' .normal (f43S0 vs0 vs5 (IntKind.wrap .i64 (vs6 + (1 : Int))))))
        none)
       (k' .normal (f43S0 vs0 vs5 (IntKind.wrap .i64 (vs6 + (1 : Int))))))
      none))
    (k' .normal (f43S0 vs0 vs5 (IntKind.wrap .i64 (vs6 + (1 : Int))))))
   none)
  (k' (.exit 0) (f43S2 vs0 vs5 vs6 (decide (vs6 < vs5))))) := by kernel_rfl
theorem f43L0_eq {R : Type} (n : Nat) (k' : Ex → St → Option R) (vs0 : ByteArray) (vs5 : Int) : ∀ (m : Nat) (vs6 : Int), iter (fun st k => ev f43e f43k n (cAt [1,0,1,0,0] f43c) st k) m (f43S0 vs0 vs5 vs6) k' = f43L0 n (k' .ret f43S1) (fun (xvs6 : Int) (xvs7 : Bool) => k' (.exit 0) (f43S2 vs0 vs5 xvs6 xvs7)) vs0 vs5 m vs6 := by
  intro m; induction m with
  | zero => intros; rfl
  | succ m ih =>
    intro vs6
    simp only [iter]
    rw [f43L0_b]
    simp only [ih, f43L0]

noncomputable def f43K0 {R : Type} (n : Nat) (k' : Ex → St → Option R) : Ex → St → Option R := (blockK 0 (seqK f43e f43k n (cAt [1,1] f43c) k'))
theorem f43K0_x0 {R : Type} (n : Nat) (k : List Dt → Option R) (a0 : ByteArray)  : f43K0 n (exitK f43e [.ro] [false] true [.tmp 2] [4] [.d .str a0] k) .ret f43S1 =
    (k [.d .bool false]) := by kernel_rfl
theorem f43K0_x1 {R : Type} (n : Nat) (k : List Dt → Option R) (a0 : ByteArray) (vs0 : ByteArray) (vs5 : Int) (xvs6 : Int) (xvs7 : Bool) : f43K0 n (exitK f43e [.ro] [false] true [.tmp 2] [4] [.d .str a0] k) (.exit 0) (f43S2 vs0 vs5 xvs6 xvs7) =
    (cond (inR (ByteArray.size vs0 : Int) (1 : Int) (60 : Int))
  (cond (!(sEq vs0 (bs [110,117,108,108])))
   (cond (!(sEq vs0 (bs [116,114,117,101])))
    (k [.d .bool (!(sEq vs0 (bs [102,97,108,115,101])))])
    (k [.d .bool false]))
   (k [.d .bool false]))
  (k [.d .bool false])) := by kernel_rfl

theorem f43_run {R : Type} (n : Nat) (k : List Dt → Option R) (a0 : ByteArray) : evFn f43e f43k n f43c [.ro] [false] true [.tmp 2] [4] [.d .str a0] k =
    (f43L0 n (k [.d .bool false]) (fun (xvs6 : Int) (xvs7 : Bool) =>
  (cond (inR (ByteArray.size a0 : Int) (1 : Int) (60 : Int))
   (cond (!(sEq a0 (bs [110,117,108,108])))
    (cond (!(sEq a0 (bs [116,114,117,101])))
     (k [.d .bool (!(sEq a0 (bs [102,97,108,115,101])))])
     (k [.d .bool false]))
    (k [.d .bool false]))
   (k [.d .bool false]))) a0 (ByteArray.size a0 : Int) n (0 : Int)) := by
  refine Eq.trans (b := (iter (fun st k => ev f43e f43k n (cAt [1,0,1,0,0] f43c) st k) n (f43S0 a0 (ByteArray.size a0 : Int) (0 : Int)) (f43K0 n (exitK f43e [.ro] [false] true [.tmp 2] [4] [.d .str a0] k)))) (by kernel_rfl) ?_
  simp only [f43L0_eq, f43K0_x0, f43K0_x1]
theorem f43_spec (a0 : ByteArray) (hg : okStr a0 = true) : ∃ keep rounds, ∀ {R : Type} (k : List Dt → Option R), evFn f43e keep rounds f43c [.ro] [false] true [.tmp 2] [4] [.d .str a0] k = k [.d .bool (plainOk a0)] := by
  have hl : a0.size ≤ 9223372036854775807 := bleN hg
  refine ⟨f43k, a0.size + 1, fun k => ?_⟩
  rw [f43_run]
  refine Eq.trans (loop_idx (n := a0.size) (F := fun m i => f43L0 (a0.size + 1) _ _ a0 (a0.size : Int) m i) (p := fun j => plainC (j : Int) (byteAt a0 j)) (good := _) (bad := k [.d .bool false])
    (fun m j hj => ?_) (fun m => by simp only [f43L0, idxE, cond_false]; rfl) a0.size 0 (a0.size + 1) (by omega) (by omega)) ?_
  · obtain ⟨h1, h0, hw, ht⟩ := idx hj (by omega)
    simp only [f43L0, h1, h0, hw, ht, Bool.and_self, cond_true, idx4 (UInt8.toNat_lt _)]
    show _ = cond (plainC (j : Int) (((ByteArray.data a0).getD j 0).toNat : Int)) _ _
    generalize (((ByteArray.data a0).getD j 0).toNat : Int) = c
    unfold plainC
    cases letter c
    · cases ((j : Int) == (0 : Int))
      · cases digit c <;> cases (c == (95 : Int)) <;> cases (c == (46 : Int)) <;> cases (c == (47 : Int)) <;> cases (c == (45 : Int)) <;> rfl
      · rfl
    · rfl
  · unfold plainOk
    cases allN (fun j => plainC (j : Int) (byteAt a0 j)) 0 a0.size <;> cases inR (a0.size : Int) 1 60 <;> cases sEq a0 (bs [110,117,108,108]) <;> cases sEq a0 (bs [116,114,117,101]) <;> rfl

noncomputable def q43 : List Dt → Option (Bool × List Dt)
  | [.d .str a0] => some ((okStr a0), [.d .bool (plainOk a0)])
  | _ => none
noncomputable def s43 : Gm.Spec := Gm.Spec.of [.ro] [false] true q43
theorem good43 : Gm.Good Tryd.prog (43, s43) := by
  have hl : ∀ x ∈ [(44, s44), (59, s59), (60, s60), (61, s61)], Gm.Good Tryd.prog x := List.forall_mem_cons.2 ⟨good44, List.forall_mem_cons.2 ⟨good59, List.forall_mem_cons.2 ⟨good60, List.forall_mem_cons.2 ⟨good61, List.forall_mem_nil _⟩⟩⟩⟩
  refine ⟨⟨spec_ok (tab_ok.env hl) (tab.natl hl) Tryd.func43 (by kernel_rfl : Tryd.f43.body = some f43c) [4] (by kernel_rfl) ?_, _, Tryd.func43, by kernel_rfl, of_decide_eq_true (by kernel_rfl)⟩, Gm.Spec.of_natl _ _ _ _⟩
  intro ds outs h
  unfold q43 at h
  split at h
  · simp only [Option.some.injEq, Prod.mk.injEq] at h; obtain ⟨hg, h⟩ := h; cases h; exact f43_spec _ hg
  · cases h
end Go.Proofs.YtklmnopgogcbhaaDoor

/- x -/
namespace Go.Proofs.YtklmnopgogcbhaaDoor
open Go Go.Gm
/-! ### loop.example/g00465/spec.l25Vals -/
noncomputable def f46S0 (y0 : List ByteArray) (y1 : Int) : St := ⟨[(0, .c (.one (.ro .str y0))), (3, .c (.one (.v (.int .i64 y1))))], [], []⟩
noncomputable def f46S1 : St := ⟨[(2, .c (.one (.v (.bool false))))], [], []⟩
noncomputable def f46S2 (y0 : List ByteArray) (y1 : Int) (y2 : Bool) : St := ⟨[(0, .c (.one (.ro .str y0))), (3, .c (.one (.v (.int .i64 y1)))), (7, .c (.one (.v (.bool y2))))], [], []⟩
noncomputable def f46c : Code := (Tryd.f46.body).getD .skip
def f46k : Nat → Kp := kat [⟨[0], [], [], []⟩, ⟨[0, 3], [], [], []⟩, ⟨[0, 3, 7], [], [], []⟩, ⟨[0, 3], [], [], []⟩, ⟨[0, 3, 31], [], [], []⟩, ⟨[2], [], [], []⟩, ⟨[2], [], [], []⟩]
noncomputable def f46e : Env := tab.env [(45, s45)]
noncomputable def f46L0 {R : Type} (n : Nat) (x0 : Option R) (x1 : Int → Bool → Option R) (vs0 : List ByteArray) : Nat → Int → Option R
  | 0, _ => none
  | m + 1, vs3 =>
    (cond (decide (vs3 < (vs0.length : Int)))
   (cond ((decide ((0 : Int) ≤ vs3)) && (decide (vs3 < (vs0.length : Int))))
    (cond (okStr (atI (t := .str) vs0 (Int.toNat vs3)))
     (cond (!(plainOk (atI (t := .str) vs0 (Int.toNat vs3))))
      (x0)
      (cond (decide (vs3 > (0 : Int)))
       (cond ((decide ((0 : Int) ≤ (IntKind.wrap .i64 (vs3 - (1 : Int))))) && (decide ((IntKind.wrap .i64 (vs3 - (1 : Int))) < (vs0.length : Int))))
        (cond ((decide ((0 : Int) ≤ vs3)) && (decide (vs3 < (vs0.length : Int))))
         (cond (!(sLt (atI (t := .str) vs0 (Int.toNat (IntKind.wrap .i64 (vs3 - (1 : Int))))) (atI (t := .str) vs0 (Int.toNat vs3))))
          (x0)
          (f46L0 n x0 x1 vs0 m (IntKind.wrap .i64 (vs3 + (1 : Int)))))
         none)
        none)
       (f46L0 n x0 x1 vs0 m (IntKind.wrap .i64 (vs3 + (1 : Int))))))
     none)
    none)
   (x1 vs3 (decide (vs3 < (vs0.length : Int)))))
theorem f46L0_b {R : Type} (n : Nat) (k' : Ex → St → Option R) (vs0 : List ByteArray) (vs3 : Int) : ev f46e f46k n (cAt [1,0,1,0,0] f46c) (f46S0 vs0 vs3) k' =
    (cond (decide (vs3 < (vs0.length : Int)))
  (cond ((decide ((0 : Int) ≤ vs3)) && (decide (vs3 < (vs0.length : Int))))
   (cond (okStr (atI (t := .str) vs0 (Int.toNat vs3)))
    (cond (!(plainOk (atI (t := .str) vs0 (Int.toNat vs3))))
     (k' .ret f46S1)
     (cond (decide (vs3 > (0 : Int)))
      (cond ((decide ((0 : Int) ≤ (IntKind.wrap .i64 (vs3 - (1 : Int))))) && (decide ((IntKind.wrap .i64 (vs3 - (1 : Int))) < (vs0.length : Int))))
       (cond ((decide ((0 : Int) ≤ vs3)) && (decide (vs3 < (vs0.length : Int))))
        (cond (!(sLt (atI (t := .str) vs0 (Int.toNat (IntKind.wrap .i64 (vs3 - (1 : Int))))) (atI (t := .str) vs0 (Int.toNat vs3))))
         (k' .ret f46S1)
         (k' .normal (f46S0 vs0 (IntKind.wrap .i64 (vs3 + (1 : Int))))))
        none)
       none)
      (k' .normal (f46S0 vs0 (IntKind.wrap .i64 (vs3 + (1 : Int)))))))
    none)
   none)
  (k' (.exit 0) (f46S2 vs0 vs3 (decide (vs3 < (vs0.length : Int)))))) := by kernel_rfl
theorem f46L0_eq {R : Type} (n : Nat) (k' : Ex → St → Option R) (vs0 : List ByteArray) : ∀ (m : Nat) (vs3 : Int), iter (fun st k => ev f46e f46k n (cAt [1,0,1,0,0] f46c) st k) m (f46S0 vs0 vs3) k' = f46L0 n (k' .ret f46S1) (fun (xvs3 : Int) (xvs7 : Bool) => k' (.exit 0) (f46S2 vs0 xvs3 xvs7)) vs0 m vs3 := by
  intro m; induction m with
  | zero => intros; rfl
  | succ m ih =>
    intro vs3
    simp only [iter]
    rw [f46L0_b]
    simp only [ih, f46L0]

noncomputable def f46K0 {R : Type} (n : Nat) (k' : Ex → St → Option R) : Ex → St → Option R := (blockK 0 (seqK f46e f46k n (cAt [1,1] f46c) k'))
theorem f46K0_x0 {R : Type} (n : Nat) (k : List Dt → Option R) (a0 : List ByteArray)  : f46K0 n (exitK f46e [.ro] [false] true [.tmp 2] [4] [.d (.sl .str) a0] k) .ret f46S1 =
    (k [.d .bool false]) := by kernel_rfl
theorem f46K0_x1 {R : Type} (n : Nat) (k : List Dt → Option R) (a0 : List ByteArray) (vs0 : List ByteArray) (xvs3 : Int) (xvs7 : Bool) : f46K0 n (exitK f46e [.ro] [false] true [.tmp 2] [4] [.d (.sl .str) a0] k) (.exit 0) (f46S2 vs0 xvs3 xvs7) =
    (k [.d .bool true]) := by kernel_rfl

theorem f46_run {R : Type} (n : Nat) (k : List Dt → Option R) (a0 : List ByteArray) : evFn f46e f46k n f46c [.ro] [false] true [.tmp 2] [4] [.d (.sl .str) a0] k =
    (f46L0 n (k [.d .bool false]) (fun (xvs3 : Int) (xvs7 : Bool) =>
  (k [.d .bool true])) a0 n (0 : Int)) := by
  refine Eq.trans (b := (iter (fun st k => ev f46e f46k n (cAt [1,0,1,0,0] f46c) st k) n (f46S0 a0 (0 : Int)) (f46K0 n (exitK f46e [.ro] [false] true [.tmp 2] [4] [.d (.sl .str) a0] k)))) (by kernel_rfl) ?_
  simp only [f46L0_eq, f46K0_x0, f46K0_x1]
theorem f46_spec (a0 : List ByteArray) (hg : okL okStr a0 = true) : ∃ keep rounds, ∀ {R : Type} (k : List Dt → Option R), evFn f46e keep rounds f46c [.ro] [false] true [.tmp 2] [4] [.d (.sl .str) a0] k = k [.d .bool (valsOk a0)] := by
  simp only [okL, Bool.and_eq_true] at hg
  obtain ⟨hl, hs⟩ := hg
  have hl : a0.length ≤ 9223372036854775807 := bleN hl
  refine ⟨f46k, a0.length + 1, fun k => ?_⟩
  rw [f46_run]
  refine Eq.trans (loop_idx (n := a0.length) (F := fun m i => f46L0 (a0.length + 1) _ _ a0 m i) (p := valC a0) (good := _) (bad := k [.d .bool false])
    (fun m j hj => ?_) (fun m => by simp only [f46L0, idxE, cond_false]; rfl) a0.length 0 (a0.length + 1) (by omega) (by omega)) ?_
  · obtain ⟨h1, h0, hw, ht⟩ := idx hj (by omega)
    simp only [f46L0, h1, h0, hw, ht, okStr_at hs hj, Bool.and_self, cond_true]
    unfold valC
    cases plainOk (atI (t := .str) a0 j)
    · rfl
    · by_cases hz : (j : Int) > 0
      · obtain ⟨h2, h3, _, h5⟩ := idx (show j - 1 < a0.length by omega) (by omega)
        simp only [hz, decide_true, cond_true, idxM hj (by omega) (by omega), h2, h3, h5, Bool.and_self]
        cases sLt (atI (t := .str) a0 (j - 1)) (atI (t := .str) a0 j) <;> rfl
      · simp only [hz, decide_false, cond_false]; rfl
  · unfold valsOk
    cases allN (valC a0) 0 a0.length <;> rfl

noncomputable def q46 : List Dt → Option (Bool × List Dt)
  | [.d (.sl .str) a0] => some ((okL okStr a0), [.d .bool (valsOk a0)])
  | _ => none
noncomputable def s46 : Gm.Spec := Gm.Spec.of [.ro] [false] true q46
theorem good46 : Gm.Good Tryd.prog (46, s46) := by
  have hl : ∀ x ∈ [(45, s45)], Gm.Good Tryd.prog x := List.forall_mem_cons.2 ⟨good45, List.forall_mem_nil _⟩
  refine ⟨⟨spec_ok (tab_ok.env hl) (tab.natl hl) Tryd.func46 (by kernel_rfl : Tryd.f46.body = some f46c) [4] (by kernel_rfl) ?_, _, Tryd.func46, by kernel_rfl, of_decide_eq_true (by kernel_rfl)⟩, Gm.Spec.of_natl _ _ _ _⟩
  intro ds outs h
  unfold q46 at h
  split at h
  · simp only [Option.some.injEq, Prod.mk.injEq] at h; obtain ⟨hg, h⟩ := h; cases h; exact f46_spec _ hg
  · cases h
/-! ### loop.example/g00465/spec.PickOk -/
noncomputable def f21c : Code := (Tryd.f21.body).getD .skip
def f21k : Nat → Kp := kat [⟨[1], [], [], []⟩, ⟨[1, 3, 4], [], [], []⟩, ⟨[1, 3, 4, 6], [], [], []⟩, ⟨[2], [], [], []⟩, ⟨[1, 3, 4, 6, 7], [], [], []⟩, ⟨[1, 3, 4, 6, 7], [], [], []⟩, ⟨[1, 3, 4], [], [], []⟩, ⟨[1, 3, 4, 6, 10], [], [], []⟩, ⟨[1, 3, 4, 6, 10], [], [], []⟩, ⟨[1, 3, 4], [], [], []⟩, ⟨[1, 3, 4, 6, 13], [], [], []⟩, ⟨[1, 3, 4, 13], [], [], []⟩, ⟨[2], [], [], []⟩]
noncomputable def f21e : Env := tab.env [(45, s45), (46, s46), (47, s47)]
theorem f21_run {R : Type} (n : Nat) (k : List Dt → Option R) (a0 : PickT) : evFn f21e f21k n f21c [.ro] [false] true [.tmp 2] [4] [.d .pick a0] k =
    (cond ((PickT.op a0) == (1 : Int))
  (cond ((PickT.op a0) == (1 : Int))
   (cond (okStr (PickT.key a0))
    (cond (plainOk (PickT.key a0))
     (cond (okL okStr (PickT.vals a0))
      (cond (valsOk (PickT.vals a0))
       (k [.d .bool (inR ((PickT.vals a0).length : Int) (1 : Int) (1 : Int))])
       (k [.d .bool false]))
      none)
     (k [.d .bool false]))
    none)
   (cond ((PickT.op a0) == (3 : Int))
    (cond ((PickT.op a0) == (3 : Int))
     (cond (okStr (PickT.key a0))
      (cond (plainOk (PickT.key a0))
       (cond (okL okStr (PickT.vals a0))
        (cond (valsOk (PickT.vals a0))
         (k [.d .bool (inR ((PickT.vals a0).length : Int) (1 : Int) (4 : Int))])
         (k [.d .bool false]))
        none)
       (k [.d .bool false]))
      none)
     (cond ((PickT.op a0) == (5 : Int))
      (cond ((PickT.op a0) == (5 : Int))
       (cond (okStr (PickT.key a0))
        (cond (plainOk (PickT.key a0))
         (cond (okL okStr (PickT.vals a0))
          (cond (valsOk (PickT.vals a0))
           (k [.d .bool (inR ((PickT.vals a0).length : Int) (0 : Int) (0 : Int))])
           (k [.d .bool false]))
          none)
         (k [.d .bool false]))
        none)
       (k [.d .bool false]))
      (cond ((PickT.op a0) == (6 : Int))
       (cond (okStr (PickT.key a0))
        (cond (plainOk (PickT.key a0))
         (cond (okL okStr (PickT.vals a0))
          (cond (valsOk (PickT.vals a0))
           (k [.d .bool (inR ((PickT.vals a0).length : Int) (0 : Int) (0 : Int))])
           (k [.d .bool false]))
          none)
         (k [.d .bool false]))
        none)
       (k [.d .bool false]))))
    (cond ((PickT.op a0) == (4 : Int))
     (cond (okStr (PickT.key a0))
      (cond (plainOk (PickT.key a0))
       (cond (okL okStr (PickT.vals a0))
        (cond (valsOk (PickT.vals a0))
         (k [.d .bool (inR ((PickT.vals a0).length : Int) (1 : Int) (4 : Int))])
         (k [.d .bool false]))
        none)
       (k [.d .bool false]))
      none)
     (cond ((PickT.op a0) == (5 : Int))
      (cond ((PickT.op a0) == (5 : Int))
       (cond (okStr (PickT.key a0))
        (cond (plainOk (PickT.key a0))
         (cond (okL okStr (PickT.vals a0))
          (cond (valsOk (PickT.vals a0))
           (k [.d .bool (inR ((PickT.vals a0).length : Int) (0 : Int) (0 : Int))])
           (k [.d .bool false]))
          none)
         (k [.d .bool false]))
        none)
       (k [.d .bool false]))
      (cond ((PickT.op a0) == (6 : Int))
       (cond (okStr (PickT.key a0))
        (cond (plainOk (PickT.key a0))
         (cond (okL okStr (PickT.vals a0))
          (cond (valsOk (PickT.vals a0))
           (k [.d .bool (inR ((PickT.vals a0).length : Int) (0 : Int) (0 : Int))])
           (k [.d .bool false]))
          none)
         (k [.d .bool false]))
        none)
       (k [.d .bool false]))))))
  (cond ((PickT.op a0) == (2 : Int))
   (cond (okStr (PickT.key a0))
    (cond (plainOk (PickT.key a0))
     (cond (okL okStr (PickT.vals a0))
      (cond (valsOk (PickT.vals a0))
       (k [.d .bool (inR ((PickT.vals a0).length : Int) (1 : Int) (1 : Int))])
       (k [.d .bool false]))
      none)
     (k [.d .bool false]))
    none)
   (cond ((PickT.op a0) == (3 : Int))
    (cond ((PickT.op a0) == (3 : Int))
     (cond (okStr (PickT.key a0))
      (cond (plainOk (PickT.key a0))
       (cond (okL okStr (PickT.vals a0))
        (cond (valsOk (PickT.vals a0))
         (k [.d .bool (inR ((PickT.vals a0).length : Int) (1 : Int) (4 : Int))])
         (k [.d .bool false]))
        none)
       (k [.d .bool false]))
      none)
     (cond ((PickT.op a0) == (5 : Int))
      (cond ((PickT.op a0) == (5 : Int))
       (cond (okStr (PickT.key a0))
        (cond (plainOk (PickT.key a0))
         (cond (okL okStr (PickT.vals a0))
          (cond (valsOk (PickT.vals a0))
           (k [.d .bool (inR ((PickT.vals a0).length : Int) (0 : Int) (0 : Int))])
           (k [.d .bool false]))
          none)
         (k [.d .bool false]))
        none)
       (k [.d .bool false]))
      (cond ((PickT.op a0) == (6 : Int))
       (cond (okStr (PickT.key a0))
        (cond (plainOk (PickT.key a0))
         (cond (okL okStr (PickT.vals a0))
          (cond (valsOk (PickT.vals a0))
           (k [.d .bool (inR ((PickT.vals a0).length : Int) (0 : Int) (0 : Int))])
           (k [.d .bool false]))
          none)
         (k [.d .bool false]))
        none)
       (k [.d .bool false]))))
    (cond ((PickT.op a0) == (4 : Int))
     (cond (okStr (PickT.key a0))
      (cond (plainOk (PickT.key a0))
       (cond (okL okStr (PickT.vals a0))
        (cond (valsOk (PickT.vals a0))
         (k [.d .bool (inR ((PickT.vals a0).length : Int) (1 : Int) (4 : Int))])
         (k [.d .bool false]))
        none)
       (k [.d .bool false]))
      none)
     (cond ((PickT.op a0) == (5 : Int))
      (cond ((PickT.op a0) == (5 : Int))
       (cond (okStr (PickT.key a0))
        (cond (plainOk (PickT.key a0))
         (cond (okL okStr (PickT.vals a0))
          (cond (valsOk (PickT.vals a0))
           (k [.d .bool (inR ((PickT.vals a0).length : Int) (0 : Int) (0 : Int))])
           (k [.d .bool false]))
          none)
         (k [.d .bool false]))
        none)
       (k [.d .bool false]))
      (cond ((PickT.op a0) == (6 : Int))
       (cond (okStr (PickT.key a0))
        (cond (plainOk (PickT.key a0))
         (cond (okL okStr (PickT.vals a0))
          (cond (valsOk (PickT.vals a0))
           (k [.d .bool (inR ((PickT.vals a0).length : Int) (0 : Int) (0 : Int))])
           (k [.d .bool false]))
          none)
         (k [.d .bool false]))
        none)
       (k [.d .bool false]))))))) := by kernel_rfl
theorem f21_spec (a0 : PickT) (hg : okPick a0 = true) : ∃ keep rounds, ∀ {R : Type} (k : List Dt → Option R), evFn f21e keep rounds f21c [.ro] [false] true [.tmp 2] [4] [.d .pick a0] k = k [.d .bool (pickOk a0)] := by
  simp only [okPick, Bool.and_eq_true] at hg
  obtain ⟨hk, hv⟩ := hg
  refine ⟨f21k, 0, fun k => ?_⟩
  rw [f21_run, hk, hv]
  simp only [cond_true]
  unfold pickOk
  cases plainOk a0.key <;> cases valsOk a0.vals <;>
    cases h1 : (a0.op == (1 : Int)) <;> cases h2 : (a0.op == (2 : Int)) <;> cases h3 : (a0.op == (3 : Int)) <;> cases h4 : (a0.op == (4 : Int)) <;> cases h5 : (a0.op == (5 : Int)) <;> cases h6 : (a0.op == (6 : Int)) <;>
    first
      | (exfalso; simp only [beq_iff_eq] at h1 h2 h3 h4 h5 h6; omega)
      | (simp only [cond_true, cond_false, Bool.true_and, Bool.false_and, Bool.or_false, Bool.false_or, Bool.true_or, Bool.or_true])
      | rfl

noncomputable def q21 : List Dt → Option (Bool × List Dt)
  | [.d .pick a0] => some ((okPick a0), [.d .bool (pickOk a0)])
  | _ => none
noncomputable def s21 : Gm.Spec := Gm.Spec.of [.ro] [false] true q21
theorem good21 : Gm.Good Tryd.prog (21, s21) := by
  have hl : ∀ x ∈ [(45, s45), (46, s46), (47, s47)], Gm.Good Tryd.prog x := List.forall_mem_cons.2 ⟨good45, List.forall_mem_cons.2 ⟨good46, List.forall_mem_cons.2 ⟨good47, List.forall_mem_nil _⟩⟩⟩
  refine ⟨⟨spec_ok (tab_ok.env hl) (tab.natl hl) Tryd.func21 (by kernel_rfl : Tryd.f21.body = some f21c) [4] (by kernel_rfl) ?_, _, Tryd.func21, by kernel_rfl, of_decide_eq_true (by kernel_rfl)⟩, Gm.Spec.of_natl _ _ _ _⟩
  intro ds outs h
  unfold q21 at h
  split at h
  · simp only [Option.some.injEq, Prod.mk.injEq] at h; obtain ⟨hg, h⟩ := h; cases h; exact f21_spec _ hg
  · cases h
/-! ### loop.example/g00465/impl.PickOk -/
noncomputable def f20S0 (y0 : List ByteArray) (y1 : Int) (y2 : Int) (y3 : Int) (y4 : ByteArray) (y5 : List ByteArray) : St := ⟨[(1, .c (.one (.pt 1 0))), (8, .c (.one (.ro .str y0))), (9, .c (.one (.v (.int .i64 y1)))), (10, .c (.one (.v (.int .i64 y2))))], [(1, ⟨.pick, [.v (.int .i64 y3), .v (.string y4), .ro .str y5]⟩)], []⟩
noncomputable def f20S1 : St := ⟨[(2, .c (.one (.v (.bool false))))], [], []⟩
noncomputable def f20S2 (y0 : List ByteArray) (y1 : Int) (y2 : Int) (y3 : Bool) (y4 : Int) (y5 : ByteArray) (y6 : List ByteArray) : St := ⟨[(1, .c (.one (.pt 1 0))), (8, .c (.one (.ro .str y0))), (9, .c (.one (.v (.int .i64 y1)))), (10, .c (.one (.v (.int .i64 y2)))), (11, .c (.one (.v (.bool y3))))], [(1, ⟨.pick, [.v (.int .i64 y4), .v (.string y5), .ro .str y6]⟩)], []⟩
noncomputable def f20c : Code := (Tryd.f20.body).getD .skip
def f20k : Nat → Kp := kat [⟨[1], [], [], []⟩, ⟨[1, 8, 9, 10], [], [], []⟩, ⟨[1, 8, 9, 10, 11], [], [], []⟩, ⟨[1, 3, 4, 8, 9, 10], [], [], []⟩, ⟨[1, 8, 9, 10, 31], [], [], []⟩, ⟨[2], [], [], []⟩, ⟨[1, 8, 9, 10], [], [], []⟩, ⟨[1, 5, 6], [], [], []⟩, ⟨[1, 5, 6, 34], [], [], []⟩, ⟨[2], [], [], []⟩, ⟨[1, 5, 6, 34, 35], [], [], []⟩, ⟨[1, 5, 6, 34, 35], [], [], []⟩, ⟨[1, 5, 6], [], [], []⟩, ⟨[1, 5, 6, 34, 38], [], [], []⟩, ⟨[1, 5, 6, 34, 38], [], [], []⟩, ⟨[1, 5, 6], [], [], []⟩, ⟨[1, 5, 6, 34, 41], [], [], []⟩, ⟨[1, 5, 6, 41], [], [], []⟩, ⟨[2], [], [], []⟩]
noncomputable def f20e : Env := tab.env [(43, s43), (44, s44)]
noncomputable def f20L0 {R : Type} (n : Nat) (x0 : Option R) (x1 : Int → Bool → Option R) (vs8 : List ByteArray) (vs9 : Int) (vb1_0 : Int) (vb1_1 : ByteArray) (vb1_2 : List ByteArray) : Nat → Int → Option R
  | 0, _ => none
  | m + 1, vs10 =>
    (cond (decide (vs10 < vs9))
   (cond ((decide ((0 : Int) ≤ vs10)) && (decide (vs10 < (vs8.length : Int))))
    (cond (okStr (atI (t := .str) vs8 (Int.toNat vs10)))
     (cond (!(plainOk (atI (t := .str) vs8 (Int.toNat vs10))))
      (x0)
      (cond (decide (vs10 > (0 : Int)))
       (cond ((decide ((0 : Int) ≤ (IntKind.wrap .i64 (vs10 - (1 : Int))))) && (decide ((IntKind.wrap .i64 (vs10 - (1 : Int))) < (vb1_2.length : Int))))
        (cond (!(sLt (atI (t := .str) vb1_2 (Int.toNat (IntKind.wrap .i64 (vs10 - (1 : Int))))) (atI (t := .str) vs8 (Int.toNat vs10))))
         (x0)
         (f20L0 n x0 x1 vs8 vs9 vb1_0 vb1_1 vb1_2 m (IntKind.wrap .i64 (vs10 + (1 : Int)))))
        none)
       (f20L0 n x0 x1 vs8 vs9 vb1_0 vb1_1 vb1_2 m (IntKind.wrap .i64 (vs10 + (1 : Int))))))
     none)
    none)
   (x1 vs10 (decide (vs10 < vs9))))
theorem f20L0_b {R : Type} (n : Nat) (k' : Ex → St → Option R) (vs8 : List ByteArray) (vs9 : Int) (vs10 : Int) (vb1_0 : Int) (vb1_1 : ByteArray) (vb1_2 : List ByteArray) : ev f20e f20k n (cAt [1,0,1,0,0] f20c) (f20S0 vs8 vs9 vs10 vb1_0 vb1_1 vb1_2) k' =
    (cond (decide (vs10 < vs9))
  (cond ((decide ((0 : Int) ≤ vs10)) && (decide (vs10 < (vs8.length : Int))))
   (cond (okStr (atI (t := .str) vs8 (Int.toNat vs10)))
    (cond (!(plainOk (atI (t := .str) vs8 (Int.toNat vs10))))
     (k' .ret f20S1)
     (cond (decide (vs10 > (0 : Int)))
      (cond ((decide ((0 : Int) ≤ (IntKind.wrap .i64 (vs10 - (1 : Int))))) && (decide ((IntKind.wrap .i64 (vs10 - (1 : Int))) < (vb1_2.length : Int))))
       (cond (!(sLt (atI (t := .str) vb1_2 (Int.toNat (IntKind.wrap .i64 (vs10 - (1 : Int))))) (atI (t := .str) vs8 (Int.toNat vs10))))
        (k' .ret f20S1)
        (k' .normal (f20S0 vs8 vs9 (IntKind.wrap .i64 (vs10 + (1 : Int))) vb1_0 vb1_1 vb1_2)))
       none)
      (k' .normal (f20S0 vs8 vs9 (IntKind.wrap .i64 (vs10 + (1 : Int))) vb1_0 vb1_1 vb1_2))))
    none)
   none)
  (k' (.exit 0) (f20S2 vs8 vs9 vs10 (decide (vs10 < vs9)) vb1_0 vb1_1 vb1_2))) := by kernel_rfl
theorem f20L0_eq {R : Type} (n : Nat) (k' : Ex → St → Option R) (vs8 : List ByteArray) (vs9 : Int) (vb1_0 : Int) (vb1_1 : ByteArray) (vb1_2 : List ByteArray) : ∀ (m : Nat) (vs10 : Int), iter (fun st k => ev f20e f20k n (cAt [1,0,1,0,0] f20c) st k) m (f20S0 vs8 vs9 vs10 vb1_0 vb1_1 vb1_2) k' = f20L0 n (k' .ret f20S1) (fun (xvs10 : Int) (xvs11 : Bool) => k' (.exit 0) (f20S2 vs8 vs9 xvs10 xvs11 vb1_0 vb1_1 vb1_2)) vs8 vs9 vb1_0 vb1_1 vb1_2 m vs10 := by
  intro m; induction m with
  | zero => intros; rfl
  | succ m ih =>
    intro vs10
    simp only [iter]
    rw [f20L0_b]
    simp only [ih, f20L0]

noncomputable def f20K0 {R : Type} (n : Nat) (k' : Ex → St → Option R) : Ex → St → Option R := (blockK 0 (seqK f20e f20k n (cAt [1,1] f20c) k'))
theorem f20K0_x0 {R : Type} (n : Nat) (k : List Dt → Option R) (a0 : PickT)  : f20K0 n (exitK f20e [.ro] [false] true [.tmp 2] [4] [.d .pick a0] k) .ret f20S1 =
    (k [.d .bool false]) := by kernel_rfl
theorem f20K0_x1 {R : Type} (n : Nat) (k : List Dt → Option R) (a0 : PickT) (vs8 : List ByteArray) (vs9 : Int) (vb1_0 : Int) (vb1_1 : ByteArray) (vb1_2 : List ByteArray) (xvs10 : Int) (xvs11 : Bool) : f20K0 n (exitK f20e [.ro] [false] true [.tmp 2] [4] [.d .pick a0] k) (.exit 0) (f20S2 vs8 vs9 xvs10 xvs11 vb1_0 vb1_1 vb1_2) =
    (cond (vb1_0 == (1 : Int))
  (cond (vb1_0 == (1 : Int))
   (cond (okStr vb1_1)
    (cond (plainOk vb1_1)
     (k [.d .bool (inR (vb1_2.length : Int) (1 : Int) (1 : Int))])
     (k [.d .bool false]))
    none)
   (cond (vb1_0 == (3 : Int))
    (cond (vb1_0 == (3 : Int))
     (cond (okStr vb1_1)
      (cond (plainOk vb1_1)
       (k [.d .bool (inR (vb1_2.length : Int) (1 : Int) (4 : Int))])
       (k [.d .bool false]))
      none)
     (cond (vb1_0 == (5 : Int))
      (cond (vb1_0 == (5 : Int))
       (cond (okStr vb1_1)
        (cond (plainOk vb1_1)
         (k [.d .bool (inR (vb1_2.length : Int) (0 : Int) (0 : Int))])
         (k [.d .bool false]))
        none)
       (k [.d .bool false]))
      (cond (vb1_0 == (6 : Int))
       (cond (okStr vb1_1)
        (cond (plainOk vb1_1)
         (k [.d .bool (inR (vb1_2.length : Int) (0 : Int) (0 : Int))])
         (k [.d .bool false]))
        none)
       (k [.d .bool false]))))
    (cond (vb1_0 == (4 : Int))
     (cond (okStr vb1_1)
      (cond (plainOk vb1_1)
       (k [.d .bool (inR (vb1_2.length : Int) (1 : Int) (4 : Int))])
       (k [.d .bool false]))
      none)
     (cond (vb1_0 == (5 : Int))
      (cond (vb1_0 == (5 : Int))
       (cond (okStr vb1_1)
        (cond (plainOk vb1_1)
         (k [.d .bool (inR (vb1_2.length : Int) (0 : Int) (0 : Int))])
         (k [.d .bool false]))
        none)
       (k [.d .bool false]))
      (cond (vb1_0 == (6 : Int))
       (cond (okStr vb1_1)
        (cond (plainOk vb1_1)
         (k [.d .bool (inR (vb1_2.length : Int) (0 : Int) (0 : Int))])
         (k [.d .bool false]))
        none)
       (k [.d .bool false]))))))
  (cond (vb1_0 == (2 : Int))
   (cond (okStr vb1_1)
    (cond (plainOk vb1_1)
     (k [.d .bool (inR (vb1_2.length : Int) (1 : Int) (1 : Int))])
     (k [.d .bool false]))
    none)
   (cond (vb1_0 == (3 : Int))
    (cond (vb1_0 == (3 : Int))
     (cond (okStr vb1_1)
      (cond (plainOk vb1_1)
       (k [.d .bool (inR (vb1_2.length : Int) (1 : Int) (4 : Int))])
       (k [.d .bool false]))
      none)
     (cond (vb1_0 == (5 : Int))
      (cond (vb1_0 == (5 : Int))
       (cond (okStr vb1_1)
        (cond (plainOk vb1_1)
         (k [.d .bool (inR (vb1_2.length : Int) (0 : Int) (0 : Int))])
         (k [.d .bool false]))
        none)
       (k [.d .bool false]))
      (cond (vb1_0 == (6 : Int))
       (cond (okStr vb1_1)
        (cond (plainOk vb1_1)
         (k [.d .bool (inR (vb1_2.length : Int) (0 : Int) (0 : Int))])
         (k [.d .bool false]))
        none)
       (k [.d .bool false]))))
    (cond (vb1_0 == (4 : Int))
     (cond (okStr vb1_1)
      (cond (plainOk vb1_1)
       (k [.d .bool (inR (vb1_2.length : Int) (1 : Int) (4 : Int))])
       (k [.d .bool false]))
      none)
     (cond (vb1_0 == (5 : Int))
      (cond (vb1_0 == (5 : Int))
       (cond (okStr vb1_1)
        (cond (plainOk vb1_1)
         (k [.d .bool (inR (vb1_2.length : Int) (0 : Int) (0 : Int))])
         (k [.d .bool false]))
        none)
       (k [.d .bool false]))
      (cond (vb1_0 == (6 : Int))
       (cond (okStr vb1_1)
        (cond (plainOk vb1_1)
         (k [.d .bool (inR (vb1_2.length : Int) (0 : Int) (0 : Int))])
         (k [.d .bool false]))
        none)
       (k [.d .bool false]))))))) := by kernel_rfl

theorem f20_run {R : Type} (n : Nat) (k : List Dt → Option R) (a0 : PickT) : evFn f20e f20k n f20c [.ro] [false] true [.tmp 2] [4] [.d .pick a0] k =
    (f20L0 n (k [.d .bool false]) (fun (xvs10 : Int) (xvs11 : Bool) =>
  (cond ((PickT.op a0) == (1 : Int))
   (cond ((PickT.op a0) == (1 : Int))
    (cond (okStr (PickT.key a0))
     (cond (plainOk (PickT.key a0))
      (k [.d .bool (inR ((PickT.vals a0).length : Int) (1 : Int) (1 : Int))])
      (k [.d .bool false]))
     none)
    (cond ((PickT.op a0) == (3 : Int))
     (cond ((PickT.op a0) == (3 : Int))
      (cond (okStr (PickT.key a0))
       (cond (plainOk (PickT.key a0))
        (k [.d .bool (inR ((PickT.vals a0).length : Int) (1 : Int) (4 : Int))])
        (k [.d .bool false]))
       none)
      (cond ((PickT.op a0) == (5 : Int))
       (cond ((PickT.op a0) == (5 : Int))
        (cond (okStr (PickT.key a0))
         (cond (plainOk (PickT.key a0))
          (k [.d .bool (inR ((PickT.vals a0).length : Int) (0 : Int) (0 : Int))])
          (k [.d .bool false]))
         none)
        (k [.d .bool false]))
       (cond ((PickT.op a0) == (6 : Int))
        (cond (okStr (PickT.key a0))
         (cond (plainOk (PickT.key a0))
          (k [.d .bool (inR ((PickT.vals a0).length : Int) (0 : Int) (0 : Int))])
          (k [.d .bool false]))
         none)
        (k [.d .bool false]))))
     (cond ((PickT.op a0) == (4 : Int))
      (cond (okStr (PickT.key a0))
       (cond (plainOk (PickT.key a0))
        (k [.d .bool (inR ((PickT.vals a0).length : Int) (1 : Int) (4 : Int))])
        (k [.d .bool false]))
       none)
      (cond ((PickT.op a0) == (5 : Int))
       (cond ((PickT.op a0) == (5 : Int))
        (cond (okStr (PickT.key a0))
         (cond (plainOk (PickT.key a0))
          (k [.d .bool (inR ((PickT.vals a0).length : Int) (0 : Int) (0 : Int))])
          (k [.d .bool false]))
         none)
        (k [.d .bool false]))
       (cond ((PickT.op a0) == (6 : Int))
        (cond (okStr (PickT.key a0))
         (cond (plainOk (PickT.key a0))
          (k [.d .bool (inR ((PickT.vals a0).length : Int) (0 : Int) (0 : Int))])
          (k [.d .bool false]))
         none)
        (k [.d .bool false]))))))
   (cond ((PickT.op a0) == (2 : Int))
    (cond (okStr (PickT.key a0))
     (cond (plainOk (PickT.key a0))
      (k [.d .bool (inR ((PickT.vals a0).length : Int) (1 : Int) (1 : Int))])
      (k [.d .bool false]))
     none)
    (cond ((PickT.op a0) == (3 : Int))
     (cond ((PickT.op a0) == (3 : Int))
      (cond (okStr (PickT.key a0))
       (cond (plainOk (PickT.key a0))
        (k [.d .bool (inR ((PickT.vals a0).length : Int) (1 : Int) (4 : Int))])
        (k [.d .bool false]))
       none)
      (cond ((PickT.op a0) == (5 : Int))
       (cond ((PickT.op a0) == (5 : Int))
        (cond (okStr (PickT.key a0))
         (cond (plainOk (PickT.key a0))
          (k [.d .bool (inR ((PickT.vals a0).length : Int) (0 : Int) (0 : Int))])
          (k [.d .bool false]))
         none)
        (k [.d .bool false]))
       (cond ((PickT.op a0) == (6 : Int))
        (cond (okStr (PickT.key a0))
         (cond (plainOk (PickT.key a0))
          (k [.d .bool (inR ((PickT.vals a0).length : Int) (0 : Int) (0 : Int))])
          (k [.d .bool false]))
         none)
        (k [.d .bool false]))))
     (cond ((PickT.op a0) == (4 : Int))
      (cond (okStr (PickT.key a0))
       (cond (plainOk (PickT.key a0))
        (k [.d .bool (inR ((PickT.vals a0).length : Int) (1 : Int) (4 : Int))])
        (k [.d .bool false]))
       none)
      (cond ((PickT.op a0) == (5 : Int))
       (cond ((PickT.op a0) == (5 : Int))
        (cond (okStr (PickT.key a0))
         (cond (plainOk (PickT.key a0))
          (k [.d .bool (inR ((PickT.vals a0).length : Int) (0 : Int) (0 : Int))])
          (k [.d .bool false]))
         none)
        (k [.d .bool false]))
       (cond ((PickT.op a0) == (6 : Int))
        (cond (okStr (PickT.key a0))
         (cond (plainOk (PickT.key a0))
          (k [.d .bool (inR ((PickT.vals a0).length : Int) (0 : Int) (0 : Int))])
          (k [.d .bool false]))
         none)
        (k [.d .bool false])))))))) (PickT.vals a0) ((PickT.vals a0).length : Int) (PickT.op a0) (PickT.key a0) (PickT.vals a0) n (0 : Int)) := by
  refine Eq.trans (b := (iter (fun st k => ev f20e f20k n (cAt [1,0,1,0,0] f20c) st k) n (f20S0 (PickT.vals a0) ((PickT.vals a0).length : Int) (0 : Int) (PickT.op a0) (PickT.key a0) (PickT.vals a0)) (f20K0 n (exitK f20e [.ro] [false] true [.tmp 2] [4] [.d .pick a0] k)))) (by kernel_rfl) ?_
  simp only [f20L0_eq, f20K0_x0, f20K0_x1]
theorem f20_spec (a0 : PickT) (hg : okPick a0 = true) : ∃ keep rounds, ∀ {R : Type} (k : List Dt → Option R), evFn f20e keep rounds f20c [.ro] [false] true [.tmp 2] [4] [.d .pick a0] k = k [.d .bool (pickOk a0)] := by
  simp only [okPick, okL, Bool.and_eq_true] at hg
  obtain ⟨hk, hl, hs⟩ := hg
  have hl : a0.vals.length ≤ 9223372036854775807 := bleN hl
  refine ⟨f20k, a0.vals.length + 1, fun k => ?_⟩
  rw [f20_run]
  refine Eq.trans (loop_idx (n := a0.vals.length) (F := fun m i => f20L0 (a0.vals.length + 1) _ _ a0.vals (a0.vals.length : Int) a0.op a0.key a0.vals m i) (p := valC a0.vals) (good := _) (bad := k [.d .bool false])
    (fun m j hj => ?_) (fun m => by simp only [f20L0, idxE, cond_false]; rfl) a0.vals.length 0 (a0.vals.length + 1) (by omega) (by omega)) ?_
  · obtain ⟨h1, h0, hw, ht⟩ := idx hj (by omega)
    simp only [f20L0, h1, h0, hw, ht, okStr_at hs hj, Bool.and_self, cond_true]
    unfold valC
    cases plainOk (atI (t := .str) a0.vals j)
    · rfl
    · by_cases hz : (j : Int) > 0
      · obtain ⟨h2, h3, _, h5⟩ := idx (show j - 1 < a0.vals.length by omega) (by omega)
        simp only [hz, decide_true, cond_true, idxM hj (by omega) (by omega), h2, h3, h5, Bool.and_self]
        cases sLt (atI (t := .str) a0.vals (j - 1)) (atI (t := .str) a0.vals j) <;> rfl
      · simp only [hz, decide_false, cond_false]; rfl
  · rw [hk]
    simp only [cond_true]
    unfold pickOk valsOk
    cases plainOk a0.key <;> cases allN (valC a0.vals) 0 a0.vals.length <;>
      cases h1 : (a0.op == (1 : Int)) <;> cases h2 : (a0.op == (2 : Int)) <;> cases h3 : (a0.op == (3 : Int)) <;> cases h4 : (a0.op == (4 : Int)) <;> cases h5 : (a0.op == (5 : Int)) <;> cases h6 : (a0.op == (6 : Int)) <;>
      first
        | (exfalso; simp only [beq_iff_eq] at h1 h2 h3 h4 h5 h6; omega)
        | (simp only [cond_true, cond_false, Bool.true_and, Bool.false_and, Bool.or_false, Bool.false_or, Bool.true_or, Bool.or_true])
        | rfl

noncomputable def q20 : List Dt → Option (Bool × List Dt)
  | [.d .pick a0] => some ((okPick a0), [.d .bool (pickOk a0)])
  | _ => none
noncomputable def s20 : Gm.Spec := Gm.Spec.of [.ro] [false] true q20
theorem good20 : Gm.Good Tryd.prog (20, s20) := by
  have hl : ∀ x ∈ [(43, s43), (44, s44)], Gm.Good Tryd.prog x := List.forall_mem_cons.2 ⟨good43, List.forall_mem_cons.2 ⟨good44, List.forall_mem_nil _⟩⟩
  refine ⟨⟨spec_ok (tab_ok.env hl) (tab.natl hl) Tryd.func20 (by kernel_rfl : Tryd.f20.body = some f20c) [4] (by kernel_rfl) ?_, _, Tryd.func20, by kernel_rfl, of_decide_eq_true (by kernel_rfl)⟩, Gm.Spec.of_natl _ _ _ _⟩
  intro ds outs h
  unfold q20 at h
  split at h
  · simp only [Option.some.injEq, Prod.mk.injEq] at h; obtain ⟨hg, h⟩ := h; cases h; exact f20_spec _ hg
  · cases h
end Go.Proofs.YtklmnopgogcbhaaDoor

/- x -/
namespace Go.Proofs
open Go.Shelf Go.RowKit
def Tryd.laysJoin_ren : Go.Shelf.Ren := ⟨fun | 156 => 32 | 165 => 53 | 166 => 54 | 169 => 55 | 240 => 67 | 241 => 68 | 276 => 75 | 277 => 76 | n => n, fun | 31 => 22 | 9 => 9 | 3 => 3 | 4 => 4 | 0 => 0 | 20 => 20 | 72 => 71 | 76 => 75 | 70 => 69 | 37 => 30 | 75 => 74 | 127 => 85 | 164 => 89 | 5 => 5 | 80 => 77 | n => n, fun | n => n⟩
theorem Tryd.laysJoin : Go.Proofs.Lays.n156 Tryd.prog Tryd.laysJoin_ren := {
  mixed := by kernel_rfl
  f156 := Tryd.func32.trans (congrArg some (by kernel_rfl))
  f165 := Tryd.func53.trans (congrArg some (by kernel_rfl))
  f166 := Tryd.func54.trans (congrArg some (by kernel_rfl))
  f169 := Tryd.func55.trans (congrArg some (by kernel_rfl))
  f240 := Tryd.func67.trans (congrArg some (by kernel_rfl))
  f241 := Tryd.func68.trans (congrArg some (by kernel_rfl))
  f276 := Tryd.func75.trans (congrArg some (by kernel_rfl))
  f277 := Tryd.func76.trans (congrArg some (by kernel_rfl))
  t0 := Tryd.underlying0
  a0 := Tryd.isAgg0
  z0 := Tryd.sizeOf0
  v0 := Tryd.zeroValue0
  t3 := Tryd.underlying3
  a3 := Tryd.isAgg3
  z3 := Tryd.sizeOf3
  v3 := Tryd.zeroValue3
  t4 := Tryd.underlying4
  a4 := Tryd.isAgg4
  z4 := Tryd.sizeOf4
  v4 := Tryd.zeroValue4
  t9 := Tryd.underlying9
  a9 := Tryd.isAgg9
  z9 := Tryd.sizeOf9
  v9 := Tryd.zeroValue9
  t20 := Tryd.underlying20
  a20 := Tryd.isAgg20
  z20 := Tryd.sizeOf20
  v20 := Tryd.zeroValue20
  t31 := Tryd.underlying22
  a31 := Tryd.isAgg22
  z31 := Tryd.sizeOf22
  v31 := Tryd.zeroValue22
  t37 := Tryd.underlying30
  a37 := Tryd.isAgg30
  z37 := Tryd.sizeOf30
  v37 := Tryd.zeroValue30
  t70 := Tryd.underlying69
  a70 := Tryd.isAgg69
  z70 := Tryd.sizeOf69
  v70 := Tryd.zeroValue69
  t72 := Tryd.underlying71
  a72 := Tryd.isAgg71
  z72 := Tryd.sizeOf71
  v72 := Tryd.zeroValue71
  t75 := Tryd.underlying74
  a75 := Tryd.isAgg74
  z75 := Tryd.sizeOf74
  v75 := Tryd.zeroValue74
  t76 := Tryd.underlying75
  a76 := Tryd.isAgg75
  z76 := Tryd.sizeOf75
  v76 := Tryd.zeroValue75
  t127 := Tryd.underlying85
  a127 := Tryd.isAgg85
  z127 := Tryd.sizeOf85
  v127 := Tryd.zeroValue85
  t164 := Tryd.underlying89
  a164 := Tryd.isAgg89
  z164 := Tryd.sizeOf89
  v164 := Tryd.zeroValue89 }

theorem Tryd.extra : Builder.Extra Tryd.prog Tryd.laysJoin_ren := {
  sizeBuilder := by kernel_rfl
  liesBuilder := by kernel_rfl
  t5 := Tryd.underlying5
  a5 := Tryd.isAgg5
  z5 := Tryd.sizeOf5
  v5 := Tryd.zeroValue5
  infoByte := by kernel_rfl
  cellsByte := by kernel_rfl
  sizeByte := by kernel_rfl
  neB5 := by decide }
end Go.Proofs
namespace Go.Proofs.YtklmnopgogcbhaaDoor
open Go Go.Gm Go.RowKit
noncomputable def q32 : List Dt → Option (Bool × List Dt)
  | [.d (.sl .str) a0, .d .str a1] => some (gJoinW a0 a1, [.d .str (joinS a0 a1)])
  | _ => none
noncomputable def s32 : Gm.Spec := Gm.Spec.of [.ro, .ro] [false] true q32
theorem good32 : Gm.Good Tryd.prog (32, s32) := by
  refine ⟨⟨spec_grow rfl ?_, _, Tryd.func32, by kernel_rfl, of_decide_eq_true (by kernel_rfl)⟩, Gm.Spec.of_natl _ _ _ _⟩
  intro ds outs h
  unfold q32 at h
  split at h
  · rename_i a0 a1
    simp only [Option.some.injEq, Prod.mk.injEq] at h
    obtain ⟨hg, h⟩ := h
    cases h
    refine ⟨_, _, .string (joinS a0 a1), rfl, rfl, rfl, rfl, fun w us ROa Fs hA hlt => ?_⟩
    cases hA with
    | cons h1 hA =>
      cases hA with
      | cons h2 hA =>
        cases hA
        have e2 := valRd_v (t := .str) (v := .string a1) rfl rfl h2
        subst e2
        have hlen := gJoinW_len hg
        rcases rdStrs h1 hlt with ⟨rfl, a, c, rfl⟩ | ⟨b, o, c, rfl, hc, hb, hcell⟩
        · refine Calls.mono (Go.Proofs.Any.strings_Join_none Go.Proofs.Tryd.laysJoin Go.Proofs.Tryd.extra a c a1 w) ?_
          rintro e w' ⟨rfl, rfl⟩
          exact ⟨rfl, Below.refl _ _⟩
        · have hN : a0.length ≤ 140737488355328 := by
            simp only [gJoinW, Bool.and_eq_true] at hg
            have := bleN hg.1
            have := szL_ge ByteArray.size a0
            omega
          exact Go.Proofs.Any.strings_Join Go.Proofs.Tryd.laysJoin Go.Proofs.Tryd.extra b o c a0 a1 w hcell hb hN hc hlen
  · cases h
end Go.Proofs.YtklmnopgogcbhaaDoor

/- x -/
namespace Go.Proofs.YtklmnopgogcbhaaDoor
open Go Go.Gm
/-! ### loop.example/g00465/spec.l25Join -/
noncomputable def f37S0 (y0 : List ByteArray) (y1 : ByteArray) (y2 : Int) : St := ⟨[(0, .c (.one (.ro .str y0))), (3, .c (.one (.v (.string y1)))), (4, .c (.one (.v (.int .i64 y2))))], [], []⟩
noncomputable def f37S1 (y0 : List ByteArray) (y1 : ByteArray) (y2 : Int) (y3 : Bool) : St := ⟨[(0, .c (.one (.ro .str y0))), (3, .c (.one (.v (.string y1)))), (4, .c (.one (.v (.int .i64 y2)))), (8, .c (.one (.v (.bool y3))))], [], []⟩
noncomputable def f37c : Code := (Tryd.f37.body).getD .skip
def f37k : Nat → Kp := kat [⟨[0], [], [], []⟩, ⟨[0, 3], [], [], []⟩, ⟨[0, 3, 4], [], [], []⟩, ⟨[0, 3, 4, 8], [], [], []⟩, ⟨[0, 3, 4], [], [], []⟩, ⟨[0, 3, 4, 12], [], [], []⟩, ⟨[0, 3, 4], [], [], []⟩, ⟨[0, 3, 4], [], [], []⟩, ⟨[2], [], [], []⟩]
noncomputable def f37e : Env := tab.env []
noncomputable def f37L0 {R : Type} (n : Nat) (x0 : ByteArray → Int → Bool → Option R) (vs0 : List ByteArray) : Nat → ByteArray → Int → Option R
  | 0, _, _ => none
  | m + 1, vs3, vs4 =>
    (cond (decide (vs4 < (vs0.length : Int)))
   (cond (decide (vs4 > (0 : Int)))
    (cond (decide (ByteArray.size vs3 + ByteArray.size (bs [44]) ≤ 9223372036854775807))
     (cond ((decide ((0 : Int) ≤ vs4)) && (decide (vs4 < (vs0.length : Int))))
      (cond (decide (ByteArray.size (vs3 ++ (bs [44])) + ByteArray.size (atI (t := .str) vs0 (Int.toNat vs4)) ≤ 9223372036854775807))
       (f37L0 n x0 vs0 m ((vs3 ++ (bs [44])) ++ (atI (t := .str) vs0 (Int.toNat vs4))) (IntKind.wrap .i64 (vs4 + (1 : Int))))
       none)
      none)
     none)
    (cond ((decide ((0 : Int) ≤ vs4)) && (decide (vs4 < (vs0.length : Int))))
     (cond (decide (ByteArray.size vs3 + ByteArray.size (atI (t := .str) vs0 (Int.toNat vs4)) ≤ 9223372036854775807))
      (f37L0 n x0 vs0 m (vs3 ++ (atI (t := .str) vs0 (Int.toNat vs4))) (IntKind.wrap .i64 (vs4 + (1 : Int))))
      none)
     none))
   (x0 vs3 vs4 (decide (vs4 < (vs0.length : Int)))))
theorem f37L0_b {R : Type} (n : Nat) (k' : Ex → St → Option R) (vs0 : List ByteArray) (vs3 : ByteArray) (vs4 : Int) : ev f37e f37k n (cAt [1,1,0,1,0,0] f37c) (f37S0 vs0 vs3 vs4) k' =
    (cond (decide (vs4 < (vs0.length : Int)))
  (cond (decide (vs4 > (0 : Int)))
   (cond (decide (ByteArray.size vs3 + ByteArray.size (bs [44]) ≤ 9223372036854775807))
    (cond ((decide ((0 : Int) ≤ vs4)) && (decide (vs4 < (vs0.length : Int))))
     (cond (decide (ByteArray.size (vs3 ++ (bs [44])) + ByteArray.size (atI (t := .str) vs0 (Int.toNat vs4)) ≤ 9223372036854775807))
      (k' .normal (f37S0 vs0 ((vs3 ++ (bs [44])) ++ (atI (t := .str) vs0 (Int.toNat vs4))) (IntKind.wrap .i64 (vs4 + (1 : Int)))))
      none)
     none)
    none)
   (cond ((decide ((0 : Int) ≤ vs4)) && (decide (vs4 < (vs0.length : Int))))
    (cond (decide (ByteArray.size vs3 + ByteArray.size (atI (t := .str) vs0 (Int.toNat vs4)) ≤ 9223372036854775807))
     (k' .normal (f37S0 vs0 (vs3 ++ (atI (t := .str) vs0 (Int.toNat vs4))) (IntKind.wrap .i64 (vs4 + (1 : Int)))))
     none)
    none))
  (k' (.exit 0) (f37S1 vs0 vs3 vs4 (decide (vs4 < (vs0.length : Int)))))) := by kernel_rfl
theorem f37L0_eq {R : Type} (n : Nat) (k' : Ex → St → Option R) (vs0 : List ByteArray) : ∀ (m : Nat) (vs3 : ByteArray) (vs4 : Int), iter (fun st k => ev f37e f37k n (cAt [1,1,0,1,0,0] f37c) st k) m (f37S0 vs0 vs3 vs4) k' = f37L0 n (fun (xvs3 : ByteArray) (xvs4 : Int) (xvs8 : Bool) => k' (.exit 0) (f37S1 vs0 xvs3 xvs4 xvs8)) vs0 m vs3 vs4 := by
  intro m; induction m with
  | zero => intros; rfl
  | succ m ih =>
    intro vs3 vs4
    simp only [iter]
    rw [f37L0_b]
    simp only [ih, f37L0]

noncomputable def f37K0 {R : Type} (n : Nat) (k' : Ex → St → Option R) : Ex → St → Option R := (blockK 0 (seqK f37e f37k n (cAt [1,1,1] f37c) k'))
theorem f37K0_x0 {R : Type} (n : Nat) (k : List Dt → Option R) (a0 : List ByteArray) (vs0 : List ByteArray) (xvs3 : ByteArray) (xvs4 : Int) (xvs8 : Bool) : f37K0 n (exitK f37e [.ro] [false] true [.tmp 2] [9] [.d (.sl .str) a0] k) (.exit 0) (f37S1 vs0 xvs3 xvs4 xvs8) =
    (cond (decide (ByteArray.size xvs3 + ByteArray.size (bs [41]) ≤ 9223372036854775807))
  (k [.d .str (xvs3 ++ (bs [41]))])
  none) := by kernel_rfl

theorem f37_run {R : Type} (n : Nat) (k : List Dt → Option R) (a0 : List ByteArray) : evFn f37e f37k n f37c [.ro] [false] true [.tmp 2] [9] [.d (.sl .str) a0] k =
    (f37L0 n (fun (xvs3 : ByteArray) (xvs4 : Int) (xvs8 : Bool) =>
  (cond (decide (ByteArray.size xvs3 + ByteArray.size (bs [41]) ≤ 9223372036854775807))
   (k [.d .str (xvs3 ++ (bs [41]))])
   none)) a0 n (bs [40]) (0 : Int)) := by
  refine Eq.trans (b := (iter (fun st k => ev f37e f37k n (cAt [1,1,0,1,0,0] f37c) st k) n (f37S0 a0 (bs [40]) (0 : Int)) (f37K0 n (exitK f37e [.ro] [false] true [.tmp 2] [9] [.d (.sl .str) a0] k)))) (by kernel_rfl) ?_
  simp only [f37L0_eq, f37K0_x0]
theorem f37_spec (a0 : List ByteArray) (hg : smL smStr a0 = true) : ∃ keep rounds, ∀ {R : Type} (k : List Dt → Option R), evFn f37e keep rounds f37c [.ro] [false] true [.tmp 2] [9] [.d (.sl .str) a0] k = k [.d .str (brack a0)] := by
  have hl := smL_len hg
  have hs : ∀ x ∈ a0, x.size ≤ 1048576 := fun x hx => bleN (List.all_eq_true.1 (smL_all hg) x hx)
  refine ⟨f37k, a0.length + 1, fun {R} k => ?_⟩
  rw [f37_run]
  cases hc : a0 with
  | nil => rfl
  | cons y r =>
    have hlr : r.length + 1 ≤ 1048576 := by rw [hc] at hl; simpa using hl
    have hy := hs y (by rw [hc]; simp)
    obtain ⟨h1, h0, hw, ht⟩ := idx (show 0 < (y :: r).length by simp) (by simp; omega)
    have h1 : decide ((0 : Int) < ((y :: r).length : Int)) = true := h1
    have h0 : decide ((0 : Int) ≤ 0) = true := h0
    have hw : IntKind.wrap .i64 ((0 : Int) + 1) = ((1 : Nat) : Int) := hw
    have e0 : atI (t := .str) (y :: r) 0 = y := rfl
    have ed : decide ((0 : Int) > 0) = false := rfl
    have et : Int.toNat 0 = 0 := rfl
    rw [show (y :: r).length + 1 = r.length + 1 + 1 from rfl]
    simp only [f37L0, h1, h0, ed, hw, et, e0, Bool.and_self, cond_true, cond_false]
    rw [app_le (by first | (simp only [ByteArray.size_append, bs_size, List.length_cons, List.length_nil]; omega) | omega)]
    simp only [cond_true]
    refine Eq.trans (loop_acc (xs := y :: r) (F := fun m j out => f37L0 (r.length + 1 + 1) _ (y :: r) m out (j : Int)) (f := fun o x => o ++ bs [44] ++ x) (good := fun out => k [.d .str (out ++ bs [41])]) (fun j out => 1 ≤ j ∧ out.size ≤ 1048577 * j + 1)
      (fun j out x hx hi => ?_) (fun m j out x hx hi => ?_) (fun m out hi => ?_) r.length 1 (r.length + 1) (bs [40] ++ y) (by simp; omega) (by omega) ⟨by omega, (by first | (simp only [ByteArray.size_append, bs_size, List.length_cons, List.length_nil]; omega) | omega)⟩) ?_
    · have hx2 := hs x (by rw [hc]; exact List.mem_of_getElem? hx)
      exact ⟨by omega, (by first | (simp only [ByteArray.size_append, bs_size, List.length_cons, List.length_nil]; omega) | omega)⟩
    · obtain ⟨h1, h0, hw, ht⟩ := idx (lt_of_get hx) (by simp; omega)
      have hj := lt_of_get hx
      simp only [List.length_cons] at hj
      have hx2 := hs x (by rw [hc]; exact List.mem_of_getElem? hx)
      have hd : decide ((j : Int) > 0) = true := decide_eq_true (by omega)
      simp only [f37L0, h1, h0, hw, ht, hd, atI_of (t := .str) hx, Bool.and_self, cond_true]
      rw [app_le (by first | (simp only [ByteArray.size_append, bs_size, List.length_cons, List.length_nil]; omega) | omega), app_le (by first | (simp only [ByteArray.size_append, bs_size, List.length_cons, List.length_nil]; omega) | omega)]
      rfl
    · simp only [List.length_cons] at hi
      simp only [f37L0, idxE, cond_false]
      rw [app_le (by first | (simp only [ByteArray.size_append, bs_size, List.length_cons, List.length_nil]; omega) | omega)]
      rfl
    · show k [.d .str _] = k [.d .str _]
      rw [← brack_fold]; rfl

noncomputable def q37 : List Dt → Option (Bool × List Dt)
  | [.d (.sl .str) a0] => some ((smL smStr a0), [.d .str (brack a0)])
  | _ => none
noncomputable def s37 : Gm.Spec := Gm.Spec.of [.ro] [false] true q37
theorem good37 : Gm.Good Tryd.prog (37, s37) := by
  have hl : ∀ x ∈ ([] : List (Nat × Gm.Spec)), Gm.Good Tryd.prog x := fun _ h => by cases h
  refine ⟨⟨spec_ok (tab_ok.env hl) (tab.natl hl) Tryd.func37 (by kernel_rfl : Tryd.f37.body = some f37c) [9] (by kernel_rfl) ?_, _, Tryd.func37, by kernel_rfl, of_decide_eq_true (by kernel_rfl)⟩, Gm.Spec.of_natl _ _ _ _⟩
  intro ds outs h
  unfold q37 at h
  split at h
  · simp only [Option.some.injEq, Prod.mk.injEq] at h; obtain ⟨hg, h⟩ := h; cases h; exact f37_spec _ hg
  · cases h
/-! ### loop.example/g00465/impl.PickText -/
noncomputable def f12c : Code := (Tryd.f12.body).getD .skip
def f12k : Nat → Kp := kat [⟨[1], [], [], []⟩, ⟨[1, 5], [], [], []⟩, ⟨[2], [], [], []⟩, ⟨[1, 7], [], [], []⟩, ⟨[1, 7, 8], [], [], []⟩, ⟨[2], [], [], []⟩, ⟨[1, 7, 18], [], [], []⟩, ⟨[2], [], [], []⟩, ⟨[1, 7, 28], [], [], []⟩, ⟨[2], [], [], []⟩, ⟨[1, 7, 38], [], [], []⟩, ⟨[2], [], [], []⟩, ⟨[1, 48], [], [], []⟩, ⟨[2], [], [], []⟩, ⟨[2], [], [], []⟩]
noncomputable def f12e : Env := tab.env [(20, s20), (32, s32)]
theorem f12_run {R : Type} (n : Nat) (k : List Dt → Option R) (a0 : PickT) : evFn f12e f12k n f12c [.ro] [false] true [.tmp 2] [9] [.d .pick a0] k =
    (cond (okPick a0)
  (cond (!(pickOk a0))
   (k [.d .str ByteArray.empty])
   (cond ((PickT.op a0) == (1 : Int))
    (cond (decide (ByteArray.size (PickT.key a0) + ByteArray.size (bs [61]) ≤ 9223372036854775807))
     (cond (decide ((0 : Int) < ((PickT.vals a0).length : Int)))
      (cond (decide (ByteArray.size ((PickT.key a0) ++ (bs [61])) + ByteArray.size (atI (t := .str) (PickT.vals a0) 0) ≤ 9223372036854775807))
       (k [.d .str (((PickT.key a0) ++ (bs [61])) ++ (atI (t := .str) (PickT.vals a0) 0))])
       none)
      none)
     none)
    (cond ((PickT.op a0) == (2 : Int))
     (cond (decide (ByteArray.size (PickT.key a0) + ByteArray.size (bs [33,61]) ≤ 9223372036854775807))
      (cond (decide ((0 : Int) < ((PickT.vals a0).length : Int)))
       (cond (decide (ByteArray.size ((PickT.key a0) ++ (bs [33,61])) + ByteArray.size (atI (t := .str) (PickT.vals a0) 0) ≤ 9223372036854775807))
        (k [.d .str (((PickT.key a0) ++ (bs [33,61])) ++ (atI (t := .str) (PickT.vals a0) 0))])
        none)
       none)
      none)
     (cond ((PickT.op a0) == (3 : Int))
      (cond (decide (ByteArray.size (PickT.key a0) + ByteArray.size (bs [32,105,110,32,40]) ≤ 9223372036854775807))
       (cond (gJoinW (PickT.vals a0) (bs [44]))
        (cond (decide (ByteArray.size ((PickT.key a0) ++ (bs [32,105,110,32,40])) + ByteArray.size (joinS (PickT.vals a0) (bs [44])) ≤ 9223372036854775807))
         (cond (decide (ByteArray.size (((PickT.key a0) ++ (bs [32,105,110,32,40])) ++ (joinS (PickT.vals a0) (bs [44]))) + ByteArray.size (bs [41]) ≤ 9223372036854775807))
          (k [.d .str ((((PickT.key a0) ++ (bs [32,105,110,32,40])) ++ (joinS (PickT.vals a0) (bs [44]))) ++ (bs [41]))])
          none)
         none)
        none)
       none)
      (cond ((PickT.op a0) == (4 : Int))
       (cond (decide (ByteArray.size (PickT.key a0) + ByteArray.size (bs [32,110,111,116,105,110,32,40]) ≤ 9223372036854775807))
        (cond (gJoinW (PickT.vals a0) (bs [44]))
         (cond (decide (ByteArray.size ((PickT.key a0) ++ (bs [32,110,111,116,105,110,32,40])) + ByteArray.size (joinS (PickT.vals a0) (bs [44])) ≤ 9223372036854775807))
          (cond (decide (ByteArray.size (((PickT.key a0) ++ (bs [32,110,111,116,105,110,32,40])) ++ (joinS (PickT.vals a0) (bs [44]))) + ByteArray.size (bs [41]) ≤ 9223372036854775807))
           (k [.d .str ((((PickT.key a0) ++ (bs [32,110,111,116,105,110,32,40])) ++ (joinS (PickT.vals a0) (bs [44]))) ++ (bs [41]))])
           none)
          none)
         none)
        none)
       (cond ((PickT.op a0) == (5 : Int))
        (k [.d .str (PickT.key a0)])
        (cond (decide (ByteArray.size (bs [33]) + ByteArray.size (PickT.key a0) ≤ 9223372036854775807))
         (k [.d .str ((bs [33]) ++ (PickT.key a0))])
         none)))))))
  none) := by kernel_rfl
theorem f12_spec (a0 : PickT) (hg : sm_pick a0 = true) : ∃ keep rounds, ∀ {R : Type} (k : List Dt → Option R), evFn f12e keep rounds f12c [.ro] [false] true [.tmp 2] [9] [.d .pick a0] k = k [.d .str (pickText a0)] := by
  have hop := okPick_sm hg
  simp only [sm_pick, Bool.and_eq_true] at hg
  obtain ⟨_, hk, hv⟩ := hg
  have hk : a0.key.size ≤ 1048576 := bleN hk
  have hj := joinS_sm (s := bs [44]) hv (by rw [bs_size]; simp)
  have hgj := gJoinW_sm (s := bs [44]) hv (by rw [bs_size]; simp)
  have hbr : (brack a0.vals).size ≤ 1099520000010 := by unfold brack; simp only [ByteArray.size_append, bs_size, List.length_cons, List.length_nil]; omega
  have hs : ∀ x ∈ a0.vals, x.size ≤ 1048576 := fun x hx => bleN (List.all_eq_true.1 (smL_all hv) x hx)
  refine ⟨f12k, 0, fun {R} k => ?_⟩
  rw [f12_run]
  simp only [hop, hv, hgj, cond_true]
  show _ = k [.d .str (pickText a0)]
  unfold pickText
  cases ho : pickOk a0 with
  | false => rfl
  | true =>
    have hp := pickOk_vals ho
    simp only [Bool.not_true, cond_false]
    cases h1 : (a0.op == (1 : Int))
    · cases h2 : (a0.op == (2 : Int))
      · cases h3 : (a0.op == (3 : Int))
        · cases h4 : (a0.op == (4 : Int))
          · cases h5 : (a0.op == (5 : Int))
            · simp only [cond_true, cond_false]
              rw [app_le (by first | (simp only [ByteArray.size_append, bs_size, List.length_cons, List.length_nil]; omega) | omega)]; rfl
            · rfl
          · simp only [cond_true, cond_false]
            rw [app_le (by first | (simp only [ByteArray.size_append, bs_size, List.length_cons, List.length_nil]; omega) | omega), app_le (by first | (simp only [ByteArray.size_append, bs_size, List.length_cons, List.length_nil]; omega) | omega), app_le (by first | (simp only [ByteArray.size_append, bs_size, List.length_cons, List.length_nil]; omega) | omega)]
            rfl
        · simp only [cond_true, cond_false]
          rw [app_le (by first | (simp only [ByteArray.size_append, bs_size, List.length_cons, List.length_nil]; omega) | omega), app_le (by first | (simp only [ByteArray.size_append, bs_size, List.length_cons, List.length_nil]; omega) | omega), app_le (by first | (simp only [ByteArray.size_append, bs_size, List.length_cons, List.length_nil]; omega) | omega)]
          rfl
      · have hp := hp (by rw [beq_iff_eq] at h2; omega)
        have hz : (atI (t := .str) a0.vals 0).size ≤ 1048576 := by
          obtain ⟨x, hx, _⟩ := drop_get hp
          rw [atI_of (t := .str) hx]; exact hs x (List.mem_of_getElem? hx)
        simp only [cond_true, cond_false]
        rw [app_le (by first | (simp only [ByteArray.size_append, bs_size, List.length_cons, List.length_nil]; omega) | omega), decide_eq_true (show (0 : Int) < (a0.vals.length : Int) by omega), app_le (by first | (simp only [ByteArray.size_append, bs_size, List.length_cons, List.length_nil]; omega) | omega)]
        rfl
    · have hp := hp (by rw [beq_iff_eq] at h1; omega)
      have hz : (atI (t := .str) a0.vals 0).size ≤ 1048576 := by
        obtain ⟨x, hx, _⟩ := drop_get hp
        rw [atI_of (t := .str) hx]; exact hs x (List.mem_of_getElem? hx)
      simp only [cond_true, cond_false]
      rw [app_le (by first | (simp only [ByteArray.size_append, bs_size, List.length_cons, List.length_nil]; omega) | omega), decide_eq_true (show (0 : Int) < (a0.vals.length : Int) by omega), app_le (by first | (simp only [ByteArray.size_append, bs_size, List.length_cons, List.length_nil]; omega) | omega)]
      rfl

noncomputable def q12 : List Dt → Option (Bool × List Dt)
  | [.d .pick a0] => some ((sm_pick a0), [.d .str (pickText a0)])
  | _ => none
noncomputable def s12 : Gm.Spec := Gm.Spec.of [.ro] [false] true q12
theorem good12 : Gm.Good Tryd.prog (12, s12) := by
  have hl : ∀ x ∈ [(20, s20), (32, s32)], Gm.Good Tryd.prog x := List.forall_mem_cons.2 ⟨good20, List.forall_mem_cons.2 ⟨good32, List.forall_mem_nil _⟩⟩
  refine ⟨⟨spec_ok (tab_ok.env hl) (tab.natl hl) Tryd.func12 (by kernel_rfl : Tryd.f12.body = some f12c) [9] (by kernel_rfl) ?_, _, Tryd.func12, by kernel_rfl, of_decide_eq_true (by kernel_rfl)⟩, Gm.Spec.of_natl _ _ _ _⟩
  intro ds outs h
  unfold q12 at h
  split at h
  · simp only [Option.some.injEq, Prod.mk.injEq] at h; obtain ⟨hg, h⟩ := h; cases h; exact f12_spec _ hg
  · cases h
/-! ### loop.example/g00465/spec.PickText -/
noncomputable def f16c : Code := (Tryd.f16.body).getD .skip
def f16k : Nat → Kp := kat [⟨[1], [], [], []⟩, ⟨[1, 5], [], [], []⟩, ⟨[2], [], [], []⟩, ⟨[1, 7], [], [], []⟩, ⟨[1, 7, 8], [], [], []⟩, ⟨[2], [], [], []⟩, ⟨[1, 7, 18], [], [], []⟩, ⟨[2], [], [], []⟩, ⟨[1, 7, 28], [], [], []⟩, ⟨[2], [], [], []⟩, ⟨[1, 7, 37], [], [], []⟩, ⟨[2], [], [], []⟩, ⟨[1, 46], [], [], []⟩, ⟨[2], [], [], []⟩, ⟨[2], [], [], []⟩]
noncomputable def f16e : Env := tab.env [(21, s21), (37, s37)]
theorem f16_run {R : Type} (n : Nat) (k : List Dt → Option R) (a0 : PickT) : evFn f16e f16k n f16c [.ro] [false] true [.tmp 2] [9] [.d .pick a0] k =
    (cond (okPick a0)
  (cond (!(pickOk a0))
   (k [.d .str ByteArray.empty])
   (cond ((PickT.op a0) == (1 : Int))
    (cond (decide (ByteArray.size (PickT.key a0) + ByteArray.size (bs [61]) ≤ 9223372036854775807))
     (cond (decide ((0 : Int) < ((PickT.vals a0).length : Int)))
      (cond (decide (ByteArray.size ((PickT.key a0) ++ (bs [61])) + ByteArray.size (atI (t := .str) (PickT.vals a0) 0) ≤ 9223372036854775807))
       (k [.d .str (((PickT.key a0) ++ (bs [61])) ++ (atI (t := .str) (PickT.vals a0) 0))])
       none)
      none)
     none)
    (cond ((PickT.op a0) == (2 : Int))
     (cond (decide (ByteArray.size (PickT.key a0) + ByteArray.size (bs [33,61]) ≤ 9223372036854775807))
      (cond (decide ((0 : Int) < ((PickT.vals a0).length : Int)))
       (cond (decide (ByteArray.size ((PickT.key a0) ++ (bs [33,61])) + ByteArray.size (atI (t := .str) (PickT.vals a0) 0) ≤ 9223372036854775807))
        (k [.d .str (((PickT.key a0) ++ (bs [33,61])) ++ (atI (t := .str) (PickT.vals a0) 0))])
        none)
       none)
      none)
     (cond ((PickT.op a0) == (3 : Int))
      (cond (decide (ByteArray.size (PickT.key a0) + ByteArray.size (bs [32,105,110,32]) ≤ 9223372036854775807))
       (cond (smL smStr (PickT.vals a0))
        (cond (decide (ByteArray.size ((PickT.key a0) ++ (bs [32,105,110,32])) + ByteArray.size (brack (PickT.vals a0)) ≤ 9223372036854775807))
         (k [.d .str (((PickT.key a0) ++ (bs [32,105,110,32])) ++ (brack (PickT.vals a0)))])
         none)
        none)
       none)
      (cond ((PickT.op a0) == (4 : Int))
       (cond (decide (ByteArray.size (PickT.key a0) + ByteArray.size (bs [32,110,111,116,105,110,32]) ≤ 9223372036854775807))
        (cond (smL smStr (PickT.vals a0))
         (cond (decide (ByteArray.size ((PickT.key a0) ++ (bs [32,110,111,116,105,110,32])) + ByteArray.size (brack (PickT.vals a0)) ≤ 9223372036854775807))
          (k [.d .str (((PickT.key a0) ++ (bs [32,110,111,116,105,110,32])) ++ (brack (PickT.vals a0)))])
          none)
         none)
        none)
       (cond ((PickT.op a0) == (5 : Int))
        (k [.d .str (PickT.key a0)])
        (cond (decide (ByteArray.size (bs [33]) + ByteArray.size (PickT.key a0) ≤ 9223372036854775807))
         (k [.d .str ((bs [33]) ++ (PickT.key a0))])
         none)))))))
  none) := by kernel_rfl
theorem f16_spec (a0 : PickT) (hg : sm_pick a0 = true) : ∃ keep rounds, ∀ {R : Type} (k : List Dt → Option R), evFn f16e keep rounds f16c [.ro] [false] true [.tmp 2] [9] [.d .pick a0] k = k [.d .str (pickText a0)] := by
  have hop := okPick_sm hg
  simp only [sm_pick, Bool.and_eq_true] at hg
  obtain ⟨_, hk, hv⟩ := hg
  have hk : a0.key.size ≤ 1048576 := bleN hk
  have hj := joinS_sm (s := bs [44]) hv (by rw [bs_size]; simp)
  have hgj := gJoinW_sm (s := bs [44]) hv (by rw [bs_size]; simp)
  have hbr : (brack a0.vals).size ≤ 1099520000010 := by unfold brack; simp only [ByteArray.size_append, bs_size, List.length_cons, List.length_nil]; omega
  have hs : ∀ x ∈ a0.vals, x.size ≤ 1048576 := fun x hx => bleN (List.all_eq_true.1 (smL_all hv) x hx)
  refine ⟨f16k, 0, fun {R} k => ?_⟩
  rw [f16_run]
  simp only [hop, hv, hgj, cond_true]
  show _ = k [.d .str (pickText a0)]
  unfold pickText
  cases ho : pickOk a0 with
  | false => rfl
  | true =>
    have hp := pickOk_vals ho
    simp only [Bool.not_true, cond_false]
    cases h1 : (a0.op == (1 : Int))
    · cases h2 : (a0.op == (2 : Int))
      · cases h3 : (a0.op == (3 : Int))
        · cases h4 : (a0.op == (4 : Int))
          · cases h5 : (a0.op == (5 : Int))
            · simp only [cond_true, cond_false]
              rw [app_le (by first | (simp only [ByteArray.size_append, bs_size, List.length_cons, List.length_nil]; omega) | omega)]; rfl
            · rfl
          · simp only [cond_true, cond_false]
            rw [app_le (by first | (simp only [ByteArray.size_append, bs_size, List.length_cons, List.length_nil]; omega) | omega), app_le (by first | (simp only [ByteArray.size_append, bs_size, List.length_cons, List.length_nil]; omega) | omega)]
            simp only [cond_true, out_brack]
        · simp only [cond_true, cond_false]
          rw [app_le (by first | (simp only [ByteArray.size_append, bs_size, List.length_cons, List.length_nil]; omega) | omega), app_le (by first | (simp only [ByteArray.size_append, bs_size, List.length_cons, List.length_nil]; omega) | omega)]
          simp only [cond_true, in_brack]
      · have hp := hp (by rw [beq_iff_eq] at h2; omega)
        have hz : (atI (t := .str) a0.vals 0).size ≤ 1048576 := by
          obtain ⟨x, hx, _⟩ := drop_get hp
          rw [atI_of (t := .str) hx]; exact hs x (List.mem_of_getElem? hx)
        simp only [cond_true, cond_false]
        rw [app_le (by first | (simp only [ByteArray.size_append, bs_size, List.length_cons, List.length_nil]; omega) | omega), decide_eq_true (show (0 : Int) < (a0.vals.length : Int) by omega), app_le (by first | (simp only [ByteArray.size_append, bs_size, List.length_cons, List.length_nil]; omega) | omega)]
        rfl
    · have hp := hp (by rw [beq_iff_eq] at h1; omega)
      have hz : (atI (t := .str) a0.vals 0).size ≤ 1048576 := by
        obtain ⟨x, hx, _⟩ := drop_get hp
        rw [atI_of (t := .str) hx]; exact hs x (List.mem_of_getElem? hx)
      simp only [cond_true, cond_false]
      rw [app_le (by first | (simp only [ByteArray.size_append, bs_size, List.length_cons, List.length_nil]; omega) | omega), decide_eq_true (show (0 : Int) < (a0.vals.length : Int) by omega), app_le (by first | (simp only [ByteArray.size_append, bs_size, List.length_cons, List.length_nil]; omega) | omega)]
      rfl

noncomputable def q16 : List Dt → Option (Bool × List Dt)
  | [.d .pick a0] => some ((sm_pick a0), [.d .str (pickText a0)])
  | _ => none
noncomputable def s16 : Gm.Spec := Gm.Spec.of [.ro] [false] true q16
theorem good16 : Gm.Good Tryd.prog (16, s16) := by
  have hl : ∀ x ∈ [(21, s21), (37, s37)], Gm.Good Tryd.prog x := List.forall_mem_cons.2 ⟨good21, List.forall_mem_cons.2 ⟨good37, List.forall_mem_nil _⟩⟩
  refine ⟨⟨spec_ok (tab_ok.env hl) (tab.natl hl) Tryd.func16 (by kernel_rfl : Tryd.f16.body = some f16c) [9] (by kernel_rfl) ?_, _, Tryd.func16, by kernel_rfl, of_decide_eq_true (by kernel_rfl)⟩, Gm.Spec.of_natl _ _ _ _⟩
  intro ds outs h
  unfold q16 at h
  split at h
  · simp only [Option.some.injEq, Prod.mk.injEq] at h; obtain ⟨hg, h⟩ := h; cases h; exact f16_spec _ hg
  · cases h
end Go.Proofs.YtklmnopgogcbhaaDoor

/- x -/
namespace Go.Proofs.YtklmnopgogcbhaaDoor
open Go Go.Gm
/-! ### loop.example/g00465/spec.PickOf -/
noncomputable def f5c : Code := (Tryd.f5.body).getD .skip
def f5k : Nat → Kp := kat [⟨[0, 2], [], [], []⟩, ⟨[0, 2, 4], [], [], []⟩, ⟨[0, 2, 4, 5, 6, 7], [], [], []⟩, ⟨[0, 2, 4, 5, 6, 7, 8, 9, 10], [], [], []⟩, ⟨[0, 2, 4, 5, 6, 7, 8, 9, 10, 11, 12, 13], [], [], []⟩, ⟨[0, 2, 4, 5, 6, 7, 8, 9, 10, 11, 12, 13, 14, 15, 16], [], [], []⟩, ⟨[0, 2, 4, 5, 6, 8, 9, 10, 11, 12, 13, 14, 15, 16, 43], [], [], []⟩, ⟨[0, 2, 4], [], [], []⟩, ⟨[0, 2, 4, 8, 9, 11, 12, 13, 14, 15, 16, 49], [], [], []⟩, ⟨[0, 2, 4], [], [], []⟩, ⟨[0, 2, 4, 11, 12, 14, 15, 16, 55], [], [], []⟩, ⟨[0, 2, 4], [], [], []⟩, ⟨[0, 2, 4, 14, 15, 61], [], [], []⟩, ⟨[0, 2, 4], [], [], []⟩, ⟨[0, 2, 4, 67], [], [], []⟩, ⟨[0, 2, 4], [], [], []⟩, ⟨[2, 4, 86], [], [], []⟩, ⟨[2, 3], [], [], []⟩, ⟨[2, 3], [], [], []⟩]
noncomputable def f5e : Env := tab.env [(16, s16), (22, s22), (23, s23)]
theorem f5_run {R : Type} (n : Nat) (k : List Dt → Option R) (a0 : ByteArray) : evFn f5e f5k n f5c [.ro] [false, false] true [.cell 2 24, .tmp 3] [24, 4] [.d .str a0] k =
    (cond (gCut1 a0 (bs [32,105,110,32,40]))
  (cond (gCut1 a0 (bs [32,110,111,116,105,110,32,40]))
   (cond (gCut1 a0 (bs [33,61]))
    (cond (gCut1 a0 (bs [61]))
     (cond ((cutS a0 (bs [32,105,110,32,40])).2.2)
      (cond (gListS ((cutS a0 (bs [32,105,110,32,40])).2.1))
       (cond (sEq a0 ByteArray.empty)
        (k [.d .pick (⟨(0 : Int), ByteArray.empty, ([] : List ByteArray)⟩ : PickT), .d .bool false])
        (cond (sm_pick (⟨(3 : Int), ((cutS a0 (bs [32,105,110,32,40])).1), (listS ((cutS a0 (bs [32,105,110,32,40])).2.1))⟩ : PickT))
         (cond (!(sEq (pickText (⟨(3 : Int), ((cutS a0 (bs [32,105,110,32,40])).1), (listS ((cutS a0 (bs [32,105,110,32,40])).2.1))⟩ : PickT)) a0))
          (k [.d .pick (⟨(0 : Int), ByteArray.empty, ([] : List ByteArray)⟩ : PickT), .d .bool false])
          (k [.d .pick (⟨(3 : Int), ((cutS a0 (bs [32,105,110,32,40])).1), (listS ((cutS a0 (bs [32,105,110,32,40])).2.1))⟩ : PickT), .d .bool true]))
         none))
       none)
      (cond ((cutS a0 (bs [32,110,111,116,105,110,32,40])).2.2)
       (cond (gListS ((cutS a0 (bs [32,110,111,116,105,110,32,40])).2.1))
        (cond (sEq a0 ByteArray.empty)
         (k [.d .pick (⟨(0 : Int), ByteArray.empty, ([] : List ByteArray)⟩ : PickT), .d .bool false])
         (cond (sm_pick (⟨(4 : Int), ((cutS a0 (bs [32,110,111,116,105,110,32,40])).1), (listS ((cutS a0 (bs [32,110,111,116,105,110,32,40])).2.1))⟩ : PickT))
          (cond (!(sEq (pickText (⟨(4 : Int), ((cutS a0 (bs [32,110,111,116,105,110,32,40])).1), (listS ((cutS a0 (bs [32,110,111,116,105,110,32,40])).2.1))⟩ : PickT)) a0))
           (k [.d .pick (⟨(0 : Int), ByteArray.empty, ([] : List ByteArray)⟩ : PickT), .d .bool false])
           (k [.d .pick (⟨(4 : Int), ((cutS a0 (bs [32,110,111,116,105,110,32,40])).1), (listS ((cutS a0 (bs [32,110,111,116,105,110,32,40])).2.1))⟩ : PickT), .d .bool true]))
          none))
        none)
       (cond ((cutS a0 (bs [33,61])).2.2)
        (cond (sEq a0 ByteArray.empty)
         (k [.d .pick (⟨(0 : Int), ByteArray.empty, ([] : List ByteArray)⟩ : PickT), .d .bool false])
         (cond (sm_pick (⟨(2 : Int), ((cutS a0 (bs [33,61])).1), [((cutS a0 (bs [33,61])).2.1)]⟩ : PickT))
          (cond (!(sEq (pickText (⟨(2 : Int), ((cutS a0 (bs [33,61])).1), [((cutS a0 (bs [33,61])).2.1)]⟩ : PickT)) a0))
           (k [.d .pick (⟨(0 : Int), ByteArray.empty, ([] : List ByteArray)⟩ : PickT), .d .bool false])
           (k [.d .pick (⟨(2 : Int), ((cutS a0 (bs [33,61])).1), [((cutS a0 (bs [33,61])).2.1)]⟩ : PickT), .d .bool true]))
          none))
        (cond ((cutS a0 (bs [61])).2.2)
         (cond (sEq a0 ByteArray.empty)
          (k [.d .pick (⟨(0 : Int), ByteArray.empty, ([] : List ByteArray)⟩ : PickT), .d .bool false])
          (cond (sm_pick (⟨(1 : Int), ((cutS a0 (bs [61])).1), [((cutS a0 (bs [61])).2.1)]⟩ : PickT))
           (cond (!(sEq (pickText (⟨(1 : Int), ((cutS a0 (bs [61])).1), [((cutS a0 (bs [61])).2.1)]⟩ : PickT)) a0))
            (k [.d .pick (⟨(0 : Int), ByteArray.empty, ([] : List ByteArray)⟩ : PickT), .d .bool false])
            (k [.d .pick (⟨(1 : Int), ((cutS a0 (bs [61])).1), [((cutS a0 (bs [61])).2.1)]⟩ : PickT), .d .bool true]))
           none))
         (cond (decide ((ByteArray.size a0 : Int) > (0 : Int)))
          (cond (decide ((0 : Int) < (ByteArray.size a0 : Int)))
           (cond ((((ByteArray.data a0).getD 0 0).toNat : Int) == (33 : Int))
            (cond ((decide ((1 : Int) ≤ (ByteArray.size a0 : Int))) && (decide ((ByteArray.size a0 : Int) ≤ (ByteArray.size a0 : Int))))
             (cond (sEq a0 ByteArray.empty)
              (k [.d .pick (⟨(0 : Int), ByteArray.empty, ([] : List ByteArray)⟩ : PickT), .d .bool false])
              (cond (sm_pick (⟨(6 : Int), (ByteArray.extract a0 1 (Int.toNat (ByteArray.size a0 : Int))), ([] : List ByteArray)⟩ : PickT))
               (cond (!(sEq (pickText (⟨(6 : Int), (ByteArray.extract a0 1 (Int.toNat (ByteArray.size a0 : Int))), ([] : List ByteArray)⟩ : PickT)) a0))
                (k [.d .pick (⟨(0 : Int), ByteArray.empty, ([] : List ByteArray)⟩ : PickT), .d .bool false])
                (k [.d .pick (⟨(6 : Int), (ByteArray.extract a0 1 (Int.toNat (ByteArray.size a0 : Int))), ([] : List ByteArray)⟩ : PickT), .d .bool true]))
               none))
             none)
            (cond (sEq a0 ByteArray.empty)
             (k [.d .pick (⟨(0 : Int), ByteArray.empty, ([] : List ByteArray)⟩ : PickT), .d .bool false])
             (cond (sm_pick (⟨(5 : Int), a0, ([] : List ByteArray)⟩ : PickT))
              (cond (!(sEq (pickText (⟨(5 : Int), a0, ([] : List ByteArray)⟩ : PickT)) a0))
               (k [.d .pick (⟨(0 : Int), ByteArray.empty, ([] : List ByteArray)⟩ : PickT), .d .bool false])
               (k [.d .pick (⟨(5 : Int), a0, ([] : List ByteArray)⟩ : PickT), .d .bool true]))
              none)))
           none)
          (cond (sEq a0 ByteArray.empty)
           (k [.d .pick (⟨(0 : Int), ByteArray.empty, ([] : List ByteArray)⟩ : PickT), .d .bool false])
           (cond (sm_pick (⟨(5 : Int), a0, ([] : List ByteArray)⟩ : PickT))
            (cond (!(sEq (pickText (⟨(5 : Int), a0, ([] : List ByteArray)⟩ : PickT)) a0))
             (k [.d .pick (⟨(0 : Int), ByteArray.empty, ([] : List ByteArray)⟩ : PickT), .d .bool false])
             (k [.d .pick (⟨(5 : Int), a0, ([] : List ByteArray)⟩ : PickT), .d .bool true]))
            none)))))))
     none)
    none)
   none)
  none) := by kernel_rfl
theorem f5_spec (a0 : ByteArray) (hg : gPickOf a0 = true) : ∃ keep rounds, ∀ {R : Type} (k : List Dt → Option R), evFn f5e keep rounds f5c [.ro] [false, false] true [.cell 2 24, .tmp 3] [24, 4] [.d .str a0] k = k [.d .pick ((pickOf a0).1), .d .bool ((pickOf a0).2)] := by
  have hz : a0.size ≤ 1048576 := bleN hg
  have G : ∀ w : ByteArray, 1 ≤ w.size → w.size ≤ 1000 → gCut1 a0 w = true := fun w h1 h2 => by
    unfold gCut1
    rw [Nat.ble_eq_true_of_le hz, Nat.ble_eq_true_of_le h1, Nat.ble_eq_true_of_le h2]; rfl
  have g1 : gCut1 a0 (bs [32,105,110,32,40]) = true := G _ (by decide) (by decide)
  have g2 : gCut1 a0 (bs [32,110,111,116,105,110,32,40]) = true := G _ (by decide) (by decide)
  have g3 : gCut1 a0 (bs [33,61]) = true := G _ (by decide) (by decide)
  have g4 : gCut1 a0 (bs [61]) = true := G _ (by decide) (by decide)
  have hcand : pickOf a0 = readP (candOf a0) a0 := rfl
  have smL1 : ∀ (op : Int) (w : ByteArray), okI op = true → 1 ≤ w.size → (cutS a0 w).2.2 = true → sm_pick (⟨op, (cutS a0 w).1, listS (cutS a0 w).2.1⟩ : PickT) = true ∧ gListS (cutS a0 w).2.1 = true ∧ sm_pick (listedI a0 w op).1 = true := fun op w ho hw hc => by
    obtain ⟨q1, q2, q3⟩ := sm_cut (w := w) hz
    have q4 := cut_room hc
    have q5 := trimSuf_sz (cutS a0 w).2.1 (bs [41])
    exact ⟨pick_mk ho q1 (sm_listS q3), Nat.ble_eq_true_of_le q3, pick_mk ho q1 (sm_split (by omega))⟩
  have smS : ∀ (op : Int) (w : ByteArray), okI op = true → sm_pick (splitI a0 w op).1 = true := fun op w ho => by
    obtain ⟨q1, q2, q3⟩ := sm_cut (w := w) hz
    exact pick_mk ho q1 (by simp only [smL, List.all_cons, List.all_nil, q2, List.length_cons, List.length_nil, Bool.and_self]; rfl)
  have sm5 : sm_pick (⟨5, a0, []⟩ : PickT) = true := pick_mk rfl (smStr_of hz) rfl
  have sm6 : sm_pick (⟨6, (cutPre a0 (bs [33])).1, []⟩ : PickT) = true := pick_mk rfl (smStr_of (by
    rw [cutPre_33]
    cases (decide ((a0.size : Int) > 0) && (((a0.data.getD 0 0).toNat : Nat) : Int) == (33 : Int))
    · exact hz
    · simp only [cond_true, ByteArray.size_extract]; omega)) rfl
  refine ⟨f5k, 0, fun {R} k => ?_⟩
  rw [f5_run]
  show _ = k [.d .pick (pickOf a0).1, .d .bool (pickOf a0).2]
  have fin : ∀ p, pickOf a0 = readP p a0 → cond (sEq a0 ByteArray.empty) (k [.d .pick (⟨(0 : Int), ByteArray.empty, ([] : List ByteArray)⟩ : PickT), .d .bool false]) (cond (!(sEq (pickText p) a0)) (k [.d .pick (⟨(0 : Int), ByteArray.empty, ([] : List ByteArray)⟩ : PickT), .d .bool false]) (k [.d .pick p, .d .bool true])) = k [.d .pick (pickOf a0).1, .d .bool (pickOf a0).2] := fun p h => by
    rw [h, ← readP_spec]
    cases sEq a0 ByteArray.empty <;> cases sEq (pickText p) a0 <;> rfl
  cases c1 : (cutS a0 (bs [32,105,110,32,40])).2.2
  rotate_left
  · obtain ⟨q1, q2, q3⟩ := smL1 3 (bs [32,105,110,32,40]) rfl (by decide) c1
    simp only [g1, g2, g3, g4, c1, q1, q2, cond_true]
    exact fin _ (by rw [hcand, readP_list (.inl rfl) c1 rfl, show candOf a0 = (listedI a0 (bs [32,105,110,32,40]) 3).1 by unfold candOf; rw [c1]; rfl])
  cases c2 : (cutS a0 (bs [32,110,111,116,105,110,32,40])).2.2
  rotate_left
  · obtain ⟨q1, q2, q3⟩ := smL1 4 (bs [32,110,111,116,105,110,32,40]) rfl (by decide) c2
    simp only [g1, g2, g3, g4, c1, c2, q1, q2, cond_true, cond_false]
    exact fin _ (by rw [hcand, readP_list (.inr rfl) c2 rfl, show candOf a0 = (listedI a0 (bs [32,110,111,116,105,110,32,40]) 4).1 by unfold candOf; rw [c1, c2]; rfl])
  cases c3 : (cutS a0 (bs [33,61])).2.2
  rotate_left
  · have q1 : sm_pick (⟨2, (cutS a0 (bs [33,61])).1, [(cutS a0 (bs [33,61])).2.1]⟩ : PickT) = true := smS 2 (bs [33,61]) rfl
    simp only [g1, g2, g3, g4, c1, c2, c3, q1, cond_true, cond_false]
    exact fin _ (by rw [hcand, show candOf a0 = ⟨2, (cutS a0 (bs [33,61])).1, [(cutS a0 (bs [33,61])).2.1]⟩ by unfold candOf; rw [c1, c2, c3]; rfl])
  cases c4 : (cutS a0 (bs [61])).2.2
  rotate_left
  · have q1 : sm_pick (⟨1, (cutS a0 (bs [61])).1, [(cutS a0 (bs [61])).2.1]⟩ : PickT) = true := smS 1 (bs [61]) rfl
    simp only [g1, g2, g3, g4, c1, c2, c3, c4, q1, cond_true, cond_false]
    exact fin _ (by rw [hcand, show candOf a0 = ⟨1, (cutS a0 (bs [61])).1, [(cutS a0 (bs [61])).2.1]⟩ by unfold candOf; rw [c1, c2, c3, c4]; rfl])
  have hc5 := cutPre_33 a0
  have cand5 : ∀ b, (cutPre a0 (bs [33])).2 = b → candOf a0 = cond b ⟨6, (cutPre a0 (bs [33])).1, []⟩ ⟨5, a0, []⟩ := fun b hb => by
    unfold candOf; rw [c1, c2, c3, c4, hb]; rfl
  cases h0 : decide ((a0.size : Int) > (0 : Int))
  · rw [h0] at hc5
    simp only [g1, g2, g3, g4, c1, c2, c3, c4, h0, sm5, cond_true, cond_false]
    exact fin _ (by rw [hcand, cand5 false (by rw [hc5]; rfl)]; rfl)
  have h0' : decide ((0 : Int) < (a0.size : Int)) = true := h0
  have d1 : decide ((1 : Int) ≤ (a0.size : Int)) = true := decide_eq_true (by have := of_decide_eq_true h0; omega)
  have d2 : decide ((a0.size : Int) ≤ (a0.size : Int)) = true := decide_eq_true (Int.le_refl _)
  cases h33 : (((a0.data.getD 0 0).toNat : Int) == (33 : Int))
  · rw [h0, h33] at hc5
    simp only [g1, g2, g3, g4, c1, c2, c3, c4, h0, h0', h33, sm5, cond_true, cond_false]
    exact fin _ (by rw [hcand, cand5 false (by rw [hc5]; rfl)]; rfl)
  · rw [h0, h33] at hc5
    have e6 : (cutPre a0 (bs [33])).1 = a0.extract 1 a0.size := by rw [hc5]; rfl
    have q6 := sm6
    rw [e6] at q6
    simp only [g1, g2, g3, g4, c1, c2, c3, c4, h0, h0', h33, d1, d2, q6, Int.toNat_natCast, Bool.and_self, cond_true, cond_false]
    exact fin _ (by rw [hcand, cand5 true (by rw [hc5]; rfl), e6]; rfl)

noncomputable def q5 : List Dt → Option (Bool × List Dt)
  | [.d .str a0] => some ((gPickOf a0), [.d .pick ((pickOf a0).1), .d .bool ((pickOf a0).2)])
  | _ => none
noncomputable def s5 : Gm.Spec := Gm.Spec.of [.ro] [false, false] true q5
theorem good5 : Gm.Good Tryd.prog (5, s5) := by
  have hl : ∀ x ∈ [(16, s16), (22, s22), (23, s23)], Gm.Good Tryd.prog x := List.forall_mem_cons.2 ⟨good16, List.forall_mem_cons.2 ⟨good22, List.forall_mem_cons.2 ⟨good23, List.forall_mem_nil _⟩⟩⟩
  refine ⟨⟨spec_ok (tab_ok.env hl) (tab.natl hl) Tryd.func5 (by kernel_rfl : Tryd.f5.body = some f5c) [24, 4] (by kernel_rfl) ?_, _, Tryd.func5, by kernel_rfl, of_decide_eq_true (by kernel_rfl)⟩, Gm.Spec.of_natl _ _ _ _⟩
  intro ds outs h
  unfold q5 at h
  split at h
  · simp only [Option.some.injEq, Prod.mk.injEq] at h; obtain ⟨hg, h⟩ := h; cases h; exact f5_spec _ hg
  · cases h
/-! ### loop.example/g00465/impl.PickOf -/
noncomputable def f6c : Code := (Tryd.f6.body).getD .skip
def f6k : Nat → Kp := kat [⟨[0, 2], [], [], []⟩, ⟨[0, 2, 4, 5], [], [], []⟩, ⟨[0, 2, 4, 5, 14], [], [], []⟩, ⟨[0, 2, 4, 5], [], [], []⟩, ⟨[0, 2, 4, 5, 21], [], [], []⟩, ⟨[0, 2, 4, 5], [], [], []⟩, ⟨[0, 2, 4, 5, 28], [], [], []⟩, ⟨[0, 2, 4, 5], [], [], []⟩, ⟨[0, 2, 4, 35], [], [], []⟩, ⟨[0, 2, 4], [], [], []⟩, ⟨[0, 2, 4, 6, 7], [], [], []⟩, ⟨[0, 2, 4, 6, 43], [], [], []⟩, ⟨[0, 2, 4], [], [], []⟩, ⟨[2, 4, 54], [], [], []⟩, ⟨[2, 3], [], [], []⟩, ⟨[2, 3], [], [], []⟩]
noncomputable def f6e : Env := tab.env [(12, s12), (20, s20), (24, s24), (25, s25), (26, s26)]
theorem f6_run {R : Type} (n : Nat) (k : List Dt → Option R) (a0 : ByteArray) : evFn f6e f6k n f6c [.ro] [false, false] true [.cell 2 24, .tmp 3] [24, 4] [.d .str a0] k =
    (cond (gCutS3 a0 (bs [32,105,110,32,40]) (3 : Int))
  (cond (!((listedI a0 (bs [32,105,110,32,40]) (3 : Int)).2))
   (cond (gCutS3 a0 (bs [32,110,111,116,105,110,32,40]) (4 : Int))
    (cond (!((listedI a0 (bs [32,110,111,116,105,110,32,40]) (4 : Int)).2))
     (cond (gCutS3 a0 (bs [33,61]) (2 : Int))
      (cond (!((splitI a0 (bs [33,61]) (2 : Int)).2))
       (cond (gCutS3 a0 (bs [61]) (1 : Int))
        (cond (!((splitI a0 (bs [61]) (1 : Int)).2))
         (cond ((fun (_ _ : ByteArray) => true) a0 (bs [33]))
          (cond ((cutPre a0 (bs [33])).2)
           (cond (okPick (⟨(6 : Int), ((cutPre a0 (bs [33])).1), ([] : List ByteArray)⟩ : PickT))
            (cond (!(pickOk (⟨(6 : Int), ((cutPre a0 (bs [33])).1), ([] : List ByteArray)⟩ : PickT)))
             (k [.d .pick (⟨(0 : Int), ByteArray.empty, ([] : List ByteArray)⟩ : PickT), .d .bool false])
             (cond (sm_pick (⟨(6 : Int), ((cutPre a0 (bs [33])).1), ([] : List ByteArray)⟩ : PickT))
              (cond (!(sEq (pickText (⟨(6 : Int), ((cutPre a0 (bs [33])).1), ([] : List ByteArray)⟩ : PickT)) a0))
               (k [.d .pick (⟨(0 : Int), ByteArray.empty, ([] : List ByteArray)⟩ : PickT), .d .bool false])
               (k [.d .pick (⟨(6 : Int), ((cutPre a0 (bs [33])).1), ([] : List ByteArray)⟩ : PickT), .d .bool true]))
              none))
            none)
           (cond (okPick (⟨(5 : Int), a0, ([] : List ByteArray)⟩ : PickT))
            (cond (!(pickOk (⟨(5 : Int), a0, ([] : List ByteArray)⟩ : PickT)))
             (k [.d .pick (⟨(0 : Int), ByteArray.empty, ([] : List ByteArray)⟩ : PickT), .d .bool false])
             (cond (sm_pick (⟨(5 : Int), a0, ([] : List ByteArray)⟩ : PickT))
              (cond (!(sEq (pickText (⟨(5 : Int), a0, ([] : List ByteArray)⟩ : PickT)) a0))
               (k [.d .pick (⟨(0 : Int), ByteArray.empty, ([] : List ByteArray)⟩ : PickT), .d .bool false])
               (k [.d .pick (⟨(5 : Int), a0, ([] : List ByteArray)⟩ : PickT), .d .bool true]))
              none))
            none))
          none)
         (cond (okPick ((splitI a0 (bs [61]) (1 : Int)).1))
          (cond (!(pickOk ((splitI a0 (bs [61]) (1 : Int)).1)))
           (k [.d .pick (⟨(0 : Int), ByteArray.empty, ([] : List ByteArray)⟩ : PickT), .d .bool false])
           (cond (sm_pick ((splitI a0 (bs [61]) (1 : Int)).1))
            (cond (!(sEq (pickText ((splitI a0 (bs [61]) (1 : Int)).1)) a0))
             (k [.d .pick (⟨(0 : Int), ByteArray.empty, ([] : List ByteArray)⟩ : PickT), .d .bool false])
             (k [.d .pick ((splitI a0 (bs [61]) (1 : Int)).1), .d .bool true]))
            none))
          none))
        none)
       (cond (!((splitI a0 (bs [33,61]) (2 : Int)).2))
        (cond ((fun (_ _ : ByteArray) => true) a0 (bs [33]))
         (cond ((cutPre a0 (bs [33])).2)
          (cond (okPick (⟨(6 : Int), ((cutPre a0 (bs [33])).1), ([] : List ByteArray)⟩ : PickT))
           (cond (!(pickOk (⟨(6 : Int), ((cutPre a0 (bs [33])).1), ([] : List ByteArray)⟩ : PickT)))
            (k [.d .pick (⟨(0 : Int), ByteArray.empty, ([] : List ByteArray)⟩ : PickT), .d .bool false])
            (cond (sm_pick (⟨(6 : Int), ((cutPre a0 (bs [33])).1), ([] : List ByteArray)⟩ : PickT))
             (cond (!(sEq (pickText (⟨(6 : Int), ((cutPre a0 (bs [33])).1), ([] : List ByteArray)⟩ : PickT)) a0))
              (k [.d .pick (⟨(0 : Int), ByteArray.empty, ([] : List ByteArray)⟩ : PickT), .d .bool false])
              (k [.d .pick (⟨(6 : Int), ((cutPre a0 (bs [33])).1), ([] : List ByteArray)⟩ : PickT), .d .bool true]))
             none))
           none)
          (cond (okPick (⟨(5 : Int), a0, ([] : List ByteArray)⟩ : PickT))
           (cond (!(pickOk (⟨(5 : Int), a0, ([] : List ByteArray)⟩ : PickT)))
            (k [.d .pick (⟨(0 : Int), ByteArray.empty, ([] : List ByteArray)⟩ : PickT), .d .bool false])
            (cond (sm_pick (⟨(5 : Int), a0, ([] : List ByteArray)⟩ : PickT))
             (cond (!(sEq (pickText (⟨(5 : Int), a0, ([] : List ByteArray)⟩ : PickT)) a0))
              (k [.d .pick (⟨(0 : Int), ByteArray.empty, ([] : List ByteArray)⟩ : PickT), .d .bool false])
              (k [.d .pick (⟨(5 : Int), a0, ([] : List ByteArray)⟩ : PickT), .d .bool true]))
             none))
           none))
         none)
        (cond (okPick ((splitI a0 (bs [33,61]) (2 : Int)).1))
         (cond (!(pickOk ((splitI a0 (bs [33,61]) (2 : Int)).1)))
          (k [.d .pick (⟨(0 : Int), ByteArray.empty, ([] : List ByteArray)⟩ : PickT), .d .bool false])
          (cond (sm_pick ((splitI a0 (bs [33,61]) (2 : Int)).1))
           (cond (!(sEq (pickText ((splitI a0 (bs [33,61]) (2 : Int)).1)) a0))
            (k [.d .pick (⟨(0 : Int), ByteArray.empty, ([] : List ByteArray)⟩ : PickT), .d .bool false])
            (k [.d .pick ((splitI a0 (bs [33,61]) (2 : Int)).1), .d .bool true]))
           none))
         none)))
      none)
     (cond (!((listedI a0 (bs [32,110,111,116,105,110,32,40]) (4 : Int)).2))
      (cond (gCutS3 a0 (bs [61]) (1 : Int))
       (cond (!((splitI a0 (bs [61]) (1 : Int)).2))
        (cond ((fun (_ _ : ByteArray) => true) a0 (bs [33]))
         (cond ((cutPre a0 (bs [33])).2)
          (cond (okPick (⟨(6 : Int), ((cutPre a0 (bs [33])).1), ([] : List ByteArray)⟩ : PickT))
           (cond (!(pickOk (⟨(6 : Int), ((cutPre a0 (bs [33])).1), ([] : List ByteArray)⟩ : PickT)))
            (k [.d .pick (⟨(0 : Int), ByteArray.empty, ([] : List ByteArray)⟩ : PickT), .d .bool false])
            (cond (sm_pick (⟨(6 : Int), ((cutPre a0 (bs [33])).1), ([] : List ByteArray)⟩ : PickT))
             (cond (!(sEq (pickText (⟨(6 : Int), ((cutPre a0 (bs [33])).1), ([] : List ByteArray)⟩ : PickT)) a0))
              (k [.d .pick (⟨(0 : Int), ByteArray.empty, ([] : List ByteArray)⟩ : PickT), .d .bool false])
              (k [.d .pick (⟨(6 : Int), ((cutPre a0 (bs [33])).1), ([] : List ByteArray)⟩ : PickT), .d .bool true]))
             none))
           none)
          (cond (okPick (⟨(5 : Int), a0, ([] : List ByteArray)⟩ : PickT))
           (cond (!(pickOk (⟨(5 : Int), a0, ([] : List ByteArray)⟩ : PickT)))
            (k [.d .pick (⟨(0 : Int), ByteArray.empty, ([] : List ByteArray)⟩ : PickT), .d .bool false])
            (cond (sm_pick (⟨(5 : Int), a0, ([] : List ByteArray)⟩ : PickT))
             (cond (!(sEq (pickText (⟨(5 : Int), a0, ([] : List ByteArray)⟩ : PickT)) a0))
              (k [.d .pick (⟨(0 : Int), ByteArray.empty, ([] : List ByteArray)⟩ : PickT), .d .bool false])
              (k [.d .pick (⟨(5 : Int), a0, ([] : List ByteArray)⟩ : PickT), .d .bool true]))
             none))
           none))
         none)
        (cond (okPick ((splitI a0 (bs [61]) (1 : Int)).1))
         (cond (!(pickOk ((splitI a0 (bs [61]) (1 : Int)).1)))
          (k [.d .pick (⟨(0 : Int), ByteArray.empty, ([] : List ByteArray)⟩ : PickT), .d .bool false])
          (cond (sm_pick ((splitI a0 (bs [61]) (1 : Int)).1))
           (cond (!(sEq (pickText ((splitI a0 (bs [61]) (1 : Int)).1)) a0))
            (k [.d .pick (⟨(0 : Int), ByteArray.empty, ([] : List ByteArray)⟩ : PickT), .d .bool false])
            (k [.d .pick ((splitI a0 (bs [61]) (1 : Int)).1), .d .bool true]))
           none))
         none))
       none)
      (cond (!((listedI a0 (bs [32,110,111,116,105,110,32,40]) (4 : Int)).2))
       (cond ((fun (_ _ : ByteArray) => true) a0 (bs [33]))
        (cond ((cutPre a0 (bs [33])).2)
         (cond (okPick (⟨(6 : Int), ((cutPre a0 (bs [33])).1), ([] : List ByteArray)⟩ : PickT))
          (cond (!(pickOk (⟨(6 : Int), ((cutPre a0 (bs [33])).1), ([] : List ByteArray)⟩ : PickT)))
           (k [.d .pick (⟨(0 : Int), ByteArray.empty, ([] : List ByteArray)⟩ : PickT), .d .bool false])
           (cond (sm_pick (⟨(6 : Int), ((cutPre a0 (bs [33])).1), ([] : List ByteArray)⟩ : PickT))
            (cond (!(sEq (pickText (⟨(6 : Int), ((cutPre a0 (bs [33])).1), ([] : List ByteArray)⟩ : PickT)) a0))
             (k [.d .pick (⟨(0 : Int), ByteArray.empty, ([] : List ByteArray)⟩ : PickT), .d .bool false])
             (k [.d .pick (⟨(6 : Int), ((cutPre a0 (bs [33])).1), ([] : List ByteArray)⟩ : PickT), .d .bool true]))
            none))
          none)
         (cond (okPick (⟨(5 : Int), a0, ([] : List ByteArray)⟩ : PickT))
          (cond (!(pickOk (⟨(5 : Int), a0, ([] : List ByteArray)⟩ : PickT)))
           (k [.d .pick (⟨(0 : Int), ByteArray.empty, ([] : List ByteArray)⟩ : PickT), .d .bool false])
           (cond (sm_pick (⟨(5 : Int), a0, ([] : List ByteArray)⟩ : PickT))
            (cond (!(sEq (pickText (⟨(5 : Int), a0, ([] : List ByteArray)⟩ : PickT)) a0))
             (k [.d .pick (⟨(0 : Int), ByteArray.empty, ([] : List ByteArray)⟩ : PickT), .d .bool false])
             (k [.d .pick (⟨(5 : Int), a0, ([] : List ByteArray)⟩ : PickT), .d .bool true]))
            none))
          none))
        none)
       (cond (okPick ((listedI a0 (bs [32,110,111,116,105,110,32,40]) (4 : Int)).1))
        (cond (!(pickOk ((listedI a0 (bs [32,110,111,116,105,110,32,40]) (4 : Int)).1)))
         (k [.d .pick (⟨(0 : Int), ByteArray.empty, ([] : List ByteArray)⟩ : PickT), .d .bool false])
         (cond (sm_pick ((listedI a0 (bs [32,110,111,116,105,110,32,40]) (4 : Int)).1))
          (cond (!(sEq (pickText ((listedI a0 (bs [32,110,111,116,105,110,32,40]) (4 : Int)).1)) a0))
           (k [.d .pick (⟨(0 : Int), ByteArray.empty, ([] : List ByteArray)⟩ : PickT), .d .bool false])
           (k [.d .pick ((listedI a0 (bs [32,110,111,116,105,110,32,40]) (4 : Int)).1), .d .bool true]))
          none))
        none))))
    none)
   (cond (!((listedI a0 (bs [32,105,110,32,40]) (3 : Int)).2))
    (cond (gCutS3 a0 (bs [33,61]) (2 : Int))
     (cond (!((splitI a0 (bs [33,61]) (2 : Int)).2))
      (cond (gCutS3 a0 (bs [61]) (1 : Int))
       (cond (!((splitI a0 (bs [61]) (1 : Int)).2))
        (cond ((fun (_ _ : ByteArray) => true) a0 (bs [33]))
         (cond ((cutPre a0 (bs [33])).2)
          (cond (okPick (⟨(6 : Int), ((cutPre a0 (bs [33])).1), ([] : List ByteArray)⟩ : PickT))
           (cond (!(pickOk (⟨(6 : Int), ((cutPre a0 (bs [33])).1), ([] : List ByteArray)⟩ : PickT)))
            (k [.d .pick (⟨(0 : Int), ByteArray.empty, ([] : List ByteArray)⟩ : PickT), .d .bool false])
            (cond (sm_pick (⟨(6 : Int), ((cutPre a0 (bs [33])).1), ([] : List ByteArray)⟩ : PickT))
             (cond (!(sEq (pickText (⟨(6 : Int), ((cutPre a0 (bs [33])).1), ([] : List ByteArray)⟩ : PickT)) a0))
              (k [.d .pick (⟨(0 : Int), ByteArray.empty, ([] : List ByteArray)⟩ : PickT), .d .bool false])
              (k [.d .pick (⟨(6 : Int), ((cutPre a0 (bs [33])).1), ([] : List ByteArray)⟩ : PickT), .d .bool true]))
             none))
           none)
          (cond (okPick (⟨(5 : Int), a0, ([] : List ByteArray)⟩ : PickT))
           (cond (!(pickOk (⟨(5 : Int), a0, ([] : List ByteArray)⟩ : PickT)))
            (k [.d .pick (⟨(0 : Int), ByteArray.empty, ([] : List ByteArray)⟩ : PickT), .d .bool false])
            (cond (sm_pick (⟨(5 : Int), a0, ([] : List ByteArray)⟩ : PickT))
             (cond (!(sEq (pickText (⟨(5 : Int), a0, ([] : List ByteArray)⟩ : PickT)) a0))
              (k [.d .pick (⟨(0 : Int), ByteArray.empty, ([] : List ByteArray)⟩ : PickT), .d .bool false])
              (k [.d .pick (⟨(5 : Int), a0, ([] : List ByteArray)⟩ : PickT), .d .bool true]))
             none))
           none))
         none)
        (cond (okPick ((splitI a0 (bs [61]) (1 : Int)).1))
         (cond (!(pickOk ((splitI a0 (bs [61]) (1 : Int)).1)))
          (k [.d .pick (⟨(0 : Int), ByteArray.empty, ([] : List ByteArray)⟩ : PickT), .d .bool false])
          (cond (sm_pick ((splitI a0 (bs [61]) (1 : Int)).1))
           (cond (!(sEq (pickText ((splitI a0 (bs [61]) (1 : Int)).1)) a0))
            (k [.d .pick (⟨(0 : Int), ByteArray.empty, ([] : List ByteArray)⟩ : PickT), .d .bool false])
            (k [.d .pick ((splitI a0 (bs [61]) (1 : Int)).1), .d .bool true]))
           none))
         none))
       none)
      (cond (!((splitI a0 (bs [33,61]) (2 : Int)).2))
       (cond ((fun (_ _ : ByteArray) => true) a0 (bs [33]))
        (cond ((cutPre a0 (bs [33])).2)
         (cond (okPick (⟨(6 : Int), ((cutPre a0 (bs [33])).1), ([] : List ByteArray)⟩ : PickT))
          (cond (!(pickOk (⟨(6 : Int), ((cutPre a0 (bs [33])).1), ([] : List ByteArray)⟩ : PickT)))
           (k [.d .pick (⟨(0 : Int), ByteArray.empty, ([] : List ByteArray)⟩ : PickT), .d .bool false])
           (cond (sm_pick (⟨(6 : Int), ((cutPre a0 (bs [33])).1), ([] : List ByteArray)⟩ : PickT))
            (cond (!(sEq (pickText (⟨(6 : Int), ((cutPre a0 (bs [33])).1), ([] : List ByteArray)⟩ : PickT)) a0))
             (k [.d .pick (⟨(0 : Int), ByteArray.empty, ([] : List ByteArray)⟩ : PickT), .d .bool false])
             (k [.d .pick (⟨(6 : Int), ((cutPre a0 (bs [33])).1), ([] : List ByteArray)⟩ : PickT), .d .bool true]))
            none))
          none)
         (cond (okPick (⟨(5 : Int), a0, ([] : List ByteArray)⟩ : PickT))
          (cond (!(pickOk (⟨(5 : Int), a0, ([] : List ByteArray)⟩ : PickT)))
           (k [.d .pick (⟨(0 : Int), ByteArray.empty, ([] : List ByteArray)⟩ : PickT), .d .bool false])
           (cond (sm_pick (⟨(5 : Int), a0, ([] : List ByteArray)⟩ : PickT))
            (cond (!(sEq (pickText (⟨(5 : Int), a0, ([] : List ByteArray)⟩ : PickT)) a0))
             (k [.d .pick (⟨(0 : Int), ByteArray.empty, ([] : List ByteArray)⟩ : PickT), .d .bool false])
             (k [.d .pick (⟨(5 : Int), a0, ([] : List ByteArray)⟩ : PickT), .d .bool true]))
            none))
          none))
        none)
       (cond (okPick ((splitI a0 (bs [33,61]) (2 : Int)).1))
        (cond (!(pickOk ((splitI a0 (bs [33,61]) (2 : Int)).1)))
         (k [.d .pick (⟨(0 : Int), ByteArray.empty, ([] : List ByteArray)⟩ : PickT), .d .bool false])
         (cond (sm_pick ((splitI a0 (bs [33,61]) (2 : Int)).1))
          (cond (!(sEq (pickText ((splitI a0 (bs [33,61]) (2 : Int)).1)) a0))
           (k [.d .pick (⟨(0 : Int), ByteArray.empty, ([] : List ByteArray)⟩ : PickT), .d .bool false])
           (k [.d .pick ((splitI a0 (bs [33,61]) (2 : Int)).1), .d .bool true]))
          none))
        none)))
     none)
    (cond (!((listedI a0 (bs [32,105,110,32,40]) (3 : Int)).2))
     (cond (gCutS3 a0 (bs [61]) (1 : Int))
      (cond (!((splitI a0 (bs [61]) (1 : Int)).2))
       (cond ((fun (_ _ : ByteArray) => true) a0 (bs [33]))
        (cond ((cutPre a0 (bs [33])).2)
         (cond (okPick (⟨(6 : Int), ((cutPre a0 (bs [33])).1), ([] : List ByteArray)⟩ : PickT))
          (cond (!(pickOk (⟨(6 : Int), ((cutPre a0 (bs [33])).1), ([] : List ByteArray)⟩ : PickT)))
           (k [.d .pick (⟨(0 : Int), ByteArray.empty, ([] : List ByteArray)⟩ : PickT), .d .bool false])
           (cond (sm_pick (⟨(6 : Int), ((cutPre a0 (bs [33])).1), ([] : List ByteArray)⟩ : PickT))
            (cond (!(sEq (pickText (⟨(6 : Int), ((cutPre a0 (bs [33])).1), ([] : List ByteArray)⟩ : PickT)) a0))
             (k [.d .pick (⟨(0 : Int), ByteArray.empty, ([] : List ByteArray)⟩ : PickT), .d .bool false])
             (k [.d .pick (⟨(6 : Int), ((cutPre a0 (bs [33])).1), ([] : List ByteArray)⟩ : PickT), .d .bool true]))
            none))
          none)
         (cond (okPick (⟨(5 : Int), a0, ([] : List ByteArray)⟩ : PickT))
          (cond (!(pickOk (⟨(5 : Int), a0, ([] : List ByteArray)⟩ : PickT)))
           (k [.d .pick (⟨(0 : Int), ByteArray.empty, ([] : List ByteArray)⟩ : PickT), .d .bool false])
           (cond (sm_pick (⟨(5 : Int), a0, ([] : List ByteArray)⟩ : PickT))
            (cond (!(sEq (pickText (⟨(5 : Int), a0, ([] : List ByteArray)⟩ : PickT)) a0))
             (k [.d .pick (⟨(0 : Int), ByteArray.empty, ([] : List ByteArray)⟩ : PickT), .d .bool false])
             (k [.d .pick (⟨(5 : Int), a0, ([] : List ByteArray)⟩ : PickT), .d .bool true]))
            none))
          none))
        none)
       (cond (okPick ((splitI a0 (bs [61]) (1 : Int)).1))
        (cond (!(pickOk ((splitI a0 (bs [61]) (1 : Int)).1)))
         (k [.d .pick (⟨(0 : Int), ByteArray.empty, ([] : List ByteArray)⟩ : PickT), .d .bool false])
         (cond (sm_pick ((splitI a0 (bs [61]) (1 : Int)).1))
          (cond (!(sEq (pickText ((splitI a0 (bs [61]) (1 : Int)).1)) a0))
           (k [.d .pick (⟨(0 : Int), ByteArray.empty, ([] : List ByteArray)⟩ : PickT), .d .bool false])
           (k [.d .pick ((splitI a0 (bs [61]) (1 : Int)).1), .d .bool true]))
          none))
        none))
      none)
     (cond (!((listedI a0 (bs [32,105,110,32,40]) (3 : Int)).2))
      (cond ((fun (_ _ : ByteArray) => true) a0 (bs [33]))
       (cond ((cutPre a0 (bs [33])).2)
        (cond (okPick (⟨(6 : Int), ((cutPre a0 (bs [33])).1), ([] : List ByteArray)⟩ : PickT))
         (cond (!(pickOk (⟨(6 : Int), ((cutPre a0 (bs [33])).1), ([] : List ByteArray)⟩ : PickT)))
          (k [.d .pick (⟨(0 : Int), ByteArray.empty, ([] : List ByteArray)⟩ : PickT), .d .bool false])
          (cond (sm_pick (⟨(6 : Int), ((cutPre a0 (bs [33])).1), ([] : List ByteArray)⟩ : PickT))
           (cond (!(sEq (pickText (⟨(6 : Int), ((cutPre a0 (bs [33])).1), ([] : List ByteArray)⟩ : PickT)) a0))
            (k [.d .pick (⟨(0 : Int), ByteArray.empty, ([] : List ByteArray)⟩ : PickT), .d .bool false])
            (k [.d .pick (⟨(6 : Int), ((cutPre a0 (bs [33])).1), ([] : List ByteArray)⟩ : PickT), .d .bool true]))
           none))
         none)
        (cond (okPick (⟨(5 : Int), a0, ([] : List ByteArray)⟩ : PickT))
         (cond (!(pickOk (⟨(5 : Int), a0, ([] : List ByteArray)⟩ : PickT)))
          (k [.d .pick (⟨(0 : Int), ByteArray.empty, ([] : List ByteArray)⟩ : PickT), .d .bool false])
          (cond (sm_pick (⟨(5 : Int), a0, ([] : List ByteArray)⟩ : PickT))
           (cond (!(sEq (pickText (⟨(5 : Int), a0, ([] : List ByteArray)⟩ : PickT)) a0))
            (k [.d .pick (⟨(0 : Int), ByteArray.empty, ([] : List ByteArray)⟩ : PickT), .d .bool false])
            (k [.d .pick (⟨(5 : Int), a0, ([] : List ByteArray)⟩ : PickT), .d .bool true]))
           none))
         none))
       none)
      (cond (okPick ((listedI a0 (bs [32,105,110,32,40]) (3 : Int)).1))
       (cond (!(pickOk ((listedI a0 (bs [32,105,110,32,40]) (3 : Int)).1)))
        (k [.d .pick (⟨(0 : Int), ByteArray.empty, ([] : List ByteArray)⟩ : PickT), .d .bool false])
        (cond (sm_pick ((listedI a0 (bs [32,105,110,32,40]) (3 : Int)).1))
         (cond (!(sEq (pickText ((listedI a0 (bs [32,105,110,32,40]) (3 : Int)).1)) a0))
          (k [.d .pick (⟨(0 : Int), ByteArray.empty, ([] : List ByteArray)⟩ : PickT), .d .bool false])
          (k [.d .pick ((listedI a0 (bs [32,105,110,32,40]) (3 : Int)).1), .d .bool true]))
         none))
       none)))))
  none) := by kernel_rfl
theorem f6_spec (a0 : ByteArray) (hg : gPickOf a0 = true) : ∃ keep rounds, ∀ {R : Type} (k : List Dt → Option R), evFn f6e keep rounds f6c [.ro] [false, false] true [.cell 2 24, .tmp 3] [24, 4] [.d .str a0] k = k [.d .pick ((pickOf a0).1), .d .bool ((pickOf a0).2)] := by
  have hz : a0.size ≤ 1048576 := bleN hg
  have G : ∀ w : ByteArray, 1 ≤ w.size → w.size ≤ 1000 → gCut1 a0 w = true := fun w h1 h2 => by
    unfold gCut1
    rw [Nat.ble_eq_true_of_le hz, Nat.ble_eq_true_of_le h1, Nat.ble_eq_true_of_le h2]; rfl
  have g1 : gCut1 a0 (bs [32,105,110,32,40]) = true := G _ (by decide) (by decide)
  have g2 : gCut1 a0 (bs [32,110,111,116,105,110,32,40]) = true := G _ (by decide) (by decide)
  have g3 : gCut1 a0 (bs [33,61]) = true := G _ (by decide) (by decide)
  have g4 : gCut1 a0 (bs [61]) = true := G _ (by decide) (by decide)
  have hcand : pickOf a0 = readP (candOf a0) a0 := rfl
  have smL1 : ∀ (op : Int) (w : ByteArray), okI op = true → 1 ≤ w.size → (cutS a0 w).2.2 = true → sm_pick (⟨op, (cutS a0 w).1, listS (cutS a0 w).2.1⟩ : PickT) = true ∧ gListS (cutS a0 w).2.1 = true ∧ sm_pick (listedI a0 w op).1 = true := fun op w ho hw hc => by
    obtain ⟨q1, q2, q3⟩ := sm_cut (w := w) hz
    have q4 := cut_room hc
    have q5 := trimSuf_sz (cutS a0 w).2.1 (bs [41])
    exact ⟨pick_mk ho q1 (sm_listS q3), Nat.ble_eq_true_of_le q3, pick_mk ho q1 (sm_split (by omega))⟩
  have smS : ∀ (op : Int) (w : ByteArray), okI op = true → sm_pick (splitI a0 w op).1 = true := fun op w ho => by
    obtain ⟨q1, q2, q3⟩ := sm_cut (w := w) hz
    exact pick_mk ho q1 (by simp only [smL, List.all_cons, List.all_nil, q2, List.length_cons, List.length_nil, Bool.and_self]; rfl)
  have sm5 : sm_pick (⟨5, a0, []⟩ : PickT) = true := pick_mk rfl (smStr_of hz) rfl
  have sm6 : sm_pick (⟨6, (cutPre a0 (bs [33])).1, []⟩ : PickT) = true := pick_mk rfl (smStr_of (by
    rw [cutPre_33]
    cases (decide ((a0.size : Int) > 0) && (((a0.data.getD 0 0).toNat : Nat) : Int) == (33 : Int))
    · exact hz
    · simp only [cond_true, ByteArray.size_extract]; omega)) rfl
  refine ⟨f6k, 0, fun {R} k => ?_⟩
  rw [f6_run]
  show _ = k [.d .pick (pickOf a0).1, .d .bool (pickOf a0).2]
  have fin : ∀ p, pickOf a0 = readP p a0 → cond (!(pickOk p)) (k [.d .pick (⟨(0 : Int), ByteArray.empty, ([] : List ByteArray)⟩ : PickT), .d .bool false]) (cond (!(sEq (pickText p) a0)) (k [.d .pick (⟨(0 : Int), ByteArray.empty, ([] : List ByteArray)⟩ : PickT), .d .bool false]) (k [.d .pick p, .d .bool true])) = k [.d .pick (pickOf a0).1, .d .bool (pickOf a0).2] := fun p h => by
    rw [h, ← readP_impl]
    cases pickOk p <;> cases sEq (pickText p) a0 <;> rfl
  have G1 : gCutS3 a0 (bs [32,105,110,32,40]) 3 = true := g1
  have G2 : gCutS3 a0 (bs [32,110,111,116,105,110,32,40]) 4 = true := g2
  have G3 : gCutS3 a0 (bs [33,61]) 2 = true := g3
  have G4 : gCutS3 a0 (bs [61]) 1 = true := g4
  have l1 : (listedI a0 (bs [32,105,110,32,40]) 3).2 = (cutS a0 (bs [32,105,110,32,40])).2.2 := rfl
  have l2 : (listedI a0 (bs [32,110,111,116,105,110,32,40]) 4).2 = (cutS a0 (bs [32,110,111,116,105,110,32,40])).2.2 := rfl
  have l3 : (splitI a0 (bs [33,61]) 2).2 = (cutS a0 (bs [33,61])).2.2 := rfl
  have l4 : (splitI a0 (bs [61]) 1).2 = (cutS a0 (bs [61])).2.2 := rfl
  cases c1 : (cutS a0 (bs [32,105,110,32,40])).2.2
  rotate_left
  · obtain ⟨_, _, q⟩ := smL1 3 (bs [32,105,110,32,40]) rfl (by decide) c1
    simp only [G1, l1, c1, okPick_sm q, q, Bool.not_true, cond_true, cond_false]
    exact fin _ (by rw [hcand, show candOf a0 = (listedI a0 (bs [32,105,110,32,40]) 3).1 by unfold candOf; rw [c1]; rfl])
  cases c2 : (cutS a0 (bs [32,110,111,116,105,110,32,40])).2.2
  rotate_left
  · obtain ⟨_, _, q⟩ := smL1 4 (bs [32,110,111,116,105,110,32,40]) rfl (by decide) c2
    simp only [G1, G2, l1, l2, c1, c2, okPick_sm q, q, Bool.not_true, Bool.not_false, cond_true, cond_false]
    exact fin _ (by rw [hcand, show candOf a0 = (listedI a0 (bs [32,110,111,116,105,110,32,40]) 4).1 by unfold candOf; rw [c1, c2]; rfl])
  cases c3 : (cutS a0 (bs [33,61])).2.2
  rotate_left
  · have q := smS 2 (bs [33,61]) rfl
    simp only [G1, G2, G3, l1, l2, l3, c1, c2, c3, okPick_sm q, q, Bool.not_true, Bool.not_false, cond_true, cond_false]
    exact fin _ (by rw [hcand, show candOf a0 = (splitI a0 (bs [33,61]) 2).1 by unfold candOf; rw [c1, c2, c3]; rfl])
  cases c4 : (cutS a0 (bs [61])).2.2
  rotate_left
  · have q := smS 1 (bs [61]) rfl
    simp only [G1, G2, G3, G4, l1, l2, l3, l4, c1, c2, c3, c4, okPick_sm q, q, Bool.not_true, Bool.not_false, cond_true, cond_false]
    exact fin _ (by rw [hcand, show candOf a0 = (splitI a0 (bs [61]) 1).1 by unfold candOf; rw [c1, c2, c3, c4]; rfl])
  have cand5 : ∀ b, (cutPre a0 (bs [33])).2 = b → candOf a0 = cond b ⟨6, (cutPre a0 (bs [33])).1, []⟩ ⟨5, a0, []⟩ := fun b hb => by
    unfold candOf; rw [c1, c2, c3, c4, hb]; rfl
  cases c5 : (cutPre a0 (bs [33])).2
  · simp only [G1, G2, G3, G4, l1, l2, l3, l4, c1, c2, c3, c4, c5, okPick_sm sm5, sm5, Bool.not_true, Bool.not_false, cond_true, cond_false]
    exact fin _ (by rw [hcand, cand5 false c5]; rfl)
  · simp only [G1, G2, G3, G4, l1, l2, l3, l4, c1, c2, c3, c4, c5, okPick_sm sm6, sm6, Bool.not_true, Bool.not_false, cond_true, cond_false]
    exact fin _ (by rw [hcand, cand5 true c5]; rfl)

noncomputable def q6 : List Dt → Option (Bool × List Dt)
  | [.d .str a0] => some ((gPickOf a0), [.d .pick ((pickOf a0).1), .d .bool ((pickOf a0).2)])
  | _ => none
noncomputable def s6 : Gm.Spec := Gm.Spec.of [.ro] [false, false] true q6
theorem good6 : Gm.Good Tryd.prog (6, s6) := by
  have hl : ∀ x ∈ [(12, s12), (20, s20), (24, s24), (25, s25), (26, s26)], Gm.Good Tryd.prog x := List.forall_mem_cons.2 ⟨good12, List.forall_mem_cons.2 ⟨good20, List.forall_mem_cons.2 ⟨good24, List.forall_mem_cons.2 ⟨good25, List.forall_mem_cons.2 ⟨good26, List.forall_mem_nil _⟩⟩⟩⟩⟩
  refine ⟨⟨spec_ok (tab_ok.env hl) (tab.natl hl) Tryd.func6 (by kernel_rfl : Tryd.f6.body = some f6c) [24, 4] (by kernel_rfl) ?_, _, Tryd.func6, by kernel_rfl, of_decide_eq_true (by kernel_rfl)⟩, Gm.Spec.of_natl _ _ _ _⟩
  intro ds outs h
  unfold q6 at h
  split at h
  · simp only [Option.some.injEq, Prod.mk.injEq] at h; obtain ⟨hg, h⟩ := h; cases h; exact f6_spec _ hg
  · cases h
end Go.Proofs.YtklmnopgogcbhaaDoor

/- x -/
namespace Go.Proofs.YtklmnopgogcbhaaDoor
open Go Go.Gm
/-! ### slices.Index[[]string,string] -/
noncomputable def f58S0 (y0 : List ByteArray) (y1 : ByteArray) (y2 : Int) (y3 : Int) : St := ⟨[(0, .c (.one (.ro .str y0))), (1, .c (.one (.v (.string y1)))), (7, .c (.one (.v (.int .i64 y2)))), (8, .c (.one (.v (.int .i64 y3))))], [], []⟩
noncomputable def f58S1 (y0 : Int) : St := ⟨[(4, .c (.one (.v (.int .i64 y0))))], [], []⟩
noncomputable def f58S2 (y0 : List ByteArray) (y1 : ByteArray) (y2 : Int) (y3 : Int) (y4 : Bool) : St := ⟨[(0, .c (.one (.ro .str y0))), (1, .c (.one (.v (.string y1)))), (7, .c (.one (.v (.int .i64 y2)))), (8, .c (.one (.v (.int .i64 y3)))), (9, .c (.one (.v (.bool y4))))], [], []⟩
noncomputable def f58c : Code := (Tryd.f58.body).getD .skip
def f58k : Nat → Kp := kat [⟨[0, 1], [], [], []⟩, ⟨[0, 1, 7, 8], [], [], []⟩, ⟨[0, 1, 7, 8, 9], [], [], []⟩, ⟨[0, 1, 5, 7, 8], [], [], []⟩, ⟨[0, 1, 5, 7, 8, 16], [], [], []⟩, ⟨[4], [], [], []⟩, ⟨[0, 1, 7, 8], [], [], []⟩, ⟨[4], [], [], []⟩]
noncomputable def f58e : Env := tab.env []
noncomputable def f58L0 {R : Type} (n : Nat) (x0 : Int → Option R) (x1 : Int → Bool → Option R) (vs0 : List ByteArray) (vs1 : ByteArray) (vs7 : Int) : Nat → Int → Option R
  | 0, _ => none
  | m + 1, vs8 =>
    (cond (decide (vs8 < vs7))
   (cond ((decide ((0 : Int) ≤ vs8)) && (decide (vs8 < (vs0.length : Int))))
    (cond (sEq vs1 (atI (t := .str) vs0 (Int.toNat vs8)))
     (x0 vs8)
     (f58L0 n x0 x1 vs0 vs1 vs7 m (IntKind.wrap .i64 (vs8 + (1 : Int)))))
    none)
   (x1 vs8 (decide (vs8 < vs7))))
theorem f58L0_b {R : Type} (n : Nat) (k' : Ex → St → Option R) (vs0 : List ByteArray) (vs1 : ByteArray) (vs7 : Int) (vs8 : Int) : ev f58e f58k n (cAt [1,0,1,0,0] f58c) (f58S0 vs0 vs1 vs7 vs8) k' =
    (cond (decide (vs8 < vs7))
  (cond ((decide ((0 : Int) ≤ vs8)) && (decide (vs8 < (vs0.length : Int))))
   (cond (sEq vs1 (atI (t := .str) vs0 (Int.toNat vs8)))
    (k' .ret (f58S1 vs8))
    (k' .normal (f58S0 vs0 vs1 vs7 (IntKind.wrap .i64 (vs8 + (1 : Int))))))
   none)
  (k' (.exit 0) (f58S2 vs0 vs1 vs7 vs8 (decide (vs8 < vs7))))) := by kernel_rfl
theorem f58L0_eq {R : Type} (n : Nat) (k' : Ex → St → Option R) (vs0 : List ByteArray) (vs1 : ByteArray) (vs7 : Int) : ∀ (m : Nat) (vs8 : Int), iter (fun st k => ev f58e f58k n (cAt [1,0,1,0,0] f58c) st k) m (f58S0 vs0 vs1 vs7 vs8) k' = f58L0 n (fun (xvs4 : Int) => k' .ret (f58S1 xvs4)) (fun (xvs8 : Int) (xvs9 : Bool) => k' (.exit 0) (f58S2 vs0 vs1 vs7 xvs8 xvs9)) vs0 vs1 vs7 m vs8 := by
  intro m; induction m with
  | zero => intros; rfl
  | succ m ih =>
    intro vs8
    simp only [iter]
    rw [f58L0_b]
    simp only [ih, f58L0]

noncomputable def f58K0 {R : Type} (n : Nat) (k' : Ex → St → Option R) : Ex → St → Option R := (blockK 0 (seqK f58e f58k n (cAt [1,1] f58c) k'))
theorem f58K0_x0 {R : Type} (n : Nat) (k : List Dt → Option R) (a0 : List ByteArray) (a1 : ByteArray) (xvs4 : Int) : f58K0 n (exitK f58e [.ro, .ro] [false] true [.tmp 4] [3] [.d (.sl .str) a0, .d .str a1] k) .ret (f58S1 xvs4) =
    (k [.d (.i .i64) xvs4]) := by kernel_rfl
theorem f58K0_x1 {R : Type} (n : Nat) (k : List Dt → Option R) (a0 : List ByteArray) (a1 : ByteArray) (vs0 : List ByteArray) (vs1 : ByteArray) (vs7 : Int) (xvs8 : Int) (xvs9 : Bool) : f58K0 n (exitK f58e [.ro, .ro] [false] true [.tmp 4] [3] [.d (.sl .str) a0, .d .str a1] k) (.exit 0) (f58S2 vs0 vs1 vs7 xvs8 xvs9) =
    (k [.d (.i .i64) (-1 : Int)]) := by kernel_rfl

theorem f58_run {R : Type} (n : Nat) (k : List Dt → Option R) (a0 : List ByteArray) (a1 : ByteArray) : evFn f58e f58k n f58c [.ro, .ro] [false] true [.tmp 4] [3] [.d (.sl .str) a0, .d .str a1] k =
    (f58L0 n (fun (xvs4 : Int) =>
  (k [.d (.i .i64) xvs4])) (fun (xvs8 : Int) (xvs9 : Bool) =>
  (k [.d (.i .i64) (-1 : Int)])) a0 a1 (a0.length : Int) n (0 : Int)) := by
  refine Eq.trans (b := (iter (fun st k => ev f58e f58k n (cAt [1,0,1,0,0] f58c) st k) n (f58S0 a0 a1 (a0.length : Int) (0 : Int)) (f58K0 n (exitK f58e [.ro, .ro] [false] true [.tmp 4] [3] [.d (.sl .str) a0, .d .str a1] k)))) (by kernel_rfl) ?_
  simp only [f58L0_eq, f58K0_x0, f58K0_x1]
theorem f58_spec (a0 : List ByteArray) (a1 : ByteArray) (hg : gLenW a0 = true) : ∃ keep rounds, ∀ {R : Type} (k : List Dt → Option R), evFn f58e keep rounds f58c [.ro, .ro] [false] true [.tmp 4] [3] [.d (.sl .str) a0, .d .str a1] k = k [.d (.i .i64) (idxS a0 a1)] := by
  have hl := gLenW_le hg
  refine ⟨f58k, a0.length + 1, fun k => ?_⟩
  rw [f58_run]
  refine Eq.trans (loop_find (n := a0.length) (F := fun m i => f58L0 (a0.length + 1) _ _ a0 a1 (a0.length : Int) m i) (p := fun j => sEq a1 (atI (t := .str) a0 j)) (hit := fun i => k [.d (.i .i64) i]) (miss := k [.d (.i .i64) (-1 : Int)])
    (fun m j hj => ?_) (fun m => by simp only [f58L0, idxE, cond_false]) a0.length 0 (a0.length + 1) (by omega) (by omega)) ?_
  · obtain ⟨h1, h0, hw, ht⟩ := idx hj (by omega)
    simp only [f58L0, h1, h0, hw, ht, Bool.and_self, cond_true]
  · show _ = k [.d (.i .i64) (plc _)]
    cases firstN (fun j => sEq a1 (atI (t := .str) a0 j)) 0 a0.length <;> rfl

noncomputable def q58 : List Dt → Option (Bool × List Dt)
  | [.d (.sl .str) a0, .d .str a1] => some (((fun (x : List ByteArray) (_ : ByteArray) => gLenW x) a0 a1), [.d (.i .i64) (idxS a0 a1)])
  | _ => none
noncomputable def s58 : Gm.Spec := Gm.Spec.of [.ro, .ro] [false] true q58
theorem good58 : Gm.Good Tryd.prog (58, s58) := by
  have hl : ∀ x ∈ ([] : List (Nat × Gm.Spec)), Gm.Good Tryd.prog x := fun _ h => by cases h
  refine ⟨⟨spec_ok (tab_ok.env hl) (tab.natl hl) Tryd.func58 (by kernel_rfl : Tryd.f58.body = some f58c) [3] (by kernel_rfl) ?_, _, Tryd.func58, by kernel_rfl, of_decide_eq_true (by kernel_rfl)⟩, Gm.Spec.of_natl _ _ _ _⟩
  intro ds outs h
  unfold q58 at h
  split at h
  · simp only [Option.some.injEq, Prod.mk.injEq] at h; obtain ⟨hg, h⟩ := h; cases h; exact f58_spec _ _ hg
  · cases h
/-! ### slices.Contains[[]string,string] -/
noncomputable def f41c : Code := (Tryd.f41.body).getD .skip
def f41k : Nat → Kp := kat [⟨[0, 1], [], [], []⟩, ⟨[4], [], [], []⟩]
noncomputable def f41e : Env := tab.env [(58, s58)]
theorem f41_run {R : Type} (n : Nat) (k : List Dt → Option R) (a0 : List ByteArray) (a1 : ByteArray) : evFn f41e f41k n f41c [.ro, .ro] [false] true [.tmp 4] [4] [.d (.sl .str) a0, .d .str a1] k =
    (cond ((fun (x : List ByteArray) (_ : ByteArray) => gLenW x) a0 a1)
  (k [.d .bool (decide ((idxS a0 a1) ≥ (0 : Int)))])
  none) := by kernel_rfl
theorem f41_spec (a0 : List ByteArray) (a1 : ByteArray) (hg : gLenW a0 = true) : ∃ keep rounds, ∀ {R : Type} (k : List Dt → Option R), evFn f41e keep rounds f41c [.ro, .ro] [false] true [.tmp 4] [4] [.d (.sl .str) a0, .d .str a1] k = k [.d .bool (isIn a0 a1)] := by
  refine ⟨f41k, 0, fun k => ?_⟩
  rw [f41_run]; simp only [hg, cond_true, idxS_isIn]

noncomputable def q41 : List Dt → Option (Bool × List Dt)
  | [.d (.sl .str) a0, .d .str a1] => some (((fun (x : List ByteArray) (_ : ByteArray) => gLenW x) a0 a1), [.d .bool (isIn a0 a1)])
  | _ => none
noncomputable def s41 : Gm.Spec := Gm.Spec.of [.ro, .ro] [false] true q41
theorem good41 : Gm.Good Tryd.prog (41, s41) := by
  have hl : ∀ x ∈ [(58, s58)], Gm.Good Tryd.prog x := List.forall_mem_cons.2 ⟨good58, List.forall_mem_nil _⟩
  refine ⟨⟨spec_ok (tab_ok.env hl) (tab.natl hl) Tryd.func41 (by kernel_rfl : Tryd.f41.body = some f41c) [4] (by kernel_rfl) ?_, _, Tryd.func41, by kernel_rfl, of_decide_eq_true (by kernel_rfl)⟩, Gm.Spec.of_natl _ _ _ _⟩
  intro ds outs h
  unfold q41 at h
  split at h
  · simp only [Option.some.injEq, Prod.mk.injEq] at h; obtain ⟨hg, h⟩ := h; cases h; exact f41_spec _ _ hg
  · cases h
/-! ### loop.example/g00465/spec.l25In -/
noncomputable def f42S0 (y0 : List ByteArray) (y1 : ByteArray) (y2 : Int) : St := ⟨[(0, .c (.one (.ro .str y0))), (1, .c (.one (.v (.string y1)))), (5, .c (.one (.v (.int .i64 y2))))], [], []⟩
noncomputable def f42S1 : St := ⟨[(4, .c (.one (.v (.bool true))))], [], []⟩
noncomputable def f42S2 (y0 : List ByteArray) (y1 : ByteArray) (y2 : Int) (y3 : Bool) : St := ⟨[(0, .c (.one (.ro .str y0))), (1, .c (.one (.v (.string y1)))), (5, .c (.one (.v (.int .i64 y2)))), (9, .c (.one (.v (.bool y3))))], [], []⟩
noncomputable def f42c : Code := (Tryd.f42.body).getD .skip
def f42k : Nat → Kp := kat [⟨[0, 1], [], [], []⟩, ⟨[0, 1, 5], [], [], []⟩, ⟨[0, 1, 5, 9], [], [], []⟩, ⟨[0, 1, 5], [], [], []⟩, ⟨[0, 1, 5, 17], [], [], []⟩, ⟨[4], [], [], []⟩, ⟨[4], [], [], []⟩]
noncomputable def f42e : Env := tab.env []
noncomputable def f42L0 {R : Type} (n : Nat) (x0 : Option R) (x1 : Int → Bool → Option R) (vs0 : List ByteArray) (vs1 : ByteArray) : Nat → Int → Option R
  | 0, _ => none
  | m + 1, vs5 =>
    (cond (decide (vs5 < (vs0.length : Int)))
   (cond ((decide ((0 : Int) ≤ vs5)) && (decide (vs5 < (vs0.length : Int))))
    (cond (sEq (atI (t := .str) vs0 (Int.toNat vs5)) vs1)
     (x0)
     (f42L0 n x0 x1 vs0 vs1 m (IntKind.wrap .i64 (vs5 + (1 : Int)))))
    none)
   (x1 vs5 (decide (vs5 < (vs0.length : Int)))))
theorem f42L0_b {R : Type} (n : Nat) (k' : Ex → St → Option R) (vs0 : List ByteArray) (vs1 : ByteArray) (vs5 : Int) : ev f42e f42k n (cAt [1,0,1,0,0] f42c) (f42S0 vs0 vs1 vs5) k' =
    (cond (decide (vs5 < (vs0.length : Int)))
  (cond ((decide ((0 : Int) ≤ vs5)) && (decide (vs5 < (vs0.length : Int))))
   (cond (sEq (atI (t := .str) vs0 (Int.toNat vs5)) vs1)
    (k' .ret f42S1)
    (k' .normal (f42S0 vs0 vs1 (IntKind.wrap .i64 (vs5 + (1 : Int))))))
   none)
  (k' (.exit 0) (f42S2 vs0 vs1 vs5 (decide (vs5 < (vs0.length : Int)))))) := by kernel_rfl
theorem f42L0_eq {R : Type} (n : Nat) (k' : Ex → St → Option R) (vs0 : List ByteArray) (vs1 : ByteArray) : ∀ (m : Nat) (vs5 : Int), iter (fun st k => ev f42e f42k n (cAt [1,0,1,0,0] f42c) st k) m (f42S0 vs0 vs1 vs5) k' = f42L0 n (k' .ret f42S1) (fun (xvs5 : Int) (xvs9 : Bool) => k' (.exit 0) (f42S2 vs0 vs1 xvs5 xvs9)) vs0 vs1 m vs5 := by
  intro m; induction m with
  | zero => intros; rfl
  | succ m ih =>
    intro vs5
    simp only [iter]
    rw [f42L0_b]
    simp only [ih, f42L0]

noncomputable def f42K0 {R : Type} (n : Nat) (k' : Ex → St → Option R) : Ex → St → Option R := (blockK 0 (seqK f42e f42k n (cAt [1,1] f42c) k'))
theorem f42K0_x0 {R : Type} (n : Nat) (k : List Dt → Option R) (a0 : List ByteArray) (a1 : ByteArray)  : f42K0 n (exitK f42e [.ro, .ro] [false] true [.tmp 4] [4] [.d (.sl .str) a0, .d .str a1] k) .ret f42S1 =
    (k [.d .bool true]) := by kernel_rfl
theorem f42K0_x1 {R : Type} (n : Nat) (k : List Dt → Option R) (a0 : List ByteArray) (a1 : ByteArray) (vs0 : List ByteArray) (vs1 : ByteArray) (xvs5 : Int) (xvs9 : Bool) : f42K0 n (exitK f42e [.ro, .ro] [false] true [.tmp 4] [4] [.d (.sl .str) a0, .d .str a1] k) (.exit 0) (f42S2 vs0 vs1 xvs5 xvs9) =
    (k [.d .bool false]) := by kernel_rfl

theorem f42_run {R : Type} (n : Nat) (k : List Dt → Option R) (a0 : List ByteArray) (a1 : ByteArray) : evFn f42e f42k n f42c [.ro, .ro] [false] true [.tmp 4] [4] [.d (.sl .str) a0, .d .str a1] k =
    (f42L0 n (k [.d .bool true]) (fun (xvs5 : Int) (xvs9 : Bool) =>
  (k [.d .bool false])) a0 a1 n (0 : Int)) := by
  refine Eq.trans (b := (iter (fun st k => ev f42e f42k n (cAt [1,0,1,0,0] f42c) st k) n (f42S0 a0 a1 (0 : Int)) (f42K0 n (exitK f42e [.ro, .ro] [false] true [.tmp 4] [4] [.d (.sl .str) a0, .d .str a1] k)))) (by kernel_rfl) ?_
  simp only [f42L0_eq, f42K0_x0, f42K0_x1]
theorem f42_spec (a0 : List ByteArray) (a1 : ByteArray) (hg : gLenW a0 = true) : ∃ keep rounds, ∀ {R : Type} (k : List Dt → Option R), evFn f42e keep rounds f42c [.ro, .ro] [false] true [.tmp 4] [4] [.d (.sl .str) a0, .d .str a1] k = k [.d .bool (isIn a0 a1)] := by
  have hl := gLenW_le hg
  refine ⟨f42k, a0.length + 1, fun k => ?_⟩
  rw [f42_run]
  refine Eq.trans (loop_find (n := a0.length) (F := fun m i => f42L0 (a0.length + 1) _ _ a0 a1 m i) (p := fun j => sEq (atI (t := .str) a0 j) a1) (hit := fun i => k [.d .bool true]) (miss := k [.d .bool false])
    (fun m j hj => ?_) (fun m => by simp only [f42L0, idxE, cond_false]) a0.length 0 (a0.length + 1) (by omega) (by omega)) ?_
  · obtain ⟨h1, h0, hw, ht⟩ := idx hj (by omega)
    simp only [f42L0, h1, h0, hw, ht, Bool.and_self, cond_true]
  · show _ = k [.d .bool (isIn a0 a1)]
    unfold isIn
    rw [← firstN_any (t := .str)]
    cases firstN (fun j => sEq (atI (t := .str) a0 j) a1) 0 a0.length <;> rfl

noncomputable def q42 : List Dt → Option (Bool × List Dt)
  | [.d (.sl .str) a0, .d .str a1] => some (((fun (x : List ByteArray) (_ : ByteArray) => gLenW x) a0 a1), [.d .bool (isIn a0 a1)])
  | _ => none
noncomputable def s42 : Gm.Spec := Gm.Spec.of [.ro, .ro] [false] true q42
theorem good42 : Gm.Good Tryd.prog (42, s42) := by
  have hl : ∀ x ∈ ([] : List (Nat × Gm.Spec)), Gm.Good Tryd.prog x := fun _ h => by cases h
  refine ⟨⟨spec_ok (tab_ok.env hl) (tab.natl hl) Tryd.func42 (by kernel_rfl : Tryd.f42.body = some f42c) [4] (by kernel_rfl) ?_, _, Tryd.func42, by kernel_rfl, of_decide_eq_true (by kernel_rfl)⟩, Gm.Spec.of_natl _ _ _ _⟩
  intro ds outs h
  unfold q42 at h
  split at h
  · simp only [Option.some.injEq, Prod.mk.injEq] at h; obtain ⟨hg, h⟩ := h; cases h; exact f42_spec _ _ hg
  · cases h
/-! ### loop.example/g00465/impl.Fits$1 -/
noncomputable def f40c : Code := (Tryd.f40.body).getD .skip
def f40k : Nat → Kp := kat [⟨[1, 2], [], [], []⟩, ⟨[3], [], [], []⟩]
noncomputable def f40e : Env := tab.env []
theorem f40_run {R : Type} (n : Nat) (k : List Dt → Option R) (a0 : NoteT) (a1 : PickT) : evFn f40e f40k n f40c [.ro, .pro] [false] true [.tmp 3] [4] [.d .note a0, .d .pick a1] k =
    (k [.d .bool (sEq (NoteT.key a0) (PickT.key a1))]) := by kernel_rfl
theorem f40_spec (a0 : NoteT) (a1 : PickT) : ∃ keep rounds, ∀ {R : Type} (k : List Dt → Option R), evFn f40e keep rounds f40c [.ro, .pro] [false] true [.tmp 3] [4] [.d .note a0, .d .pick a1] k = k [.d .bool (noteIs a0 a1)] := by
  exact ⟨f40k, 0, fun k => f40_run 0 k a0 a1⟩

noncomputable def q40 : List Dt → Option (Bool × List Dt)
  | [.d .note a0, .d .pick a1] => some (true, [.d .bool (noteIs a0 a1)])
  | _ => none
noncomputable def s40 : Gm.Spec := Gm.Spec.of [.ro, .pro] [false] true q40
theorem good40 : Gm.Good Tryd.prog (40, s40) := by
  have hl : ∀ x ∈ ([] : List (Nat × Gm.Spec)), Gm.Good Tryd.prog x := fun _ h => by cases h
  refine ⟨⟨spec_ok (tab_ok.env hl) (tab.natl hl) Tryd.func40 (by kernel_rfl : Tryd.f40.body = some f40c) [4] (by kernel_rfl) ?_, _, Tryd.func40, by kernel_rfl, of_decide_eq_true (by kernel_rfl)⟩, Gm.Spec.of_natl _ _ _ _⟩
  intro ds outs h
  unfold q40 at h
  split at h
  · cases h; exact f40_spec _ _
  · cases h
/-! ### slices.IndexFunc[[]loop.example/g00465/impl.Note,loop.example/g00465/impl.Note] -/
noncomputable def f39S0 (y0 : List NoteT) (y1 : PickT) (y2 : Int) (y3 : Int) : St := ⟨[(0, .c (.one (.ro .note y0))), (1, .c (.one (.cloR 40 [⟨.pick, y1⟩]))), (7, .c (.one (.v (.int .i64 y2)))), (8, .c (.one (.v (.int .i64 y3))))], [], []⟩
noncomputable def f39S1 (y0 : Int) : St := ⟨[(4, .c (.one (.v (.int .i64 y0))))], [], []⟩
noncomputable def f39S2 (y0 : List NoteT) (y1 : PickT) (y2 : Int) (y3 : Int) (y4 : Bool) : St := ⟨[(0, .c (.one (.ro .note y0))), (1, .c (.one (.cloR 40 [⟨.pick, y1⟩]))), (7, .c (.one (.v (.int .i64 y2)))), (8, .c (.one (.v (.int .i64 y3)))), (9, .c (.one (.v (.bool y4))))], [], []⟩
noncomputable def f39c : Code := (Tryd.f39.body).getD .skip
def f39k : Nat → Kp := kat [⟨[0, 1], [], [], []⟩, ⟨[0, 1, 7, 8], [], [], []⟩, ⟨[0, 1, 7, 8, 9], [], [], []⟩, ⟨[0, 1, 5, 7, 8], [], [], []⟩, ⟨[0, 1, 5, 7, 8, 16], [], [], []⟩, ⟨[4], [], [], []⟩, ⟨[0, 1, 7, 8], [], [], []⟩, ⟨[4], [], [], []⟩]
noncomputable def f39e : Env := tab.env [(40, s40)]
noncomputable def f39L0 {R : Type} (n : Nat) (x0 : Int → Option R) (x1 : Int → Bool → Option R) (vs0 : List NoteT) (vs1c0 : PickT) (vs7 : Int) : Nat → Int → Option R
  | 0, _ => none
  | m + 1, vs8 =>
    (cond (decide (vs8 < vs7))
   (cond ((decide ((0 : Int) ≤ vs8)) && (decide (vs8 < (vs0.length : Int))))
    (cond (noteIs (atI (t := .note) vs0 (Int.toNat vs8)) vs1c0)
     (x0 vs8)
     (f39L0 n x0 x1 vs0 vs1c0 vs7 m (IntKind.wrap .i64 (vs8 + (1 : Int)))))
    none)
   (x1 vs8 (decide (vs8 < vs7))))
theorem f39L0_b {R : Type} (n : Nat) (k' : Ex → St → Option R) (vs0 : List NoteT) (vs1c0 : PickT) (vs7 : Int) (vs8 : Int) : ev f39e f39k n (cAt [1,0,1,0,0] f39c) (f39S0 vs0 vs1c0 vs7 vs8) k' =
    (cond (decide (vs8 < vs7))
  (cond ((decide ((0 : Int) ≤ vs8)) && (decide (vs8 < (vs0.length : Int))))
   (cond (noteIs (atI (t := .note) vs0 (Int.toNat vs8)) vs1c0)
    (k' .ret (f39S1 vs8))
    (k' .normal (f39S0 vs0 vs1c0 vs7 (IntKind.wrap .i64 (vs8 + (1 : Int))))))
   none)
  (k' (.exit 0) (f39S2 vs0 vs1c0 vs7 vs8 (decide (vs8 < vs7))))) := by kernel_rfl
theorem f39L0_eq {R : Type} (n : Nat) (k' : Ex → St → Option R) (vs0 : List NoteT) (vs1c0 : PickT) (vs7 : Int) : ∀ (m : Nat) (vs8 : Int), iter (fun st k => ev f39e f39k n (cAt [1,0,1,0,0] f39c) st k) m (f39S0 vs0 vs1c0 vs7 vs8) k' = f39L0 n (fun (xvs4 : Int) => k' .ret (f39S1 xvs4)) (fun (xvs8 : Int) (xvs9 : Bool) => k' (.exit 0) (f39S2 vs0 vs1c0 vs7 xvs8 xvs9)) vs0 vs1c0 vs7 m vs8 := by
  intro m; induction m with
  | zero => intros; rfl
  | succ m ih =>
    intro vs8
    simp only [iter]
    rw [f39L0_b]
    simp only [ih, f39L0]

noncomputable def f39K0 {R : Type} (n : Nat) (k' : Ex → St → Option R) : Ex → St → Option R := (blockK 0 (seqK f39e f39k n (cAt [1,1] f39c) k'))
theorem f39K0_x0 {R : Type} (n : Nat) (k : List Dt → Option R) (a0 : List NoteT) (a1 : PickT) (xvs4 : Int) : f39K0 n (exitK f39e [.ro, .fn] [false] true [.tmp 4] [3] [.d (.sl .note) a0, .clo 40 [⟨.pick, a1⟩]] k) .ret (f39S1 xvs4) =
    (k [.d (.i .i64) xvs4]) := by kernel_rfl
theorem f39K0_x1 {R : Type} (n : Nat) (k : List Dt → Option R) (a0 : List NoteT) (a1 : PickT) (vs0 : List NoteT) (vs1c0 : PickT) (vs7 : Int) (xvs8 : Int) (xvs9 : Bool) : f39K0 n (exitK f39e [.ro, .fn] [false] true [.tmp 4] [3] [.d (.sl .note) a0, .clo 40 [⟨.pick, a1⟩]] k) (.exit 0) (f39S2 vs0 vs1c0 vs7 xvs8 xvs9) =
    (k [.d (.i .i64) (-1 : Int)]) := by kernel_rfl

theorem f39_run {R : Type} (n : Nat) (k : List Dt → Option R) (a0 : List NoteT) (a1 : PickT) : evFn f39e f39k n f39c [.ro, .fn] [false] true [.tmp 4] [3] [.d (.sl .note) a0, .clo 40 [⟨.pick, a1⟩]] k =
    (f39L0 n (fun (xvs4 : Int) =>
  (k [.d (.i .i64) xvs4])) (fun (xvs8 : Int) (xvs9 : Bool) =>
  (k [.d (.i .i64) (-1 : Int)])) a0 a1 (a0.length : Int) n (0 : Int)) := by
  refine Eq.trans (b := (iter (fun st k => ev f39e f39k n (cAt [1,0,1,0,0] f39c) st k) n (f39S0 a0 a1 (a0.length : Int) (0 : Int)) (f39K0 n (exitK f39e [.ro, .fn] [false] true [.tmp 4] [3] [.d (.sl .note) a0, .clo 40 [⟨.pick, a1⟩]] k)))) (by kernel_rfl) ?_
  simp only [f39L0_eq, f39K0_x0, f39K0_x1]
theorem f39_spec (a0 : List NoteT) (a1 : PickT) (hg : gLenW a0 = true) : ∃ keep rounds, ∀ {R : Type} (k : List Dt → Option R), evFn f39e keep rounds f39c [.ro, .fn] [false] true [.tmp 4] [3] [.d (.sl .note) a0, .clo 40 [⟨.pick, a1⟩]] k = k [.d (.i .i64) (noteAt a0 a1)] := by
  have hl := gLenW_le hg
  refine ⟨f39k, a0.length + 1, fun k => ?_⟩
  rw [f39_run]
  refine Eq.trans (loop_find (n := a0.length) (F := fun m i => f39L0 (a0.length + 1) _ _ a0 a1 (a0.length : Int) m i) (p := fun j => noteIs (atI (t := .note) a0 j) a1) (hit := fun i => k [.d (.i .i64) i]) (miss := k [.d (.i .i64) (-1 : Int)])
    (fun m j hj => ?_) (fun m => by simp only [f39L0, idxE, cond_false]) a0.length 0 (a0.length + 1) (by omega) (by omega)) ?_
  · obtain ⟨h1, h0, hw, ht⟩ := idx hj (by omega)
    simp only [f39L0, h1, h0, hw, ht, Bool.and_self, cond_true]
  · show _ = k [.d (.i .i64) (plc _)]
    cases firstN (fun j => noteIs (atI (t := .note) a0 j) a1) 0 a0.length <;> rfl

noncomputable def q39 : List Dt → Option (Bool × List Dt)
  | [.d (.sl .note) a0, .clo 40 [⟨.pick, a1⟩]] => some (((fun (x : List NoteT) (_ : PickT) => gLenW x) a0 a1), [.d (.i .i64) (noteAt a0 a1)])
  | _ => none
noncomputable def s39 : Gm.Spec := Gm.Spec.of [.ro, .fn] [false] true q39
theorem good39 : Gm.Good Tryd.prog (39, s39) := by
  have hl : ∀ x ∈ [(40, s40)], Gm.Good Tryd.prog x := List.forall_mem_cons.2 ⟨good40, List.forall_mem_nil _⟩
  refine ⟨⟨spec_ok (tab_ok.env hl) (tab.natl hl) Tryd.func39 (by kernel_rfl : Tryd.f39.body = some f39c) [3] (by kernel_rfl) ?_, _, Tryd.func39, by kernel_rfl, of_decide_eq_true (by kernel_rfl)⟩, Gm.Spec.of_natl _ _ _ _⟩
  intro ds outs h
  unfold q39 at h
  split at h
  · simp only [Option.some.injEq, Prod.mk.injEq] at h; obtain ⟨hg, h⟩ := h; cases h; exact f39_spec _ _ hg
  · cases h
/-! ### loop.example/g00465/spec.Fits -/
noncomputable def f19S0 (y0 : List NoteT) (y1 : Bool) (y2 : ByteArray) (y3 : Int) (y4 : Int) (y5 : ByteArray) (y6 : List ByteArray) : St := ⟨[(1, .c (.one (.ro .note y0))), (2, .c (.one (.pt 2 0))), (5, .c (.one (.v (.bool y1)))), (6, .c (.one (.v (.string y2)))), (7, .c (.one (.v (.int .i64 y3))))], [(2, ⟨.pick, [.v (.int .i64 y4), .v (.string y5), .ro .str y6]⟩)], []⟩
noncomputable def f19S1 (y0 : List NoteT) (y1 : Bool) (y2 : ByteArray) (y3 : Int) (y4 : Bool) (y5 : Int) (y6 : ByteArray) (y7 : List ByteArray) : St := ⟨[(1, .c (.one (.ro .note y0))), (2, .c (.one (.pt 2 0))), (5, .c (.one (.v (.bool y1)))), (6, .c (.one (.v (.string y2)))), (7, .c (.one (.v (.int .i64 y3)))), (15, .c (.one (.v (.bool y4))))], [(2, ⟨.pick, [.v (.int .i64 y5), .v (.string y6), .ro .str y7]⟩)], []⟩
noncomputable def f19c : Code := (Tryd.f19.body).getD .skip
def f19k : Nat → Kp := kat [⟨[1, 2], [], [], []⟩, ⟨[1, 2, 10], [], [], []⟩, ⟨[4], [], [], []⟩, ⟨[1, 2, 5], [], [], []⟩, ⟨[1, 2, 5, 6], [], [], []⟩, ⟨[1, 2, 5, 6, 7], [], [], []⟩, ⟨[1, 2, 5, 6, 7, 15], [], [], []⟩, ⟨[1, 2, 5, 6, 7], [], [], []⟩, ⟨[1, 2, 5, 6, 7, 25], [], [], []⟩, ⟨[1, 2, 5, 7], [], [], []⟩, ⟨[1, 2, 5, 6, 7], [], [], []⟩, ⟨[2, 5, 6, 32], [], [], []⟩, ⟨[2, 5, 6, 32, 33], [], [], []⟩, ⟨[2, 5, 6, 32, 33], [], [], []⟩, ⟨[4], [], [], []⟩, ⟨[2, 5, 6, 32, 43], [], [], []⟩, ⟨[2, 5, 6, 43], [], [], []⟩, ⟨[4], [], [], []⟩, ⟨[4], [], [], []⟩]
noncomputable def f19e : Env := tab.env [(21, s21), (42, s42)]
noncomputable def f19L0 {R : Type} (n : Nat) (x0 : Bool → ByteArray → Int → Bool → Option R) (vs1 : List NoteT) (vb2_0 : Int) (vb2_1 : ByteArray) (vb2_2 : List ByteArray) : Nat → Bool → ByteArray → Int → Option R
  | 0, _, _, _ => none
  | m + 1, vs5, vs6, vs7 =>
    (cond (decide (vs7 ≥ (0 : Int)))
   (cond ((decide ((0 : Int) ≤ vs7)) && (decide (vs7 < (vs1.length : Int))))
    (cond (sEq (NoteT.key (atI (t := .note) vs1 (Int.toNat vs7))) vb2_1)
     (cond ((decide ((0 : Int) ≤ vs7)) && (decide (vs7 < (vs1.length : Int))))
      (f19L0 n x0 vs1 vb2_0 vb2_1 vb2_2 m true (NoteT.text (atI (t := .note) vs1 (Int.toNat vs7))) (IntKind.wrap .i64 (vs7 - (1 : Int))))
      none)
     (f19L0 n x0 vs1 vb2_0 vb2_1 vb2_2 m vs5 vs6 (IntKind.wrap .i64 (vs7 - (1 : Int)))))
    none)
   (x0 vs5 vs6 vs7 (decide (vs7 ≥ (0 : Int)))))
theorem f19L0_b {R : Type} (n : Nat) (k' : Ex → St → Option R) (vs1 : List NoteT) (vs5 : Bool) (vs6 : ByteArray) (vs7 : Int) (vb2_0 : Int) (vb2_1 : ByteArray) (vb2_2 : List ByteArray) : ev f19e f19k n (cAt [1,1,1,1,0,1,0,0] f19c) (f19S0 vs1 vs5 vs6 vs7 vb2_0 vb2_1 vb2_2) k' =
    (cond (decide (vs7 ≥ (0 : Int)))
  (cond ((decide ((0 : Int) ≤ vs7)) && (decide (vs7 < (vs1.length : Int))))
   (cond (sEq (NoteT.key (atI (t := .note) vs1 (Int.toNat vs7))) vb2_1)
    (cond ((decide ((0 : Int) ≤ vs7)) && (decide (vs7 < (vs1.length : Int))))
     (k' .normal (f19S0 vs1 true (NoteT.text (atI (t := .note) vs1 (Int.toNat vs7))) (IntKind.wrap .i64 (vs7 - (1 : Int))) vb2_0 vb2_1 vb2_2))
     none)
    (k' .normal (f19S0 vs1 vs5 vs6 (IntKind.wrap .i64 (vs7 - (1 : Int))) vb2_0 vb2_1 vb2_2)))
   none)
  (k' (.exit 0) (f19S1 vs1 vs5 vs6 vs7 (decide (vs7 ≥ (0 : Int))) vb2_0 vb2_1 vb2_2))) := by kernel_rfl
theorem f19L0_eq {R : Type} (n : Nat) (k' : Ex → St → Option R) (vs1 : List NoteT) (vb2_0 : Int) (vb2_1 : ByteArray) (vb2_2 : List ByteArray) : ∀ (m : Nat) (vs5 : Bool) (vs6 : ByteArray) (vs7 : Int), iter (fun st k => ev f19e f19k n (cAt [1,1,1,1,0,1,0,0] f19c) st k) m (f19S0 vs1 vs5 vs6 vs7 vb2_0 vb2_1 vb2_2) k' = f19L0 n (fun (xvs5 : Bool) (xvs6 : ByteArray) (xvs7 : Int) (xvs15 : Bool) => k' (.exit 0) (f19S1 vs1 xvs5 xvs6 xvs7 xvs15 vb2_0 vb2_1 vb2_2)) vs1 vb2_0 vb2_1 vb2_2 m vs5 vs6 vs7 := by
  intro m; induction m with
  | zero => intros; rfl
  | succ m ih =>
    intro vs5 vs6 vs7
    simp only [iter]
    rw [f19L0_b]
    simp only [ih, f19L0]

noncomputable def f19K0 {R : Type} (n : Nat) (k' : Ex → St → Option R) : Ex → St → Option R := (blockK 0 (seqK f19e f19k n (cAt [1,1,1,1,1] f19c) k'))
theorem f19K0_x0 {R : Type} (n : Nat) (k : List Dt → Option R) (a0 : PickT) (a1 : List NoteT) (vs1 : List NoteT) (vb2_0 : Int) (vb2_1 : ByteArray) (vb2_2 : List ByteArray) (xvs5 : Bool) (xvs6 : ByteArray) (xvs7 : Int) (xvs15 : Bool) : f19K0 n (exitK f19e [.ro, .ro] [false] true [.tmp 4] [4] [.d .pick a0, .d (.sl .note) a1] k) (.exit 0) (f19S1 vs1 xvs5 xvs6 xvs7 xvs15 vb2_0 vb2_1 vb2_2) =
    (cond (vb2_0 == (1 : Int))
  (cond (vb2_0 == (1 : Int))
   (cond xvs5
    (cond ((fun (x : List ByteArray) (_ : ByteArray) => gLenW x) vb2_2 xvs6)
     (k [.d .bool (isIn vb2_2 xvs6)])
     none)
    (k [.d .bool false]))
   (cond (vb2_0 == (2 : Int))
    (cond (vb2_0 == (2 : Int))
     (cond (!xvs5)
      (k [.d .bool true])
      (cond ((fun (x : List ByteArray) (_ : ByteArray) => gLenW x) vb2_2 xvs6)
       (k [.d .bool (!(isIn vb2_2 xvs6))])
       none))
     (k [.d .bool (xvs5 == (vb2_0 == (5 : Int)))]))
    (cond (vb2_0 == (4 : Int))
     (cond (!xvs5)
      (k [.d .bool true])
      (cond ((fun (x : List ByteArray) (_ : ByteArray) => gLenW x) vb2_2 xvs6)
       (k [.d .bool (!(isIn vb2_2 xvs6))])
       none))
     (k [.d .bool (xvs5 == (vb2_0 == (5 : Int)))]))))
  (cond (vb2_0 == (3 : Int))
   (cond xvs5
    (cond ((fun (x : List ByteArray) (_ : ByteArray) => gLenW x) vb2_2 xvs6)
     (k [.d .bool (isIn vb2_2 xvs6)])
     none)
    (k [.d .bool false]))
   (cond (vb2_0 == (2 : Int))
    (cond (vb2_0 == (2 : Int))
     (cond (!xvs5)
      (k [.d .bool true])
      (cond ((fun (x : List ByteArray) (_ : ByteArray) => gLenW x) vb2_2 xvs6)
       (k [.d .bool (!(isIn vb2_2 xvs6))])
       none))
     (k [.d .bool (xvs5 == (vb2_0 == (5 : Int)))]))
    (cond (vb2_0 == (4 : Int))
     (cond (!xvs5)
      (k [.d .bool true])
      (cond ((fun (x : List ByteArray) (_ : ByteArray) => gLenW x) vb2_2 xvs6)
       (k [.d .bool (!(isIn vb2_2 xvs6))])
       none))
     (k [.d .bool (xvs5 == (vb2_0 == (5 : Int)))]))))) := by kernel_rfl

theorem f19_run {R : Type} (n : Nat) (k : List Dt → Option R) (a0 : PickT) (a1 : List NoteT) : evFn f19e f19k n f19c [.ro, .ro] [false] true [.tmp 4] [4] [.d .pick a0, .d (.sl .note) a1] k =
    (cond (okPick a0)
  (cond (!(pickOk a0))
   (k [.d .bool false])
   (f19L0 n (fun (xvs5 : Bool) (xvs6 : ByteArray) (xvs7 : Int) (xvs15 : Bool) =>
    (cond ((PickT.op a0) == (1 : Int))
     (cond ((PickT.op a0) == (1 : Int))
      (cond xvs5
       (cond ((fun (x : List ByteArray) (_ : ByteArray) => gLenW x) (PickT.vals a0) xvs6)
        (k [.d .bool (isIn (PickT.vals a0) xvs6)])
        none)
       (k [.d .bool false]))
      (cond ((PickT.op a0) == (2 : Int))
       (cond ((PickT.op a0) == (2 : Int))
        (cond (!xvs5)
         (k [.d .bool true])
         (cond ((fun (x : List ByteArray) (_ : ByteArray) => gLenW x) (PickT.vals a0) xvs6)
          (k [.d .bool (!(isIn (PickT.vals a0) xvs6))])
          none))
        (k [.d .bool (xvs5 == ((PickT.op a0) == (5 : Int)))]))
       (cond ((PickT.op a0) == (4 : Int))
        (cond (!xvs5)
         (k [.d .bool true])
         (cond ((fun (x : List ByteArray) (_ : ByteArray) => gLenW x) (PickT.vals a0) xvs6)
          (k [.d .bool (!(isIn (PickT.vals a0) xvs6))])
          none))
        (k [.d .bool (xvs5 == ((PickT.op a0) == (5 : Int)))]))))
     (cond ((PickT.op a0) == (3 : Int))
      (cond xvs5
       (cond ((fun (x : List ByteArray) (_ : ByteArray) => gLenW x) (PickT.vals a0) xvs6)
        (k [.d .bool (isIn (PickT.vals a0) xvs6)])
        none)
       (k [.d .bool false]))
      (cond ((PickT.op a0) == (2 : Int))
       (cond ((PickT.op a0) == (2 : Int))
        (cond (!xvs5)
         (k [.d .bool true])
         (cond ((fun (x : List ByteArray) (_ : ByteArray) => gLenW x) (PickT.vals a0) xvs6)
          (k [.d .bool (!(isIn (PickT.vals a0) xvs6))])
          none))
        (k [.d .bool (xvs5 == ((PickT.op a0) == (5 : Int)))]))
       (cond ((PickT.op a0) == (4 : Int))
        (cond (!xvs5)
         (k [.d .bool true])
         (cond ((fun (x : List ByteArray) (_ : ByteArray) => gLenW x) (PickT.vals a0) xvs6)
          (k [.d .bool (!(isIn (PickT.vals a0) xvs6))])
          none))
        (k [.d .bool (xvs5 == ((PickT.op a0) == (5 : Int)))])))))) a1 (PickT.op a0) (PickT.key a0) (PickT.vals a0) n false ByteArray.empty (IntKind.wrap .i64 ((a1.length : Int) - (1 : Int)))))
  none) := by
  refine Eq.trans (b := (cond (okPick a0)
  (cond (!(pickOk a0))
   (k [.d .bool false])
   (iter (fun st k => ev f19e f19k n (cAt [1,1,1,1,0,1,0,0] f19c) st k) n (f19S0 a1 false ByteArray.empty (IntKind.wrap .i64 ((a1.length : Int) - (1 : Int))) (PickT.op a0) (PickT.key a0) (PickT.vals a0)) (f19K0 n (exitK f19e [.ro, .ro] [false] true [.tmp 4] [4] [.d .pick a0, .d (.sl .note) a1] k))))
  none)) (by kernel_rfl) ?_
  simp only [f19L0_eq, f19K0_x0]
theorem f19_spec (a0 : PickT) (a1 : List NoteT) (hg : gFits a0 a1 = true) : ∃ keep rounds, ∀ {R : Type} (k : List Dt → Option R), evFn f19e keep rounds f19c [.ro, .ro] [false] true [.tmp 4] [4] [.d .pick a0, .d (.sl .note) a1] k = k [.d .bool (fits a0 a1)] := by
  simp only [gFits, Bool.and_eq_true] at hg
  obtain ⟨hp, hn⟩ := hg
  have hl := gLenW_le hn
  have hv : gLenW a0.vals = true := by simp only [okPick, okL, Bool.and_eq_true] at hp; exact hp.2.1
  refine ⟨f19k, a1.length + 1, fun {R} k => ?_⟩
  rw [f19_run]
  simp only [hp, cond_true]
  cases ho : pickOk a0 with
  | false => unfold fits; rw [ho]; rfl
  | true =>
    simp only [Bool.not_true, cond_false]
    rw [wrap_id (x := (a1.length : Int) - 1) (by omega) (by omega)]
    generalize hX : (fun (xvs5 : Bool) (xvs6 : ByteArray) (xvs7 : Int) (xvs15 : Bool) => _) = X
    refine Eq.trans (loop_down (xs := a1) (F := fun m i (a : Bool × ByteArray) => f19L0 (a1.length + 1) X a1 a0.op a0.key a0.vals m a.1 a.2 i) (f := fun a n => cond (noteIs n a0) (true, n.text) a) (good := fun a => X a.1 a.2 (-1) false)
      (fun m j a x hx => ?_) (fun m a => rfl) a1.length (a1.length + 1) (false, ByteArray.empty) (by omega) (by omega)) ?_
    · obtain ⟨h1, h0, hw, ht⟩ := idx (lt_of_get hx) (by omega)
      have hj := lt_of_get hx
      have hd : decide ((j : Int) ≥ (0 : Int)) = true := decide_eq_true (by omega)
      simp only [f19L0, hd, h1, h0, ht, atI_of (t := .note) hx, Bool.and_self, cond_true, wrap_id (x := (j : Int) - 1) (by omega) (by omega)]
      show cond (noteIs x a0) _ _ = _
      cases noteIs x a0 <;> rfl
    · rw [List.take_length, find_pair a0 a1, ← hX]
      have hf := find_any (fun n => noteIs n a0) a1
      show _ = k [.d .bool (fits a0 a1)]
      unfold fits among
      simp only [ho, hv, cond_true, Bool.true_and]
      cases hfi : a1.find? (fun n => noteIs n a0) with
      | none =>
        rw [hfi] at hf
        rw [← hf]
        simp only [Option.elim_none, Option.isSome_none]
        cases h1 : (a0.op == (1 : Int)) <;> cases h2 : (a0.op == (2 : Int)) <;> cases h3 : (a0.op == (3 : Int)) <;> cases h4 : (a0.op == (4 : Int)) <;> cases h5 : (a0.op == (5 : Int)) <;> first | (exfalso; simp only [beq_iff_eq] at h1 h2 h3 h4 h5; omega) | rfl
      | some y =>
        rw [hfi] at hf
        rw [← hf]
        simp only [Option.elim_some, Option.isSome_some]
        cases h1 : (a0.op == (1 : Int)) <;> cases h2 : (a0.op == (2 : Int)) <;> cases h3 : (a0.op == (3 : Int)) <;> cases h4 : (a0.op == (4 : Int)) <;> cases h5 : (a0.op == (5 : Int)) <;> first | (exfalso; simp only [beq_iff_eq] at h1 h2 h3 h4 h5; omega) | rfl

noncomputable def q19 : List Dt → Option (Bool × List Dt)
  | [.d .pick a0, .d (.sl .note) a1] => some ((gFits a0 a1), [.d .bool (fits a0 a1)])
  | _ => none
noncomputable def s19 : Gm.Spec := Gm.Spec.of [.ro, .ro] [false] true q19
theorem good19 : Gm.Good Tryd.prog (19, s19) := by
  have hl : ∀ x ∈ [(21, s21), (42, s42)], Gm.Good Tryd.prog x := List.forall_mem_cons.2 ⟨good21, List.forall_mem_cons.2 ⟨good42, List.forall_mem_nil _⟩⟩
  refine ⟨⟨spec_ok (tab_ok.env hl) (tab.natl hl) Tryd.func19 (by kernel_rfl : Tryd.f19.body = some f19c) [4] (by kernel_rfl) ?_, _, Tryd.func19, by kernel_rfl, of_decide_eq_true (by kernel_rfl)⟩, Gm.Spec.of_natl _ _ _ _⟩
  intro ds outs h
  unfold q19 at h
  split at h
  · simp only [Option.some.injEq, Prod.mk.injEq] at h; obtain ⟨hg, h⟩ := h; cases h; exact f19_spec _ _ hg
  · cases h
/-! ### loop.example/g00465/impl.Fits -/
noncomputable def f18c : Code := (Tryd.f18.body).getD .skip
def f18k : Nat → Kp := kat [⟨[1, 2], [], [], []⟩, ⟨[1, 2, 9], [], [], []⟩, ⟨[4], [], [], []⟩, ⟨[1, 2, 5], [], [], []⟩, ⟨[2, 5, 6], [], [], []⟩, ⟨[5, 6, 26], [], [], []⟩, ⟨[5, 6, 26, 27], [], [], []⟩, ⟨[5, 6, 26, 27], [], [], []⟩, ⟨[4], [], [], []⟩, ⟨[5, 6, 26, 31], [], [], []⟩, ⟨[5, 6, 26, 31], [], [], []⟩, ⟨[4], [], [], []⟩, ⟨[5, 36], [], [], []⟩, ⟨[4], [], [], []⟩, ⟨[4], [], [], []⟩]
noncomputable def f18e : Env := tab.env [(20, s20), (39, s39), (40, s40), (41, s41)]
theorem f18_run {R : Type} (n : Nat) (k : List Dt → Option R) (a0 : PickT) (a1 : List NoteT) : evFn f18e f18k n f18c [.ro, .ro] [false] true [.tmp 4] [4] [.d .pick a0, .d (.sl .note) a1] k =
    (cond (okPick a0)
  (cond (!(pickOk a0))
   (k [.d .bool false])
   (cond ((fun (x : List NoteT) (_ : PickT) => gLenW x) a1 a0)
    (cond (decide ((noteAt a1 a0) ≥ (0 : Int)))
     (cond ((decide ((0 : Int) ≤ (noteAt a1 a0))) && (decide ((noteAt a1 a0) < (a1.length : Int))))
      (cond ((fun (x : List ByteArray) (_ : ByteArray) => gLenW x) (PickT.vals a0) (NoteT.text (atI (t := .note) a1 (Int.toNat (noteAt a1 a0)))))
       (cond ((PickT.op a0) == (1 : Int))
        (cond ((PickT.op a0) == (1 : Int))
         (k [.d .bool (isIn (PickT.vals a0) (NoteT.text (atI (t := .note) a1 (Int.toNat (noteAt a1 a0)))))])
         (cond ((PickT.op a0) == (2 : Int))
          (cond ((PickT.op a0) == (2 : Int))
           (k [.d .bool (!(isIn (PickT.vals a0) (NoteT.text (atI (t := .note) a1 (Int.toNat (noteAt a1 a0))))))])
           (cond ((PickT.op a0) == (5 : Int))
            (k [.d .bool (decide ((noteAt a1 a0) ≥ (0 : Int)))])
            (k [.d .bool (decide ((noteAt a1 a0) < (0 : Int)))])))
          (cond ((PickT.op a0) == (4 : Int))
           (k [.d .bool (!(isIn (PickT.vals a0) (NoteT.text (atI (t := .note) a1 (Int.toNat (noteAt a1 a0))))))])
           (cond ((PickT.op a0) == (5 : Int))
            (k [.d .bool (decide ((noteAt a1 a0) ≥ (0 : Int)))])
            (k [.d .bool (decide ((noteAt a1 a0) < (0 : Int)))])))))
        (cond ((PickT.op a0) == (3 : Int))
         (k [.d .bool (isIn (PickT.vals a0) (NoteT.text (atI (t := .note) a1 (Int.toNat (noteAt a1 a0)))))])
         (cond ((PickT.op a0) == (2 : Int))
          (cond ((PickT.op a0) == (2 : Int))
           (k [.d .bool (!(isIn (PickT.vals a0) (NoteT.text (atI (t := .note) a1 (Int.toNat (noteAt a1 a0))))))])
           (cond ((PickT.op a0) == (5 : Int))
            (k [.d .bool (decide ((noteAt a1 a0) ≥ (0 : Int)))])
            (k [.d .bool (decide ((noteAt a1 a0) < (0 : Int)))])))
          (cond ((PickT.op a0) == (4 : Int))
           (k [.d .bool (!(isIn (PickT.vals a0) (NoteT.text (atI (t := .note) a1 (Int.toNat (noteAt a1 a0))))))])
           (cond ((PickT.op a0) == (5 : Int))
            (k [.d .bool (decide ((noteAt a1 a0) ≥ (0 : Int)))])
            (k [.d .bool (decide ((noteAt a1 a0) < (0 : Int)))]))))))
       none)
      none)
     (cond ((PickT.op a0) == (1 : Int))
      (cond ((PickT.op a0) == (1 : Int))
       (k [.d .bool false])
       (cond ((PickT.op a0) == (2 : Int))
        (cond ((PickT.op a0) == (2 : Int))
         (k [.d .bool true])
         (cond ((PickT.op a0) == (5 : Int))
          (k [.d .bool (decide ((noteAt a1 a0) ≥ (0 : Int)))])
          (k [.d .bool (decide ((noteAt a1 a0) < (0 : Int)))])))
        (cond ((PickT.op a0) == (4 : Int))
         (k [.d .bool true])
         (cond ((PickT.op a0) == (5 : Int))
          (k [.d .bool (decide ((noteAt a1 a0) ≥ (0 : Int)))])
          (k [.d .bool (decide ((noteAt a1 a0) < (0 : Int)))])))))
      (cond ((PickT.op a0) == (3 : Int))
       (k [.d .bool false])
       (cond ((PickT.op a0) == (2 : Int))
        (cond ((PickT.op a0) == (2 : Int))
         (k [.d .bool true])
         (cond ((PickT.op a0) == (5 : Int))
          (k [.d .bool (decide ((noteAt a1 a0) ≥ (0 : Int)))])
          (k [.d .bool (decide ((noteAt a1 a0) < (0 : Int)))])))
        (cond ((PickT.op a0) == (4 : Int))
         (k [.d .bool true])
         (cond ((PickT.op a0) == (5 : Int))
          (k [.d .bool (decide ((noteAt a1 a0) ≥ (0 : Int)))])
          (k [.d .bool (decide ((noteAt a1 a0) < (0 : Int)))])))))))
    none))
  none) := by kernel_rfl
theorem f18_spec (a0 : PickT) (a1 : List NoteT) (hg : gFits a0 a1 = true) : ∃ keep rounds, ∀ {R : Type} (k : List Dt → Option R), evFn f18e keep rounds f18c [.ro, .ro] [false] true [.tmp 4] [4] [.d .pick a0, .d (.sl .note) a1] k = k [.d .bool (fits a0 a1)] := by
  simp only [gFits, Bool.and_eq_true] at hg
  obtain ⟨hp, hn⟩ := hg
  have hl := gLenW_le hn
  have hv : gLenW a0.vals = true := by simp only [okPick, okL, Bool.and_eq_true] at hp; exact hp.2.1
  refine ⟨f18k, 0, fun {R} k => ?_⟩
  rw [f18_run]
  simp only [hp, hn, hv, cond_true]
  cases ho : pickOk a0 with
  | false => unfold fits; rw [ho]; rfl
  | true =>
    simp only [Bool.not_true, cond_false]
    show _ = k [.d .bool (fits a0 a1)]
    unfold fits among
    rcases findI_cases (t := .note) (fun n => noteIs n a0) a1 with ⟨h1, h2, h3⟩ | ⟨i, h1, hi, h2, h3, _⟩
    · have e : noteAt a1 a0 = -1 := h1
      rw [h2, h3, e]
      simp only [ho, Option.elim_none, Bool.true_and]
      cases h1 : (a0.op == (1 : Int)) <;> cases h2 : (a0.op == (2 : Int)) <;> cases h3 : (a0.op == (3 : Int)) <;> cases h4 : (a0.op == (4 : Int)) <;> cases h5 : (a0.op == (5 : Int)) <;> first | (exfalso; simp only [beq_iff_eq] at h1 h2 h3 h4 h5; omega) | rfl
    · have e : noteAt a1 a0 = (i : Int) := h1
      obtain ⟨h1, h0, hw, ht⟩ := idx hi (by omega)
      have hd : decide ((i : Int) ≥ (0 : Int)) = true := decide_eq_true (by omega)
      have hd2 : decide ((i : Int) < (0 : Int)) = false := decide_eq_false (by omega)
      rw [h2, h3, e]
      simp only [ho, hd, hd2, h1, h0, ht, Option.elim_some, Bool.true_and, Bool.and_self, cond_true]
      cases h1 : (a0.op == (1 : Int)) <;> cases h2 : (a0.op == (2 : Int)) <;> cases h3 : (a0.op == (3 : Int)) <;> cases h4 : (a0.op == (4 : Int)) <;> cases h5 : (a0.op == (5 : Int)) <;> first | (exfalso; simp only [beq_iff_eq] at h1 h2 h3 h4 h5; omega) | rfl

noncomputable def q18 : List Dt → Option (Bool × List Dt)
  | [.d .pick a0, .d (.sl .note) a1] => some ((gFits a0 a1), [.d .bool (fits a0 a1)])
  | _ => none
noncomputable def s18 : Gm.Spec := Gm.Spec.of [.ro, .ro] [false] true q18
theorem good18 : Gm.Good Tryd.prog (18, s18) := by
  have hl : ∀ x ∈ [(20, s20), (39, s39), (40, s40), (41, s41)], Gm.Good Tryd.prog x := List.forall_mem_cons.2 ⟨good20, List.forall_mem_cons.2 ⟨good39, List.forall_mem_cons.2 ⟨good40, List.forall_mem_cons.2 ⟨good41, List.forall_mem_nil _⟩⟩⟩⟩
  refine ⟨⟨spec_ok (tab_ok.env hl) (tab.natl hl) Tryd.func18 (by kernel_rfl : Tryd.f18.body = some f18c) [4] (by kernel_rfl) ?_, _, Tryd.func18, by kernel_rfl, of_decide_eq_true (by kernel_rfl)⟩, Gm.Spec.of_natl _ _ _ _⟩
  intro ds outs h
  unfold q18 at h
  split at h
  · simp only [Option.some.injEq, Prod.mk.injEq] at h; obtain ⟨hg, h⟩ := h; cases h; exact f18_spec _ _ hg
  · cases h
end Go.Proofs.YtklmnopgogcbhaaDoor
